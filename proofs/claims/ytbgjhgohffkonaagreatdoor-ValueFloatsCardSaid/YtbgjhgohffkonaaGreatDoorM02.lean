/- Decimals of many digits: a shift to the left as a plain function, and what holds of it. -/
import Derived.Test.YtbgjhgohffkonaaGreatDoorDecL
namespace Go.Proofs.YtbgjhgohffkonaaGreatDoor

def lsA (k : Nat) : Nat → Nat → Nat → (Nat → Nat) → Bool → Nat × (Nat → Nat) × Bool
  | 0, n, _, d, tr => (n, d, tr)
  | r + 1, n, w, d, tr =>
    if w - 1 < 800 then lsA k r ((n + dg d r * 2 ^ k) / 10) (w - 1) (upd d (w - 1) ((n + dg d r * 2 ^ k) % 10 + 48)) tr
    else lsA k r ((n + dg d r * 2 ^ k) / 10) (w - 1) d (tr || decide ((n + dg d r * 2 ^ k) % 10 ≠ 0))
def lsB : Nat → Nat → (Nat → Nat) → Bool → (Nat → Nat) × Bool
  | 0, _, d, tr => (d, tr)
  | w + 1, n, d, tr =>
    if n = 0 then (d, tr)
    else if w < 800 then lsB w (n / 10) (upd d w (n % 10 + 48)) tr
    else lsB w (n / 10) d (tr || decide (n % 10 ≠ 0))
def lsP (k : Nat) (D : Dc) : Dc :=
  let a := lsA k D.nd 0 (D.nd + dlt k D) D.d D.tr
  let b := lsB (dlt k D) a.1 a.2.1 a.2.2
  trimD { D with d := b.1, nd := if 800 ≤ D.nd + dlt k D then 800 else D.nd + dlt k D, dp := D.dp + dlt k D, tr := b.2 }

theorem valD_upd {d : Nat → Nat} {i v : Nat} : ∀ {n : Nat}, n ≤ i → valD (upd d i v) n = valD d n
  | 0, _ => rfl
  | n + 1, h => by
    rw [valD, valD, valD_upd (Nat.le_of_succ_le h)]
    unfold dg
    rw [upd_ne (by omega)]
theorem lsA_val (k : Nat) : ∀ (r n w : Nat) (d : Nat → Nat) (tr : Bool), r ≤ w → (lsA k r n w d tr).1 = (n + valD d r * 2 ^ k) / 10 ^ r
  | 0, n, w, d, tr, _ => by simp [lsA, valD]
  | r + 1, n, w, d, tr, h => by
    have e : ∀ d', valD d' r = valD d r → ((n + dg d r * 2 ^ k) / 10 + valD d' r * 2 ^ k) / 10 ^ r = (n + valD d (r + 1) * 2 ^ k) / 10 ^ (r + 1) := by
      intro d' hd'
      rw [hd', valD, Nat.pow_succ, Nat.mul_comm (10 ^ r) 10, ← Nat.div_div_eq_div_mul]
      congr 1
      rw [Nat.add_mul]
      have : valD d r * 10 * 2 ^ k = 10 * (valD d r * 2 ^ k) := by ac_rfl
      omega
    unfold lsA
    split
    · rw [lsA_val k r _ _ _ _ (by omega)]
      exact e _ (valD_upd (by omega))
    · rw [lsA_val k r _ _ _ _ (by omega)]
      exact e _ rfl
theorem lsA_dig (k : Nat) : ∀ (r n w : Nat) (d : Nat → Nat) (tr : Bool), r ≤ w →
    (∀ i, w - r ≤ i → i < w → i < 800 → 48 ≤ (lsA k r n w d tr).2.1 i ∧ (lsA k r n w d tr).2.1 i ≤ 57) ∧ (∀ i, w ≤ i → (lsA k r n w d tr).2.1 i = d i)
  | 0, n, w, d, tr, _ => ⟨fun i h1 h2 _ => by omega, fun _ _ => rfl⟩
  | r + 1, n, w, d, tr, h => by
    have hm : (n + dg d r * 2 ^ k) % 10 < 10 := Nat.mod_lt _ (by decide)
    unfold lsA
    split
    · rename_i hw
      obtain ⟨i1, i2⟩ := lsA_dig k r ((n + dg d r * 2 ^ k) / 10) (w - 1) (upd d (w - 1) ((n + dg d r * 2 ^ k) % 10 + 48)) tr (by omega)
      refine ⟨fun i h1 h2 h3 => ?_, fun i hi => ?_⟩
      · by_cases e : i = w - 1
        · rw [i2 i (by omega), e, upd_same]; omega
        · exact i1 i (by omega) (by omega) h3
      · rw [i2 i (by omega), upd_ne (by omega)]
    · rename_i hw
      obtain ⟨i1, i2⟩ := lsA_dig k r ((n + dg d r * 2 ^ k) / 10) (w - 1) d (tr || decide ((n + dg d r * 2 ^ k) % 10 ≠ 0)) (by omega)
      exact ⟨fun i h1 h2 h3 => i1 i (by omega) (by omega) h3, fun i hi => i2 i (by omega)⟩
theorem lsA_first (k : Nat) : ∀ (r n : Nat) (d : Nat → Nat) (tr : Bool), 0 < r → r ≤ 800 →
    ∃ m, dg d 0 * 2 ^ k ≤ m ∧ (lsA k r n r d tr).1 = m / 10 ∧ (lsA k r n r d tr).2.1 0 = m % 10 + 48
  | 0, _, _, _, h, _ => absurd h (Nat.lt_irrefl _)
  | 1, n, d, tr, _, _ => ⟨n + dg d 0 * 2 ^ k, Nat.le_add_left _ _, by simp [lsA], by simp [lsA, upd_same]⟩
  | r + 2, n, d, tr, _, h => by
    have ih := lsA_first k (r + 1) ((n + dg d (r + 1) * 2 ^ k) / 10) (upd d (r + 1) ((n + dg d (r + 1) * 2 ^ k) % 10 + 48)) tr (Nat.succ_pos _) (by omega)
    have e : dg (upd d (r + 1) ((n + dg d (r + 1) * 2 ^ k) % 10 + 48)) 0 = dg d 0 := by unfold dg; rw [upd_ne (by omega)]
    rw [e] at ih
    rw [lsA, if_pos (by omega)]
    exact ih
theorem lsB_spec : ∀ (w n : Nat) (d : Nat → Nat) (tr : Bool), 10 ^ w ≤ n → n < 10 ^ (w + 1) → w < 800 →
    (∀ i, i ≤ w → 48 ≤ (lsB (w + 1) n d tr).1 i ∧ (lsB (w + 1) n d tr).1 i ≤ 57) ∧ 49 ≤ (lsB (w + 1) n d tr).1 0 ∧ (∀ i, w < i → (lsB (w + 1) n d tr).1 i = d i)
  | 0, n, d, tr, h1, h2, _ => by
    have h3 : n ≠ 0 := by simp at h1; omega
    have h4 : n < 10 := by simpa using h2
    have e : (lsB 1 n d tr).1 = upd d 0 (n % 10 + 48) := by simp [lsB, h3]
    rw [e]
    refine ⟨fun i hi => ?_, ?_, fun i hi => upd_ne (by omega)⟩
    · obtain rfl : i = 0 := by omega
      rw [upd_same]; omega
    · rw [upd_same]; omega
  | w + 1, n, d, tr, h1, h2, hw => by
    have hp : 0 < 10 ^ (w + 1) := Nat.pow_pos (by decide)
    have h3 : n ≠ 0 := by omega
    have e : lsB (w + 1 + 1) n d tr = lsB (w + 1) (n / 10) (upd d (w + 1) (n % 10 + 48)) tr := by rw [lsB, if_neg h3, if_pos (by omega)]
    rw [e]
    have g1 : 10 ^ w ≤ n / 10 := by rw [Nat.le_div_iff_mul_le (by decide), ← Nat.pow_succ]; exact h1
    have g2 : n / 10 < 10 ^ (w + 1) := by rw [Nat.div_lt_iff_lt_mul (by decide), ← Nat.pow_succ]; exact h2
    obtain ⟨i1, i2, i3⟩ := lsB_spec w (n / 10) (upd d (w + 1) (n % 10 + 48)) tr g1 g2 (by omega)
    refine ⟨fun i hi => ?_, i2, fun i hi => ?_⟩
    · by_cases e : i = w + 1
      · rw [i3 i (by omega), e, upd_same]; omega
      · exact i1 i (by omega)
    · rw [i3 i (by omega), upd_ne (by omega)]
theorem dlt_le {k : Nat} (h1 : 1 ≤ k) (h2 : k ≤ 60) (D : Dc) : dlt k D ≤ 60 := by
  obtain ⟨_, _, c2, _, c4, _, _⟩ := cheat_ok h1 h2
  have hl : 1 ≤ (cheat k).2.length := by
    have : ∀ k : Fin 60, decide (1 ≤ (cheat (k.val + 1)).2.length) = true := by decide +kernel
    have := this ⟨k - 1, by omega⟩
    rw [show k - 1 + 1 = k by omega] at this
    simpa using this
  unfold dlt
  split <;> omega
/-- What is above the point when all digits are gone over: so many digits, just. -/
theorem lsA_end {D : Dc} (h : OkD D) (hp : 0 < D.nd) {k : Nat} (h1 : 1 ≤ k) (h2 : k ≤ 60) :
    (lsA k D.nd 0 (D.nd + dlt k D) D.d D.tr).1 < 10 ^ dlt k D ∧ (0 < dlt k D → 10 ^ (dlt k D - 1) ≤ (lsA k D.nd 0 (D.nd + dlt k D) D.d D.tr).1) := by
  obtain ⟨j1, j2⟩ := dlt_just h hp h1 h2
  have hp10 : ∀ m, 0 < 10 ^ m := fun m => Nat.pow_pos (by decide)
  rw [lsA_val k _ _ _ _ _ (Nat.le_add_right _ _), Nat.zero_add]
  constructor
  · rw [Nat.div_lt_iff_lt_mul (hp10 _), Nat.mul_comm (10 ^ dlt k D), ← Nat.pow_add]
    exact j1
  · intro hd
    rw [Nat.le_div_iff_mul_le (hp10 _), ← Nat.pow_add]
    obtain ⟨e, he⟩ : ∃ e, dlt k D = e + 1 := ⟨dlt k D - 1, by omega⟩
    rw [he] at j2 ⊢
    rw [← Nat.add_assoc, Nat.pow_succ] at j2
    rw [Nat.add_sub_cancel, Nat.add_comm e]
    omega
/-- A shift to the left: right again; its point, or its first digit, has gone up. -/
theorem lsP_spec {D : Dc} (h : OkD D) (hp : 0 < D.nd) {k : Nat} (h1 : 1 ≤ k) (h2 : k ≤ 60) :
    OkD (lsP k D) ∧ 0 < (lsP k D).nd ∧ (D.dp < (lsP k D).dp ∨ ((lsP k D).dp = D.dp ∧ D.d 0 < (lsP k D).d 0)) := by
  obtain ⟨e1, e2⟩ := lsA_end h hp h1 h2
  have hdl := dlt_le h1 h2 D
  obtain ⟨g1, g2⟩ := lsA_dig k D.nd 0 (D.nd + dlt k D) D.d D.tr (Nat.le_add_right _ _)
  have g3 := lsA_first k D.nd 0 D.d D.tr hp h.le
  have hdef : lsP k D = trimD { D with d := (lsB (dlt k D) (lsA k D.nd 0 (D.nd + dlt k D) D.d D.tr).1 (lsA k D.nd 0 (D.nd + dlt k D) D.d D.tr).2.1 (lsA k D.nd 0 (D.nd + dlt k D) D.d D.tr).2.2).1, nd := if 800 ≤ D.nd + dlt k D then 800 else D.nd + dlt k D, dp := D.dp + dlt k D, tr := (lsB (dlt k D) (lsA k D.nd 0 (D.nd + dlt k D) D.d D.tr).1 (lsA k D.nd 0 (D.nd + dlt k D) D.d D.tr).2.1 (lsA k D.nd 0 (D.nd + dlt k D) D.d D.tr).2.2).2 } := rfl
  rw [hdef]
  obtain ⟨x, hx⟩ : ∃ x, dlt k D = x := ⟨_, rfl⟩
  simp only [hx] at e1 e2 hdl g1 g2 g3 ⊢
  obtain ⟨a, ha⟩ : ∃ a, lsA k D.nd 0 (D.nd + x) D.d D.tr = a := ⟨_, rfl⟩
  simp only [ha] at e1 e2 g1 g2 g3 ⊢
  have hl := h.lead hp
  cases x with
  | zero =>
    rw [Nat.add_zero] at ha
    rw [ha] at g3
    obtain ⟨m, m1, m2, m3⟩ := g3
    have hm : m < 10 := by
      rw [m2] at e1
      simp at e1
      omega
    have h2k : 2 ≤ 2 ^ k := Nat.le_trans (by decide) (Nat.pow_le_pow_right (by decide) h1)
    have hd0 : 1 ≤ dg D.d 0 := by unfold dg; omega
    have hm2 : dg D.d 0 * 2 ≤ m := Nat.le_trans (Nat.mul_le_mul_left _ h2k) m1
    have hlead : D.d 0 < a.2.1 0 := by rw [m3]; unfold dg at hm2; omega
    have hok : OkD { D with d := (lsB 0 a.1 a.2.1 a.2.2).1, nd := if 800 ≤ D.nd + 0 then 800 else D.nd + 0, dp := D.dp + ((0 : Nat) : Int), tr := (lsB 0 a.1 a.2.1 a.2.2).2 } := by
      refine ⟨?_, fun i hi => ?_, fun _ => ?_⟩
      · show (if 800 ≤ D.nd + 0 then 800 else D.nd + 0) ≤ 800
        split <;> omega
      · have hi' : i < (if 800 ≤ D.nd + 0 then 800 else D.nd + 0) := hi
        have hle := h.le
        exact g1 i (by omega) (by split at hi' <;> omega) (by split at hi' <;> omega)
      · show 49 ≤ a.2.1 0
        omega
    have hpos : 0 < (if 800 ≤ D.nd + 0 then 800 else D.nd + 0) := by split <;> omega
    have ht := trimD_pos hok hpos
    refine ⟨trimD_ok hok, ht.1, Or.inr ⟨?_, hlead⟩⟩
    rw [ht.2]
    show D.dp + ((0 : Nat) : Int) = D.dp
    omega
  | succ x =>
    have e3 := e2 (Nat.succ_pos _)
    rw [Nat.add_sub_cancel] at e3
    obtain ⟨b1, b2, b3⟩ := lsB_spec x a.1 a.2.1 a.2.2 e3 e1 (by omega)
    have hok : OkD { D with d := (lsB (x + 1) a.1 a.2.1 a.2.2).1, nd := if 800 ≤ D.nd + (x + 1) then 800 else D.nd + (x + 1), dp := D.dp + ((x + 1 : Nat) : Int), tr := (lsB (x + 1) a.1 a.2.1 a.2.2).2 } := by
      refine ⟨?_, fun i hi => ?_, fun _ => b2⟩
      · show (if 800 ≤ D.nd + (x + 1) then 800 else D.nd + (x + 1)) ≤ 800
        split <;> omega
      · have hi' : i < (if 800 ≤ D.nd + (x + 1) then 800 else D.nd + (x + 1)) := hi
        show 48 ≤ (lsB (x + 1) a.1 a.2.1 a.2.2).1 i ∧ (lsB (x + 1) a.1 a.2.1 a.2.2).1 i ≤ 57
        by_cases hix : i ≤ x
        · exact b1 i hix
        · rw [b3 i (by omega)]
          exact g1 i (by omega) (by split at hi' <;> omega) (by split at hi' <;> omega)
    have hpos : 0 < (if 800 ≤ D.nd + (x + 1) then 800 else D.nd + (x + 1)) := by split <;> omega
    have ht := trimD_pos hok hpos
    refine ⟨trimD_ok hok, ht.1, Or.inl ?_⟩
    rw [ht.2]
    show D.dp < D.dp + ((x + 1 : Nat) : Int)
    omega
end Go.Proofs.YtbgjhgohffkonaaGreatDoor

/- Decimals of many digits: the way to a float's bits, as plain functions. -/
namespace Go.Proofs.YtbgjhgohffkonaaGreatDoor

def pwt (i : Nat) : Nat := ([1, 3, 6, 9, 13, 16, 19, 23, 26] : List Nat)[i]?.getD 27
theorem pwt_le (i : Nat) : 1 ≤ pwt i ∧ pwt i ≤ 27 := by
  rcases Nat.lt_or_ge i 9 with h | h
  · have : ∀ i : Fin 9, 1 ≤ pwt i.val ∧ pwt i.val ≤ 27 := by decide
    exact this ⟨i, h⟩
  · unfold pwt
    rw [List.getElem?_eq_none (by simpa using h)]
    decide
def fbA : Nat → Dc → Int → Dc × Int
  | 0, D, e => (D, e)
  | f + 1, D, e => if 0 < D.dp then fbA f (rsP (pwt D.dp.toNat) D) (e + pwt D.dp.toNat) else (D, e)
def fbB : Nat → Dc → Int → Dc × Int
  | 0, D, e => (D, e)
  | f + 1, D, e => if D.dp < 0 ∨ D.dp = 0 ∧ D.d 0 < 53 then fbB f (lsP (pwt (-D.dp).toNat) D) (e - pwt (-D.dp).toNat) else (D, e)
/-- How many rounds to the right, to the left, are still to come at most. -/
def muA (D : Dc) : Nat := D.dp.toNat * 10 + (D.d 0 - 48)
def muB (D : Dc) : Nat := if 0 < D.dp then 0 else (-D.dp).toNat * 10 + (57 - D.d 0) + 1
theorem muA_lt {D : Dc} (h : OkD D) (hp : 0 < D.nd) (hd : 0 < D.dp) : muA (rsP (pwt D.dp.toNat) D) < muA D := by
  obtain ⟨h1, h2, h3⟩ := rsP_spec h hp (pwt_le D.dp.toNat).1
  have h4 := (h1.dig 0 h2).2
  have h5 := (h1.dig 0 h2).1
  unfold muA
  omega
theorem muB_lt {D : Dc} (h : OkD D) (hp : 0 < D.nd) (hd : D.dp < 0 ∨ D.dp = 0 ∧ D.d 0 < 53) : muB (lsP (pwt (-D.dp).toNat) D) < muB D := by
  obtain ⟨h1, h2, h3⟩ := lsP_spec h hp (pwt_le (-D.dp).toNat).1 (by have := (pwt_le (-D.dp).toNat).2; omega)
  have h4 := h1.lead h2
  have h5 := h.lead hp
  have h6 := (h1.dig 0 h2).2
  have h7 := (h.dig 0 hp).2
  unfold muB
  split <;> split <;> omega
def shR (m : Nat) (D : Dc) : Dc := if 60 < m then shR (m - 60) (rsP 60 D) else rsP m D
termination_by m
def shL (m : Nat) (D : Dc) : Dc := if 60 < m then shL (m - 60) (lsP 60 D) else lsP m D
termination_by m
def shP (k : Int) (D : Dc) : Dc := if D.nd = 0 then D else if 0 < k then shL k.toNat D else if k < 0 then shR (-k).toNat D else D
theorem shR_ok : ∀ (m : Nat) {D : Dc}, 1 ≤ m → OkD D → 0 < D.nd → OkD (shR m D) ∧ 0 < (shR m D).nd := by
  intro m
  induction m using Nat.strongRecOn with
  | ind m ih =>
    intro D hm h hp
    rw [shR]
    split
    · obtain ⟨h1, h2, _⟩ := rsP_spec h hp (k := 60) (by decide)
      exact ih (m - 60) (by omega) (by omega) h1 h2
    · obtain ⟨h1, h2, _⟩ := rsP_spec h hp hm
      exact ⟨h1, h2⟩
theorem shL_ok : ∀ (m : Nat) {D : Dc}, 1 ≤ m → OkD D → 0 < D.nd → OkD (shL m D) ∧ 0 < (shL m D).nd := by
  intro m
  induction m using Nat.strongRecOn with
  | ind m ih =>
    intro D hm h hp
    rw [shL]
    split
    · obtain ⟨h1, h2, _⟩ := lsP_spec h hp (k := 60) (by decide) (by decide)
      exact ih (m - 60) (by omega) (by omega) h1 h2
    · obtain ⟨h1, h2, _⟩ := lsP_spec h hp hm (by omega)
      exact ⟨h1, h2⟩
theorem shP_ok (k : Int) {D : Dc} (h : OkD D) (hp : 0 < D.nd) : OkD (shP k D) ∧ 0 < (shP k D).nd := by
  unfold shP
  rw [if_neg (by omega)]
  split
  · exact shL_ok _ (by omega) h hp
  · split
    · exact shR_ok _ (by omega) h hp
    · exact ⟨h, hp⟩
theorem fbA_ok : ∀ (f : Nat) {D : Dc} (e : Int), OkD D → 0 < D.nd → OkD (fbA f D e).1 ∧ 0 < (fbA f D e).1.nd
  | 0, _, _, h, hp => ⟨h, hp⟩
  | f + 1, D, e, h, hp => by
    unfold fbA
    split
    · obtain ⟨h1, h2, _⟩ := rsP_spec h hp (pwt_le D.dp.toNat).1
      exact fbA_ok f _ h1 h2
    · exact ⟨h, hp⟩
theorem fbB_ok : ∀ (f : Nat) {D : Dc} (e : Int), OkD D → 0 < D.nd → OkD (fbB f D e).1 ∧ 0 < (fbB f D e).1.nd
  | 0, _, _, h, hp => ⟨h, hp⟩
  | f + 1, D, e, h, hp => by
    unfold fbB
    split
    · obtain ⟨h1, h2, _⟩ := lsP_spec h hp (pwt_le (-D.dp).toNat).1 (by have := (pwt_le (-D.dp).toNat).2; omega)
      exact fbB_ok f _ h1 h2
    · exact ⟨h, hp⟩
/-- Rounded up at place nd? -/
def ruB (D : Dc) (nd : Int) : Bool :=
  if nd < 0 ∨ (D.nd : Int) ≤ nd then false
  else if D.d nd.toNat = 53 ∧ nd.toNat + 1 = D.nd then (D.tr || (decide (0 < nd) && decide ((D.d (nd.toNat - 1) - 48) % 2 ≠ 0)))
  else decide (53 ≤ D.d nd.toNat)
def riA (d : Nat → Nat) : Nat → Nat
  | 0 => 0
  | i + 1 => (riA d i * 10 + dg d i) % 18446744073709551616
def riB : Nat → Nat → Nat
  | 0, n => n
  | c + 1, n => riB c (n * 10 % 18446744073709551616)
def riP (D : Dc) : Nat :=
  if 20 < D.dp then 18446744073709551615
  else (riB (D.dp.toNat - min D.dp.toNat D.nd) (riA D.d (min D.dp.toNat D.nd)) + if ruB D D.dp = true then 1 else 0) % 18446744073709551616
theorem riA_lt (d : Nat → Nat) : ∀ i, riA d i < 18446744073709551616
  | 0 => by simp [riA]
  | i + 1 => Nat.mod_lt _ (by decide)
theorem riB_lt : ∀ (c : Nat) {n : Nat}, n < 18446744073709551616 → riB c n < 18446744073709551616
  | 0, _, h => h
  | c + 1, _, _ => riB_lt c (Nat.mod_lt _ (by decide))
theorem riB_succ : ∀ (c n : Nat), riB (c + 1) n = riB c n * 10 % 18446744073709551616
  | 0, _ => rfl
  | c + 1, n => by
    show riB (c + 1) (n * 10 % 18446744073709551616) = _
    rw [riB_succ c]
    rfl
end Go.Proofs.YtbgjhgohffkonaaGreatDoor

/- Floats that are no NaN, and how the operations keep them so. -/
namespace Go.Proofs.YtbgjhgohffkonaaGreatDoor
open Ieee

abbrev F64 : Format := FloatKind.f64.format
theorem f64_inf : F64.infRung = 9218868437227405312 := rfl
theorem f64_sign : F64.signWeight = 9223372036854775808 := rfl
theorem f64_binade : F64.binade = 4503599627370496 := rfl
/-- What is no NaN, and not below nought. -/
def Fin' (b : Nat) : Prop := b ≤ 9218868437227405312
theorem word_false (f : Format) (r : Nat) : f.word false r = r := rfl
theorem nearest_le (f : Format) (m : Nat) (p : Int) : f.nearest false m p ≤ f.infRung := by
  unfold Format.nearest
  split
  · rw [word_false]
    exact Nat.zero_le _
  · rw [word_false]
    exact Nat.min_le_right _ _
theorem nearest_fin (m : Nat) (p : Int) : Fin' (F64.nearest false m p) := by
  have h := nearest_le F64 m p
  rw [f64_inf] at h
  exact h
theorem read_fin {b : Nat} (h : Fin' b) : (∃ m p, F64.read b = .number false m p) ∨ F64.read b = .infinity false := by
  unfold Fin' at h
  unfold Format.read
  rw [f64_sign, f64_binade, f64_inf]
  have e1 : (b / 9223372036854775808 % 2 == 1) = false := by simp; omega
  have e2 : b % 9223372036854775808 = b := Nat.mod_eq_of_lt (by omega)
  simp only [e1, e2]
  split
  · exact Or.inl ⟨_, _, rfl⟩
  · split
    · exact Or.inl ⟨_, _, rfl⟩
    · rw [if_pos (by omega)]
      exact Or.inr rfl
theorem order_self {b : Nat} (h : Fin' b) : F64.order b b = some .eq := by
  unfold Format.order
  rcases read_fin h with ⟨m, p, e⟩ | e
  · rw [e]
    simp [Datum.order]
  · rw [e]
    rfl
theorem write_fin {d : Datum} (h : (∃ m p, d = .number false m p) ∨ d = .infinity false) : Fin' (F64.write d) := by
  rcases h with ⟨m, p, rfl⟩ | rfl
  · exact nearest_fin m p
  · have e : F64.write (.infinity false) = F64.infRung := rfl
    rw [e, f64_inf]
    exact Nat.le_refl _
/-- Divided by a number that is not nought. -/
theorem div_fin {a b m : Nat} {p : Int} (h : Fin' a) (hb : F64.read b = .number false m p) (hm : m ≠ 0) : ∃ r, F64.div a b = some r ∧ Fin' r := by
  unfold Format.div
  rw [hb]
  rcases read_fin h with ⟨m', p', e⟩ | e
  · rw [e]
    simp only [Datum.quotient]
    rw [if_neg hm]
    exact ⟨_, rfl, write_fin (Or.inl ⟨_, _, rfl⟩)⟩
  · rw [e]
    exact ⟨_, rfl, write_fin (Or.inr rfl)⟩
theorem mul_fin {a b m : Nat} {p : Int} (h : Fin' a) (hb : F64.read b = .number false m p) (hm : m ≠ 0) : ∃ r, F64.mul a b = some r ∧ Fin' r := by
  unfold Format.mul
  rw [hb]
  rcases read_fin h with ⟨m', p', e⟩ | e
  · rw [e]
    exact ⟨_, rfl, write_fin (Or.inl ⟨_, _, rfl⟩)⟩
  · rw [e]
    simp only [Datum.product]
    rw [if_neg hm]
    exact ⟨_, rfl, write_fin (Or.inr rfl)⟩
end Go.Proofs.YtbgjhgohffkonaaGreatDoor

