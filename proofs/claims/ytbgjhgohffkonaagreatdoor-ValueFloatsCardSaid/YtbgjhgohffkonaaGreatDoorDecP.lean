/- The library's decimals of many digits, as plain functions: shifts to the right and to the left, and what holds of them. -/
import Derived.WalkKit
import GoSem.PinnedTables
namespace Go.Proofs.YtbgjhgohffkonaaGreatDoor

structure Dc where
  d : Nat → Nat
  nd : Nat
  dp : Int
  neg : Bool
  tr : Bool

def upd (d : Nat → Nat) (i v : Nat) : Nat → Nat := fun j => if j = i then v else d j
theorem upd_same (d : Nat → Nat) (i v : Nat) : upd d i v i = v := by simp [upd]
theorem upd_ne {d : Nat → Nat} {i v j : Nat} (h : j ≠ i) : upd d i v j = d j := by simp [upd, h]
def dg (d : Nat → Nat) (i : Nat) : Nat := d i - 48
/-- Digits below n. -/
def Dig (d : Nat → Nat) (n : Nat) : Prop := ∀ i, i < n → 48 ≤ d i ∧ d i ≤ 57
theorem Dig.dg {d : Nat → Nat} {n i : Nat} (h : Dig d n) (hi : i < n) : dg d i ≤ 9 ∧ d i = 48 + Go.Proofs.YtbgjhgohffkonaaGreatDoor.dg d i := by
  have := h i hi
  unfold Go.Proofs.YtbgjhgohffkonaaGreatDoor.dg
  omega
theorem Dig.upd {d : Nat → Nat} {n i v : Nat} (h : Dig d n) (hv : v ≤ 9) : Dig (upd d i (v + 48)) n := by
  intro j hj
  by_cases e : j = i
  · subst e; rw [upd_same]; omega
  · rw [upd_ne e]; exact h j hj
theorem Dig.upd_next {d : Nat → Nat} {n v : Nat} (h : Dig d n) (hv : v ≤ 9) : Dig (Go.Proofs.YtbgjhgohffkonaaGreatDoor.upd d n (v + 48)) (n + 1) := by
  intro j hj
  by_cases e : j = n
  · subst e; rw [upd_same]; omega
  · rw [upd_ne e]; exact h j (by omega)
theorem Dig.mono {d : Nat → Nat} {m n : Nat} (h : Dig d n) (hm : m ≤ n) : Dig d m := fun i hi => h i (by omega)
structure OkD (D : Dc) : Prop where
  le : D.nd ≤ 800
  dig : Dig D.d D.nd
  lead : 0 < D.nd → 49 ≤ D.d 0

def trimN (d : Nat → Nat) : Nat → Nat
  | 0 => 0
  | n + 1 => if d n = 48 then trimN d n else n + 1
theorem trimN_le (d : Nat → Nat) : ∀ n, trimN d n ≤ n
  | 0 => Nat.le_refl _
  | n + 1 => by
    unfold trimN
    split
    · exact Nat.le_succ_of_le (trimN_le d n)
    · exact Nat.le_refl _
theorem trimN_pos {d : Nat → Nat} (h : d 0 ≠ 48) : ∀ {n}, 0 < n → 0 < trimN d n
  | 0, hn => hn
  | 1, _ => by simp [trimN, h]
  | n + 2, _ => by
    unfold trimN
    split
    · exact trimN_pos h (Nat.succ_pos n)
    · exact Nat.succ_pos _
def trimD (D : Dc) : Dc := { D with nd := trimN D.d D.nd, dp := if trimN D.d D.nd = 0 then 0 else D.dp }
theorem trimD_ok {D : Dc} (h : OkD D) : OkD (trimD D) where
  le := Nat.le_trans (trimN_le _ _) h.le
  dig := h.dig.mono (trimN_le _ _)
  lead := fun hp => h.lead (Nat.lt_of_lt_of_le hp (trimN_le _ _))
theorem trimD_pos {D : Dc} (h : OkD D) (hp : 0 < D.nd) : 0 < (trimD D).nd ∧ (trimD D).dp = D.dp := by
  have h1 : 0 < trimN D.d D.nd := trimN_pos (by have := h.lead hp; omega) hp
  exact ⟨h1, by simp [trimD]; omega⟩

/-! To the right. -/
def rsB (k : Nat) : Nat → Nat → Nat → Nat × Nat
  | 0, n, r => (n, r)
  | f + 1, n, r => if n / 2 ^ k = 0 then rsB k f (n * 10) (r + 1) else (n, r)
def rsA (d : Nat → Nat) (k : Nat) : Nat → Nat → Nat → Nat × Nat
  | 0, n, r => rsB k k n r
  | f + 1, n, r => if n / 2 ^ k = 0 then rsA d k f (n * 10 + dg d r) (r + 1) else (n, r)
def rsC (k : Nat) : Nat → Nat → Nat → Nat → (Nat → Nat) → Nat × Nat × (Nat → Nat)
  | 0, n, _, w, d => (n, w, d)
  | f + 1, n, r, w, d => rsC k f (n % 2 ^ k * 10 + dg d r) (r + 1) (w + 1) (upd d w (n / 2 ^ k + 48))
def rsE (k : Nat) : Nat → Nat → Nat → (Nat → Nat) → Bool → Nat × (Nat → Nat) × Bool
  | 0, _, w, d, tr => (w, d, tr)
  | f + 1, n, w, d, tr =>
    if n = 0 then (w, d, tr)
    else if w < 800 then rsE k f (n % 2 ^ k * 10) (w + 1) (upd d w (n / 2 ^ k + 48)) tr
    else rsE k f (n % 2 ^ k * 10) w d (tr || decide (0 < n / 2 ^ k))
def rsP (k : Nat) (D : Dc) : Dc :=
  let a := rsA D.d k D.nd 0 0
  let c := rsC k (D.nd - a.2) a.1 a.2 0 D.d
  let e := rsE k (k + 1) c.1 c.2.1 c.2.2 D.tr
  trimD { D with d := e.2.1, nd := e.1, dp := D.dp - ((a.2 : Int) - 1), tr := e.2.2 }

theorem two_pow_pos (k : Nat) : 0 < 2 ^ k := Nat.pow_pos (by decide)
theorem div_zero_lt {n k : Nat} (h : n / 2 ^ k = 0) : n < 2 ^ k := by
  rcases Nat.div_eq_zero_iff.1 h with h | h
  · have := two_pow_pos k; omega
  · exact h
theorem rsB_spec (k : Nat) : ∀ (f n r : Nat), 0 < n → n < 10 * 2 ^ k → 2 ^ k ≤ n * 2 ^ f →
    2 ^ k ≤ (rsB k f n r).1 ∧ (rsB k f n r).1 < 10 * 2 ^ k ∧ r ≤ (rsB k f n r).2 ∧ (rsB k f n r).2 ≤ r + f
  | 0, n, r, _, h1, h2 => ⟨by simpa [rsB] using h2, h1, Nat.le_refl _, Nat.le_refl _⟩
  | f + 1, n, r, h0, h1, h2 => by
    unfold rsB
    split
    · rename_i hz
      have := div_zero_lt hz
      have hpow : n * 2 ^ (f + 1) = 2 * (n * 2 ^ f) := by rw [Nat.pow_succ]; rw [← Nat.mul_assoc, Nat.mul_comm]
      have h3 : n * 10 * 2 ^ f = 10 * (n * 2 ^ f) := by rw [Nat.mul_comm n 10, Nat.mul_assoc]
      have ih := rsB_spec k f (n * 10) (r + 1) (by omega) (by omega) (by rw [h3]; rw [hpow] at h2; omega)
      omega
    · rename_i hz
      have : 2 ^ k ≤ n := by
        rcases Nat.lt_or_ge n (2 ^ k) with h | h
        · exact absurd (Nat.div_eq_of_lt h) hz
        · exact h
      exact ⟨this, h1, Nat.le_refl _, by omega⟩
theorem rsA_spec {d : Nat → Nat} {nd k : Nat} (hd : Dig d nd) : ∀ (f n r : Nat), r + f = nd → (0 < n ∨ (r = 0 ∧ 0 < f ∧ 49 ≤ d 0)) → n < 10 * 2 ^ k →
    2 ^ k ≤ (rsA d k f n r).1 ∧ (rsA d k f n r).1 < 10 * 2 ^ k ∧ r ≤ (rsA d k f n r).2 ∧ (rsA d k f n r).2 ≤ nd + k
  | 0, n, r, hr, h0, h1 => by
    rcases h0 with h0 | ⟨_, h, _⟩
    · have := rsB_spec k k n r h0 h1 (Nat.le_mul_of_pos_left _ h0)
      unfold rsA
      omega
    · omega
  | f + 1, n, r, hr, h0, h1 => by
    have hdg := (hd.dg (i := r) (by omega)).1
    unfold rsA
    split
    · rename_i hz
      have hlt := div_zero_lt hz
      have ih := rsA_spec (k := k) hd f (n * 10 + dg d r) (r + 1) (by omega) (Or.inl (by
        rcases h0 with h0 | ⟨rfl, _, h⟩
        · omega
        · unfold dg; omega)) (by omega)
      omega
    · rename_i hz
      have : 2 ^ k ≤ n := by
        rcases Nat.lt_or_ge n (2 ^ k) with h | h
        · exact absurd (Nat.div_eq_of_lt h) hz
        · exact h
      exact ⟨this, h1, Nat.le_refl _, by omega⟩
/-- Just one digit is read first, and what is left of it; or more than one. -/
theorem rsA_first {D : Dc} (h : OkD D) (hp : 0 < D.nd) {k : Nat} (hk : 1 ≤ k) :
    (rsA D.d k D.nd 0 0).2 = 1 ∧ (rsA D.d k D.nd 0 0).1 = dg D.d 0 ∨ 2 ≤ (rsA D.d k D.nd 0 0).2 := by
  obtain ⟨m, hm⟩ : ∃ m, D.nd = m + 1 := ⟨D.nd - 1, by omega⟩
  have hd := h.dig
  have hl := h.lead hp
  rw [hm] at hd ⊢
  have h2 : (2 : Nat) ≤ 2 ^ k := Nat.le_trans (by decide) (Nat.pow_le_pow_right (by decide) hk)
  have e0 : rsA D.d k (m + 1) 0 0 = rsA D.d k m (dg D.d 0) 1 := by
    show (if 0 / 2 ^ k = 0 then rsA D.d k m (0 * 10 + dg D.d 0) (0 + 1) else (0, 0)) = _
    simp
  rw [e0]
  have hdg := hd.dg (i := 0) (by omega)
  by_cases hz : dg D.d 0 / 2 ^ k = 0
  · right
    have hlt := div_zero_lt hz
    cases m with
    | zero =>
      obtain ⟨j, rfl⟩ : ∃ j, k = j + 1 := ⟨k - 1, by omega⟩
      have e1 : rsA D.d (j + 1) 0 (dg D.d 0) 1 = rsB (j + 1) j (dg D.d 0 * 10) 2 := by
        show rsB (j + 1) (j + 1) (dg D.d 0) 1 = _
        rw [rsB, if_pos hz]
      rw [e1]
      have hge : ∀ f n r, r ≤ (rsB (j + 1) f n r).2 := by
        intro f
        induction f with
        | zero => intro n r; exact Nat.le_refl _
        | succ f ih =>
          intro n r
          unfold rsB
          split
          · exact Nat.le_of_succ_le (ih _ _)
          · exact Nat.le_refl _
      exact hge _ _ _
    | succ m =>
      have e1 : rsA D.d k (m + 1) (dg D.d 0) 1 = rsA D.d k m (dg D.d 0 * 10 + dg D.d 1) 2 := by
        rw [rsA, if_pos hz]
      rw [e1]
      have := rsA_spec hd (k := k) m (dg D.d 0 * 10 + dg D.d 1) 2 (by omega) (Or.inl (by unfold dg; omega)) (by have := (hd.dg (i := 1) (by omega)).1; omega)
      exact this.2.2.1
  · left
    cases m with
    | zero =>
      have e1 : rsA D.d k 0 (dg D.d 0) 1 = (dg D.d 0, 1) := by
        show rsB k k (dg D.d 0) 1 = _
        cases k with
        | zero => rfl
        | succ j => rw [rsB, if_neg hz]
      rw [e1]; exact ⟨rfl, rfl⟩
    | succ m =>
      have e1 : rsA D.d k (m + 1) (dg D.d 0) 1 = (dg D.d 0, 1) := by rw [rsA, if_neg hz]
      rw [e1]; exact ⟨rfl, rfl⟩
theorem rsC_spec {nd k : Nat} : ∀ (f n r w : Nat) (d : Nat → Nat), Dig d nd → f = nd - r → w ≤ r → n < 10 * 2 ^ k → nd ≤ 800 →
    (rsC k f n r w d).1 < 10 * 2 ^ k ∧ (rsC k f n r w d).2.1 = w + f ∧ Dig (rsC k f n r w d).2.2 nd ∧
    (∀ j, j < w → (rsC k f n r w d).2.2 j = d j) ∧ (0 < f → (rsC k f n r w d).2.2 w = n / 2 ^ k + 48) ∧ (f = 0 → (rsC k f n r w d).1 = n)
  | 0, n, r, w, d, hd, _, _, hn, _ => ⟨hn, rfl, hd, fun _ _ => rfl, fun h => absurd h (Nat.lt_irrefl _), fun _ => rfl⟩
  | f + 1, n, r, w, d, hd, hf, hw, hn, h8 => by
    have hdg := (hd.dg (i := r) (by omega)).1
    have hm : n % 2 ^ k < 2 ^ k := Nat.mod_lt _ (two_pow_pos k)
    have hq : n / 2 ^ k ≤ 9 := Nat.le_of_lt_succ (Nat.div_lt_of_lt_mul (by omega))
    have ih := rsC_spec (nd := nd) (k := k) f (n % 2 ^ k * 10 + dg d r) (r + 1) (w + 1) (upd d w (n / 2 ^ k + 48)) (hd.upd hq) (by omega) (by omega) (by omega) h8
    obtain ⟨i1, i2, i3, i4, i5, i6⟩ := ih
    unfold rsC
    refine ⟨i1, by omega, i3, fun j hj => ?_, fun _ => ?_, fun h => absurd h (Nat.succ_ne_zero _)⟩
    · rw [i4 j (by omega), upd_ne (by omega)]
    · rw [i4 w (by omega), upd_same]
theorem rsE_spec {k : Nat} : ∀ (f n w : Nat) (d : Nat → Nat) (tr : Bool), Dig d w → w ≤ 800 → n < 10 * 2 ^ k →
    (rsE k f n w d tr).1 ≤ 800 ∧ w ≤ (rsE k f n w d tr).1 ∧ Dig (rsE k f n w d tr).2.1 (rsE k f n w d tr).1 ∧
    (∀ j, j < w → (rsE k f n w d tr).2.1 j = d j) ∧ (0 < f → 0 < n → w < 800 → w < (rsE k f n w d tr).1 ∧ (rsE k f n w d tr).2.1 w = n / 2 ^ k + 48)
  | 0, n, w, d, tr, hd, h8, hn => ⟨h8, Nat.le_refl _, hd, fun _ _ => rfl, fun h => absurd h (Nat.lt_irrefl _)⟩
  | f + 1, n, w, d, tr, hd, h8, hn => by
    have hm : n % 2 ^ k < 2 ^ k := Nat.mod_lt _ (two_pow_pos k)
    have hq : n / 2 ^ k ≤ 9 := Nat.le_of_lt_succ (Nat.div_lt_of_lt_mul (by omega))
    unfold rsE
    split
    · rename_i h0
      exact ⟨h8, Nat.le_refl _, hd, fun _ _ => rfl, fun _ h => absurd h (by omega)⟩
    · split
      · rename_i h0 hw
        have ih := rsE_spec (k := k) f (n % 2 ^ k * 10) (w + 1) (upd d w (n / 2 ^ k + 48)) tr (hd.upd_next hq) (by omega) (by omega)
        obtain ⟨i1, i2, i3, i4, _⟩ := ih
        refine ⟨i1, by omega, i3, fun j hj => ?_, fun _ _ _ => ⟨by omega, ?_⟩⟩
        · rw [i4 j (by omega), upd_ne (by omega)]
        · rw [i4 w (by omega), upd_same]
      · rename_i h0 hw
        have ih := rsE_spec (k := k) f (n % 2 ^ k * 10) w d (tr || decide (0 < n / 2 ^ k)) hd h8 (by omega)
        obtain ⟨i1, i2, i3, i4, _⟩ := ih
        exact ⟨i1, i2, i3, i4, fun _ _ h => absurd h hw⟩
/-- A shift to the right: right again; its first digit, or its point, has come down. -/
theorem rsP_spec {D : Dc} (h : OkD D) (hp : 0 < D.nd) {k : Nat} (hk : 1 ≤ k) :
    OkD (rsP k D) ∧ 0 < (rsP k D).nd ∧ ((rsP k D).dp < D.dp ∨ ((rsP k D).dp = D.dp ∧ (rsP k D).d 0 < D.d 0)) := by
  have hA := rsA_spec h.dig (k := k) D.nd 0 0 (by omega) (Or.inr ⟨rfl, hp, h.lead hp⟩) (by have := two_pow_pos k; omega)
  have hF := rsA_first h hp hk
  obtain ⟨a, ha⟩ : ∃ a, rsA D.d k D.nd 0 0 = a := ⟨_, rfl⟩
  rw [ha] at hA hF
  obtain ⟨hA1, hA2, _, hA4⟩ := hA
  have hC := rsC_spec (nd := D.nd) (k := k) (D.nd - a.2) a.1 a.2 0 D.d h.dig rfl (Nat.zero_le _) hA2 h.le
  obtain ⟨c, hc⟩ : ∃ c, rsC k (D.nd - a.2) a.1 a.2 0 D.d = c := ⟨_, rfl⟩
  rw [hc] at hC
  obtain ⟨hC1, hC2, hC3, _, hC5, hC6⟩ := hC
  have hE := rsE_spec (k := k) (k + 1) c.1 c.2.1 c.2.2 D.tr (hC3.mono (by omega)) (by have := h.le; omega) hC1
  obtain ⟨e, he⟩ : ∃ e, rsE k (k + 1) c.1 c.2.1 c.2.2 D.tr = e := ⟨_, rfl⟩
  rw [he] at hE
  obtain ⟨hE1, hE2, hE3, hE4, hE5⟩ := hE
  have hq1 : 1 ≤ a.1 / 2 ^ k := (Nat.le_div_iff_mul_le (two_pow_pos k)).2 (by omega)
  have hlead : e.2.1 0 = a.1 / 2 ^ k + 48 ∧ 0 < e.1 := by
    rcases Nat.eq_zero_or_pos (D.nd - a.2) with hz | hz
    · have e1 : c.1 = a.1 := hC6 hz
      have e2 : c.2.1 = 0 := by omega
      have e3 : 0 < a.1 := by have := two_pow_pos k; omega
      rw [e1, e2] at hE5
      have := hE5 (by omega) e3 (by omega)
      exact ⟨this.2, this.1⟩
    · exact ⟨by rw [hE4 0 (by omega)]; exact hC5 hz, by omega⟩
  have hdef : rsP k D = trimD { D with d := e.2.1, nd := e.1, dp := D.dp - ((a.2 : Int) - 1), tr := e.2.2 } := by
    unfold rsP
    simp only [ha, hc, he]
  have hok : OkD { D with d := e.2.1, nd := e.1, dp := D.dp - ((a.2 : Int) - 1), tr := e.2.2 } := ⟨hE1, hE3, fun _ => by
    show 49 ≤ e.2.1 0
    rw [hlead.1]; omega⟩
  have ht := trimD_pos hok hlead.2
  rw [hdef]
  refine ⟨trimD_ok hok, ht.1, ?_⟩
  rw [ht.2]
  show D.dp - ((a.2 : Int) - 1) < D.dp ∨ (D.dp - ((a.2 : Int) - 1) = D.dp ∧ e.2.1 0 < D.d 0)
  rcases hF with ⟨h1, h2⟩ | h1
  · right
    refine ⟨by omega, ?_⟩
    rw [hlead.1, h2]
    have hdg := h.dig.dg (i := 0) hp
    have h2k : (2 : Nat) ≤ 2 ^ k := Nat.le_trans (by decide) (Nat.pow_le_pow_right (by decide) hk)
    have hl := h.lead hp
    have : dg D.d 0 / 2 ^ k < dg D.d 0 := Nat.div_lt_self (by unfold dg; omega) h2k
    omega
  · left; omega
end Go.Proofs.YtbgjhgohffkonaaGreatDoor

