/- Gj: what is used of them. -/
import Derived.WalkKit
import GoSem.PinnedTables
import Derived.Test.YtkoghgnjjfnamaaGreatDoorGa
namespace Go.Proofs.YtkoghgnjjfnamaaGreatDoor
structure Dc where
 d : Nat → Nat
 nd : Nat
 dp : Int
 neg : Bool
 tr : Bool
def upd (d : Nat → Nat) (i v : Nat) : Nat → Nat := fun j => if j = i then v else d j
theorem upd_same (d : Nat → Nat) (i v : Nat) : upd d i v i = v := by simp [upd]
theorem upd_ne {d : Nat → Nat} {i v j : Nat} (h : j ≠ i) : upd d i v j = d j := by simp [upd, h]
def dg (d : Nat → Nat) (i : Nat) : Nat := d i - 48
def Dig (d : Nat → Nat) (n : Nat) : Prop := ∀ i, i < n → 48 ≤ d i ∧ d i ≤ 57
theorem Dig.dg {d : Nat → Nat} {n i : Nat} (h : Dig d n) (hi : i < n) : dg d i ≤ 9 ∧ d i = 48 + Go.Proofs.YtkoghgnjjfnamaaGreatDoor.dg d i := by
 have := h i hi; unfold Go.Proofs.YtkoghgnjjfnamaaGreatDoor.dg; omega
theorem Dig.upd {d : Nat → Nat} {n i v : Nat} (h : Dig d n) (hv : v ≤ 9) : Dig (upd d i (v + 48)) n := by
 intro j hj; by_cases e : j = i
 · subst e; rw [upd_same]; omega
 · rw [upd_ne e]; exact h j hj
theorem Dig.upd_next {d : Nat → Nat} {n v : Nat} (h : Dig d n) (hv : v ≤ 9) : Dig (Go.Proofs.YtkoghgnjjfnamaaGreatDoor.upd d n (v + 48)) (n + 1) := by
 intro j hj; by_cases e : j = n
 · subst e; rw [upd_same]; omega
 · rw [upd_ne e]; exact h j (by omega)
theorem Dig.mono {d : Nat → Nat} {m n : Nat} (h : Dig d n) (hm : m ≤ n) : Dig d m := fun i hi => h i (by omega)
structure OkD (D : Dc) : Prop where
 le : D.nd ≤ 800
 dig : Dig D.d D.nd
 lead : 0 < D.nd → 49 ≤ D.d 0
def trimN (d : Nat → Nat) : Nat → Nat
 | 0 => 0
 | n + 1 => if d n = 48 then trimN d n else n + 1
theorem trimN_le (d : Nat → Nat) : ∀ n, trimN d n ≤ n
 | 0 => Nat.le_refl _
 | n + 1 => by
   unfold trimN; split
   · exact Nat.le_succ_of_le (trimN_le d n)
   · exact Nat.le_refl _
theorem trimN_pos {d : Nat → Nat} (h : d 0 ≠ 48) : ∀ {n}, 0 < n → 0 < trimN d n
 | 0, hn => hn
 | 1, _ => by simp [trimN, h]
 | n + 2, _ => by
   unfold trimN; split
   · exact trimN_pos h (Nat.succ_pos n)
   · exact Nat.succ_pos _
def trimD (D : Dc) : Dc := { D with nd := trimN D.d D.nd, dp := if trimN D.d D.nd = 0 then 0 else D.dp }
theorem trimD_ok {D : Dc} (h : OkD D) : OkD (trimD D) where
 le := Nat.le_trans (trimN_le _ _) h.le
 dig := h.dig.mono (trimN_le _ _)
 lead := fun hp => h.lead (Nat.lt_of_lt_of_le hp (trimN_le _ _))
theorem trimD_pos {D : Dc} (h : OkD D) (hp : 0 < D.nd) : 0 < (trimD D).nd ∧ (trimD D).dp = D.dp := by
 have h1 : 0 < trimN D.d D.nd := trimN_pos (by have := h.lead hp; omega) hp; exact ⟨h1, by simp [trimD]; omega⟩
def rsB (k : Nat) : Nat → Nat → Nat → Nat × Nat
 | 0, n, r => (n, r)
 | f + 1, n, r => if n / 2 ^ k = 0 then rsB k f (n * 10) (r + 1) else (n, r)
def rsA (d : Nat → Nat) (k : Nat) : Nat → Nat → Nat → Nat × Nat
 | 0, n, r => rsB k k n r
 | f + 1, n, r => if n / 2 ^ k = 0 then rsA d k f (n * 10 + dg d r) (r + 1) else (n, r)
def rsC (k : Nat) : Nat → Nat → Nat → Nat → (Nat → Nat) → Nat × Nat × (Nat → Nat)
 | 0, n, _, w, d => (n, w, d)
 | f + 1, n, r, w, d => rsC k f (n % 2 ^ k * 10 + dg d r) (r + 1) (w + 1) (upd d w (n / 2 ^ k + 48))
def rsE (k : Nat) : Nat → Nat → Nat → (Nat → Nat) → Bool → Nat × (Nat → Nat) × Bool
 | 0, _, w, d, tr => (w, d, tr)
 | f + 1, n, w, d, tr =>
   if n = 0 then (w, d, tr)
   else if w < 800 then rsE k f (n % 2 ^ k * 10) (w + 1) (upd d w (n / 2 ^ k + 48)) tr
   else rsE k f (n % 2 ^ k * 10) w d (tr || decide (0 < n / 2 ^ k))
def rsP (k : Nat) (D : Dc) : Dc :=
 let a := rsA D.d k D.nd 0 0
 let c := rsC k (D.nd - a.2) a.1 a.2 0 D.d
 let e := rsE k (k + 1) c.1 c.2.1 c.2.2 D.tr
 trimD { D with d := e.2.1, nd := e.1, dp := D.dp - ((a.2 : Int) - 1), tr := e.2.2 }
theorem two_pow_pos (k : Nat) : 0 < 2 ^ k := Nat.pow_pos (by decide)
theorem div_zero_lt {n k : Nat} (h : n / 2 ^ k = 0) : n < 2 ^ k := by
 rcases Nat.div_eq_zero_iff.1 h with h | h
 · have := two_pow_pos k; omega
 · exact h
theorem rsB_spec (k : Nat) : ∀ (f n r : Nat), 0 < n → n < 10 * 2 ^ k → 2 ^ k ≤ n * 2 ^ f →
 2 ^ k ≤ (rsB k f n r).1 ∧ (rsB k f n r).1 < 10 * 2 ^ k ∧ r ≤ (rsB k f n r).2 ∧ (rsB k f n r).2 ≤ r + f
 | 0, n, r, _, h1, h2 => ⟨by simpa [rsB] using h2, h1, Nat.le_refl _, Nat.le_refl _⟩
 | f + 1, n, r, h0, h1, h2 => by
   unfold rsB; split
   · rename_i hz
     have := div_zero_lt hz; have hpow : n * 2 ^ (f + 1) = 2 * (n * 2 ^ f) := by rw [Nat.pow_succ]; rw [← Nat.mul_assoc, Nat.mul_comm]
     have h3 : n * 10 * 2 ^ f = 10 * (n * 2 ^ f) := by rw [Nat.mul_comm n 10, Nat.mul_assoc]
     have ih := rsB_spec k f (n * 10) (r + 1) (by omega) (by omega) (by rw [h3]; rw [hpow] at h2; omega); omega
   · rename_i hz
     have : 2 ^ k ≤ n := by
      rcases Nat.lt_or_ge n (2 ^ k) with h | h
      · exact absurd (Nat.div_eq_of_lt h) hz
      · exact h
     exact ⟨this, h1, Nat.le_refl _, by omega⟩
theorem rsA_spec {d : Nat → Nat} {nd k : Nat} (hd : Dig d nd) : ∀ (f n r : Nat), r + f = nd → (0 < n ∨ (r = 0 ∧ 0 < f ∧ 49 ≤ d 0)) → n < 10 * 2 ^ k →
 2 ^ k ≤ (rsA d k f n r).1 ∧ (rsA d k f n r).1 < 10 * 2 ^ k ∧ r ≤ (rsA d k f n r).2 ∧ (rsA d k f n r).2 ≤ nd + k
 | 0, n, r, hr, h0, h1 => by
   rcases h0 with h0 | ⟨_, h, _⟩
   · have := rsB_spec k k n r h0 h1 (Nat.le_mul_of_pos_left _ h0)
     unfold rsA; omega
   · omega
 | f + 1, n, r, hr, h0, h1 => by
   have hdg := (hd.dg (i := r) (by omega)).1; unfold rsA; split
   · rename_i hz
     have hlt := div_zero_lt hz; have ih := rsA_spec (k := k) hd f (n * 10 + dg d r) (r + 1) (by omega) (Or.inl (by
      rcases h0 with h0 | ⟨rfl, _, h⟩
      · omega
      · unfold dg; omega)) (by omega)
     omega
   · rename_i hz
     have : 2 ^ k ≤ n := by
      rcases Nat.lt_or_ge n (2 ^ k) with h | h
      · exact absurd (Nat.div_eq_of_lt h) hz
      · exact h
     exact ⟨this, h1, Nat.le_refl _, by omega⟩
theorem rsA_first {D : Dc} (h : OkD D) (hp : 0 < D.nd) {k : Nat} (hk : 1 ≤ k) :
 (rsA D.d k D.nd 0 0).2 = 1 ∧ (rsA D.d k D.nd 0 0).1 = dg D.d 0 ∨ 2 ≤ (rsA D.d k D.nd 0 0).2 := by
 obtain ⟨m, hm⟩ : ∃ m, D.nd = m + 1 := ⟨D.nd - 1, by omega⟩; have hd := h.dig; have hl := h.lead hp; rw [hm] at hd ⊢; have h2 : (2 : Nat) ≤ 2 ^ k := Nat.le_trans (by decide) (Nat.pow_le_pow_right (by decide) hk); have e0 : rsA D.d k (m + 1) 0 0 = rsA D.d k m (dg D.d 0) 1 := by
  show (if 0 / 2 ^ k = 0 then rsA D.d k m (0 * 10 + dg D.d 0) (0 + 1) else (0, 0)) = _; simp
 rw [e0]; have hdg := hd.dg (i := 0) (by omega); by_cases hz : dg D.d 0 / 2 ^ k = 0
 · right
   have hlt := div_zero_lt hz; cases m with
   | zero =>
     obtain ⟨j, rfl⟩ : ∃ j, k = j + 1 := ⟨k - 1, by omega⟩; have e1 : rsA D.d (j + 1) 0 (dg D.d 0) 1 = rsB (j + 1) j (dg D.d 0 * 10) 2 := by
      show rsB (j + 1) (j + 1) (dg D.d 0) 1 = _; rw [rsB, if_pos hz]
     rw [e1]; have hge : ∀ f n r, r ≤ (rsB (j + 1) f n r).2 := by
      intro f; induction f with
      | zero => intro n r; exact Nat.le_refl _
      | succ f ih =>
        intro n r; unfold rsB; split
        · exact Nat.le_of_succ_le (ih _ _)
        · exact Nat.le_refl _
     exact hge _ _ _
   | succ m =>
     have e1 : rsA D.d k (m + 1) (dg D.d 0) 1 = rsA D.d k m (dg D.d 0 * 10 + dg D.d 1) 2 := by
      rw [rsA, if_pos hz]
     rw [e1]
     have := rsA_spec hd (k := k) m (dg D.d 0 * 10 + dg D.d 1) 2 (by omega) (Or.inl (by unfold dg; omega)) (by have := (hd.dg (i := 1) (by omega)).1; omega); exact this.2.2.1
 · left
   cases m with
   | zero =>
     have e1 : rsA D.d k 0 (dg D.d 0) 1 = (dg D.d 0, 1) := by
      show rsB k k (dg D.d 0) 1 = _; cases k with
      | zero => rfl
      | succ j => rw [rsB, if_neg hz]
     rw [e1]; exact ⟨rfl, rfl⟩
   | succ m =>
     have e1 : rsA D.d k (m + 1) (dg D.d 0) 1 = (dg D.d 0, 1) := by rw [rsA, if_neg hz]
     rw [e1]; exact ⟨rfl, rfl⟩
theorem rsC_spec {nd k : Nat} : ∀ (f n r w : Nat) (d : Nat → Nat), Dig d nd → f = nd - r → w ≤ r → n < 10 * 2 ^ k → nd ≤ 800 →
 (rsC k f n r w d).1 < 10 * 2 ^ k ∧ (rsC k f n r w d).2.1 = w + f ∧ Dig (rsC k f n r w d).2.2 nd ∧
 (∀ j, j < w → (rsC k f n r w d).2.2 j = d j) ∧ (0 < f → (rsC k f n r w d).2.2 w = n / 2 ^ k + 48) ∧ (f = 0 → (rsC k f n r w d).1 = n)
 | 0, n, r, w, d, hd, _, _, hn, _ => ⟨hn, rfl, hd, fun _ _ => rfl, fun h => absurd h (Nat.lt_irrefl _), fun _ => rfl⟩
 | f + 1, n, r, w, d, hd, hf, hw, hn, h8 => by
   have hdg := (hd.dg (i := r) (by omega)).1; have hm : n % 2 ^ k < 2 ^ k := Nat.mod_lt _ (two_pow_pos k); have hq : n / 2 ^ k ≤ 9 := Nat.le_of_lt_succ (Nat.div_lt_of_lt_mul (by omega)); have ih := rsC_spec (nd := nd) (k := k) f (n % 2 ^ k * 10 + dg d r) (r + 1) (w + 1) (upd d w (n / 2 ^ k + 48)) (hd.upd hq) (by omega) (by omega) (by omega) h8; obtain ⟨i1, i2, i3, i4, i5, i6⟩ := ih; unfold rsC; refine ⟨i1, by omega, i3, fun j hj => ?_, fun _ => ?_, fun h => absurd h (Nat.succ_ne_zero _)⟩
   · rw [i4 j (by omega), upd_ne (by omega)]
   · rw [i4 w (by omega), upd_same]
theorem rsE_spec {k : Nat} : ∀ (f n w : Nat) (d : Nat → Nat) (tr : Bool), Dig d w → w ≤ 800 → n < 10 * 2 ^ k →
 (rsE k f n w d tr).1 ≤ 800 ∧ w ≤ (rsE k f n w d tr).1 ∧ Dig (rsE k f n w d tr).2.1 (rsE k f n w d tr).1 ∧
 (∀ j, j < w → (rsE k f n w d tr).2.1 j = d j) ∧ (0 < f → 0 < n → w < 800 → w < (rsE k f n w d tr).1 ∧ (rsE k f n w d tr).2.1 w = n / 2 ^ k + 48)
 | 0, n, w, d, tr, hd, h8, hn => ⟨h8, Nat.le_refl _, hd, fun _ _ => rfl, fun h => absurd h (Nat.lt_irrefl _)⟩
 | f + 1, n, w, d, tr, hd, h8, hn => by
   have hm : n % 2 ^ k < 2 ^ k := Nat.mod_lt _ (two_pow_pos k); have hq : n / 2 ^ k ≤ 9 := Nat.le_of_lt_succ (Nat.div_lt_of_lt_mul (by omega)); unfold rsE; split
   · rename_i h0
     exact ⟨h8, Nat.le_refl _, hd, fun _ _ => rfl, fun _ h => absurd h (by omega)⟩
   · split
     · rename_i h0 hw
       have ih := rsE_spec (k := k) f (n % 2 ^ k * 10) (w + 1) (upd d w (n / 2 ^ k + 48)) tr (hd.upd_next hq) (by omega) (by omega); obtain ⟨i1, i2, i3, i4, _⟩ := ih; refine ⟨i1, by omega, i3, fun j hj => ?_, fun _ _ _ => ⟨by omega, ?_⟩⟩
       · rw [i4 j (by omega), upd_ne (by omega)]
       · rw [i4 w (by omega), upd_same]
     · rename_i h0 hw
       have ih := rsE_spec (k := k) f (n % 2 ^ k * 10) w d (tr || decide (0 < n / 2 ^ k)) hd h8 (by omega); obtain ⟨i1, i2, i3, i4, _⟩ := ih; exact ⟨i1, i2, i3, i4, fun _ _ h => absurd h hw⟩
theorem rsP_spec {D : Dc} (h : OkD D) (hp : 0 < D.nd) {k : Nat} (hk : 1 ≤ k) :
 OkD (rsP k D) ∧ 0 < (rsP k D).nd ∧ ((rsP k D).dp < D.dp ∨ ((rsP k D).dp = D.dp ∧ (rsP k D).d 0 < D.d 0)) := by
 have hA := rsA_spec h.dig (k := k) D.nd 0 0 (by omega) (Or.inr ⟨rfl, hp, h.lead hp⟩) (by have := two_pow_pos k; omega); have hF := rsA_first h hp hk; obtain ⟨a, ha⟩ : ∃ a, rsA D.d k D.nd 0 0 = a := ⟨_, rfl⟩; rw [ha] at hA hF; obtain ⟨hA1, hA2, _, hA4⟩ := hA; have hC := rsC_spec (nd := D.nd) (k := k) (D.nd - a.2) a.1 a.2 0 D.d h.dig rfl (Nat.zero_le _) hA2 h.le; obtain ⟨c, hc⟩ : ∃ c, rsC k (D.nd - a.2) a.1 a.2 0 D.d = c := ⟨_, rfl⟩; rw [hc] at hC; obtain ⟨hC1, hC2, hC3, _, hC5, hC6⟩ := hC; have hE := rsE_spec (k := k) (k + 1) c.1 c.2.1 c.2.2 D.tr (hC3.mono (by omega)) (by have := h.le; omega) hC1; obtain ⟨e, he⟩ : ∃ e, rsE k (k + 1) c.1 c.2.1 c.2.2 D.tr = e := ⟨_, rfl⟩; rw [he] at hE; obtain ⟨hE1, hE2, hE3, hE4, hE5⟩ := hE; have hq1 : 1 ≤ a.1 / 2 ^ k := (Nat.le_div_iff_mul_le (two_pow_pos k)).2 (by omega); have hlead : e.2.1 0 = a.1 / 2 ^ k + 48 ∧ 0 < e.1 := by
  rcases Nat.eq_zero_or_pos (D.nd - a.2) with hz | hz
  · have e1 : c.1 = a.1 := hC6 hz
    have e2 : c.2.1 = 0 := by omega
    have e3 : 0 < a.1 := by have := two_pow_pos k; omega
    rw [e1, e2] at hE5
    have := hE5 (by omega) e3 (by omega); exact ⟨this.2, this.1⟩
  · exact ⟨by rw [hE4 0 (by omega)]; exact hC5 hz, by omega⟩
 have hdef : rsP k D = trimD { D with d := e.2.1, nd := e.1, dp := D.dp - ((a.2 : Int) - 1), tr := e.2.2 } := by
  unfold rsP; simp only [ha, hc, he]
 have hok : OkD { D with d := e.2.1, nd := e.1, dp := D.dp - ((a.2 : Int) - 1), tr := e.2.2 } := ⟨hE1, hE3, fun _ => by
  show 49 ≤ e.2.1 0; rw [hlead.1]; omega⟩
 have ht := trimD_pos hok hlead.2; rw [hdef]; refine ⟨trimD_ok hok, ht.1, ?_⟩; rw [ht.2]; show D.dp - ((a.2 : Int) - 1) < D.dp ∨ (D.dp - ((a.2 : Int) - 1) = D.dp ∧ e.2.1 0 < D.d 0); rcases hF with ⟨h1, h2⟩ | h1
 · right
   refine ⟨by omega, ?_⟩; rw [hlead.1, h2]; have hdg := h.dig.dg (i := 0) hp; have h2k : (2 : Nat) ≤ 2 ^ k := Nat.le_trans (by decide) (Nat.pow_le_pow_right (by decide) hk); have hl := h.lead hp; have : dg D.d 0 / 2 ^ k < dg D.d 0 := Nat.div_lt_self (by unfold dg; omega) h2k; omega
 · left; omega
def valD (d : Nat → Nat) : Nat → Nat
 | 0 => 0
 | n + 1 => valD d n * 10 + dg d n
theorem valD_lt {d : Nat → Nat} {n : Nat} (h : Dig d n) : valD d n < 10 ^ n := by
 induction n with
 | zero => simp [valD]
 | succ n ih =>
   have := ih (h.mono (Nat.le_succ _)); have h1 := (h.dg (i := n) (Nat.lt_succ_self n)).1; rw [valD, Nat.pow_succ]; omega
theorem valD_ge {d : Nat → Nat} {n : Nat} (h0 : 49 ≤ d 0) : 10 ^ n ≤ valD d (n + 1) := by
 induction n with
 | zero => simp [valD, dg]; omega
 | succ n ih =>
   rw [valD, Nat.pow_succ]; omega
def cheat (k : Nat) : Nat × List UInt8 := (Go.Pinned.cheatRows)[k]?.getD (0, [])
def pfxB (d : Nat → Nat) (nd : Nat) : Nat → List UInt8 → Bool
 | _, [] => false
 | i, c :: s => if nd ≤ i then true else if d i ≠ c.toNat then decide (d i < c.toNat) else pfxB d nd (i + 1) s
def valS : List UInt8 → Nat → Nat
 | [], a => a
 | c :: s, a => valS s (a * 10 + (c.toNat - 48))
def digS (s : List UInt8) : Bool := s.all fun c => 48 ≤ c && c ≤ 57
theorem valS_lo (s : List UInt8) : ∀ a, a * 10 ^ s.length ≤ valS s a := by
 induction s with
 | nil => intro a; simp [valS]
 | cons c s ih =>
   intro a
   have := ih (a * 10 + (c.toNat - 48)); rw [valS, List.length_cons, Nat.pow_succ]; have e : a * (10 ^ s.length * 10) = a * 10 * 10 ^ s.length := by rw [Nat.mul_assoc, Nat.mul_comm 10]
   rw [e]; exact Nat.le_trans (Nat.mul_le_mul_right _ (Nat.le_add_right _ _)) this
theorem valS_hi (s : List UInt8) (hs : digS s = true) : ∀ a, valS s a < (a + 1) * 10 ^ s.length := by
 induction s with
 | nil => intro a; simp [valS]
 | cons c s ih =>
   intro a; simp only [digS, List.all_cons, Bool.and_eq_true, decide_eq_true_eq] at hs; obtain ⟨⟨h1, h2⟩, h3⟩ := hs; have h2' : c.toNat ≤ 57 := UInt8.le_iff_toNat_le.1 h2
   have := ih h3 (a * 10 + (c.toNat - 48)); rw [valS, List.length_cons, Nat.pow_succ]; have e : (a + 1) * (10 ^ s.length * 10) = (a + 1) * 10 * 10 ^ s.length := by rw [Nat.mul_assoc, Nat.mul_comm 10]
   rw [e]; exact Nat.lt_of_lt_of_le this (Nat.mul_le_mul_right _ (by omega))
theorem valD_up (d : Nat → Nat) (i : Nat) : ∀ m, valD d i * 10 ^ m ≤ valD d (i + m) := by
 intro m; induction m with
 | zero => simp
 | succ m ih =>
   rw [← Nat.add_assoc, valD, Nat.pow_succ, ← Nat.mul_assoc]; omega
theorem valD_hi {d : Nat → Nat} {i : Nat} : ∀ m, Dig d (i + m) → valD d (i + m) < (valD d i + 1) * 10 ^ m := by
 intro m; induction m with
 | zero => intro _; simp
 | succ m ih =>
   intro h; have h0 := ih (h.mono (by omega)); have h1 := (h.dg (i := i + m) (by omega)).1; rw [← Nat.add_assoc, valD, Nat.pow_succ, ← Nat.mul_assoc]; omega
def lastB : List UInt8 → Bool
 | [] => true
 | [c] => decide (49 ≤ c)
 | _ :: s => lastB s
theorem lastB_tail {c : UInt8} {s : List UInt8} (h : lastB (c :: s) = true) : lastB s = true := by
 cases s with
 | nil => rfl
 | cons _ _ => exact h
theorem valS_gt : ∀ (s : List UInt8) (a : Nat), s ≠ [] → lastB s = true → a * 10 ^ s.length < valS s a
 | [], _, h, _ => absurd rfl h
 | [c], a, _, h => by
   have h0 : 49 ≤ c := by simpa [lastB] using h
   have h1 : 49 ≤ c.toNat := UInt8.le_iff_toNat_le.1 h0; simp only [valS, List.length_cons, List.length_nil]; omega
 | c :: c' :: s, a, _, h => by
   have ih := valS_gt (c' :: s) (a * 10 + (c.toNat - 48)) (by simp) h; rw [valS, List.length_cons, Nat.pow_succ]; have e : a * (10 ^ (c' :: s).length * 10) = a * 10 * 10 ^ (c' :: s).length := by rw [Nat.mul_assoc, Nat.mul_comm 10]
   rw [e]; exact Nat.lt_of_le_of_lt (Nat.mul_le_mul_right _ (Nat.le_add_right _ _)) ih
theorem pfx_spec {d : Nat → Nat} {nd : Nat} (hd : Dig d nd) : ∀ (s : List UInt8) (i : Nat), digS s = true → lastB s = true → i ≤ nd →
 (pfxB d nd i s = true → valD d nd * 10 ^ (i + s.length) < valS s (valD d i) * 10 ^ nd) ∧
 (pfxB d nd i s = false → valS s (valD d i) * 10 ^ nd ≤ valD d nd * 10 ^ (i + s.length))
 | [], i, _, _, hi => by
   refine ⟨fun h => (by cases h), fun _ => ?_⟩; obtain ⟨m, rfl⟩ : ∃ m, nd = i + m := ⟨nd - i, by omega⟩; rw [valS, List.length_nil, Nat.add_zero, Nat.pow_add]
   have := valD_up d i m; calc valD d i * (10 ^ i * 10 ^ m) = (valD d i * 10 ^ m) * 10 ^ i := by rw [Nat.mul_comm (10 ^ i), Nat.mul_assoc]
    _ ≤ valD d (i + m) * 10 ^ i := Nat.mul_le_mul_right _ this
 | c :: s, i, hs, hl, hi => by
   have hs' := hs; simp only [digS, List.all_cons, Bool.and_eq_true, decide_eq_true_eq] at hs'; obtain ⟨⟨h1, h2⟩, h3⟩ := hs'; have hc1 : 48 ≤ c.toNat := UInt8.le_iff_toNat_le.1 h1; have hc2 : c.toNat ≤ 57 := UInt8.le_iff_toNat_le.1 h2; have hp : ∀ m, 0 < 10 ^ m := fun m => Nat.pow_pos (by decide)
   by_cases hn : nd ≤ i
   · obtain rfl : i = nd := by omega
     have hlo := valS_gt (c :: s) (valD d i) (by simp) hl; refine ⟨fun _ => ?_, fun h => ?_⟩
     · rw [Nat.pow_add, Nat.mul_comm (10 ^ i), ← Nat.mul_assoc]
       exact Nat.mul_lt_mul_of_pos_right hlo (hp _)
     · simp [pfxB] at h
   · have hdi := hd i (by omega)
     obtain ⟨m, hm⟩ : ∃ m, nd = i + 1 + m := ⟨nd - (i + 1), by omega⟩; have hdgi : dg d i = d i - 48 := rfl; have hv1 : valD d (i + 1) = valD d i * 10 + (d i - 48) := rfl; have e1 : i + (c :: s).length = i + 1 + s.length := by simp; omega
     by_cases he : d i = c.toNat
     · have ih := pfx_spec hd s (i + 1) h3 (lastB_tail hl) (by omega)
       have e2 : pfxB d nd i (c :: s) = pfxB d nd (i + 1) s := by simp [pfxB, hn, he]
       have e3 : valS (c :: s) (valD d i) = valS s (valD d (i + 1)) := by rw [valS, hv1, he]
       rw [e1, e2, e3]; exact ih
     · have e2 : pfxB d nd i (c :: s) = decide (d i < c.toNat) := by simp [pfxB, hn, he]
       rw [e2, e1]; have hup := valD_up d (i + 1) m; have hhi := valD_hi (d := d) (i := i + 1) m (by rw [← hm]; exact hd); have hslo := valS_lo s (valD d i * 10 + (c.toNat - 48)); have hshi := valS_hi s h3 (valD d i * 10 + (c.toNat - 48)); have e3 : valS (c :: s) (valD d i) = valS s (valD d i * 10 + (c.toNat - 48)) := rfl; rw [e3]; have e4 : 10 ^ nd = 10 ^ (i + 1) * 10 ^ m := by rw [hm, Nat.pow_add]
       have e5 : 10 ^ (i + 1 + s.length) = 10 ^ (i + 1) * 10 ^ s.length := Nat.pow_add _ _ _; rw [← hm] at hup hhi; refine ⟨fun h => ?_, fun h => ?_⟩
       · have hlt : d i < c.toNat := by simpa using h
         have h6 : valD d (i + 1) + 1 ≤ valD d i * 10 + (c.toNat - 48) := by omega
         rw [e4, e5]; calc valD d nd * (10 ^ (i + 1) * 10 ^ s.length) < (valD d (i + 1) + 1) * 10 ^ m * (10 ^ (i + 1) * 10 ^ s.length) := Nat.mul_lt_mul_of_pos_right hhi (Nat.mul_pos (hp _) (hp _))
          _ ≤ (valD d i * 10 + (c.toNat - 48)) * 10 ^ m * (10 ^ (i + 1) * 10 ^ s.length) := Nat.mul_le_mul_right _ (Nat.mul_le_mul_right _ h6)
          _ = (valD d i * 10 + (c.toNat - 48)) * 10 ^ s.length * (10 ^ (i + 1) * 10 ^ m) := by ac_rfl
          _ ≤ _ := Nat.mul_le_mul_right _ hslo
       · have hlt : c.toNat < d i := by
          have : ¬ d i < c.toNat := by simpa using h
          omega
         have h6 : valD d i * 10 + (c.toNat - 48) + 1 ≤ valD d (i + 1) := by omega
         rw [e4, e5]; calc valS s (valD d i * 10 + (c.toNat - 48)) * (10 ^ (i + 1) * 10 ^ m) ≤ (valD d i * 10 + (c.toNat - 48) + 1) * 10 ^ s.length * (10 ^ (i + 1) * 10 ^ m) := Nat.mul_le_mul_right _ (Nat.le_of_lt hshi)
          _ ≤ valD d (i + 1) * 10 ^ s.length * (10 ^ (i + 1) * 10 ^ m) := Nat.mul_le_mul_right _ (Nat.mul_le_mul_right _ h6)
          _ = valD d (i + 1) * 10 ^ m * (10 ^ (i + 1) * 10 ^ s.length) := by ac_rfl
          _ ≤ _ := Nat.mul_le_mul_right _ hup
def dlt (k : Nat) (D : Dc) : Nat := if pfxB D.d D.nd 0 (cheat k).2 = true then (cheat k).1 - 1 else (cheat k).1
def cheatB (k : Nat) : Bool :=
 digS (cheat k).2 && lastB (cheat k).2 && decide (1 ≤ (cheat k).1) && decide (valS (cheat k).2 0 = 5 ^ k) && decide ((cheat k).2.length + (cheat k).1 = k + 1) && decide (2 ^ k < 10 ^ (cheat k).1) && decide (10 ^ ((cheat k).1 - 1) ≤ 2 ^ k)
theorem cheat_all : ∀ k : Fin 60, cheatB (k.val + 1) = true := by decide +kernel
theorem cheat_ok {k : Nat} (h1 : 1 ≤ k) (h2 : k ≤ 60) : digS (cheat k).2 = true ∧ lastB (cheat k).2 = true ∧ 1 ≤ (cheat k).1 ∧ valS (cheat k).2 0 = 5 ^ k ∧ (cheat k).2.length + (cheat k).1 = k + 1 ∧ 2 ^ k < 10 ^ (cheat k).1 ∧ 10 ^ ((cheat k).1 - 1) ≤ 2 ^ k := by
 have := cheat_all ⟨k - 1, by omega⟩; have e : (k - 1) + 1 = k := by omega
 simp only [e, cheatB, Bool.and_eq_true, decide_eq_true_eq] at this; obtain ⟨⟨⟨⟨⟨⟨a, b⟩, c⟩, d⟩, e⟩, f⟩, g⟩ := this; exact ⟨a, b, c, d, e, f, g⟩
theorem dlt_just {D : Dc} (h : OkD D) (hp : 0 < D.nd) {k : Nat} (h1 : 1 ≤ k) (h2 : k ≤ 60) :
 valD D.d D.nd * 2 ^ k < 10 ^ (D.nd + dlt k D) ∧ 10 ^ (D.nd + dlt k D) ≤ valD D.d D.nd * 2 ^ k * 10 := by
 obtain ⟨c1, c0, c2, c3, c4, c5, c6⟩ := cheat_ok h1 h2; have hlt := valD_lt h.dig; obtain ⟨m, hm⟩ : ∃ m, D.nd = m + 1 := ⟨D.nd - 1, by omega⟩; have hge : 10 ^ m ≤ valD D.d D.nd := by rw [hm]; exact valD_ge (h.lead hp)
 obtain ⟨p1, p2⟩ := pfx_spec h.dig (cheat k).2 0 c1 c0 (Nat.zero_le _); simp only [Nat.zero_add, valD] at p1 p2; rw [c3] at p1 p2; obtain ⟨L, hL⟩ : ∃ L, (cheat k).2.length = L := ⟨_, rfl⟩; obtain ⟨e, he⟩ : ∃ e, (cheat k).1 = e + 1 := ⟨(cheat k).1 - 1, by omega⟩; rw [hL] at p1 p2 c4; have hk10 : (10 : Nat) ^ k = 5 ^ k * 2 ^ k := by rw [← Nat.mul_pow]
 have hkL : 10 ^ k = 10 ^ L * 10 ^ e := by rw [← Nat.pow_add]; congr 1; omega
 have hp10 : ∀ m, 0 < 10 ^ m := fun m => Nat.pow_pos (by decide)
 unfold dlt; cases hb : pfxB D.d D.nd 0 (cheat k).2 with
 | true =>
   rw [if_pos rfl, he, Nat.add_sub_cancel, Nat.pow_add]; have p3 : valD D.d D.nd * 10 ^ L < 5 ^ k * 10 ^ D.nd := p1 hb; constructor
   · refine Nat.lt_of_mul_lt_mul_right (a := 10 ^ L) ?_
     calc valD D.d D.nd * 2 ^ k * 10 ^ L = valD D.d D.nd * 10 ^ L * 2 ^ k := by ac_rfl
      _ < 5 ^ k * 10 ^ D.nd * 2 ^ k := Nat.mul_lt_mul_of_pos_right p3 (two_pow_pos k)
      _ = 5 ^ k * 2 ^ k * 10 ^ D.nd := by ac_rfl
      _ = 10 ^ D.nd * 10 ^ e * 10 ^ L := by rw [← hk10, hkL]; ac_rfl
   · have c6' : 10 ^ e ≤ 2 ^ k := by rw [he] at c6; simpa using c6
     calc 10 ^ D.nd * 10 ^ e = 10 ^ m * 10 * 10 ^ e := by rw [hm, Nat.pow_succ]
      _ ≤ valD D.d D.nd * 10 * 2 ^ k := Nat.mul_le_mul (Nat.mul_le_mul_right _ hge) c6'
      _ = _ := by ac_rfl
 | false =>
   rw [if_neg (by decide), he, Nat.pow_add]; have p3 := p2 hb; constructor
   · rw [he] at c5
     exact Nat.mul_lt_mul_of_lt_of_lt hlt c5
   · refine Nat.le_of_mul_le_mul_right (a := 10 ^ D.nd * 10 ^ (e + 1)) (c := 10 ^ L) ?_ (hp10 L)
     calc 10 ^ D.nd * 10 ^ (e + 1) * 10 ^ L = 10 ^ L * 10 ^ e * 10 ^ D.nd * 10 := by rw [Nat.pow_succ]; ac_rfl
      _ = 5 ^ k * 10 ^ D.nd * 2 ^ k * 10 := by rw [← hkL, hk10]; ac_rfl
      _ ≤ valD D.d D.nd * 10 ^ L * 2 ^ k * 10 := Nat.mul_le_mul_right _ (Nat.mul_le_mul_right _ p3)
      _ = _ := by ac_rfl
def lsA (k : Nat) : Nat → Nat → Nat → (Nat → Nat) → Bool → Nat × (Nat → Nat) × Bool
 | 0, n, _, d, tr => (n, d, tr)
 | r + 1, n, w, d, tr =>
   if w - 1 < 800 then lsA k r ((n + dg d r * 2 ^ k) / 10) (w - 1) (upd d (w - 1) ((n + dg d r * 2 ^ k) % 10 + 48)) tr
   else lsA k r ((n + dg d r * 2 ^ k) / 10) (w - 1) d (tr || decide ((n + dg d r * 2 ^ k) % 10 ≠ 0))
def lsB : Nat → Nat → (Nat → Nat) → Bool → (Nat → Nat) × Bool
 | 0, _, d, tr => (d, tr)
 | w + 1, n, d, tr =>
   if n = 0 then (d, tr)
   else if w < 800 then lsB w (n / 10) (upd d w (n % 10 + 48)) tr
   else lsB w (n / 10) d (tr || decide (n % 10 ≠ 0))
def lsP (k : Nat) (D : Dc) : Dc :=
 let a := lsA k D.nd 0 (D.nd + dlt k D) D.d D.tr
 let b := lsB (dlt k D) a.1 a.2.1 a.2.2
 trimD { D with d := b.1, nd := if 800 ≤ D.nd + dlt k D then 800 else D.nd + dlt k D, dp := D.dp + dlt k D, tr := b.2 }
theorem valD_upd {d : Nat → Nat} {i v : Nat} : ∀ {n : Nat}, n ≤ i → valD (upd d i v) n = valD d n
 | 0, _ => rfl
 | n + 1, h => by
   rw [valD, valD, valD_upd (Nat.le_of_succ_le h)]; unfold dg; rw [upd_ne (by omega)]
theorem lsA_val (k : Nat) : ∀ (r n w : Nat) (d : Nat → Nat) (tr : Bool), r ≤ w → (lsA k r n w d tr).1 = (n + valD d r * 2 ^ k) / 10 ^ r
 | 0, n, w, d, tr, _ => by simp [lsA, valD]
 | r + 1, n, w, d, tr, h => by
   have e : ∀ d', valD d' r = valD d r → ((n + dg d r * 2 ^ k) / 10 + valD d' r * 2 ^ k) / 10 ^ r = (n + valD d (r + 1) * 2 ^ k) / 10 ^ (r + 1) := by
    intro d' hd'; rw [hd', valD, Nat.pow_succ, Nat.mul_comm (10 ^ r) 10, ← Nat.div_div_eq_div_mul]; congr 1
    rw [Nat.add_mul]; have : valD d r * 10 * 2 ^ k = 10 * (valD d r * 2 ^ k) := by ac_rfl
    omega
   unfold lsA; split
   · rw [lsA_val k r _ _ _ _ (by omega)]
     exact e _ (valD_upd (by omega))
   · rw [lsA_val k r _ _ _ _ (by omega)]
     exact e _ rfl
theorem lsA_dig (k : Nat) : ∀ (r n w : Nat) (d : Nat → Nat) (tr : Bool), r ≤ w →
 (∀ i, w - r ≤ i → i < w → i < 800 → 48 ≤ (lsA k r n w d tr).2.1 i ∧ (lsA k r n w d tr).2.1 i ≤ 57) ∧ (∀ i, w ≤ i → (lsA k r n w d tr).2.1 i = d i)
 | 0, n, w, d, tr, _ => ⟨fun i h1 h2 _ => by omega, fun _ _ => rfl⟩
 | r + 1, n, w, d, tr, h => by
   have hm : (n + dg d r * 2 ^ k) % 10 < 10 := Nat.mod_lt _ (by decide); unfold lsA; split
   · rename_i hw
     obtain ⟨i1, i2⟩ := lsA_dig k r ((n + dg d r * 2 ^ k) / 10) (w - 1) (upd d (w - 1) ((n + dg d r * 2 ^ k) % 10 + 48)) tr (by omega); refine ⟨fun i h1 h2 h3 => ?_, fun i hi => ?_⟩
     · by_cases e : i = w - 1
       · rw [i2 i (by omega), e, upd_same]; omega
       · exact i1 i (by omega) (by omega) h3
     · rw [i2 i (by omega), upd_ne (by omega)]
   · rename_i hw
     obtain ⟨i1, i2⟩ := lsA_dig k r ((n + dg d r * 2 ^ k) / 10) (w - 1) d (tr || decide ((n + dg d r * 2 ^ k) % 10 ≠ 0)) (by omega); exact ⟨fun i h1 h2 h3 => i1 i (by omega) (by omega) h3, fun i hi => i2 i (by omega)⟩
theorem lsA_first (k : Nat) : ∀ (r n : Nat) (d : Nat → Nat) (tr : Bool), 0 < r → r ≤ 800 →
 ∃ m, dg d 0 * 2 ^ k ≤ m ∧ (lsA k r n r d tr).1 = m / 10 ∧ (lsA k r n r d tr).2.1 0 = m % 10 + 48
 | 0, _, _, _, h, _ => absurd h (Nat.lt_irrefl _)
 | 1, n, d, tr, _, _ => ⟨n + dg d 0 * 2 ^ k, Nat.le_add_left _ _, by simp [lsA], by simp [lsA, upd_same]⟩
 | r + 2, n, d, tr, _, h => by
   have ih := lsA_first k (r + 1) ((n + dg d (r + 1) * 2 ^ k) / 10) (upd d (r + 1) ((n + dg d (r + 1) * 2 ^ k) % 10 + 48)) tr (Nat.succ_pos _) (by omega); have e : dg (upd d (r + 1) ((n + dg d (r + 1) * 2 ^ k) % 10 + 48)) 0 = dg d 0 := by unfold dg; rw [upd_ne (by omega)]
   rw [e] at ih; rw [lsA, if_pos (by omega)]; exact ih
theorem lsB_spec : ∀ (w n : Nat) (d : Nat → Nat) (tr : Bool), 10 ^ w ≤ n → n < 10 ^ (w + 1) → w < 800 →
 (∀ i, i ≤ w → 48 ≤ (lsB (w + 1) n d tr).1 i ∧ (lsB (w + 1) n d tr).1 i ≤ 57) ∧ 49 ≤ (lsB (w + 1) n d tr).1 0 ∧ (∀ i, w < i → (lsB (w + 1) n d tr).1 i = d i)
 | 0, n, d, tr, h1, h2, _ => by
   have h3 : n ≠ 0 := by simp at h1; omega
   have h4 : n < 10 := by simpa using h2
   have e : (lsB 1 n d tr).1 = upd d 0 (n % 10 + 48) := by simp [lsB, h3]
   rw [e]; refine ⟨fun i hi => ?_, ?_, fun i hi => upd_ne (by omega)⟩
   · obtain rfl : i = 0 := by omega
     rw [upd_same]; omega
   · rw [upd_same]; omega
 | w + 1, n, d, tr, h1, h2, hw => by
   have hp : 0 < 10 ^ (w + 1) := Nat.pow_pos (by decide); have h3 : n ≠ 0 := by omega
   have e : lsB (w + 1 + 1) n d tr = lsB (w + 1) (n / 10) (upd d (w + 1) (n % 10 + 48)) tr := by rw [lsB, if_neg h3, if_pos (by omega)]
   rw [e]; have g1 : 10 ^ w ≤ n / 10 := by rw [Nat.le_div_iff_mul_le (by decide), ← Nat.pow_succ]; exact h1
   have g2 : n / 10 < 10 ^ (w + 1) := by rw [Nat.div_lt_iff_lt_mul (by decide), ← Nat.pow_succ]; exact h2
   obtain ⟨i1, i2, i3⟩ := lsB_spec w (n / 10) (upd d (w + 1) (n % 10 + 48)) tr g1 g2 (by omega); refine ⟨fun i hi => ?_, i2, fun i hi => ?_⟩
   · by_cases e : i = w + 1
     · rw [i3 i (by omega), e, upd_same]; omega
     · exact i1 i (by omega)
   · rw [i3 i (by omega), upd_ne (by omega)]
theorem dlt_le {k : Nat} (h1 : 1 ≤ k) (h2 : k ≤ 60) (D : Dc) : dlt k D ≤ 60 := by
 obtain ⟨_, _, c2, _, c4, _, _⟩ := cheat_ok h1 h2; have hl : 1 ≤ (cheat k).2.length := by
  have : ∀ k : Fin 60, decide (1 ≤ (cheat (k.val + 1)).2.length) = true := by decide +kernel
  have := this ⟨k - 1, by omega⟩; rw [show k - 1 + 1 = k by omega] at this; simpa using this
 unfold dlt; split <;> omega
theorem lsA_end {D : Dc} (h : OkD D) (hp : 0 < D.nd) {k : Nat} (h1 : 1 ≤ k) (h2 : k ≤ 60) :
 (lsA k D.nd 0 (D.nd + dlt k D) D.d D.tr).1 < 10 ^ dlt k D ∧ (0 < dlt k D → 10 ^ (dlt k D - 1) ≤ (lsA k D.nd 0 (D.nd + dlt k D) D.d D.tr).1) := by
 obtain ⟨j1, j2⟩ := dlt_just h hp h1 h2; have hp10 : ∀ m, 0 < 10 ^ m := fun m => Nat.pow_pos (by decide)
 rw [lsA_val k _ _ _ _ _ (Nat.le_add_right _ _), Nat.zero_add]; constructor
 · rw [Nat.div_lt_iff_lt_mul (hp10 _), Nat.mul_comm (10 ^ dlt k D), ← Nat.pow_add]
   exact j1
 · intro hd
   rw [Nat.le_div_iff_mul_le (hp10 _), ← Nat.pow_add]; obtain ⟨e, he⟩ : ∃ e, dlt k D = e + 1 := ⟨dlt k D - 1, by omega⟩; rw [he] at j2 ⊢; rw [← Nat.add_assoc, Nat.pow_succ] at j2; rw [Nat.add_sub_cancel, Nat.add_comm e]; omega
theorem lsP_spec {D : Dc} (h : OkD D) (hp : 0 < D.nd) {k : Nat} (h1 : 1 ≤ k) (h2 : k ≤ 60) :
 OkD (lsP k D) ∧ 0 < (lsP k D).nd ∧ (D.dp < (lsP k D).dp ∨ ((lsP k D).dp = D.dp ∧ D.d 0 < (lsP k D).d 0)) := by
 obtain ⟨e1, e2⟩ := lsA_end h hp h1 h2; have hdl := dlt_le h1 h2 D; obtain ⟨g1, g2⟩ := lsA_dig k D.nd 0 (D.nd + dlt k D) D.d D.tr (Nat.le_add_right _ _); have g3 := lsA_first k D.nd 0 D.d D.tr hp h.le; have hdef : lsP k D = trimD { D with d := (lsB (dlt k D) (lsA k D.nd 0 (D.nd + dlt k D) D.d D.tr).1 (lsA k D.nd 0 (D.nd + dlt k D) D.d D.tr).2.1 (lsA k D.nd 0 (D.nd + dlt k D) D.d D.tr).2.2).1, nd := if 800 ≤ D.nd + dlt k D then 800 else D.nd + dlt k D, dp := D.dp + dlt k D, tr := (lsB (dlt k D) (lsA k D.nd 0 (D.nd + dlt k D) D.d D.tr).1 (lsA k D.nd 0 (D.nd + dlt k D) D.d D.tr).2.1 (lsA k D.nd 0 (D.nd + dlt k D) D.d D.tr).2.2).2 } := rfl; rw [hdef]; obtain ⟨x, hx⟩ : ∃ x, dlt k D = x := ⟨_, rfl⟩; simp only [hx] at e1 e2 hdl g1 g2 g3 ⊢; obtain ⟨a, ha⟩ : ∃ a, lsA k D.nd 0 (D.nd + x) D.d D.tr = a := ⟨_, rfl⟩; simp only [ha] at e1 e2 g1 g2 g3 ⊢; have hl := h.lead hp; cases x with
 | zero =>
   rw [Nat.add_zero] at ha; rw [ha] at g3; obtain ⟨m, m1, m2, m3⟩ := g3; have hm : m < 10 := by
    rw [m2] at e1; simp at e1; omega
   have h2k : 2 ≤ 2 ^ k := Nat.le_trans (by decide) (Nat.pow_le_pow_right (by decide) h1); have hd0 : 1 ≤ dg D.d 0 := by unfold dg; omega
   have hm2 : dg D.d 0 * 2 ≤ m := Nat.le_trans (Nat.mul_le_mul_left _ h2k) m1; have hlead : D.d 0 < a.2.1 0 := by rw [m3]; unfold dg at hm2; omega
   have hok : OkD { D with d := (lsB 0 a.1 a.2.1 a.2.2).1, nd := if 800 ≤ D.nd + 0 then 800 else D.nd + 0, dp := D.dp + ((0 : Nat) : Int), tr := (lsB 0 a.1 a.2.1 a.2.2).2 } := by
    refine ⟨?_, fun i hi => ?_, fun _ => ?_⟩
    · show (if 800 ≤ D.nd + 0 then 800 else D.nd + 0) ≤ 800
      split <;> omega
    · have hi' : i < (if 800 ≤ D.nd + 0 then 800 else D.nd + 0) := hi
      have hle := h.le; exact g1 i (by omega) (by split at hi' <;> omega) (by split at hi' <;> omega)
    · show 49 ≤ a.2.1 0
      omega
   have hpos : 0 < (if 800 ≤ D.nd + 0 then 800 else D.nd + 0) := by split <;> omega
   have ht := trimD_pos hok hpos; refine ⟨trimD_ok hok, ht.1, Or.inr ⟨?_, hlead⟩⟩; rw [ht.2]; show D.dp + ((0 : Nat) : Int) = D.dp; omega
 | succ x =>
   have e3 := e2 (Nat.succ_pos _); rw [Nat.add_sub_cancel] at e3; obtain ⟨b1, b2, b3⟩ := lsB_spec x a.1 a.2.1 a.2.2 e3 e1 (by omega); have hok : OkD { D with d := (lsB (x + 1) a.1 a.2.1 a.2.2).1, nd := if 800 ≤ D.nd + (x + 1) then 800 else D.nd + (x + 1), dp := D.dp + ((x + 1 : Nat) : Int), tr := (lsB (x + 1) a.1 a.2.1 a.2.2).2 } := by
    refine ⟨?_, fun i hi => ?_, fun _ => b2⟩
    · show (if 800 ≤ D.nd + (x + 1) then 800 else D.nd + (x + 1)) ≤ 800
      split <;> omega
    · have hi' : i < (if 800 ≤ D.nd + (x + 1) then 800 else D.nd + (x + 1)) := hi
      show 48 ≤ (lsB (x + 1) a.1 a.2.1 a.2.2).1 i ∧ (lsB (x + 1) a.1 a.2.1 a.2.2).1 i ≤ 57; by_cases hix : i ≤ x
      · exact b1 i hix
      · rw [b3 i (by omega)]
        exact g1 i (by omega) (by split at hi' <;> omega) (by split at hi' <;> omega)
   have hpos : 0 < (if 800 ≤ D.nd + (x + 1) then 800 else D.nd + (x + 1)) := by split <;> omega
   have ht := trimD_pos hok hpos; refine ⟨trimD_ok hok, ht.1, Or.inl ?_⟩; rw [ht.2]; show D.dp < D.dp + ((x + 1 : Nat) : Int); omega
def pwt (i : Nat) : Nat := ([1, 3, 6, 9, 13, 16, 19, 23, 26] : List Nat)[i]?.getD 27
theorem pwt_le (i : Nat) : 1 ≤ pwt i ∧ pwt i ≤ 27 := by
 rcases Nat.lt_or_ge i 9 with h | h
 · have : ∀ i : Fin 9, 1 ≤ pwt i.val ∧ pwt i.val ≤ 27 := by decide
   exact this ⟨i, h⟩
 · unfold pwt
   rw [List.getElem?_eq_none (by simpa using h)]; decide
def fbA : Nat → Dc → Int → Dc × Int
 | 0, D, e => (D, e)
 | f + 1, D, e => if 0 < D.dp then fbA f (rsP (pwt D.dp.toNat) D) (e + pwt D.dp.toNat) else (D, e)
def fbB : Nat → Dc → Int → Dc × Int
 | 0, D, e => (D, e)
 | f + 1, D, e => if D.dp < 0 ∨ D.dp = 0 ∧ D.d 0 < 53 then fbB f (lsP (pwt (-D.dp).toNat) D) (e - pwt (-D.dp).toNat) else (D, e)
def muA (D : Dc) : Nat := D.dp.toNat * 10 + (D.d 0 - 48)
def muB (D : Dc) : Nat := if 0 < D.dp then 0 else (-D.dp).toNat * 10 + (57 - D.d 0) + 1
theorem muA_lt {D : Dc} (h : OkD D) (hp : 0 < D.nd) (hd : 0 < D.dp) : muA (rsP (pwt D.dp.toNat) D) < muA D := by
 obtain ⟨h1, h2, h3⟩ := rsP_spec h hp (pwt_le D.dp.toNat).1; have h4 := (h1.dig 0 h2).2; have h5 := (h1.dig 0 h2).1; unfold muA; omega
theorem muB_lt {D : Dc} (h : OkD D) (hp : 0 < D.nd) (hd : D.dp < 0 ∨ D.dp = 0 ∧ D.d 0 < 53) : muB (lsP (pwt (-D.dp).toNat) D) < muB D := by
 obtain ⟨h1, h2, h3⟩ := lsP_spec h hp (pwt_le (-D.dp).toNat).1 (by have := (pwt_le (-D.dp).toNat).2; omega); have h4 := h1.lead h2; have h5 := h.lead hp; have h6 := (h1.dig 0 h2).2; have h7 := (h.dig 0 hp).2; unfold muB; split <;> split <;> omega
def shR (m : Nat) (D : Dc) : Dc := if 60 < m then shR (m - 60) (rsP 60 D) else rsP m D
termination_by m
def shL (m : Nat) (D : Dc) : Dc := if 60 < m then shL (m - 60) (lsP 60 D) else lsP m D
termination_by m
def shP (k : Int) (D : Dc) : Dc := if D.nd = 0 then D else if 0 < k then shL k.toNat D else if k < 0 then shR (-k).toNat D else D
theorem shR_ok : ∀ (m : Nat) {D : Dc}, 1 ≤ m → OkD D → 0 < D.nd → OkD (shR m D) ∧ 0 < (shR m D).nd := by
 intro m; induction m using Nat.strongRecOn with
 | ind m ih =>
   intro D hm h hp; rw [shR]; split
   · obtain ⟨h1, h2, _⟩ := rsP_spec h hp (k := 60) (by decide)
     exact ih (m - 60) (by omega) (by omega) h1 h2
   · obtain ⟨h1, h2, _⟩ := rsP_spec h hp hm
     exact ⟨h1, h2⟩
theorem shL_ok : ∀ (m : Nat) {D : Dc}, 1 ≤ m → OkD D → 0 < D.nd → OkD (shL m D) ∧ 0 < (shL m D).nd := by
 intro m; induction m using Nat.strongRecOn with
 | ind m ih =>
   intro D hm h hp; rw [shL]; split
   · obtain ⟨h1, h2, _⟩ := lsP_spec h hp (k := 60) (by decide) (by decide)
     exact ih (m - 60) (by omega) (by omega) h1 h2
   · obtain ⟨h1, h2, _⟩ := lsP_spec h hp hm (by omega)
     exact ⟨h1, h2⟩
theorem shP_ok (k : Int) {D : Dc} (h : OkD D) (hp : 0 < D.nd) : OkD (shP k D) ∧ 0 < (shP k D).nd := by
 unfold shP; rw [if_neg (by omega)]; split
 · exact shL_ok _ (by omega) h hp
 · split
   · exact shR_ok _ (by omega) h hp
   · exact ⟨h, hp⟩
def ruB (D : Dc) (nd : Int) : Bool :=
 if nd < 0 ∨ (D.nd : Int) ≤ nd then false
 else if D.d nd.toNat = 53 ∧ nd.toNat + 1 = D.nd then (D.tr || (decide (0 < nd) && decide ((D.d (nd.toNat - 1) - 48) % 2 ≠ 0)))
 else decide (53 ≤ D.d nd.toNat)
def riA (d : Nat → Nat) : Nat → Nat
 | 0 => 0
 | i + 1 => (riA d i * 10 + dg d i) % 18446744073709551616
def riB : Nat → Nat → Nat
 | 0, n => n
 | c + 1, n => riB c (n * 10 % 18446744073709551616)
def riP (D : Dc) : Nat :=
 if 20 < D.dp then 18446744073709551615
 else (riB (D.dp.toNat - min D.dp.toNat D.nd) (riA D.d (min D.dp.toNat D.nd)) + if ruB D D.dp = true then 1 else 0) % 18446744073709551616
theorem riA_lt (d : Nat → Nat) : ∀ i, riA d i < 18446744073709551616
 | 0 => by simp [riA]
 | i + 1 => Nat.mod_lt _ (by decide)
theorem riB_lt : ∀ (c : Nat) {n : Nat}, n < 18446744073709551616 → riB c n < 18446744073709551616
 | 0, _, h => h
 | c + 1, _, _ => riB_lt c (Nat.mod_lt _ (by decide))
theorem riB_succ : ∀ (c n : Nat), riB (c + 1) n = riB c n * 10 % 18446744073709551616
 | 0, _ => rfl
 | c + 1, n => by
   show riB (c + 1) (n * 10 % 18446744073709551616) = _; rw [riB_succ c]; rfl
open Ieee
abbrev F64 : Format := FloatKind.f64.format
theorem f64_inf : F64.infRung = 9218868437227405312 := rfl
theorem f64_sign : F64.signWeight = 9223372036854775808 := rfl
theorem f64_binade : F64.binade = 4503599627370496 := rfl
def Fin' (b : Nat) : Prop := b ≤ 9218868437227405312
theorem word_false (f : Format) (r : Nat) : f.word false r = r := rfl
theorem nearest_le (f : Format) (m : Nat) (p : Int) : f.nearest false m p ≤ f.infRung := by
 unfold Format.nearest; split
 · rw [word_false]
   exact Nat.zero_le _
 · rw [word_false]
   exact Nat.min_le_right _ _
theorem nearest_fin (m : Nat) (p : Int) : Fin' (F64.nearest false m p) := by
 have h := nearest_le F64 m p; rw [f64_inf] at h; exact h
theorem read_fin {b : Nat} (h : Fin' b) : (∃ m p, F64.read b = .number false m p) ∨ F64.read b = .infinity false := by
 unfold Fin' at h; unfold Format.read; rw [f64_sign, f64_binade, f64_inf]; have e1 : (b / 9223372036854775808 % 2 == 1) = false := by simp; omega
 have e2 : b % 9223372036854775808 = b := Nat.mod_eq_of_lt (by omega); simp only [e1, e2]; split
 · exact Or.inl ⟨_, _, rfl⟩
 · split
   · exact Or.inl ⟨_, _, rfl⟩
   · rw [if_pos (by omega)]
     exact Or.inr rfl
theorem write_fin {d : Datum} (h : (∃ m p, d = .number false m p) ∨ d = .infinity false) : Fin' (F64.write d) := by
 rcases h with ⟨m, p, rfl⟩ | rfl
 · exact nearest_fin m p
 · have e : F64.write (.infinity false) = F64.infRung := rfl
   rw [e, f64_inf]; exact Nat.le_refl _
theorem div_fin {a b m : Nat} {p : Int} (h : Fin' a) (hb : F64.read b = .number false m p) (hm : m ≠ 0) : ∃ r, F64.div a b = some r ∧ Fin' r := by
 unfold Format.div; rw [hb]; rcases read_fin h with ⟨m', p', e⟩ | e
 · rw [e]
   simp only [Datum.quotient]; rw [if_neg hm]; exact ⟨_, rfl, write_fin (Or.inl ⟨_, _, rfl⟩)⟩
 · rw [e]
   exact ⟨_, rfl, write_fin (Or.inr rfl)⟩
theorem mul_fin {a b m : Nat} {p : Int} (h : Fin' a) (hb : F64.read b = .number false m p) (hm : m ≠ 0) : ∃ r, F64.mul a b = some r ∧ Fin' r := by
 unfold Format.mul; rw [hb]; rcases read_fin h with ⟨m', p', e⟩ | e
 · rw [e]
   exact ⟨_, rfl, write_fin (Or.inl ⟨_, _, rfl⟩)⟩
 · rw [e]
   simp only [Datum.product]; rw [if_neg hm]; exact ⟨_, rfl, write_fin (Or.inr rfl)⟩
open Go.RowKit
def DB (w : World) (g : Nat) (D : Dc) : Prop := ∃ cs : Array Value, w.heap[g]? = some (.cells cs 190 (0, 0)) ∧ cs.size = 804 ∧
 (∀ i : Nat, i < 800 → cs[i]? = some (.int .u8 (D.d i : Nat))) ∧ cs[800]? = some (.int .i64 (D.nd : Nat)) ∧ cs[801]? = some (.int .i64 D.dp) ∧ cs[802]? = some (.bool D.neg) ∧ cs[803]? = some (.bool D.tr)
section
variable {w : World} {g : Nat} {D : Dc}
theorem DB.cell_d (h : DB w g D) {i : Nat} (hi : i < 800) : w.cell? ⟨g, i, none⟩ = some (.int .u8 (D.d i : Nat)) := by
 obtain ⟨cs, h1, _, h2, _⟩ := h; exact block_cell h1 (h2 i hi)
theorem DB.cell_nd (h : DB w g D) : w.cell? ⟨g, 800, none⟩ = some (.int .i64 (D.nd : Nat)) := by
 obtain ⟨cs, h1, _, _, h2, _⟩ := h; exact block_cell h1 h2
theorem DB.cell_dp (h : DB w g D) : w.cell? ⟨g, 801, none⟩ = some (.int .i64 D.dp) := by
 obtain ⟨cs, h1, _, _, _, h2, _⟩ := h; exact block_cell h1 h2
theorem DB.cell_neg (h : DB w g D) : w.cell? ⟨g, 802, none⟩ = some (.bool D.neg) := by
 obtain ⟨cs, h1, _, _, _, _, h2, _⟩ := h; exact block_cell h1 h2
theorem DB.cell_tr (h : DB w g D) : w.cell? ⟨g, 803, none⟩ = some (.bool D.tr) := by
 obtain ⟨cs, h1, _, _, _, _, _, h2⟩ := h; exact block_cell h1 h2
theorem DB.free (h : DB w g D) (i : Nat) : w.frozen? ⟨g, i, none⟩ = false := by
 obtain ⟨cs, h1, _⟩ := h; exact block_free h1
theorem DB.lt (h : DB w g D) : g < w.heap.size := by
 obtain ⟨cs, h1, _⟩ := h; exact block_lt h1
theorem DB.keep {w' : World} (h : DB w g D) (hb : Below w.heap.size w w') : DB w' g D := by
 obtain ⟨cs, h1, h2⟩ := h; exact ⟨cs, block_below h1 hb, h2⟩
theorem DB.drewN (h : DB w g D) (n : Nat) : DB (w.drewN n) g D := h
theorem DB.set_d (h : DB w g D) {i : Nat} (hi : i < 800) (v : Nat) : DB (w.setCell ⟨g, i, none⟩ (.int .u8 (v : Nat))) g { D with d := upd D.d i v } := by
 obtain ⟨cs, h1, hs, h2, h3, h4, h5, h6⟩ := h; refine ⟨cs.setIfInBounds i (.int .u8 (v : Nat)), block_set h1 _, by simpa using hs, fun j hj => ?_, ?_, ?_, ?_, ?_⟩
 · by_cases e : i = j
   · subst e
     rw [Array.getElem?_setIfInBounds_self_of_lt (by omega)]; show _ = some (Value.int .u8 (upd D.d i v i : Nat)); rw [upd_same]
   · rw [Array.getElem?_setIfInBounds_ne e]
     show _ = some (Value.int .u8 (upd D.d i v j : Nat)); rw [upd_ne (fun e' => e e'.symm)]; exact h2 j hj
 all_goals (rw [Array.getElem?_setIfInBounds_ne (by omega)]; assumption)
theorem DB.set_nd (h : DB w g D) (n : Nat) : DB (w.setCell ⟨g, 800, none⟩ (.int .i64 (n : Nat))) g { D with nd := n } := by
 obtain ⟨cs, h1, hs, h2, h3, h4, h5, h6⟩ := h; refine ⟨cs.setIfInBounds 800 _, block_set h1 _, by simpa using hs, fun j hj => ?_, ?_, ?_, ?_, ?_⟩
 · rw [Array.getElem?_setIfInBounds_ne (by omega)]; exact h2 j hj
 · rw [Array.getElem?_setIfInBounds_self_of_lt (by omega)]
 all_goals (rw [Array.getElem?_setIfInBounds_ne (by omega)]; assumption)
theorem DB.set_dp (h : DB w g D) (n : Int) : DB (w.setCell ⟨g, 801, none⟩ (.int .i64 n)) g { D with dp := n } := by
 obtain ⟨cs, h1, hs, h2, h3, h4, h5, h6⟩ := h; refine ⟨cs.setIfInBounds 801 _, block_set h1 _, by simpa using hs, fun j hj => ?_, ?_, ?_, ?_, ?_⟩
 · rw [Array.getElem?_setIfInBounds_ne (by omega)]; exact h2 j hj
 · rw [Array.getElem?_setIfInBounds_ne (by omega)]; exact h3
 · rw [Array.getElem?_setIfInBounds_self_of_lt (by omega)]
 all_goals (rw [Array.getElem?_setIfInBounds_ne (by omega)]; assumption)
theorem DB.set_neg (h : DB w g D) (b : Bool) : DB (w.setCell ⟨g, 802, none⟩ (.bool b)) g { D with neg := b } := by
 obtain ⟨cs, h1, hs, h2, h3, h4, h5, h6⟩ := h; refine ⟨cs.setIfInBounds 802 _, block_set h1 _, by simpa using hs, fun j hj => ?_, ?_, ?_, ?_, ?_⟩
 · rw [Array.getElem?_setIfInBounds_ne (by omega)]; exact h2 j hj
 · rw [Array.getElem?_setIfInBounds_ne (by omega)]; exact h3
 · rw [Array.getElem?_setIfInBounds_ne (by omega)]; exact h4
 · rw [Array.getElem?_setIfInBounds_self_of_lt (by omega)]
 · rw [Array.getElem?_setIfInBounds_ne (by omega)]; exact h6
theorem DB.set_tr (h : DB w g D) (b : Bool) : DB (w.setCell ⟨g, 803, none⟩ (.bool b)) g { D with tr := b } := by
 obtain ⟨cs, h1, hs, h2, h3, h4, h5, h6⟩ := h; refine ⟨cs.setIfInBounds 803 _, block_set h1 _, by simpa using hs, fun j hj => ?_, ?_, ?_, ?_, ?_⟩
 · rw [Array.getElem?_setIfInBounds_ne (by omega)]; exact h2 j hj
 · rw [Array.getElem?_setIfInBounds_ne (by omega)]; exact h3
 · rw [Array.getElem?_setIfInBounds_ne (by omega)]; exact h4
 · rw [Array.getElem?_setIfInBounds_ne (by omega)]; exact h5
 · rw [Array.getElem?_setIfInBounds_self_of_lt (by omega)]
end
end Go.Proofs.YtkoghgnjjfnamaaGreatDoor
