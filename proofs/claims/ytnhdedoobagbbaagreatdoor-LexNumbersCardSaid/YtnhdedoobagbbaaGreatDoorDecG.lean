/- How far a shift moves a decimal's point. -/
import Derived.Test.YtnhdedoobagbbaaGreatDoorDecF
namespace Go.Proofs.YtnhdedoobagbbaaGreatDoor

theorem rsP_dp {D : Dc} (h : OkD D) (hp : 0 < D.nd) {k : Nat} (hk : 1 ≤ k) :
    (rsP k D).dp = D.dp - (((rsA D.d k D.nd 0 0).2 : Int) - 1) := by
  obtain ⟨_, h2, _⟩ := rsP_spec h hp hk
  have e : ∀ D' : Dc, 0 < (trimD D').nd → (trimD D').dp = D'.dp := by
    intro D' h'
    have h'' : 0 < trimN D'.d D'.nd := h'
    show (if trimN D'.d D'.nd = 0 then 0 else D'.dp) = D'.dp
    rw [if_neg (by omega)]
  unfold rsP at h2 ⊢
  rw [e _ h2]
theorem rsP_dp_lo {D : Dc} (h : OkD D) (hp : 0 < D.nd) {k : Nat} (hk : 1 ≤ k) : D.dp - (800 + k) ≤ (rsP k D).dp ∧ (rsP k D).dp ≤ D.dp := by
  have hA := rsA_spec h.dig (k := k) D.nd 0 0 (by omega) (Or.inr ⟨rfl, hp, h.lead hp⟩) (by have := two_pow_pos k; omega)
  have hF := rsA_first h hp hk
  have hle := h.le
  rw [rsP_dp h hp hk]
  omega
/-- By four places or more: the point comes down. -/
theorem rsP_dp_hi {D : Dc} (h : OkD D) (hp : 0 < D.nd) {k : Nat} (hk : 4 ≤ k) : (rsP k D).dp < D.dp := by
  have hF := rsA_first h hp (k := k) (by omega)
  rw [rsP_dp h hp (by omega)]
  rcases hF with ⟨h1, h2⟩ | h2
  · exfalso
    have hA := rsA_spec h.dig (k := k) D.nd 0 0 (by omega) (Or.inr ⟨rfl, hp, h.lead hp⟩) (by have := two_pow_pos k; omega)
    have hd := (h.dig.dg (i := 0) hp).1
    have : 2 ^ 4 ≤ 2 ^ k := Nat.pow_le_pow_right (by decide) hk
    omega
  · omega
theorem lsP_dp {D : Dc} (h : OkD D) (hp : 0 < D.nd) {k : Nat} (h1 : 1 ≤ k) (h2 : k ≤ 60) : (lsP k D).dp = D.dp + (dlt k D : Nat) := by
  obtain ⟨_, h3, _⟩ := lsP_spec h hp h1 h2
  have e : ∀ D' : Dc, 0 < (trimD D').nd → (trimD D').dp = D'.dp := by
    intro D' h'
    have h'' : 0 < trimN D'.d D'.nd := h'
    show (if trimN D'.d D'.nd = 0 then 0 else D'.dp) = D'.dp
    rw [if_neg (by omega)]
  unfold lsP at h3 ⊢
  rw [e _ h3]
theorem lsP_dp_hi {D : Dc} (h : OkD D) (hp : 0 < D.nd) {k : Nat} (h1 : 1 ≤ k) (h2 : k ≤ 60) : D.dp ≤ (lsP k D).dp ∧ (lsP k D).dp ≤ D.dp + 60 := by
  rw [lsP_dp h hp h1 h2]
  have := dlt_le h1 h2 D
  omega
theorem rsP_neg (k : Nat) (D : Dc) : (rsP k D).neg = D.neg := rfl
theorem lsP_neg (k : Nat) (D : Dc) : (lsP k D).neg = D.neg := rfl
theorem shR_neg : ∀ (m : Nat) (D : Dc), (shR m D).neg = D.neg := by
  intro m
  induction m using Nat.strongRecOn with
  | ind m ih =>
    intro D
    rw [shR]
    split
    · rw [ih (m - 60) (by omega), rsP_neg]
    · exact rsP_neg _ _
theorem shL_neg : ∀ (m : Nat) (D : Dc), (shL m D).neg = D.neg := by
  intro m
  induction m using Nat.strongRecOn with
  | ind m ih =>
    intro D
    rw [shL]
    split
    · rw [ih (m - 60) (by omega), lsP_neg]
    · exact lsP_neg _ _
theorem shP_neg (k : Int) (D : Dc) : (shP k D).neg = D.neg := by
  unfold shP
  split
  · rfl
  · split
    · exact shL_neg _ _
    · split
      · exact shR_neg _ _
      · rfl
theorem shR_dp : ∀ (m : Nat) {D : Dc}, 1 ≤ m → OkD D → 0 < D.nd → D.dp - 860 * ((m : Int) + 1) ≤ (shR m D).dp ∧ (shR m D).dp ≤ D.dp := by
  intro m
  induction m using Nat.strongRecOn with
  | ind m ih =>
    intro D hm h hp
    rw [shR]
    split
    · obtain ⟨h1, h2, _⟩ := rsP_spec h hp (k := 60) (by decide)
      have h3 := rsP_dp_lo h hp (k := 60) (by decide)
      have := ih (m - 60) (by omega) (by omega) h1 h2
      omega
    · have := rsP_dp_lo h hp hm
      omega
theorem shL_dp : ∀ (m : Nat) {D : Dc}, 1 ≤ m → OkD D → 0 < D.nd → D.dp ≤ (shL m D).dp ∧ (shL m D).dp ≤ D.dp + 60 * ((m : Int) + 1) := by
  intro m
  induction m using Nat.strongRecOn with
  | ind m ih =>
    intro D hm h hp
    rw [shL]
    split
    · obtain ⟨h1, h2, _⟩ := lsP_spec h hp (k := 60) (by decide) (by decide)
      have h3 := lsP_dp_hi h hp (k := 60) (by decide) (by decide)
      have := ih (m - 60) (by omega) (by omega) h1 h2
      omega
    · have := lsP_dp_hi h hp hm (by omega)
      omega
theorem shP_dp (k : Int) {D : Dc} (h : OkD D) (hp : 0 < D.nd) : D.dp - 860 * (k.natAbs + 1) ≤ (shP k D).dp ∧ (shP k D).dp ≤ D.dp + 60 * (k.natAbs + 1) := by
  unfold shP
  rw [if_neg (by omega)]
  split
  · have := shL_dp k.toNat (by omega) h hp
    omega
  · split
    · have := shR_dp (-k).toNat (by omega) h hp
      omega
    · omega
/-- What the shifts to the right may still add to the exponent. -/
def phi (D : Dc) : Nat := if D.dp ≤ 0 then 0 else if D.dp = 1 then 3 * (D.d 0 - 48) else 27 * D.dp.toNat
theorem pwt_one : pwt 1 = 3 := rfl
theorem pwt_more {i : Nat} (h : 2 ≤ i) : 4 ≤ pwt i := by
  rcases Nat.lt_or_ge i 9 with h' | h'
  · have : ∀ i : Fin 9, 2 ≤ i.val → 4 ≤ pwt i.val := by decide
    exact this ⟨i, h'⟩ h
  · unfold pwt
    rw [List.getElem?_eq_none (by simpa using h')]
    decide
theorem phi_step {D : Dc} (h : OkD D) (hp : 0 < D.nd) (hd : 0 < D.dp) : phi (rsP (pwt D.dp.toNat) D) + pwt D.dp.toNat ≤ phi D := by
  obtain ⟨h1, h2, h3⟩ := rsP_spec h hp (pwt_le D.dp.toNat).1
  have h4 := (h1.dig 0 h2).2
  have h5 := (h1.dig 0 h2).1
  have h6 := (pwt_le D.dp.toNat).2
  have h9 := (h.dig 0 hp).1
  have h10 := h.lead hp
  by_cases e : D.dp = 1
  · have e1 : D.dp.toNat = 1 := by omega
    have e2 : phi D = 3 * (D.d 0 - 48) := by
      simp [phi, e]
    rw [e2]
    rw [e1, pwt_one] at h1 h2 h3 h4 h5 ⊢
    generalize rsP 3 D = R at *
    unfold phi
    split
    · omega
    · split <;> omega
  · have h7 := rsP_dp_hi h hp (pwt_more (i := D.dp.toNat) (by omega))
    generalize rsP (pwt D.dp.toNat) D = R at *
    generalize pwt D.dp.toNat = q at *
    have e2 : phi D = 27 * D.dp.toNat := by
      simp [phi, e]
      omega
    rw [e2]
    unfold phi
    split
    · omega
    · split <;> omega
end Go.Proofs.YtnhdedoobagbbaaGreatDoor
