/- Rounding, and the fast way back from digits to a float: it is the float in whose interval the digits lie. -/
import Derived.Test.YtbgjhgohffkonaaGreatDoorFltQ
import Derived.Test.YtbgjhgohffkonaaGreatDoorVtA
namespace Go.Proofs.YtbgjhgohffkonaaGreatDoor
set_option linter.unusedVariables false
/-- A power of ten lies between powers of two. -/
theorem ten_lo {i K K' : Nat} (hi : i < 696) (h : (K : Int) + lpN i = K') : tenB * 2 ^ K' ≤ 10 ^ i * 2 ^ K := by
  obtain ⟨_, _, _, _, h2⟩ := pm_at hi
  have hl : lpN i ≤ 1327 := by unfold lpN; omega
  obtain ⟨e, he, hp⟩ := powZ_is
  rw [hp, show (170141183460469231731687303715884105728 : Nat) = 2 ^ 127 by decide, Nat.mul_left_comm, ← Nat.pow_add] at h2
  unfold powR at h2
  exact (pw_le (by omega)).1 h2
theorem ten_hi {i K K' : Nat} (hi : i < 696) (h : (K : Int) + lpN i = K') : 1000 * 10 ^ i * 2 ^ K ≤ 999 * tenB * 2 ^ (K' + 1) := by
  obtain ⟨_, _, _, h1, _⟩ := pm_at hi
  have hl : lpN i ≤ 1327 := by unfold lpN; omega
  obtain ⟨e, he, hp⟩ := powZ_is
  have e1 : 999 * 340282366920938463463374607431768211456 * powZ = 999 * tenB * 2 ^ (128 + e) := by
    rw [hp, show (340282366920938463463374607431768211456 : Nat) = 2 ^ 128 by decide, Nat.pow_add]
    generalize (2 : Nat) ^ 128 = z
    generalize (2 : Nat) ^ e = y
    grind
  have e2 : 1000 * powR i = 1000 * 10 ^ i * 2 ^ (1327 - lpN i).toNat := by unfold powR; rw [Nat.mul_assoc]
  rw [e1, e2] at h1
  exact (pw_le (by omega)).1 h1
/-- A float's significand and its place; the least number that is rounded to it. -/
def Nrm (m k : Nat) : Prop := 1 ≤ m ∧ m < 9007199254740992 ∧ (k = 0 ∨ 4503599627370496 ≤ m)
def lowN (m k : Nat) : Nat := if m = 4503599627370496 ∧ 0 < k then 4 * m - 1 else 4 * m - 2
/-- A / C lies where it is rounded to m at place k. -/
def RI (m k A C : Nat) : Prop := (m % 2 = 0 → lowN m k * 2 ^ k * C ≤ A ∧ A ≤ (4 * m + 2) * 2 ^ k * C) ∧ (m % 2 = 1 → lowN m k * 2 ^ k * C < A ∧ A < (4 * m + 2) * 2 ^ k * C)
theorem RI.le {m k A C : Nat} (h : RI m k A C) : lowN m k * 2 ^ k * C ≤ A ∧ A ≤ (4 * m + 2) * 2 ^ k * C := by
  rcases Nat.mod_two_eq_zero_or_one m with h0 | h0
  · exact h.1 h0
  · exact ⟨Nat.le_of_lt (h.2 h0).1, Nat.le_of_lt (h.2 h0).2⟩
theorem uniq_lt {m k m' k' A C : Nat} (hC : 0 < C) (n : Nrm m k) (n' : Nrm m' k') (h : RI m k A C) (h' : RI m' k' A C) (hk : k < k') : False := by
  obtain ⟨n1, n2, _⟩ := n
  obtain ⟨_, _, n3⟩ := n'
  have n3 : 4503599627370496 ≤ m' := by omega
  have l1 : 4 * 4503599627370496 - 1 ≤ lowN m' k' := by unfold lowN; split <;> omega
  have l2 := h'.le.1
  have p : 2 ^ (k + 1) ≤ 2 ^ k' := Nat.pow_le_pow_right (by decide) hk
  have l3 : (4 * 4503599627370496 - 1) * 2 ^ (k + 1) * C ≤ A := Nat.le_trans (Nat.mul_le_mul_right C (Nat.mul_le_mul l1 p)) l2
  have e : (4 * 4503599627370496 - 1) * 2 ^ (k + 1) = (4 * 9007199254740991 + 2) * 2 ^ k := by rw [Nat.pow_succ]; omega
  rw [e] at l3
  have hp : 0 < 2 ^ k := p2_pos k
  rcases Nat.lt_or_ge m 9007199254740991 with hm | hm
  · have l4 := h.le.2
    have l5 : (4 * m + 2) * 2 ^ k * C < (4 * 9007199254740991 + 2) * 2 ^ k * C := Nat.mul_lt_mul_of_pos_right (Nat.mul_lt_mul_of_pos_right (by omega) hp) hC
    exact absurd (Nat.lt_of_le_of_lt (Nat.le_trans l3 l4) l5) (Nat.lt_irrefl _)
  · have hm : m = 9007199254740991 := by omega
    subst hm
    exact absurd (Nat.lt_of_le_of_lt l3 (h.2 (by decide)).2) (Nat.lt_irrefl _)
theorem uniq_m {m k m' A C : Nat} (hC : 0 < C) (n : Nrm m k) (h : RI m k A C) (h' : RI m' k A C) (hm : m < m') : False := by
  obtain ⟨n1, n2, n3⟩ := n
  have l1 : 4 * m' - 2 ≤ lowN m' k := by unfold lowN; split <;> omega
  have hp : 0 < 2 ^ k := p2_pos k
  rcases Nat.lt_or_ge (m + 1) m' with hm2 | hm2
  · have l2 := h.le.2
    have l3 := h'.le.1
    have l5 : (4 * m + 2) * 2 ^ k * C < lowN m' k * 2 ^ k * C := Nat.mul_lt_mul_of_pos_right (Nat.mul_lt_mul_of_pos_right (by omega) hp) hC
    omega
  · have hm3 : m' = m + 1 := by omega
    have l5 : (4 * m + 2) * 2 ^ k * C ≤ lowN m' k * 2 ^ k * C := Nat.mul_le_mul_right _ (Nat.mul_le_mul_right _ (by omega))
    rcases Nat.mod_two_eq_zero_or_one m with h0 | h0
    · have := (h'.2 (by omega)).1
      have := h.le.2
      omega
    · have := (h.2 (by omega)).2
      have := h'.le.1
      omega
theorem uniq {m k m' k' A C : Nat} (hC : 0 < C) (n : Nrm m k) (n' : Nrm m' k') (h : RI m k A C) (h' : RI m' k' A C) : m = m' ∧ k = k' := by
  rcases Nat.lt_trichotomy k k' with hk | hk | hk
  · exact (uniq_lt hC n n' h h' hk).elim
  · subst hk
    rcases Nat.lt_trichotomy m m' with hm | hm | hm
    · exact (uniq_m hC n h h' hm).elim
    · exact ⟨hm, rfl⟩
    · exact (uniq_m hC n' h' h hm).elim
  · exact (uniq_lt hC n' n h' h hk).elim
theorem rnd_in (V : Nat) : (rndN V % 2 = 0 → 4 * rndN V ≤ V + 2 ∧ V ≤ 4 * rndN V + 2) ∧ (rndN V % 2 = 1 → 4 * rndN V < V + 2 ∧ V < 4 * rndN V + 2) := by
  unfold rndN
  omega
/-- Rounding an unrounded number. -/
theorem unr_round {V A C : Nat} (h : UnrB V A C) (hr : 1 ≤ rndN V) : (rndN V % 2 = 0 → (4 * rndN V - 2) * C ≤ A ∧ A ≤ (4 * rndN V + 2) * C) ∧ (rndN V % 2 = 1 → (4 * rndN V - 2) * C < A ∧ A < (4 * rndN V + 2) * C) := by
  obtain ⟨h1, h2⟩ := rnd_in V
  generalize rndN V = r at *
  obtain ⟨a1, a2⟩ := h (2 * r - 1)
  obtain ⟨b1, b2⟩ := h (2 * r + 1)
  rw [show 2 * (2 * r - 1) = 4 * r - 2 by omega] at a1 a2
  rw [show 2 * (2 * r + 1) = 4 * r + 2 by omega] at b1 b2
  refine ⟨fun h0 => ⟨?_, b2.1 (h1 h0).2⟩, fun h0 => ⟨?_, b1.1 (h2 h0).2⟩⟩
  · refine Nat.le_of_not_lt fun hl => ?_
    have := a1.2 hl
    have := (h1 h0).1
    omega
  · refine Nat.lt_of_not_le fun hl => ?_
    have := a2.2 hl
    have := (h2 h0).1
    omega
theorem unr_half {u A C : Nat} (h : UnrB u A C) : UnrB (u / 2 ||| u % 2) A (C * 2) := by
  intro c
  obtain ⟨h1, h2⟩ := h (2 * c)
  have e : 2 * c * (C * 2) = 2 * (2 * c) * C := by grind
  rw [e]
  have e2 : u / 2 ||| u % 2 = if u % 2 = 0 then u / 2 else u / 2 / 2 * 2 + 1 := by
    rcases Nat.mod_two_eq_zero_or_one u with h0 | h0
    · rw [h0, Nat.or_zero, if_pos rfl]
    · rw [h0, or1, if_neg (by decide)]
  rw [e2]
  constructor
  · rw [← h1]; split <;> omega
  · rw [← h2]; split <;> omega
theorem pfB_bd {d : Nat} (h0 : 0 < d) (hd : d < 18446744073709551616) : 1 ≤ pfB d ∧ 2 ^ (pfB d - 1) ≤ d ∧ d < 2 ^ pfB d := Lib.bitLenAux_bounds 64 d hd (by omega)
theorem scale_le {a b X Y n : Nat} (h : a * X ≤ b * Y) : a * (X * 2 ^ n) ≤ b * (Y * 2 ^ n) := by
  rw [← Nat.mul_assoc, ← Nat.mul_assoc]
  exact Nat.mul_le_mul_right _ h
@[irreducible] def exB : Nat := 1076
theorem exB_is : exB = 1076 := by unfold exB; rfl
/-- Where digits d times a power of ten lie. -/
theorem dec_lo {d b i J N : Nat} (hi : i < 696) (hb : 2 ^ b ≤ d) (h : (J : Int) + lpN i + b = N) : tenB * 2 ^ N ≤ d * 10 ^ i * 2 ^ J := by
  obtain ⟨z, hz⟩ : ∃ z : Nat, z = 1200 := ⟨_, rfl⟩
  have h1 : tenB * 2 ^ ((z : Nat) + lpN i).toNat ≤ 10 ^ i * 2 ^ z := ten_lo hi (by unfold lpN; omega)
  have h2 := Nat.mul_le_mul hb h1
  rw [Nat.mul_left_comm, ← Nat.mul_assoc, ← Nat.mul_assoc, Nat.mul_assoc tenB, ← Nat.pow_add] at h2
  have hl : -1200 ≤ lpN i := by unfold lpN; omega
  exact (pw_le (by omega)).1 h2
theorem dec_hi {d b i J N : Nat} (hi : i < 696) (hd : 0 < d) (hb : d < 2 ^ b) (h : (J : Int) + lpN i + b + 1 = N) : 1000 * (d * 10 ^ i * 2 ^ J) < 999 * (tenB * 2 ^ N) := by
  obtain ⟨z, hz⟩ : ∃ z : Nat, z = 1200 := ⟨_, rfl⟩
  have h1 : 1000 * 10 ^ i * 2 ^ z ≤ 999 * tenB * 2 ^ (((z : Nat) + lpN i).toNat + 1) := ten_hi hi (by unfold lpN; omega)
  have hl : -1200 ≤ lpN i := by unfold lpN; omega
  have p : 0 < 1000 * 10 ^ i * 2 ^ z := Nat.mul_pos (Nat.mul_pos (by decide) (p10_pos i)) (p2_pos _)
  have h2 : d * (1000 * 10 ^ i * 2 ^ z) < 2 ^ b * (999 * tenB * 2 ^ (((z : Nat) + lpN i).toNat + 1)) := Nat.lt_of_lt_of_le (Nat.mul_lt_mul_of_pos_right hb p) (Nat.mul_le_mul_left _ h1)
  have e1 : d * (1000 * 10 ^ i * 2 ^ z) = 1000 * (d * 10 ^ i) * 2 ^ z := by
    generalize (2 : Nat) ^ z = z
    grind
  have e2 : 2 ^ b * (999 * tenB * 2 ^ (((z : Nat) + lpN i).toNat + 1)) = 999 * tenB * 2 ^ (b + (((z : Nat) + lpN i).toNat + 1)) := by
    rw [Nat.pow_add 2 b]
    generalize (2 : Nat) ^ (((z : Nat) + lpN i).toNat + 1) = z
    grind
  rw [e1, e2] at h2
  have h3 := (pw_lt (A := 1000 * (d * 10 ^ i)) (C := 999 * tenB) (K := J) (K' := N) (by omega)).1 h2
  rw [Nat.mul_assoc 1000, Nat.mul_assoc 999] at h3
  exact h3
theorem RI.pos {m k A C : Nat} (h : RI m k A C) (n : Nrm m k) : 2 * C ≤ A ∧ (A = 2 * C → False ∨ C = 0) := by
  have hp : 1 ≤ 2 ^ k := p2_pos k
  by_cases h1 : m = 1
  · subst h1
    have := (h.2 (by decide)).1
    have l : lowN 1 k = 2 := by unfold lowN; rw [if_neg (by omega)]
    rw [l] at this
    have l2 : 2 * 1 * C ≤ 2 * 2 ^ k * C := Nat.mul_le_mul_right _ (Nat.mul_le_mul_left _ hp)
    omega
  · have := h.le.1
    have l : 6 ≤ lowN m k := by have := n.1; unfold lowN; split <;> omega
    have l2 : 6 * 1 * C ≤ lowN m k * 2 ^ k * C := Nat.mul_le_mul_right _ (Nat.mul_le_mul l hp)
    omega
/-- The fast way back to a float is right. -/
theorem pf64_back {d i m k : Nat} (hd0 : 0 < d) (hd : d < 18446744073709551616) (hi : i < 696) (hc : d < 144115188075855872 ∨ (321 ≤ i ∧ i ≤ 374))
    (n : Nrm m k) (hk : k ≤ 2045) (h : RI m k (d * 10 ^ i * 2 ^ exB) tenB) :
    pf64 d ((i : Int) - 348) = k * 4503599627370496 + m ∧ pfS d ((i : Int) - 348) < 64 ∧
      -(pfE d ((i : Int) - 348) - (pfT (pfU d ((i : Int) - 348)) : Nat)) < 972 := by
  obtain ⟨b1, b2, b3⟩ := pfB_bd hd0 hd
  have hL : pfL ((i : Int) - 348) = lpN i := rfl
  have hUE : pfU d ((i : Int) - 348) = uscN (pfX d) (pwR i).1 (pwR i).2 (pfS d ((i : Int) - 348)).toNat := by
    unfold pfU
    rw [show ((i : Int) - 348 + 348).toNat = i by omega]
  have hSE : pfS d ((i : Int) - 348) = -(pfE d ((i : Int) - 348) - (64 - (pfB d : Nat)) + lpN i + 3) := rfl
  have hEE : pfE d ((i : Int) - 348) = min 1074 (53 - (pfB d : Nat) - lpN i) := rfl
  have hb64 : pfB d ≤ 64 := by
    rcases Nat.lt_or_ge 64 (pfB d) with h1 | h1
    · have : 2 ^ 64 ≤ 2 ^ (pfB d - 1) := Nat.pow_le_pow_right (by decide) (by omega)
      omega
    · exact h1
  have hXE : pfX d = d * 2 ^ (64 - pfB d) := by
    unfold pfX
    refine Nat.mod_eq_of_lt ?_
    calc d * 2 ^ (64 - pfB d) < 2 ^ pfB d * 2 ^ (64 - pfB d) := Nat.mul_lt_mul_of_pos_right b3 (p2_pos _)
      _ = 2 ^ 64 := by rw [← Nat.pow_add]; congr 1; omega
      _ = 18446744073709551616 := by decide
  have hX : pfX d < 18446744073709551616 := Nat.mod_lt _ (by decide)
  have hX0 : 0 < pfX d := by rw [hXE]; exact Nat.mul_pos hd0 (p2_pos _)
  have hX7 : pfX d % 128 = 0 ∨ (321 ≤ i ∧ i ≤ 374) := by
    rcases hc with hc | hc
    · refine Or.inl ?_
      have : pfB d ≤ 57 := by
        rcases Nat.lt_or_ge 57 (pfB d) with h1 | h1
        · have : 2 ^ 57 ≤ 2 ^ (pfB d - 1) := Nat.pow_le_pow_right (by decide) (by omega)
          omega
        · exact h1
      rw [hXE, show 64 - pfB d = (57 - pfB d) + 7 by omega, Nat.pow_add, ← Nat.mul_assoc]
      exact Nat.mul_mod_left _ _
    · exact Or.inr hc
  have hlp1 : -1200 ≤ lpN i := by unfold lpN; omega
  have hlp2 : lpN i ≤ 1200 := by unfold lpN; omega
  -- it is not too small
  have hsm : -1075 ≤ (pfB d : Int) + lpN i := by
    refine Int.not_lt.1 fun hlt => ?_
    obtain ⟨z, hz⟩ : ∃ z : Nat, z = 1200 := ⟨_, rfl⟩
    have hx := exB_is
    have h1 := dec_hi (d := d) (b := pfB d) (i := i) (J := exB + z) (N := (exB + z + lpN i + pfB d + 1).toNat) hi hd0 b3 (by omega)
    have h2 := (h.pos n).1
    have h3 : 2 * tenB * 2 ^ z ≤ d * 10 ^ i * 2 ^ exB * 2 ^ z := Nat.mul_le_mul_right _ h2
    rw [Nat.mul_assoc _ (2 ^ exB), ← Nat.pow_add, Nat.mul_comm 2 tenB, Nat.mul_assoc tenB, ← Nat.pow_succ'] at h3
    have h4 : tenB * 2 ^ (exB + z + lpN i + pfB d + 1).toNat ≤ tenB * 2 ^ (z + 1) := Nat.mul_le_mul_left _ (Nat.pow_le_pow_right (by decide) (by omega))
    have h5 : 0 < tenB * 2 ^ (z + 1) := Nat.mul_pos tenB_pos (p2_pos _)
    generalize d * 10 ^ i * 2 ^ (exB + z) = A at *
    generalize tenB * 2 ^ (z + 1) = B at *
    generalize tenB * 2 ^ (exB + z + lpN i + pfB d + 1).toNat = D at *
    omega
  have hS8 : 8 ≤ pfS d ((i : Int) - 348) := by rw [hSE, hEE]; omega
  have hS63 : pfS d ((i : Int) - 348) ≤ 62 := by rw [hSE, hEE]; omega
  generalize hE : pfE d ((i : Int) - 348) = e at *
  generalize hSS : pfS d ((i : Int) - 348) = S at *
  obtain ⟨s, rfl⟩ : ∃ s : Nat, S = (s : Int) := ⟨S.toNat, by omega⟩
  rw [Int.toNat_natCast] at hUE
  -- the product
  obtain ⟨N, hN⟩ : ∃ N : Nat, (N : Int) = 1138 - (pfB d : Int) - e := ⟨(1138 - (pfB d : Int) - e).toNat, by omega⟩
  obtain ⟨y, hy⟩ : ∃ y : Nat, y = 1076 := ⟨_, rfl⟩
  have hu := usc_val (K := y) (K' := N) hX0 hX hi (show 5 ≤ s by omega) hX7 (by omega)
  rw [← hUE] at hu
  obtain ⟨J, hJ⟩ : ∃ J : Nat, J = 64 - pfB d + y := ⟨_, rfl⟩
  have hXA : pfX d * 10 ^ i * 2 ^ y = d * 10 ^ i * 2 ^ J := by
    rw [hXE, Nat.mul_right_comm d, Nat.mul_assoc (d * 10 ^ i), ← Nat.pow_add, hJ]
  rw [hXA] at hu
  have hJN : (J : Int) = N + e + 2 := by omega
  have hpf : pf64 d ((i : Int) - 348) = packN (rndN (pfV (pfU d ((i : Int) - 348)))) (-(e - (pfT (pfU d ((i : Int) - 348)) : Nat))) := by
    unfold pf64
    rw [hSS, hE, if_neg (by omega)]
  rw [hpf]
  generalize pfU d ((i : Int) - 348) = u at *
  clear hpf hUE hXA hX hX0 hX7 hXE hSE
  -- bounds of u
  have uhi : u < 72022409665839104 := by
    have h1 := dec_hi (d := d) (b := pfB d) (i := i) (J := J) (N := (J + lpN i + pfB d + 1).toNat) hi hd0 b3 (by omega)
    have h2 : tenB * 2 ^ (J + lpN i + pfB d + 1).toNat ≤ tenB * 2 ^ (N + 56) := Nat.mul_le_mul_left _ (Nat.pow_le_pow_right (by decide) (by omega))
    rw [Nat.pow_add, ← Nat.mul_assoc, show (2 : Nat) ^ 56 = 72057594037927936 by decide] at h2
    have := (hu 36011204832919552).1.2
    rw [show 2 * 36011204832919552 = 72022409665839104 by decide] at this
    refine this ?_
    have h5 : 0 < tenB * 2 ^ N := Nat.mul_pos tenB_pos (p2_pos _)
    generalize d * 10 ^ i * 2 ^ J = A at *
    generalize tenB * 2 ^ N = B at *
    generalize tenB * 2 ^ (J + lpN i + pfB d + 1).toNat = D at *
    omega
  have ulo : e < 1074 → 18014398509481984 ≤ u := by
    intro he
    have h1 := dec_lo (d := d) (b := pfB d - 1) (i := i) (J := J) (N := N + 54) hi b2 (by omega)
    rw [Nat.pow_add, ← Nat.mul_assoc, show (2 : Nat) ^ 54 = 18014398509481984 by decide] at h1
    refine Nat.le_of_not_lt fun hlt => ?_
    have := (hu 9007199254740992).1.1 hlt
    generalize d * 10 ^ i * 2 ^ J = A at *
    generalize tenB * 2 ^ N = B at *
    omega
  have hT : (pfT u = 1 ∧ 36028797018963966 ≤ u) ∨ (pfT u = 0 ∧ u < 36028797018963966) := by unfold pfT; split <;> omega
  -- what is rounded
  have hV : UnrB (pfV u) (d * 10 ^ i * 2 ^ J) (tenB * 2 ^ (N + pfT u)) ∧ (pfT u = 1 → 18014398509481983 ≤ pfV u ∧ pfV u < 36011204832919552) ∧ (pfT u = 0 → pfV u = u) ∧ (pfT u = 1 → 4 * 4503599627370496 * (tenB * 2 ^ (N + pfT u)) ≤ d * 10 ^ i * 2 ^ J + tenB * 2 ^ (N + pfT u)) := by
    rcases hT with ⟨h1, h2⟩ | ⟨h1, h2⟩
    · have hh := unr_half hu
      have e1 : pfV u = u / 2 ||| u % 2 := by unfold pfV; rw [h1]
      have e2 : pfV u = if u % 2 = 0 then u / 2 else u / 2 / 2 * 2 + 1 := by
        rw [e1]
        rcases Nat.mod_two_eq_zero_or_one u with h0 | h0
        · rw [h0, Nat.or_zero, if_pos rfl]
        · rw [h0, or1, if_neg (by decide)]
      rw [← e1] at hh
      rw [h1, Nat.pow_succ, ← Nat.mul_assoc]
      refine ⟨hh, fun _ => by rw [e2]; split <;> omega, fun h => by omega, fun _ => ?_⟩
      have h3 : 36028797018963966 * (tenB * 2 ^ N) ≤ d * 10 ^ i * 2 ^ J := by
        refine Nat.le_of_not_lt fun hlt => ?_
        have := (hu 18014398509481983).1.2 hlt
        omega
      generalize tenB * 2 ^ N = B at *
      generalize d * 10 ^ i * 2 ^ J = A at *
      omega
    · have e1 : pfV u = u := by
        unfold pfV
        rw [h1, Nat.pow_zero, Nat.div_one]
        rcases Nat.mod_two_eq_zero_or_one u with h0 | h0
        · rw [h0, Nat.or_zero]
        · rw [h0, or1]; omega
      rw [h1, e1]
      exact ⟨hu, fun h => by omega, fun _ => rfl, fun h => by omega⟩
  obtain ⟨hV, hV1, hV0, hVlo⟩ := hV
  generalize hTT : pfT u = T at *
  generalize pfV u = V at *
  -- the place
  obtain ⟨k', hk'⟩ : ∃ k' : Nat, (k' : Int) = 1074 - (e - (T : Int)) := ⟨(1074 - (e - (T : Int))).toNat, by omega⟩
  have hJ2 : J + k' = exB + (N + T) := by have := exB_is; omega
  have conv_le : ∀ x y : Nat, x * (tenB * 2 ^ (N + T)) ≤ y * (d * 10 ^ i * 2 ^ J) → x * 2 ^ k' * tenB ≤ y * (d * 10 ^ i * 2 ^ exB) := by
    intro x y hxy
    rw [← Nat.mul_assoc, ← Nat.mul_assoc y] at hxy
    have := (pw_le (A := x * tenB) (C := y * (d * 10 ^ i)) (Q := N + T) (N := J) (K := k') (K' := exB) (by omega)).1 hxy
    rw [Nat.mul_right_comm, ← Nat.mul_assoc y]
    exact this
  have conv_lt : ∀ x y : Nat, x * (tenB * 2 ^ (N + T)) < y * (d * 10 ^ i * 2 ^ J) → x * 2 ^ k' * tenB < y * (d * 10 ^ i * 2 ^ exB) := by
    intro x y hxy
    rw [← Nat.mul_assoc, ← Nat.mul_assoc y] at hxy
    have := (pw_lt (A := x * tenB) (C := y * (d * 10 ^ i)) (Q := N + T) (N := J) (K := k') (K' := exB) (by omega)).1 hxy
    rw [Nat.mul_right_comm, ← Nat.mul_assoc y]
    exact this
  have conv_le' : ∀ x y : Nat, x * (d * 10 ^ i * 2 ^ J) ≤ y * (tenB * 2 ^ (N + T)) → x * (d * 10 ^ i * 2 ^ exB) ≤ y * 2 ^ k' * tenB := by
    intro x y hxy
    rw [← Nat.mul_assoc, ← Nat.mul_assoc y] at hxy
    have := (pw_le (A := x * (d * 10 ^ i)) (C := y * tenB) (Q := J) (N := N + T) (K := exB) (K' := k') (by omega)).1 hxy
    rw [Nat.mul_right_comm y, ← Nat.mul_assoc x]
    exact this
  have conv_lt' : ∀ x y : Nat, x * (d * 10 ^ i * 2 ^ J) < y * (tenB * 2 ^ (N + T)) → x * (d * 10 ^ i * 2 ^ exB) < y * 2 ^ k' * tenB := by
    intro x y hxy
    rw [← Nat.mul_assoc, ← Nat.mul_assoc y] at hxy
    have := (pw_lt (A := x * (d * 10 ^ i)) (C := y * tenB) (Q := J) (N := N + T) (K := exB) (K' := k') (by omega)).1 hxy
    rw [Nat.mul_right_comm y, ← Nat.mul_assoc x]
    exact this
  have hin := rnd_in V
  have hr2 : rndN V < 9007199254740992 := by rcases hT with ⟨h1, h2⟩ | ⟨h1, h2⟩ <;> omega
  have hrk : k' = 0 ∨ 4503599627370496 ≤ rndN V := by
    rcases hT with ⟨h1, h2⟩ | ⟨h1, h2⟩
    · omega
    · by_cases he : e < 1074 <;> omega
  have hr1 : 1 ≤ rndN V := by
    refine Nat.lt_of_not_le fun h0 => ?_
    have hk0 : k' = 0 := by omega
    have hV2 : V ≤ 2 := by omega
    have h1 := (hV 1).2.1 hV2
    have h2 := conv_le' 1 2 (by rw [Nat.one_mul]; omega)
    rw [hk0, Nat.one_mul, Nat.pow_zero, Nat.mul_one] at h2
    obtain ⟨g1, g2⟩ := h.pos n
    have := tenB_pos
    rcases g2 (by omega) with g | g <;> omega
  have hro := unr_round hV hr1
  have hlow : lowN (rndN V) k' = 4 * rndN V - 2 ∨ (lowN (rndN V) k' = 4 * rndN V - 1 ∧ rndN V = 4503599627370496 ∧ 0 < k') := by unfold lowN; split <;> omega
  have hRI : RI (rndN V) k' (d * 10 ^ i * 2 ^ exB) tenB := by
    have c1 := conv_le (lowN (rndN V) k') 1
    have c2 := conv_lt (lowN (rndN V) k') 1
    have c3 := conv_le' 1 (4 * rndN V + 2)
    have c4 := conv_lt' 1 (4 * rndN V + 2)
    rw [Nat.one_mul, Nat.one_mul] at c1 c2 c3 c4
    rcases hlow with hl | ⟨hl, hl1, hl2⟩
    · rw [← hl] at hro
      exact ⟨fun h0 => ⟨c1 (hro.1 h0).1, c3 (hro.1 h0).2⟩, fun h0 => ⟨c2 (hro.2 h0).1, c4 (hro.2 h0).2⟩⟩
    · refine ⟨fun h0 => ⟨c1 ?_, c3 (hro.1 h0).2⟩, fun h0 => by omega⟩
      rw [hl, hl1]
      rcases hT with ⟨h1, h2⟩ | ⟨h1, h2⟩
      · have := hVlo h1
        generalize tenB * 2 ^ (N + T) = B at *
        generalize d * 10 ^ i * 2 ^ J = A at *
        omega
      · have h3 := ulo (by omega)
        have h4 : 18014398509481984 * (tenB * 2 ^ (N + T)) ≤ d * 10 ^ i * 2 ^ J := by
          refine Nat.le_of_not_lt fun hlt => ?_
          have := (hV 9007199254740992).1.2 hlt
          omega
        generalize tenB * 2 ^ (N + T) = B at *
        generalize d * 10 ^ i * 2 ^ J = A at *
        omega
  obtain ⟨u1, u2⟩ := uniq tenB_pos n ⟨hr1, hr2, hrk⟩ h hRI
  rw [← u1]
  refine ⟨?_, by omega, by omega⟩
  unfold packN
  by_cases hm : m < 4503599627370496
  · rw [if_pos (Or.inl hm)]
    omega
  · have := n.2.1
    rw [if_neg (by omega), if_neg (by omega)]
    have : (1075 + -(e - (T : Int))).toNat = k + 1 := by omega
    rw [this]
    omega
end Go.Proofs.YtbgjhgohffkonaaGreatDoor

