/- The shortest digits lie in the float's interval. -/
import Derived.Test.YtbgjhgohffkonaaGreatDoorM12
import Derived.Test.YtbgjhgohffkonaaGreatDoorVtB
namespace Go.Proofs.YtbgjhgohffkonaaGreatDoor
set_option linter.unusedVariables false
/-- Between two ends: with them, or without. -/
def InF (odd lo hi v : Nat) : Prop := (odd = 0 → lo ≤ v ∧ v ≤ hi) ∧ (odd = 1 → lo < v ∧ v < hi)
theorem fmt_core {umn um umx mn m mx F C odd d1 d2 q : Nat} (hC : 0 < C) (h1 : UnrB umn (mn * F) C) (h2 : UnrB um (m * F) C) (h3 : UnrB umx (mx * F) C) (hodd : odd = 0 ∨ odd = 1)
    (hd1 : mn + d1 = m) (hd2 : m + d2 = mx) (hd : d1 = d2 ∨ 2 * d1 = d2) (hw : 4 * C ≤ (d1 + d2) * F) (hws : odd = 1 → 4 * C < (d1 + d2) * F ∨ (d1 = d2 ∧ ∃ w, m * F = 4 * C * w))
    (hq : q + odd = umx) (hr : 1 ≤ rndN um) :
    InF odd (mn * F) (mx * F) (4 * (if (umn + odd + 3) / 4 ≤ q / 4 / 10 * 10 then q / 4 / 10 * 10 else if (umn + odd + 3) / 4 < q / 4 then rndN um else (umn + odd + 3) / 4) * C) := by
  obtain ⟨dmin, hmin⟩ : ∃ x, (umn + odd + 3) / 4 = x := ⟨_, rfl⟩
  obtain ⟨dmax, hmax⟩ : ∃ x, q / 4 = x := ⟨_, rfl⟩
  rw [hmin, hmax]
  -- what stands between the ends
  have hlo : ∀ D, dmin ≤ D ↔ if odd = 0 then mn * F ≤ 4 * D * C else mn * F < 4 * D * C := by
    intro D
    have e := h1 (2 * D)
    rw [show 2 * (2 * D) = 4 * D by omega] at e
    rcases hodd with h | h
    · rw [if_pos h, ← e.2]; omega
    · rw [if_neg (by omega), ← e.1]; omega
  have hhi : ∀ D, D ≤ dmax ↔ if odd = 0 then 4 * D * C ≤ mx * F else 4 * D * C < mx * F := by
    intro D
    have e := h3 (2 * D)
    rw [show 2 * (2 * D) = 4 * D by omega] at e
    rcases hodd with h | h
    · rw [if_pos h]; constructor <;> intro _ <;> omega
    · rw [if_neg (by omega)]; constructor <;> intro _ <;> omega
  have key : ∀ D, dmin ≤ D → D ≤ dmax → InF odd (mn * F) (mx * F) (4 * D * C) := by
    intro D a b
    have a := (hlo D).1 a
    have b := (hhi D).1 b
    refine ⟨fun h => ?_, fun h => ?_⟩
    · rw [if_pos h] at a b; exact ⟨a, b⟩
    · rw [if_neg (by omega)] at a b; exact ⟨a, b⟩
  have e1 : mn * F + d1 * F = m * F := by rw [← Nat.add_mul, hd1]
  have e2 : m * F + d2 * F = mx * F := by rw [← Nat.add_mul, hd2]
  have e3 : (d1 + d2) * F = d1 * F + d2 * F := Nat.add_mul _ _ _
  have e4 : d1 * F ≤ d2 * F ∧ d2 * F ≤ 2 * (d1 * F) := by
    rw [← Nat.mul_assoc]
    exact ⟨Nat.mul_le_mul_right _ (by omega), Nat.mul_le_mul_right _ (by omega)⟩
  have e5 : d1 = d2 → d1 * F = d2 * F := fun h => by rw [h]
  rw [e3] at hw hws
  by_cases c1 : dmin ≤ dmax / 10 * 10
  · rw [if_pos c1]
    exact key _ c1 (by omega)
  · rw [if_neg c1]
    by_cases c2 : dmin < dmax
    · rw [if_pos c2]
      have hin := unr_round h2 hr
      generalize rndN um = D at *
      have g1 : (4 * D - 2) * C ≤ m * F ∧ m * F ≤ (4 * D + 2) * C := by
        rcases Nat.mod_two_eq_zero_or_one D with h0 | h0
        · exact hin.1 h0
        · exact ⟨Nat.le_of_lt (hin.2 h0).1, Nat.le_of_lt (hin.2 h0).2⟩
      obtain ⟨D1, rfl⟩ : ∃ D1, D = D1 + 1 := ⟨D - 1, by omega⟩
      rw [show 4 * (D1 + 1) - 2 = 4 * D1 + 2 by omega, Nat.add_mul, Nat.add_mul (4 * (D1 + 1))] at g1
      have m0 : 4 * (D1 + 1) * C = 4 * D1 * C + 4 * C := by rw [Nat.mul_add, Nat.add_mul]
      refine key _ ?_ ?_
      · refine Nat.le_of_not_lt fun hlt => ?_
        have a1 := (hhi (D1 + 3)).1 (by omega)
        have a2 : ¬ (dmin ≤ D1 + 1) := by omega
        rw [hlo (D1 + 1)] at a2
        have m3 : 4 * (D1 + 3) * C = 4 * D1 * C + 12 * C := by rw [Nat.mul_add, Nat.add_mul]
        rw [m3] at a1
        rw [m0] at a2
        rw [m0] at g1
        generalize 4 * D1 * C = W at *
        rcases hodd with h | h
        · rw [if_pos h] at a1 a2; omega
        · rw [if_neg (by omega)] at a1 a2; omega
      · refine Nat.le_of_not_lt fun hlt => ?_
        have a1 : ¬ (D1 + 1 ≤ dmax) := by omega
        rw [hhi (D1 + 1)] at a1
        obtain ⟨D2, rfl⟩ : ∃ D2, D1 = D2 + 1 := ⟨D1 - 1, by omega⟩
        have a2 := (hlo D2).1 (by omega)
        have m3 : 4 * (D2 + 1) * C = 4 * D2 * C + 4 * C := by rw [Nat.mul_add, Nat.add_mul]
        rw [m0] at a1 g1
        rw [m3] at a1 g1
        generalize 4 * D2 * C = W at *
        rcases hodd with h | h
        · rw [if_pos h] at a1 a2; omega
        · rw [if_neg (by omega)] at a1 a2; omega
    · rw [if_neg c2]
      refine key _ (Nat.le_refl _) (Nat.le_of_not_lt fun hlt => ?_)
      have a1 : ¬ (dmin ≤ dmax) := by omega
      have a2 : ¬ (dmax + 1 ≤ dmax) := by omega
      rw [hlo] at a1
      rw [hhi] at a2
      have m1 : 4 * (dmax + 1) * C = 4 * dmax * C + 4 * C := by rw [Nat.mul_add, Nat.add_mul]
      rw [m1] at a2
      rcases hodd with h | h
      · rw [if_pos h] at a1 a2; omega
      · rw [if_neg (by omega)] at a1 a2
        rcases hws h with g | ⟨g, w, gw⟩
        · omega
        · have e5 := e5 g
          have f1 : 2 * (4 * C * w) = 2 * (4 * dmax * C) + 4 * C := by omega
          have f2 : C * (8 * w) = C * (8 * dmax + 4) := by grind
          have := Nat.eq_of_mul_eq_mul_left hC f2
          omega
theorem conv_eqs {x S2 K K' i D : Nat} (hi : i ≤ 696) : (x * 2 ^ S2 * (10 ^ i * 2 ^ K)) * 10 ^ (696 - i) = (x * tenB * 2 ^ (S2 + K)) * tenB ∧
    (4 * D * (tenB * 2 ^ K')) * 10 ^ (696 - i) = (D * 10 ^ (696 - i) * 2 ^ (K' + 2)) * tenB := by
  obtain ⟨t, ht, hT⟩ := tenB_is
  have e : 10 ^ i * 10 ^ (696 - i) = tenB * tenB := by rw [hT, ← Nat.pow_add, ← Nat.pow_add]; congr 1; omega
  rw [Nat.pow_add 2 S2 K, Nat.pow_add 2 K' 2]
  clear hT ht t
  generalize 10 ^ (696 - i) = T at *
  generalize 10 ^ i = I at *
  generalize (2 : Nat) ^ S2 = a
  generalize (2 : Nat) ^ K = b
  generalize (2 : Nat) ^ K' = c
  constructor
  · have : x * a * (I * b) * T = x * a * b * (I * T) := by grind
    rw [this, e]
    grind
  · grind
theorem conv_le {x S2 K K' k i D : Nat} (hi : i ≤ 696) (hk : S2 + K + exB = K' + 2 + k) :
    (x * 2 ^ S2 * (10 ^ i * 2 ^ K) ≤ 4 * D * (tenB * 2 ^ K') ↔ x * 2 ^ k * tenB ≤ D * 10 ^ (696 - i) * 2 ^ exB) ∧ (4 * D * (tenB * 2 ^ K') ≤ x * 2 ^ S2 * (10 ^ i * 2 ^ K) ↔ D * 10 ^ (696 - i) * 2 ^ exB ≤ x * 2 ^ k * tenB) := by
  obtain ⟨e1, e2⟩ := conv_eqs (x := x) (S2 := S2) (K := K) (K' := K') (D := D) hi
  have p := p10_pos (696 - i)
  rw [← Nat.mul_le_mul_right_iff (m := x * 2 ^ S2 * (10 ^ i * 2 ^ K)) p, ← Nat.mul_le_mul_right_iff (m := 4 * D * (tenB * 2 ^ K')) p, e1, e2, Nat.mul_le_mul_right_iff tenB_pos, Nat.mul_le_mul_right_iff tenB_pos, Nat.mul_right_comm x (2 ^ k)]
  exact ⟨pw_le (by omega), pw_le (by omega)⟩
theorem conv_lt {x S2 K K' k i D : Nat} (hi : i ≤ 696) (hk : S2 + K + exB = K' + 2 + k) :
    (x * 2 ^ S2 * (10 ^ i * 2 ^ K) < 4 * D * (tenB * 2 ^ K') ↔ x * 2 ^ k * tenB < D * 10 ^ (696 - i) * 2 ^ exB) ∧ (4 * D * (tenB * 2 ^ K') < x * 2 ^ S2 * (10 ^ i * 2 ^ K) ↔ D * 10 ^ (696 - i) * 2 ^ exB < x * 2 ^ k * tenB) := by
  obtain ⟨h1, h2⟩ := conv_le (x := x) (D := D) hi hk
  rw [← Nat.not_le, ← Nat.not_le, h2, ← Nat.not_le, ← Nat.not_le, h1]
  exact ⟨Iff.rfl, Iff.rfl⟩
/-- Digits between the ends are rounded to the float. -/
theorem inF_RI {m k S2 K K' i D mn mx : Nat} (hi : i ≤ 696) (hk : S2 + K + exB = K' + 2 + k) (h1 : mn = lowN m k * 2 ^ S2) (h2 : mx = (4 * m + 2) * 2 ^ S2)
    (h : InF (m % 2) (mn * (10 ^ i * 2 ^ K)) (mx * (10 ^ i * 2 ^ K)) (4 * D * (tenB * 2 ^ K'))) : RI m k (D * 10 ^ (696 - i) * 2 ^ exB) tenB := by
  subst h1 h2
  refine ⟨fun h0 => ?_, fun h0 => ?_⟩
  · exact ⟨(conv_le hi hk).1.1 (h.1 h0).1, (conv_le hi hk).2.1 (h.1 h0).2⟩
  · exact ⟨(conv_lt hi hk).1.1 (h.2 h0).1, (conv_lt hi hk).2.1 (h.2 h0).2⟩
/-- What the shortest digits are: as the ends are. -/
theorem sf_in {m k S i s M mn mx d1 d2 K K' : Nat} {e : Int} (hM : M = m * 2 ^ S) (hM1 : 9223372036854775808 ≤ M) (hmx : mx < 18446744073709551616) (hmn1 : 4611686018427387904 ≤ mn) (hS : 2 ≤ S) (hi : i < 696) (hs : 5 ≤ s) (hs2 : s ≤ 58) (hse : (s : Int) = -(e + lpN i + 3)) (he : e = (k : Int) - 1074 - S)
    (h1 : mn + d1 = M) (h2 : M + d2 = mx) (hd : d1 = d2 ∨ 2 * d1 = d2) (m7 : mn % 128 = 0) (M7 : M % 128 = 0) (x7 : mx % 128 = 0)
    (hK : (K : Int) - e - 2 = K') (hw : 4 * (tenB * 2 ^ K') ≤ (d1 + d2) * (10 ^ i * 2 ^ K)) (hws : m % 2 = 1 → 4 * (tenB * 2 ^ K') < (d1 + d2) * (10 ^ i * 2 ^ K) ∨ (d1 = d2 ∧ ∃ w, M * (10 ^ i * 2 ^ K) = 4 * (tenB * 2 ^ K') * w))
    (hbd : mx * (10 ^ i * 2 ^ K) < 576460752303423488 * (tenB * 2 ^ K'))
    (g1 : mn = lowN m k * 2 ^ (S - 2)) (g2 : mx = (4 * m + 2) * 2 ^ (S - 2)) :
    RI m k ((sfR M i s mn mx (m % 2)).1 * 10 ^ ((sfR M i s mn mx (m % 2)).2 + 348).toNat * 2 ^ exB) tenB ∧ (sfR M i s mn mx (m % 2)).1 < 144115188075855872 := by
  have hF : ∀ x, x * (10 ^ i * 2 ^ K) = x * 10 ^ i * 2 ^ K := fun x => (Nat.mul_assoc _ _ _).symm
  have hKK : (K : Int) + lpN i + s + 1 = K' := by omega
  have u1 := usc_val (K := K) (K' := K') (x := mn) (by omega) (by omega) hi hs (Or.inl m7) hKK
  have u2 := usc_val (K := K) (K' := K') (x := M) (by omega) (by omega) hi hs (Or.inl M7) hKK
  have u3 := usc_val (K := K) (K' := K') (x := mx) (by omega) (by omega) hi hs (Or.inl x7) hKK
  have hh := pwR_hi hi
  have hh2 := (pwR_lt i).1
  have l2 := uscN_ge (x := M) (l := (pwR i).2) (by omega) hh (by omega) hh2 hs2
  have l3 := uscN_ge (x := mx) (l := (pwR i).2) (by omega) hh (by omega) hh2 hs2
  have t1 := uscS_lt (x := mn) (l := (pwR i).2) (s := s) (by omega) hh2 (by omega)
  have t2 := uscS_lt (x := M) (l := (pwR i).2) (s := s) (by omega) hh2 (by omega)
  have t3 := uscS_lt (x := mx) (l := (pwR i).2) (s := s) (by omega) hh2 (by omega)
  rw [← hF] at u1 u2 u3
  have hodd : m % 2 = 0 ∨ m % 2 = 1 := Nat.mod_two_eq_zero_or_one m
  unfold sfR
  generalize uscN mn (pwR i).1 (pwR i).2 s = a at *
  generalize uscN M (pwR i).1 (pwR i).2 s = b at *
  generalize uscN mx (pwR i).1 (pwR i).2 s = c at *
  have hn : nudN c (m % 2) + m % 2 = c := by unfold nudN; split <;> omega
  generalize nudN c (m % 2) = q at *
  have hr : 1 ≤ rndN b := by unfold rndN; omega
  have hr2 : rndN b < 1152921504606846976 := by unfold rndN; omega
  have core := fmt_core (Nat.mul_pos tenB_pos (p2_pos K')) u1 u2 u3 hodd h1 h2 hd hw hws hn hr
  have fin := inF_RI (m := m) (k := k) (S2 := S - 2) (i := i) (by omega) (by have := exB_is; omega) g1 g2 core
  have hDb : ∀ D, InF (m % 2) (mn * (10 ^ i * 2 ^ K)) (mx * (10 ^ i * 2 ^ K)) (4 * D * (tenB * 2 ^ K')) → D < 144115188075855872 := by
    intro D h
    have h3 : 4 * D * (tenB * 2 ^ K') ≤ mx * (10 ^ i * 2 ^ K) := by
      rcases hodd with h0 | h0
      · exact (h.1 h0).2
      · exact Nat.le_of_lt (h.2 h0).2
    have := Nat.lt_of_mul_lt_mul_right (Nat.lt_of_le_of_lt h3 hbd)
    omega
  have core := hDb _ core
  clear u1 u2 u3 hF g1 g2 hDb
  by_cases c1 : (a + m % 2 + 3) / 4 ≤ q / 4 / 10 * 10
  · rw [if_pos c1] at fin core ⊢
    refine ⟨?_, by show q / 4 / 10 < _; omega⟩
    show RI m k (q / 4 / 10 * 10 ^ (349 - (i : Int) + 348).toNat * 2 ^ exB) tenB
    rw [show (349 - (i : Int) + 348).toNat = 696 - i + 1 by omega, Nat.pow_succ, Nat.mul_comm (10 ^ (696 - i)) 10, ← Nat.mul_assoc]
    exact fin
  · rw [if_neg c1] at fin core ⊢
    refine ⟨?_, ?_⟩
    · show RI m k ((if (a + m % 2 + 3) / 4 < q / 4 then rndN b else (a + m % 2 + 3) / 4) * 10 ^ (348 - (i : Int) + 348).toNat * 2 ^ exB) tenB
      rw [show (348 - (i : Int) + 348).toNat = 696 - i by omega]
      exact fin
    · exact core
/-- The widths between the ends, at every place. -/
def chkSA' (t : Nat) (e : Int) (i n K : Nat) : Bool :=
  Nat.blt i 696 && decide (5 ≤ -(e + lpN i + 3)) && decide (-(e + lpN i + 3) ≤ 58) && Nat.ble (4 * (10 ^ n * 2 ^ (K + 1083 - t))) (1536 * (10 ^ i * 2 ^ K)) && Nat.blt (18446744073709551615 * (10 ^ i * 2 ^ K)) (576460752303423488 * (10 ^ n * 2 ^ (K + 1083 - t)))
def chkSA (t : Nat) : Bool := chkSA' t ((t : Int) - 1085) (348 - (((t : Int) - 1085 + 11) * 631305 - 261663) / 2097152).toNat 348 1100
def chkSB' (t : Nat) (e : Int) (i n K : Nat) : Bool :=
  Nat.blt i 696 && decide (5 ≤ -(e + lpN i + 3)) && decide (-(e + lpN i + 3) ≤ 58) && (if t = 1074 then Nat.beq i 348 && Nat.ble (4 * (10 ^ n * 2 ^ (K + 1083 - t))) (2048 * (10 ^ i * 2 ^ K)) else Nat.blt (4 * (10 ^ n * 2 ^ (K + 1083 - t))) (2048 * (10 ^ i * 2 ^ K))) && Nat.blt (18446744073709551615 * (10 ^ i * 2 ^ K)) (576460752303423488 * (10 ^ n * 2 ^ (K + 1083 - t)))
def chkSB (t : Nat) : Bool := chkSB' t ((t : Int) - 1085) (348 - ((t : Int) - 1085 + 11) * 78913 / 262144).toNat 348 1100
def chkSC' (i n K : Nat) : Bool := Nat.blt (4 * (10 ^ n * 2 ^ (K + 1072))) (10 ^ i * 2 ^ K) && Nat.blt (18446744073709551616 * (10 ^ i * 2 ^ K)) (1180591620717411303424 * (10 ^ n * 2 ^ (K + 1072)))
set_option maxRecDepth 100000 in
theorem sa_all : allB chkSA 2046 = true := by decide +kernel
set_option maxRecDepth 100000 in
theorem sb_all : allB chkSB 2046 = true := by decide +kernel
theorem sc_all : chkSC' 672 348 1100 = true := by decide +kernel
theorem of_blt {a b : Nat} (h : Nat.blt a b = true) : a < b := Nat.le_of_ble_eq_true h
theorem ten_mul {a t n : Nat} (hn : n = 348) : a * (10 ^ n * 2 ^ t) = a * (tenB * 2 ^ t) := by
  obtain ⟨e, he, hT⟩ := tenB_is
  rw [hT, he, hn]
theorem sa_at {t : Nat} (h : t < 2046) {e : Int} (he : e = (t : Int) - 1085) {i : Nat} (hi : i = (348 - ((e + 11) * 631305 - 261663) / 2097152).toNat) :
    i < 696 ∧ 5 ≤ -(e + lpN i + 3) ∧ -(e + lpN i + 3) ≤ 58 ∧ ∃ K K' : Nat, (K : Int) - e - 2 = K' ∧ 4 * (tenB * 2 ^ K') ≤ 1536 * (10 ^ i * 2 ^ K) ∧ 18446744073709551615 * (10 ^ i * 2 ^ K) < 576460752303423488 * (tenB * 2 ^ K') := by
  have hc : chkSA' t ((t : Int) - 1085) (348 - (((t : Int) - 1085 + 11) * 631305 - 261663) / 2097152).toNat 348 1100 = true := allB_at sa_all t h
  rw [← he, ← hi] at hc
  obtain ⟨n, hn⟩ : ∃ n : Nat, n = 348 := ⟨_, rfl⟩
  obtain ⟨K, hK⟩ : ∃ K : Nat, K = 1100 := ⟨_, rfl⟩
  rw [← hn, ← hK] at hc
  unfold chkSA' at hc
  simp only [Bool.and_eq_true, decide_eq_true_eq] at hc
  obtain ⟨⟨⟨⟨h1, h2⟩, h3⟩, h4⟩, h5⟩ := hc
  have h4 := Nat.le_of_ble_eq_true h4
  have h5 := of_blt h5
  rw [ten_mul hn] at h4 h5
  exact ⟨of_blt h1, h2, h3, K, K + 1083 - t, by omega, h4, h5⟩
theorem sb_at {t : Nat} (h : t < 2046) {e : Int} (he : e = (t : Int) - 1085) {i : Nat} (hi : i = (348 - (e + 11) * 78913 / 262144).toNat) :
    i < 696 ∧ 5 ≤ -(e + lpN i + 3) ∧ -(e + lpN i + 3) ≤ 58 ∧ ∃ K K' : Nat, (K : Int) - e - 2 = K' ∧ 4 * (tenB * 2 ^ K') ≤ 2048 * (10 ^ i * 2 ^ K) ∧ (t ≠ 1074 → 4 * (tenB * 2 ^ K') < 2048 * (10 ^ i * 2 ^ K)) ∧ (t = 1074 → i = 348) ∧ 18446744073709551615 * (10 ^ i * 2 ^ K) < 576460752303423488 * (tenB * 2 ^ K') := by
  have hc : chkSB' t ((t : Int) - 1085) (348 - ((t : Int) - 1085 + 11) * 78913 / 262144).toNat 348 1100 = true := allB_at sb_all t h
  rw [← he, ← hi] at hc
  have h348 : chkSB' t e i 348 1100 = true → (t = 1074 → i = 348) := by
    intro h ht
    unfold chkSB' at h
    simp only [Bool.and_eq_true] at h
    have h := h.1.2
    rw [if_pos ht, Bool.and_eq_true] at h
    exact Nat.eq_of_beq_eq_true h.1
  have h348 := h348 hc
  obtain ⟨n, hn⟩ : ∃ n : Nat, n = 348 := ⟨_, rfl⟩
  obtain ⟨K, hK⟩ : ∃ K : Nat, K = 1100 := ⟨_, rfl⟩
  rw [← hn, ← hK] at hc
  unfold chkSB' at hc
  simp only [Bool.and_eq_true, decide_eq_true_eq] at hc
  obtain ⟨⟨⟨⟨h1, h2⟩, h3⟩, h4⟩, h5⟩ := hc
  have h5 := of_blt h5
  rw [ten_mul hn] at h5
  refine ⟨of_blt h1, h2, h3, K, K + 1083 - t, by omega, ?_⟩
  by_cases ht : t = 1074
  · rw [if_pos ht, Bool.and_eq_true] at h4
    have g := Nat.le_of_ble_eq_true h4.2
    rw [ten_mul hn] at g
    exact ⟨g, fun h => absurd ht h, h348, h5⟩
  · rw [if_neg ht] at h4
    have g := of_blt h4
    rw [ten_mul hn] at g
    exact ⟨Nat.le_of_lt g, fun _ => g, fun h => absurd h ht, h5⟩
theorem sc_at : ∃ K L i : Nat, i = 672 ∧ L = K + 1072 ∧ 4 * (tenB * 2 ^ L) < 10 ^ i * 2 ^ K ∧ 18446744073709551616 * (10 ^ i * 2 ^ K) < 1180591620717411303424 * (tenB * 2 ^ L) := by
  have hc := sc_all
  obtain ⟨n, hn⟩ : ∃ n : Nat, n = 348 := ⟨_, rfl⟩
  obtain ⟨K, hK⟩ : ∃ K : Nat, K = 1100 := ⟨_, rfl⟩
  obtain ⟨i, hi⟩ : ∃ i : Nat, i = 672 := ⟨_, rfl⟩
  rw [← hn, ← hK, ← hi] at hc
  unfold chkSC' at hc
  rw [Bool.and_eq_true] at hc
  have h4 := of_blt hc.1
  have h5 := of_blt hc.2
  rw [ten_mul hn] at h4 h5
  exact ⟨K, K + 1072, i, hi, rfl, h4, h5⟩
theorem r1l {L T : Nat} (q2 : 2 ^ (T + 2) = 4 * 2 ^ T) : tenB * 2 ^ (L + (T + 2)) = 4 * (2 ^ T * (tenB * 2 ^ L)) := by
  rw [Nat.pow_add, q2]; grind
/-- The shortest digits are rounded to the float. -/
theorem short_RI {m k S : Nat} {e : Int} (n : Nrm m k) (hk : k ≤ 2045) (hM1 : 9223372036854775808 ≤ m * 2 ^ S) (hM2 : m * 2 ^ S < 18446744073709551616) (hS : 4503599627370496 ≤ m ∧ S = 11 ∨ m < 4503599627370496 ∧ 12 ≤ S ∧ S ≤ 63) (he : e = (k : Int) - 1074 - S) :
    RI m k ((shortP (m * 2 ^ S) e).1 * 10 ^ ((shortP (m * 2 ^ S) e).2 + 348).toNat * 2 ^ exB) tenB ∧ (shortP (m * 2 ^ S) e).1 < 144115188075855872 := by
  obtain ⟨n1, n2, n3⟩ := n
  rcases hS with ⟨hm, rfl⟩ | ⟨hm, hS1, hS2⟩
  · have e11 : (2 : Nat) ^ 11 = 2048 := rfl
    have hodd : sfOdd (m * 2 ^ 11) e = m % 2 := by unfold sfOdd; rw [if_pos (by omega), e11]; congr 1; omega
    by_cases hA : m = 4503599627370496 ∧ 0 < k
    · have hc : m * 2 ^ 11 = 9223372036854775808 ∧ -1085 < e := by omega
      have hI : sfI (m * 2 ^ 11) e = (348 - ((e + 11) * 631305 - 261663) / 2097152).toNat := by unfold sfI; rw [if_pos hc]
      have f0 : m * 2 ^ 11 + 1024 < 18446744073709551616 ∧ 4611686018427387904 ≤ m * 2 ^ 11 - 512 ∧ m * 2 ^ 11 - 512 + 512 = m * 2 ^ 11 ∧ (m * 2 ^ 11 - 512) % 128 = 0 ∧ (m * 2 ^ 11) % 128 = 0 ∧ (m * 2 ^ 11 + 1024) % 128 = 0 ∧ m % 2 = 0 ∧ m * 2 ^ 11 - 512 = (4 * m - 1) * 512 ∧ m * 2 ^ 11 + 1024 = (4 * m + 2) * 512 := by omega
      obtain ⟨f1, f2, f3, f4, f5, f6, f7, f8, f9⟩ := f0
      obtain ⟨g1, g2, g3, K, K', g4, g5, g6⟩ := sa_at (t := k) (by omega) (by omega) hI
      unfold shortP
      rw [hodd]
      have hmn : sfMn (m * 2 ^ 11) e = m * 2 ^ 11 - 512 := by unfold sfMn; rw [if_pos hc]
      have hmx : sfMx (m * 2 ^ 11) e = m * 2 ^ 11 + 1024 := by unfold sfMx; rw [if_pos hc]
      have hs : sfS (m * 2 ^ 11) e = (-(e + lpN (sfI (m * 2 ^ 11) e) + 3)).toNat := rfl
      rw [hmn, hmx]
      have hlow : lowN m k = 4 * m - 1 := by unfold lowN; rw [if_pos hA]
      refine sf_in (k := k) (S := 11) (e := e) (d1 := 512) (d2 := 1024) (K := K) (K' := K') rfl hM1 f1 f2 (by decide) g1 ?_ ?_ ?_ he f3 rfl (Or.inr rfl) f4 f5 f6 g4 g5 (fun h => absurd (f7.symm.trans h) (by decide)) ?_ ?_ f9
      · rw [hs]; clear g5 g6; omega
      · rw [hs]; clear g5 g6; omega
      · rw [hs]; clear g5 g6; omega
      · exact Nat.lt_of_le_of_lt (Nat.mul_le_mul_right _ (Nat.le_of_lt_succ f1)) g6
      · rw [hlow]; exact f8
    · have hc : ¬ (m * 2 ^ 11 = 9223372036854775808 ∧ -1085 < e) := by omega
      have hI : sfI (m * 2 ^ 11) e = (348 - (e + 11) * 78913 / 262144).toNat := by unfold sfI; rw [if_neg hc, if_pos (by omega)]
      have f0 : m * 2 ^ 11 + 1024 < 18446744073709551616 ∧ 4611686018427387904 ≤ m * 2 ^ 11 - 1024 ∧ m * 2 ^ 11 - 1024 + 1024 = m * 2 ^ 11 ∧ (m * 2 ^ 11 - 1024) % 128 = 0 ∧ (m * 2 ^ 11) % 128 = 0 ∧ (m * 2 ^ 11 + 1024) % 128 = 0 ∧ m * 2 ^ 11 - 1024 = (4 * m - 2) * 512 ∧ m * 2 ^ 11 + 1024 = (4 * m + 2) * 512 := by omega
      obtain ⟨f1, f2, f3, f4, f5, f6, f8, f9⟩ := f0
      obtain ⟨g1, g2, g3, K, K', g4, g5, g5', gi, g6⟩ := sb_at (t := k) (by omega) (by omega) hI
      unfold shortP
      rw [hodd]
      have hmn : sfMn (m * 2 ^ 11) e = m * 2 ^ 11 - 1024 := by unfold sfMn; rw [if_neg hc, if_pos (by omega)]
      have hmx : sfMx (m * 2 ^ 11) e = m * 2 ^ 11 + 1024 := by unfold sfMx; rw [if_neg hc, if_pos (by omega)]
      have hs : sfS (m * 2 ^ 11) e = (-(e + lpN (sfI (m * 2 ^ 11) e) + 3)).toNat := rfl
      rw [hmn, hmx]
      have hlow : lowN m k = 4 * m - 2 := by unfold lowN; rw [if_neg hA]
      refine sf_in (k := k) (S := 11) (e := e) (d1 := 1024) (d2 := 1024) (K := K) (K' := K') rfl hM1 f1 f2 (by decide) g1 ?_ ?_ ?_ he f3 rfl (Or.inl rfl) f4 f5 f6 g4 g5 (fun _ => ?_) ?_ ?_ f9
      · rw [hs]; clear g5 g6 g5'; omega
      · rw [hs]; clear g5 g6 g5'; omega
      · rw [hs]; clear g5 g6 g5'; omega
      · by_cases ht : k = 1074
        · refine Or.inr ⟨rfl, m, ?_⟩
          obtain ⟨z, hz, hT⟩ := tenB_is
          rw [gi ht, e11, show K' = K + 9 by omega, hT, hz, Nat.pow_add]
          generalize (2 : Nat) ^ K = y
          obtain ⟨w, hw⟩ : ∃ w : Nat, w = 348 := ⟨_, rfl⟩
          rw [← hw]
          generalize (10 : Nat) ^ w = x
          have : (2 : Nat) ^ 9 = 512 := rfl
          rw [this]
          grind
        · exact Or.inl (g5' ht)
      · exact Nat.lt_of_le_of_lt (Nat.mul_le_mul_right _ (Nat.le_of_lt_succ f1)) g6
      · rw [hlow]; exact f8
  · have hk0 : k = 0 := by omega
    subst hk0
    have hne : m * 2 ^ S ≠ 9223372036854775808 ∨ e ≤ -1085 := by omega
    have he2 : ¬ (-1085 ≤ e) := by omega
    have hc : ¬ (m * 2 ^ S = 9223372036854775808 ∧ -1085 < e) := by omega
    obtain ⟨T, rfl⟩ : ∃ T, S = T + 2 := ⟨S - 2, by omega⟩
    have hodd : sfOdd (m * 2 ^ (T + 2)) e = m % 2 := by
      unfold sfOdd
      rw [if_neg he2, show (-1074 - e).toNat = T + 2 by omega, Nat.mul_div_cancel _ (p2_pos _)]
    have hI : sfI (m * 2 ^ (T + 2)) e = 672 := by unfold sfI; rw [if_neg hc, if_neg he2]
    have hK : (-1075 - e).toNat = T + 1 := by omega
    have hmn : sfMn (m * 2 ^ (T + 2)) e = m * 2 ^ (T + 2) - 2 ^ (T + 1) := by unfold sfMn; rw [if_neg hc, if_neg he2, hK]
    have hmx : sfMx (m * 2 ^ (T + 2)) e = m * 2 ^ (T + 2) + 2 ^ (T + 1) := by unfold sfMx; rw [if_neg hc, if_neg he2, hK]
    have hs : sfS (m * 2 ^ (T + 2)) e = (-(e + lpN (sfI (m * 2 ^ (T + 2)) e) + 3)).toNat := rfl
    have hlp : lpN 672 = 1076 := by decide
    have q1 : 2 ^ (T + 1) = 2 * 2 ^ T := by rw [Nat.pow_succ]; omega
    have q2 : 2 ^ (T + 2) = 4 * 2 ^ T := by rw [Nat.pow_succ, Nat.pow_succ]; omega
    have q8 : 2 ^ T = 1024 * 2 ^ (T - 10) := by rw [show (1024 : Nat) = 2 ^ 10 by decide, ← Nat.pow_add]; congr 1; omega
    have q9 : 1 ≤ 2 ^ (T - 10) := p2_pos _
    have hmul : m * 2 ^ (T + 2) = 4 * (m * 2 ^ T) := by rw [q2]; grind
    have hone : 2 ^ T ≤ m * 2 ^ T := Nat.le_mul_of_pos_left _ n1
    have hmx2 : (m + 1) * 2 ^ (T + 2) ≤ 18446744073709551616 := by
      -- a number below a power of two is below its next multiple too
      have hd : m < 2 ^ (64 - (T + 2)) := by
        refine Nat.lt_of_mul_lt_mul_right (a := 2 ^ (T + 2)) (Nat.lt_of_lt_of_le hM2 (Nat.le_of_eq ?_))
        rw [← Nat.pow_add, show 64 - (T + 2) + (T + 2) = 64 by omega]
      refine Nat.le_trans (Nat.mul_le_mul_right _ hd) (Nat.le_of_eq ?_)
      rw [← Nat.pow_add, show 64 - (T + 2) + (T + 2) = 64 by omega]
    rw [Nat.add_mul, Nat.one_mul] at hmx2
    have hlow : lowN m 0 = 4 * m - 2 := by unfold lowN; rw [if_neg (by omega)]
    have f0 : m * 2 ^ (T + 2) + 2 ^ (T + 1) < 18446744073709551616 ∧ 4611686018427387904 ≤ m * 2 ^ (T + 2) - 2 ^ (T + 1) ∧ m * 2 ^ (T + 2) - 2 ^ (T + 1) + 2 ^ (T + 1) = m * 2 ^ (T + 2) ∧ (m * 2 ^ (T + 2) - 2 ^ (T + 1)) % 128 = 0 ∧ (m * 2 ^ (T + 2)) % 128 = 0 ∧ (m * 2 ^ (T + 2) + 2 ^ (T + 1)) % 128 = 0 ∧ 2 ^ (T + 1) + 2 ^ (T + 1) = 4 * 2 ^ T ∧ 1024 ≤ 2 ^ T := by
      have e1 : m * 2 ^ T = 1024 * (m * 2 ^ (T - 10)) := by rw [q8]; grind
      generalize m * 2 ^ (T - 10) = x at *
      generalize m * 2 ^ T = y at *
      omega
    obtain ⟨f1, f2, f3, f4, f5, f6, f7, f8⟩ := f0
    have f9 : m * 2 ^ (T + 2) - 2 ^ (T + 1) = (4 * m - 2) * 2 ^ T := by
      rw [hmul, q1, Nat.sub_mul, Nat.mul_assoc 4 m]
    have f10 : m * 2 ^ (T + 2) + 2 ^ (T + 1) = (4 * m + 2) * 2 ^ T := by
      rw [hmul, q1, Nat.add_mul, Nat.mul_assoc 4 m]
    have fs : sfS (m * 2 ^ (T + 2)) e = T + 2 - 5 := by rw [hs, hI, hlp]; omega
    obtain ⟨K, L, j, gj, g4, g5, g6⟩ := sc_at
    have r1 : tenB * 2 ^ (L + (T + 2)) = 4 * (2 ^ T * (tenB * 2 ^ L)) := r1l q2
    have hlt5 : 2 ^ T * (4 * (tenB * 2 ^ L)) < 2 ^ T * (10 ^ j * 2 ^ K) := Nat.mul_lt_mul_of_pos_left g5 (p2_pos T)
    have hww : 4 * (tenB * 2 ^ (L + (T + 2))) < (2 ^ (T + 1) + 2 ^ (T + 1)) * (10 ^ j * 2 ^ K) := by
      rw [r1, f7, Nat.mul_assoc]
      have : 4 * (4 * (2 ^ T * (tenB * 2 ^ L))) = 4 * (2 ^ T * (4 * (tenB * 2 ^ L))) := by rw [Nat.mul_left_comm (2 ^ T) 4]
      rw [this]
      exact Nat.mul_lt_mul_of_pos_left hlt5 (by decide)
    have hup : (m * 2 ^ (T + 2) + 2 ^ (T + 1)) * (10 ^ j * 2 ^ K) < 576460752303423488 * (tenB * 2 ^ (L + (T + 2))) := by
      refine Nat.lt_of_le_of_lt (Nat.mul_le_mul_right _ (Nat.le_of_lt f1)) (Nat.lt_of_lt_of_le g6 ?_)
      rw [r1]
      have f2 := Nat.mul_le_mul_right (tenB * 2 ^ L) f8
      have e2 : 1180591620717411303424 * (tenB * 2 ^ L) = 1152921504606846976 * (1024 * (tenB * 2 ^ L)) := by rw [← Nat.mul_assoc 1152921504606846976 1024]
      rw [e2, ← Nat.mul_assoc 576460752303423488 4]
      exact Nat.mul_le_mul (by decide) f2
    unfold shortP
    rw [hodd, hmn, hmx, fs, hI, ← gj]
    have hj : j < 696 := by rw [gj]; decide
    have hlj : lpN j = 1076 := by rw [gj]; exact hlp
    exact sf_in (k := 0) (S := T + 2) (e := e) (d1 := 2 ^ (T + 1)) (d2 := 2 ^ (T + 1)) (K := K) (K' := L + (T + 2)) rfl hM1 f1 f2 (Nat.le_add_left _ _) hj (by clear hww hup g5 g6 hlt5 r1 gj; omega) (by clear hww hup g5 g6 hlt5 r1 gj; omega) (by clear hww hup g5 g6 hlt5 r1 gj; omega) he f3 rfl (Or.inl rfl) f4 f5 f6 (by clear hww hup g5 g6 hlt5 r1 gj; omega) (Nat.le_of_lt hww) (fun _ => Or.inl hww) hup (by rw [hlow]; exact f9) f10
end Go.Proofs.YtbgjhgohffkonaaGreatDoor

