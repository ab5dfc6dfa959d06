/- The exact way back from digits to a float (one product or quotient of the model's arithmetic) is right. -/
import Derived.Test.YtbgjhgohffkonaaGreatDoorM06
import Derived.Test.YtbgjhgohffkonaaGreatDoorVtD
namespace Go.Proofs.YtbgjhgohffkonaaGreatDoor
open Ieee
set_option linter.unusedVariables false
theorem RI.scale {m k A C t : Nat} (ht : 0 < t) : RI m k (A * t) (C * t) ↔ RI m k A C := by
  unfold RI
  rw [← Nat.mul_assoc, ← Nat.mul_assoc, Nat.mul_le_mul_right_iff ht, Nat.mul_le_mul_right_iff ht, Nat.mul_lt_mul_right ht, Nat.mul_lt_mul_right ht]
/-- M at place P is N. -/
def Val (M : Nat) (P : Int) (N : Nat) : Prop := ∃ x y : Nat, (x : Int) - y = P ∧ M * 2 ^ x = N * 2 ^ y
theorem Val.mul {M P N M' P' N'} (h : Val M P N) (h' : Val M' P' N') : Val (M * M') (P + P') (N * N') := by
  obtain ⟨x, y, e1, e2⟩ := h
  obtain ⟨x', y', e1', e2'⟩ := h'
  refine ⟨x + x', y + y', by omega, ?_⟩
  rw [Nat.pow_add, Nat.pow_add]
  have : M * 2 ^ x * (M' * 2 ^ x') = N * 2 ^ y * (N' * 2 ^ y') := by rw [e2, e2']
  grind
theorem unr_self (M : Nat) : UnrB M M 1 := fun c => by rw [Nat.mul_one]; exact ⟨Iff.rfl, Iff.rfl⟩
theorem near_val {M N m k : Nat} {P : Int} (hM : 0 < M) (h : Val M P N) (nn : Nrm m k) (hk : k ≤ 2045) (hr : RI m k (N * 2 ^ exB) 1) : F64.nearest false M P = k * 4503599627370496 + m := by
  obtain ⟨x, y, e1, e2⟩ := h
  refine near_gen (D := M) (n := 1) (a := exB + x) (c := y) hM (by decide) (unr_self M) (Or.inr ⟨rfl, rfl⟩) (by have := exB_is; omega) nn hk ?_
  have e3 : M * 2 ^ (exB + x) = N * 2 ^ exB * 2 ^ y := by
    rw [Nat.pow_add, show M * (2 ^ exB * 2 ^ x) = M * 2 ^ x * 2 ^ exB by grind, e2]
    grind
  rw [e3]
  exact (RI.scale (p2_pos y)).2 hr
/-- A whole number of 53 digits at most is a float. -/
theorem int_word {N : Nat} (h0 : 0 < N) (h : N < 9007199254740992) : ∃ m k, Nrm m k ∧ 0 < k ∧ k ≤ 2045 ∧ 4503599627370496 ≤ m ∧ RI m k (N * 2 ^ exB) 1 ∧ Val m ((k : Int) - 1074) N := by
  have hL1 : 2 ^ N.log2 ≤ N := Nat.log2_self_le (by omega)
  have hL2 : N < 2 ^ (N.log2 + 1) := Nat.lt_log2_self
  have e53 : (9007199254740992 : Nat) = 2 ^ 53 := by decide
  have e52 : (4503599627370496 : Nat) = 2 ^ 52 := by decide
  have hL : N.log2 ≤ 52 := by
    refine Nat.le_of_not_lt fun hlt => ?_
    have : 2 ^ 53 ≤ 2 ^ N.log2 := Nat.pow_le_pow_right (by decide) hlt
    omega
  generalize N.log2 = L at *
  have m1 : 4503599627370496 ≤ N * 2 ^ (52 - L) := by
    rw [e52]
    calc 2 ^ 52 = 2 ^ L * 2 ^ (52 - L) := by rw [← Nat.pow_add]; congr 1; omega
      _ ≤ N * 2 ^ (52 - L) := Nat.mul_le_mul_right _ hL1
  have m2 : N * 2 ^ (52 - L) < 9007199254740992 := by
    rw [e53]
    calc N * 2 ^ (52 - L) < 2 ^ (L + 1) * 2 ^ (52 - L) := Nat.mul_lt_mul_of_pos_right hL2 (p2_pos _)
      _ = 2 ^ 53 := by rw [← Nat.pow_add]; congr 1; omega
  obtain ⟨kk, hkk⟩ : ∃ kk, kk = 1022 + L := ⟨_, rfl⟩
  have hA : N * 2 ^ exB = 4 * (N * 2 ^ (52 - L)) * 2 ^ kk := by
    have : 2 ^ exB = 2 ^ 2 * 2 ^ (52 - L) * 2 ^ kk := by
      rw [← Nat.pow_add, ← Nat.pow_add]
      congr 1
      have := exB_is
      omega
    rw [this]
    clear this hkk
    grind
  refine ⟨N * 2 ^ (52 - L), kk, ⟨by omega, m2, Or.inr m1⟩, by omega, by omega, m1, ?_, 0, 52 - L, by omega, by rw [Nat.pow_zero, Nat.mul_one]⟩
  rw [hA]
  have hp := p2_pos kk
  generalize N * 2 ^ (52 - L) = m at *
  have hl : lowN m kk < 4 * m := by unfold lowN; split <;> omega
  have l1 : lowN m kk * 2 ^ kk * 1 < 4 * m * 2 ^ kk := by rw [Nat.mul_one]; exact Nat.mul_lt_mul_of_pos_right hl hp
  have l2 : 4 * m * 2 ^ kk < (4 * m + 2) * 2 ^ kk * 1 := by rw [Nat.mul_one]; exact Nat.mul_lt_mul_of_pos_right (by omega) hp
  exact ⟨fun _ => ⟨Nat.le_of_lt l1, Nat.le_of_lt l2⟩, fun _ => ⟨l1, l2⟩⟩
theorem read_word {m k : Nat} (h1 : 4503599627370496 ≤ m) (h2 : m < 9007199254740992) (h3 : k ≤ 2045) : F64.read (k * 4503599627370496 + m) = .number false m ((k : Int) - 1074) := by
  have hE : ftE (k * 4503599627370496 + m) = k + 1 := by unfold ftE; omega
  have hM : ftM (k * 4503599627370496 + m) = m := by unfold ftM; rw [hE, if_neg (by omega)]; omega
  rw [read_val (by omega) (by rw [hE]; omega), hE, hM, f64_least]
  have : decide (9223372036854775808 ≤ k * 4503599627370496 + m) = false := decide_eq_false (by omega)
  rw [this, show (-1074 : Int) + ((k + 1 - 1 : Nat) : Int) = (k : Int) - 1074 by omega]
def p10B (k : Nat) : Bool := match F64.read (p10 k) with
  | .number false m p => Nat.blt 0 m && (if 0 ≤ p then Nat.beq (m * 2 ^ p.toNat) (10 ^ k) else Nat.beq m (10 ^ k * 2 ^ (-p).toNat))
  | _ => false
theorem p10_all : allB p10B 23 = true := by decide +kernel
theorem p10_val {k : Nat} (h : k < 23) : ∃ m p, F64.read (p10 k) = .number false m p ∧ 0 < m ∧ Val m p (10 ^ k) := by
  have hb := allB_at p10_all k h
  unfold p10B at hb
  split at hb
  · rename_i m p hr
    rw [Bool.and_eq_true] at hb
    refine ⟨m, p, hr, Nat.le_of_ble_eq_true hb.1, ?_⟩
    have h2 := hb.2
    split at h2
    · rename_i hp
      exact ⟨p.toNat, 0, by omega, by rw [Nat.pow_zero, Nat.mul_one]; exact Nat.eq_of_beq_eq_true h2⟩
    · rename_i hp
      exact ⟨0, (-p).toNat, by omega, by rw [Nat.pow_zero, Nat.mul_one]; exact Nat.eq_of_beq_eq_true h2⟩
  · cases hb
theorem mulP_val {f k m1 N : Nat} {P : Int} (hk : k < 23) (hr : F64.read f = .number false m1 P) (hm : 0 < m1) (hv : Val m1 P N) : ∃ M Q, 0 < M ∧ Val M Q (N * 10 ^ k) ∧ mulP f k = F64.nearest false M Q := by
  obtain ⟨m2, p2, r2, h2, v2⟩ := p10_val hk
  refine ⟨m1 * m2, P + p2, Nat.mul_pos hm h2, hv.mul v2, ?_⟩
  unfold mulP Format.mul
  rw [hr, r2]
  rfl
/-- A quotient's digits, and one more that tells what is left. -/
theorem quo_unr (D n : Nat) (hn : 0 < n) : UnrB (2 * (D / n) + (D % n != 0).toNat) (2 * D) n := by
  intro c
  have hm := Nat.div_add_mod D n
  have hr := Nat.mod_lt D hn
  have e : 2 * c * n = 2 * (c * n) := Nat.mul_assoc _ _ _
  rw [e]
  have hb : (D % n != 0).toNat = if D % n = 0 then 0 else 1 := by
    by_cases h : D % n = 0
    · simp [h]
    · rw [if_neg h]; simp [h]
  rw [hb]
  have lt : D / n < c ↔ D < c * n := Nat.div_lt_iff_lt_mul hn
  have le : D / n ≤ c ↔ D < (c + 1) * n := by rw [← Nat.div_lt_iff_lt_mul hn]; omega
  rw [Nat.add_mul, Nat.one_mul] at le
  have eqc : D / n = c → D = c * n + D % n := fun h => by rw [← h]; rw [Nat.mul_comm]; omega
  generalize D / n = q at *
  generalize D % n = t at *
  generalize c * n = z at *
  constructor
  · split <;> omega
  · split <;> omega
theorem divP_val {f q m1 N m k : Nat} {P : Int} (hq : q < 23) (hr : F64.read f = .number false m1 P) (hm : 0 < m1) (hv : Val m1 P N) (nn : Nrm m k) (hk : k ≤ 2045) (h : RI m k (N * 2 ^ exB) (10 ^ q)) : divP f q = k * 4503599627370496 + m := by
  obtain ⟨m2, p2, r2, h2, v2⟩ := p10_val hq
  obtain ⟨x1, y1, e1, g1⟩ := hv
  obtain ⟨x2, y2, e2, g2⟩ := v2
  unfold divP Format.div
  rw [hr, r2]
  simp only [Datum.quotient]
  rw [if_neg (by omega)]
  simp only [Option.map_some, Option.getD_some]
  rw [f64_frac]
  generalize hmo : 52 + 2 + m2.log2 - m1.log2 = more
  change F64.nearest false _ _ = _
  rw [Nat.shiftLeft_eq]
  have hlog : 54 ≤ (2 * (m1 * 2 ^ more / m2) + (m1 * 2 ^ more % m2 != 0).toNat).log2 := by
    have a1 : 2 ^ m1.log2 ≤ m1 := Nat.log2_self_le (by omega)
    have a2 : m2 < 2 ^ (m2.log2 + 1) := Nat.lt_log2_self
    have a3 : 9007199254740992 ≤ m1 * 2 ^ more / m2 := by
      rw [Nat.le_div_iff_mul_le h2]
      calc 9007199254740992 * m2 ≤ 2 ^ 53 * 2 ^ (m2.log2 + 1) := Nat.mul_le_mul (by decide) (Nat.le_of_lt a2)
        _ = 2 ^ (53 + (m2.log2 + 1)) := (Nat.pow_add _ _ _).symm
        _ ≤ 2 ^ (m1.log2 + more) := Nat.pow_le_pow_right (by decide) (by omega)
        _ = 2 ^ m1.log2 * 2 ^ more := Nat.pow_add _ _ _
        _ ≤ m1 * 2 ^ more := Nat.mul_le_mul_right _ a1
    generalize m1 * 2 ^ more / m2 = z at *
    rw [Nat.le_log2 (by omega)]
    have : (2 : Nat) ^ 54 = 18014398509481984 := by decide
    omega
  refine near_gen (D := 2 * (m1 * 2 ^ more)) (n := m2) (a := exB + x1 + y2) (c := more + 1 + y1 + x2) ?_ h2 (quo_unr _ _ h2) (Or.inl hlog) (by have := exB_is; omega) nn hk ?_
  · refine Nat.pos_of_ne_zero fun h0 => ?_
    rw [h0] at hlog
    exact absurd hlog (by decide)
  · have e3 : 2 * (m1 * 2 ^ more) * 2 ^ (exB + x1 + y2) = N * 2 ^ exB * 2 ^ (y1 + more + 1 + y2) := by
      simp only [Nat.pow_add, Nat.pow_one]
      rw [show 2 * (m1 * 2 ^ more) * (2 ^ exB * 2 ^ x1 * 2 ^ y2) = m1 * 2 ^ x1 * (2 * 2 ^ more * 2 ^ exB * 2 ^ y2) by grind, g1]
      grind
    have e4 : m2 * 2 ^ (more + 1 + y1 + x2) = 10 ^ q * 2 ^ (y1 + more + 1 + y2) := by
      simp only [Nat.pow_add, Nat.pow_one]
      rw [show m2 * (2 ^ more * 2 * 2 ^ y1 * 2 ^ x2) = m2 * 2 ^ x2 * (2 ^ more * 2 * 2 ^ y1) by grind, g2]
      grind
    rw [e3, e4]
    exact (RI.scale (p2_pos _)).2 h
theorem exF_is (m : Nat) : exF m = F64.nearest false m 0 := by
  unfold exF floatOfInt
  have : decide ((m : Int) < 0) = false := by simp
  change F64.write (.number (decide ((m : Int) < 0)) (m : Int).natAbs 0) = _
  rw [this]
  rfl
theorem val_int (N : Nat) : Val N 0 N := ⟨0, 0, rfl, rfl⟩
theorem exF_read {N : Nat} (h0 : 0 < N) (h : N < 9007199254740992) : ∃ m k, F64.read (exF N) = .number false m ((k : Int) - 1074) ∧ 0 < m ∧ Val m ((k : Int) - 1074) N := by
  obtain ⟨m, k, n1, n2, n3, n4, n5, n6⟩ := int_word h0 h
  refine ⟨m, k, ?_, by omega, n6⟩
  rw [exF_is, near_val h0 (val_int N) n1 n3 n5]
  exact read_word n4 n1.2.1 n3
theorem near_form (M : Nat) (P : Int) (h : M ≠ 0) : ∃ l z : Nat, (max (P + (M.log2 : Nat) - (52 : Nat)) (-1074) - -1074).toNat = l ∧ F64.nearest false M P = min (l * 4503599627370496 + z) 9218868437227405312 := by
  unfold Format.nearest
  rw [if_neg h, word_false, f64_inf, f64_binade, f64_frac, f64_least]
  exact ⟨_, _, rfl, rfl⟩
theorem order_inf (c : Nat) (h : c < 9218868437227405312) : F64.order 9218868437227405312 c = some .gt := by
  have hE : ftE c ≠ 2047 := by unfold ftE; omega
  unfold Format.order
  rw [read_val (by omega) hE]
  have : F64.read 9218868437227405312 = .infinity false := by decide +kernel
  rw [this]
  rfl
theorem log_big {M N x y : Nat} (e2 : M * 2 ^ x = N * 2 ^ y) (hN : 2 ^ 53 ≤ N) : 53 + y < M.log2 + 1 + x := by
  have a2 : M < 2 ^ (M.log2 + 1) := Nat.lt_log2_self
  generalize M.log2 + 1 = L at *
  have a3 : 2 ^ (53 + y) < 2 ^ (L + x) := by
    calc 2 ^ (53 + y) = 2 ^ 53 * 2 ^ y := Nat.pow_add _ _ _
      _ ≤ N * 2 ^ y := Nat.mul_le_mul_right _ hN
      _ = M * 2 ^ x := e2.symm
      _ < 2 ^ L * 2 ^ x := Nat.mul_lt_mul_of_pos_right a2 (p2_pos x)
      _ = _ := (Nat.pow_add _ _ _).symm
  exact (Nat.pow_lt_pow_iff_right (by decide)).1 a3
theorem word_big {l z : Nat} (h : 1075 ≤ l) : 1075 * 4503599627370496 ≤ min (l * 4503599627370496 + z) 9218868437227405312 ∧ min (l * 4503599627370496 + z) 9218868437227405312 ≤ 9218868437227405312 := by omega
theorem big_word {M N : Nat} {P : Int} (hM : 0 < M) (h : Val M P N) (hN : 2 ^ 53 ≤ N) : 1075 * 4503599627370496 ≤ F64.nearest false M P ∧ F64.nearest false M P ≤ 9218868437227405312 := by
  obtain ⟨x, y, e1, e2⟩ := h
  obtain ⟨l, z, hl, hz⟩ := near_form M P (by omega)
  rw [hz]
  have a4 := log_big e2 hN
  exact word_big (by omega)
theorem val_lt {w c : Nat} (h1 : 1075 ≤ ftE w) (h2 : ftE c ≤ 1072) (hc : ftM c < 9007199254740992) : fvA c < fvA w := by
  have hM2 : 4503599627370496 ≤ ftM w := by unfold ftM; rw [if_neg (by omega)]; omega
  unfold fvA
  obtain ⟨s, hs⟩ : ∃ s, s = 1071 := ⟨_, rfl⟩
  have h3 : 2 ^ (ftE c - 1) ≤ 2 ^ s := Nat.pow_le_pow_right (by decide) (by omega)
  have h4 : 2 ^ (s + 1) < 2 ^ (ftE w - 1) := Nat.pow_lt_pow_right (by decide) (by omega)
  rw [Nat.pow_succ] at h4
  generalize 2 ^ (ftE c - 1) = a at *
  generalize 2 ^ (ftE w - 1) = d at *
  have p := p2_pos s
  generalize 2 ^ s = e at *
  calc ftM c * a ≤ 9007199254740992 * e := Nat.mul_le_mul (Nat.le_of_lt hc) h3
    _ = 4503599627370496 * (e * 2) := by omega
    _ < 4503599627370496 * d := Nat.mul_lt_mul_of_pos_left h4 (by decide)
    _ ≤ ftM w * d := Nat.mul_le_mul_right _ hM2
theorem big_gt' {w c : Nat} (h1 : 1075 * 4503599627370496 ≤ w) (h2 : w ≤ 9218868437227405312) (hc : c < 9218868437227405312) (hcE : ftE c ≤ 1072) (hcM : ftM c < 9007199254740992) : F64.order w c = some .gt := by
  by_cases hinf : w = 9218868437227405312
  · rw [hinf]; exact order_inf c hc
  · have hE : 1075 ≤ ftE w ∧ ftE w ≤ 2046 := by unfold ftE; omega
    rw [order_val (by omega) (by omega) (by omega) (by omega), cmp_int]
    have g1 : fvS w = (fvA w : Int) := by unfold fvS; rw [if_neg (by omega)]
    have g2 : fvS c = (fvA c : Int) := by unfold fvS; rw [if_neg (by omega)]
    rw [g1, g2]
    have hlt := val_lt hE.1 hcE hcM
    rw [if_neg (by omega), if_neg (by omega)]
theorem big_gt {M N : Nat} {P : Int} (hM : 0 < M) (h : Val M P N) (hN : 9007199254740992 ≤ N) : FloatKind.f64.format.order (F64.nearest false M P) 4831355200913801216 = some .gt := by
  have e53 : (2 : Nat) ^ 53 = 9007199254740992 := by decide
  obtain ⟨h1, h2⟩ := big_word hM h (by rw [e53]; exact hN)
  exact big_gt' h1 h2 (by decide) (by decide) (by decide)
theorem exM_some {f k x : Nat} (h : exM f k = some x) : x = mulP f k ∧ (FloatKind.f64.format.order f 4831355200913801216 == some .gt) = false := by
  unfold exM at h
  split at h
  · cases h
  · rename_i h1
    split at h
    · cases h
    · exact ⟨(Option.some.inj h).symm, by simpa using h1⟩
/-- The exact way back to a float is right. -/
theorem exR_back {N i m k f : Nat} (h0 : 0 < N) (nn : Nrm m k) (hk : k ≤ 2045) (h : RI m k (N * 10 ^ i * 2 ^ exB) tenB) (hx : exR N ((i : Int) - 348) = some f) : f = k * 4503599627370496 + m := by
  obtain ⟨t, ht, hT⟩ := tenB_is
  unfold exR at hx
  by_cases hbig : 4503599627370496 ≤ N
  · rw [if_pos hbig] at hx; cases hx
  rw [if_neg hbig] at hx
  obtain ⟨m1, k1, r1, r2, r3⟩ := exF_read h0 (by omega)
  by_cases he0 : (i : Int) - 348 = 0
  · rw [if_pos he0] at hx
    obtain rfl := Option.some.inj hx
    rw [exF_is]
    refine near_val h0 (val_int N) nn hk ?_
    have hi : i = t := by omega
    have e : N * 10 ^ i * 2 ^ exB = N * 2 ^ exB * tenB := by rw [hT, hi]; grind
    rw [e] at h
    have h' : RI m k (N * 2 ^ exB * tenB) (1 * tenB) := by rw [Nat.one_mul]; exact h
    exact (RI.scale tenB_pos).1 h'
  rw [if_neg he0] at hx
  by_cases hpos : 0 < (i : Int) - 348 ∧ (i : Int) - 348 ≤ 37
  · rw [if_pos hpos] at hx
    obtain ⟨e, he⟩ : ∃ e, i = e + t := ⟨i - t, by omega⟩
    have h2 : RI m k (N * 10 ^ e * 2 ^ exB) 1 := by
      have e1 : N * 10 ^ i * 2 ^ exB = N * 10 ^ e * 2 ^ exB * tenB := by rw [hT, he, Nat.pow_add]; grind
      rw [e1] at h
      have h' : RI m k (N * 10 ^ e * 2 ^ exB * tenB) (1 * tenB) := by rw [Nat.one_mul]; exact h
      exact (RI.scale tenB_pos).1 h'
    by_cases h22 : 22 < (i : Int) - 348
    · rw [if_pos h22] at hx
      obtain ⟨q, hq⟩ : ∃ q, e = q + 22 := ⟨e - 22, by omega⟩
      rw [show ((i : Int) - 348 - 22).toNat = q by omega] at hx
      obtain ⟨x1, x2⟩ := exM_some hx
      obtain ⟨M, P, g1, g2, g3⟩ := mulP_val (k := q) (by omega) r1 r2 r3
      rw [g3] at x1 x2
      by_cases hbg : 9007199254740992 ≤ N * 10 ^ q
      · rw [big_gt g1 g2 hbg] at x2
        exact absurd x2 (by decide)
      · have hN0 : 0 < N * 10 ^ q := Nat.mul_pos h0 (p10_pos q)
        obtain ⟨m2, k2, n1, n2, n3, n4, n5, n6⟩ := int_word hN0 (by omega)
        rw [near_val g1 g2 n1 n3 n5] at x1
        obtain ⟨M', P', b1, b2, b3⟩ := mulP_val (f := k2 * 4503599627370496 + m2) (k := 22) (by decide) (read_word n4 n1.2.1 n3) (by omega) n6
        rw [x1, b3]
        refine near_val b1 b2 nn hk ?_
        rw [Nat.mul_assoc N, ← Nat.pow_add, ← hq]
        exact h2
    · rw [if_neg h22] at hx
      rw [show ((i : Int) - 348).toNat = e by omega] at hx
      obtain ⟨x1, _⟩ := exM_some hx
      obtain ⟨M, P, g1, g2, g3⟩ := mulP_val (k := e) (by omega) r1 r2 r3
      rw [x1, g3]
      exact near_val g1 g2 nn hk h2
  · rw [if_neg hpos] at hx
    by_cases hneg : (i : Int) - 348 < 0 ∧ -22 ≤ (i : Int) - 348
    · rw [if_pos hneg] at hx
      obtain rfl := Option.some.inj hx
      obtain ⟨q, hq⟩ : ∃ q, t = i + q := ⟨t - i, by omega⟩
      rw [show (-((i : Int) - 348)).toNat = q by omega]
      refine divP_val (by omega) r1 r2 r3 nn hk ?_
      have e1 : N * 10 ^ i * 2 ^ exB = N * 2 ^ exB * 10 ^ i := by grind
      have e2 : tenB = 10 ^ q * 10 ^ i := by rw [hT, hq, Nat.pow_add, Nat.mul_comm]
      rw [e1, e2] at h
      exact (RI.scale (p10_pos i)).1 h
    · rw [if_neg hneg] at hx
      cases hx
end Go.Proofs.YtbgjhgohffkonaaGreatDoor

