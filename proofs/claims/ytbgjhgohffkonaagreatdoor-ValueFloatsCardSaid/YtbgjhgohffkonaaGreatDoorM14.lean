/- internal/strconv.ftoa64 and FormatFloat of nought at 'f'. -/
import Derived.Test.YtbgjhgohffkonaaGreatDoorM13
import Derived.Test.YtbgjhgohffkonaaGreatDoorM02
import Derived.Test.YtbgjhgohffkonaaGreatDoorM12
namespace Go.Proofs.YtbgjhgohffkonaaGreatDoor
open Go.RowKit Go.Sort Go.Shelf
set_option linter.unusedSimpArgs false
set_option linter.unusedVariables false
attribute [local go_sem] run_fbits64
set_option maxHeartbeats 1000000 in
set_option maxRecDepth 100000 in
theorem ftoa_zero {w : World} {B base g0 b : Nat} (hG : FG B w) (hbase : base ≤ w.heap.size) (own0 : w.ownsRow base 5 1 (.slice (some ⟨g0, 0, none⟩) 0 24) 0 (Lib.byteCells [])) (hg0 : B ≤ g0)
    (hb : b = 0 ∨ b = 9223372036854775808) :
    Calls Tryz.prog 60 #[.slice (some ⟨g0, 0, none⟩) 0 24, .float .f64 b, .int .u8 102, .int .i64 (-1)] w fun e w' =>
      ∃ v L, e = .returned v ∧ L = fmS (ftN b) ++ [48] ∧ w'.ownsRow base 5 1 v L.length (Lib.byteCells L) ∧ Below base w w' := by
  have hp1 := hG.pw.1
  have hle := hG.le
  have HDS := Lib.hid (fun n => (show DS base 11 [] (w.drewN n) (w.drewN n) (.slice (some ⟨g0, 0, none⟩) 0 24) [] from
    ⟨Below.refl _ _, own_below own0 (below_drewN (Below.refl _ _) n), fun e => by have : g0 = 11 := Option.some.inj e; omega, Nat.lt_of_lt_of_le hp1 (by simpa using hle), by simpa using hbase, fun j c h => by simp at h⟩))
  have s3 : ∀ W, Sem.run Tryz.prog (Op.shift .shl .i64 1 .i64 11) W = .ok (.int .i64 2048) W := fun W => by kernel_rfl
  have s5 : ∀ W, Sem.run Tryz.prog (Op.shift .shl .u64 1 .i64 52) W = .ok (.int .u64 4503599627370496) W := fun W => by kernel_rfl
  have q1 : bits .and .i64 0 2047 = 0 := by kernel_rfl
  have q2 : bits .and .u64 0 4503599627370495 = 0 := by kernel_rfl
  have q3 : bits .and .i64 2048 2047 = 0 := by kernel_rfl
  have q4 : bits .and .u64 9223372036854775808 4503599627370495 = 0 := by kernel_rfl
  have hN0 : ftN 0 = false := by decide
  have hN1 : ftN 9223372036854775808 = true := by decide
  rcases hb with rfl | rfl
  · have s1 : ∀ W, Sem.run Tryz.prog (Op.shift .shr .u64 0 .i64 63) W = .ok (.int .u64 0) W := fun W => by kernel_rfl
    have s2 : ∀ W, Sem.run Tryz.prog (Op.shift .shr .u64 0 .i64 52) W = .ok (.int .u64 0) W := fun W => by kernel_rfl
    have HF := Lib.hid (fun n => fmtF_zero (HDS.out n) false)
    rw [hN0]
    go_enter Tryz.func60, Tryz.ntmps60
    go_wp2_with fail
    go_quiet (fail)
    go_wp2_with fail
    refine (HF.out _).mono ?_
    rintro e w4 ⟨v, rfl, hD4⟩
    go_wp2_with fail
    go_ret
    exact ⟨_, _, rfl, rfl, hD4.own, (below_drewN (Below.refl _ _) _).trans hD4.bel⟩
  · have s1 : ∀ W, Sem.run Tryz.prog (Op.shift .shr .u64 9223372036854775808 .i64 63) W = .ok (.int .u64 1) W := fun W => by kernel_rfl
    have s2 : ∀ W, Sem.run Tryz.prog (Op.shift .shr .u64 9223372036854775808 .i64 52) W = .ok (.int .u64 2048) W := fun W => by kernel_rfl
    have HF := Lib.hid (fun n => fmtF_zero (HDS.out n) true)
    rw [hN1]
    go_enter Tryz.func60, Tryz.ntmps60
    go_wp2_with fail
    go_quiet (fail)
    go_wp2_with fail
    refine (HF.out _).mono ?_
    rintro e w4 ⟨v, rfl, hD4⟩
    go_wp2_with fail
    go_ret
    exact ⟨_, _, rfl, rfl, hD4.own, (below_drewN (Below.refl _ _) _).trans hD4.bel⟩
set_option maxHeartbeats 2000000 in
set_option maxRecDepth 100000 in
theorem fmtInner_zero {w : World} {B b : Nat} (hG : FG B w) (hb : b = 0 ∨ b = 9223372036854775808) :
    Calls Tryz.prog 36 #[.float .f64 b, .int .u8 102, .int .i64 (-1), .int .i64 64] w fun e w' => e = .returned (.string ⟨((fmS (ftN b) ++ [48])).toArray⟩) ∧ Below w.heap.size w w' := by
  obtain ⟨i0, hi, hz0, hz1, hz2⟩ := info_parts infoB1
  obtain ⟨w1, hmk, hown1, hgr⟩ := run_make_own (P := Tryz.prog) w w.heap.size 67 5 i0 (.int .u8 0) 1 Tryz.underlying67 hi hz0 hz1 .i64 .i64 24 (by rw [hz2]; decide) (by decide) (Nat.le_refl _)
  have hmk' : (Instr.makeSlice 67 (.int .i64 0) (.int .i64 24)).run Tryz.prog w = .ok (.slice (some ⟨w.heap.size, 0, none⟩) 0 24) w1 := hmk
  have hm : max (3 : Int) 24 = 24 := by decide
  have hB1 : Below w.heap.size w w1 := Below.grown (Below.refl _ _) hgr (Nat.le_refl _) (fun _ e => by cases e)
  have HCALL := Lib.hid (ftoa_zero (base := w.heap.size) (hG.below hB1) hB1.size hown1 hG.le hb)
  have hpos : 0 < (fmS (ftN b) ++ [48]).length := by simp
  generalize (fmS (ftN b) ++ [48]) = L at *
  clear hmk hown1 hgr hb
  go_enter Tryz.func36, Tryz.ntmps36
  go_wp2_with fail
  refine HCALL.out.mono ?_
  rintro e w2 ⟨v, L', rfl, rfl, hown, hb⟩
  have hcv := own_text hown hpos
  obtain ⟨va, vc, rfl⟩ := own_shape hown
  have hB : Below w.heap.size w w2 := hB1.trans hb
  clear hown hb hB1
  go_wp2_with fail
  go_ret
  exact ⟨rfl, hB⟩
theorem fmt_zero {w : World} {B b : Nat} (hG : FG B w) (hb : b = 0 ∨ b = 9223372036854775808) :
    Calls Tryz.prog 17 #[.float .f64 b, .int .u8 102, .int .i64 (-1), .int .i64 64] w fun e w' => e = .returned (.string ⟨((fmS (ftN b) ++ [48])).toArray⟩) ∧ Below w.heap.size w w' := by
  have HF := Lib.hid (fmtInner_zero hG hb)
  generalize (fmS (ftN b) ++ [48]) = L at *
  clear hb
  go_enter Tryz.func17, Tryz.ntmps17
  go_wp2_with fail
  refine HF.out.mono ?_
  rintro e w2 ⟨rfl, hb⟩
  go_wp2_with fail
  go_ret
  exact ⟨rfl, hb⟩
end Go.Proofs.YtbgjhgohffkonaaGreatDoor

/- math.IsNaN, IsInf at a float by its order facts. -/
namespace Go.Proofs.YtbgjhgohffkonaaGreatDoor
open Go.RowKit Go.Sort Go.Shelf
set_option linter.unusedSimpArgs false
set_option linter.unusedVariables false
theorem isNaN_fin (x : Nat) (h : FloatKind.f64.format.order x x = some .eq) (w : World) : Calls Tryz.prog 15 #[.float .f64 x] w fun e w' => e = .returned (.bool false) ∧ w = w' := by
  go_enter Tryz.func15, Tryz.ntmps15
  go_wp2_with fail
  go_ret
  exact ⟨rfl, rfl⟩
theorem infUp_fin (x : Nat) (h : FloatKind.f64.format.order x 9218868437227405311 = some .lt ∨ FloatKind.f64.format.order x 9218868437227405311 = some .eq) (w : World) : Calls Tryz.prog 16 #[.float .f64 x, .int .i64 1] w fun e w' => e = .returned (.bool false) ∧ w = w' := by
  rcases h with h | h
  all_goals
    go_enter Tryz.func16, Tryz.ntmps16
    go_wp2_with fail
    go_ret
    exact ⟨rfl, rfl⟩
theorem infDown_fin (x : Nat) (h : FloatKind.f64.format.order (Op.negFloat .f64 x) 9218868437227405311 = some .lt ∨ FloatKind.f64.format.order (Op.negFloat .f64 x) 9218868437227405311 = some .eq) (w : World) : Calls Tryz.prog 16 #[.float .f64 x, .int .i64 (-1)] w fun e w' => e = .returned (.bool false) ∧ w = w' := by
  have n1 : ∀ W, Sem.run Tryz.prog (Op.unary .neg (.float .f64 x)) W = .ok (.float .f64 (Op.negFloat .f64 x)) W := fun W => rfl
  generalize Op.negFloat .f64 x = y at *
  rcases h with h | h
  all_goals
    go_enter Tryz.func16, Tryz.ntmps16
    go_wp2_with fail
    go_ret
    exact ⟨rfl, rfl⟩
end Go.Proofs.YtbgjhgohffkonaaGreatDoor

/- How finite floats stand to each other: by whole numbers. -/
namespace Go.Proofs.YtbgjhgohffkonaaGreatDoor
open Ieee
/-- |b| in units of 2^-1074. -/
def fvA (b : Nat) : Nat := ftM b * 2 ^ (ftE b - 1)
def fvS (b : Nat) : Int := if 9223372036854775808 ≤ b then -(fvA b : Int) else (fvA b : Int)
theorem read_val {b : Nat} (hb : b < 18446744073709551616) (hE : ftE b ≠ 2047) : F64.read b = .number (decide (9223372036854775808 ≤ b)) (ftM b) (F64.leastPlace + (ftE b - 1 : Nat)) := by
  have hs : (b / 9223372036854775808 % 2 == 1) = decide (9223372036854775808 ≤ b) := by
    by_cases h : 9223372036854775808 ≤ b
    · rw [decide_eq_true h]; simp; omega
    · rw [decide_eq_false h]; simp; omega
  unfold ftE at hE
  unfold Format.read ftM ftE
  rw [f64_sign, f64_binade, f64_inf]
  simp only [hs]
  by_cases h1 : b % 9223372036854775808 < 4503599627370496
  · have h0 : b / 4503599627370496 % 2048 = 0 := by omega
    rw [if_pos h1, if_pos h0, h0, show b % 9223372036854775808 = b % 4503599627370496 by omega]
    simp
  · have h0 : ¬ b / 4503599627370496 % 2048 = 0 := by omega
    rw [if_neg h1, if_pos (show b % 9223372036854775808 < 9218868437227405312 by omega), if_neg h0, show 4503599627370496 + b % 9223372036854775808 % 4503599627370496 = b % 4503599627370496 + 4503599627370496 by omega,
      show b % 9223372036854775808 / 4503599627370496 = b / 4503599627370496 % 2048 by omega]
theorem sg_up (s : Bool) (m u k : Nat) : signed s m (u + k) = signed s m u * ((2 ^ k : Nat) : Int) := by
  unfold signed
  rw [Nat.shiftLeft_eq, Nat.shiftLeft_eq, Nat.pow_add, ← Nat.mul_assoc]
  generalize m * 2 ^ u = a
  generalize 2 ^ k = c
  split
  · rw [Int.neg_mul, Int.natCast_mul]
  · rw [Int.natCast_mul]
theorem cmp_int (a b : Int) : compare a b = if a < b then .lt else if a = b then .eq else .gt := rfl
theorem cmp_mul (a b : Int) (k : Nat) (hk : 0 < k) : compare (a * (k : Int)) (b * (k : Int)) = compare a b := by
  have hk' : (0 : Int) < (k : Int) := by omega
  rw [cmp_int, cmp_int]
  rcases Int.lt_trichotomy a b with h | h | h
  · rw [if_pos h, if_pos (Int.mul_lt_mul_of_pos_right h hk')]
  · rw [h]
    simp
  · have h2 : b * (k : Int) < a * (k : Int) := Int.mul_lt_mul_of_pos_right h hk'
    rw [if_neg (by omega), if_neg (by omega), if_neg (by omega), if_neg (by omega)]
theorem fvS_eq (b : Nat) : fvS b = signed (decide (9223372036854775808 ≤ b)) (ftM b) (ftE b - 1) := by
  unfold fvS fvA signed
  rw [Nat.shiftLeft_eq]
  by_cases h : 9223372036854775808 ≤ b
  · rw [decide_eq_true h, if_pos h]; rfl
  · rw [decide_eq_false h, if_neg h]; rfl
theorem order_val {x y : Nat} (hx : x < 18446744073709551616) (hEx : ftE x ≠ 2047) (hy : y < 18446744073709551616) (hEy : ftE y ≠ 2047) : F64.order x y = some (compare (fvS x) (fvS y)) := by
  unfold Format.order
  rw [read_val hx hEx, read_val hy hEy, fvS_eq, fvS_eq]
  unfold Datum.order
  generalize decide (9223372036854775808 ≤ x) = s
  generalize decide (9223372036854775808 ≤ y) = t
  generalize ftM x = m
  generalize ftM y = n
  generalize ftE x - 1 = i
  generalize ftE y - 1 = j
  generalize F64.leastPlace = L
  show some (compare (signed s m (L + (i : Int) - min (L + (i : Int)) (L + (j : Int))).toNat) (signed t n (L + (j : Int) - min (L + (i : Int)) (L + (j : Int))).toNat)) = _
  obtain ⟨k, hk⟩ : ∃ k, min i j = k := ⟨_, rfl⟩
  have e1 : (L + (i : Int) - min (L + (i : Int)) (L + (j : Int))).toNat = i - k := by omega
  have e2 : (L + (j : Int) - min (L + (i : Int)) (L + (j : Int))).toNat = j - k := by omega
  rw [e1, e2]
  have h1 := sg_up s m (i - k) k
  have h2 := sg_up t n (j - k) k
  rw [show i - k + k = i by omega] at h1
  rw [show j - k + k = j by omega] at h2
  rw [h1, h2, cmp_mul _ _ _ (Nat.pos_of_ne_zero (by simp))]
theorem fvA_le {b : Nat} (hE : ftE b ≠ 2047) : fvA b ≤ fvA 9218868437227405311 := by
  have h1 : ftM 9218868437227405311 = 9007199254740991 := by decide
  have h2 : ftE 9218868437227405311 = 2046 := by decide
  have h3 : ftE b < 2048 := Nat.mod_lt _ (by decide)
  have hM : ftM b ≤ ftM 9218868437227405311 := by
    rw [h1]
    unfold ftM
    split <;> omega
  have hEE : ftE b - 1 ≤ ftE 9218868437227405311 - 1 := by rw [h2]; omega
  have key : ∀ i j : Nat, i ≤ j → 2 ^ i ≤ 2 ^ j := fun i j h => Nat.pow_le_pow_right (by decide) h
  exact Nat.mul_le_mul hM (key _ _ hEE)
theorem order_max {b : Nat} (hb : b < 18446744073709551616) (hE : ftE b ≠ 2047) : F64.order b 9218868437227405311 = some .lt ∨ F64.order b 9218868437227405311 = some .eq := by
  rw [order_val hb hE (by decide) (by decide)]
  have h := fvA_le hE
  have h2 : fvS 9218868437227405311 = (fvA 9218868437227405311 : Int) := by unfold fvS; rw [if_neg (by decide)]
  rw [h2]
  have h3 : fvS b ≤ (fvA 9218868437227405311 : Int) := by
    unfold fvS
    generalize fvA 9218868437227405311 = K at *
    generalize fvA b = a at *
    split <;> omega
  generalize (fvA 9218868437227405311 : Int) = K at *
  generalize fvS b = a at *
  rw [cmp_int]
  by_cases hlt : a < K
  · rw [if_pos hlt]; exact Or.inl rfl
  · rw [if_neg hlt, if_pos (by omega)]; exact Or.inr rfl
theorem order_same {b : Nat} (hb : b < 18446744073709551616) (hE : ftE b ≠ 2047) : F64.order b b = some .eq := by
  rw [order_val hb hE hb hE, cmp_int, if_neg (Int.lt_irrefl _), if_pos rfl]
end Go.Proofs.YtbgjhgohffkonaaGreatDoor

/- math.Abs and cmp.Compare at a finite float. -/
namespace Go.Proofs.YtbgjhgohffkonaaGreatDoor
open Go.RowKit Go.Sort Go.Shelf
set_option linter.unusedSimpArgs false
set_option linter.unusedVariables false
theorem notNan_any (x : Nat) (h : FloatKind.f64.format.order x x = some .eq) (w : World) : Calls Tryz.prog 37 #[.float .f64 x] w fun e w' => e = .returned (.bool false) ∧ w = w' := by
  go_enter Tryz.func37, Tryz.ntmps37
  go_wp2_with fail
  go_ret
  exact ⟨rfl, rfl⟩
theorem cmp_lt (x y : Nat) (hx : FloatKind.f64.format.order x x = some .eq) (hy : FloatKind.f64.format.order y y = some .eq) (h : FloatKind.f64.format.order x y = some .lt) (w : World) : Calls Tryz.prog 19 #[.float .f64 x, .float .f64 y] w fun e w' => e = .returned (.int .i64 (-1)) ∧ w = w' := by
  go_enter Tryz.func19, Tryz.ntmps19
  go_wp2_with fail
  refine (notNan_any x hx _).mono ?_
  rintro e w2 ⟨rfl, rfl⟩
  go_wp2_with fail
  refine (notNan_any y hy _).mono ?_
  rintro e w2 ⟨rfl, rfl⟩
  go_wp2_with fail
  go_ret
  exact ⟨rfl, rfl⟩
theorem cmp_ge (x y : Nat) (hx : FloatKind.f64.format.order x x = some .eq) (hy : FloatKind.f64.format.order y y = some .eq) (h : FloatKind.f64.format.order x y = some .gt ∨ FloatKind.f64.format.order x y = some .eq) (w : World) : Calls Tryz.prog 19 #[.float .f64 x, .float .f64 y] w fun e w' => (∃ n : Int, 0 ≤ n ∧ e = .returned (.int .i64 n)) ∧ w = w' := by
  rcases h with h | h
  all_goals
    go_enter Tryz.func19, Tryz.ntmps19
    go_wp2_with fail
    refine (notNan_any x hx _).mono ?_
    rintro e w2 ⟨rfl, rfl⟩
    go_wp2_with fail
    refine (notNan_any y hy _).mono ?_
    rintro e w2 ⟨rfl, rfl⟩
    go_wp2_with fail
    go_ret
    exact ⟨⟨_, by decide, rfl⟩, rfl⟩
theorem neg_mod (x : Nat) : Op.negFloat .f64 x % 9223372036854775808 = x % 9223372036854775808 := by
  show (x ^^^ 2 ^ 63) % 2 ^ 63 = x % 2 ^ 63
  rw [Nat.xor_mod_two_pow, Nat.mod_self, Nat.xor_zero]
theorem neg_lt {x : Nat} (h : x < 18446744073709551616) : Op.negFloat .f64 x < 18446744073709551616 := by
  show (x ^^^ 2 ^ 63) < 2 ^ 64
  exact Nat.xor_lt_two_pow h (by decide)
theorem ftE_mod (x : Nat) : ftE x = x % 9223372036854775808 / 4503599627370496 := by
  unfold ftE
  omega
theorem neg_ftE (x : Nat) : ftE (Op.negFloat .f64 x) = ftE x := by
  rw [ftE_mod, ftE_mod, neg_mod]
/-- A finite float is neither NaN nor infinite. -/
theorem fin_calls {x : Nat} (h : x < 18446744073709551616) (hE : ftE x ≠ 2047) (w : World) :
    (Calls Tryz.prog 15 #[.float .f64 x] w fun e w' => e = .returned (.bool false) ∧ w = w') ∧ (Calls Tryz.prog 16 #[.float .f64 x, .int .i64 1] w fun e w' => e = .returned (.bool false) ∧ w = w') ∧
      (Calls Tryz.prog 16 #[.float .f64 x, .int .i64 (-1)] w fun e w' => e = .returned (.bool false) ∧ w = w') :=
  ⟨isNaN_fin x (order_same h hE) w, infUp_fin x (order_max h hE) w, infDown_fin x (order_max (neg_lt h) (by rw [neg_ftE]; exact hE)) w⟩
end Go.Proofs.YtbgjhgohffkonaaGreatDoor

/- Plain: the digits of a float's text. -/
namespace Go.Proofs.YtbgjhgohffkonaaGreatDoor
theorem dec_dig : ∀ (n d : Nat), d ≤ n → ∀ b ∈ Lib.decDigits d, 48 ≤ b.toNat ∧ b.toNat ≤ 57
  | n, d, h, b, hb => by
    rw [Lib.decDigits] at hb
    split at hb
    · rename_i h10
      rw [List.mem_singleton] at hb
      rw [hb, UInt8.toNat_ofNat']
      omega
    · rename_i h10
      rw [List.mem_append, List.mem_singleton] at hb
      rcases hb with hb | hb
      · exact dec_dig (d / 10) (d / 10) (Nat.le_refl _) b hb
      · rw [hb, UInt8.toNat_ofNat']
        omega
  termination_by _ d => d
  decreasing_by omega
theorem strip_mem {l : List UInt8} {b : UInt8} (h : b ∈ stripZ l) : b ∈ l := by
  unfold stripZ at h
  rw [List.mem_reverse] at h
  exact List.mem_reverse.1 ((List.dropWhile_sublist _).mem h)
theorem ftD_dig {b : Nat} {c : UInt8} (h : c ∈ ftD b) : 48 ≤ c.toNat ∧ c.toNat ≤ 57 := dec_dig _ _ (Nat.le_refl _) c (strip_mem h)
theorem fmM_mem {D : List UInt8} {c : UInt8} (h : c ∈ fmM D) : c ∈ D ∨ c = 46 := by
  unfold fmM at h
  split at h
  · exact Or.inl h
  · exact Or.inl h
  · simp at h ⊢
    rcases h with h | h | h
    · exact Or.inl (Or.inl h)
    · exact Or.inr h
    · exact Or.inl (Or.inr h)
theorem index_at : ∀ (p q : List UInt8) (c : UInt8), c ∉ p → (p ++ c :: q).takeWhile (· != c) = p ∧ (p ++ c :: q).dropWhile (· != c) = c :: q
  | [], q, c, _ => by simp
  | a :: p, q, c, h => by
    have hac : a ≠ c := fun e => h (by rw [e]; exact List.mem_cons_self)
    have hp : c ∉ p := fun e => h (List.mem_cons_of_mem _ e)
    have := index_at p q c hp
    simp [hac, this.1, this.2]
theorem fmE_head (neg : Bool) (b : Nat) : (101 : UInt8) ∉ fmS neg ++ fmM (ftD b) := by
  intro h
  rcases List.mem_append.1 h with h | h
  · unfold fmS at h
    split at h <;> simp at h
  · rcases fmM_mem h with h | h
    · have := ftD_dig h
      have e : (101 : UInt8).toNat = 101 := rfl
      omega
    · simp at h
end Go.Proofs.YtbgjhgohffkonaaGreatDoor

