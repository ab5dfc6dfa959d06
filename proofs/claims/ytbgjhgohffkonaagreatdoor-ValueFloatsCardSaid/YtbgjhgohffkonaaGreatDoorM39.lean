/- internal/strconv.special at a minus and a digit; the exact way, packing and the fast way of a number with its sign. -/
import Derived.Test.YtbgjhgohffkonaaGreatDoorM06
import Derived.Test.YtbgjhgohffkonaaGreatDoorVtI
import Derived.Test.YtbgjhgohffkonaaGreatDoorM02
namespace Go.Proofs.YtbgjhgohffkonaaGreatDoor
open Go.RowKit
set_option linter.unusedVariables false
set_option maxRecDepth 100000 in
theorem common0_any {t : ByteArray} (h0 : 0 < t.size) (hs : t.size ≤ 100000) (h2 : t[0].toNat ≤ 57) (w : World) : Calls Tryz.prog 148 #[.string t, .string ⟨#[105, 110, 102, 105, 110, 105, 116, 121]⟩] w fun e w' => e = .returned (.int .i64 0) ∧ w = w' := by
  have h65 : ¬ ((65 : Int) ≤ (t[0].toNat : Int)) := by omega
  have n105 : ((t[0].toNat : Int) != (((⟨#[105, 110, 102, 105, 110, 105, 116, 121]⟩ : ByteArray)[0]'(by decide)).toNat : Int)) = true := by
    have e : (((⟨#[105, 110, 102, 105, 110, 105, 116, 121]⟩ : ByteArray)[0]'(by decide)).toNat : Int) = 105 := rfl
    rw [e]; simp; omega
  have hmin : (0 : Int) < min 8 (t.size : Int) := by omega
  go_enter Tryz.func148, Tryz.ntmps148
  go_wp2_with fail
  go_loopw [6] (fun i wx => i = .int .i64 0 ∧ wx = w) (fun _ _ => 0)
  case atStart => exact ⟨rfl, by trivial⟩
  case round =>
    obtain ⟨rfl, rfl⟩ := hrel
    go_wp2_with fail
    go_ret
    exact ⟨rfl, rfl⟩
set_option maxRecDepth 100000 in
theorem specialN_any {S : ByteArray} (h1 : 1 < S.size) (hs : S.size ≤ 100000) (h45 : S[0] = 45) (h2 : S[1].toNat ≤ 57) (w : World) : Calls Tryz.prog 97 #[.string S] w fun e w' => e = .returned (.tuple #[.float .f64 0, .int .i64 0, .bool false]) ∧ w = w' := by
  have e45 : (S[0].toNat : Int) = 45 := by rw [h45]; rfl
  have hne : ¬ (S = ByteArray.empty) := by rintro rfl; exact absurd h1 (by decide)
  have hz : (S.extract 1 S.size).size = S.size - 1 := by rw [ByteArray.size_extract]; omega
  have hg : (S.extract 1 S.size)[0]'(by omega) = S[1] := by rw [ByteArray.getElem_extract]
  have HC := Lib.hid (fun w => common0_any (t := S.extract 1 S.size) (by omega) (by omega) (by rw [hg]; exact h2) w)
  clear hz hg h45
  go_enter Tryz.func97, Tryz.ntmps97
  go_wp2_with fail
  refine (HC.out _).mono ?_
  rintro e w2 ⟨rfl, rfl⟩
  go_wp2_with fail
  go_ret3
  exact ⟨rfl, rfl⟩
end Go.Proofs.YtbgjhgohffkonaaGreatDoor

/- Floats below nought in the model's arithmetic: as their magnitudes, with the sign. Plain. -/
namespace Go.Proofs.YtbgjhgohffkonaaGreatDoor
open Ieee
set_option linter.unusedVariables false
theorem read_sign {f : Nat} (h : f < 9223372036854775808) : F64.read (f + 9223372036854775808) = match F64.read f with
    | .number _ m p => .number true m p | .infinity _ => .infinity true | .nan _ t => .nan true t := by
  unfold Format.read
  rw [f64_sign, f64_binade, f64_inf]
  have e1 : ((f + 9223372036854775808) / 9223372036854775808 % 2 == 1) = true := by simp; omega
  have e2 : (f + 9223372036854775808) % 9223372036854775808 = f := by omega
  have e3 : f % 9223372036854775808 = f := by omega
  simp only [e1, e2, e3]
  by_cases h1 : f < 4503599627370496
  · rw [if_pos h1, if_pos h1]
  · rw [if_neg h1, if_neg h1]
    by_cases h2 : f < 9218868437227405312
    · rw [if_pos h2, if_pos h2]
    · rw [if_neg h2, if_neg h2]
      by_cases h3 : f = 9218868437227405312
      · rw [if_pos h3, if_pos h3]
      · rw [if_neg h3, if_neg h3]
theorem word_true (r : Nat) : F64.word true r = r + 9223372036854775808 := by
  unfold Format.word
  rw [if_pos rfl, f64_sign, Nat.add_comm]
theorem nearest_sign (M : Nat) (P : Int) : F64.nearest true M P = F64.nearest false M P + 9223372036854775808 := by
  unfold Format.nearest
  by_cases h : M = 0
  · rw [if_pos h, if_pos h, word_true, word_false]
  · rw [if_neg h, if_neg h, word_true, word_false]
    rfl
theorem neg_is {f : Nat} (h : f < 9223372036854775808) : Op.negFloat .f64 f = f + 9223372036854775808 := by
  show f ^^^ 2 ^ 63 = _
  have e : (2 : Nat) ^ 63 = 9223372036854775808 := by decide
  have h1 := Nat.two_pow_add_eq_or_of_lt (i := 63) (b := f) (by omega) 1
  have h2 : f ^^^ 2 ^ 63 = f ||| 2 ^ 63 := by
    apply Nat.eq_of_testBit_eq
    intro i
    rw [Nat.testBit_xor, Nat.testBit_or, Nat.testBit_two_pow]
    by_cases hi : 63 = i
    · subst hi
      rw [Nat.testBit_lt_two_pow (by omega)]
      simp
    · simp [hi]
  rw [h2, Nat.or_comm]
  rw [Nat.mul_one] at h1
  rw [← h1, e, Nat.add_comm]
theorem fin_lt {f : Nat} (h : Fin' f) : f < 9223372036854775808 := by unfold Fin' at h; omega
theorem mul_sign {f k : Nat} (h : Fin' f) (hk : k < 23) : FloatKind.f64.format.mul (f + 9223372036854775808) (p10 k) = some (mulP f k + 9223372036854775808) := by
  obtain ⟨m, p, hr, hm⟩ := p10_num hk
  have h2 := (mulP_is h hk).1
  change F64.mul (f + 9223372036854775808) (p10 k) = _
  change F64.mul f (p10 k) = _ at h2
  unfold Format.mul at h2 ⊢
  rw [read_sign (fin_lt h)]
  rw [hr] at h2 ⊢
  rcases read_fin h with ⟨a, q, e⟩ | e
  · rw [e] at h2 ⊢
    simp only [Datum.product, Option.map_some, Option.some.injEq] at h2 ⊢
    rw [← h2]
    exact nearest_sign _ _
  · rw [e] at h2 ⊢
    simp only [Datum.product] at h2 ⊢
    rw [if_neg hm] at h2 ⊢
    simp only [Option.map_some, Option.some.injEq] at h2 ⊢
    rw [← h2]
    exact word_true _
theorem div_sign {f k : Nat} (h : Fin' f) (hk : k < 23) : FloatKind.f64.format.div (f + 9223372036854775808) (p10 k) = some (divP f k + 9223372036854775808) := by
  obtain ⟨m, p, hr, hm⟩ := p10_num hk
  have h2 := (divP_is h hk).1
  change F64.div (f + 9223372036854775808) (p10 k) = _
  change F64.div f (p10 k) = _ at h2
  unfold Format.div at h2 ⊢
  rw [read_sign (fin_lt h)]
  rw [hr] at h2 ⊢
  rcases read_fin h with ⟨a, q, e⟩ | e
  · rw [e] at h2 ⊢
    simp only [Datum.quotient] at h2 ⊢
    rw [if_neg hm] at h2 ⊢
    simp only [Option.map_some, Option.some.injEq] at h2 ⊢
    rw [← h2]
    exact nearest_sign _ _
  · rw [e] at h2 ⊢
    simp only [Datum.quotient, Option.map_some, Option.some.injEq] at h2 ⊢
    rw [← h2]
    exact word_true _
theorem cmp_i (a b : Int) : compare a b = if a < b then Ordering.lt else if a = b then .eq else .gt := rfl
theorem signed_f (m u : Nat) : signed false m u = ((m <<< u : Nat) : Int) := rfl
theorem signed_t (m u : Nat) : signed true m u = -((m <<< u : Nat) : Int) := rfl
/-- A float below nought is not above one that is not. -/
theorem order_np {f c : Nat} (h : Fin' f) (hc : c < 9218868437227405312) : (FloatKind.f64.format.order (f + 9223372036854775808) c == some .gt) = false := by
  change (F64.order (f + 9223372036854775808) c == some .gt) = false
  have hcf : Fin' c := Nat.le_of_lt hc
  obtain ⟨n, q, ec⟩ : ∃ n q, F64.read c = .number false n q := by
    rcases read_fin hcf with ⟨n, q, e⟩ | e
    · exact ⟨n, q, e⟩
    · exfalso
      unfold Format.read at e
      rw [f64_sign, f64_binade, f64_inf] at e
      have e1 : (c / 9223372036854775808 % 2 == 1) = false := by simp; omega
      have e2 : c % 9223372036854775808 = c := by omega
      simp only [e1, e2] at e
      split at e
      · cases e
      · cases e
  unfold Format.order
  rw [read_sign (fin_lt h), ec]
  rcases read_fin h with ⟨a, p, e⟩ | e
  · rw [e]
    show (some (compare (signed true a _) (signed false n _)) == some Ordering.gt) = false
    rw [signed_t, signed_f, cmp_i]
    generalize (a <<< _ : Nat) = x
    generalize (n <<< _ : Nat) = y
    split
    · rfl
    · split
      · rfl
      · omega
  · rw [e]
    rfl
/-- A float that is not below nought is not below one that is. -/
theorem order_pn {f c : Nat} (h : Fin' f) (hc : c < 9218868437227405312) : (FloatKind.f64.format.order f (c + 9223372036854775808) == some .lt) = false := by
  change (F64.order f (c + 9223372036854775808) == some .lt) = false
  have hcf : Fin' c := Nat.le_of_lt hc
  have hcr := read_sign (fin_lt hcf)
  unfold Format.order
  rcases read_fin hcf with ⟨n, q, ec⟩ | ec
  · rw [ec] at hcr
    simp only at hcr
    rw [hcr]
    rcases read_fin h with ⟨a, p, e⟩ | e
    · rw [e]
      show (some (compare (signed false a _) (signed true n _)) == some Ordering.lt) = false
      rw [signed_t, signed_f, cmp_i]
      generalize (a <<< _ : Nat) = x
      generalize (n <<< _ : Nat) = y
      split
      · omega
      · split <;> rfl
    · rw [e]
      rfl
  · rw [ec] at hcr
    simp only at hcr
    rw [hcr]
    rcases read_fin h with ⟨a, p, e⟩ | e
    · rw [e]; rfl
    · rw [e]; rfl
/-- Two floats below nought stand to each other the other way round. -/
theorem order_nn {f c : Nat} (h : Fin' f) (hc : Fin' c) : (FloatKind.f64.format.order (f + 9223372036854775808) (c + 9223372036854775808) == some .lt) = (FloatKind.f64.format.order f c == some .gt) := by
  change (F64.order (f + 9223372036854775808) (c + 9223372036854775808) == some .lt) = (F64.order f c == some .gt)
  unfold Format.order
  rw [read_sign (fin_lt h), read_sign (fin_lt hc)]
  rcases read_fin h with ⟨a, p, e⟩ | e
  · rcases read_fin hc with ⟨n, q, ec⟩ | ec
    · rw [e, ec]
      show (some (compare (signed true a _) (signed true n _)) == some Ordering.lt) = (some (compare (signed false a _) (signed false n _)) == some Ordering.gt)
      rw [signed_t, signed_t, signed_f, signed_f, cmp_i, cmp_i]
      generalize (a <<< _ : Nat) = x
      generalize (n <<< _ : Nat) = y
      rcases Nat.lt_trichotomy x y with h | h | h
      · rw [if_neg (by omega), if_neg (by omega), if_pos (by omega)]; rfl
      · subst h
        rw [if_neg (by omega), if_pos rfl, if_neg (by omega), if_pos rfl]; rfl
      · rw [if_pos (by omega), if_neg (by omega), if_neg (by omega)]; rfl
    · rw [e, ec]; rfl
  · rcases read_fin hc with ⟨n, q, ec⟩ | ec
    · rw [e, ec]; rfl
    · rw [e, ec]; rfl
end Go.Proofs.YtbgjhgohffkonaaGreatDoor

