/- Plain facts on the reckoning with ints. -/
import Derived.WalkKit
import Derived.RowKit
import Derived.Laws.Bits64b
import Derived.Laws.BitsLemmas
import Derived.Test.YtbgjhgohffkonaaGreatDoorM03
import Derived.Test.YtbgjhgohffkonaaGreatDoorM16
namespace Go.Proofs.YtbgjhgohffkonaaGreatDoor
open Go.RowKit

def I64 (n : Int) : Prop := -9223372036854775808 ≤ n ∧ n ≤ 9223372036854775807
def plusB (a b : Int) : Bool := decide (wrap64 (a + b) < a) == decide (b < 0)
theorem plus_comm (a b : Int) (ha : I64 a) (hb : I64 b) : plusB a b = plusB b a := by
  unfold plusB I64 at *
  rw [Int.add_comm b a]
  unfold wrap64
  rw [Bool.eq_iff_iff]
  simp only [beq_iff_eq, decide_eq_decide]
  omega
theorem plus_just {a b : Int} (ha : I64 a) (hb : I64 b) (h : plusB a b = true) : wrap64 (a + b) = a + b := by
  unfold plusB I64 at *
  unfold wrap64 at h ⊢
  simp only [beq_iff_eq, decide_eq_decide] at h
  omega
def minusB (a b : Int) : Bool := decide (a < wrap64 (a - b)) == decide (b < 0)
theorem minus_back {a b : Int} (ha : I64 a) (hb : I64 b) (h : plusB a b = true) : wrap64 (wrap64 (a + b) - b) = a ∧ minusB (wrap64 (a + b)) b = true := by
  rw [plus_just ha hb h]
  have e : wrap64 (a + b - b) = a := by
    unfold wrap64
    unfold I64 at *
    omega
  refine ⟨e, ?_⟩
  unfold minusB
  rw [e]
  simp only [beq_iff_eq, decide_eq_decide]
  omega
/-- An int's magnitude. -/
def mag (n : Int) : Nat := n.natAbs
theorem mag_lt {n : Int} (h : I64 n) : mag n < 18446744073709551616 := by unfold mag I64 at *; omega
theorem quot_back {a b : Int} (ha : I64 a) (hb : I64 b) (h0 : b ≠ 0) (h1 : ¬ (a = -9223372036854775808 ∧ b = -1)) : I64 (a.tdiv b) ∧ a.tdiv b * b + a.tmod b = a := by
  refine ⟨?_, by rw [Int.mul_comm]; exact Int.mul_tdiv_add_tmod a b⟩
  have hn : (a.tdiv b).natAbs = a.natAbs / b.natAbs := Int.natAbs_tdiv a b
  have hle : a.natAbs / b.natAbs ≤ a.natAbs := Nat.div_le_self _ _
  unfold I64 at *
  by_cases hmin : a = -9223372036854775808
  · subst hmin
    have hb1 : b ≠ -1 := fun h => h1 ⟨rfl, h⟩
    by_cases hb2 : b = 1
    · subst hb2; decide
    · have h2 : 2 ≤ b.natAbs := by omega
      have h3 : (-9223372036854775808 : Int).natAbs / b.natAbs ≤ (-9223372036854775808 : Int).natAbs / 2 := Nat.div_le_div_left h2 (by decide)
      rw [← hn] at h3
      have h4 : (-9223372036854775808 : Int).natAbs / 2 = 4611686018427387904 := by decide
      omega
  · omega
/-- What a product comes to, and whether it fits. -/
def timesZ (a b : Int) : Int :=
  if mag a * mag b / 18446744073709551616 ≠ 0 then 0
  else if (decide (a < 0) != decide (b < 0)) = true then wrap64 (-(wrap64 ((mag a * mag b % 18446744073709551616 : Nat) : Int)))
  else wrap64 ((mag a * mag b % 18446744073709551616 : Nat) : Int)
def timesB (a b : Int) : Bool :=
  if mag a * mag b / 18446744073709551616 ≠ 0 then false
  else if (decide (a < 0) != decide (b < 0)) = true then decide (mag a * mag b % 18446744073709551616 ≤ 9223372036854775808)
  else decide (mag a * mag b % 18446744073709551616 < 9223372036854775808)
theorem times_comm (a b : Int) : timesZ a b = timesZ b a ∧ timesB a b = timesB b a := by
  have h : (decide (a < 0) != decide (b < 0)) = (decide (b < 0) != decide (a < 0)) := by cases decide (a < 0) <;> cases decide (b < 0) <;> rfl
  unfold timesZ timesB
  rw [Nat.mul_comm (mag b) (mag a), h]
  exact ⟨rfl, rfl⟩
end Go.Proofs.YtbgjhgohffkonaaGreatDoor

/- A number and a string are right values. -/
namespace Go.Proofs.YtbgjhgohffkonaaGreatDoor
open Go.RowKit
attribute [local go_sem] run_bits64 run_frombits64 store_flt
set_option maxHeartbeats 1000000 in
set_option maxRecDepth 100000 in
theorem right_int (n : Int) (d : Int) (w : World) : Calls Tryz.prog 45 #[(.agg #[.int .i64 2, .int .i64 (n), .float .f64 0, .string ⟨#[]⟩, .slice none 0 0, .slice none 0 0]), .int .i64 d] w fun e w' => e = .returned (.bool true) ∧ Below w.heap.size w w' := by
  go_enter Tryz.func45, Tryz.ntmps45
  go_wp2_with fail
  go_quiet (fail)
  go_wp2_with fail
  go_ret
  exact ⟨rfl, (by (repeat' (first | (with_reducible exact Below.refl _ _) | (with_reducible assumption) | (with_reducible refine below_drewN ?_ _) | (with_reducible refine Below.drew ?_) | (with_reducible refine Below.alloc ?_ ?_ _) | (with_reducible refine Below.setCell ?_ ?_ _) | omega | (simp; done) | (simp; omega))))⟩
theorem Right_int (n : Int) (w : World) : Calls Tryz.prog 24 #[(.agg #[.int .i64 2, .int .i64 (n), .float .f64 0, .string ⟨#[]⟩, .slice none 0 0, .slice none 0 0])] w fun e w' => e = .returned (.bool true) ∧ Below w.heap.size w w' := by
  go_enter Tryz.func24, Tryz.ntmps24
  go_wp2_with fail
  refine (right_int n 32 _).mono ?_
  rintro e w2 ⟨rfl, hb⟩
  go_wp2_with fail
  go_ret
  refine ⟨rfl, Below.trans ?_ (hb.mono (by simp))⟩
  (repeat' (first | (with_reducible exact Below.refl _ _) | (with_reducible assumption) | (with_reducible refine below_drewN ?_ _) | (with_reducible refine Below.drew ?_) | (with_reducible refine Below.alloc ?_ ?_ _) | (with_reducible refine Below.setCell ?_ ?_ _) | omega | (simp; done) | (simp; omega)))
set_option maxHeartbeats 1000000 in
set_option maxRecDepth 100000 in
theorem right_flt (b : Nat) (d : Int) (w : World) : Calls Tryz.prog 45 #[(.agg #[.int .i64 3, .int .i64 0, .float .f64 (b), .string ⟨#[]⟩, .slice none 0 0, .slice none 0 0]), .int .i64 d] w fun e w' => e = .returned (.bool true) ∧ Below w.heap.size w w' := by
  go_enter Tryz.func45, Tryz.ntmps45
  go_wp2_with fail
  go_quiet (fail)
  go_wp2_with fail
  go_ret
  exact ⟨rfl, (by (repeat' (first | (with_reducible exact Below.refl _ _) | (with_reducible assumption) | (with_reducible refine below_drewN ?_ _) | (with_reducible refine Below.drew ?_) | (with_reducible refine Below.alloc ?_ ?_ _) | (with_reducible refine Below.setCell ?_ ?_ _) | omega | (simp; done) | (simp; omega))))⟩
theorem Right_flt (b : Nat) (w : World) : Calls Tryz.prog 24 #[(.agg #[.int .i64 3, .int .i64 0, .float .f64 (b), .string ⟨#[]⟩, .slice none 0 0, .slice none 0 0])] w fun e w' => e = .returned (.bool true) ∧ Below w.heap.size w w' := by
  go_enter Tryz.func24, Tryz.ntmps24
  go_wp2_with fail
  refine (right_flt b 32 _).mono ?_
  rintro e w2 ⟨rfl, hb⟩
  go_wp2_with fail
  go_ret
  refine ⟨rfl, Below.trans ?_ (hb.mono (by simp))⟩
  (repeat' (first | (with_reducible exact Below.refl _ _) | (with_reducible assumption) | (with_reducible refine below_drewN ?_ _) | (with_reducible refine Below.drew ?_) | (with_reducible refine Below.alloc ?_ ?_ _) | (with_reducible refine Below.setCell ?_ ?_ _) | omega | (simp; done) | (simp; omega)))
set_option maxHeartbeats 1000000 in
set_option maxRecDepth 100000 in
theorem right_str (t : ByteArray) (ht : t.size ≤ 1024) (d : Int) (w : World) : Calls Tryz.prog 45 #[(.agg #[.int .i64 4, .int .i64 0, .float .f64 0, .string (t), .slice none 0 0, .slice none 0 0]), .int .i64 d] w fun e w' => e = .returned (.bool true) ∧ Below w.heap.size w w' := by
  have hle : decide ((1024 : Int) < (t.size : Int)) = false := by simp; omega
  go_enter Tryz.func45, Tryz.ntmps45
  go_wp2_with fail
  go_quiet (fail)
  go_wp2_with fail
  go_ret
  exact ⟨rfl, (by (repeat' (first | (with_reducible exact Below.refl _ _) | (with_reducible assumption) | (with_reducible refine below_drewN ?_ _) | (with_reducible refine Below.drew ?_) | (with_reducible refine Below.alloc ?_ ?_ _) | (with_reducible refine Below.setCell ?_ ?_ _) | omega | (simp; done) | (simp; omega))))⟩
theorem Right_str (t : ByteArray) (ht : t.size ≤ 1024) (w : World) : Calls Tryz.prog 24 #[(.agg #[.int .i64 4, .int .i64 0, .float .f64 0, .string (t), .slice none 0 0, .slice none 0 0])] w fun e w' => e = .returned (.bool true) ∧ Below w.heap.size w w' := by
  go_enter Tryz.func24, Tryz.ntmps24
  go_wp2_with fail
  refine (right_str t ht 32 _).mono ?_
  rintro e w2 ⟨rfl, hb⟩
  go_wp2_with fail
  go_ret
  refine ⟨rfl, Below.trans ?_ (hb.mono (by simp))⟩
  (repeat' (first | (with_reducible exact Below.refl _ _) | (with_reducible assumption) | (with_reducible refine below_drewN ?_ _) | (with_reducible refine Below.drew ?_) | (with_reducible refine Below.alloc ?_ ?_ _) | (with_reducible refine Below.setCell ?_ ?_ _) | omega | (simp; done) | (simp; omega)))
end Go.Proofs.YtbgjhgohffkonaaGreatDoor

