/- Numbers as floats; ints reckoned with. -/
import Derived.Test.YtbgjhgohffkonaaGreatDoorM19
import Derived.Test.YtbgjhgohffkonaaGreatDoorShelf
import Derived.Laws.FloatArith
import Derived.Test.YtbgjhgohffkonaaGreatDoorM16
import Derived.LoopN
namespace Go.Proofs.YtbgjhgohffkonaaGreatDoor
open Go.RowKit
attribute [local go_sem] run_bits64 run_frombits64 store_flt
set_option maxHeartbeats 1000000 in
set_option maxRecDepth 100000 in
theorem float_int (a : Int) (w : World) : Calls Tryz.prog 49 #[(.agg #[.int .i64 2, .int .i64 (a), .float .f64 0, .string ⟨#[]⟩, .slice none 0 0, .slice none 0 0])] w fun e w' => e = .returned (.tuple #[.float .f64 (floatOfInt .f64 a), .bool true]) ∧ Below w.heap.size w w' := by
  go_enter Tryz.func49, Tryz.ntmps49
  go_wp2_with fail
  go_ret2
  exact ⟨rfl, (by (repeat' (first | (with_reducible exact Below.refl _ _) | (with_reducible assumption) | (with_reducible refine below_drewN ?_ _) | (with_reducible refine Below.drew ?_) | (with_reducible refine Below.alloc ?_ ?_ _) | (with_reducible refine Below.setCell ?_ ?_ _) | omega | (simp; done) | (simp; omega))))⟩
set_option maxHeartbeats 1000000 in
set_option maxRecDepth 100000 in
theorem float_flt (a : Nat) (w : World) : Calls Tryz.prog 49 #[(.agg #[.int .i64 3, .int .i64 0, .float .f64 (a), .string ⟨#[]⟩, .slice none 0 0, .slice none 0 0])] w fun e w' => e = .returned (.tuple #[.float .f64 (a), .bool true]) ∧ Below w.heap.size w w' := by
  go_enter Tryz.func49, Tryz.ntmps49
  go_wp2_with fail
  go_quiet (fail)
  go_wp2_with fail
  go_ret2
  exact ⟨rfl, (by (repeat' (first | (with_reducible exact Below.refl _ _) | (with_reducible assumption) | (with_reducible refine below_drewN ?_ _) | (with_reducible refine Below.drew ?_) | (with_reducible refine Below.alloc ?_ ?_ _) | (with_reducible refine Below.setCell ?_ ?_ _) | omega | (simp; done) | (simp; omega))))⟩
set_option maxHeartbeats 1000000 in
set_option maxRecDepth 100000 in
theorem float_str (a : ByteArray) (w : World) : Calls Tryz.prog 49 #[(.agg #[.int .i64 4, .int .i64 0, .float .f64 0, .string (a), .slice none 0 0, .slice none 0 0])] w fun e w' => e = .returned (.tuple #[.float .f64 (0), .bool false]) ∧ Below w.heap.size w w' := by
  go_enter Tryz.func49, Tryz.ntmps49
  go_wp2_with fail
  go_quiet (fail)
  go_wp2_with fail
  go_ret2
  exact ⟨rfl, (by (repeat' (first | (with_reducible exact Below.refl _ _) | (with_reducible assumption) | (with_reducible refine below_drewN ?_ _) | (with_reducible refine Below.drew ?_) | (with_reducible refine Below.alloc ?_ ?_ _) | (with_reducible refine Below.setCell ?_ ?_ _) | omega | (simp; done) | (simp; omega))))⟩
set_option maxHeartbeats 1000000 in
set_option maxRecDepth 100000 in
theorem floats_int_int (a : Int) (b : Int) (w : World) : Calls Tryz.prog 28 #[(.agg #[.int .i64 2, .int .i64 (a), .float .f64 0, .string ⟨#[]⟩, .slice none 0 0, .slice none 0 0]), (.agg #[.int .i64 2, .int .i64 (b), .float .f64 0, .string ⟨#[]⟩, .slice none 0 0, .slice none 0 0])] w fun e w' => e = .returned (.tuple #[.float .f64 (floatOfInt .f64 a), .float .f64 (floatOfInt .f64 b), .bool true]) ∧ Below w.heap.size w w' := by
  go_enter Tryz.func28, Tryz.ntmps28
  go_wp2_with fail
  refine (float_int a _).mono ?_
  rintro e w2 ⟨rfl, hb⟩
  have hb0 : Below w.heap.size w w2 := Below.trans ((by (repeat' (first | (with_reducible exact Below.refl _ _) | (with_reducible assumption) | (with_reducible refine below_drewN ?_ _) | (with_reducible refine Below.drew ?_) | (with_reducible refine Below.alloc ?_ ?_ _) | (with_reducible refine Below.setCell ?_ ?_ _) | omega | (simp; done) | (simp; omega))))) (hb.mono (by simp; omega))
  have hr : w2.heap[w.heap.size + 1]? = _ := block_below (block_new _ _ (by simp)) hb
  have q0 := block_cell hr (i := 0) rfl
  have q1 := block_cell hr (i := 1) rfl
  have q2 := block_cell hr (i := 2) rfl
  have q3 := block_cell hr (i := 3) rfl
  have q4 := block_cell hr (i := 4) rfl
  have q5 := block_cell hr (i := 5) rfl
  clear hr hb
  go_wp2_with fail
  refine (float_int b _).mono ?_
  rintro e w3 ⟨rfl, hb3⟩
  go_wp2_with fail
  go_ret3
  exact ⟨rfl, hb0.trans (hb3.mono hb0.size)⟩
set_option maxHeartbeats 1000000 in
set_option maxRecDepth 100000 in
theorem floats_int_flt (a : Int) (b : Nat) (w : World) : Calls Tryz.prog 28 #[(.agg #[.int .i64 2, .int .i64 (a), .float .f64 0, .string ⟨#[]⟩, .slice none 0 0, .slice none 0 0]), (.agg #[.int .i64 3, .int .i64 0, .float .f64 (b), .string ⟨#[]⟩, .slice none 0 0, .slice none 0 0])] w fun e w' => e = .returned (.tuple #[.float .f64 (floatOfInt .f64 a), .float .f64 (b), .bool true]) ∧ Below w.heap.size w w' := by
  go_enter Tryz.func28, Tryz.ntmps28
  go_wp2_with fail
  refine (float_int a _).mono ?_
  rintro e w2 ⟨rfl, hb⟩
  have hb0 : Below w.heap.size w w2 := Below.trans ((by (repeat' (first | (with_reducible exact Below.refl _ _) | (with_reducible assumption) | (with_reducible refine below_drewN ?_ _) | (with_reducible refine Below.drew ?_) | (with_reducible refine Below.alloc ?_ ?_ _) | (with_reducible refine Below.setCell ?_ ?_ _) | omega | (simp; done) | (simp; omega))))) (hb.mono (by simp; omega))
  have hr : w2.heap[w.heap.size + 1]? = _ := block_below (block_new _ _ (by simp)) hb
  have q0 := block_cell hr (i := 0) rfl
  have q1 := block_cell hr (i := 1) rfl
  have q2 := block_cell hr (i := 2) rfl
  have q3 := block_cell hr (i := 3) rfl
  have q4 := block_cell hr (i := 4) rfl
  have q5 := block_cell hr (i := 5) rfl
  clear hr hb
  go_wp2_with fail
  refine (float_flt b _).mono ?_
  rintro e w3 ⟨rfl, hb3⟩
  go_wp2_with fail
  go_ret3
  exact ⟨rfl, hb0.trans (hb3.mono hb0.size)⟩
set_option maxHeartbeats 1000000 in
set_option maxRecDepth 100000 in
theorem floats_flt_int (a : Nat) (b : Int) (w : World) : Calls Tryz.prog 28 #[(.agg #[.int .i64 3, .int .i64 0, .float .f64 (a), .string ⟨#[]⟩, .slice none 0 0, .slice none 0 0]), (.agg #[.int .i64 2, .int .i64 (b), .float .f64 0, .string ⟨#[]⟩, .slice none 0 0, .slice none 0 0])] w fun e w' => e = .returned (.tuple #[.float .f64 (a), .float .f64 (floatOfInt .f64 b), .bool true]) ∧ Below w.heap.size w w' := by
  go_enter Tryz.func28, Tryz.ntmps28
  go_wp2_with fail
  refine (float_flt a _).mono ?_
  rintro e w2 ⟨rfl, hb⟩
  have hb0 : Below w.heap.size w w2 := Below.trans ((by (repeat' (first | (with_reducible exact Below.refl _ _) | (with_reducible assumption) | (with_reducible refine below_drewN ?_ _) | (with_reducible refine Below.drew ?_) | (with_reducible refine Below.alloc ?_ ?_ _) | (with_reducible refine Below.setCell ?_ ?_ _) | omega | (simp; done) | (simp; omega))))) (hb.mono (by simp; omega))
  have hr : w2.heap[w.heap.size + 1]? = _ := block_below (block_new _ _ (by simp)) hb
  have q0 := block_cell hr (i := 0) rfl
  have q1 := block_cell hr (i := 1) rfl
  have q2 := block_cell hr (i := 2) rfl
  have q3 := block_cell hr (i := 3) rfl
  have q4 := block_cell hr (i := 4) rfl
  have q5 := block_cell hr (i := 5) rfl
  clear hr hb
  go_wp2_with fail
  refine (float_int b _).mono ?_
  rintro e w3 ⟨rfl, hb3⟩
  go_wp2_with fail
  go_ret3
  exact ⟨rfl, hb0.trans (hb3.mono hb0.size)⟩
set_option maxHeartbeats 1000000 in
set_option maxRecDepth 100000 in
theorem floats_flt_flt (a : Nat) (b : Nat) (w : World) : Calls Tryz.prog 28 #[(.agg #[.int .i64 3, .int .i64 0, .float .f64 (a), .string ⟨#[]⟩, .slice none 0 0, .slice none 0 0]), (.agg #[.int .i64 3, .int .i64 0, .float .f64 (b), .string ⟨#[]⟩, .slice none 0 0, .slice none 0 0])] w fun e w' => e = .returned (.tuple #[.float .f64 (a), .float .f64 (b), .bool true]) ∧ Below w.heap.size w w' := by
  go_enter Tryz.func28, Tryz.ntmps28
  go_wp2_with fail
  refine (float_flt a _).mono ?_
  rintro e w2 ⟨rfl, hb⟩
  have hb0 : Below w.heap.size w w2 := Below.trans ((by (repeat' (first | (with_reducible exact Below.refl _ _) | (with_reducible assumption) | (with_reducible refine below_drewN ?_ _) | (with_reducible refine Below.drew ?_) | (with_reducible refine Below.alloc ?_ ?_ _) | (with_reducible refine Below.setCell ?_ ?_ _) | omega | (simp; done) | (simp; omega))))) (hb.mono (by simp; omega))
  have hr : w2.heap[w.heap.size + 1]? = _ := block_below (block_new _ _ (by simp)) hb
  have q0 := block_cell hr (i := 0) rfl
  have q1 := block_cell hr (i := 1) rfl
  have q2 := block_cell hr (i := 2) rfl
  have q3 := block_cell hr (i := 3) rfl
  have q4 := block_cell hr (i := 4) rfl
  have q5 := block_cell hr (i := 5) rfl
  clear hr hb
  go_wp2_with fail
  refine (float_flt b _).mono ?_
  rintro e w3 ⟨rfl, hb3⟩
  go_wp2_with fail
  go_ret3
  exact ⟨rfl, hb0.trans (hb3.mono hb0.size)⟩
set_option maxHeartbeats 1000000 in
set_option maxRecDepth 100000 in
theorem floats_str_str (a : ByteArray) (b : ByteArray) (w : World) : Calls Tryz.prog 28 #[(.agg #[.int .i64 4, .int .i64 0, .float .f64 0, .string (a), .slice none 0 0, .slice none 0 0]), (.agg #[.int .i64 4, .int .i64 0, .float .f64 0, .string (b), .slice none 0 0, .slice none 0 0])] w fun e w' => e = .returned (.tuple #[.float .f64 (0), .float .f64 (0), .bool false]) ∧ Below w.heap.size w w' := by
  go_enter Tryz.func28, Tryz.ntmps28
  go_wp2_with fail
  refine (float_str a _).mono ?_
  rintro e w2 ⟨rfl, hb⟩
  have hb0 : Below w.heap.size w w2 := Below.trans ((by (repeat' (first | (with_reducible exact Below.refl _ _) | (with_reducible assumption) | (with_reducible refine below_drewN ?_ _) | (with_reducible refine Below.drew ?_) | (with_reducible refine Below.alloc ?_ ?_ _) | (with_reducible refine Below.setCell ?_ ?_ _) | omega | (simp; done) | (simp; omega))))) (hb.mono (by simp; omega))
  have hr : w2.heap[w.heap.size + 1]? = _ := block_below (block_new _ _ (by simp)) hb
  have q0 := block_cell hr (i := 0) rfl
  have q1 := block_cell hr (i := 1) rfl
  have q2 := block_cell hr (i := 2) rfl
  have q3 := block_cell hr (i := 3) rfl
  have q4 := block_cell hr (i := 4) rfl
  have q5 := block_cell hr (i := 5) rfl
  clear hr hb
  go_wp2_with fail
  refine (float_str b _).mono ?_
  rintro e w3 ⟨rfl, hb3⟩
  go_wp2_with fail
  go_ret3
  exact ⟨rfl, hb0.trans (hb3.mono hb0.size)⟩

theorem ints_plus (a b : Int) (w : World) : Calls Tryz.prog 32 #[.string ⟨#[43]⟩, .int .i64 a, .int .i64 b] w fun e w' => e = .returned (.tuple #[.int .i64 (wrap64 (a + b)), .bool (plusB a b)]) ∧ w = w' := by
  have h := Lib.hid (show plusB a b = (decide (wrap64 (a + b) < a) == decide (b < 0)) from rfl)
  generalize plusB a b = r at *
  go_enter Tryz.func32, Tryz.ntmps32
  go_wp2_with fail
  all_goals
    go_ret2
    rw [h.out]
    simp [*]
theorem ints_minus (a b : Int) (w : World) : Calls Tryz.prog 32 #[.string ⟨#[45]⟩, .int .i64 a, .int .i64 b] w fun e w' => e = .returned (.tuple #[.int .i64 (wrap64 (a - b)), .bool (minusB a b)]) ∧ w = w' := by
  have h := Lib.hid (show minusB a b = (decide (a < wrap64 (a - b)) == decide (b < 0)) from rfl)
  generalize minusB a b = r at *
  go_enter Tryz.func32, Tryz.ntmps32
  go_wp2_with fail
  all_goals
    go_ret2
    rw [h.out]
    simp [*]
theorem magnitude_any (n : Int) (hn : I64 n) (w : World) : Calls Tryz.prog 52 #[.int .i64 n] w fun e w' => e = .returned (.tuple #[.int .u64 (mag n : Nat), .bool (decide (n < 0))]) ∧ w = w' := by
  unfold I64 at hn
  by_cases h : n < 0
  · have e1 : (IntKind.u64.wrap (-(IntKind.u64.wrap n))) = (mag n : Nat) := by rw [IntKind.wrap_u64, IntKind.wrap_u64]; unfold mag; omega
    go_enter Tryz.func52, Tryz.ntmps52
    go_wp2_with fail
    go_ret2
    exact ⟨by simp [h], rfl⟩
  · have e1 : IntKind.u64.wrap n = (mag n : Nat) := by rw [IntKind.wrap_u64]; unfold mag; omega
    go_enter Tryz.func52, Tryz.ntmps52
    go_wp2_with fail
    go_ret2
    exact ⟨by simp [h], rfl⟩
set_option maxRecDepth 100000 in
theorem signed_any (hi lo : Nat) (neg : Bool) (w : World) : Calls Tryz.prog 54 #[.int .u64 (hi : Int), .int .u64 (lo : Int), .bool neg] w fun e w' =>
    e = .returned (.tuple #[.int .i64 (if hi ≠ 0 then 0 else if neg = true then wrap64 (-(wrap64 (lo : Int))) else wrap64 (lo : Int)), .bool (if hi ≠ 0 then false else if neg = true then decide (lo ≤ 9223372036854775808) else decide (lo < 9223372036854775808))]) ∧ w = w' := by
  by_cases h : hi = 0
  · subst h
    cases neg
    · go_enter Tryz.func54, Tryz.ntmps54
      go_wp2_with fail
      go_ret2
      exact ⟨by simp; omega, rfl⟩
    · go_enter Tryz.func54, Tryz.ntmps54
      go_wp2_with fail
      go_ret2
      exact ⟨by simp; omega, rfl⟩
  · have h' : ((hi : Int) != 0) = true := by simp; omega
    go_enter Tryz.func54, Tryz.ntmps54
    go_wp2_with fail
    go_ret2
    exact ⟨by simp, rfl⟩
theorem ints_times (a b : Int) (ha : I64 a) (hb : I64 b) (w : World) : Calls Tryz.prog 32 #[.string ⟨#[42]⟩, .int .i64 a, .int .i64 b] w fun e w' => e = .returned (.tuple #[.int .i64 (timesZ a b), .bool (timesB a b)]) ∧ w = w' := by
  have HA := Lib.hid ha
  have HB := Lib.hid hb
  clear ha hb
  have hx := mag_lt HA.out
  have hy := mag_lt HB.out
  have hs : ∀ W, Calls Tryz.prog 54 #[.int .u64 ((mag a * mag b / 18446744073709551616 : Nat) : Int), .int .u64 ((mag a * mag b % 18446744073709551616 : Nat) : Int), .bool (decide (a < 0) != decide (b < 0))] W fun e w' => e = .returned (.tuple #[.int .i64 (timesZ a b), .bool (timesB a b)]) ∧ W = w' :=
    fun W => signed_any (mag a * mag b / 18446744073709551616) (mag a * mag b % 18446744073709551616) (decide (a < 0) != decide (b < 0)) W
  generalize timesZ a b = z at *
  generalize timesB a b = t at *
  have HS := Lib.hid hs
  clear hs
  go_enter Tryz.func32, Tryz.ntmps32
  go_wp2_with fail
  refine (magnitude_any a HA.out _).mono ?_
  rintro e w1 ⟨rfl, rfl⟩
  go_wp2_with fail
  refine (magnitude_any b HB.out _).mono ?_
  rintro e w1 ⟨rfl, rfl⟩
  go_wp2_with fail
  refine (Tryz.bits_Mul64 (mag a) (mag b) hx hy _).mono ?_
  rintro e w1 ⟨rfl, rfl⟩
  go_wp2_with fail
  refine (HS.out _).mono ?_
  rintro e w1 ⟨rfl, rfl⟩
  go_wp2_with fail
  go_ret2
  exact ⟨rfl, rfl⟩
theorem ints_quo (a b : Int) (h0 : b ≠ 0) (h1 : ¬ (a = -9223372036854775808 ∧ b = -1)) (w : World) : Calls Tryz.prog 32 #[.string ⟨#[47]⟩, .int .i64 a, .int .i64 b] w fun e w' => e = .returned (.tuple #[.int .i64 (wrap64 (a.tdiv b)), .bool true]) ∧ w = w' := by
  by_cases hm : a = -9223372036854775808
  · have hb : b ≠ -1 := fun h => h1 ⟨hm, h⟩
    have e1 : (a != -9223372036854775808) = false := by simp [hm]
    have e2 : (b != -1) = true := by simpa using hb
    clear hm
    go_enter Tryz.func32, Tryz.ntmps32
    go_wp2_with fail
    go_ret2
    exact ⟨rfl, rfl⟩
  · have e1 : (a != -9223372036854775808) = true := by simpa using hm
    go_enter Tryz.func32, Tryz.ntmps32
    go_wp2_with fail
    go_ret2
    exact ⟨rfl, rfl⟩
end Go.Proofs.YtbgjhgohffkonaaGreatDoor

/- A sign is looked for among the six. -/
namespace Go.Proofs.YtbgjhgohffkonaaGreatDoor
open Go.RowKit

/-- A row of the six signs. -/
structure Six (g : Nat) (W : World) : Prop where
  c0 : W.cell? ⟨g, 0, none⟩ = some (.string ⟨#[43]⟩)
  c1 : W.cell? ⟨g, 1, none⟩ = some (.string ⟨#[45]⟩)
  c2 : W.cell? ⟨g, 2, none⟩ = some (.string ⟨#[42]⟩)
  c3 : W.cell? ⟨g, 3, none⟩ = some (.string ⟨#[47]⟩)
  c4 : W.cell? ⟨g, 4, none⟩ = some (.string ⟨#[43, 43]⟩)
  c5 : W.cell? ⟨g, 5, none⟩ = some (.string ⟨#[47, 47]⟩)
theorem index_plus {g : Nat} {W : World} (h : Six g W) : Calls Tryz.prog 48 #[.slice (some ⟨g, 0, none⟩) 6 6, .string ⟨#[43]⟩] W fun e w' => e = .returned (.int .i64 0) ∧ W = w' := by
  have q0 := h.c0
  go_enter Tryz.func48, Tryz.ntmps48
  go_wp2_with fail
  refine wp_loop_rounds 1 ?_
  rw [rounds_succ]
  go_wp2_with fail
  go_ret
  exact ⟨rfl, rfl⟩
theorem contains_plus {g : Nat} {W : World} (h : Six g W) : Calls Tryz.prog 27 #[.slice (some ⟨g, 0, none⟩) 6 6, .string ⟨#[43]⟩] W fun e w' => e = .returned (.bool true) ∧ W = w' := by
  go_enter Tryz.func27, Tryz.ntmps27
  go_wp2_with fail
  refine (index_plus h).mono ?_
  rintro e w2 ⟨rfl, rfl⟩
  go_wp2_with fail
  go_ret
  exact ⟨rfl, rfl⟩
theorem index_minus {g : Nat} {W : World} (h : Six g W) : Calls Tryz.prog 48 #[.slice (some ⟨g, 0, none⟩) 6 6, .string ⟨#[45]⟩] W fun e w' => e = .returned (.int .i64 1) ∧ W = w' := by
  have q0 := h.c0
  have q1 := h.c1
  go_enter Tryz.func48, Tryz.ntmps48
  go_wp2_with fail
  refine wp_loop_rounds 2 ?_
  rw [rounds_succ]
  go_wp2_with fail
  rw [rounds_succ]
  go_wp2_with fail
  go_ret
  exact ⟨rfl, rfl⟩
theorem contains_minus {g : Nat} {W : World} (h : Six g W) : Calls Tryz.prog 27 #[.slice (some ⟨g, 0, none⟩) 6 6, .string ⟨#[45]⟩] W fun e w' => e = .returned (.bool true) ∧ W = w' := by
  go_enter Tryz.func27, Tryz.ntmps27
  go_wp2_with fail
  refine (index_minus h).mono ?_
  rintro e w2 ⟨rfl, rfl⟩
  go_wp2_with fail
  go_ret
  exact ⟨rfl, rfl⟩
theorem index_times {g : Nat} {W : World} (h : Six g W) : Calls Tryz.prog 48 #[.slice (some ⟨g, 0, none⟩) 6 6, .string ⟨#[42]⟩] W fun e w' => e = .returned (.int .i64 2) ∧ W = w' := by
  have q0 := h.c0
  have q1 := h.c1
  have q2 := h.c2
  go_enter Tryz.func48, Tryz.ntmps48
  go_wp2_with fail
  refine wp_loop_rounds 3 ?_
  rw [rounds_succ]
  go_wp2_with fail
  rw [rounds_succ]
  go_wp2_with fail
  rw [rounds_succ]
  go_wp2_with fail
  go_ret
  exact ⟨rfl, rfl⟩
theorem contains_times {g : Nat} {W : World} (h : Six g W) : Calls Tryz.prog 27 #[.slice (some ⟨g, 0, none⟩) 6 6, .string ⟨#[42]⟩] W fun e w' => e = .returned (.bool true) ∧ W = w' := by
  go_enter Tryz.func27, Tryz.ntmps27
  go_wp2_with fail
  refine (index_times h).mono ?_
  rintro e w2 ⟨rfl, rfl⟩
  go_wp2_with fail
  go_ret
  exact ⟨rfl, rfl⟩
theorem index_quo {g : Nat} {W : World} (h : Six g W) : Calls Tryz.prog 48 #[.slice (some ⟨g, 0, none⟩) 6 6, .string ⟨#[47]⟩] W fun e w' => e = .returned (.int .i64 3) ∧ W = w' := by
  have q0 := h.c0
  have q1 := h.c1
  have q2 := h.c2
  have q3 := h.c3
  go_enter Tryz.func48, Tryz.ntmps48
  go_wp2_with fail
  refine wp_loop_rounds 4 ?_
  rw [rounds_succ]
  go_wp2_with fail
  rw [rounds_succ]
  go_wp2_with fail
  rw [rounds_succ]
  go_wp2_with fail
  rw [rounds_succ]
  go_wp2_with fail
  go_ret
  exact ⟨rfl, rfl⟩
theorem contains_quo {g : Nat} {W : World} (h : Six g W) : Calls Tryz.prog 27 #[.slice (some ⟨g, 0, none⟩) 6 6, .string ⟨#[47]⟩] W fun e w' => e = .returned (.bool true) ∧ W = w' := by
  go_enter Tryz.func27, Tryz.ntmps27
  go_wp2_with fail
  refine (index_quo h).mono ?_
  rintro e w2 ⟨rfl, rfl⟩
  go_wp2_with fail
  go_ret
  exact ⟨rfl, rfl⟩
end Go.Proofs.YtbgjhgohffkonaaGreatDoor

