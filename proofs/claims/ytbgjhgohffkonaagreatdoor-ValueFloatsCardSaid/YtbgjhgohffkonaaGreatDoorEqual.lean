/- Two numbers, or two strings: are they equal? -/
import Derived.Test.YtbgjhgohffkonaaGreatDoorM21
namespace Go.Proofs.YtbgjhgohffkonaaGreatDoor
open Go.RowKit
attribute [local go_sem] run_bits64 run_frombits64 store_flt
set_option maxHeartbeats 2000000 in
set_option maxRecDepth 100000 in
theorem inner_int_int (a : Int) (b : Int) (w : World) : Calls Tryz.prog 33 #[(.agg #[.int .i64 2, .int .i64 (a), .float .f64 0, .string ⟨#[]⟩, .slice none 0 0, .slice none 0 0]), (.agg #[.int .i64 2, .int .i64 (b), .float .f64 0, .string ⟨#[]⟩, .slice none 0 0, .slice none 0 0])] w fun e w' => e = .returned (.tuple #[.bool (a == b), .int .i64 0]) ∧ Below w.heap.size w w' := by
  have hR := R2.new w #[.int .i64 2, .int .i64 (a), .float .f64 0, .string ⟨#[]⟩, .slice none 0 0, .slice none 0 0] #[.int .i64 2, .int .i64 (b), .float .f64 0, .string ⟨#[]⟩, .slice none 0 0, .slice none 0 0]
  have hB := R2.base w #[.int .i64 2, .int .i64 (a), .float .f64 0, .string ⟨#[]⟩, .slice none 0 0, .slice none 0 0] #[.int .i64 2, .int .i64 (b), .float .f64 0, .string ⟨#[]⟩, .slice none 0 0, .slice none 0 0]
  go_enter Tryz.func33, Tryz.ntmps33
  go_wp2_with fail
  refine (floats_int_int a b _).mono ?_
  rintro e w3 ⟨rfl, hb3⟩
  have hR3 := hR.below hb3
  have hB3 := hB.trans (hb3.mono hB.size)
  have a0 := block_cell hR3.ra (i := 0) rfl
  have a1 := block_cell hR3.ra (i := 1) rfl
  have a2 := block_cell hR3.ra (i := 2) rfl
  have a3 := block_cell hR3.ra (i := 3) rfl
  have a4 := block_cell hR3.ra (i := 4) rfl
  have a5 := block_cell hR3.ra (i := 5) rfl
  have b0 := block_cell hR3.rb (i := 0) rfl
  have b1 := block_cell hR3.rb (i := 1) rfl
  have b2 := block_cell hR3.rb (i := 2) rfl
  have b3 := block_cell hR3.rb (i := 3) rfl
  have b4 := block_cell hR3.rb (i := 4) rfl
  have b5 := block_cell hR3.rb (i := 5) rfl
  go_wp2_with fail
  refine (same_int a b _).mono ?_
  rintro e w4 ⟨rfl, hb4⟩
  go_wp2_with fail
  go_ret2
  exact ⟨rfl, hB3.trans (hb4.mono hB3.size)⟩
set_option maxHeartbeats 2000000 in
set_option maxRecDepth 100000 in
theorem equal_int_int (a : Int) (b : Int) (w : World) : Calls Tryz.prog 13 #[(.agg #[.int .i64 2, .int .i64 (a), .float .f64 0, .string ⟨#[]⟩, .slice none 0 0, .slice none 0 0]), (.agg #[.int .i64 2, .int .i64 (b), .float .f64 0, .string ⟨#[]⟩, .slice none 0 0, .slice none 0 0])] w fun e w' => e = .returned (.tuple #[.bool (a == b), .int .i64 0]) ∧ Below w.heap.size w w' := by
  have hR := R2.new w #[.int .i64 2, .int .i64 (a), .float .f64 0, .string ⟨#[]⟩, .slice none 0 0, .slice none 0 0] #[.int .i64 2, .int .i64 (b), .float .f64 0, .string ⟨#[]⟩, .slice none 0 0, .slice none 0 0]
  have hB := R2.base w #[.int .i64 2, .int .i64 (a), .float .f64 0, .string ⟨#[]⟩, .slice none 0 0, .slice none 0 0] #[.int .i64 2, .int .i64 (b), .float .f64 0, .string ⟨#[]⟩, .slice none 0 0, .slice none 0 0]
  go_enter Tryz.func13, Tryz.ntmps13
  go_wp2_with fail
  refine (Right_int a _).mono ?_
  rintro e w1 ⟨rfl, hb1⟩
  have hR1 := hR.below hb1
  have hB1 := hB.trans (hb1.mono hB.size)
  clear hR hB
  have b0 := block_cell hR1.rb (i := 0) rfl
  have b1 := block_cell hR1.rb (i := 1) rfl
  have b2 := block_cell hR1.rb (i := 2) rfl
  have b3 := block_cell hR1.rb (i := 3) rfl
  have b4 := block_cell hR1.rb (i := 4) rfl
  have b5 := block_cell hR1.rb (i := 5) rfl
  go_wp2_with fail
  refine (Right_int b _).mono ?_
  rintro e w2 ⟨rfl, hb2⟩
  have hR2 := hR1.below hb2
  have hB2 := hB1.trans (hb2.mono hB1.size)
  have a0 := block_cell hR2.ra (i := 0) rfl
  have a1 := block_cell hR2.ra (i := 1) rfl
  have a2 := block_cell hR2.ra (i := 2) rfl
  have a3 := block_cell hR2.ra (i := 3) rfl
  have a4 := block_cell hR2.ra (i := 4) rfl
  have a5 := block_cell hR2.ra (i := 5) rfl
  have b0 := block_cell hR2.rb (i := 0) rfl
  have b1 := block_cell hR2.rb (i := 1) rfl
  have b2 := block_cell hR2.rb (i := 2) rfl
  have b3 := block_cell hR2.rb (i := 3) rfl
  have b4 := block_cell hR2.rb (i := 4) rfl
  have b5 := block_cell hR2.rb (i := 5) rfl
  go_wp2_with fail
  refine (inner_int_int a b _).mono ?_
  rintro e w3 ⟨rfl, hb3⟩
  go_wp2_with fail
  go_ret2
  exact ⟨rfl, hB2.trans (hb3.mono hB2.size)⟩
set_option maxHeartbeats 2000000 in
set_option maxRecDepth 100000 in
theorem inner_int_flt (a : Int) (b : Nat) (w : World) : Calls Tryz.prog 33 #[(.agg #[.int .i64 2, .int .i64 (a), .float .f64 0, .string ⟨#[]⟩, .slice none 0 0, .slice none 0 0]), (.agg #[.int .i64 3, .int .i64 0, .float .f64 (b), .string ⟨#[]⟩, .slice none 0 0, .slice none 0 0])] w fun e w' => e = .returned (.tuple #[.bool (FloatKind.f64.format.order (floatOfInt .f64 a) (b) == some .eq), .int .i64 0]) ∧ Below w.heap.size w w' := by
  have hR := R2.new w #[.int .i64 2, .int .i64 (a), .float .f64 0, .string ⟨#[]⟩, .slice none 0 0, .slice none 0 0] #[.int .i64 3, .int .i64 0, .float .f64 (b), .string ⟨#[]⟩, .slice none 0 0, .slice none 0 0]
  have hB := R2.base w #[.int .i64 2, .int .i64 (a), .float .f64 0, .string ⟨#[]⟩, .slice none 0 0, .slice none 0 0] #[.int .i64 3, .int .i64 0, .float .f64 (b), .string ⟨#[]⟩, .slice none 0 0, .slice none 0 0]
  go_enter Tryz.func33, Tryz.ntmps33
  go_wp2_with fail
  refine (floats_int_flt a b _).mono ?_
  rintro e w3 ⟨rfl, hb3⟩
  have hR3 := hR.below hb3
  have hB3 := hB.trans (hb3.mono hB.size)
  have a0 := block_cell hR3.ra (i := 0) rfl
  have a1 := block_cell hR3.ra (i := 1) rfl
  have a2 := block_cell hR3.ra (i := 2) rfl
  have a3 := block_cell hR3.ra (i := 3) rfl
  have a4 := block_cell hR3.ra (i := 4) rfl
  have a5 := block_cell hR3.ra (i := 5) rfl
  have b0 := block_cell hR3.rb (i := 0) rfl
  have b1 := block_cell hR3.rb (i := 1) rfl
  have b2 := block_cell hR3.rb (i := 2) rfl
  have b3 := block_cell hR3.rb (i := 3) rfl
  have b4 := block_cell hR3.rb (i := 4) rfl
  have b5 := block_cell hR3.rb (i := 5) rfl
  go_wp2_with fail
  go_ret2
  exact ⟨rfl, hB3⟩
set_option maxHeartbeats 2000000 in
set_option maxRecDepth 100000 in
theorem equal_int_flt (a : Int) (b : Nat) (w : World) : Calls Tryz.prog 13 #[(.agg #[.int .i64 2, .int .i64 (a), .float .f64 0, .string ⟨#[]⟩, .slice none 0 0, .slice none 0 0]), (.agg #[.int .i64 3, .int .i64 0, .float .f64 (b), .string ⟨#[]⟩, .slice none 0 0, .slice none 0 0])] w fun e w' => e = .returned (.tuple #[.bool (FloatKind.f64.format.order (floatOfInt .f64 a) (b) == some .eq), .int .i64 0]) ∧ Below w.heap.size w w' := by
  have hR := R2.new w #[.int .i64 2, .int .i64 (a), .float .f64 0, .string ⟨#[]⟩, .slice none 0 0, .slice none 0 0] #[.int .i64 3, .int .i64 0, .float .f64 (b), .string ⟨#[]⟩, .slice none 0 0, .slice none 0 0]
  have hB := R2.base w #[.int .i64 2, .int .i64 (a), .float .f64 0, .string ⟨#[]⟩, .slice none 0 0, .slice none 0 0] #[.int .i64 3, .int .i64 0, .float .f64 (b), .string ⟨#[]⟩, .slice none 0 0, .slice none 0 0]
  go_enter Tryz.func13, Tryz.ntmps13
  go_wp2_with fail
  refine (Right_int a _).mono ?_
  rintro e w1 ⟨rfl, hb1⟩
  have hR1 := hR.below hb1
  have hB1 := hB.trans (hb1.mono hB.size)
  clear hR hB
  have b0 := block_cell hR1.rb (i := 0) rfl
  have b1 := block_cell hR1.rb (i := 1) rfl
  have b2 := block_cell hR1.rb (i := 2) rfl
  have b3 := block_cell hR1.rb (i := 3) rfl
  have b4 := block_cell hR1.rb (i := 4) rfl
  have b5 := block_cell hR1.rb (i := 5) rfl
  go_wp2_with fail
  refine (Right_flt b _).mono ?_
  rintro e w2 ⟨rfl, hb2⟩
  have hR2 := hR1.below hb2
  have hB2 := hB1.trans (hb2.mono hB1.size)
  have a0 := block_cell hR2.ra (i := 0) rfl
  have a1 := block_cell hR2.ra (i := 1) rfl
  have a2 := block_cell hR2.ra (i := 2) rfl
  have a3 := block_cell hR2.ra (i := 3) rfl
  have a4 := block_cell hR2.ra (i := 4) rfl
  have a5 := block_cell hR2.ra (i := 5) rfl
  have b0 := block_cell hR2.rb (i := 0) rfl
  have b1 := block_cell hR2.rb (i := 1) rfl
  have b2 := block_cell hR2.rb (i := 2) rfl
  have b3 := block_cell hR2.rb (i := 3) rfl
  have b4 := block_cell hR2.rb (i := 4) rfl
  have b5 := block_cell hR2.rb (i := 5) rfl
  go_wp2_with fail
  refine (inner_int_flt a b _).mono ?_
  rintro e w3 ⟨rfl, hb3⟩
  go_wp2_with fail
  go_ret2
  exact ⟨rfl, hB2.trans (hb3.mono hB2.size)⟩
set_option maxHeartbeats 2000000 in
set_option maxRecDepth 100000 in
theorem inner_flt_int (a : Nat) (b : Int) (w : World) : Calls Tryz.prog 33 #[(.agg #[.int .i64 3, .int .i64 0, .float .f64 (a), .string ⟨#[]⟩, .slice none 0 0, .slice none 0 0]), (.agg #[.int .i64 2, .int .i64 (b), .float .f64 0, .string ⟨#[]⟩, .slice none 0 0, .slice none 0 0])] w fun e w' => e = .returned (.tuple #[.bool (FloatKind.f64.format.order (a) (floatOfInt .f64 b) == some .eq), .int .i64 0]) ∧ Below w.heap.size w w' := by
  have hR := R2.new w #[.int .i64 3, .int .i64 0, .float .f64 (a), .string ⟨#[]⟩, .slice none 0 0, .slice none 0 0] #[.int .i64 2, .int .i64 (b), .float .f64 0, .string ⟨#[]⟩, .slice none 0 0, .slice none 0 0]
  have hB := R2.base w #[.int .i64 3, .int .i64 0, .float .f64 (a), .string ⟨#[]⟩, .slice none 0 0, .slice none 0 0] #[.int .i64 2, .int .i64 (b), .float .f64 0, .string ⟨#[]⟩, .slice none 0 0, .slice none 0 0]
  go_enter Tryz.func33, Tryz.ntmps33
  go_wp2_with fail
  refine (floats_flt_int a b _).mono ?_
  rintro e w3 ⟨rfl, hb3⟩
  have hR3 := hR.below hb3
  have hB3 := hB.trans (hb3.mono hB.size)
  have a0 := block_cell hR3.ra (i := 0) rfl
  have a1 := block_cell hR3.ra (i := 1) rfl
  have a2 := block_cell hR3.ra (i := 2) rfl
  have a3 := block_cell hR3.ra (i := 3) rfl
  have a4 := block_cell hR3.ra (i := 4) rfl
  have a5 := block_cell hR3.ra (i := 5) rfl
  have b0 := block_cell hR3.rb (i := 0) rfl
  have b1 := block_cell hR3.rb (i := 1) rfl
  have b2 := block_cell hR3.rb (i := 2) rfl
  have b3 := block_cell hR3.rb (i := 3) rfl
  have b4 := block_cell hR3.rb (i := 4) rfl
  have b5 := block_cell hR3.rb (i := 5) rfl
  go_wp2_with fail
  go_ret2
  exact ⟨rfl, hB3⟩
set_option maxHeartbeats 2000000 in
set_option maxRecDepth 100000 in
theorem equal_flt_int (a : Nat) (b : Int) (w : World) : Calls Tryz.prog 13 #[(.agg #[.int .i64 3, .int .i64 0, .float .f64 (a), .string ⟨#[]⟩, .slice none 0 0, .slice none 0 0]), (.agg #[.int .i64 2, .int .i64 (b), .float .f64 0, .string ⟨#[]⟩, .slice none 0 0, .slice none 0 0])] w fun e w' => e = .returned (.tuple #[.bool (FloatKind.f64.format.order (a) (floatOfInt .f64 b) == some .eq), .int .i64 0]) ∧ Below w.heap.size w w' := by
  have hR := R2.new w #[.int .i64 3, .int .i64 0, .float .f64 (a), .string ⟨#[]⟩, .slice none 0 0, .slice none 0 0] #[.int .i64 2, .int .i64 (b), .float .f64 0, .string ⟨#[]⟩, .slice none 0 0, .slice none 0 0]
  have hB := R2.base w #[.int .i64 3, .int .i64 0, .float .f64 (a), .string ⟨#[]⟩, .slice none 0 0, .slice none 0 0] #[.int .i64 2, .int .i64 (b), .float .f64 0, .string ⟨#[]⟩, .slice none 0 0, .slice none 0 0]
  go_enter Tryz.func13, Tryz.ntmps13
  go_wp2_with fail
  refine (Right_flt a _).mono ?_
  rintro e w1 ⟨rfl, hb1⟩
  have hR1 := hR.below hb1
  have hB1 := hB.trans (hb1.mono hB.size)
  clear hR hB
  have b0 := block_cell hR1.rb (i := 0) rfl
  have b1 := block_cell hR1.rb (i := 1) rfl
  have b2 := block_cell hR1.rb (i := 2) rfl
  have b3 := block_cell hR1.rb (i := 3) rfl
  have b4 := block_cell hR1.rb (i := 4) rfl
  have b5 := block_cell hR1.rb (i := 5) rfl
  go_wp2_with fail
  refine (Right_int b _).mono ?_
  rintro e w2 ⟨rfl, hb2⟩
  have hR2 := hR1.below hb2
  have hB2 := hB1.trans (hb2.mono hB1.size)
  have a0 := block_cell hR2.ra (i := 0) rfl
  have a1 := block_cell hR2.ra (i := 1) rfl
  have a2 := block_cell hR2.ra (i := 2) rfl
  have a3 := block_cell hR2.ra (i := 3) rfl
  have a4 := block_cell hR2.ra (i := 4) rfl
  have a5 := block_cell hR2.ra (i := 5) rfl
  have b0 := block_cell hR2.rb (i := 0) rfl
  have b1 := block_cell hR2.rb (i := 1) rfl
  have b2 := block_cell hR2.rb (i := 2) rfl
  have b3 := block_cell hR2.rb (i := 3) rfl
  have b4 := block_cell hR2.rb (i := 4) rfl
  have b5 := block_cell hR2.rb (i := 5) rfl
  go_wp2_with fail
  refine (inner_flt_int a b _).mono ?_
  rintro e w3 ⟨rfl, hb3⟩
  go_wp2_with fail
  go_ret2
  exact ⟨rfl, hB2.trans (hb3.mono hB2.size)⟩
set_option maxHeartbeats 2000000 in
set_option maxRecDepth 100000 in
theorem inner_flt_flt (a : Nat) (b : Nat) (w : World) : Calls Tryz.prog 33 #[(.agg #[.int .i64 3, .int .i64 0, .float .f64 (a), .string ⟨#[]⟩, .slice none 0 0, .slice none 0 0]), (.agg #[.int .i64 3, .int .i64 0, .float .f64 (b), .string ⟨#[]⟩, .slice none 0 0, .slice none 0 0])] w fun e w' => e = .returned (.tuple #[.bool (FloatKind.f64.format.order (a) (b) == some .eq), .int .i64 0]) ∧ Below w.heap.size w w' := by
  have hR := R2.new w #[.int .i64 3, .int .i64 0, .float .f64 (a), .string ⟨#[]⟩, .slice none 0 0, .slice none 0 0] #[.int .i64 3, .int .i64 0, .float .f64 (b), .string ⟨#[]⟩, .slice none 0 0, .slice none 0 0]
  have hB := R2.base w #[.int .i64 3, .int .i64 0, .float .f64 (a), .string ⟨#[]⟩, .slice none 0 0, .slice none 0 0] #[.int .i64 3, .int .i64 0, .float .f64 (b), .string ⟨#[]⟩, .slice none 0 0, .slice none 0 0]
  go_enter Tryz.func33, Tryz.ntmps33
  go_wp2_with fail
  refine (floats_flt_flt a b _).mono ?_
  rintro e w3 ⟨rfl, hb3⟩
  have hR3 := hR.below hb3
  have hB3 := hB.trans (hb3.mono hB.size)
  have a0 := block_cell hR3.ra (i := 0) rfl
  have a1 := block_cell hR3.ra (i := 1) rfl
  have a2 := block_cell hR3.ra (i := 2) rfl
  have a3 := block_cell hR3.ra (i := 3) rfl
  have a4 := block_cell hR3.ra (i := 4) rfl
  have a5 := block_cell hR3.ra (i := 5) rfl
  have b0 := block_cell hR3.rb (i := 0) rfl
  have b1 := block_cell hR3.rb (i := 1) rfl
  have b2 := block_cell hR3.rb (i := 2) rfl
  have b3 := block_cell hR3.rb (i := 3) rfl
  have b4 := block_cell hR3.rb (i := 4) rfl
  have b5 := block_cell hR3.rb (i := 5) rfl
  go_wp2_with fail
  go_ret2
  exact ⟨rfl, hB3⟩
set_option maxHeartbeats 2000000 in
set_option maxRecDepth 100000 in
theorem equal_flt_flt (a : Nat) (b : Nat) (w : World) : Calls Tryz.prog 13 #[(.agg #[.int .i64 3, .int .i64 0, .float .f64 (a), .string ⟨#[]⟩, .slice none 0 0, .slice none 0 0]), (.agg #[.int .i64 3, .int .i64 0, .float .f64 (b), .string ⟨#[]⟩, .slice none 0 0, .slice none 0 0])] w fun e w' => e = .returned (.tuple #[.bool (FloatKind.f64.format.order (a) (b) == some .eq), .int .i64 0]) ∧ Below w.heap.size w w' := by
  have hR := R2.new w #[.int .i64 3, .int .i64 0, .float .f64 (a), .string ⟨#[]⟩, .slice none 0 0, .slice none 0 0] #[.int .i64 3, .int .i64 0, .float .f64 (b), .string ⟨#[]⟩, .slice none 0 0, .slice none 0 0]
  have hB := R2.base w #[.int .i64 3, .int .i64 0, .float .f64 (a), .string ⟨#[]⟩, .slice none 0 0, .slice none 0 0] #[.int .i64 3, .int .i64 0, .float .f64 (b), .string ⟨#[]⟩, .slice none 0 0, .slice none 0 0]
  go_enter Tryz.func13, Tryz.ntmps13
  go_wp2_with fail
  refine (Right_flt a _).mono ?_
  rintro e w1 ⟨rfl, hb1⟩
  have hR1 := hR.below hb1
  have hB1 := hB.trans (hb1.mono hB.size)
  clear hR hB
  have b0 := block_cell hR1.rb (i := 0) rfl
  have b1 := block_cell hR1.rb (i := 1) rfl
  have b2 := block_cell hR1.rb (i := 2) rfl
  have b3 := block_cell hR1.rb (i := 3) rfl
  have b4 := block_cell hR1.rb (i := 4) rfl
  have b5 := block_cell hR1.rb (i := 5) rfl
  go_wp2_with fail
  refine (Right_flt b _).mono ?_
  rintro e w2 ⟨rfl, hb2⟩
  have hR2 := hR1.below hb2
  have hB2 := hB1.trans (hb2.mono hB1.size)
  have a0 := block_cell hR2.ra (i := 0) rfl
  have a1 := block_cell hR2.ra (i := 1) rfl
  have a2 := block_cell hR2.ra (i := 2) rfl
  have a3 := block_cell hR2.ra (i := 3) rfl
  have a4 := block_cell hR2.ra (i := 4) rfl
  have a5 := block_cell hR2.ra (i := 5) rfl
  have b0 := block_cell hR2.rb (i := 0) rfl
  have b1 := block_cell hR2.rb (i := 1) rfl
  have b2 := block_cell hR2.rb (i := 2) rfl
  have b3 := block_cell hR2.rb (i := 3) rfl
  have b4 := block_cell hR2.rb (i := 4) rfl
  have b5 := block_cell hR2.rb (i := 5) rfl
  go_wp2_with fail
  refine (inner_flt_flt a b _).mono ?_
  rintro e w3 ⟨rfl, hb3⟩
  go_wp2_with fail
  go_ret2
  exact ⟨rfl, hB2.trans (hb3.mono hB2.size)⟩
set_option maxHeartbeats 2000000 in
set_option maxRecDepth 100000 in
theorem inner_str_str (a : ByteArray) (b : ByteArray) (w : World) : Calls Tryz.prog 33 #[(.agg #[.int .i64 4, .int .i64 0, .float .f64 0, .string (a), .slice none 0 0, .slice none 0 0]), (.agg #[.int .i64 4, .int .i64 0, .float .f64 0, .string (b), .slice none 0 0, .slice none 0 0])] w fun e w' => e = .returned (.tuple #[.bool (a.toList == b.toList), .int .i64 0]) ∧ Below w.heap.size w w' := by
  have hR := R2.new w #[.int .i64 4, .int .i64 0, .float .f64 0, .string (a), .slice none 0 0, .slice none 0 0] #[.int .i64 4, .int .i64 0, .float .f64 0, .string (b), .slice none 0 0, .slice none 0 0]
  have hB := R2.base w #[.int .i64 4, .int .i64 0, .float .f64 0, .string (a), .slice none 0 0, .slice none 0 0] #[.int .i64 4, .int .i64 0, .float .f64 0, .string (b), .slice none 0 0, .slice none 0 0]
  go_enter Tryz.func33, Tryz.ntmps33
  go_wp2_with fail
  refine (floats_str_str a b _).mono ?_
  rintro e w3 ⟨rfl, hb3⟩
  have hR3 := hR.below hb3
  have hB3 := hB.trans (hb3.mono hB.size)
  have a0 := block_cell hR3.ra (i := 0) rfl
  have a1 := block_cell hR3.ra (i := 1) rfl
  have a2 := block_cell hR3.ra (i := 2) rfl
  have a3 := block_cell hR3.ra (i := 3) rfl
  have a4 := block_cell hR3.ra (i := 4) rfl
  have a5 := block_cell hR3.ra (i := 5) rfl
  have b0 := block_cell hR3.rb (i := 0) rfl
  have b1 := block_cell hR3.rb (i := 1) rfl
  have b2 := block_cell hR3.rb (i := 2) rfl
  have b3 := block_cell hR3.rb (i := 3) rfl
  have b4 := block_cell hR3.rb (i := 4) rfl
  have b5 := block_cell hR3.rb (i := 5) rfl
  go_wp2_with fail
  refine (same_str a b _).mono ?_
  rintro e w4 ⟨rfl, hb4⟩
  go_wp2_with fail
  go_ret2
  exact ⟨rfl, hB3.trans (hb4.mono hB3.size)⟩
set_option maxHeartbeats 2000000 in
set_option maxRecDepth 100000 in
theorem equal_str_str (a : ByteArray) (b : ByteArray) (ha : a.size ≤ 1024) (hb : b.size ≤ 1024) (w : World) : Calls Tryz.prog 13 #[(.agg #[.int .i64 4, .int .i64 0, .float .f64 0, .string (a), .slice none 0 0, .slice none 0 0]), (.agg #[.int .i64 4, .int .i64 0, .float .f64 0, .string (b), .slice none 0 0, .slice none 0 0])] w fun e w' => e = .returned (.tuple #[.bool (a.toList == b.toList), .int .i64 0]) ∧ Below w.heap.size w w' := by
  have hR := R2.new w #[.int .i64 4, .int .i64 0, .float .f64 0, .string (a), .slice none 0 0, .slice none 0 0] #[.int .i64 4, .int .i64 0, .float .f64 0, .string (b), .slice none 0 0, .slice none 0 0]
  have hB := R2.base w #[.int .i64 4, .int .i64 0, .float .f64 0, .string (a), .slice none 0 0, .slice none 0 0] #[.int .i64 4, .int .i64 0, .float .f64 0, .string (b), .slice none 0 0, .slice none 0 0]
  go_enter Tryz.func13, Tryz.ntmps13
  go_wp2_with fail
  refine (Right_str a ha _).mono ?_
  rintro e w1 ⟨rfl, hb1⟩
  have hR1 := hR.below hb1
  have hB1 := hB.trans (hb1.mono hB.size)
  clear hR hB
  have b0 := block_cell hR1.rb (i := 0) rfl
  have b1 := block_cell hR1.rb (i := 1) rfl
  have b2 := block_cell hR1.rb (i := 2) rfl
  have b3 := block_cell hR1.rb (i := 3) rfl
  have b4 := block_cell hR1.rb (i := 4) rfl
  have b5 := block_cell hR1.rb (i := 5) rfl
  go_wp2_with fail
  refine (Right_str b hb _).mono ?_
  rintro e w2 ⟨rfl, hb2⟩
  have hR2 := hR1.below hb2
  have hB2 := hB1.trans (hb2.mono hB1.size)
  have a0 := block_cell hR2.ra (i := 0) rfl
  have a1 := block_cell hR2.ra (i := 1) rfl
  have a2 := block_cell hR2.ra (i := 2) rfl
  have a3 := block_cell hR2.ra (i := 3) rfl
  have a4 := block_cell hR2.ra (i := 4) rfl
  have a5 := block_cell hR2.ra (i := 5) rfl
  have b0 := block_cell hR2.rb (i := 0) rfl
  have b1 := block_cell hR2.rb (i := 1) rfl
  have b2 := block_cell hR2.rb (i := 2) rfl
  have b3 := block_cell hR2.rb (i := 3) rfl
  have b4 := block_cell hR2.rb (i := 4) rfl
  have b5 := block_cell hR2.rb (i := 5) rfl
  go_wp2_with fail
  refine (inner_str_str a b _).mono ?_
  rintro e w3 ⟨rfl, hb3⟩
  go_wp2_with fail
  go_ret2
  exact ⟨rfl, hB2.trans (hb3.mono hB2.size)⟩
end Go.Proofs.YtbgjhgohffkonaaGreatDoor

