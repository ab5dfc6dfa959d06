/- Two numbers, or two strings: which is below, which are equal. -/
import Derived.Test.YtdpnknlpkjablaaGreatDoorRows3
namespace Go.Proofs.YtdpnknlpkjablaaGreatDoor
open Go.RowKit
attribute [local go_sem] run_bits64 run_frombits64 store_flt

/-- Two values that came in. -/
structure R2 (S : Nat) (A B : Array Value) (W : World) : Prop where
  ra : W.heap[S]? = some (.cells A 27 (0, 0))
  rb : W.heap[S + 1]? = some (.cells B 27 (0, 0))
theorem R2.below {S : Nat} {A B : Array Value} {W W' : World} (h : R2 S A B W) (hb : Below W.heap.size W W') : R2 S A B W' := ⟨block_below h.ra hb, block_below h.rb hb⟩
theorem R2.new (w : World) (A B : Array Value) : R2 w.heap.size A B ((w.alloc (.cells A 27 (0, 0))).alloc (.cells B 27 (0, 0))) :=
  ⟨block_alloc (block_new _ _ rfl) _, block_new _ _ (by simp)⟩
theorem R2.base (w : World) (A B : Array Value) : Below w.heap.size w ((w.alloc (.cells A 27 (0, 0))).alloc (.cells B 27 (0, 0))) := ((Below.refl w.heap.size w).alloc (Nat.le_refl _) _).alloc (by simp) _
theorem equal_nil (w : World) : Calls Tryz.prog 34 #[.slice none 0 0, .slice none 0 0] w fun e w' => e = .returned (.bool true) ∧ w = w' := by
  go_enter Tryz.func34, Tryz.ntmps34
  go_wp2_with fail
  refine wp_loop_rounds 1 ?_
  rw [rounds_succ]
  go_wp2_with fail
  go_ret
  exact ⟨rfl, rfl⟩
theorem equalFunc_nil (f : Value) (w : World) : Calls Tryz.prog 35 #[.slice none 0 0, .slice none 0 0, f] w fun e w' => e = .returned (.bool true) ∧ w = w' := by
  go_enter Tryz.func35, Tryz.ntmps35
  go_wp2_with fail
  refine wp_loop_rounds 1 ?_
  rw [rounds_succ]
  go_wp2_with fail
  go_ret
  exact ⟨rfl, rfl⟩
set_option maxHeartbeats 2000000 in
set_option maxRecDepth 100000 in
theorem less_int_int (a : Int) (b : Int) (w : World) : Calls Tryz.prog 20 #[(.agg #[.int .i64 2, .int .i64 (a), .float .f64 0, .string ⟨#[]⟩, .slice none 0 0, .slice none 0 0]), (.agg #[.int .i64 2, .int .i64 (b), .float .f64 0, .string ⟨#[]⟩, .slice none 0 0, .slice none 0 0])] w fun e w' => e = .returned (.tuple #[.bool (decide (a < b)), .int .i64 0]) ∧ Below w.heap.size w w' := by
  have hR := R2.new w #[.int .i64 2, .int .i64 (a), .float .f64 0, .string ⟨#[]⟩, .slice none 0 0, .slice none 0 0] #[.int .i64 2, .int .i64 (b), .float .f64 0, .string ⟨#[]⟩, .slice none 0 0, .slice none 0 0]
  have hB := R2.base w #[.int .i64 2, .int .i64 (a), .float .f64 0, .string ⟨#[]⟩, .slice none 0 0, .slice none 0 0] #[.int .i64 2, .int .i64 (b), .float .f64 0, .string ⟨#[]⟩, .slice none 0 0, .slice none 0 0]
  go_enter Tryz.func20, Tryz.ntmps20
  go_wp2_with fail
  refine (Right_int a _).mono ?_
  rintro e w1 ⟨rfl, hb1⟩
  have hR1 := hR.below hb1
  have hB1 := hB.trans (hb1.mono hB.size)
  clear hR hB
  have b0 := block_cell hR1.rb (i := 0) rfl
  have b1 := block_cell hR1.rb (i := 1) rfl
  have b2 := block_cell hR1.rb (i := 2) rfl
  have b3 := block_cell hR1.rb (i := 3) rfl
  have b4 := block_cell hR1.rb (i := 4) rfl
  have b5 := block_cell hR1.rb (i := 5) rfl
  go_wp2_with fail
  refine (Right_int b _).mono ?_
  rintro e w2 ⟨rfl, hb2⟩
  have hR2 := hR1.below hb2
  have hB2 := hB1.trans (hb2.mono hB1.size)
  have a0 := block_cell hR2.ra (i := 0) rfl
  have a1 := block_cell hR2.ra (i := 1) rfl
  have a2 := block_cell hR2.ra (i := 2) rfl
  have a3 := block_cell hR2.ra (i := 3) rfl
  have a4 := block_cell hR2.ra (i := 4) rfl
  have a5 := block_cell hR2.ra (i := 5) rfl
  have b0 := block_cell hR2.rb (i := 0) rfl
  have b1 := block_cell hR2.rb (i := 1) rfl
  have b2 := block_cell hR2.rb (i := 2) rfl
  have b3 := block_cell hR2.rb (i := 3) rfl
  have b4 := block_cell hR2.rb (i := 4) rfl
  have b5 := block_cell hR2.rb (i := 5) rfl
  go_wp2_with fail
  refine (floats_int_int a b _).mono ?_
  rintro e w3 ⟨rfl, hb3⟩
  have hR3 := hR2.below hb3
  have hB3 := hB2.trans (hb3.mono hB2.size)
  have a0 := block_cell hR3.ra (i := 0) rfl
  have a1 := block_cell hR3.ra (i := 1) rfl
  have a2 := block_cell hR3.ra (i := 2) rfl
  have a3 := block_cell hR3.ra (i := 3) rfl
  have a4 := block_cell hR3.ra (i := 4) rfl
  have a5 := block_cell hR3.ra (i := 5) rfl
  have b0 := block_cell hR3.rb (i := 0) rfl
  have b1 := block_cell hR3.rb (i := 1) rfl
  have b2 := block_cell hR3.rb (i := 2) rfl
  have b3 := block_cell hR3.rb (i := 3) rfl
  have b4 := block_cell hR3.rb (i := 4) rfl
  have b5 := block_cell hR3.rb (i := 5) rfl
  go_wp2_with fail
  go_ret2
  exact ⟨rfl, hB3⟩
set_option maxHeartbeats 2000000 in
set_option maxRecDepth 100000 in
theorem less_int_flt (a : Int) (b : Nat) (w : World) : Calls Tryz.prog 20 #[(.agg #[.int .i64 2, .int .i64 (a), .float .f64 0, .string ⟨#[]⟩, .slice none 0 0, .slice none 0 0]), (.agg #[.int .i64 3, .int .i64 0, .float .f64 (b), .string ⟨#[]⟩, .slice none 0 0, .slice none 0 0])] w fun e w' => e = .returned (.tuple #[.bool (FloatKind.f64.format.order (floatOfInt .f64 a) (b) == some .lt), .int .i64 0]) ∧ Below w.heap.size w w' := by
  have hR := R2.new w #[.int .i64 2, .int .i64 (a), .float .f64 0, .string ⟨#[]⟩, .slice none 0 0, .slice none 0 0] #[.int .i64 3, .int .i64 0, .float .f64 (b), .string ⟨#[]⟩, .slice none 0 0, .slice none 0 0]
  have hB := R2.base w #[.int .i64 2, .int .i64 (a), .float .f64 0, .string ⟨#[]⟩, .slice none 0 0, .slice none 0 0] #[.int .i64 3, .int .i64 0, .float .f64 (b), .string ⟨#[]⟩, .slice none 0 0, .slice none 0 0]
  go_enter Tryz.func20, Tryz.ntmps20
  go_wp2_with fail
  refine (Right_int a _).mono ?_
  rintro e w1 ⟨rfl, hb1⟩
  have hR1 := hR.below hb1
  have hB1 := hB.trans (hb1.mono hB.size)
  clear hR hB
  have b0 := block_cell hR1.rb (i := 0) rfl
  have b1 := block_cell hR1.rb (i := 1) rfl
  have b2 := block_cell hR1.rb (i := 2) rfl
  have b3 := block_cell hR1.rb (i := 3) rfl
  have b4 := block_cell hR1.rb (i := 4) rfl
  have b5 := block_cell hR1.rb (i := 5) rfl
  go_wp2_with fail
  refine (Right_flt b _).mono ?_
  rintro e w2 ⟨rfl, hb2⟩
  have hR2 := hR1.below hb2
  have hB2 := hB1.trans (hb2.mono hB1.size)
  have a0 := block_cell hR2.ra (i := 0) rfl
  have a1 := block_cell hR2.ra (i := 1) rfl
  have a2 := block_cell hR2.ra (i := 2) rfl
  have a3 := block_cell hR2.ra (i := 3) rfl
  have a4 := block_cell hR2.ra (i := 4) rfl
  have a5 := block_cell hR2.ra (i := 5) rfl
  have b0 := block_cell hR2.rb (i := 0) rfl
  have b1 := block_cell hR2.rb (i := 1) rfl
  have b2 := block_cell hR2.rb (i := 2) rfl
  have b3 := block_cell hR2.rb (i := 3) rfl
  have b4 := block_cell hR2.rb (i := 4) rfl
  have b5 := block_cell hR2.rb (i := 5) rfl
  go_wp2_with fail
  refine (floats_int_flt a b _).mono ?_
  rintro e w3 ⟨rfl, hb3⟩
  have hR3 := hR2.below hb3
  have hB3 := hB2.trans (hb3.mono hB2.size)
  have a0 := block_cell hR3.ra (i := 0) rfl
  have a1 := block_cell hR3.ra (i := 1) rfl
  have a2 := block_cell hR3.ra (i := 2) rfl
  have a3 := block_cell hR3.ra (i := 3) rfl
  have a4 := block_cell hR3.ra (i := 4) rfl
  have a5 := block_cell hR3.ra (i := 5) rfl
  have b0 := block_cell hR3.rb (i := 0) rfl
  have b1 := block_cell hR3.rb (i := 1) rfl
  have b2 := block_cell hR3.rb (i := 2) rfl
  have b3 := block_cell hR3.rb (i := 3) rfl
  have b4 := block_cell hR3.rb (i := 4) rfl
  have b5 := block_cell hR3.rb (i := 5) rfl
  go_wp2_with fail
  go_ret2
  exact ⟨rfl, hB3⟩
set_option maxHeartbeats 2000000 in
set_option maxRecDepth 100000 in
theorem less_flt_int (a : Nat) (b : Int) (w : World) : Calls Tryz.prog 20 #[(.agg #[.int .i64 3, .int .i64 0, .float .f64 (a), .string ⟨#[]⟩, .slice none 0 0, .slice none 0 0]), (.agg #[.int .i64 2, .int .i64 (b), .float .f64 0, .string ⟨#[]⟩, .slice none 0 0, .slice none 0 0])] w fun e w' => e = .returned (.tuple #[.bool (FloatKind.f64.format.order (a) (floatOfInt .f64 b) == some .lt), .int .i64 0]) ∧ Below w.heap.size w w' := by
  have hR := R2.new w #[.int .i64 3, .int .i64 0, .float .f64 (a), .string ⟨#[]⟩, .slice none 0 0, .slice none 0 0] #[.int .i64 2, .int .i64 (b), .float .f64 0, .string ⟨#[]⟩, .slice none 0 0, .slice none 0 0]
  have hB := R2.base w #[.int .i64 3, .int .i64 0, .float .f64 (a), .string ⟨#[]⟩, .slice none 0 0, .slice none 0 0] #[.int .i64 2, .int .i64 (b), .float .f64 0, .string ⟨#[]⟩, .slice none 0 0, .slice none 0 0]
  go_enter Tryz.func20, Tryz.ntmps20
  go_wp2_with fail
  refine (Right_flt a _).mono ?_
  rintro e w1 ⟨rfl, hb1⟩
  have hR1 := hR.below hb1
  have hB1 := hB.trans (hb1.mono hB.size)
  clear hR hB
  have b0 := block_cell hR1.rb (i := 0) rfl
  have b1 := block_cell hR1.rb (i := 1) rfl
  have b2 := block_cell hR1.rb (i := 2) rfl
  have b3 := block_cell hR1.rb (i := 3) rfl
  have b4 := block_cell hR1.rb (i := 4) rfl
  have b5 := block_cell hR1.rb (i := 5) rfl
  go_wp2_with fail
  refine (Right_int b _).mono ?_
  rintro e w2 ⟨rfl, hb2⟩
  have hR2 := hR1.below hb2
  have hB2 := hB1.trans (hb2.mono hB1.size)
  have a0 := block_cell hR2.ra (i := 0) rfl
  have a1 := block_cell hR2.ra (i := 1) rfl
  have a2 := block_cell hR2.ra (i := 2) rfl
  have a3 := block_cell hR2.ra (i := 3) rfl
  have a4 := block_cell hR2.ra (i := 4) rfl
  have a5 := block_cell hR2.ra (i := 5) rfl
  have b0 := block_cell hR2.rb (i := 0) rfl
  have b1 := block_cell hR2.rb (i := 1) rfl
  have b2 := block_cell hR2.rb (i := 2) rfl
  have b3 := block_cell hR2.rb (i := 3) rfl
  have b4 := block_cell hR2.rb (i := 4) rfl
  have b5 := block_cell hR2.rb (i := 5) rfl
  go_wp2_with fail
  refine (floats_flt_int a b _).mono ?_
  rintro e w3 ⟨rfl, hb3⟩
  have hR3 := hR2.below hb3
  have hB3 := hB2.trans (hb3.mono hB2.size)
  have a0 := block_cell hR3.ra (i := 0) rfl
  have a1 := block_cell hR3.ra (i := 1) rfl
  have a2 := block_cell hR3.ra (i := 2) rfl
  have a3 := block_cell hR3.ra (i := 3) rfl
  have a4 := block_cell hR3.ra (i := 4) rfl
  have a5 := block_cell hR3.ra (i := 5) rfl
  have b0 := block_cell hR3.rb (i := 0) rfl
  have b1 := block_cell hR3.rb (i := 1) rfl
  have b2 := block_cell hR3.rb (i := 2) rfl
  have b3 := block_cell hR3.rb (i := 3) rfl
  have b4 := block_cell hR3.rb (i := 4) rfl
  have b5 := block_cell hR3.rb (i := 5) rfl
  go_wp2_with fail
  go_ret2
  exact ⟨rfl, hB3⟩
set_option maxHeartbeats 2000000 in
set_option maxRecDepth 100000 in
theorem less_flt_flt (a : Nat) (b : Nat) (w : World) : Calls Tryz.prog 20 #[(.agg #[.int .i64 3, .int .i64 0, .float .f64 (a), .string ⟨#[]⟩, .slice none 0 0, .slice none 0 0]), (.agg #[.int .i64 3, .int .i64 0, .float .f64 (b), .string ⟨#[]⟩, .slice none 0 0, .slice none 0 0])] w fun e w' => e = .returned (.tuple #[.bool (FloatKind.f64.format.order (a) (b) == some .lt), .int .i64 0]) ∧ Below w.heap.size w w' := by
  have hR := R2.new w #[.int .i64 3, .int .i64 0, .float .f64 (a), .string ⟨#[]⟩, .slice none 0 0, .slice none 0 0] #[.int .i64 3, .int .i64 0, .float .f64 (b), .string ⟨#[]⟩, .slice none 0 0, .slice none 0 0]
  have hB := R2.base w #[.int .i64 3, .int .i64 0, .float .f64 (a), .string ⟨#[]⟩, .slice none 0 0, .slice none 0 0] #[.int .i64 3, .int .i64 0, .float .f64 (b), .string ⟨#[]⟩, .slice none 0 0, .slice none 0 0]
  go_enter Tryz.func20, Tryz.ntmps20
  go_wp2_with fail
  refine (Right_flt a _).mono ?_
  rintro e w1 ⟨rfl, hb1⟩
  have hR1 := hR.below hb1
  have hB1 := hB.trans (hb1.mono hB.size)
  clear hR hB
  have b0 := block_cell hR1.rb (i := 0) rfl
  have b1 := block_cell hR1.rb (i := 1) rfl
  have b2 := block_cell hR1.rb (i := 2) rfl
  have b3 := block_cell hR1.rb (i := 3) rfl
  have b4 := block_cell hR1.rb (i := 4) rfl
  have b5 := block_cell hR1.rb (i := 5) rfl
  go_wp2_with fail
  refine (Right_flt b _).mono ?_
  rintro e w2 ⟨rfl, hb2⟩
  have hR2 := hR1.below hb2
  have hB2 := hB1.trans (hb2.mono hB1.size)
  have a0 := block_cell hR2.ra (i := 0) rfl
  have a1 := block_cell hR2.ra (i := 1) rfl
  have a2 := block_cell hR2.ra (i := 2) rfl
  have a3 := block_cell hR2.ra (i := 3) rfl
  have a4 := block_cell hR2.ra (i := 4) rfl
  have a5 := block_cell hR2.ra (i := 5) rfl
  have b0 := block_cell hR2.rb (i := 0) rfl
  have b1 := block_cell hR2.rb (i := 1) rfl
  have b2 := block_cell hR2.rb (i := 2) rfl
  have b3 := block_cell hR2.rb (i := 3) rfl
  have b4 := block_cell hR2.rb (i := 4) rfl
  have b5 := block_cell hR2.rb (i := 5) rfl
  go_wp2_with fail
  refine (floats_flt_flt a b _).mono ?_
  rintro e w3 ⟨rfl, hb3⟩
  have hR3 := hR2.below hb3
  have hB3 := hB2.trans (hb3.mono hB2.size)
  have a0 := block_cell hR3.ra (i := 0) rfl
  have a1 := block_cell hR3.ra (i := 1) rfl
  have a2 := block_cell hR3.ra (i := 2) rfl
  have a3 := block_cell hR3.ra (i := 3) rfl
  have a4 := block_cell hR3.ra (i := 4) rfl
  have a5 := block_cell hR3.ra (i := 5) rfl
  have b0 := block_cell hR3.rb (i := 0) rfl
  have b1 := block_cell hR3.rb (i := 1) rfl
  have b2 := block_cell hR3.rb (i := 2) rfl
  have b3 := block_cell hR3.rb (i := 3) rfl
  have b4 := block_cell hR3.rb (i := 4) rfl
  have b5 := block_cell hR3.rb (i := 5) rfl
  go_wp2_with fail
  go_ret2
  exact ⟨rfl, hB3⟩
set_option maxHeartbeats 2000000 in
set_option maxRecDepth 100000 in
theorem less_str_str (a : ByteArray) (b : ByteArray) (ha : a.size ≤ 1024) (hb : b.size ≤ 1024) (w : World) : Calls Tryz.prog 20 #[(.agg #[.int .i64 4, .int .i64 0, .float .f64 0, .string (a), .slice none 0 0, .slice none 0 0]), (.agg #[.int .i64 4, .int .i64 0, .float .f64 0, .string (b), .slice none 0 0, .slice none 0 0])] w fun e w' => e = .returned (.tuple #[.bool (Op.bytesLess a.toList b.toList), .int .i64 0]) ∧ Below w.heap.size w w' := by
  have hR := R2.new w #[.int .i64 4, .int .i64 0, .float .f64 0, .string (a), .slice none 0 0, .slice none 0 0] #[.int .i64 4, .int .i64 0, .float .f64 0, .string (b), .slice none 0 0, .slice none 0 0]
  have hB := R2.base w #[.int .i64 4, .int .i64 0, .float .f64 0, .string (a), .slice none 0 0, .slice none 0 0] #[.int .i64 4, .int .i64 0, .float .f64 0, .string (b), .slice none 0 0, .slice none 0 0]
  go_enter Tryz.func20, Tryz.ntmps20
  go_wp2_with fail
  refine (Right_str a ha _).mono ?_
  rintro e w1 ⟨rfl, hb1⟩
  have hR1 := hR.below hb1
  have hB1 := hB.trans (hb1.mono hB.size)
  clear hR hB
  have b0 := block_cell hR1.rb (i := 0) rfl
  have b1 := block_cell hR1.rb (i := 1) rfl
  have b2 := block_cell hR1.rb (i := 2) rfl
  have b3 := block_cell hR1.rb (i := 3) rfl
  have b4 := block_cell hR1.rb (i := 4) rfl
  have b5 := block_cell hR1.rb (i := 5) rfl
  go_wp2_with fail
  refine (Right_str b hb _).mono ?_
  rintro e w2 ⟨rfl, hb2⟩
  have hR2 := hR1.below hb2
  have hB2 := hB1.trans (hb2.mono hB1.size)
  have a0 := block_cell hR2.ra (i := 0) rfl
  have a1 := block_cell hR2.ra (i := 1) rfl
  have a2 := block_cell hR2.ra (i := 2) rfl
  have a3 := block_cell hR2.ra (i := 3) rfl
  have a4 := block_cell hR2.ra (i := 4) rfl
  have a5 := block_cell hR2.ra (i := 5) rfl
  have b0 := block_cell hR2.rb (i := 0) rfl
  have b1 := block_cell hR2.rb (i := 1) rfl
  have b2 := block_cell hR2.rb (i := 2) rfl
  have b3 := block_cell hR2.rb (i := 3) rfl
  have b4 := block_cell hR2.rb (i := 4) rfl
  have b5 := block_cell hR2.rb (i := 5) rfl
  go_wp2_with fail
  refine (floats_str_str a b _).mono ?_
  rintro e w3 ⟨rfl, hb3⟩
  have hR3 := hR2.below hb3
  have hB3 := hB2.trans (hb3.mono hB2.size)
  have a0 := block_cell hR3.ra (i := 0) rfl
  have a1 := block_cell hR3.ra (i := 1) rfl
  have a2 := block_cell hR3.ra (i := 2) rfl
  have a3 := block_cell hR3.ra (i := 3) rfl
  have a4 := block_cell hR3.ra (i := 4) rfl
  have a5 := block_cell hR3.ra (i := 5) rfl
  have b0 := block_cell hR3.rb (i := 0) rfl
  have b1 := block_cell hR3.rb (i := 1) rfl
  have b2 := block_cell hR3.rb (i := 2) rfl
  have b3 := block_cell hR3.rb (i := 3) rfl
  have b4 := block_cell hR3.rb (i := 4) rfl
  have b5 := block_cell hR3.rb (i := 5) rfl
  go_wp2_with fail
  go_ret2
  exact ⟨rfl, hB3⟩
set_option maxHeartbeats 2000000 in
set_option maxRecDepth 100000 in
theorem same_int_true (a : Int) (b : Int) (h : (a == b) = true) (w : World) : Calls Tryz.prog 15 #[(.agg #[.int .i64 2, .int .i64 (a), .float .f64 0, .string ⟨#[]⟩, .slice none 0 0, .slice none 0 0]), (.agg #[.int .i64 2, .int .i64 (b), .float .f64 0, .string ⟨#[]⟩, .slice none 0 0, .slice none 0 0])] w fun e w' => e = .returned (.bool true) ∧ Below w.heap.size w w' := by
  have hB := R2.base w #[.int .i64 2, .int .i64 (a), .float .f64 0, .string ⟨#[]⟩, .slice none 0 0, .slice none 0 0] #[.int .i64 2, .int .i64 (b), .float .f64 0, .string ⟨#[]⟩, .slice none 0 0, .slice none 0 0]
  go_enter Tryz.func15, Tryz.ntmps15
  go_wp2_with fail
  go_quiet (fail)
  go_wp2_with fail
  refine (equal_nil _).mono ?_
  rintro e w2 ⟨rfl, rfl⟩
  go_wp2_with fail
  refine (equalFunc_nil _ _).mono ?_
  rintro e w2 ⟨rfl, rfl⟩
  go_wp2_with fail
  go_ret
  exact ⟨rfl, (by (repeat' (first | (with_reducible exact Below.refl _ _) | (with_reducible assumption) | (with_reducible refine below_drewN ?_ _) | (with_reducible refine Below.drew ?_) | (with_reducible refine Below.alloc ?_ ?_ _) | (with_reducible refine Below.setCell ?_ ?_ _) | omega | (simp; done) | (simp; omega))))⟩
set_option maxHeartbeats 2000000 in
set_option maxRecDepth 100000 in
theorem same_int_false (a : Int) (b : Int) (h : (a == b) = false) (w : World) : Calls Tryz.prog 15 #[(.agg #[.int .i64 2, .int .i64 (a), .float .f64 0, .string ⟨#[]⟩, .slice none 0 0, .slice none 0 0]), (.agg #[.int .i64 2, .int .i64 (b), .float .f64 0, .string ⟨#[]⟩, .slice none 0 0, .slice none 0 0])] w fun e w' => e = .returned (.bool false) ∧ Below w.heap.size w w' := by
  have hB := R2.base w #[.int .i64 2, .int .i64 (a), .float .f64 0, .string ⟨#[]⟩, .slice none 0 0, .slice none 0 0] #[.int .i64 2, .int .i64 (b), .float .f64 0, .string ⟨#[]⟩, .slice none 0 0, .slice none 0 0]
  go_enter Tryz.func15, Tryz.ntmps15
  go_wp2_with fail
  go_quiet (fail)
  go_wp2_with fail
  go_ret
  exact ⟨rfl, (by (repeat' (first | (with_reducible exact Below.refl _ _) | (with_reducible assumption) | (with_reducible refine below_drewN ?_ _) | (with_reducible refine Below.drew ?_) | (with_reducible refine Below.alloc ?_ ?_ _) | (with_reducible refine Below.setCell ?_ ?_ _) | omega | (simp; done) | (simp; omega))))⟩
theorem same_int (a : Int) (b : Int) (w : World) : Calls Tryz.prog 15 #[(.agg #[.int .i64 2, .int .i64 (a), .float .f64 0, .string ⟨#[]⟩, .slice none 0 0, .slice none 0 0]), (.agg #[.int .i64 2, .int .i64 (b), .float .f64 0, .string ⟨#[]⟩, .slice none 0 0, .slice none 0 0])] w fun e w' => e = .returned (.bool (a == b)) ∧ Below w.heap.size w w' := by
  cases h : (a == b)
  · exact same_int_false a b h w
  · exact same_int_true a b h w
set_option maxHeartbeats 2000000 in
set_option maxRecDepth 100000 in
theorem same_str_true (a : ByteArray) (b : ByteArray) (h : (a.toList == b.toList) = true) (w : World) : Calls Tryz.prog 15 #[(.agg #[.int .i64 4, .int .i64 0, .float .f64 0, .string (a), .slice none 0 0, .slice none 0 0]), (.agg #[.int .i64 4, .int .i64 0, .float .f64 0, .string (b), .slice none 0 0, .slice none 0 0])] w fun e w' => e = .returned (.bool true) ∧ Below w.heap.size w w' := by
  have hB := R2.base w #[.int .i64 4, .int .i64 0, .float .f64 0, .string (a), .slice none 0 0, .slice none 0 0] #[.int .i64 4, .int .i64 0, .float .f64 0, .string (b), .slice none 0 0, .slice none 0 0]
  go_enter Tryz.func15, Tryz.ntmps15
  go_wp2_with fail
  go_quiet (fail)
  go_wp2_with fail
  refine (equal_nil _).mono ?_
  rintro e w2 ⟨rfl, rfl⟩
  go_wp2_with fail
  refine (equalFunc_nil _ _).mono ?_
  rintro e w2 ⟨rfl, rfl⟩
  go_wp2_with fail
  go_ret
  exact ⟨rfl, (by (repeat' (first | (with_reducible exact Below.refl _ _) | (with_reducible assumption) | (with_reducible refine below_drewN ?_ _) | (with_reducible refine Below.drew ?_) | (with_reducible refine Below.alloc ?_ ?_ _) | (with_reducible refine Below.setCell ?_ ?_ _) | omega | (simp; done) | (simp; omega))))⟩
set_option maxHeartbeats 2000000 in
set_option maxRecDepth 100000 in
theorem same_str_false (a : ByteArray) (b : ByteArray) (h : (a.toList == b.toList) = false) (w : World) : Calls Tryz.prog 15 #[(.agg #[.int .i64 4, .int .i64 0, .float .f64 0, .string (a), .slice none 0 0, .slice none 0 0]), (.agg #[.int .i64 4, .int .i64 0, .float .f64 0, .string (b), .slice none 0 0, .slice none 0 0])] w fun e w' => e = .returned (.bool false) ∧ Below w.heap.size w w' := by
  have hB := R2.base w #[.int .i64 4, .int .i64 0, .float .f64 0, .string (a), .slice none 0 0, .slice none 0 0] #[.int .i64 4, .int .i64 0, .float .f64 0, .string (b), .slice none 0 0, .slice none 0 0]
  go_enter Tryz.func15, Tryz.ntmps15
  go_wp2_with fail
  go_quiet (fail)
  go_wp2_with fail
  go_ret
  exact ⟨rfl, (by (repeat' (first | (with_reducible exact Below.refl _ _) | (with_reducible assumption) | (with_reducible refine below_drewN ?_ _) | (with_reducible refine Below.drew ?_) | (with_reducible refine Below.alloc ?_ ?_ _) | (with_reducible refine Below.setCell ?_ ?_ _) | omega | (simp; done) | (simp; omega))))⟩
theorem same_str (a : ByteArray) (b : ByteArray) (w : World) : Calls Tryz.prog 15 #[(.agg #[.int .i64 4, .int .i64 0, .float .f64 0, .string (a), .slice none 0 0, .slice none 0 0]), (.agg #[.int .i64 4, .int .i64 0, .float .f64 0, .string (b), .slice none 0 0, .slice none 0 0])] w fun e w' => e = .returned (.bool (a.toList == b.toList)) ∧ Below w.heap.size w w' := by
  cases h : (a.toList == b.toList)
  · exact same_str_false a b h w
  · exact same_str_true a b h w
end Go.Proofs.YtdpnknlpkjablaaGreatDoor
