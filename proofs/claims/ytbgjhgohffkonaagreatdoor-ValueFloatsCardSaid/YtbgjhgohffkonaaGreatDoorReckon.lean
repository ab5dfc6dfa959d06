/- Two ints reckoned with. -/
import Derived.Test.YtbgjhgohffkonaaGreatDoorM21
namespace Go.Proofs.YtbgjhgohffkonaaGreatDoor
open Go.RowKit
attribute [local go_sem] run_bits64 run_frombits64 store_flt
set_option maxHeartbeats 2000000 in
set_option maxRecDepth 100000 in
theorem reckon_plus (a b : Int) (h : plusB a b = true) (w : World) : Calls Tryz.prog 11 #[.string ⟨#[43]⟩, (.agg #[.int .i64 2, .int .i64 (a), .float .f64 0, .string ⟨#[]⟩, .slice none 0 0, .slice none 0 0]), (.agg #[.int .i64 2, .int .i64 (b), .float .f64 0, .string ⟨#[]⟩, .slice none 0 0, .slice none 0 0])] w fun e w' => e = .returned (.tuple #[(.agg #[.int .i64 2, .int .i64 (wrap64 (a + b)), .float .f64 0, .string ⟨#[]⟩, .slice none 0 0, .slice none 0 0]), .int .i64 0]) ∧ Below w.heap.size w w' := by
  have hR := R3.new w #[.int .i64 2, .int .i64 (a), .float .f64 0, .string ⟨#[]⟩, .slice none 0 0, .slice none 0 0] #[.int .i64 2, .int .i64 (b), .float .f64 0, .string ⟨#[]⟩, .slice none 0 0, .slice none 0 0] #[.int .i64 0, .int .i64 0, .float .f64 0, .string ⟨#[]⟩, .slice none 0 0, .slice none 0 0]
  have hB : Below w.heap.size w _ := (((Below.refl w.heap.size w).alloc (Nat.le_refl _) (.cells #[.int .i64 2, .int .i64 (a), .float .f64 0, .string ⟨#[]⟩, .slice none 0 0, .slice none 0 0] 37 (0, 0))).alloc (by simp) (.cells #[.int .i64 2, .int .i64 (b), .float .f64 0, .string ⟨#[]⟩, .slice none 0 0, .slice none 0 0] 37 (0, 0))).alloc (by simp; omega) (.cells #[.int .i64 0, .int .i64 0, .float .f64 0, .string ⟨#[]⟩, .slice none 0 0, .slice none 0 0] 37 (0, 0))
  go_enter Tryz.func11, Tryz.ntmps11
  go_wp2_with fail
  refine (Right_int a _).mono ?_
  rintro e w1 ⟨rfl, hb1⟩
  have hR1 := hR.below hb1
  have hB1 := hB.trans (hb1.mono hB.size)
  clear hR hB
  have b0 := block_cell hR1.rb (i := 0) rfl
  have b1 := block_cell hR1.rb (i := 1) rfl
  have b2 := block_cell hR1.rb (i := 2) rfl
  have b3 := block_cell hR1.rb (i := 3) rfl
  have b4 := block_cell hR1.rb (i := 4) rfl
  have b5 := block_cell hR1.rb (i := 5) rfl
  go_wp2_with fail
  refine (Right_int b _).mono ?_
  rintro e w2 ⟨rfl, hb2⟩
  have hR2 := hR1.below hb2
  have hB2 := hB1.trans (hb2.mono hB1.size)
  clear b0 b1 b2 b3 b4 b5
  go_wp2_with fail
  refine (contains_plus (g := w2.heap.size) ?_).mono ?_
  · exact ⟨by simp, by simp, by simp, by simp, by simp, by simp⟩
  rintro e w3 ⟨rfl, rfl⟩
  have hb3 := (Below.refl w2.heap.size w2).alloc (Nat.le_refl _) (.cells #[.string ⟨#[43]⟩, .string ⟨#[45]⟩, .string ⟨#[42]⟩, .string ⟨#[47]⟩, .string ⟨#[43, 43]⟩, .string ⟨#[47, 47]⟩] 9 (0, 0))
  have hR3 := hR2.below hb3
  have hB3 := hB2.trans (hb3.mono hB2.size)
  obtain ⟨w3, hw3⟩ : ∃ w3, w2.alloc (.cells #[.string ⟨#[43]⟩, .string ⟨#[45]⟩, .string ⟨#[42]⟩, .string ⟨#[47]⟩, .string ⟨#[43, 43]⟩, .string ⟨#[47, 47]⟩] 9 (0, 0)) = w3 := ⟨_, rfl⟩
  rw [hw3] at hR3 hB3 ⊢
  clear hb3 hw3
  have a0 := block_cell hR3.ra (i := 0) rfl
  have a1 := block_cell hR3.ra (i := 1) rfl
  have a2 := block_cell hR3.ra (i := 2) rfl
  have a3 := block_cell hR3.ra (i := 3) rfl
  have a4 := block_cell hR3.ra (i := 4) rfl
  have a5 := block_cell hR3.ra (i := 5) rfl
  have b0 := block_cell hR3.rb (i := 0) rfl
  have b1 := block_cell hR3.rb (i := 1) rfl
  have b2 := block_cell hR3.rb (i := 2) rfl
  have b3 := block_cell hR3.rb (i := 3) rfl
  have b4 := block_cell hR3.rb (i := 4) rfl
  have b5 := block_cell hR3.rb (i := 5) rfl
  go_wp2_with fail
  refine (floats_int_int a b _).mono ?_
  rintro e w4 ⟨rfl, hb4⟩
  have hR4 := hR3.below hb4
  have hB4 := hB3.trans (hb4.mono hB3.size)
  have hlt := hR4.lt
  clear a0 b0 a1 b1 a2 b2 a3 b3 a4 b4 a5 b5
  have a0 := block_cell hR4.ra (i := 0) rfl
  have a1 := block_cell hR4.ra (i := 1) rfl
  have a2 := block_cell hR4.ra (i := 2) rfl
  have a3 := block_cell hR4.ra (i := 3) rfl
  have a4 := block_cell hR4.ra (i := 4) rfl
  have a5 := block_cell hR4.ra (i := 5) rfl
  have b0 := block_cell hR4.rb (i := 0) rfl
  have b1 := block_cell hR4.rb (i := 1) rfl
  have b2 := block_cell hR4.rb (i := 2) rfl
  have b3 := block_cell hR4.rb (i := 3) rfl
  have b4 := block_cell hR4.rb (i := 4) rfl
  have b5 := block_cell hR4.rb (i := 5) rfl
  have z0 := block_cell hR4.rz (i := 0) rfl
  have z1 := block_cell hR4.rz (i := 1) rfl
  have z2 := block_cell hR4.rz (i := 2) rfl
  have z3 := block_cell hR4.rz (i := 3) rfl
  have z4 := block_cell hR4.rz (i := 4) rfl
  have z5 := block_cell hR4.rz (i := 5) rfl
  have f0 := block_free (i := 0) hR4.rz
  have f1 := block_free (i := 1) hR4.rz
  have f2 := block_free (i := 2) hR4.rz
  have f3 := block_free (i := 3) hR4.rz
  have f4 := block_free (i := 4) hR4.rz
  have f5 := block_free (i := 5) hR4.rz
  go_wp2_with fail
  refine (ints_plus a b _).mono ?_
  rintro e w5 ⟨rfl, rfl⟩
  go_wp2_with fail
  refine bodyPost_ret (results_row_tmp rfl _ _ (w.heap.size + 2) _ _ (0, 0) rfl (hR4.set _ _ _ _ _ _) rfl) rfl ?_
  exact ⟨rfl, (by (repeat' (first | (with_reducible exact Below.refl _ _) | (with_reducible assumption) | (with_reducible refine below_drewN ?_ _) | (with_reducible refine Below.drew ?_) | (with_reducible refine Below.alloc ?_ ?_ _) | (with_reducible refine Below.setCell ?_ ?_ _) | omega | (simp; done) | (simp; omega))))⟩
set_option maxHeartbeats 2000000 in
set_option maxRecDepth 100000 in
theorem reckon_plus_over (a b : Int) (h : plusB a b = false) (w : World) : Calls Tryz.prog 11 #[.string ⟨#[43]⟩, (.agg #[.int .i64 2, .int .i64 (a), .float .f64 0, .string ⟨#[]⟩, .slice none 0 0, .slice none 0 0]), (.agg #[.int .i64 2, .int .i64 (b), .float .f64 0, .string ⟨#[]⟩, .slice none 0 0, .slice none 0 0])] w fun e w' => e = .returned (.tuple #[(.agg #[.int .i64 0, .int .i64 0, .float .f64 0, .string ⟨#[]⟩, .slice none 0 0, .slice none 0 0]), .int .i64 16]) ∧ Below w.heap.size w w' := by
  have hR := R3.new w #[.int .i64 2, .int .i64 (a), .float .f64 0, .string ⟨#[]⟩, .slice none 0 0, .slice none 0 0] #[.int .i64 2, .int .i64 (b), .float .f64 0, .string ⟨#[]⟩, .slice none 0 0, .slice none 0 0] #[.int .i64 0, .int .i64 0, .float .f64 0, .string ⟨#[]⟩, .slice none 0 0, .slice none 0 0]
  have hB : Below w.heap.size w _ := (((Below.refl w.heap.size w).alloc (Nat.le_refl _) (.cells #[.int .i64 2, .int .i64 (a), .float .f64 0, .string ⟨#[]⟩, .slice none 0 0, .slice none 0 0] 37 (0, 0))).alloc (by simp) (.cells #[.int .i64 2, .int .i64 (b), .float .f64 0, .string ⟨#[]⟩, .slice none 0 0, .slice none 0 0] 37 (0, 0))).alloc (by simp; omega) (.cells #[.int .i64 0, .int .i64 0, .float .f64 0, .string ⟨#[]⟩, .slice none 0 0, .slice none 0 0] 37 (0, 0))
  go_enter Tryz.func11, Tryz.ntmps11
  go_wp2_with fail
  refine (Right_int a _).mono ?_
  rintro e w1 ⟨rfl, hb1⟩
  have hR1 := hR.below hb1
  have hB1 := hB.trans (hb1.mono hB.size)
  clear hR hB
  have b0 := block_cell hR1.rb (i := 0) rfl
  have b1 := block_cell hR1.rb (i := 1) rfl
  have b2 := block_cell hR1.rb (i := 2) rfl
  have b3 := block_cell hR1.rb (i := 3) rfl
  have b4 := block_cell hR1.rb (i := 4) rfl
  have b5 := block_cell hR1.rb (i := 5) rfl
  go_wp2_with fail
  refine (Right_int b _).mono ?_
  rintro e w2 ⟨rfl, hb2⟩
  have hR2 := hR1.below hb2
  have hB2 := hB1.trans (hb2.mono hB1.size)
  clear b0 b1 b2 b3 b4 b5
  go_wp2_with fail
  refine (contains_plus (g := w2.heap.size) ?_).mono ?_
  · exact ⟨by simp, by simp, by simp, by simp, by simp, by simp⟩
  rintro e w3 ⟨rfl, rfl⟩
  have hb3 := (Below.refl w2.heap.size w2).alloc (Nat.le_refl _) (.cells #[.string ⟨#[43]⟩, .string ⟨#[45]⟩, .string ⟨#[42]⟩, .string ⟨#[47]⟩, .string ⟨#[43, 43]⟩, .string ⟨#[47, 47]⟩] 9 (0, 0))
  have hR3 := hR2.below hb3
  have hB3 := hB2.trans (hb3.mono hB2.size)
  obtain ⟨w3, hw3⟩ : ∃ w3, w2.alloc (.cells #[.string ⟨#[43]⟩, .string ⟨#[45]⟩, .string ⟨#[42]⟩, .string ⟨#[47]⟩, .string ⟨#[43, 43]⟩, .string ⟨#[47, 47]⟩] 9 (0, 0)) = w3 := ⟨_, rfl⟩
  rw [hw3] at hR3 hB3 ⊢
  clear hb3 hw3
  have a0 := block_cell hR3.ra (i := 0) rfl
  have a1 := block_cell hR3.ra (i := 1) rfl
  have a2 := block_cell hR3.ra (i := 2) rfl
  have a3 := block_cell hR3.ra (i := 3) rfl
  have a4 := block_cell hR3.ra (i := 4) rfl
  have a5 := block_cell hR3.ra (i := 5) rfl
  have b0 := block_cell hR3.rb (i := 0) rfl
  have b1 := block_cell hR3.rb (i := 1) rfl
  have b2 := block_cell hR3.rb (i := 2) rfl
  have b3 := block_cell hR3.rb (i := 3) rfl
  have b4 := block_cell hR3.rb (i := 4) rfl
  have b5 := block_cell hR3.rb (i := 5) rfl
  go_wp2_with fail
  refine (floats_int_int a b _).mono ?_
  rintro e w4 ⟨rfl, hb4⟩
  have hR4 := hR3.below hb4
  have hB4 := hB3.trans (hb4.mono hB3.size)
  have hlt := hR4.lt
  clear a0 b0 a1 b1 a2 b2 a3 b3 a4 b4 a5 b5
  have a0 := block_cell hR4.ra (i := 0) rfl
  have a1 := block_cell hR4.ra (i := 1) rfl
  have a2 := block_cell hR4.ra (i := 2) rfl
  have a3 := block_cell hR4.ra (i := 3) rfl
  have a4 := block_cell hR4.ra (i := 4) rfl
  have a5 := block_cell hR4.ra (i := 5) rfl
  have b0 := block_cell hR4.rb (i := 0) rfl
  have b1 := block_cell hR4.rb (i := 1) rfl
  have b2 := block_cell hR4.rb (i := 2) rfl
  have b3 := block_cell hR4.rb (i := 3) rfl
  have b4 := block_cell hR4.rb (i := 4) rfl
  have b5 := block_cell hR4.rb (i := 5) rfl
  have z0 := block_cell hR4.rz (i := 0) rfl
  have z1 := block_cell hR4.rz (i := 1) rfl
  have z2 := block_cell hR4.rz (i := 2) rfl
  have z3 := block_cell hR4.rz (i := 3) rfl
  have z4 := block_cell hR4.rz (i := 4) rfl
  have z5 := block_cell hR4.rz (i := 5) rfl
  have f0 := block_free (i := 0) hR4.rz
  have f1 := block_free (i := 1) hR4.rz
  have f2 := block_free (i := 2) hR4.rz
  have f3 := block_free (i := 3) hR4.rz
  have f4 := block_free (i := 4) hR4.rz
  have f5 := block_free (i := 5) hR4.rz
  go_wp2_with fail
  refine (ints_plus a b _).mono ?_
  rintro e w5 ⟨rfl, rfl⟩
  go_wp2_with fail
  refine bodyPost_ret (results_row_tmp rfl _ _ (w.heap.size + 2) _ _ (0, 0) rfl (hR4.set _ _ _ _ _ _) rfl) rfl ?_
  exact ⟨rfl, (by (repeat' (first | (with_reducible exact Below.refl _ _) | (with_reducible assumption) | (with_reducible refine below_drewN ?_ _) | (with_reducible refine Below.drew ?_) | (with_reducible refine Below.alloc ?_ ?_ _) | (with_reducible refine Below.setCell ?_ ?_ _) | omega | (simp; done) | (simp; omega))))⟩
set_option maxHeartbeats 2000000 in
set_option maxRecDepth 100000 in
theorem reckon_minus (a b : Int) (h : minusB a b = true) (w : World) : Calls Tryz.prog 11 #[.string ⟨#[45]⟩, (.agg #[.int .i64 2, .int .i64 (a), .float .f64 0, .string ⟨#[]⟩, .slice none 0 0, .slice none 0 0]), (.agg #[.int .i64 2, .int .i64 (b), .float .f64 0, .string ⟨#[]⟩, .slice none 0 0, .slice none 0 0])] w fun e w' => e = .returned (.tuple #[(.agg #[.int .i64 2, .int .i64 (wrap64 (a - b)), .float .f64 0, .string ⟨#[]⟩, .slice none 0 0, .slice none 0 0]), .int .i64 0]) ∧ Below w.heap.size w w' := by
  have hR := R3.new w #[.int .i64 2, .int .i64 (a), .float .f64 0, .string ⟨#[]⟩, .slice none 0 0, .slice none 0 0] #[.int .i64 2, .int .i64 (b), .float .f64 0, .string ⟨#[]⟩, .slice none 0 0, .slice none 0 0] #[.int .i64 0, .int .i64 0, .float .f64 0, .string ⟨#[]⟩, .slice none 0 0, .slice none 0 0]
  have hB : Below w.heap.size w _ := (((Below.refl w.heap.size w).alloc (Nat.le_refl _) (.cells #[.int .i64 2, .int .i64 (a), .float .f64 0, .string ⟨#[]⟩, .slice none 0 0, .slice none 0 0] 37 (0, 0))).alloc (by simp) (.cells #[.int .i64 2, .int .i64 (b), .float .f64 0, .string ⟨#[]⟩, .slice none 0 0, .slice none 0 0] 37 (0, 0))).alloc (by simp; omega) (.cells #[.int .i64 0, .int .i64 0, .float .f64 0, .string ⟨#[]⟩, .slice none 0 0, .slice none 0 0] 37 (0, 0))
  go_enter Tryz.func11, Tryz.ntmps11
  go_wp2_with fail
  refine (Right_int a _).mono ?_
  rintro e w1 ⟨rfl, hb1⟩
  have hR1 := hR.below hb1
  have hB1 := hB.trans (hb1.mono hB.size)
  clear hR hB
  have b0 := block_cell hR1.rb (i := 0) rfl
  have b1 := block_cell hR1.rb (i := 1) rfl
  have b2 := block_cell hR1.rb (i := 2) rfl
  have b3 := block_cell hR1.rb (i := 3) rfl
  have b4 := block_cell hR1.rb (i := 4) rfl
  have b5 := block_cell hR1.rb (i := 5) rfl
  go_wp2_with fail
  refine (Right_int b _).mono ?_
  rintro e w2 ⟨rfl, hb2⟩
  have hR2 := hR1.below hb2
  have hB2 := hB1.trans (hb2.mono hB1.size)
  clear b0 b1 b2 b3 b4 b5
  go_wp2_with fail
  refine (contains_minus (g := w2.heap.size) ?_).mono ?_
  · exact ⟨by simp, by simp, by simp, by simp, by simp, by simp⟩
  rintro e w3 ⟨rfl, rfl⟩
  have hb3 := (Below.refl w2.heap.size w2).alloc (Nat.le_refl _) (.cells #[.string ⟨#[43]⟩, .string ⟨#[45]⟩, .string ⟨#[42]⟩, .string ⟨#[47]⟩, .string ⟨#[43, 43]⟩, .string ⟨#[47, 47]⟩] 9 (0, 0))
  have hR3 := hR2.below hb3
  have hB3 := hB2.trans (hb3.mono hB2.size)
  obtain ⟨w3, hw3⟩ : ∃ w3, w2.alloc (.cells #[.string ⟨#[43]⟩, .string ⟨#[45]⟩, .string ⟨#[42]⟩, .string ⟨#[47]⟩, .string ⟨#[43, 43]⟩, .string ⟨#[47, 47]⟩] 9 (0, 0)) = w3 := ⟨_, rfl⟩
  rw [hw3] at hR3 hB3 ⊢
  clear hb3 hw3
  have a0 := block_cell hR3.ra (i := 0) rfl
  have a1 := block_cell hR3.ra (i := 1) rfl
  have a2 := block_cell hR3.ra (i := 2) rfl
  have a3 := block_cell hR3.ra (i := 3) rfl
  have a4 := block_cell hR3.ra (i := 4) rfl
  have a5 := block_cell hR3.ra (i := 5) rfl
  have b0 := block_cell hR3.rb (i := 0) rfl
  have b1 := block_cell hR3.rb (i := 1) rfl
  have b2 := block_cell hR3.rb (i := 2) rfl
  have b3 := block_cell hR3.rb (i := 3) rfl
  have b4 := block_cell hR3.rb (i := 4) rfl
  have b5 := block_cell hR3.rb (i := 5) rfl
  go_wp2_with fail
  refine (floats_int_int a b _).mono ?_
  rintro e w4 ⟨rfl, hb4⟩
  have hR4 := hR3.below hb4
  have hB4 := hB3.trans (hb4.mono hB3.size)
  have hlt := hR4.lt
  clear a0 b0 a1 b1 a2 b2 a3 b3 a4 b4 a5 b5
  have a0 := block_cell hR4.ra (i := 0) rfl
  have a1 := block_cell hR4.ra (i := 1) rfl
  have a2 := block_cell hR4.ra (i := 2) rfl
  have a3 := block_cell hR4.ra (i := 3) rfl
  have a4 := block_cell hR4.ra (i := 4) rfl
  have a5 := block_cell hR4.ra (i := 5) rfl
  have b0 := block_cell hR4.rb (i := 0) rfl
  have b1 := block_cell hR4.rb (i := 1) rfl
  have b2 := block_cell hR4.rb (i := 2) rfl
  have b3 := block_cell hR4.rb (i := 3) rfl
  have b4 := block_cell hR4.rb (i := 4) rfl
  have b5 := block_cell hR4.rb (i := 5) rfl
  have z0 := block_cell hR4.rz (i := 0) rfl
  have z1 := block_cell hR4.rz (i := 1) rfl
  have z2 := block_cell hR4.rz (i := 2) rfl
  have z3 := block_cell hR4.rz (i := 3) rfl
  have z4 := block_cell hR4.rz (i := 4) rfl
  have z5 := block_cell hR4.rz (i := 5) rfl
  have f0 := block_free (i := 0) hR4.rz
  have f1 := block_free (i := 1) hR4.rz
  have f2 := block_free (i := 2) hR4.rz
  have f3 := block_free (i := 3) hR4.rz
  have f4 := block_free (i := 4) hR4.rz
  have f5 := block_free (i := 5) hR4.rz
  go_wp2_with fail
  refine (ints_minus a b _).mono ?_
  rintro e w5 ⟨rfl, rfl⟩
  go_wp2_with fail
  refine bodyPost_ret (results_row_tmp rfl _ _ (w.heap.size + 2) _ _ (0, 0) rfl (hR4.set _ _ _ _ _ _) rfl) rfl ?_
  exact ⟨rfl, (by (repeat' (first | (with_reducible exact Below.refl _ _) | (with_reducible assumption) | (with_reducible refine below_drewN ?_ _) | (with_reducible refine Below.drew ?_) | (with_reducible refine Below.alloc ?_ ?_ _) | (with_reducible refine Below.setCell ?_ ?_ _) | omega | (simp; done) | (simp; omega))))⟩
set_option maxHeartbeats 2000000 in
set_option maxRecDepth 100000 in
theorem reckon_times (a b : Int) (ha : I64 a) (hb : I64 b) (h : timesB a b = true) (w : World) : Calls Tryz.prog 11 #[.string ⟨#[42]⟩, (.agg #[.int .i64 2, .int .i64 (a), .float .f64 0, .string ⟨#[]⟩, .slice none 0 0, .slice none 0 0]), (.agg #[.int .i64 2, .int .i64 (b), .float .f64 0, .string ⟨#[]⟩, .slice none 0 0, .slice none 0 0])] w fun e w' => e = .returned (.tuple #[(.agg #[.int .i64 2, .int .i64 (timesZ a b), .float .f64 0, .string ⟨#[]⟩, .slice none 0 0, .slice none 0 0]), .int .i64 0]) ∧ Below w.heap.size w w' := by
  have HT := Lib.hid (ints_times a b ha hb)
  clear ha hb
  have hR := R3.new w #[.int .i64 2, .int .i64 (a), .float .f64 0, .string ⟨#[]⟩, .slice none 0 0, .slice none 0 0] #[.int .i64 2, .int .i64 (b), .float .f64 0, .string ⟨#[]⟩, .slice none 0 0, .slice none 0 0] #[.int .i64 0, .int .i64 0, .float .f64 0, .string ⟨#[]⟩, .slice none 0 0, .slice none 0 0]
  have hB : Below w.heap.size w _ := (((Below.refl w.heap.size w).alloc (Nat.le_refl _) (.cells #[.int .i64 2, .int .i64 (a), .float .f64 0, .string ⟨#[]⟩, .slice none 0 0, .slice none 0 0] 37 (0, 0))).alloc (by simp) (.cells #[.int .i64 2, .int .i64 (b), .float .f64 0, .string ⟨#[]⟩, .slice none 0 0, .slice none 0 0] 37 (0, 0))).alloc (by simp; omega) (.cells #[.int .i64 0, .int .i64 0, .float .f64 0, .string ⟨#[]⟩, .slice none 0 0, .slice none 0 0] 37 (0, 0))
  go_enter Tryz.func11, Tryz.ntmps11
  go_wp2_with fail
  refine (Right_int a _).mono ?_
  rintro e w1 ⟨rfl, hb1⟩
  have hR1 := hR.below hb1
  have hB1 := hB.trans (hb1.mono hB.size)
  clear hR hB
  have b0 := block_cell hR1.rb (i := 0) rfl
  have b1 := block_cell hR1.rb (i := 1) rfl
  have b2 := block_cell hR1.rb (i := 2) rfl
  have b3 := block_cell hR1.rb (i := 3) rfl
  have b4 := block_cell hR1.rb (i := 4) rfl
  have b5 := block_cell hR1.rb (i := 5) rfl
  go_wp2_with fail
  refine (Right_int b _).mono ?_
  rintro e w2 ⟨rfl, hb2⟩
  have hR2 := hR1.below hb2
  have hB2 := hB1.trans (hb2.mono hB1.size)
  clear b0 b1 b2 b3 b4 b5
  go_wp2_with fail
  refine (contains_times (g := w2.heap.size) ?_).mono ?_
  · exact ⟨by simp, by simp, by simp, by simp, by simp, by simp⟩
  rintro e w3 ⟨rfl, rfl⟩
  have hb3 := (Below.refl w2.heap.size w2).alloc (Nat.le_refl _) (.cells #[.string ⟨#[43]⟩, .string ⟨#[45]⟩, .string ⟨#[42]⟩, .string ⟨#[47]⟩, .string ⟨#[43, 43]⟩, .string ⟨#[47, 47]⟩] 9 (0, 0))
  have hR3 := hR2.below hb3
  have hB3 := hB2.trans (hb3.mono hB2.size)
  obtain ⟨w3, hw3⟩ : ∃ w3, w2.alloc (.cells #[.string ⟨#[43]⟩, .string ⟨#[45]⟩, .string ⟨#[42]⟩, .string ⟨#[47]⟩, .string ⟨#[43, 43]⟩, .string ⟨#[47, 47]⟩] 9 (0, 0)) = w3 := ⟨_, rfl⟩
  rw [hw3] at hR3 hB3 ⊢
  clear hb3 hw3
  have a0 := block_cell hR3.ra (i := 0) rfl
  have a1 := block_cell hR3.ra (i := 1) rfl
  have a2 := block_cell hR3.ra (i := 2) rfl
  have a3 := block_cell hR3.ra (i := 3) rfl
  have a4 := block_cell hR3.ra (i := 4) rfl
  have a5 := block_cell hR3.ra (i := 5) rfl
  have b0 := block_cell hR3.rb (i := 0) rfl
  have b1 := block_cell hR3.rb (i := 1) rfl
  have b2 := block_cell hR3.rb (i := 2) rfl
  have b3 := block_cell hR3.rb (i := 3) rfl
  have b4 := block_cell hR3.rb (i := 4) rfl
  have b5 := block_cell hR3.rb (i := 5) rfl
  go_wp2_with fail
  refine (floats_int_int a b _).mono ?_
  rintro e w4 ⟨rfl, hb4⟩
  have hR4 := hR3.below hb4
  have hB4 := hB3.trans (hb4.mono hB3.size)
  have hlt := hR4.lt
  clear a0 b0 a1 b1 a2 b2 a3 b3 a4 b4 a5 b5
  have a0 := block_cell hR4.ra (i := 0) rfl
  have a1 := block_cell hR4.ra (i := 1) rfl
  have a2 := block_cell hR4.ra (i := 2) rfl
  have a3 := block_cell hR4.ra (i := 3) rfl
  have a4 := block_cell hR4.ra (i := 4) rfl
  have a5 := block_cell hR4.ra (i := 5) rfl
  have b0 := block_cell hR4.rb (i := 0) rfl
  have b1 := block_cell hR4.rb (i := 1) rfl
  have b2 := block_cell hR4.rb (i := 2) rfl
  have b3 := block_cell hR4.rb (i := 3) rfl
  have b4 := block_cell hR4.rb (i := 4) rfl
  have b5 := block_cell hR4.rb (i := 5) rfl
  have z0 := block_cell hR4.rz (i := 0) rfl
  have z1 := block_cell hR4.rz (i := 1) rfl
  have z2 := block_cell hR4.rz (i := 2) rfl
  have z3 := block_cell hR4.rz (i := 3) rfl
  have z4 := block_cell hR4.rz (i := 4) rfl
  have z5 := block_cell hR4.rz (i := 5) rfl
  have f0 := block_free (i := 0) hR4.rz
  have f1 := block_free (i := 1) hR4.rz
  have f2 := block_free (i := 2) hR4.rz
  have f3 := block_free (i := 3) hR4.rz
  have f4 := block_free (i := 4) hR4.rz
  have f5 := block_free (i := 5) hR4.rz
  go_wp2_with fail
  refine (HT.out _).mono ?_
  rintro e w5 ⟨rfl, rfl⟩
  go_wp2_with fail
  refine bodyPost_ret (results_row_tmp rfl _ _ (w.heap.size + 2) _ _ (0, 0) rfl (hR4.set _ _ _ _ _ _) rfl) rfl ?_
  exact ⟨rfl, (by (repeat' (first | (with_reducible exact Below.refl _ _) | (with_reducible assumption) | (with_reducible refine below_drewN ?_ _) | (with_reducible refine Below.drew ?_) | (with_reducible refine Below.alloc ?_ ?_ _) | (with_reducible refine Below.setCell ?_ ?_ _) | omega | (simp; done) | (simp; omega))))⟩
set_option maxHeartbeats 2000000 in
set_option maxRecDepth 100000 in
theorem reckon_times_over (a b : Int) (ha : I64 a) (hb : I64 b) (h : timesB a b = false) (w : World) : Calls Tryz.prog 11 #[.string ⟨#[42]⟩, (.agg #[.int .i64 2, .int .i64 (a), .float .f64 0, .string ⟨#[]⟩, .slice none 0 0, .slice none 0 0]), (.agg #[.int .i64 2, .int .i64 (b), .float .f64 0, .string ⟨#[]⟩, .slice none 0 0, .slice none 0 0])] w fun e w' => e = .returned (.tuple #[(.agg #[.int .i64 0, .int .i64 0, .float .f64 0, .string ⟨#[]⟩, .slice none 0 0, .slice none 0 0]), .int .i64 16]) ∧ Below w.heap.size w w' := by
  have HT := Lib.hid (ints_times a b ha hb)
  clear ha hb
  have hR := R3.new w #[.int .i64 2, .int .i64 (a), .float .f64 0, .string ⟨#[]⟩, .slice none 0 0, .slice none 0 0] #[.int .i64 2, .int .i64 (b), .float .f64 0, .string ⟨#[]⟩, .slice none 0 0, .slice none 0 0] #[.int .i64 0, .int .i64 0, .float .f64 0, .string ⟨#[]⟩, .slice none 0 0, .slice none 0 0]
  have hB : Below w.heap.size w _ := (((Below.refl w.heap.size w).alloc (Nat.le_refl _) (.cells #[.int .i64 2, .int .i64 (a), .float .f64 0, .string ⟨#[]⟩, .slice none 0 0, .slice none 0 0] 37 (0, 0))).alloc (by simp) (.cells #[.int .i64 2, .int .i64 (b), .float .f64 0, .string ⟨#[]⟩, .slice none 0 0, .slice none 0 0] 37 (0, 0))).alloc (by simp; omega) (.cells #[.int .i64 0, .int .i64 0, .float .f64 0, .string ⟨#[]⟩, .slice none 0 0, .slice none 0 0] 37 (0, 0))
  go_enter Tryz.func11, Tryz.ntmps11
  go_wp2_with fail
  refine (Right_int a _).mono ?_
  rintro e w1 ⟨rfl, hb1⟩
  have hR1 := hR.below hb1
  have hB1 := hB.trans (hb1.mono hB.size)
  clear hR hB
  have b0 := block_cell hR1.rb (i := 0) rfl
  have b1 := block_cell hR1.rb (i := 1) rfl
  have b2 := block_cell hR1.rb (i := 2) rfl
  have b3 := block_cell hR1.rb (i := 3) rfl
  have b4 := block_cell hR1.rb (i := 4) rfl
  have b5 := block_cell hR1.rb (i := 5) rfl
  go_wp2_with fail
  refine (Right_int b _).mono ?_
  rintro e w2 ⟨rfl, hb2⟩
  have hR2 := hR1.below hb2
  have hB2 := hB1.trans (hb2.mono hB1.size)
  clear b0 b1 b2 b3 b4 b5
  go_wp2_with fail
  refine (contains_times (g := w2.heap.size) ?_).mono ?_
  · exact ⟨by simp, by simp, by simp, by simp, by simp, by simp⟩
  rintro e w3 ⟨rfl, rfl⟩
  have hb3 := (Below.refl w2.heap.size w2).alloc (Nat.le_refl _) (.cells #[.string ⟨#[43]⟩, .string ⟨#[45]⟩, .string ⟨#[42]⟩, .string ⟨#[47]⟩, .string ⟨#[43, 43]⟩, .string ⟨#[47, 47]⟩] 9 (0, 0))
  have hR3 := hR2.below hb3
  have hB3 := hB2.trans (hb3.mono hB2.size)
  obtain ⟨w3, hw3⟩ : ∃ w3, w2.alloc (.cells #[.string ⟨#[43]⟩, .string ⟨#[45]⟩, .string ⟨#[42]⟩, .string ⟨#[47]⟩, .string ⟨#[43, 43]⟩, .string ⟨#[47, 47]⟩] 9 (0, 0)) = w3 := ⟨_, rfl⟩
  rw [hw3] at hR3 hB3 ⊢
  clear hb3 hw3
  have a0 := block_cell hR3.ra (i := 0) rfl
  have a1 := block_cell hR3.ra (i := 1) rfl
  have a2 := block_cell hR3.ra (i := 2) rfl
  have a3 := block_cell hR3.ra (i := 3) rfl
  have a4 := block_cell hR3.ra (i := 4) rfl
  have a5 := block_cell hR3.ra (i := 5) rfl
  have b0 := block_cell hR3.rb (i := 0) rfl
  have b1 := block_cell hR3.rb (i := 1) rfl
  have b2 := block_cell hR3.rb (i := 2) rfl
  have b3 := block_cell hR3.rb (i := 3) rfl
  have b4 := block_cell hR3.rb (i := 4) rfl
  have b5 := block_cell hR3.rb (i := 5) rfl
  go_wp2_with fail
  refine (floats_int_int a b _).mono ?_
  rintro e w4 ⟨rfl, hb4⟩
  have hR4 := hR3.below hb4
  have hB4 := hB3.trans (hb4.mono hB3.size)
  have hlt := hR4.lt
  clear a0 b0 a1 b1 a2 b2 a3 b3 a4 b4 a5 b5
  have a0 := block_cell hR4.ra (i := 0) rfl
  have a1 := block_cell hR4.ra (i := 1) rfl
  have a2 := block_cell hR4.ra (i := 2) rfl
  have a3 := block_cell hR4.ra (i := 3) rfl
  have a4 := block_cell hR4.ra (i := 4) rfl
  have a5 := block_cell hR4.ra (i := 5) rfl
  have b0 := block_cell hR4.rb (i := 0) rfl
  have b1 := block_cell hR4.rb (i := 1) rfl
  have b2 := block_cell hR4.rb (i := 2) rfl
  have b3 := block_cell hR4.rb (i := 3) rfl
  have b4 := block_cell hR4.rb (i := 4) rfl
  have b5 := block_cell hR4.rb (i := 5) rfl
  have z0 := block_cell hR4.rz (i := 0) rfl
  have z1 := block_cell hR4.rz (i := 1) rfl
  have z2 := block_cell hR4.rz (i := 2) rfl
  have z3 := block_cell hR4.rz (i := 3) rfl
  have z4 := block_cell hR4.rz (i := 4) rfl
  have z5 := block_cell hR4.rz (i := 5) rfl
  have f0 := block_free (i := 0) hR4.rz
  have f1 := block_free (i := 1) hR4.rz
  have f2 := block_free (i := 2) hR4.rz
  have f3 := block_free (i := 3) hR4.rz
  have f4 := block_free (i := 4) hR4.rz
  have f5 := block_free (i := 5) hR4.rz
  go_wp2_with fail
  refine (HT.out _).mono ?_
  rintro e w5 ⟨rfl, rfl⟩
  go_wp2_with fail
  refine bodyPost_ret (results_row_tmp rfl _ _ (w.heap.size + 2) _ _ (0, 0) rfl (hR4.set _ _ _ _ _ _) rfl) rfl ?_
  exact ⟨rfl, (by (repeat' (first | (with_reducible exact Below.refl _ _) | (with_reducible assumption) | (with_reducible refine below_drewN ?_ _) | (with_reducible refine Below.drew ?_) | (with_reducible refine Below.alloc ?_ ?_ _) | (with_reducible refine Below.setCell ?_ ?_ _) | omega | (simp; done) | (simp; omega))))⟩
set_option maxHeartbeats 2000000 in
set_option maxRecDepth 100000 in
theorem reckon_quo (a b : Int) (h0 : b ≠ 0) (h1 : ¬ (a = -9223372036854775808 ∧ b = -1)) (w : World) : Calls Tryz.prog 11 #[.string ⟨#[47]⟩, (.agg #[.int .i64 2, .int .i64 (a), .float .f64 0, .string ⟨#[]⟩, .slice none 0 0, .slice none 0 0]), (.agg #[.int .i64 2, .int .i64 (b), .float .f64 0, .string ⟨#[]⟩, .slice none 0 0, .slice none 0 0])] w fun e w' => e = .returned (.tuple #[(.agg #[.int .i64 2, .int .i64 (wrap64 (a.tdiv b)), .float .f64 0, .string ⟨#[]⟩, .slice none 0 0, .slice none 0 0]), .int .i64 0]) ∧ Below w.heap.size w w' := by
  have HT := Lib.hid (ints_quo a b h0 h1)
  have hz : (b == 0) = false := by simpa using h0
  clear h0 h1
  have hR := R3.new w #[.int .i64 2, .int .i64 (a), .float .f64 0, .string ⟨#[]⟩, .slice none 0 0, .slice none 0 0] #[.int .i64 2, .int .i64 (b), .float .f64 0, .string ⟨#[]⟩, .slice none 0 0, .slice none 0 0] #[.int .i64 0, .int .i64 0, .float .f64 0, .string ⟨#[]⟩, .slice none 0 0, .slice none 0 0]
  have hB : Below w.heap.size w _ := (((Below.refl w.heap.size w).alloc (Nat.le_refl _) (.cells #[.int .i64 2, .int .i64 (a), .float .f64 0, .string ⟨#[]⟩, .slice none 0 0, .slice none 0 0] 37 (0, 0))).alloc (by simp) (.cells #[.int .i64 2, .int .i64 (b), .float .f64 0, .string ⟨#[]⟩, .slice none 0 0, .slice none 0 0] 37 (0, 0))).alloc (by simp; omega) (.cells #[.int .i64 0, .int .i64 0, .float .f64 0, .string ⟨#[]⟩, .slice none 0 0, .slice none 0 0] 37 (0, 0))
  go_enter Tryz.func11, Tryz.ntmps11
  go_wp2_with fail
  refine (Right_int a _).mono ?_
  rintro e w1 ⟨rfl, hb1⟩
  have hR1 := hR.below hb1
  have hB1 := hB.trans (hb1.mono hB.size)
  clear hR hB
  have b0 := block_cell hR1.rb (i := 0) rfl
  have b1 := block_cell hR1.rb (i := 1) rfl
  have b2 := block_cell hR1.rb (i := 2) rfl
  have b3 := block_cell hR1.rb (i := 3) rfl
  have b4 := block_cell hR1.rb (i := 4) rfl
  have b5 := block_cell hR1.rb (i := 5) rfl
  go_wp2_with fail
  refine (Right_int b _).mono ?_
  rintro e w2 ⟨rfl, hb2⟩
  have hR2 := hR1.below hb2
  have hB2 := hB1.trans (hb2.mono hB1.size)
  clear b0 b1 b2 b3 b4 b5
  go_wp2_with fail
  refine (contains_quo (g := w2.heap.size) ?_).mono ?_
  · exact ⟨by simp, by simp, by simp, by simp, by simp, by simp⟩
  rintro e w3 ⟨rfl, rfl⟩
  have hb3 := (Below.refl w2.heap.size w2).alloc (Nat.le_refl _) (.cells #[.string ⟨#[43]⟩, .string ⟨#[45]⟩, .string ⟨#[42]⟩, .string ⟨#[47]⟩, .string ⟨#[43, 43]⟩, .string ⟨#[47, 47]⟩] 9 (0, 0))
  have hR3 := hR2.below hb3
  have hB3 := hB2.trans (hb3.mono hB2.size)
  obtain ⟨w3, hw3⟩ : ∃ w3, w2.alloc (.cells #[.string ⟨#[43]⟩, .string ⟨#[45]⟩, .string ⟨#[42]⟩, .string ⟨#[47]⟩, .string ⟨#[43, 43]⟩, .string ⟨#[47, 47]⟩] 9 (0, 0)) = w3 := ⟨_, rfl⟩
  rw [hw3] at hR3 hB3 ⊢
  clear hb3 hw3
  have a0 := block_cell hR3.ra (i := 0) rfl
  have a1 := block_cell hR3.ra (i := 1) rfl
  have a2 := block_cell hR3.ra (i := 2) rfl
  have a3 := block_cell hR3.ra (i := 3) rfl
  have a4 := block_cell hR3.ra (i := 4) rfl
  have a5 := block_cell hR3.ra (i := 5) rfl
  have b0 := block_cell hR3.rb (i := 0) rfl
  have b1 := block_cell hR3.rb (i := 1) rfl
  have b2 := block_cell hR3.rb (i := 2) rfl
  have b3 := block_cell hR3.rb (i := 3) rfl
  have b4 := block_cell hR3.rb (i := 4) rfl
  have b5 := block_cell hR3.rb (i := 5) rfl
  go_wp2_with fail
  refine (floats_int_int a b _).mono ?_
  rintro e w4 ⟨rfl, hb4⟩
  have hR4 := hR3.below hb4
  have hB4 := hB3.trans (hb4.mono hB3.size)
  have hlt := hR4.lt
  clear a0 b0 a1 b1 a2 b2 a3 b3 a4 b4 a5 b5
  have a0 := block_cell hR4.ra (i := 0) rfl
  have a1 := block_cell hR4.ra (i := 1) rfl
  have a2 := block_cell hR4.ra (i := 2) rfl
  have a3 := block_cell hR4.ra (i := 3) rfl
  have a4 := block_cell hR4.ra (i := 4) rfl
  have a5 := block_cell hR4.ra (i := 5) rfl
  have b0 := block_cell hR4.rb (i := 0) rfl
  have b1 := block_cell hR4.rb (i := 1) rfl
  have b2 := block_cell hR4.rb (i := 2) rfl
  have b3 := block_cell hR4.rb (i := 3) rfl
  have b4 := block_cell hR4.rb (i := 4) rfl
  have b5 := block_cell hR4.rb (i := 5) rfl
  have z0 := block_cell hR4.rz (i := 0) rfl
  have z1 := block_cell hR4.rz (i := 1) rfl
  have z2 := block_cell hR4.rz (i := 2) rfl
  have z3 := block_cell hR4.rz (i := 3) rfl
  have z4 := block_cell hR4.rz (i := 4) rfl
  have z5 := block_cell hR4.rz (i := 5) rfl
  have f0 := block_free (i := 0) hR4.rz
  have f1 := block_free (i := 1) hR4.rz
  have f2 := block_free (i := 2) hR4.rz
  have f3 := block_free (i := 3) hR4.rz
  have f4 := block_free (i := 4) hR4.rz
  have f5 := block_free (i := 5) hR4.rz
  go_wp2_with fail
  refine (HT.out _).mono ?_
  rintro e w5 ⟨rfl, rfl⟩
  go_wp2_with fail
  refine bodyPost_ret (results_row_tmp rfl _ _ (w.heap.size + 2) _ _ (0, 0) rfl (hR4.set _ _ _ _ _ _) rfl) rfl ?_
  exact ⟨rfl, (by (repeat' (first | (with_reducible exact Below.refl _ _) | (with_reducible assumption) | (with_reducible refine below_drewN ?_ _) | (with_reducible refine Below.drew ?_) | (with_reducible refine Below.alloc ?_ ?_ _) | (with_reducible refine Below.setCell ?_ ?_ _) | omega | (simp; done) | (simp; omega))))⟩
set_option maxHeartbeats 2000000 in
set_option maxRecDepth 100000 in
theorem reckon_quo_zero (a : Int) (w : World) : Calls Tryz.prog 11 #[.string ⟨#[47]⟩, (.agg #[.int .i64 2, .int .i64 (a), .float .f64 0, .string ⟨#[]⟩, .slice none 0 0, .slice none 0 0]), (.agg #[.int .i64 2, .int .i64 (0), .float .f64 0, .string ⟨#[]⟩, .slice none 0 0, .slice none 0 0])] w fun e w' => e = .returned (.tuple #[(.agg #[.int .i64 0, .int .i64 0, .float .f64 0, .string ⟨#[]⟩, .slice none 0 0, .slice none 0 0]), .int .i64 17]) ∧ Below w.heap.size w w' := by
  have hR := R3.new w #[.int .i64 2, .int .i64 (a), .float .f64 0, .string ⟨#[]⟩, .slice none 0 0, .slice none 0 0] #[.int .i64 2, .int .i64 (0), .float .f64 0, .string ⟨#[]⟩, .slice none 0 0, .slice none 0 0] #[.int .i64 0, .int .i64 0, .float .f64 0, .string ⟨#[]⟩, .slice none 0 0, .slice none 0 0]
  have hB : Below w.heap.size w _ := (((Below.refl w.heap.size w).alloc (Nat.le_refl _) (.cells #[.int .i64 2, .int .i64 (a), .float .f64 0, .string ⟨#[]⟩, .slice none 0 0, .slice none 0 0] 37 (0, 0))).alloc (by simp) (.cells #[.int .i64 2, .int .i64 (0), .float .f64 0, .string ⟨#[]⟩, .slice none 0 0, .slice none 0 0] 37 (0, 0))).alloc (by simp; omega) (.cells #[.int .i64 0, .int .i64 0, .float .f64 0, .string ⟨#[]⟩, .slice none 0 0, .slice none 0 0] 37 (0, 0))
  go_enter Tryz.func11, Tryz.ntmps11
  go_wp2_with fail
  refine (Right_int a _).mono ?_
  rintro e w1 ⟨rfl, hb1⟩
  have hR1 := hR.below hb1
  have hB1 := hB.trans (hb1.mono hB.size)
  clear hR hB
  have b0 := block_cell hR1.rb (i := 0) rfl
  have b1 := block_cell hR1.rb (i := 1) rfl
  have b2 := block_cell hR1.rb (i := 2) rfl
  have b3 := block_cell hR1.rb (i := 3) rfl
  have b4 := block_cell hR1.rb (i := 4) rfl
  have b5 := block_cell hR1.rb (i := 5) rfl
  go_wp2_with fail
  refine (Right_int (0) _).mono ?_
  rintro e w2 ⟨rfl, hb2⟩
  have hR2 := hR1.below hb2
  have hB2 := hB1.trans (hb2.mono hB1.size)
  clear b0 b1 b2 b3 b4 b5
  go_wp2_with fail
  refine (contains_quo (g := w2.heap.size) ?_).mono ?_
  · exact ⟨by simp, by simp, by simp, by simp, by simp, by simp⟩
  rintro e w3 ⟨rfl, rfl⟩
  have hb3 := (Below.refl w2.heap.size w2).alloc (Nat.le_refl _) (.cells #[.string ⟨#[43]⟩, .string ⟨#[45]⟩, .string ⟨#[42]⟩, .string ⟨#[47]⟩, .string ⟨#[43, 43]⟩, .string ⟨#[47, 47]⟩] 9 (0, 0))
  have hR3 := hR2.below hb3
  have hB3 := hB2.trans (hb3.mono hB2.size)
  obtain ⟨w3, hw3⟩ : ∃ w3, w2.alloc (.cells #[.string ⟨#[43]⟩, .string ⟨#[45]⟩, .string ⟨#[42]⟩, .string ⟨#[47]⟩, .string ⟨#[43, 43]⟩, .string ⟨#[47, 47]⟩] 9 (0, 0)) = w3 := ⟨_, rfl⟩
  rw [hw3] at hR3 hB3 ⊢
  clear hb3 hw3
  have a0 := block_cell hR3.ra (i := 0) rfl
  have a1 := block_cell hR3.ra (i := 1) rfl
  have a2 := block_cell hR3.ra (i := 2) rfl
  have a3 := block_cell hR3.ra (i := 3) rfl
  have a4 := block_cell hR3.ra (i := 4) rfl
  have a5 := block_cell hR3.ra (i := 5) rfl
  have b0 := block_cell hR3.rb (i := 0) rfl
  have b1 := block_cell hR3.rb (i := 1) rfl
  have b2 := block_cell hR3.rb (i := 2) rfl
  have b3 := block_cell hR3.rb (i := 3) rfl
  have b4 := block_cell hR3.rb (i := 4) rfl
  have b5 := block_cell hR3.rb (i := 5) rfl
  go_wp2_with fail
  refine (floats_int_int a (0) _).mono ?_
  rintro e w4 ⟨rfl, hb4⟩
  have hR4 := hR3.below hb4
  have hB4 := hB3.trans (hb4.mono hB3.size)
  have hlt := hR4.lt
  clear a0 b0 a1 b1 a2 b2 a3 b3 a4 b4 a5 b5
  have a0 := block_cell hR4.ra (i := 0) rfl
  have a1 := block_cell hR4.ra (i := 1) rfl
  have a2 := block_cell hR4.ra (i := 2) rfl
  have a3 := block_cell hR4.ra (i := 3) rfl
  have a4 := block_cell hR4.ra (i := 4) rfl
  have a5 := block_cell hR4.ra (i := 5) rfl
  have b0 := block_cell hR4.rb (i := 0) rfl
  have b1 := block_cell hR4.rb (i := 1) rfl
  have b2 := block_cell hR4.rb (i := 2) rfl
  have b3 := block_cell hR4.rb (i := 3) rfl
  have b4 := block_cell hR4.rb (i := 4) rfl
  have b5 := block_cell hR4.rb (i := 5) rfl
  have z0 := block_cell hR4.rz (i := 0) rfl
  have z1 := block_cell hR4.rz (i := 1) rfl
  have z2 := block_cell hR4.rz (i := 2) rfl
  have z3 := block_cell hR4.rz (i := 3) rfl
  have z4 := block_cell hR4.rz (i := 4) rfl
  have z5 := block_cell hR4.rz (i := 5) rfl
  have f0 := block_free (i := 0) hR4.rz
  have f1 := block_free (i := 1) hR4.rz
  have f2 := block_free (i := 2) hR4.rz
  have f3 := block_free (i := 3) hR4.rz
  have f4 := block_free (i := 4) hR4.rz
  have f5 := block_free (i := 5) hR4.rz
  go_wp2_with fail
  refine bodyPost_ret (results_row_tmp rfl _ _ (w.heap.size + 2) _ _ (0, 0) rfl (hR4.set _ _ _ _ _ _) rfl) rfl ?_
  exact ⟨rfl, (by (repeat' (first | (with_reducible exact Below.refl _ _) | (with_reducible assumption) | (with_reducible refine below_drewN ?_ _) | (with_reducible refine Below.drew ?_) | (with_reducible refine Below.alloc ?_ ?_ _) | (with_reducible refine Below.setCell ?_ ?_ _) | omega | (simp; done) | (simp; omega))))⟩
theorem ints_quo_over (w : World) : Calls Tryz.prog 32 #[.string ⟨#[47]⟩, .int .i64 (-9223372036854775808), .int .i64 (-1)] w fun e w' => e = .returned (.tuple #[.int .i64 (wrap64 9223372036854775808), .bool false]) ∧ w = w' := by
  go_enter Tryz.func32, Tryz.ntmps32
  go_wp2_with fail
  go_ret2
  exact ⟨rfl, rfl⟩
set_option maxHeartbeats 2000000 in
set_option maxRecDepth 100000 in
theorem reckon_quo_over (w : World) : Calls Tryz.prog 11 #[.string ⟨#[47]⟩, (.agg #[.int .i64 2, .int .i64 (-9223372036854775808), .float .f64 0, .string ⟨#[]⟩, .slice none 0 0, .slice none 0 0]), (.agg #[.int .i64 2, .int .i64 (-1), .float .f64 0, .string ⟨#[]⟩, .slice none 0 0, .slice none 0 0])] w fun e w' => e = .returned (.tuple #[(.agg #[.int .i64 0, .int .i64 0, .float .f64 0, .string ⟨#[]⟩, .slice none 0 0, .slice none 0 0]), .int .i64 16]) ∧ Below w.heap.size w w' := by
  have hR := R3.new w #[.int .i64 2, .int .i64 (-9223372036854775808), .float .f64 0, .string ⟨#[]⟩, .slice none 0 0, .slice none 0 0] #[.int .i64 2, .int .i64 (-1), .float .f64 0, .string ⟨#[]⟩, .slice none 0 0, .slice none 0 0] #[.int .i64 0, .int .i64 0, .float .f64 0, .string ⟨#[]⟩, .slice none 0 0, .slice none 0 0]
  have hB : Below w.heap.size w _ := (((Below.refl w.heap.size w).alloc (Nat.le_refl _) (.cells #[.int .i64 2, .int .i64 (-9223372036854775808), .float .f64 0, .string ⟨#[]⟩, .slice none 0 0, .slice none 0 0] 37 (0, 0))).alloc (by simp) (.cells #[.int .i64 2, .int .i64 (-1), .float .f64 0, .string ⟨#[]⟩, .slice none 0 0, .slice none 0 0] 37 (0, 0))).alloc (by simp; omega) (.cells #[.int .i64 0, .int .i64 0, .float .f64 0, .string ⟨#[]⟩, .slice none 0 0, .slice none 0 0] 37 (0, 0))
  go_enter Tryz.func11, Tryz.ntmps11
  go_wp2_with fail
  refine (Right_int (-9223372036854775808) _).mono ?_
  rintro e w1 ⟨rfl, hb1⟩
  have hR1 := hR.below hb1
  have hB1 := hB.trans (hb1.mono hB.size)
  clear hR hB
  have b0 := block_cell hR1.rb (i := 0) rfl
  have b1 := block_cell hR1.rb (i := 1) rfl
  have b2 := block_cell hR1.rb (i := 2) rfl
  have b3 := block_cell hR1.rb (i := 3) rfl
  have b4 := block_cell hR1.rb (i := 4) rfl
  have b5 := block_cell hR1.rb (i := 5) rfl
  go_wp2_with fail
  refine (Right_int (-1) _).mono ?_
  rintro e w2 ⟨rfl, hb2⟩
  have hR2 := hR1.below hb2
  have hB2 := hB1.trans (hb2.mono hB1.size)
  clear b0 b1 b2 b3 b4 b5
  go_wp2_with fail
  refine (contains_quo (g := w2.heap.size) ?_).mono ?_
  · exact ⟨by simp, by simp, by simp, by simp, by simp, by simp⟩
  rintro e w3 ⟨rfl, rfl⟩
  have hb3 := (Below.refl w2.heap.size w2).alloc (Nat.le_refl _) (.cells #[.string ⟨#[43]⟩, .string ⟨#[45]⟩, .string ⟨#[42]⟩, .string ⟨#[47]⟩, .string ⟨#[43, 43]⟩, .string ⟨#[47, 47]⟩] 9 (0, 0))
  have hR3 := hR2.below hb3
  have hB3 := hB2.trans (hb3.mono hB2.size)
  obtain ⟨w3, hw3⟩ : ∃ w3, w2.alloc (.cells #[.string ⟨#[43]⟩, .string ⟨#[45]⟩, .string ⟨#[42]⟩, .string ⟨#[47]⟩, .string ⟨#[43, 43]⟩, .string ⟨#[47, 47]⟩] 9 (0, 0)) = w3 := ⟨_, rfl⟩
  rw [hw3] at hR3 hB3 ⊢
  clear hb3 hw3
  have a0 := block_cell hR3.ra (i := 0) rfl
  have a1 := block_cell hR3.ra (i := 1) rfl
  have a2 := block_cell hR3.ra (i := 2) rfl
  have a3 := block_cell hR3.ra (i := 3) rfl
  have a4 := block_cell hR3.ra (i := 4) rfl
  have a5 := block_cell hR3.ra (i := 5) rfl
  have b0 := block_cell hR3.rb (i := 0) rfl
  have b1 := block_cell hR3.rb (i := 1) rfl
  have b2 := block_cell hR3.rb (i := 2) rfl
  have b3 := block_cell hR3.rb (i := 3) rfl
  have b4 := block_cell hR3.rb (i := 4) rfl
  have b5 := block_cell hR3.rb (i := 5) rfl
  go_wp2_with fail
  refine (floats_int_int (-9223372036854775808) (-1) _).mono ?_
  rintro e w4 ⟨rfl, hb4⟩
  have hR4 := hR3.below hb4
  have hB4 := hB3.trans (hb4.mono hB3.size)
  have hlt := hR4.lt
  clear a0 b0 a1 b1 a2 b2 a3 b3 a4 b4 a5 b5
  have a0 := block_cell hR4.ra (i := 0) rfl
  have a1 := block_cell hR4.ra (i := 1) rfl
  have a2 := block_cell hR4.ra (i := 2) rfl
  have a3 := block_cell hR4.ra (i := 3) rfl
  have a4 := block_cell hR4.ra (i := 4) rfl
  have a5 := block_cell hR4.ra (i := 5) rfl
  have b0 := block_cell hR4.rb (i := 0) rfl
  have b1 := block_cell hR4.rb (i := 1) rfl
  have b2 := block_cell hR4.rb (i := 2) rfl
  have b3 := block_cell hR4.rb (i := 3) rfl
  have b4 := block_cell hR4.rb (i := 4) rfl
  have b5 := block_cell hR4.rb (i := 5) rfl
  have z0 := block_cell hR4.rz (i := 0) rfl
  have z1 := block_cell hR4.rz (i := 1) rfl
  have z2 := block_cell hR4.rz (i := 2) rfl
  have z3 := block_cell hR4.rz (i := 3) rfl
  have z4 := block_cell hR4.rz (i := 4) rfl
  have z5 := block_cell hR4.rz (i := 5) rfl
  have f0 := block_free (i := 0) hR4.rz
  have f1 := block_free (i := 1) hR4.rz
  have f2 := block_free (i := 2) hR4.rz
  have f3 := block_free (i := 3) hR4.rz
  have f4 := block_free (i := 4) hR4.rz
  have f5 := block_free (i := 5) hR4.rz
  go_wp2_with fail
  refine (ints_quo_over _).mono ?_
  rintro e w5 ⟨rfl, rfl⟩
  go_wp2_with fail
  refine bodyPost_ret (results_row_tmp rfl _ _ (w.heap.size + 2) _ _ (0, 0) rfl (hR4.set _ _ _ _ _ _) rfl) rfl ?_
  exact ⟨rfl, (by (repeat' (first | (with_reducible exact Below.refl _ _) | (with_reducible assumption) | (with_reducible refine below_drewN ?_ _) | (with_reducible refine Below.drew ?_) | (with_reducible refine Below.alloc ?_ ?_ _) | (with_reducible refine Below.setCell ?_ ?_ _) | omega | (simp; done) | (simp; omega))))⟩

/-- What Reckon comes to, in one make for all answers. -/
def pK (a b : Int) : Int := if plusB a b = true then 2 else 0
def pN (a b : Int) : Int := if plusB a b = true then wrap64 (a + b) else 0
def pE (a b : Int) : Int := if plusB a b = true then 0 else 16
theorem reckon_plus_u (a b : Int) (w : World) : Calls Tryz.prog 11 #[.string ⟨#[43]⟩, (.agg #[.int .i64 2, .int .i64 (a), .float .f64 0, .string ⟨#[]⟩, .slice none 0 0, .slice none 0 0]), (.agg #[.int .i64 2, .int .i64 (b), .float .f64 0, .string ⟨#[]⟩, .slice none 0 0, .slice none 0 0])] w fun e w' => e = .returned (.tuple #[.agg #[.int .i64 (pK a b), .int .i64 (pN a b), .float .f64 0, .string ⟨#[]⟩, .slice none 0 0, .slice none 0 0], .int .i64 (pE a b)]) ∧ Below w.heap.size w w' := by
  unfold pK pN pE
  cases h : plusB a b
  · exact reckon_plus_over a b h w
  · exact reckon_plus a b h w
def tK (a b : Int) : Int := if timesB a b = true then 2 else 0
def tN (a b : Int) : Int := if timesB a b = true then timesZ a b else 0
def tE (a b : Int) : Int := if timesB a b = true then 0 else 16
theorem reckon_times_u (a b : Int) (ha : I64 a) (hb : I64 b) (w : World) : Calls Tryz.prog 11 #[.string ⟨#[42]⟩, (.agg #[.int .i64 2, .int .i64 (a), .float .f64 0, .string ⟨#[]⟩, .slice none 0 0, .slice none 0 0]), (.agg #[.int .i64 2, .int .i64 (b), .float .f64 0, .string ⟨#[]⟩, .slice none 0 0, .slice none 0 0])] w fun e w' => e = .returned (.tuple #[.agg #[.int .i64 (tK a b), .int .i64 (tN a b), .float .f64 0, .string ⟨#[]⟩, .slice none 0 0, .slice none 0 0], .int .i64 (tE a b)]) ∧ Below w.heap.size w w' := by
  unfold tK tN tE
  cases h : timesB a b
  · exact reckon_times_over a b ha hb h w
  · exact reckon_times a b ha hb h w
def qK (a b : Int) : Int := if b = 0 ∨ (a = -9223372036854775808 ∧ b = -1) then 0 else 2
def qN (a b : Int) : Int := if b = 0 ∨ (a = -9223372036854775808 ∧ b = -1) then 0 else wrap64 (a.tdiv b)
def qE (a b : Int) : Int := if b = 0 then 17 else if a = -9223372036854775808 ∧ b = -1 then 16 else 0
theorem reckon_quo_u (a b : Int) (w : World) : Calls Tryz.prog 11 #[.string ⟨#[47]⟩, (.agg #[.int .i64 2, .int .i64 (a), .float .f64 0, .string ⟨#[]⟩, .slice none 0 0, .slice none 0 0]), (.agg #[.int .i64 2, .int .i64 (b), .float .f64 0, .string ⟨#[]⟩, .slice none 0 0, .slice none 0 0])] w fun e w' => e = .returned (.tuple #[.agg #[.int .i64 (qK a b), .int .i64 (qN a b), .float .f64 0, .string ⟨#[]⟩, .slice none 0 0, .slice none 0 0], .int .i64 (qE a b)]) ∧ Below w.heap.size w w' := by
  unfold qK qN qE
  by_cases h0 : b = 0
  · subst h0
    rw [if_pos (Or.inl rfl), if_pos (Or.inl rfl), if_pos rfl]
    exact reckon_quo_zero a w
  · by_cases h1 : a = -9223372036854775808 ∧ b = -1
    · rw [if_pos (Or.inr h1), if_pos (Or.inr h1), if_neg h0, if_pos h1]
      obtain ⟨rfl, rfl⟩ := h1
      exact reckon_quo_over w
    · rw [if_neg (fun h => h.elim h0 h1), if_neg (fun h => h.elim h0 h1), if_neg h0, if_neg h1]
      exact reckon_quo a b h0 h1 w
end Go.Proofs.YtbgjhgohffkonaaGreatDoor

