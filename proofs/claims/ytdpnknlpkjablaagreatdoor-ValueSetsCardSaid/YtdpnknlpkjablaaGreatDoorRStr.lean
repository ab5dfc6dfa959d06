/- Two strings put one behind the other. -/
import Derived.Test.YtdpnknlpkjablaaGreatDoorReckon
namespace Go.Proofs.YtdpnknlpkjablaaGreatDoor
open Go.RowKit
attribute [local go_sem] run_bits64 run_frombits64 store_flt

set_option maxHeartbeats 2000000 in
set_option maxRecDepth 100000 in
theorem bounded_ok (t : ByteArray) (ht : t.size ≤ 1024) (w : World) : Calls Tryz.prog 27 #[(.agg #[.int .i64 4, .int .i64 0, .float .f64 0, .string (t), .slice none 0 0, .slice none 0 0])] w fun e w' => e = .returned (.tuple #[(.agg #[.int .i64 4, .int .i64 0, .float .f64 0, .string (t), .slice none 0 0, .slice none 0 0]), .int .i64 0]) ∧ Below w.heap.size w w' := by
  have hle : decide ((1024 : Int) < (t.size : Int)) = false := by simp; omega
  go_enter Tryz.func27, Tryz.ntmps27
  go_wp2_with fail
  refine bodyPost_ret (results_row_tmp rfl _ _ (w.heap.size + 1) _ _ (0, 0) rfl (block_new _ _ (by simp)) rfl) rfl ?_
  exact ⟨rfl, (by (repeat' (first | (with_reducible exact Below.refl _ _) | (with_reducible assumption) | (with_reducible refine below_drewN ?_ _) | (with_reducible refine Below.drew ?_) | (with_reducible refine Below.alloc ?_ ?_ _) | (with_reducible refine Below.setCell ?_ ?_ _) | omega | (simp; done) | (simp; omega))))⟩
set_option maxHeartbeats 2000000 in
set_option maxRecDepth 100000 in
theorem bounded_long (t : ByteArray) (ht : 1024 < t.size) (w : World) : Calls Tryz.prog 27 #[(.agg #[.int .i64 4, .int .i64 0, .float .f64 0, .string (t), .slice none 0 0, .slice none 0 0])] w fun e w' => e = .returned (.tuple #[(.agg #[.int .i64 0, .int .i64 0, .float .f64 0, .string ⟨#[]⟩, .slice none 0 0, .slice none 0 0]), .int .i64 20]) ∧ Below w.heap.size w w' := by
  have hle : decide ((1024 : Int) < (t.size : Int)) = true := by simp; omega
  go_enter Tryz.func27, Tryz.ntmps27
  go_wp2_with fail
  refine bodyPost_ret (results_row_tmp rfl _ _ (w.heap.size + 1) _ _ (0, 0) rfl (block_new _ _ (by simp)) rfl) rfl ?_
  exact ⟨rfl, (by (repeat' (first | (with_reducible exact Below.refl _ _) | (with_reducible assumption) | (with_reducible refine below_drewN ?_ _) | (with_reducible refine Below.drew ?_) | (with_reducible refine Below.alloc ?_ ?_ _) | (with_reducible refine Below.setCell ?_ ?_ _) | omega | (simp; done) | (simp; omega))))⟩
set_option maxHeartbeats 2000000 in
set_option maxRecDepth 100000 in
theorem reckon_str_ok (a b : ByteArray) (ha : a.size ≤ 1024) (hb : b.size ≤ 1024) (hs : a.size + b.size ≤ 1024) (w : World) : Calls Tryz.prog 10 #[.string ⟨#[43]⟩, (.agg #[.int .i64 4, .int .i64 0, .float .f64 0, .string (a), .slice none 0 0, .slice none 0 0]), (.agg #[.int .i64 4, .int .i64 0, .float .f64 0, .string (b), .slice none 0 0, .slice none 0 0])] w fun e w' => e = .returned (.tuple #[(.agg #[.int .i64 4, .int .i64 0, .float .f64 0, .string (a ++ b), .slice none 0 0, .slice none 0 0]), .int .i64 0]) ∧ Below w.heap.size w w' := by
  have HC := Lib.hid (fun W => bounded_ok (a ++ b) (by rw [ByteArray.size_append]; exact hs) W)
  have hR := R3.new w #[.int .i64 4, .int .i64 0, .float .f64 0, .string (a), .slice none 0 0, .slice none 0 0] #[.int .i64 4, .int .i64 0, .float .f64 0, .string (b), .slice none 0 0, .slice none 0 0] #[.int .i64 0, .int .i64 0, .float .f64 0, .string ⟨#[]⟩, .slice none 0 0, .slice none 0 0]
  have hB : Below w.heap.size w _ := (((Below.refl w.heap.size w).alloc (Nat.le_refl _) (.cells #[.int .i64 4, .int .i64 0, .float .f64 0, .string (a), .slice none 0 0, .slice none 0 0] 27 (0, 0))).alloc (by simp) (.cells #[.int .i64 4, .int .i64 0, .float .f64 0, .string (b), .slice none 0 0, .slice none 0 0] 27 (0, 0))).alloc (by simp; omega) (.cells #[.int .i64 0, .int .i64 0, .float .f64 0, .string ⟨#[]⟩, .slice none 0 0, .slice none 0 0] 27 (0, 0))
  go_enter Tryz.func10, Tryz.ntmps10
  go_wp2_with fail
  refine (Right_str a ha _).mono ?_
  rintro e w1 ⟨rfl, hb1⟩
  have hR1 := hR.below hb1
  have hB1 := hB.trans (hb1.mono hB.size)
  clear hR hB
  have b0 := block_cell hR1.rb (i := 0) rfl
  have b1 := block_cell hR1.rb (i := 1) rfl
  have b2 := block_cell hR1.rb (i := 2) rfl
  have b3 := block_cell hR1.rb (i := 3) rfl
  have b4 := block_cell hR1.rb (i := 4) rfl
  have b5 := block_cell hR1.rb (i := 5) rfl
  go_wp2_with fail
  refine (Right_str b hb _).mono ?_
  rintro e w2 ⟨rfl, hb2⟩
  have hR2 := hR1.below hb2
  have hB2 := hB1.trans (hb2.mono hB1.size)
  clear b0 b1 b2 b3 b4 b5
  go_wp2_with fail
  refine (contains_plus (g := w2.heap.size) ?_).mono ?_
  · exact ⟨by simp, by simp, by simp, by simp, by simp, by simp⟩
  rintro e w3 ⟨rfl, rfl⟩
  have hb3 := (Below.refl w2.heap.size w2).alloc (Nat.le_refl _) (.cells #[.string ⟨#[43]⟩, .string ⟨#[45]⟩, .string ⟨#[42]⟩, .string ⟨#[47]⟩, .string ⟨#[43, 43]⟩, .string ⟨#[47, 47]⟩] 9 (0, 0))
  have hR3 := hR2.below hb3
  have hB3 := hB2.trans (hb3.mono hB2.size)
  obtain ⟨w3, hw3⟩ : ∃ w3, w2.alloc (.cells #[.string ⟨#[43]⟩, .string ⟨#[45]⟩, .string ⟨#[42]⟩, .string ⟨#[47]⟩, .string ⟨#[43, 43]⟩, .string ⟨#[47, 47]⟩] 9 (0, 0)) = w3 := ⟨_, rfl⟩
  rw [hw3] at hR3 hB3 ⊢
  clear hb3 hw3
  have a0 := block_cell hR3.ra (i := 0) rfl
  have a1 := block_cell hR3.ra (i := 1) rfl
  have a2 := block_cell hR3.ra (i := 2) rfl
  have a3 := block_cell hR3.ra (i := 3) rfl
  have a4 := block_cell hR3.ra (i := 4) rfl
  have a5 := block_cell hR3.ra (i := 5) rfl
  have b0 := block_cell hR3.rb (i := 0) rfl
  have b1 := block_cell hR3.rb (i := 1) rfl
  have b2 := block_cell hR3.rb (i := 2) rfl
  have b3 := block_cell hR3.rb (i := 3) rfl
  have b4 := block_cell hR3.rb (i := 4) rfl
  have b5 := block_cell hR3.rb (i := 5) rfl
  go_wp2_with fail
  refine (floats_str_str a b _).mono ?_
  rintro e w4 ⟨rfl, hb4⟩
  have hR4 := hR3.below hb4
  have hB4 := hB3.trans (hb4.mono hB3.size)
  have hlt := hR4.lt
  clear a0 b0 a1 b1 a2 b2 a3 b3 a4 b4 a5 b5
  have a0 := block_cell hR4.ra (i := 0) rfl
  have a1 := block_cell hR4.ra (i := 1) rfl
  have a2 := block_cell hR4.ra (i := 2) rfl
  have a3 := block_cell hR4.ra (i := 3) rfl
  have a4 := block_cell hR4.ra (i := 4) rfl
  have a5 := block_cell hR4.ra (i := 5) rfl
  have b0 := block_cell hR4.rb (i := 0) rfl
  have b1 := block_cell hR4.rb (i := 1) rfl
  have b2 := block_cell hR4.rb (i := 2) rfl
  have b3 := block_cell hR4.rb (i := 3) rfl
  have b4 := block_cell hR4.rb (i := 4) rfl
  have b5 := block_cell hR4.rb (i := 5) rfl
  go_wp2_with fail
  refine (HC.out _).mono ?_
  rintro e w5 ⟨rfl, hb5⟩
  have hR5 := hR4.below hb5
  have hB5 := hB4.trans (hb5.mono hB4.size)
  have z0 := block_cell hR5.rz (i := 0) rfl
  have z1 := block_cell hR5.rz (i := 1) rfl
  have z2 := block_cell hR5.rz (i := 2) rfl
  have z3 := block_cell hR5.rz (i := 3) rfl
  have z4 := block_cell hR5.rz (i := 4) rfl
  have z5 := block_cell hR5.rz (i := 5) rfl
  have f0 := block_free (i := 0) hR5.rz
  have f1 := block_free (i := 1) hR5.rz
  have f2 := block_free (i := 2) hR5.rz
  have f3 := block_free (i := 3) hR5.rz
  have f4 := block_free (i := 4) hR5.rz
  have f5 := block_free (i := 5) hR5.rz
  go_wp2_with fail
  refine bodyPost_ret (results_row_tmp rfl _ _ (w.heap.size + 2) _ _ (0, 0) rfl (hR5.set _ _ _ _ _ _) rfl) rfl ?_
  exact ⟨rfl, (by (repeat' (first | (with_reducible exact Below.refl _ _) | (with_reducible assumption) | (with_reducible refine below_drewN ?_ _) | (with_reducible refine Below.drew ?_) | (with_reducible refine Below.alloc ?_ ?_ _) | (with_reducible refine Below.setCell ?_ ?_ _) | omega | (simp; done) | (simp; omega))))⟩
set_option maxHeartbeats 2000000 in
set_option maxRecDepth 100000 in
theorem reckon_str_long (a b : ByteArray) (ha : a.size ≤ 1024) (hb : b.size ≤ 1024) (hs : 1024 < a.size + b.size) (w : World) : Calls Tryz.prog 10 #[.string ⟨#[43]⟩, (.agg #[.int .i64 4, .int .i64 0, .float .f64 0, .string (a), .slice none 0 0, .slice none 0 0]), (.agg #[.int .i64 4, .int .i64 0, .float .f64 0, .string (b), .slice none 0 0, .slice none 0 0])] w fun e w' => e = .returned (.tuple #[(.agg #[.int .i64 0, .int .i64 0, .float .f64 0, .string ⟨#[]⟩, .slice none 0 0, .slice none 0 0]), .int .i64 20]) ∧ Below w.heap.size w w' := by
  have HC := Lib.hid (fun W => bounded_long (a ++ b) (by rw [ByteArray.size_append]; exact hs) W)
  have hR := R3.new w #[.int .i64 4, .int .i64 0, .float .f64 0, .string (a), .slice none 0 0, .slice none 0 0] #[.int .i64 4, .int .i64 0, .float .f64 0, .string (b), .slice none 0 0, .slice none 0 0] #[.int .i64 0, .int .i64 0, .float .f64 0, .string ⟨#[]⟩, .slice none 0 0, .slice none 0 0]
  have hB : Below w.heap.size w _ := (((Below.refl w.heap.size w).alloc (Nat.le_refl _) (.cells #[.int .i64 4, .int .i64 0, .float .f64 0, .string (a), .slice none 0 0, .slice none 0 0] 27 (0, 0))).alloc (by simp) (.cells #[.int .i64 4, .int .i64 0, .float .f64 0, .string (b), .slice none 0 0, .slice none 0 0] 27 (0, 0))).alloc (by simp; omega) (.cells #[.int .i64 0, .int .i64 0, .float .f64 0, .string ⟨#[]⟩, .slice none 0 0, .slice none 0 0] 27 (0, 0))
  go_enter Tryz.func10, Tryz.ntmps10
  go_wp2_with fail
  refine (Right_str a ha _).mono ?_
  rintro e w1 ⟨rfl, hb1⟩
  have hR1 := hR.below hb1
  have hB1 := hB.trans (hb1.mono hB.size)
  clear hR hB
  have b0 := block_cell hR1.rb (i := 0) rfl
  have b1 := block_cell hR1.rb (i := 1) rfl
  have b2 := block_cell hR1.rb (i := 2) rfl
  have b3 := block_cell hR1.rb (i := 3) rfl
  have b4 := block_cell hR1.rb (i := 4) rfl
  have b5 := block_cell hR1.rb (i := 5) rfl
  go_wp2_with fail
  refine (Right_str b hb _).mono ?_
  rintro e w2 ⟨rfl, hb2⟩
  have hR2 := hR1.below hb2
  have hB2 := hB1.trans (hb2.mono hB1.size)
  clear b0 b1 b2 b3 b4 b5
  go_wp2_with fail
  refine (contains_plus (g := w2.heap.size) ?_).mono ?_
  · exact ⟨by simp, by simp, by simp, by simp, by simp, by simp⟩
  rintro e w3 ⟨rfl, rfl⟩
  have hb3 := (Below.refl w2.heap.size w2).alloc (Nat.le_refl _) (.cells #[.string ⟨#[43]⟩, .string ⟨#[45]⟩, .string ⟨#[42]⟩, .string ⟨#[47]⟩, .string ⟨#[43, 43]⟩, .string ⟨#[47, 47]⟩] 9 (0, 0))
  have hR3 := hR2.below hb3
  have hB3 := hB2.trans (hb3.mono hB2.size)
  obtain ⟨w3, hw3⟩ : ∃ w3, w2.alloc (.cells #[.string ⟨#[43]⟩, .string ⟨#[45]⟩, .string ⟨#[42]⟩, .string ⟨#[47]⟩, .string ⟨#[43, 43]⟩, .string ⟨#[47, 47]⟩] 9 (0, 0)) = w3 := ⟨_, rfl⟩
  rw [hw3] at hR3 hB3 ⊢
  clear hb3 hw3
  have a0 := block_cell hR3.ra (i := 0) rfl
  have a1 := block_cell hR3.ra (i := 1) rfl
  have a2 := block_cell hR3.ra (i := 2) rfl
  have a3 := block_cell hR3.ra (i := 3) rfl
  have a4 := block_cell hR3.ra (i := 4) rfl
  have a5 := block_cell hR3.ra (i := 5) rfl
  have b0 := block_cell hR3.rb (i := 0) rfl
  have b1 := block_cell hR3.rb (i := 1) rfl
  have b2 := block_cell hR3.rb (i := 2) rfl
  have b3 := block_cell hR3.rb (i := 3) rfl
  have b4 := block_cell hR3.rb (i := 4) rfl
  have b5 := block_cell hR3.rb (i := 5) rfl
  go_wp2_with fail
  refine (floats_str_str a b _).mono ?_
  rintro e w4 ⟨rfl, hb4⟩
  have hR4 := hR3.below hb4
  have hB4 := hB3.trans (hb4.mono hB3.size)
  have hlt := hR4.lt
  clear a0 b0 a1 b1 a2 b2 a3 b3 a4 b4 a5 b5
  have a0 := block_cell hR4.ra (i := 0) rfl
  have a1 := block_cell hR4.ra (i := 1) rfl
  have a2 := block_cell hR4.ra (i := 2) rfl
  have a3 := block_cell hR4.ra (i := 3) rfl
  have a4 := block_cell hR4.ra (i := 4) rfl
  have a5 := block_cell hR4.ra (i := 5) rfl
  have b0 := block_cell hR4.rb (i := 0) rfl
  have b1 := block_cell hR4.rb (i := 1) rfl
  have b2 := block_cell hR4.rb (i := 2) rfl
  have b3 := block_cell hR4.rb (i := 3) rfl
  have b4 := block_cell hR4.rb (i := 4) rfl
  have b5 := block_cell hR4.rb (i := 5) rfl
  go_wp2_with fail
  refine (HC.out _).mono ?_
  rintro e w5 ⟨rfl, hb5⟩
  have hR5 := hR4.below hb5
  have hB5 := hB4.trans (hb5.mono hB4.size)
  have z0 := block_cell hR5.rz (i := 0) rfl
  have z1 := block_cell hR5.rz (i := 1) rfl
  have z2 := block_cell hR5.rz (i := 2) rfl
  have z3 := block_cell hR5.rz (i := 3) rfl
  have z4 := block_cell hR5.rz (i := 4) rfl
  have z5 := block_cell hR5.rz (i := 5) rfl
  have f0 := block_free (i := 0) hR5.rz
  have f1 := block_free (i := 1) hR5.rz
  have f2 := block_free (i := 2) hR5.rz
  have f3 := block_free (i := 3) hR5.rz
  have f4 := block_free (i := 4) hR5.rz
  have f5 := block_free (i := 5) hR5.rz
  go_wp2_with fail
  refine bodyPost_ret (results_row_tmp rfl _ _ (w.heap.size + 2) _ _ (0, 0) rfl (hR5.set _ _ _ _ _ _) rfl) rfl ?_
  exact ⟨rfl, (by (repeat' (first | (with_reducible exact Below.refl _ _) | (with_reducible assumption) | (with_reducible refine below_drewN ?_ _) | (with_reducible refine Below.drew ?_) | (with_reducible refine Below.alloc ?_ ?_ _) | (with_reducible refine Below.setCell ?_ ?_ _) | omega | (simp; done) | (simp; omega))))⟩
end Go.Proofs.YtdpnknlpkjablaaGreatDoor
