/- What the laws of values show. -/
import Derived.Test.YtbgjhgohffkonaaGreatDoorEqual
import Derived.Test.YtbgjhgohffkonaaGreatDoorReckon
import Derived.Test.YtbgjhgohffkonaaGreatDoorM25
namespace Go.Proofs.YtbgjhgohffkonaaGreatDoor
open Go.RowKit Go.Shelf
attribute [local go_sem] store_flt
theorem quo_tx (w : World) : Calls Tryz.prog 11 #[.string ⟨#[47]⟩, (.agg #[.int .i64 2, .int .i64 (-7), .float .f64 0, .string ⟨#[]⟩, .slice none 0 0, .slice none 0 0]), (.agg #[.int .i64 2, .int .i64 (2), .float .f64 0, .string ⟨#[]⟩, .slice none 0 0, .slice none 0 0])] w fun e w' => e = .returned (.tuple #[(.agg #[.int .i64 2, .int .i64 (-3), .float .f64 0, .string ⟨#[]⟩, .slice none 0 0, .slice none 0 0]), .int .i64 0]) ∧ Below w.heap.size w w' :=
  (reckon_quo (-7) 2 (by decide) (by decide) w).mono fun e w' h => ⟨h.1.trans (by kernel_rfl), h.2⟩
theorem over_tx (w : World) : Calls Tryz.prog 11 #[.string ⟨#[43]⟩, (.agg #[.int .i64 2, .int .i64 (9223372036854775807), .float .f64 0, .string ⟨#[]⟩, .slice none 0 0, .slice none 0 0]), (.agg #[.int .i64 2, .int .i64 (1), .float .f64 0, .string ⟨#[]⟩, .slice none 0 0, .slice none 0 0])] w fun e w' => e = .returned (.tuple #[(.agg #[.int .i64 0, .int .i64 0, .float .f64 0, .string ⟨#[]⟩, .slice none 0 0, .slice none 0 0]), .int .i64 16]) ∧ Below w.heap.size w w' :=
  reckon_plus_over 9223372036854775807 1 (by kernel_rfl) w
theorem same_tx (w : World) : Calls Tryz.prog 13 #[(.agg #[.int .i64 2, .int .i64 (1), .float .f64 0, .string ⟨#[]⟩, .slice none 0 0, .slice none 0 0]), (.agg #[.int .i64 3, .int .i64 0, .float .f64 (4607182418800017408), .string ⟨#[]⟩, .slice none 0 0, .slice none 0 0])] w fun e w' => e = .returned (.tuple #[.bool true, .int .i64 0]) ∧ Below w.heap.size w w' :=
  (equal_int_flt 1 4607182418800017408 w).mono fun e w' h => ⟨h.1.trans (by kernel_rfl), h.2⟩
theorem five_tx {w : World} (hG : PG w) : Calls Tryz.prog 14 #[(.agg #[.int .i64 2, .int .i64 (5), .float .f64 0, .string ⟨#[]⟩, .slice none 0 0, .slice none 0 0])] w fun e w' => e = .returned (.string ⟨#[53]⟩) ∧ Below w.heap.size w w' :=
  (Show_int hG 5 (by unfold I64; decide)).mono fun e w' h => ⟨h.1.trans (by kernel_rfl), h.2⟩
set_option maxHeartbeats 1000000 in
set_option maxRecDepth 100000 in
theorem shown_any {w : World} (hG : PG w) : Calls Tryz.prog 4 #[] w fun e w' => e = .returned (.bool true) ∧ Below w.heap.size w w' := by
  go_enter Tryz.func4, Tryz.ntmps4
  go_wp2_with fail
  refine (whole_any (-7) _).mono ?_
  rintro e w1 ⟨rfl, hb1⟩
  go_wp2_with fail
  refine (whole_any 2 _).mono ?_
  rintro e w2 ⟨rfl, hb2⟩
  have hB2 := hb1.trans (hb2.mono hb1.size)
  go_wp2_with fail
  refine (quo_tx _).mono ?_
  rintro e w3 ⟨rfl, hb3⟩
  have hB3 := (hB2.trans (hb3.mono hB2.size)).alloc (Nat.le_trans hB2.size hb3.size) (.cells #[.int .i64 2, .int .i64 (-3), .float .f64 0, .string ⟨#[]⟩, .slice none 0 0, .slice none 0 0] 37 (0, 0))
  have hc3 := block_new w3 (.cells #[.int .i64 2, .int .i64 (-3), .float .f64 0, .string ⟨#[]⟩, .slice none 0 0, .slice none 0 0] 37 (0, 0)) rfl
  go_wp2_with fail
  refine (whole_any 9223372036854775807 _).mono ?_
  rintro e w4 ⟨rfl, hb4⟩
  have hB4 := hB3.trans (hb4.mono hB3.size)
  have hc4 := block_below hc3 hb4
  go_wp2_with fail
  refine (whole_any 1 _).mono ?_
  rintro e w5 ⟨rfl, hb5⟩
  have hB5 := hB4.trans (hb5.mono hB4.size)
  have hc5 := block_below hc4 hb5
  go_wp2_with fail
  refine (over_tx _).mono ?_
  rintro e w6 ⟨rfl, hb6⟩
  have hB6 := (hB5.trans (hb6.mono hB5.size)).alloc (Nat.le_trans hB5.size hb6.size) (.cells #[.int .i64 0, .int .i64 0, .float .f64 0, .string ⟨#[]⟩, .slice none 0 0, .slice none 0 0] 37 (0, 0))
  have hc6 := block_alloc (block_below hc5 hb6) (.cells #[.int .i64 0, .int .i64 0, .float .f64 0, .string ⟨#[]⟩, .slice none 0 0, .slice none 0 0] 37 (0, 0))
  go_wp2_with fail
  refine (whole_any 1 _).mono ?_
  rintro e w7 ⟨rfl, hb7⟩
  have hB7 := hB6.trans (hb7.mono hB6.size)
  have hc7 := block_below hc6 hb7
  go_wp2_with fail
  refine (real_any 4607182418800017408 _).mono ?_
  rintro e w8 ⟨rfl, hb8⟩
  have hB8 := hB7.trans (hb8.mono hB7.size)
  have hc8 := block_below hc7 hb8
  go_wp2_with fail
  refine (same_tx _).mono ?_
  rintro e w9 ⟨rfl, hb9⟩
  have hB9 := hB8.trans (hb9.mono hB8.size)
  have hc9 := block_below hc8 hb9
  have q1 := block_cell (i := 1) hc9 rfl
  clear hc3 hc4 hc5 hc6 hc7 hc8 hc9
  go_wp2_with fail
  refine (float_tx (hG.below hB9)).mono ?_
  rintro e w10 ⟨rfl, hb10⟩
  have hB10 := hB9.trans (hb10.mono hB9.size)
  have ht : t1000 = ⟨#[49, 48, 48, 46, 48]⟩ := rfl
  go_wp2_with fail
  refine (whole_any 5 _).mono ?_
  rintro e w11 ⟨rfl, hb11⟩
  have hB11 := hB10.trans (hb11.mono hB10.size)
  go_wp2_with fail
  refine (five_tx (hG.below hB11)).mono ?_
  rintro e w12 ⟨rfl, hb12⟩
  have hB12 := hB11.trans (hb12.mono hB11.size)
  go_wp2_with fail
  go_ret
  exact ⟨rfl, hB12⟩
end Go.Proofs.YtbgjhgohffkonaaGreatDoor

