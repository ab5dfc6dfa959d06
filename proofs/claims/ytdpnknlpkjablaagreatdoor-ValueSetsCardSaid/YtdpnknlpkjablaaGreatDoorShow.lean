/- An int's text, and how it is shown. -/
import Derived.Test.YtdpnknlpkjablaaGreatDoorFmtV
import Derived.Test.YtdpnknlpkjablaaGreatDoorBuildS
import Derived.Lib.ItoaLen
import Derived.Lib.AppendIntMem
namespace Go.Proofs.YtdpnknlpkjablaaGreatDoor
open Go.RowKit Go.Shelf

theorem builder_below {T e : TypeId} {B b : Nat} {bs : List Value} {w w' : World} (h : Lib.IsBuilder T e B b bs w) (hb : Below w.heap.size w w') : Lib.IsBuilder T e B b bs w' := by
  rcases h with ⟨h1, v, h2, h3, h4⟩ | ⟨h1, v, h2, h3, h4⟩
  · exact Or.inl ⟨h1, v, block_below h2 hb, own_below h3 hb, h4⟩
  · exact Or.inr ⟨h1, v, block_below h2 hb, own_below h3 hb, h4⟩
def itoaB (n : Int) : ByteArray := ⟨(Lib.itoa n).toArray⟩
theorem itoaB_size {n : Int} (h : I64 n) : (itoaB n).size ≤ 21 := Lib.itoa_length_le n h.1 h.2
theorem itoa_any {w : World} (hG : PG w) (n : Int) (hn : I64 n) : Calls Tryz.prog 38 #[.int .i64 n, .int .i64 10] w fun e w' => e = .returned (.string (itoaB n)) ∧ Below w.heap.size w w' := by
  refine (Tryz.strconv_FormatInt_10 n hn.1 hn.2 w hG.tab).mono ?_
  rintro e w' ⟨rfl, k, os, rfl⟩
  exact ⟨rfl, Lib.below_grow _ _ (Nat.le_refl _) _ _⟩
set_option maxHeartbeats 1000000 in
set_option maxRecDepth 100000 in
theorem text_int {w : World} (hG : PG w) (n : Int) (hn : I64 n) : Calls Tryz.prog 21 #[(.agg #[.int .i64 2, .int .i64 (n), .float .f64 0, .string ⟨#[]⟩, .slice none 0 0, .slice none 0 0])] w fun e w' => e = .returned (.tuple #[.string (itoaB n), .int .i64 0]) ∧ Below w.heap.size w w' := by
  have hb0 : Below w.heap.size w (w.alloc (.cells #[.int .i64 2, .int .i64 n, .float .f64 0, .string ⟨#[]⟩, .slice none 0 0, .slice none 0 0] 27 (0, 0))) := (Below.refl _ w).alloc (Nat.le_refl _) _
  have hr0 := block_new w (.cells #[.int .i64 2, .int .i64 n, .float .f64 0, .string ⟨#[]⟩, .slice none 0 0, .slice none 0 0] 27 (0, 0)) rfl
  have HN := Lib.hid hn
  clear hn
  go_enter Tryz.func21, Tryz.ntmps21
  go_wp2_with fail
  refine (Right_int n _).mono ?_
  rintro e w1 ⟨rfl, hb1⟩
  have hr1 := block_below hr0 hb1
  have hB1 := hb0.trans (hb1.mono hb0.size)
  have q0 := block_cell (i := 0) hr1 rfl
  have q1 := block_cell (i := 1) hr1 rfl
  clear hr0 hb0 hr1 hb1
  go_wp2_with fail
  refine (itoa_any (hG.below hB1) n HN.out).mono ?_
  rintro e w2 ⟨rfl, hb2⟩
  go_wp2_with fail
  go_ret2
  exact ⟨rfl, hB1.trans (hb2.mono hB1.size)⟩
set_option maxHeartbeats 1000000 in
set_option maxRecDepth 100000 in
theorem show_int {w : World} {B b : Nat} (hG : PG w) (n : Int) (hn : I64 n) (h : Lib.IsBuilder 75 5 B b [] w) (hB : B ≤ w.heap.size) : Calls Tryz.prog 41 #[.pointer (some ⟨b, 0, none⟩), (.agg #[.int .i64 2, .int .i64 (n), .float .f64 0, .string ⟨#[]⟩, .slice none 0 0, .slice none 0 0])] w fun e w' =>
    e = .returned (.tuple #[]) ∧ Lib.IsBuilder 75 5 B b (Lib.byteCells (Lib.itoa n)) w' ∧ Below B w w' := by
  have hb0 : Below w.heap.size w (w.alloc (.cells #[.int .i64 2, .int .i64 n, .float .f64 0, .string ⟨#[]⟩, .slice none 0 0, .slice none 0 0] 27 (0, 0))) := (Below.refl _ w).alloc (Nat.le_refl _) _
  have HN := Lib.hid hn
  have HBLD := Lib.hid h
  clear hn h
  go_enter Tryz.func41, Tryz.ntmps41
  go_wp2_with fail
  refine (text_int (hG.below hb0) n HN.out).mono ?_
  rintro e w1 ⟨rfl, hb1⟩
  have hB1 := hb0.trans (hb1.mono hb0.size)
  have hbld : Lib.IsBuilder 75 5 B b [] w1 := builder_below HBLD.out hB1
  have hsz := itoaB_size HN.out
  go_wp2_with fail
  refine (writeString_any B b [] (itoaB n) _ hbld (by simp; omega) (Nat.le_trans hB hB1.size)).mono ?_
  rintro e w2 ⟨rfl, hbld2, hb2⟩
  go_wp2_with fail
  refine bodyPost_end (results_none rfl _ _ _) rfl ?_
  exact ⟨rfl, Or.inr hbld2, (hB1.mono hB).trans hb2⟩
set_option maxHeartbeats 1000000 in
set_option maxRecDepth 100000 in
theorem Show_int {w : World} (hG : PG w) (n : Int) (hn : I64 n) : Calls Tryz.prog 23 #[(.agg #[.int .i64 2, .int .i64 (n), .float .f64 0, .string ⟨#[]⟩, .slice none 0 0, .slice none 0 0])] w fun e w' => e = .returned (.string (itoaB n)) ∧ Below w.heap.size w w' := by
  have hb0 : Below w.heap.size w (w.alloc (.cells #[.int .i64 2, .int .i64 n, .float .f64 0, .string ⟨#[]⟩, .slice none 0 0, .slice none 0 0] 27 (0, 0))) := (Below.refl _ w).alloc (Nat.le_refl _) _
  have hr0 := block_new w (.cells #[.int .i64 2, .int .i64 n, .float .f64 0, .string ⟨#[]⟩, .slice none 0 0, .slice none 0 0] 27 (0, 0)) rfl
  have HN := Lib.hid hn
  clear hn
  go_enter Tryz.func23, Tryz.ntmps23
  go_wp2_with fail
  refine (Right_int n _).mono ?_
  rintro e w1 ⟨rfl, hb1⟩
  have hr1 := block_alloc (block_below hr0 hb1) (.cells #[.pointer none, .slice none 0 0] 75 (0, 0))
  have hB1 := hb0.trans (hb1.mono hb0.size)
  have hbld := Lib.fresh_isBuilder 75 5 w1
  have hB2 : Below w.heap.size w (w1.alloc (.cells #[.pointer none, .slice none 0 0] 75 (0, 0))) := hB1.alloc hB1.size _
  have q0 := block_cell (i := 0) hr1 rfl
  have q1 := block_cell (i := 1) hr1 rfl
  have q2 := block_cell (i := 2) hr1 rfl
  have q3 := block_cell (i := 3) hr1 rfl
  have q4 := block_cell (i := 4) hr1 rfl
  have q5 := block_cell (i := 5) hr1 rfl
  clear hr0 hb0 hr1 hb1
  go_wp2_with fail
  refine (show_int (hG.below hB2) n HN.out hbld (by simp)).mono ?_
  rintro e w2 ⟨rfl, hbld2, hb2⟩
  go_wp2_with fail
  refine (Tryz.Builder_String_any w1.heap.size w1.heap.size (Lib.itoa n) w2 hbld2 (by have := hb2.size; simp at this; omega)).mono ?_
  rintro e w3 ⟨rfl, hb3⟩
  go_wp2_with fail
  go_ret
  exact ⟨rfl, hB1.trans ((((Below.refl w1.heap.size w1).alloc (Nat.le_refl _) _).trans (hb2.trans hb3)).mono hB1.size)⟩
end Go.Proofs.YtdpnknlpkjablaaGreatDoor
