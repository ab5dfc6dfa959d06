/- 100.0 as it is written. -/
import Derived.Test.YtbgjhgohffkonaaGreatDoorM24
import Derived.Deep.RegionWith
import Derived.Laws.IdiomStrings
import Derived.Laws.MakeOwn
import Derived.Test.YtbgjhgohffkonaaGreatDoorM03
import Derived.Lib.ItoaLen
import Derived.Lib.AppendIntMem
namespace Go.Proofs.YtbgjhgohffkonaaGreatDoor
open Go.RowKit Go.Sort

theorem run_sbits64 (b : Nat) (w : World) : (callFunc 81 #[.float .f64 b]).run Tryz.prog w = .ok (.value (.int .u64 b)) w := by
  rw [run_callFunc_extern Tryz.func81 (by kernel_rfl) (by kernel_rfl) (by kernel_rfl) (e := Extern.MathFloatBits.float64bits) (by kernel_rfl)]
  rfl
attribute [local go_sem] run_sbits64
set_option maxHeartbeats 2000000 in
set_option maxRecDepth 100000 in
theorem ftoa_tx {w : World} {base g0 : Nat} (hG : PG w) (hbase : base ≤ w.heap.size) (own0 : w.ownsRow base 5 1 (.slice (some ⟨g0, 0, none⟩) 0 24) 0 (Lib.byteCells [])) :
    Calls Tryz.prog 60 #[.slice (some ⟨g0, 0, none⟩) 0 24, .float .f64 4636737291354636288, .int .u8 102, .int .i64 (-1)] w fun e w' =>
      ∃ v, e = .returned v ∧ w'.ownsRow base 5 1 v 3 (Lib.byteCells [49, 48, 48]) ∧ Below base w w' := by
  have s1 : ∀ W, Sem.run Tryz.prog (Op.shift .shr .u64 4636737291354636288 .i64 63) W = .ok (.int .u64 0) W := fun W => by kernel_rfl
  have s2 : ∀ W, Sem.run Tryz.prog (Op.shift .shr .u64 4636737291354636288 .i64 52) W = .ok (.int .u64 1029) W := fun W => by kernel_rfl
  have s3 : ∀ W, Sem.run Tryz.prog (Op.shift .shl .i64 1 .i64 11) W = .ok (.int .i64 2048) W := fun W => by kernel_rfl
  have s4 : bits .and .i64 1029 2047 = 1029 := by kernel_rfl
  have s5 : ∀ W, Sem.run Tryz.prog (Op.shift .shl .u64 1 .i64 52) W = .ok (.int .u64 4503599627370496) W := fun W => by kernel_rfl
  have s6 : bits .and .u64 4636737291354636288 4503599627370495 = 2533274790395904 := by kernel_rfl
  have s7 : bits .or .u64 2533274790395904 4503599627370496 = 7036874417766400 := by kernel_rfl
  have s8 : ∀ W, Sem.run Tryz.prog (Op.shift .shl .u64 7036874417766400 .i64 11) W = .ok (.int .u64 14411518807585587200) W := fun W => by kernel_rfl
  have HL := Lib.hid (fun W => (Tryz.bits_Len64 7036874417766400 W (by decide) (by decide)).mono (R' := fun e w' => e = .returned (.int .i64 53) ∧ W = w') fun e w' h => ⟨h.1.trans (by kernel_rfl), h.2.symm⟩)
  go_enter Tryz.func60, Tryz.ntmps60
  go_wp2_with fail
  go_quiet (fail)
  go_wp2_with fail
  refine (HL.out _).mono ?_
  rintro e w1 ⟨rfl, rfl⟩
  go_wp2_with fail
  refine (short_tx (hG.below ((below_drewN (Below.refl _ _) nq).alloc (by simp) _))).mono ?_
  rintro e w2 ⟨rfl, hb2⟩
  have hbuf := block_below (g := (w.drewN nq).heap.size) (block_new (w.drewN nq) _ rfl) hb2
  have hB2 : Below w.heap.size w w2 := Below.trans ((below_drewN (Below.refl w.heap.size w) nq).alloc (by simp) _) (hb2.mono (by simp))
  have hH : Holds (fun (b : UInt8) => Value.int .u8 (b.toNat : Int)) w2 w.heap.size 0 z16 := by
    intro j hj
    have hj' : j < 16 := hj
    refine ⟨?_, block_free hbuf⟩
    rw [Nat.zero_add]
    refine block_cell hbuf ?_
    clear hj hb2 hB2 hbuf
    rcases j with _ | _ | _ | _ | _ | _ | _ | _ | _ | _ | _ | _ | _ | _ | _ | _ | j <;> first | rfl | (exfalso; omega)
  have HN := Lib.hid (fun W (h : PG W) => (Tryz.internal_strconv_numDigits 1000000000000000 (by decide) (by decide) W h.tab).mono (R' := fun e w' => e = .returned (.int .i64 16) ∧ W = w') fun e w' h => ⟨h.1.trans (by kernel_rfl), h.2.symm⟩)
  clear hbuf hb2
  go_wp2_with fail
  go_region_with (first
    | (go_at_call 71
       refine (HN.out _ (hG.below (below_drewN hB2 1))).mono ?_
       rintro e w3 ⟨rfl, rfl⟩)
    | (go_at_call 87
       refine (digits_tx (w := w2.drew) hH).mono ?_
       rintro e w3 ⟨rfl, q0, hb3⟩))
  all_goals
    have hB3 := (below_drewN hB2 1).trans hb3
    go_wp2_with fail
    refine (efg_tx (Nat.le_trans hbase hB3.size) (own_below own0 hB3) q0).mono ?_
    rintro e w4 ⟨v, rfl, own4, hb4⟩
    go_wp2_with fail
    go_ret
    exact ⟨_, rfl, own4, (hB3.mono hbase).trans hb4⟩
end Go.Proofs.YtbgjhgohffkonaaGreatDoor

/- FormatFloat of 100.0. -/
namespace Go.Proofs.YtbgjhgohffkonaaGreatDoor
open Go.RowKit Go.Sort Go.Shelf

def t100 : ByteArray := ⟨#[49, 48, 48]⟩
theorem own_t100 {w : World} {base : Nat} {v : Value} (h : w.ownsRow base 5 1 v 3 (Lib.byteCells [49, 48, 48])) :
    (convert 67 9 v).run Tryz.prog w = .ok (.string t100) w := by
  obtain ⟨a, cap, rfl⟩ := own_shape h
  obtain ⟨g, rfl, _, _, _⟩ := own_cell h rfl (j := 0) (x := .int .u8 49) rfl
  exact run_convert_bytes_back w 67 9 5 ⟨g, 0, none⟩ cap [49, 48, 48] Tryz.underlying67 Tryz.underlying5 Tryz.underlying9 fun j hj => by
    obtain ⟨g', he, _, _, hx⟩ := own_cell h rfl (j := j) (x := .int .u8 (([49, 48, 48] : List UInt8)[j].toNat : Int)) (by unfold Lib.byteCells; rw [List.getElem?_map, List.getElem?_eq_getElem hj]; rfl)
    cases he
    rw [show (⟨g, 0, none⟩ : Addr).add j = ⟨g, j, none⟩ by unfold Addr.add; split <;> simp_all]
    exact hx
set_option maxHeartbeats 2000000 in
set_option maxRecDepth 100000 in
theorem fmtInner_tx {w : World} (hG : PG w) : Calls Tryz.prog 36 #[.float .f64 4636737291354636288, .int .u8 102, .int .i64 (-1), .int .i64 64] w fun e w' => e = .returned (.string t100) ∧ Below w.heap.size w w' := by
  obtain ⟨i0, hi, hz0, hz1, hz2⟩ := info_parts infoB1
  obtain ⟨w1, hmk, hown1, hgr⟩ := run_make_own (P := Tryz.prog) w w.heap.size 67 5 i0 (.int .u8 0) 1 Tryz.underlying67 hi hz0 hz1 .i64 .i64 24 (by rw [hz2]; decide) (by decide) (Nat.le_refl _)
  have hmk' : (Instr.makeSlice 67 (.int .i64 0) (.int .i64 24)).run Tryz.prog w = .ok (.slice (some ⟨w.heap.size, 0, none⟩) 0 24) w1 := hmk
  have hm : max (3 : Int) 24 = 24 := by decide
  have hB1 : Below w.heap.size w w1 := Below.grown (Below.refl _ _) hgr (Nat.le_refl _) (fun _ e => by cases e)
  have HG1 := Lib.hid (hG.below hB1)
  have HOWN := Lib.hid hown1
  clear hmk hown1 hgr
  go_enter Tryz.func36, Tryz.ntmps36
  go_wp2_with fail
  refine (ftoa_tx (base := w.heap.size) HG1.out hB1.size HOWN.out).mono ?_
  rintro e w2 ⟨v, rfl, hown, hb⟩
  have hcv := own_t100 hown
  obtain ⟨va, vc, rfl⟩ := own_shape hown
  have hB : Below w.heap.size w w2 := hB1.trans hb
  go_wp2_with fail
  go_ret
  exact ⟨rfl, hB⟩
theorem fmt_tx {w : World} (hG : PG w) : Calls Tryz.prog 17 #[.float .f64 4636737291354636288, .int .u8 102, .int .i64 (-1), .int .i64 64] w fun e w' => e = .returned (.string t100) ∧ Below w.heap.size w w' := by
  go_enter Tryz.func17, Tryz.ntmps17
  go_wp2_with fail
  refine (fmtInner_tx hG).mono ?_
  rintro e w2 ⟨rfl, hb⟩
  go_wp2_with fail
  go_ret
  exact ⟨rfl, hb⟩
end Go.Proofs.YtbgjhgohffkonaaGreatDoor

/- The text of 100.0. -/
namespace Go.Proofs.YtbgjhgohffkonaaGreatDoor
open Go.RowKit Go.Sort Go.Shelf

attribute [local go_sem] run_bits64 run_frombits64
def t1000 : ByteArray := ⟨#[49, 48, 48, 46, 48]⟩
theorem dot_tx (w : World) : Calls Tryz.prog 21 #[.string t100, .string ⟨#[46]⟩] w fun e w' => e = .returned (.bool false) ∧ w = w' :=
  (Tryz.strings_Contains_one t100 46 w).mono fun e w' h => ⟨h.1.trans (by kernel_rfl), h.2.symm⟩
set_option maxHeartbeats 2000000 in
set_option maxRecDepth 100000 in
theorem nan_tx (w : World) : Calls Tryz.prog 15 #[.float .f64 4636737291354636288] w fun e w' => e = .returned (.bool false) ∧ w = w' := by
  have o1 : FloatKind.f64.format.order 4636737291354636288 4636737291354636288 = some .eq := by kernel_rfl
  go_enter Tryz.func15, Tryz.ntmps15
  go_wp2_with fail
  go_ret
  exact ⟨rfl, rfl⟩
theorem infUp_tx (w : World) : Calls Tryz.prog 16 #[.float .f64 4636737291354636288, .int .i64 1] w fun e w' => e = .returned (.bool false) ∧ w = w' := by
  have o1 : FloatKind.f64.format.order 4636737291354636288 9218868437227405311 = some .lt := by kernel_rfl
  go_enter Tryz.func16, Tryz.ntmps16
  go_wp2_with fail
  go_ret
  exact ⟨rfl, rfl⟩
theorem infDown_tx (w : World) : Calls Tryz.prog 16 #[.float .f64 4636737291354636288, .int .i64 (-1)] w fun e w' => e = .returned (.bool false) ∧ w = w' := by
  have n1 : ∀ W, Sem.run Tryz.prog (Op.unary .neg (.float .f64 4636737291354636288)) W = .ok (.float .f64 13860109328209412096) W := fun W => by kernel_rfl
  have n2 : Op.negFloat .f64 4636737291354636288 = 13860109328209412096 := by kernel_rfl
  have o1 : FloatKind.f64.format.order 13860109328209412096 9218868437227405311 = some .lt := by kernel_rfl
  go_enter Tryz.func16, Tryz.ntmps16
  go_wp2_with fail
  go_ret
  exact ⟨rfl, rfl⟩
theorem abs_tx (w : World) : Calls Tryz.prog 18 #[.float .f64 4636737291354636288] w fun e w' => e = .returned (.float .f64 4636737291354636288) ∧ w = w' :=
  (abs_any 4636737291354636288 w).mono fun e w' h => ⟨h.1.trans (by kernel_rfl), h.2⟩
theorem notNan_tx (x : Nat) (h : FloatKind.f64.format.order x x = some .eq) (w : World) : Calls Tryz.prog 37 #[.float .f64 x] w fun e w' => e = .returned (.bool false) ∧ w = w' := by
  go_enter Tryz.func37, Tryz.ntmps37
  go_wp2_with fail
  go_ret
  exact ⟨rfl, rfl⟩
theorem cmp_tx (w : World) : Calls Tryz.prog 19 #[.float .f64 4636737291354636288, .float .f64 4921056587992461136] w fun e w' => e = .returned (.int .i64 (-1)) ∧ w = w' := by
  have o1 : FloatKind.f64.format.order 4636737291354636288 4921056587992461136 = some .lt := by kernel_rfl
  go_enter Tryz.func19, Tryz.ntmps19
  go_wp2_with fail
  refine (notNan_tx 4636737291354636288 (by kernel_rfl) _).mono ?_
  rintro e w2 ⟨rfl, rfl⟩
  go_wp2_with fail
  refine (notNan_tx 4921056587992461136 (by kernel_rfl) _).mono ?_
  rintro e w2 ⟨rfl, rfl⟩
  go_wp2_with fail
  go_ret
  exact ⟨rfl, rfl⟩
set_option maxHeartbeats 2000000 in
set_option maxRecDepth 100000 in
theorem float_tx {w : World} (hG : PG w) : Calls Tryz.prog 6 #[.float .f64 4636737291354636288] w fun e w' => e = .returned (.string t1000) ∧ Below w.heap.size w w' := by
  have o1 : FloatKind.f64.format.order 4636737291354636288 0 = some .gt := by kernel_rfl
  have o2 : FloatKind.f64.format.order 4636737291354636288 4517329193108106637 = some .gt := by kernel_rfl
  have ht : t100.size = 3 := rfl
  have a1 : t100 ++ ⟨#[46, 48]⟩ = t1000 := by decide
  have a2 : t1000 ++ ⟨#[]⟩ = t1000 := by decide
  have ht2 : t1000.size = 5 := rfl
  go_enter Tryz.func6, Tryz.ntmps6
  go_wp2_with fail
  refine (nan_tx _).mono ?_
  rintro e w2 ⟨rfl, rfl⟩
  go_wp2_with fail
  refine (infUp_tx _).mono ?_
  rintro e w2 ⟨rfl, rfl⟩
  go_wp2_with fail
  refine (infDown_tx _).mono ?_
  rintro e w2 ⟨rfl, rfl⟩
  go_wp2_with fail
  refine (fmt_tx hG).mono ?_
  rintro e w2 ⟨rfl, hb⟩
  go_wp2_with fail
  refine (abs_tx _).mono ?_
  rintro e w3 ⟨rfl, rfl⟩
  go_wp2_with fail
  refine (cmp_tx _).mono ?_
  rintro e w3 ⟨rfl, rfl⟩
  go_wp2_with fail
  refine (dot_tx _).mono ?_
  rintro e w3 ⟨rfl, rfl⟩
  go_wp2_with fail
  go_ret
  exact ⟨rfl, hb⟩
end Go.Proofs.YtbgjhgohffkonaaGreatDoor

/- An int's text, and how it is shown. -/
namespace Go.Proofs.YtbgjhgohffkonaaGreatDoor
open Go.RowKit Go.Shelf

theorem builder_below {T e : TypeId} {B b : Nat} {bs : List Value} {w w' : World} (h : Lib.IsBuilder T e B b bs w) (hb : Below w.heap.size w w') : Lib.IsBuilder T e B b bs w' := by
  rcases h with ⟨h1, v, h2, h3, h4⟩ | ⟨h1, v, h2, h3, h4⟩
  · exact Or.inl ⟨h1, v, block_below h2 hb, own_below h3 hb, h4⟩
  · exact Or.inr ⟨h1, v, block_below h2 hb, own_below h3 hb, h4⟩
def itoaB (n : Int) : ByteArray := ⟨(Lib.itoa n).toArray⟩
theorem itoaB_size {n : Int} (h : I64 n) : (itoaB n).size ≤ 21 := Lib.itoa_length_le n h.1 h.2
theorem itoa_any {w : World} (hG : PG w) (n : Int) (hn : I64 n) : Calls Tryz.prog 26 #[.int .i64 n, .int .i64 10] w fun e w' => e = .returned (.string (itoaB n)) ∧ Below w.heap.size w w' := by
  refine (Tryz.strconv_FormatInt_10 n hn.1 hn.2 w hG.tab).mono ?_
  rintro e w' ⟨rfl, k, os, rfl⟩
  exact ⟨rfl, Lib.below_grow _ _ (Nat.le_refl _) _ _⟩
set_option maxHeartbeats 1000000 in
set_option maxRecDepth 100000 in
theorem text_int {w : World} (hG : PG w) (n : Int) (hn : I64 n) : Calls Tryz.prog 8 #[(.agg #[.int .i64 2, .int .i64 (n), .float .f64 0, .string ⟨#[]⟩, .slice none 0 0, .slice none 0 0])] w fun e w' => e = .returned (.tuple #[.string (itoaB n), .int .i64 0]) ∧ Below w.heap.size w w' := by
  have hb0 : Below w.heap.size w (w.alloc (.cells #[.int .i64 2, .int .i64 n, .float .f64 0, .string ⟨#[]⟩, .slice none 0 0, .slice none 0 0] 37 (0, 0))) := (Below.refl _ w).alloc (Nat.le_refl _) _
  have hr0 := block_new w (.cells #[.int .i64 2, .int .i64 n, .float .f64 0, .string ⟨#[]⟩, .slice none 0 0, .slice none 0 0] 37 (0, 0)) rfl
  have HN := Lib.hid hn
  clear hn
  go_enter Tryz.func8, Tryz.ntmps8
  go_wp2_with fail
  refine (Right_int n _).mono ?_
  rintro e w1 ⟨rfl, hb1⟩
  have hr1 := block_below hr0 hb1
  have hB1 := hb0.trans (hb1.mono hb0.size)
  have q0 := block_cell (i := 0) hr1 rfl
  have q1 := block_cell (i := 1) hr1 rfl
  clear hr0 hb0 hr1 hb1
  go_wp2_with fail
  refine (itoa_any (hG.below hB1) n HN.out).mono ?_
  rintro e w2 ⟨rfl, hb2⟩
  go_wp2_with fail
  go_ret2
  exact ⟨rfl, hB1.trans (hb2.mono hB1.size)⟩
set_option maxHeartbeats 1000000 in
set_option maxRecDepth 100000 in
theorem show_int {w : World} {B b : Nat} (hG : PG w) (n : Int) (hn : I64 n) (h : Lib.IsBuilder 69 5 B b [] w) (hB : B ≤ w.heap.size) : Calls Tryz.prog 34 #[.pointer (some ⟨b, 0, none⟩), (.agg #[.int .i64 2, .int .i64 (n), .float .f64 0, .string ⟨#[]⟩, .slice none 0 0, .slice none 0 0])] w fun e w' =>
    e = .returned (.tuple #[]) ∧ Lib.IsBuilder 69 5 B b (Lib.byteCells (Lib.itoa n)) w' ∧ Below B w w' := by
  have hb0 : Below w.heap.size w (w.alloc (.cells #[.int .i64 2, .int .i64 n, .float .f64 0, .string ⟨#[]⟩, .slice none 0 0, .slice none 0 0] 37 (0, 0))) := (Below.refl _ w).alloc (Nat.le_refl _) _
  have HN := Lib.hid hn
  have HBLD := Lib.hid h
  clear hn h
  go_enter Tryz.func34, Tryz.ntmps34
  go_wp2_with fail
  refine (text_int (hG.below hb0) n HN.out).mono ?_
  rintro e w1 ⟨rfl, hb1⟩
  have hB1 := hb0.trans (hb1.mono hb0.size)
  have hbld : Lib.IsBuilder 69 5 B b [] w1 := builder_below HBLD.out hB1
  have hsz := itoaB_size HN.out
  go_wp2_with fail
  refine (writeString_any B b [] (itoaB n) _ hbld (by simp; omega) (Nat.le_trans hB hB1.size)).mono ?_
  rintro e w2 ⟨rfl, hbld2, hb2⟩
  go_wp2_with fail
  refine bodyPost_end (results_none rfl _ _ _) rfl ?_
  exact ⟨rfl, Or.inr hbld2, (hB1.mono hB).trans hb2⟩
set_option maxHeartbeats 1000000 in
set_option maxRecDepth 100000 in
theorem Show_int {w : World} (hG : PG w) (n : Int) (hn : I64 n) : Calls Tryz.prog 14 #[(.agg #[.int .i64 2, .int .i64 (n), .float .f64 0, .string ⟨#[]⟩, .slice none 0 0, .slice none 0 0])] w fun e w' => e = .returned (.string (itoaB n)) ∧ Below w.heap.size w w' := by
  have hb0 : Below w.heap.size w (w.alloc (.cells #[.int .i64 2, .int .i64 n, .float .f64 0, .string ⟨#[]⟩, .slice none 0 0, .slice none 0 0] 37 (0, 0))) := (Below.refl _ w).alloc (Nat.le_refl _) _
  have hr0 := block_new w (.cells #[.int .i64 2, .int .i64 n, .float .f64 0, .string ⟨#[]⟩, .slice none 0 0, .slice none 0 0] 37 (0, 0)) rfl
  have HN := Lib.hid hn
  clear hn
  go_enter Tryz.func14, Tryz.ntmps14
  go_wp2_with fail
  refine (Right_int n _).mono ?_
  rintro e w1 ⟨rfl, hb1⟩
  have hr1 := block_alloc (block_below hr0 hb1) (.cells #[.pointer none, .slice none 0 0] 69 (0, 0))
  have hB1 := hb0.trans (hb1.mono hb0.size)
  have hbld := Lib.fresh_isBuilder 69 5 w1
  have hB2 : Below w.heap.size w (w1.alloc (.cells #[.pointer none, .slice none 0 0] 69 (0, 0))) := hB1.alloc hB1.size _
  have q0 := block_cell (i := 0) hr1 rfl
  have q1 := block_cell (i := 1) hr1 rfl
  have q2 := block_cell (i := 2) hr1 rfl
  have q3 := block_cell (i := 3) hr1 rfl
  have q4 := block_cell (i := 4) hr1 rfl
  have q5 := block_cell (i := 5) hr1 rfl
  clear hr0 hb0 hr1 hb1
  go_wp2_with fail
  refine (show_int (hG.below hB2) n HN.out hbld (by simp)).mono ?_
  rintro e w2 ⟨rfl, hbld2, hb2⟩
  go_wp2_with fail
  refine (Tryz.Builder_String_any w1.heap.size w1.heap.size (Lib.itoa n) w2 hbld2 (by have := hb2.size; simp at this; omega)).mono ?_
  rintro e w3 ⟨rfl, hb3⟩
  go_wp2_with fail
  go_ret
  exact ⟨rfl, hB1.trans ((((Below.refl w1.heap.size w1).alloc (Nat.le_refl _) _).trans (hb2.trans hb3)).mono hB1.size)⟩
end Go.Proofs.YtbgjhgohffkonaaGreatDoor

