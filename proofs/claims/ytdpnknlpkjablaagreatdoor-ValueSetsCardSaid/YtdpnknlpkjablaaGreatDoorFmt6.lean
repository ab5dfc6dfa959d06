/- FormatFloat of 100.0. -/
import Derived.Test.YtdpnknlpkjablaaGreatDoorFmt5
import Derived.Laws.IdiomStrings
import Derived.Laws.MakeOwn
namespace Go.Proofs.YtdpnknlpkjablaaGreatDoor
open Go.RowKit Go.Sort Go.Shelf

def t100 : ByteArray := ⟨#[49, 48, 48]⟩
theorem own_t100 {w : World} {base : Nat} {v : Value} (h : w.ownsRow base 5 1 v 3 (Lib.byteCells [49, 48, 48])) :
    (convert 73 9 v).run Tryz.prog w = .ok (.string t100) w := by
  obtain ⟨a, cap, rfl⟩ := own_shape h
  obtain ⟨g, rfl, _, _, _⟩ := own_cell h rfl (j := 0) (x := .int .u8 49) rfl
  exact run_convert_bytes_back w 73 9 5 ⟨g, 0, none⟩ cap [49, 48, 48] Tryz.underlying73 Tryz.underlying5 Tryz.underlying9 fun j hj => by
    obtain ⟨g', he, _, _, hx⟩ := own_cell h rfl (j := j) (x := .int .u8 (([49, 48, 48] : List UInt8)[j].toNat : Int)) (by unfold Lib.byteCells; rw [List.getElem?_map, List.getElem?_eq_getElem hj]; rfl)
    cases he
    rw [show (⟨g, 0, none⟩ : Addr).add j = ⟨g, j, none⟩ by unfold Addr.add; split <;> simp_all]
    exact hx
set_option maxHeartbeats 2000000 in
set_option maxRecDepth 100000 in
theorem fmtInner_tx {w : World} (hG : PG w) : Calls Tryz.prog 67 #[.float .f64 4636737291354636288, .int .u8 102, .int .i64 (-1), .int .i64 64] w fun e w' => e = .returned (.string t100) ∧ Below w.heap.size w w' := by
  obtain ⟨i0, hi, hz0, hz1, hz2⟩ := info_parts infoB1
  obtain ⟨w1, hmk, hown1, hgr⟩ := run_make_own (P := Tryz.prog) w w.heap.size 73 5 i0 (.int .u8 0) 1 Tryz.underlying73 hi hz0 hz1 .i64 .i64 24 (by rw [hz2]; decide) (by decide) (Nat.le_refl _)
  have hmk' : (Instr.makeSlice 73 (.int .i64 0) (.int .i64 24)).run Tryz.prog w = .ok (.slice (some ⟨w.heap.size, 0, none⟩) 0 24) w1 := hmk
  have hm : max (3 : Int) 24 = 24 := by decide
  have hB1 : Below w.heap.size w w1 := Below.grown (Below.refl _ _) hgr (Nat.le_refl _) (fun _ e => by cases e)
  have HG1 := Lib.hid (hG.below hB1)
  have HOWN := Lib.hid hown1
  clear hmk hown1 hgr
  go_enter Tryz.func67, Tryz.ntmps67
  go_wp2_with fail
  refine (ftoa_tx (base := w.heap.size) HG1.out hB1.size HOWN.out).mono ?_
  rintro e w2 ⟨v, rfl, hown, hb⟩
  have hcv := own_t100 hown
  obtain ⟨va, vc, rfl⟩ := own_shape hown
  have hB : Below w.heap.size w w2 := hB1.trans hb
  go_wp2_with fail
  go_ret
  exact ⟨rfl, hB⟩
theorem fmt_tx {w : World} (hG : PG w) : Calls Tryz.prog 44 #[.float .f64 4636737291354636288, .int .u8 102, .int .i64 (-1), .int .i64 64] w fun e w' => e = .returned (.string t100) ∧ Below w.heap.size w w' := by
  go_enter Tryz.func44, Tryz.ntmps44
  go_wp2_with fail
  refine (fmtInner_tx hG).mono ?_
  rintro e w2 ⟨rfl, hb⟩
  go_wp2_with fail
  go_ret
  exact ⟨rfl, hb⟩
end Go.Proofs.YtdpnknlpkjablaaGreatDoor
