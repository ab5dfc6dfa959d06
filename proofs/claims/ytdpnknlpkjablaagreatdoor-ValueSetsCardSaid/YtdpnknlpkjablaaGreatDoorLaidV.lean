/- What the rows' premise on the package-level variables gives. -/
import Derived.Test.YtdpnknlpkjablaaGreatDoorFmt2
import Derived.Test.YtdpnknlpkjablaaGreatDoorRows
import Derived.LaidLaws
import Derived.LaidMore
import Derived.ProofKit
import Derived.Lib.LaidTab
namespace Go.Proofs.YtdpnknlpkjablaaGreatDoor
open Go.ChangeShapes Go.WideShapes Go.ChangeAt Go.RowKit

theorem row362 : (Go.Pinned.pow10Rows.map fun x => (DataW.agg [.lit (.int .u64 x.1), .lit (.int .u64 x.2)] : DataW Unit))[362]? = some (.agg [.lit (.int .u64 13107200000000000000), .lit (.int .u64 0)]) := by kernel_rfl
theorem pg_types : Tryz.prog.cellsOf 221 = 2 ∧ Tryz.prog.cellsOf 44 = 1 ∧ Tryz.prog.cellsOf 139 = 20 := ⟨by kernel_rfl, by kernel_rfl, by kernel_rfl⟩
section
variable {H : Type} {enc : TypeId × Value → H} {w : World} {sp : Nat → Bool}
theorem get_one {l : List Value} {i : Nat} {v : Value} (h : (l.drop i).take 1 = [v]) : l[i]? = some v := by
  have := congrArg (·[0]?) h
  simpa [List.getElem?_take, List.getElem?_drop] using this
set_option maxRecDepth 100000 in
theorem pow_cells {fuel : Nat} {cs : List Value} {p : List MemPlace} (h : DataW.trod enc Tryz.prog w 0 sp false fuel 222 cs = some (.agg (Go.Pinned.pow10Rows.map fun x => (.agg [.lit (.int .u64 x.1), .lit (.int .u64 x.2)])), p)) :
    cs[724]? = some (.int .u64 13107200000000000000) ∧ cs[725]? = some (.int .u64 0) := by
  obtain ⟨xs, m, _, hx, _, hxl, hel⟩ := DataW.trod_array Tryz.underlying222 h
  have h1 := congrArg Prod.fst hx
  simp only [DataW.agg.injEq] at h1
  have h2 : (xs.map (·.1))[362]? = some (.agg [.lit (.int .u64 13107200000000000000), .lit (.int .u64 0)]) := by
    rw [← h1]
    kernel_rfl
  rw [List.getElem?_map] at h2
  have h3 := hel 362 (by decide)
  cases hy : xs[362]? with
  | none => rw [hy] at h2; cases h2
  | some y =>
    obtain ⟨y1, y2⟩ := y
    rw [hy] at h2 h3
    have hy1 : y1 = .agg [.lit (.int .u64 13107200000000000000), .lit (.int .u64 0)] := Option.some.inj h2
    subst hy1
    rw [pg_types.1] at h3
    obtain ⟨zs, n, _, hz, _, hzl, hf⟩ := DataW.trod_struct Tryz.underlying221 h3
    match zs, hzl with
    | [z0, z1], _ =>
      obtain ⟨z0a, z0p⟩ := z0
      obtain ⟨z1a, z1p⟩ := z1
      have h4 := congrArg Prod.fst hz
      simp at h4
      obtain ⟨rfl, rfl⟩ := h4
      have f0 := hf 0 _ rfl
      have f1 := hf 1 _ rfl
      obtain ⟨v0, e0, k0, _⟩ := DataW.trod_int Tryz.underlying44 f0
      obtain ⟨v1, e1, k1, _⟩ := DataW.trod_int Tryz.underlying44 f1
      have k0' := congrArg Prod.fst k0
      have k1' := congrArg Prod.fst k1
      simp at k0' k1'
      subst k0'
      subst k1'
      constructor
      · have e0' : (((cs.drop 724).take 2).drop 0).take (Tryz.prog.cellsOf 44) = [.int .u64 13107200000000000000] := e0
        rw [pg_types.2.1] at e0'
        have := get_one e0'
        simpa [List.getElem?_take, List.getElem?_drop] using this
      · have e1' : (((cs.drop 724).take 2).drop 1).take (Tryz.prog.cellsOf 44) = [.int .u64 0] := e1
        rw [pg_types.2.1] at e1'
        have := get_one e1'
        simpa [List.getElem?_take, List.getElem?_drop] using this
end
set_option maxRecDepth 100000 in
theorem PG.of_Ints {w : World} (h : laidMetH Tryz.prog Rows.valueIntsRow.laid w) : PG w := by
  have h2 : laidMet Tryz.prog Rows.valueIntsRow.laid w := h
  obtain ⟨ps, hv, _, _⟩ := h2
  obtain ⟨g0, t0, cs0, fu0, p0, q0, a0, b0, c0, d0, hv, _⟩ := hv
  obtain ⟨g1, t1, cs1, fu1, p1, q1, a1, b1, c1, d1, hv, _⟩ := hv
  obtain ⟨g2, t2, cs2, fu2, p2, q2, a2, b2, c2, d2, hv, _⟩ := hv
  obtain ⟨g3, t3, cs3, fu3, p3, q3, a3, b3, c3, d3, hv, _⟩ := hv
  obtain ⟨g4, t4, cs4, fu4, p4, q4, a4, b4, c4, d4, hv, _⟩ := hv
  obtain ⟨g5, t5, cs5, fu5, p5, q5, a5, b5, c5, d5, hv, _⟩ := hv
  clear hv
  obtain rfl : g3 = 3 := (Option.some.inj ((show Tryz.prog.globalNamed "internal/strconv.uint64pow10" = some 3 by kernel_rfl).symm.trans a3)).symm
  obtain rfl : t3 = 139 := (Option.some.inj ((show (Tryz.prog.globals[(3 : Nat)]?).map (·.type) = some 139 by kernel_rfl).symm.trans b3)).symm
  obtain rfl : g5 = 8 := (Option.some.inj ((show Tryz.prog.globalNamed "internal/strconv.pow10Tab" = some 8 by kernel_rfl).symm.trans a5)).symm
  obtain rfl : t5 = 222 := (Option.some.inj ((show (Tryz.prog.globals[(8 : Nat)]?).map (·.type) = some 222 by kernel_rfl).symm.trans b5)).symm
  obtain ⟨e0, e1⟩ := pow_cells d5
  refine ⟨?_, ?_, ?_⟩
  · rw [World.var?_cell a5 c5 724, ← Array.getElem?_toList]; exact e0
  · rw [World.var?_cell a5 c5 725, ← Array.getElem?_toList]; exact e1
  · have hc := Lib.cells_of_tab (zs := Lib.pow10Tab) Tryz.underlying139 Tryz.underlying44 pg_types.2.1 pg_types.2.2 d3
    unfold Lib.TabIs
    rw [c3, ← hc]
set_option maxRecDepth 100000 in
theorem PG.of_Orders {w : World} (h : laidMetH Tryz.prog Rows.valueOrdersRow.laid w) : PG w := by
  have h2 : laidMet Tryz.prog Rows.valueOrdersRow.laid w := h
  obtain ⟨ps, hv, _, _⟩ := h2
  obtain ⟨g0, t0, cs0, fu0, p0, q0, a0, b0, c0, d0, hv, _⟩ := hv
  obtain ⟨g1, t1, cs1, fu1, p1, q1, a1, b1, c1, d1, hv, _⟩ := hv
  obtain ⟨g2, t2, cs2, fu2, p2, q2, a2, b2, c2, d2, hv, _⟩ := hv
  obtain ⟨g3, t3, cs3, fu3, p3, q3, a3, b3, c3, d3, hv, _⟩ := hv
  obtain ⟨g4, t4, cs4, fu4, p4, q4, a4, b4, c4, d4, hv, _⟩ := hv
  obtain ⟨g5, t5, cs5, fu5, p5, q5, a5, b5, c5, d5, hv, _⟩ := hv
  clear hv
  obtain rfl : g3 = 3 := (Option.some.inj ((show Tryz.prog.globalNamed "internal/strconv.uint64pow10" = some 3 by kernel_rfl).symm.trans a3)).symm
  obtain rfl : t3 = 139 := (Option.some.inj ((show (Tryz.prog.globals[(3 : Nat)]?).map (·.type) = some 139 by kernel_rfl).symm.trans b3)).symm
  obtain rfl : g5 = 8 := (Option.some.inj ((show Tryz.prog.globalNamed "internal/strconv.pow10Tab" = some 8 by kernel_rfl).symm.trans a5)).symm
  obtain rfl : t5 = 222 := (Option.some.inj ((show (Tryz.prog.globals[(8 : Nat)]?).map (·.type) = some 222 by kernel_rfl).symm.trans b5)).symm
  obtain ⟨e0, e1⟩ := pow_cells d5
  refine ⟨?_, ?_, ?_⟩
  · rw [World.var?_cell a5 c5 724, ← Array.getElem?_toList]; exact e0
  · rw [World.var?_cell a5 c5 725, ← Array.getElem?_toList]; exact e1
  · have hc := Lib.cells_of_tab (zs := Lib.pow10Tab) Tryz.underlying139 Tryz.underlying44 pg_types.2.1 pg_types.2.2 d3
    unfold Lib.TabIs
    rw [c3, ← hc]
set_option maxRecDepth 100000 in
theorem PG.of_Strings {w : World} (h : laidMetH Tryz.prog Rows.valueStringsRow.laid w) : PG w := by
  have h2 : laidMet Tryz.prog Rows.valueStringsRow.laid w := h
  obtain ⟨ps, hv, _, _⟩ := h2
  obtain ⟨g0, t0, cs0, fu0, p0, q0, a0, b0, c0, d0, hv, _⟩ := hv
  obtain ⟨g1, t1, cs1, fu1, p1, q1, a1, b1, c1, d1, hv, _⟩ := hv
  obtain ⟨g2, t2, cs2, fu2, p2, q2, a2, b2, c2, d2, hv, _⟩ := hv
  obtain ⟨g3, t3, cs3, fu3, p3, q3, a3, b3, c3, d3, hv, _⟩ := hv
  obtain ⟨g4, t4, cs4, fu4, p4, q4, a4, b4, c4, d4, hv, _⟩ := hv
  obtain ⟨g5, t5, cs5, fu5, p5, q5, a5, b5, c5, d5, hv, _⟩ := hv
  clear hv
  obtain rfl : g3 = 3 := (Option.some.inj ((show Tryz.prog.globalNamed "internal/strconv.uint64pow10" = some 3 by kernel_rfl).symm.trans a3)).symm
  obtain rfl : t3 = 139 := (Option.some.inj ((show (Tryz.prog.globals[(3 : Nat)]?).map (·.type) = some 139 by kernel_rfl).symm.trans b3)).symm
  obtain rfl : g5 = 8 := (Option.some.inj ((show Tryz.prog.globalNamed "internal/strconv.pow10Tab" = some 8 by kernel_rfl).symm.trans a5)).symm
  obtain rfl : t5 = 222 := (Option.some.inj ((show (Tryz.prog.globals[(8 : Nat)]?).map (·.type) = some 222 by kernel_rfl).symm.trans b5)).symm
  obtain ⟨e0, e1⟩ := pow_cells d5
  refine ⟨?_, ?_, ?_⟩
  · rw [World.var?_cell a5 c5 724, ← Array.getElem?_toList]; exact e0
  · rw [World.var?_cell a5 c5 725, ← Array.getElem?_toList]; exact e1
  · have hc := Lib.cells_of_tab (zs := Lib.pow10Tab) Tryz.underlying139 Tryz.underlying44 pg_types.2.1 pg_types.2.2 d3
    unfold Lib.TabIs
    rw [c3, ← hc]
set_option maxRecDepth 100000 in
theorem PG.of_Digits {w : World} (h : laidMetH Tryz.prog Rows.valueDigitsRow.laid w) : PG w := by
  have h2 : laidMet Tryz.prog Rows.valueDigitsRow.laid w := h
  obtain ⟨ps, hv, _, _⟩ := h2
  obtain ⟨g0, t0, cs0, fu0, p0, q0, a0, b0, c0, d0, hv, _⟩ := hv
  obtain ⟨g1, t1, cs1, fu1, p1, q1, a1, b1, c1, d1, hv, _⟩ := hv
  obtain ⟨g2, t2, cs2, fu2, p2, q2, a2, b2, c2, d2, hv, _⟩ := hv
  obtain ⟨g3, t3, cs3, fu3, p3, q3, a3, b3, c3, d3, hv, _⟩ := hv
  obtain ⟨g4, t4, cs4, fu4, p4, q4, a4, b4, c4, d4, hv, _⟩ := hv
  obtain ⟨g5, t5, cs5, fu5, p5, q5, a5, b5, c5, d5, hv, _⟩ := hv
  obtain ⟨g6, t6, cs6, fu6, p6, q6, a6, b6, c6, d6, hv, _⟩ := hv
  obtain ⟨g7, t7, cs7, fu7, p7, q7, a7, b7, c7, d7, hv, _⟩ := hv
  clear hv
  obtain rfl : g3 = 3 := (Option.some.inj ((show Tryz.prog.globalNamed "internal/strconv.uint64pow10" = some 3 by kernel_rfl).symm.trans a3)).symm
  obtain rfl : t3 = 139 := (Option.some.inj ((show (Tryz.prog.globals[(3 : Nat)]?).map (·.type) = some 139 by kernel_rfl).symm.trans b3)).symm
  obtain rfl : g7 = 8 := (Option.some.inj ((show Tryz.prog.globalNamed "internal/strconv.pow10Tab" = some 8 by kernel_rfl).symm.trans a7)).symm
  obtain rfl : t7 = 222 := (Option.some.inj ((show (Tryz.prog.globals[(8 : Nat)]?).map (·.type) = some 222 by kernel_rfl).symm.trans b7)).symm
  obtain ⟨e0, e1⟩ := pow_cells d7
  refine ⟨?_, ?_, ?_⟩
  · rw [World.var?_cell a7 c7 724, ← Array.getElem?_toList]; exact e0
  · rw [World.var?_cell a7 c7 725, ← Array.getElem?_toList]; exact e1
  · have hc := Lib.cells_of_tab (zs := Lib.pow10Tab) Tryz.underlying139 Tryz.underlying44 pg_types.2.1 pg_types.2.2 d3
    unfold Lib.TabIs
    rw [c3, ← hc]
end Go.Proofs.YtdpnknlpkjablaaGreatDoor
