/- What the premise on the package-level variables gives: for ValueLists and ValueSets. -/
import Derived.Test.YtdpnknlpkjablaaGreatDoorLaidV
namespace Go.Proofs.YtdpnknlpkjablaaGreatDoor
open Go.ChangeShapes Go.WideShapes Go.ChangeAt Go.RowKit

set_option maxRecDepth 100000 in
theorem PG.of_Lists {w : World} (h : laidMetH Tryz.prog Rows.valueListsRow.laid w) : PG w := by
  have h2 : laidMet Tryz.prog Rows.valueListsRow.laid w := h
  obtain ⟨ps, hv, _, _⟩ := h2
  obtain ⟨g0, t0, cs0, fu0, p0, q0, a0, b0, c0, d0, hv, _⟩ := hv
  obtain ⟨g1, t1, cs1, fu1, p1, q1, a1, b1, c1, d1, hv, _⟩ := hv
  obtain ⟨g2, t2, cs2, fu2, p2, q2, a2, b2, c2, d2, hv, _⟩ := hv
  obtain ⟨g3, t3, cs3, fu3, p3, q3, a3, b3, c3, d3, hv, _⟩ := hv
  obtain ⟨g4, t4, cs4, fu4, p4, q4, a4, b4, c4, d4, hv, _⟩ := hv
  obtain ⟨g5, t5, cs5, fu5, p5, q5, a5, b5, c5, d5, hv, _⟩ := hv
  clear hv
  obtain rfl : g3 = 3 := (Option.some.inj ((show Tryz.prog.globalNamed "internal/strconv.uint64pow10" = some 3 by kernel_rfl).symm.trans a3)).symm
  obtain rfl : t3 = 139 := (Option.some.inj ((show (Tryz.prog.globals[(3 : Nat)]?).map (·.type) = some 139 by kernel_rfl).symm.trans b3)).symm
  obtain rfl : g5 = 8 := (Option.some.inj ((show Tryz.prog.globalNamed "internal/strconv.pow10Tab" = some 8 by kernel_rfl).symm.trans a5)).symm
  obtain rfl : t5 = 222 := (Option.some.inj ((show (Tryz.prog.globals[(8 : Nat)]?).map (·.type) = some 222 by kernel_rfl).symm.trans b5)).symm
  obtain ⟨e0, e1⟩ := pow_cells d5
  refine ⟨?_, ?_, ?_⟩
  · rw [World.var?_cell a5 c5 724, ← Array.getElem?_toList]; exact e0
  · rw [World.var?_cell a5 c5 725, ← Array.getElem?_toList]; exact e1
  · have hc := Lib.cells_of_tab (zs := Lib.pow10Tab) Tryz.underlying139 Tryz.underlying44 pg_types.2.1 pg_types.2.2 d3
    unfold Lib.TabIs
    rw [c3, ← hc]
set_option maxRecDepth 100000 in
theorem PG.of_Sets {w : World} (h : laidMetH Tryz.prog Rows.valueSetsRow.laid w) : PG w := by
  have h2 : laidMet Tryz.prog Rows.valueSetsRow.laid w := h
  obtain ⟨ps, hv, _, _⟩ := h2
  obtain ⟨g0, t0, cs0, fu0, p0, q0, a0, b0, c0, d0, hv, _⟩ := hv
  obtain ⟨g1, t1, cs1, fu1, p1, q1, a1, b1, c1, d1, hv, _⟩ := hv
  obtain ⟨g2, t2, cs2, fu2, p2, q2, a2, b2, c2, d2, hv, _⟩ := hv
  obtain ⟨g3, t3, cs3, fu3, p3, q3, a3, b3, c3, d3, hv, _⟩ := hv
  obtain ⟨g4, t4, cs4, fu4, p4, q4, a4, b4, c4, d4, hv, _⟩ := hv
  obtain ⟨g5, t5, cs5, fu5, p5, q5, a5, b5, c5, d5, hv, _⟩ := hv
  clear hv
  obtain rfl : g3 = 3 := (Option.some.inj ((show Tryz.prog.globalNamed "internal/strconv.uint64pow10" = some 3 by kernel_rfl).symm.trans a3)).symm
  obtain rfl : t3 = 139 := (Option.some.inj ((show (Tryz.prog.globals[(3 : Nat)]?).map (·.type) = some 139 by kernel_rfl).symm.trans b3)).symm
  obtain rfl : g5 = 8 := (Option.some.inj ((show Tryz.prog.globalNamed "internal/strconv.pow10Tab" = some 8 by kernel_rfl).symm.trans a5)).symm
  obtain rfl : t5 = 222 := (Option.some.inj ((show (Tryz.prog.globals[(8 : Nat)]?).map (·.type) = some 222 by kernel_rfl).symm.trans b5)).symm
  obtain ⟨e0, e1⟩ := pow_cells d5
  refine ⟨?_, ?_, ?_⟩
  · rw [World.var?_cell a5 c5 724, ← Array.getElem?_toList]; exact e0
  · rw [World.var?_cell a5 c5 725, ← Array.getElem?_toList]; exact e1
  · have hc := Lib.cells_of_tab (zs := Lib.pow10Tab) Tryz.underlying139 Tryz.underlying44 pg_types.2.1 pg_types.2.2 d3
    unfold Lib.TabIs
    rw [c3, ← hc]
end Go.Proofs.YtdpnknlpkjablaaGreatDoor
