/- What the row's premise on the package-level variables gives, for RenderTells. -/
import Derived.Test.YthefajkihnlgfaaGreatDoorLawW
import Derived.Test.YthefajkihnlgfaaGreatDoorRows
import Derived.LaidLaws
import Derived.LaidMore
import Derived.LaidHandle
import Derived.ProofKit
import Derived.OpenShut
import Derived.Lay
import Derived.Lib.LaidTab
import Derived.Stop.Joined
import Derived.ChangeMaps5
import Derived.Shelf.Vars
namespace Go.Proofs.YthefajkihnlgfaaGreatDoor
open Go.ChangeShapes Go.WideShapes Go.ChangeAt Go.RowKit Go.ChangeMaps

section
variable {enc : TypeId × Value → Unit} {w : World} {sp : Nat → Bool} {fuel : Nat} {cs : List Value} {p : List MemPlace}
theorem ga_lit {t : TypeId} {k : IntKind} {n : Int} (ht : Tryz.prog.underlying t = some (.int k)) (h : DataW.trod enc Tryz.prog w 0 sp false fuel t cs = some (.lit (.int k n), p)) : cs = [.int k n] := by
  obtain ⟨v, e, k0, _⟩ := DataW.trod_int ht h
  have := congrArg Prod.fst k0
  simp at this
  subst this
  exact e
theorem ga_one {l : List Value} {i : Nat} {v : Value} (h : (l.drop i).take 1 = [v]) : l[i]? = some v := by
  have := congrArg (·[0]?) h
  simpa [List.getElem?_take, List.getElem?_drop] using this
theorem rl_types : Tryz.prog.cellsOf 204 = 2 ∧ Tryz.prog.cellsOf 73 = 1 ∧ Tryz.prog.cellsOf 133 = 20 := ⟨by kernel_rfl, by kernel_rfl, by kernel_rfl⟩
theorem ga_rows : (Go.Pinned.pow10Rows).length = 696 := by kernel_rfl
/-- The table of powers of ten. -/
theorem ga_pow (h : DataW.trod enc Tryz.prog w 0 sp false fuel 205 cs = some (Go.Pinned.pow10Tab, p)) {i : Nat} (hi : i < 696) :
    cs[i * 2]? = some (.int .u64 (pwR i).1) ∧ cs[i * 2 + 1]? = some (.int .u64 (pwR i).2) := by
  obtain ⟨xs, m, _, hx, _, hxl, hel⟩ := DataW.trod_array Tryz.underlying205 h
  have h1 := congrArg Prod.fst hx
  simp only [Go.Pinned.pow10Tab, DataW.agg.injEq] at h1
  obtain ⟨r, hr⟩ : ∃ r, (Go.Pinned.pow10Rows)[i]? = some r := get_lt _ (by rw [ga_rows]; exact hi)
  have hpw : pwR i = r := by unfold pwR; rw [hr]; rfl
  have h2 : (xs.map (·.1))[i]? = some (.agg [.lit (.int .u64 r.1), .lit (.int .u64 r.2)]) := by
    rw [← h1, List.getElem?_map, hr]
    rfl
  rw [hpw]
  rw [List.getElem?_map] at h2
  have h3 := hel i hi
  cases hy : xs[i]? with
  | none => rw [hy] at h2; cases h2
  | some y =>
    obtain ⟨y1, y2⟩ := y
    rw [hy] at h2 h3
    have hy1 : y1 = .agg [.lit (.int .u64 r.1), .lit (.int .u64 r.2)] := Option.some.inj h2
    subst hy1
    rw [rl_types.1] at h3
    obtain ⟨zs, n, _, hz, _, hzl, hf⟩ := DataW.trod_struct Tryz.underlying204 h3
    match zs, hzl with
    | [z0, z1], _ =>
      obtain ⟨z0a, z0p⟩ := z0
      obtain ⟨z1a, z1p⟩ := z1
      have h4 := congrArg Prod.fst hz
      simp at h4
      obtain ⟨rfl, rfl⟩ := h4
      have e0 : (((cs.drop (i * 2)).take 2).drop 0).take (Tryz.prog.cellsOf 73) = [.int .u64 r.1] := ga_lit Tryz.underlying73 (hf 0 _ rfl)
      have e1 : (((cs.drop (i * 2)).take 2).drop 1).take (Tryz.prog.cellsOf 73) = [.int .u64 r.2] := ga_lit Tryz.underlying73 (hf 1 _ rfl)
      rw [rl_types.2.1] at e0 e1
      have g0 := ga_one e0
      have g1 := ga_one e1
      simp [List.getElem?_drop] at g0 g1
      exact ⟨g0, g1⟩
end
set_option maxHeartbeats 1000000 in
set_option maxRecDepth 100000 in
theorem RG.of_laid {w : World} (h : laidMetH Tryz.prog Rows.renderTellsUptoRow.laid w) (hs : w.ShapedOpen Tryz.prog) : RG w.heap.size w := by
  have h2 : laidMet Tryz.prog Rows.renderTellsUptoRow.laid w := h
  obtain ⟨ps, hv, _, _⟩ := h2
  obtain ⟨g0, t0, cs0, fu0, pp0, qq0, a0, b0, c0, d0, hv, _⟩ := hv
  obtain ⟨g1, t1, cs1, fu1, pp1, qq1, a1, b1, c1, d1, hv, _⟩ := hv
  obtain ⟨g2, t2, cs2, fu2, pp2, qq2, a2, b2, c2, d2, hv, _⟩ := hv
  obtain ⟨g3, t3, cs3, fu3, pp3, qq3, a3, b3, c3, d3, hv, _⟩ := hv
  obtain ⟨g4, t4, cs4, fu4, pp4, qq4, a4, b4, c4, d4, hv, _⟩ := hv
  obtain ⟨g5, t5, cs5, fu5, pp5, qq5, a5, b5, c5, d5, hv, _⟩ := hv
  clear hv
  obtain rfl : g3 = 1 := (Option.some.inj ((show Tryz.prog.globalNamed "internal/strconv.uint64pow10" = some 1 by kernel_rfl).symm.trans a3)).symm
  obtain rfl : t3 = 133 := (Option.some.inj ((show (Tryz.prog.globals[(1 : Nat)]?).map (·.type) = some 133 by kernel_rfl).symm.trans b3)).symm
  obtain rfl : g5 = 6 := (Option.some.inj ((show Tryz.prog.globalNamed "internal/strconv.pow10Tab" = some 6 by kernel_rfl).symm.trans a5)).symm
  obtain rfl : t5 = 205 := (Option.some.inj ((show (Tryz.prog.globals[(6 : Nat)]?).map (·.type) = some 205 by kernel_rfl).symm.trans b5)).symm
  obtain ⟨m, hm⟩ := cell_of_shapedOpen_int (P := Tryz.prog) (g := 3) (t := 3) (zero := #[.int .i64 0]) hs (of_decide_eq_true (by kernel_rfl)) (by kernel_rfl) rfl (by kernel_rfl) (by kernel_rfl) Tryz.underlying3
  have hpw : ∀ i : Nat, i < 696 → w.cell? ⟨6, i * 2, none⟩ = some (.int .u64 (pwR i).1) ∧ w.cell? ⟨6, i * 2 + 1, none⟩ = some (.int .u64 (pwR i).2) := by
    intro i hi
    obtain ⟨z0, z1⟩ := ga_pow d5 hi
    rw [Array.getElem?_toList] at z0 z1
    exact ⟨(World.var?_cell a5 c5 _).trans z0, (World.var?_cell a5 c5 _).trans z1⟩
  refine ⟨⟨⟨World.block_lt_of_cell? w _ (hpw 0 (by decide)).1, hpw⟩, Nat.le_refl _, ?_⟩, World.block_lt_of_cell? w _ hm, m, hm⟩
  have hc := Lib.cells_of_tab (zs := Lib.pow10Tab) Tryz.underlying133 Tryz.underlying73 rl_types.2.1 rl_types.2.2 d3
  unfold Lib.TabIs
  rw [c3, ← hc]
end Go.Proofs.YthefajkihnlgfaaGreatDoor

