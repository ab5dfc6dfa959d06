/- What the row's premise on the package-level variables gives, for PrintChains. -/
import Derived.Test.YtkoghgnjjfnamaaGreatDoorKc
import Derived.Test.YtkoghgnjjfnamaaGreatDoorGt
import Derived.Test.YtkoghgnjjfnamaaGreatDoorRows
import Derived.LaidHandle
import Derived.LaidMore
import Derived.Lay
import Derived.Stop.Joined
import Derived.ChangeMaps5
import Derived.Shelf.Vars
namespace Go.Proofs.YtkoghgnjjfnamaaGreatDoor
open Go.ChangeShapes Go.WideShapes Go.ChangeAt Go.RowKit Go.ChangeMaps

theorem Tryz.own : ownKnob Tryz.prog.godebug = none := by kernel_rfl
theorem wf_i64 {n : Int} (h : (Lit.int .i64 n).wf = true) : -9223372036854775808 ≤ n ∧ n ≤ 9223372036854775807 := by
  simp only [Lit.wf, Bool.and_eq_true, decide_eq_true_eq] at h
  have h1 : IntKind.i64.min = -9223372036854775808 := by decide
  have h2 : IntKind.i64.max = 9223372036854775807 := by decide
  rw [h1, h2] at h
  exact h
set_option maxHeartbeats 1000000 in
set_option maxRecDepth 100000 in
theorem GA.of_Chains {w : World} (h : laidMetH Tryz.prog Rows.printChainsRow.laid w) : GA w.heap.size w := by
  have h2 : laidMet Tryz.prog Rows.printChainsRow.laid w := h
  obtain ⟨ps, hv, _, _⟩ := h2
  obtain ⟨g0, t0, cs0, fu0, pp0, qq0, a0, b0, c0, d0, hv, _⟩ := hv
  obtain ⟨g1, t1, cs1, fu1, pp1, qq1, a1, b1, c1, d1, hv, _⟩ := hv
  obtain ⟨g2, t2, cs2, fu2, pp2, qq2, a2, b2, c2, d2, hv, _⟩ := hv
  obtain ⟨g3, t3, cs3, fu3, pp3, qq3, a3, b3, c3, d3, hv, _⟩ := hv
  obtain ⟨g4, t4, cs4, fu4, pp4, qq4, a4, b4, c4, d4, hv, _⟩ := hv
  obtain ⟨g5, t5, cs5, fu5, pp5, qq5, a5, b5, c5, d5, hv, _⟩ := hv
  obtain ⟨g6, t6, cs6, fu6, pp6, qq6, a6, b6, c6, d6, hv, _⟩ := hv
  obtain ⟨g7, t7, cs7, fu7, pp7, qq7, a7, b7, c7, d7, hv, _⟩ := hv
  obtain ⟨g8, t8, cs8, fu8, pp8, qq8, a8, b8, c8, d8, hv, _⟩ := hv
  obtain ⟨g9, t9, cs9, fu9, pp9, qq9, a9, b9, c9, d9, hv, _⟩ := hv
  obtain ⟨g10, t10, cs10, fu10, pp10, qq10, a10, b10, c10, d10, hv, _⟩ := hv
  obtain ⟨g11, t11, cs11, fu11, pp11, qq11, a11, b11, c11, d11, hv, _⟩ := hv
  obtain ⟨g12, t12, cs12, fu12, pp12, qq12, a12, b12, c12, d12, hv, _⟩ := hv
  clear hv
  obtain rfl : g4 = 5 := (Option.some.inj ((show Tryz.prog.globalNamed "internal/strconv.optimize" = some 5 by kernel_rfl).symm.trans a4)).symm
  obtain rfl : t4 = 4 := (Option.some.inj ((show (Tryz.prog.globals[(5 : Nat)]?).map (·.type) = some 4 by kernel_rfl).symm.trans b4)).symm
  obtain rfl : g6 = 12 := (Option.some.inj ((show Tryz.prog.globalNamed "internal/strconv.float64pow10" = some 12 by kernel_rfl).symm.trans a6)).symm
  obtain rfl : t6 = 257 := (Option.some.inj ((show (Tryz.prog.globals[(12 : Nat)]?).map (·.type) = some 257 by kernel_rfl).symm.trans b6)).symm
  obtain rfl : g5 = 11 := (Option.some.inj ((show Tryz.prog.globalNamed "internal/strconv.powtab" = some 11 by kernel_rfl).symm.trans a5)).symm
  obtain rfl : t5 = 29 := (Option.some.inj ((show (Tryz.prog.globals[(11 : Nat)]?).map (·.type) = some 29 by kernel_rfl).symm.trans b5)).symm
  obtain rfl : g11 = 14 := (Option.some.inj ((show Tryz.prog.globalNamed "internal/strconv.leftcheats" = some 14 by kernel_rfl).symm.trans a11)).symm
  obtain rfl : t11 = 268 := (Option.some.inj ((show (Tryz.prog.globals[(14 : Nat)]?).map (·.type) = some 268 by kernel_rfl).symm.trans b11)).symm
  obtain rfl : g12 = 13 := (Option.some.inj ((show Tryz.prog.globalNamed "internal/strconv.pow10Tab" = some 13 by kernel_rfl).symm.trans a12)).symm
  obtain rfl : t12 = 262 := (Option.some.inj ((show (Tryz.prog.globals[(13 : Nat)]?).map (·.type) = some 262 by kernel_rfl).symm.trans b12)).symm
  obtain rfl : g3 = 7 := (Option.some.inj ((show Tryz.prog.globalNamed "internal/strconv.float64info" = some 7 by kernel_rfl).symm.trans a3)).symm
  obtain rfl : t3 = 206 := (Option.some.inj ((show (Tryz.prog.globals[(7 : Nat)]?).map (·.type) = some 206 by kernel_rfl).symm.trans b3)).symm
  obtain rfl : g9 = 3 := (Option.some.inj ((show Tryz.prog.globalNamed "strconv.ErrRange" = some 3 by kernel_rfl).symm.trans a9)).symm
  obtain rfl : t9 = 25 := (Option.some.inj ((show (Tryz.prog.globals[(3 : Nat)]?).map (·.type) = some 25 by kernel_rfl).symm.trans b9)).symm
  obtain rfl : g10 = 2 := (Option.some.inj ((show Tryz.prog.globalNamed "strconv.ErrSyntax" = some 2 by kernel_rfl).symm.trans a10)).symm
  obtain rfl : t10 = 25 := (Option.some.inj ((show (Tryz.prog.globals[(2 : Nat)]?).map (·.type) = some 25 by kernel_rfl).symm.trans b10)).symm
  have hat : ∀ (cs : Array Value) (v : Value) (r : List Value), cs.toList = v :: r → cs[0]? = some v := fun cs v r e => by rw [← Array.getElem?_toList, e]; rfl
  have hopt : w.cell? ⟨5, 0, none⟩ = some (.bool true) := by
    rw [World.var?_cell a4 c4 0]
    exact hat _ _ _ (ga_bool Tryz.underlying4 d4)
  obtain ⟨i0, i1, i2⟩ := ga_info d3
  rw [Array.getElem?_toList] at i0 i1 i2
  rw [← World.var?_cell a3 c3 0] at i0
  rw [← World.var?_cell a3 c3 1] at i1
  rw [← World.var?_cell a3 c3 2] at i2
  have hpw : ∀ i : Nat, i < 696 → w.cell? ⟨13, i * 2, none⟩ = some (.int .u64 (pwR i).1) ∧ w.cell? ⟨13, i * 2 + 1, none⟩ = some (.int .u64 (pwR i).2) := by
    intro i hi
    obtain ⟨z0, z1⟩ := ga_pow d12 hi
    rw [Array.getElem?_toList] at z0 z1
    exact ⟨(World.var?_cell a12 c12 _).trans z0, (World.var?_cell a12 c12 _).trans z1⟩
  have hch : ∃ b o c : Nat, b < w.heap.size ∧ w.cell? ⟨14, 0, none⟩ = some (.slice (some ⟨b, o, none⟩) 61 c) ∧
      ∀ k, k ≤ 60 → w.cell? ⟨b, o + k * 2, none⟩ = some (.int .i64 ((cheat k).1 : Nat)) ∧ w.cell? ⟨b, o + k * 2 + 1, none⟩ = some (.string ⟨(cheat k).2.toArray⟩) := by
    obtain ⟨b, o, c, h1, h2⟩ := ga_cheat d11
    refine ⟨b, o, c, ga_lt (h2 0 (by decide)).1, ?_, h2⟩
    rw [World.var?_cell a11 c11 0]
    exact hat _ _ _ h1
  have hpt : ∃ b o c : Nat, b < w.heap.size ∧ w.cell? ⟨11, 0, none⟩ = some (.slice (some ⟨b, o, none⟩) 9 c) ∧ ∀ k : Nat, k < 9 → w.cell? ⟨b, o + k, none⟩ = some (.int .i64 (pwt k : Nat)) := by
    obtain ⟨b, o, c, h1, h2⟩ := ga_row (m := 9) (v := fun k => .int .i64 (pwt k : Nat)) Tryz.underlying29 (by kernel_rfl) (by decide) rfl (fun i x fuel cs q hx ht => by
      have hi : i < 9 := (List.getElem?_eq_some_iff.1 hx).1
      rcases (by omega : i = 0 ∨ i = 1 ∨ i = 2 ∨ i = 3 ∨ i = 4 ∨ i = 5 ∨ i = 6 ∨ i = 7 ∨ i = 8) with rfl | rfl | rfl | rfl | rfl | rfl | rfl | rfl | rfl <;> (cases hx; exact ga_lit Tryz.underlying3 ht)) d5
    refine ⟨b, o, c, ga_lt (h2 0 (by decide)), ?_, h2⟩
    rw [World.var?_cell a5 c5 0]
    exact hat _ _ _ h1
  have hp10 : ∃ b o c : Nat, b < w.heap.size ∧ w.cell? ⟨12, 0, none⟩ = some (.slice (some ⟨b, o, none⟩) 23 c) ∧ ∀ k : Nat, k < 23 → w.cell? ⟨b, o + k, none⟩ = some (.float .f64 (p10 k)) := by
    obtain ⟨b, o, c, h1, h2⟩ := ga_row (m := 23) (v := fun k => .float .f64 (p10 k)) Tryz.underlying257 (by kernel_rfl) (by decide) rfl (fun i x fuel cs q hx ht => by
      have hi : i < 23 := (List.getElem?_eq_some_iff.1 hx).1
      rcases (by omega : i = 0 ∨ i = 1 ∨ i = 2 ∨ i = 3 ∨ i = 4 ∨ i = 5 ∨ i = 6 ∨ i = 7 ∨ i = 8 ∨ i = 9 ∨ i = 10 ∨ i = 11 ∨ i = 12 ∨ i = 13 ∨ i = 14 ∨ i = 15 ∨ i = 16 ∨ i = 17 ∨ i = 18 ∨ i = 19 ∨ i = 20 ∨ i = 21 ∨ i = 22) with rfl | rfl | rfl | rfl | rfl | rfl | rfl | rfl | rfl | rfl | rfl | rfl | rfl | rfl | rfl | rfl | rfl | rfl | rfl | rfl | rfl | rfl | rfl <;> (cases hx; exact ga_flt ht)) d6
    refine ⟨b, o, c, ga_lt (h2 0 (by decide)), ?_, h2⟩
    rw [World.var?_cell a6 c6 0]
    exact hat _ _ _ h1
  have hR : ∃ ev, w.cell? ⟨3, 0, none⟩ = some ev ∧ (ev = .nilIface ∨ ∃ te pe, ev = .iface te pe) := by
    obtain ⟨_, u, v, e, _, _⟩ := iface_of_trod Tryz.underlying25 d9
    exact ⟨_, by rw [World.var?_cell a9 c9 0]; exact hat _ _ _ e, Or.inr ⟨u, v, rfl⟩⟩
  have hS : ∃ ev, w.cell? ⟨2, 0, none⟩ = some ev ∧ (ev = .nilIface ∨ ∃ te pe, ev = .iface te pe) := by
    obtain ⟨_, u, v, e, _, _⟩ := iface_of_trod Tryz.underlying25 d10
    exact ⟨_, by rw [World.var?_cell a10 c10 0]; exact hat _ _ _ e, Or.inr ⟨u, v, rfl⟩⟩
  have hl : ∀ {g : Nat} {v : Value}, w.cell? ⟨g, 0, none⟩ = some v → g < w.heap.size := fun h => ga_lt h
  exact { f := { opt0 := hl hopt, opt := hopt, fb := { ch := ⟨hl hch.choose_spec.choose_spec.choose_spec.2.1, hch⟩, inf := hl i0, mant := i0, ebits := i1, bias := i2, tab := hl hpt.choose_spec.choose_spec.choose_spec.2.1, pow := hpt }, p10 := ⟨hl hp10.choose_spec.choose_spec.choose_spec.2.1, hp10⟩, pw := ⟨hl (hpw 0 (by decide)).1, hpw⟩ }, errS0 := hl hS.choose_spec.1, errR0 := hl hR.choose_spec.1, errS := hS, errR := hR }
theorem gp_ofC {w : World} (h : laidMetH Tryz.prog Rows.printChainsRow.laid w) (hs : w.ShapedOpen Tryz.prog) : GP w.heap.size w := by
  obtain ⟨m, hm⟩ := cell_of_shapedOpen_int (P := Tryz.prog) (g := 4) (t := 3) (zero := #[.int .i64 0]) hs (of_decide_eq_true (by kernel_rfl)) (by kernel_rfl) rfl (by kernel_rfl) (by kernel_rfl) Tryz.underlying3
  exact ⟨⟨GA.of_Chains h, Nat.le_refl _⟩, ⟨m, hm⟩, World.block_lt_of_cell? w _ hm⟩
end Go.Proofs.YtkoghgnjjfnamaaGreatDoor
