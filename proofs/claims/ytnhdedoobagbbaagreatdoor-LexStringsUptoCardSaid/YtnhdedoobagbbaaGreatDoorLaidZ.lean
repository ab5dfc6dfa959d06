/- What the row's premise on the package-level variables gives, the error type's handle among it. -/
import Derived.Test.YtnhdedoobagbbaaGreatDoorStrs
import Derived.Test.YtnhdedoobagbbaaGreatDoorRows
import Derived.LaidLaws
import Derived.LaidMore
import Derived.LaidHandle
import Derived.ProofKit
namespace Go.Proofs.YtnhdedoobagbbaaGreatDoor
open Go.ChangeShapes Go.WideShapes Go.ChangeAt Go.RowKit

section
variable {H : Type} {enc : TypeId × Value → H} {w : World} {sp : Nat → Bool}
set_option maxRecDepth 100000 in
theorem bool_of_trod {fuel : Nat} {cs : List Value} {b : Bool} {p : List MemPlace} (h : DataW.trod enc Tryz.prog w 0 sp false fuel 4 cs = some (.lit (.bool b), p)) : cs = [.bool b] := by
  have ht := Tryz.underlying4
  cases fuel with
  | zero => simp [DataW.trod] at h
  | succ fuel =>
    match cs with
    | [] => simp [DataW.trod, ht] at h
    | _ :: _ :: _ => simp [DataW.trod, ht] at h
    | [c] =>
      cases c <;> simp [DataW.trod, ht] at h
      simp [h.1]
set_option maxRecDepth 100000 in
theorem flt_of_trod {fuel : Nat} {cs : List Value} {b : Nat} {p : List MemPlace} (h : DataW.trod enc Tryz.prog w 0 sp false fuel 32 cs = some (.lit (.float .f64 b), p)) : cs = [.float .f64 b] := by
  have ht := Tryz.underlying32
  cases fuel with
  | zero => simp [DataW.trod] at h
  | succ fuel =>
    match cs with
    | [] => simp [DataW.trod, ht] at h
    | _ :: _ :: _ => simp [DataW.trod, ht] at h
    | [c] =>
      cases c <;> simp [DataW.trod, ht] at h
      obtain ⟨⟨rfl, _⟩, rfl, _⟩ := h
      rfl
set_option maxRecDepth 100000 in
theorem uint_of_trod {fuel : Nat} {cs : List Value} {b : Int} {p : List MemPlace} (h : DataW.trod enc Tryz.prog w 0 sp false fuel 98 cs = some (.lit (.int .u64 b), p)) : cs = [.int .u64 b] := by
  have ht := Tryz.underlying98
  cases fuel with
  | zero => simp [DataW.trod] at h
  | succ fuel =>
    match cs with
    | [] => simp [DataW.trod, ht] at h
    | _ :: _ :: _ => simp [DataW.trod, ht] at h
    | [c] =>
      cases c <;> simp [DataW.trod, ht] at h
      obtain ⟨⟨rfl, _⟩, rfl, _⟩ := h
      rfl
end
theorem lt_cell {w : World} {a : Addr} {v : Value} (h : w.cell? a = some v) : a.block < w.heap.size := by
  rcases Nat.lt_or_ge a.block w.heap.size with h2 | h2
  · exact h2
  · rw [World.cell?, Array.getElem?_eq_none h2] at h
    cases h
set_option maxRecDepth 100000 in
theorem GL.of_laid {w : World} (h : laidMetH Tryz.prog Rows.lexStringsUptoRow.laid w) : GL w.heap.size w := by
  have h2 : laidMet Tryz.prog (Rows.lexStringsUptoRow.laid.filter fun x => x.2.handleName?.isNone) w := h.1
  obtain ⟨ps, hv, _, _⟩ := h2
  obtain ⟨g0, t0, cs0, fu0, p0, q0, a0, b0, c0, d0, hv, _⟩ := hv
  obtain ⟨g1, t1, cs1, fu1, p1, q1, a1, b1, c1, d1, hv, _⟩ := hv
  obtain ⟨g2, t2, cs2, fu2, p2, q2, a2, b2, c2, d2, hv, _⟩ := hv
  obtain ⟨g3, t3, cs3, fu3, p3, q3, a3, b3, c3, d3, hv, _⟩ := hv
  obtain ⟨g4, t4, cs4, fu4, p4, q4, a4, b4, c4, d4, hv, _⟩ := hv
  obtain ⟨g5, t5, cs5, fu5, p5, q5, a5, b5, c5, d5, hv, _⟩ := hv
  obtain ⟨g6, t6, cs6, fu6, p6, q6, a6, b6, c6, d6, hv, _⟩ := hv
  obtain ⟨g7, t7, cs7, fu7, p7, q7, a7, b7, c7, d7, hv, _⟩ := hv
  obtain ⟨g8, t8, cs8, fu8, p8, q8, a8, b8, c8, d8, hv, _⟩ := hv
  obtain ⟨g9, t9, cs9, fu9, p9, q9, a9, b9, c9, d9, hv, _⟩ := hv
  obtain ⟨g10, t10, cs10, fu10, p10, q10, a10, b10, c10, d10, hv, _⟩ := hv
  clear hv
  obtain rfl : g4 = 6 := (Option.some.inj ((show Tryz.prog.globalNamed "internal/strconv.optimize" = some 6 by kernel_rfl).symm.trans a4)).symm
  obtain rfl : t4 = 4 := (Option.some.inj ((show (Tryz.prog.globals[(6 : Nat)]?).map (·.type) = some 4 by kernel_rfl).symm.trans b4)).symm
  obtain rfl : g6 = 10 := (Option.some.inj ((show Tryz.prog.globalNamed "internal/strconv.float64pow10" = some 10 by kernel_rfl).symm.trans a6)).symm
  obtain rfl : t6 = 164 := (Option.some.inj ((show (Tryz.prog.globals[(10 : Nat)]?).map (·.type) = some 164 by kernel_rfl).symm.trans b6)).symm
  have hat : ∀ (cs : Array Value) (v : Value) (r : List Value), cs.toList = v :: r → cs[0]? = some v := fun cs v r e => by rw [← Array.getElem?_toList, e]; rfl
  have hopt : w.cell? ⟨6, 0, none⟩ = some (.bool true) := by
    rw [World.var?_cell a4 c4 0]
    exact hat _ _ _ (bool_of_trod d4)
  have hpow : ∃ b o c, b < w.heap.size ∧ w.cell? ⟨10, 0, none⟩ = some (.slice (some ⟨b, o, none⟩) 23 c) ∧ w.cell? ⟨b, o + 2, none⟩ = some (.float .f64 4636737291354636288) := by
    obtain ⟨a, cap, hcs, _, hel⟩ := open_row Tryz.underlying164 (by kernel_rfl) d6
    obtain ⟨v, n, q, hc, ht⟩ := hel 2 _ rfl
    have hv := flt_of_trod ht
    cases hv
    obtain ⟨b, o, sp⟩ := a
    obtain ⟨v0, _, _, hc0, _⟩ := hel 0 _ rfl
    have hsp : sp = none := by simpa [Addr.add] using World.cell?_spot hc0
    subst hsp
    rw [show (⟨b, o, none⟩ : Addr).add 2 = ⟨b, o + 2, none⟩ by unfold Addr.add; split <;> simp_all] at hc
    refine ⟨b, o, cap, lt_cell hc, ?_, hc⟩
    rw [World.var?_cell a6 c6 0]
    exact hat _ _ _ hcs
  obtain rfl : g9 = 3 := (Option.some.inj ((show Tryz.prog.globalNamed "strconv.ErrRange" = some 3 by kernel_rfl).symm.trans a9)).symm
  obtain rfl : t9 = 25 := (Option.some.inj ((show (Tryz.prog.globals[(3 : Nat)]?).map (·.type) = some 25 by kernel_rfl).symm.trans b9)).symm
  obtain rfl : g10 = 2 := (Option.some.inj ((show Tryz.prog.globalNamed "strconv.ErrSyntax" = some 2 by kernel_rfl).symm.trans a10)).symm
  obtain rfl : t10 = 25 := (Option.some.inj ((show (Tryz.prog.globals[(2 : Nat)]?).map (·.type) = some 25 by kernel_rfl).symm.trans b10)).symm
  have hR : ∃ ev, w.cell? ⟨3, 0, none⟩ = some ev ∧ (ev = .nilIface ∨ ∃ te pe, ev = .iface te pe) := by
    obtain ⟨_, u, v, e, _, _⟩ := iface_of_trod Tryz.underlying25 d9
    exact ⟨_, by rw [World.var?_cell a9 c9 0]; exact hat _ _ _ e, Or.inr ⟨u, v, rfl⟩⟩
  have hS : ∃ ev, w.cell? ⟨2, 0, none⟩ = some ev ∧ (ev = .nilIface ∨ ∃ te pe, ev = .iface te pe) := by
    obtain ⟨_, u, v, e, _, _⟩ := iface_of_trod Tryz.underlying25 d10
    exact ⟨_, by rw [World.var?_cell a10 c10 0]; exact hat _ _ _ e, Or.inr ⟨u, v, rfl⟩⟩
  obtain rfl : g3 = 7 := (Option.some.inj ((show Tryz.prog.globalNamed "internal/strconv.float64info" = some 7 by kernel_rfl).symm.trans a3)).symm
  obtain rfl : t3 = 127 := (Option.some.inj ((show (Tryz.prog.globals[(7 : Nat)]?).map (·.type) = some 127 by kernel_rfl).symm.trans b3)).symm
  have hmant : w.cell? ⟨7, 0, none⟩ = some (.int .u64 52) := by
    obtain ⟨xs, n, _, hx, hcl, hxl, hf⟩ := DataW.trod_struct Tryz.underlying127 d3
    match xs, hxl with
    | [y0, y1, y2], _ =>
      have f0 := hf 0 _ rfl
      obtain ⟨y0a, y0p⟩ := y0
      have hy : y0a = .lit (.int .u64 52) := by
        have h1 := congrArg Prod.fst hx
        simp [Rows.laid_internal_strconv_float64info] at h1
        exact h1.1.symm
      subst hy
      have e : (cs3.toList.drop 0).take 1 = [.int .u64 52] := uint_of_trod f0
      rw [World.var?_cell a3 c3 0]
      cases hcs : cs3.toList with
      | nil => rw [hcs] at e; cases e
      | cons v r =>
        rw [hcs] at e
        cases e
        exact hat _ _ _ hcs
  exact ⟨lt_cell hpow.choose_spec.choose_spec.choose_spec.2.1, hopt, hmant, hpow, hS, hR⟩
theorem et_global : Tryz.prog.globalNamed "errors.errorType" = some 0 := by kernel_rfl
theorem et_rtype : (Tryz.prog.cutTypes.find? (·.1 == "internal/reflectlite.rtype")).map (·.2) = some 81 := by kernel_rfl
theorem et_oneRow : ((List.range 216).filter fun t => Tryz.prog.rowNamed t [101, 114, 114, 111, 114]) = [25] := by kernel_rfl
theorem et_size : Tryz.prog.types.size = 216 := by kernel_rfl
theorem handle_of_laid {w : World} (h : laidMetH Tryz.prog Rows.lexStringsUptoRow.laid w) : w.cell? ⟨0, 0, none⟩ = some (.iface 81 (.agg #[.pointer (some ⟨16, 25, none⟩)])) := by
  have h' : handlesMet Tryz.prog [("errors.errorType", Rows.laid_errors_errorType)] w := h.2
  obtain ⟨name, u, ty, e1, e2, e3, e4, e5⟩ := h' _ (List.mem_singleton.2 rfl)
  have en : name = [101, 114, 114, 111, 114] := (Option.some.inj e1).symm
  subst en
  obtain rfl := Option.some.inj (et_rtype.symm.trans e2)
  have hm : ty ∈ (List.range 216).filter fun t => Tryz.prog.rowNamed t [101, 114, 114, 111, 114] := List.mem_filter.2 ⟨List.mem_range.2 (by rw [← et_size]; exact e3), e4⟩
  rw [et_oneRow] at hm
  obtain rfl := List.mem_singleton.1 hm
  have hh : typeHandle Tryz.prog 25 = .pointer (some ⟨16, 25, none⟩) := by kernel_rfl
  rw [hh] at e5
  simpa using World.var?_cell et_global e5 0
end Go.Proofs.YtnhdedoobagbbaaGreatDoor
