/- What the row's premise on the package-level variables gives. -/
import Derived.Test.YtnhdedoobagbbaaDoorNames
import Derived.Test.YtnhdedoobagbbaaDoorRows
import Derived.LaidLaws
import Derived.LaidMore
import Derived.ProofKit
namespace Go.Proofs.YtnhdedoobagbbaaDoor
open Go.ChangeShapes Go.WideShapes Go.ChangeAt Go.RowKit

section
variable {H : Type} {enc : TypeId × Value → H} {w : World} {sp : Nat → Bool}
set_option maxRecDepth 100000 in
theorem bool_of_trod {fuel : Nat} {cs : List Value} {b : Bool} {p : List MemPlace} (h : DataW.trod enc Tryd.prog w 0 sp false fuel 4 cs = some (.lit (.bool b), p)) : cs = [.bool b] := by
  have ht := Tryd.underlying4
  cases fuel with
  | zero => simp [DataW.trod] at h
  | succ fuel =>
    match cs with
    | [] => simp [DataW.trod, ht] at h
    | _ :: _ :: _ => simp [DataW.trod, ht] at h
    | [c] =>
      cases c <;> simp [DataW.trod, ht] at h
      simp [h.1]
set_option maxRecDepth 100000 in
theorem flt_of_trod {fuel : Nat} {cs : List Value} {b : Nat} {p : List MemPlace} (h : DataW.trod enc Tryd.prog w 0 sp false fuel 29 cs = some (.lit (.float .f64 b), p)) : cs = [.float .f64 b] := by
  have ht := Tryd.underlying29
  cases fuel with
  | zero => simp [DataW.trod] at h
  | succ fuel =>
    match cs with
    | [] => simp [DataW.trod, ht] at h
    | _ :: _ :: _ => simp [DataW.trod, ht] at h
    | [c] =>
      cases c <;> simp [DataW.trod, ht] at h
      obtain ⟨⟨rfl, _⟩, rfl, _⟩ := h
      rfl
set_option maxRecDepth 100000 in
theorem uint_of_trod {fuel : Nat} {cs : List Value} {b : Int} {p : List MemPlace} (h : DataW.trod enc Tryd.prog w 0 sp false fuel 70 cs = some (.lit (.int .u64 b), p)) : cs = [.int .u64 b] := by
  have ht := Tryd.underlying70
  cases fuel with
  | zero => simp [DataW.trod] at h
  | succ fuel =>
    match cs with
    | [] => simp [DataW.trod, ht] at h
    | _ :: _ :: _ => simp [DataW.trod, ht] at h
    | [c] =>
      cases c <;> simp [DataW.trod, ht] at h
      obtain ⟨⟨rfl, _⟩, rfl, _⟩ := h
      rfl
end
theorem lt_cell {w : World} {a : Addr} {v : Value} (h : w.cell? a = some v) : a.block < w.heap.size := by
  rcases Nat.lt_or_ge a.block w.heap.size with h2 | h2
  · exact h2
  · rw [World.cell?, Array.getElem?_eq_none h2] at h
    cases h
set_option maxRecDepth 100000 in
theorem GL.of_laid {w : World} (h : laidMetH Tryd.prog Rows.lexNamesRow.laid w) : GL w.heap.size w := by
  have h2 : laidMet Tryd.prog Rows.lexNamesRow.laid w := h
  obtain ⟨ps, hv, _, _⟩ := h2
  obtain ⟨g0, t0, cs0, fu0, p0, q0, a0, b0, c0, d0, hv, _⟩ := hv
  obtain ⟨g1, t1, cs1, fu1, p1, q1, a1, b1, c1, d1, hv, _⟩ := hv
  obtain ⟨g2, t2, cs2, fu2, p2, q2, a2, b2, c2, d2, hv, _⟩ := hv
  obtain ⟨g3, t3, cs3, fu3, p3, q3, a3, b3, c3, d3, hv, _⟩ := hv
  obtain ⟨g4, t4, cs4, fu4, p4, q4, a4, b4, c4, d4, hv, _⟩ := hv
  obtain ⟨g5, t5, cs5, fu5, p5, q5, a5, b5, c5, d5, hv, _⟩ := hv
  obtain ⟨g6, t6, cs6, fu6, p6, q6, a6, b6, c6, d6, hv, _⟩ := hv
  obtain ⟨g7, t7, cs7, fu7, p7, q7, a7, b7, c7, d7, hv, _⟩ := hv
  obtain ⟨g8, t8, cs8, fu8, p8, q8, a8, b8, c8, d8, hv, _⟩ := hv
  obtain ⟨g9, t9, cs9, fu9, p9, q9, a9, b9, c9, d9, hv, _⟩ := hv
  obtain ⟨g10, t10, cs10, fu10, p10, q10, a10, b10, c10, d10, hv, _⟩ := hv
  clear hv
  obtain rfl : g4 = 5 := (Option.some.inj ((show Tryd.prog.globalNamed "internal/strconv.optimize" = some 5 by kernel_rfl).symm.trans a4)).symm
  obtain rfl : t4 = 4 := (Option.some.inj ((show (Tryd.prog.globals[(5 : Nat)]?).map (·.type) = some 4 by kernel_rfl).symm.trans b4)).symm
  obtain rfl : g6 = 9 := (Option.some.inj ((show Tryd.prog.globalNamed "internal/strconv.float64pow10" = some 9 by kernel_rfl).symm.trans a6)).symm
  obtain rfl : t6 = 136 := (Option.some.inj ((show (Tryd.prog.globals[(9 : Nat)]?).map (·.type) = some 136 by kernel_rfl).symm.trans b6)).symm
  have hat : ∀ (cs : Array Value) (v : Value) (r : List Value), cs.toList = v :: r → cs[0]? = some v := fun cs v r e => by rw [← Array.getElem?_toList, e]; rfl
  have hopt : w.cell? ⟨5, 0, none⟩ = some (.bool true) := by
    rw [World.var?_cell a4 c4 0]
    exact hat _ _ _ (bool_of_trod d4)
  have hpow : ∃ b o c, b < w.heap.size ∧ w.cell? ⟨9, 0, none⟩ = some (.slice (some ⟨b, o, none⟩) 23 c) ∧ w.cell? ⟨b, o + 2, none⟩ = some (.float .f64 4636737291354636288) := by
    obtain ⟨a, cap, hcs, _, hel⟩ := open_row Tryd.underlying136 (by kernel_rfl) d6
    obtain ⟨v, n, q, hc, ht⟩ := hel 2 _ rfl
    have hv := flt_of_trod ht
    cases hv
    obtain ⟨b, o, sp⟩ := a
    obtain ⟨v0, _, _, hc0, _⟩ := hel 0 _ rfl
    have hsp : sp = none := by simpa [Addr.add] using World.cell?_spot hc0
    subst hsp
    rw [show (⟨b, o, none⟩ : Addr).add 2 = ⟨b, o + 2, none⟩ by unfold Addr.add; split <;> simp_all] at hc
    refine ⟨b, o, cap, lt_cell hc, ?_, hc⟩
    rw [World.var?_cell a6 c6 0]
    exact hat _ _ _ hcs
  obtain rfl : g9 = 2 := (Option.some.inj ((show Tryd.prog.globalNamed "strconv.ErrRange" = some 2 by kernel_rfl).symm.trans a9)).symm
  obtain rfl : t9 = 26 := (Option.some.inj ((show (Tryd.prog.globals[(2 : Nat)]?).map (·.type) = some 26 by kernel_rfl).symm.trans b9)).symm
  obtain rfl : g10 = 1 := (Option.some.inj ((show Tryd.prog.globalNamed "strconv.ErrSyntax" = some 1 by kernel_rfl).symm.trans a10)).symm
  obtain rfl : t10 = 26 := (Option.some.inj ((show (Tryd.prog.globals[(1 : Nat)]?).map (·.type) = some 26 by kernel_rfl).symm.trans b10)).symm
  have hR : ∃ ev, w.cell? ⟨2, 0, none⟩ = some ev ∧ (ev = .nilIface ∨ ∃ te pe, ev = .iface te pe) := by
    obtain ⟨_, u, v, e, _, _⟩ := iface_of_trod Tryd.underlying26 d9
    exact ⟨_, by rw [World.var?_cell a9 c9 0]; exact hat _ _ _ e, Or.inr ⟨u, v, rfl⟩⟩
  have hS : ∃ ev, w.cell? ⟨1, 0, none⟩ = some ev ∧ (ev = .nilIface ∨ ∃ te pe, ev = .iface te pe) := by
    obtain ⟨_, u, v, e, _, _⟩ := iface_of_trod Tryd.underlying26 d10
    exact ⟨_, by rw [World.var?_cell a10 c10 0]; exact hat _ _ _ e, Or.inr ⟨u, v, rfl⟩⟩
  obtain rfl : g3 = 6 := (Option.some.inj ((show Tryd.prog.globalNamed "internal/strconv.float64info" = some 6 by kernel_rfl).symm.trans a3)).symm
  obtain rfl : t3 = 100 := (Option.some.inj ((show (Tryd.prog.globals[(6 : Nat)]?).map (·.type) = some 100 by kernel_rfl).symm.trans b3)).symm
  have hmant : w.cell? ⟨6, 0, none⟩ = some (.int .u64 52) := by
    obtain ⟨xs, n, _, hx, hcl, hxl, hf⟩ := DataW.trod_struct Tryd.underlying100 d3
    match xs, hxl with
    | [y0, y1, y2], _ =>
      have f0 := hf 0 _ rfl
      obtain ⟨y0a, y0p⟩ := y0
      have hy : y0a = .lit (.int .u64 52) := by
        have h1 := congrArg Prod.fst hx
        simp [Rows.laid_internal_strconv_float64info] at h1
        exact h1.1.symm
      subst hy
      have e : (cs3.toList.drop 0).take 1 = [.int .u64 52] := uint_of_trod f0
      rw [World.var?_cell a3 c3 0]
      cases hcs : cs3.toList with
      | nil => rw [hcs] at e; cases e
      | cons v r =>
        rw [hcs] at e
        cases e
        exact hat _ _ _ hcs
  exact ⟨lt_cell hpow.choose_spec.choose_spec.choose_spec.2.1, hopt, hmant, hpow, hS, hR⟩
end Go.Proofs.YtnhdedoobagbbaaDoor
