/- slices.Clone at strings, and the program's copy of a unit. -/
import Derived.Test.YtlhlbckmifgeeaaOwn
import Derived.Test.YtlhlbckmifgeeaaRef1
import Derived.Lib.SliceRun
import Derived.Deep.RegionWith
namespace Go.Proofs.Ytlhlbckmifgeeaa
open Go.RowKit

/-- A list of strings of the call's own. -/
def OS (base : Nat) (w : World) (v : Value) (ss : List ByteArray) : Prop := w.ownsRow base 9 1 v ss.length (ss.map Value.string)
theorem OS.below {base : Nat} {w w' : World} {v : Value} {ss : List ByteArray} (h : OS base w v ss) (hb : Below w.heap.size w w') : OS base w' v ss := own_below h hb

set_option maxHeartbeats 400000 in
theorem clone_any {p : Nat → Prop} {v : Value} {ss : List ByteArray} {w : World} (h : SLP p w v ss) :
    Calls Try.prog 35 #[v] w fun e w' => ∃ v', e = .returned v' ∧ OS w.heap.size w' v' ss ∧ Below w.heap.size w w' := by
  have h' := h
  obtain ⟨a, cap, rfl, _, hl, _⟩ := h'
  cases a with
  | none =>
    obtain ⟨_, rfl, rfl⟩ := nil_of_none h
    have hres := Lib.hid (show OS w.heap.size w (.slice none 0 0) [] from World.ownsRow_nil _ _ _ _)
    have hnil := fun (w : World) (a : Option Addr) (n c : Nat) => Lib.run_eql_slice_nil (P := Try.prog) w 30 9 a n c 0 0 Try.underlying30
    go_enter Try.func35, Try.ntmps35
    go_wp2_with fail
    go_ret
    exact ⟨_, rfl, hres.out, Below.refl _ _⟩
  | some ad =>
    obtain ⟨b, o, s⟩ := ad
    have hnil := fun (w : World) (a : Option Addr) (n c : Nat) => Lib.run_eql_slice_nil (P := Try.prog) w 30 9 a n c 0 0 Try.underlying30
    go_enter Try.func35, Try.ntmps35
    have tok1 : True := trivial
    go_wp2_with (at_builtin; have _t := tok1
                 refine append_strs rfl _ _ rfl w.heap.size (.slice (some ⟨w.heap.size, 0, none⟩) 0 0) 0 [] rfl (ownsRow_new0 (Nat.le_refl _) rfl) (.slice (some ⟨b, o, s⟩) ss.length cap) ss _ rfl (SLP.keeps (by (repeat' (first | (with_reducible exact Below.refl _ _) | (with_reducible assumption) | (with_reducible refine below_drewN ?_ _) | (with_reducible refine Below.drew ?_) | (with_reducible refine Below.alloc ?_ ?_ _) | (with_reducible refine Below.setCell ?_ ?_ _) | omega | (simp; done) | (simp; omega)))) h) (by omega) (by simp) ?_
                 intro v1 w1 hown1 hg1 hl1
                 have hbw1 : Below w.heap.size w w1 := Below.grown (w := w.alloc _) (by (repeat' (first | (with_reducible exact Below.refl _ _) | (with_reducible assumption) | (with_reducible refine below_drewN ?_ _) | (with_reducible refine Below.drew ?_) | (with_reducible refine Below.alloc ?_ ?_ _) | (with_reducible refine Below.setCell ?_ ?_ _) | omega | (simp; done) | (simp; omega)))) hg1 (by simp) (liesS (Nat.le_refl _))
                 have HR := Lib.hid (show OS w.heap.size w1 v1 ss by simpa [OS] using hown1)
                 clear tok1 hown1 hl1)
    go_ret
    exact ⟨_, rfl, HR.out, hbw1⟩

theorem OS.mono {base base' : Nat} {w : World} {v : Value} {ss : List ByteArray} (h : OS base w v ss) (hb : base' ≤ base) : OS base' w v ss := by
  obtain ⟨h1, h2⟩ := h
  refine ⟨h1, ?_⟩
  rcases h2 with h2 | ⟨g, cap, cur, hv, hg, r⟩
  · exact Or.inl h2
  · exact Or.inr ⟨g, cap, cur, hv, Nat.le_trans hb hg, r⟩
theorem OS.set {base : Nat} {w : World} {v : Value} {ss : List ByteArray} (h : OS base w v ss) {a : Addr} (ha : a.block < base) (x : Value) : OS base (w.setCell a x) v ss := ownsRow_setCell_below h ha x
theorem OS.keptG {base : Nat} {w w' : World} {v : Value} {ss : List ByteArray} {row : Option Nat} (h : OS base w v ss) (hg : w.grownBy w' row) (hr : ∀ k, row = some k → k < base) : OS base w' v ss :=
  World.ownsRow.kept h hg (by
    cases hv : v.ownBlock with
    | none => exact Or.inl rfl
    | some j => exact Or.inr (fun e => by have h1 := (World.ownsRow.lt h j hv).1; have h2 := hr j e.symm; omega))
theorem OS.low {base : Nat} {w : World} {v : Value} {ss : List ByteArray} (h : OS base w v ss) {g : Nat} (hg : g < base) : some g ≠ v.ownBlock := fun e => by have := (World.ownsRow.lt h g e.symm).1; omega
theorem OS.lows {base : Nat} {w : World} {v : Value} {ss : List ByteArray} (h : OS base w v ss) : ∀ j, v.ownBlock = some j → base ≤ j := fun j hj => (World.ownsRow.lt h j hj).1
theorem OS.snoc {base : Nat} {w : World} {v : Value} {ss : List ByteArray} {s : ByteArray} (h : w.ownsRow base 9 1 v (ss.length + 1) (ss.map Value.string ++ [.string s])) : OS base w v (ss ++ [s]) := by
  unfold OS
  simpa using h
theorem OS.slp {base : Nat} {w : World} {v : Value} {ss : List ByteArray} (h : OS base w v ss) (hl : ss.length ≤ 8796093021952) (hs : ∀ s, s ∈ ss → s.size ≤ maxLen) : SLP (fun b => base ≤ b ∧ v.ownBlock = some b) w v ss := by
  obtain ⟨hx, hc⟩ := h
  rcases hc with ⟨rfl, h0⟩ | ⟨g, cap, cur, rfl, hb, hh, hle, hm, hsz, htk⟩
  · have : ss = [] := List.eq_nil_of_length_eq_zero h0
    subst this
    exact ⟨none, 0, rfl, fun _ => rfl, hl, fun i s h => by simp at h⟩
  · refine ⟨_, _, rfl, (fun h => by cases h), hl, fun i s hi => ⟨g, 0, rfl, ?_, hs s (List.mem_of_getElem? hi), hb, rfl⟩⟩
    rw [Nat.zero_add, cell_of_row w g i cur 9 (0, 0) hh]
    have hlt := (List.getElem?_eq_some_iff.1 hi).1
    have : (ss.map Value.string)[i]? = some (Value.string s) := by rw [List.getElem?_map, hi]; rfl
    rw [← htk, List.getElem?_take] at this
    split at this
    · simpa using this
    · cases this
theorem OS.slpF {base : Nat} {w : World} {v : Value} {ss : List ByteArray} (h : OS base w v ss) (hl : ss.length ≤ 8796093021952) (hs : ∀ s, s ∈ ss → s.size ≤ maxLen) : SLP (fun b => base ≤ b ∧ Fz w b) w v ss :=
  (h.slp hl hs).mono fun _ hb => ⟨hb.1, own_fz h hb.2⟩
theorem OS.shape {base : Nat} {w : World} {v : Value} {ss : List ByteArray} (h : OS base w v ss) : ∃ a cap, v = .slice a ss.length cap := by
  rcases h.2 with ⟨rfl, h0⟩ | ⟨g, cap, _, rfl, _⟩
  · exact ⟨none, 0, by rw [h0]⟩
  · exact ⟨_, _, rfl⟩

set_option maxHeartbeats 800000 in
theorem copiedU_any {p : Nat → Prop} {v : Value} {u : U} {w : World} (h : UVP p w v u) :
    Calls Try.prog 26 #[v] w fun e w' => ∃ r f, e = .returned (.agg #[.string u.name, .string u.start, r, f]) ∧ OS w.heap.size w' r u.req ∧ OS w.heap.size w' f u.aft ∧ Below w.heap.size w w' := by
  obtain ⟨r, f, rfl, hn, hs, hr, hf⟩ := h
  have hr' := hr
  have hf' := hf
  obtain ⟨ra, rc, rfl, _⟩ := hr'
  obtain ⟨fa, fc, rfl, _⟩ := hf'
  go_enter Try.func26, Try.ntmps26
  go_wp2
  have hbl : Below w.heap.size w ((w.alloc (Obj.cells #[Value.string u.name, Value.string u.start, Value.slice ra u.req.length rc, Value.slice fa u.aft.length fc] 32)).alloc (Obj.cells #[Value.string { data := #[] }, Value.string { data := #[] }, Value.slice none 0 0, Value.slice none 0 0] 32)) := (by (repeat' (first | (with_reducible exact Below.refl _ _) | (with_reducible assumption) | (with_reducible refine below_drewN ?_ _) | (with_reducible refine Below.drew ?_) | (with_reducible refine Below.alloc ?_ ?_ _) | (with_reducible refine Below.setCell ?_ ?_ _) | omega | (simp; done) | (simp; omega))))
  have hsz : w.heap.size + 2 = ((w.alloc (Obj.cells #[Value.string u.name, Value.string u.start, Value.slice ra u.req.length rc, Value.slice fa u.aft.length fc] 32)).alloc (Obj.cells #[Value.string { data := #[] }, Value.string { data := #[] }, Value.slice none 0 0, Value.slice none 0 0] 32)).heap.size := by simp
  have hB0 := block_alloc (block_new w (Obj.cells #[Value.string u.name, Value.string u.start, Value.slice ra u.req.length rc, Value.slice fa u.aft.length fc] 32) rfl) (Obj.cells #[Value.string { data := #[] }, Value.string { data := #[] }, Value.slice none 0 0, Value.slice none 0 0] 32)
  have hB1 := block_new (w.alloc (Obj.cells #[Value.string u.name, Value.string u.start, Value.slice ra u.req.length rc, Value.slice fa u.aft.length fc] 32)) (Obj.cells #[Value.string { data := #[] }, Value.string { data := #[] }, Value.slice none 0 0, Value.slice none 0 0] 32) (g := w.heap.size + 1) (by simp)
  generalize ((w.alloc (Obj.cells #[Value.string u.name, Value.string u.start, Value.slice ra u.req.length rc, Value.slice fa u.aft.length fc] 32)).alloc (Obj.cells #[Value.string { data := #[] }, Value.string { data := #[] }, Value.slice none 0 0, Value.slice none 0 0] 32)) = w0 at *
  have HSZ := Lib.hid hsz
  have HB0 := Lib.hid hB0
  have HB1 := Lib.hid hB1
  clear hsz hB0 hB1
  have c2 := block_cell (i := 2) HB0.out rfl
  have c3 := block_cell (i := 3) HB0.out rfl
  have tok1 : True := trivial
  go_region_with (first
    | (go_at_call 35; have _t := tok1
       refine (clone_any (SLP.keeps hbl.drew hr)).mono ?_
       rintro e w1 ⟨v1, rfl, hos1, hb1⟩
       obtain ⟨a1, k1, rfl⟩ := hos1.shape
       have hb1 : Below w0.heap.size w0 w1 := (Below.refl _ _).drew.trans hb1
       have hz1 := hb1.size
       have hbw1 : Below w.heap.size w w1 := hbl.trans (hb1.mono (by have := HSZ.out; omega))
       have G0 := Lib.hid ((hb1.block w.heap.size (by have := HSZ.out; omega)).trans HB0.out)
       have G1 := Lib.hid ((hb1.block (w.heap.size + 1) (by have := HSZ.out; omega)).trans HB1.out)
       have d3 := block_cell (i := 3) G0.out rfl
       clear tok1)
    | (go_at_call 35
       refine (clone_any (SLP.keeps hbw1 hf)).mono ?_
       rintro e w2 ⟨v2, rfl, hos2, hb2⟩
       obtain ⟨a2, k2, rfl⟩ := hos2.shape
       have hz2 := hb2.size
       have hbw2 : Below w.heap.size w w2 := hbw1.trans (hb2.mono hbw1.size)
       have J0 := Lib.hid ((hb2.block w.heap.size (by have := HSZ.out; omega)).trans G0.out)
       have J1 := Lib.hid ((hb2.block (w.heap.size + 1) (by have := HSZ.out; omega)).trans G1.out)
       have e0 := block_cell (i := 0) J0.out rfl
       have e1 := block_cell (i := 1) J0.out rfl
       have e2 := block_cell (i := 2) J0.out rfl
       have e3 := block_cell (i := 3) J0.out rfl
       have f2 := block_free (i := 2) J0.out
       have f3 := block_free (i := 3) J0.out
       have z0 := block_cell (i := 0) J1.out rfl
       have z1 := block_cell (i := 1) J1.out rfl
       have z2 := block_cell (i := 2) J1.out rfl
       have z3 := block_cell (i := 3) J1.out rfl
       have y0 := block_free (i := 0) J1.out
       have y1 := block_free (i := 1) J1.out
       have y2 := block_free (i := 2) J1.out
       have y3 := block_free (i := 3) J1.out))
  go_wp2
  all_goals
    refine bodyPost_ret (v := .agg #[.string u.name, .string u.start, .slice a1 u.req.length k1, .slice a2 u.aft.length k2]) (by simp [results, Try.results26, go_sem, z0, z1, z2, z3]) rfl ⟨_, _, rfl, ?_, ?_, ?_⟩
    · have hq : w.heap.size + 1 < w0.drew.heap.size := by have := HSZ.out; simp; omega
      exact ((((((OS.mono hos1 (Nat.le_refl _)).below hb2).set (by simp at hq ⊢; omega) _).set (by simp at hq ⊢; omega) _).set (by simp at hq ⊢; omega) _).set (by simp at hq ⊢; omega) _ |>.set (by simp at hq ⊢; omega) _ |>.set (by simp at hq ⊢; omega) _).mono (by simp at hq ⊢; omega)
    · have hq : w.heap.size + 1 < w1.heap.size := by have := HSZ.out; omega
      exact ((((((OS.mono hos2 (Nat.le_refl _)).set (by simp; omega) _).set (by simp; omega) _).set (by simp; omega) _).set (by simp; omega) _).set (by simp; omega) _ |>.set (by simp; omega) _).mono (by omega)
    · (repeat' (first | (with_reducible exact Below.refl _ _) | (with_reducible assumption) | (with_reducible refine below_drewN ?_ _) | (with_reducible refine Below.drew ?_) | (with_reducible refine Below.alloc ?_ ?_ _) | (with_reducible refine Below.setCell ?_ ?_ _) | omega | (simp; done) | (simp; omega)))
end Go.Proofs.Ytlhlbckmifgeeaa
