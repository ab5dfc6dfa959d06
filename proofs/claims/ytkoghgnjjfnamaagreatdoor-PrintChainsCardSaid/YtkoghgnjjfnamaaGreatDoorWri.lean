/- The writer: a block that holds nodes and a builder; what a call that writes leaves as it was; strings.Builder's WriteString and String in such a block. -/
import Derived.Test.YtkoghgnjjfnamaaGreatDoorShelf
import Derived.Test.YtkoghgnjjfnamaaGreatDoorGa
import Derived.Test.YtkoghgnjjfnamaaGreatDoorGb
import Derived.Lib.AppendStr
import Derived.Lib.Builder
import Derived.Lib.Walk
namespace Go.Proofs.YtkoghgnjjfnamaaGreatDoor
open Go.RowKit Go.Shelf
set_option linter.unusedSimpArgs false
set_option linter.unusedVariables false
theorem grown_bel {w w' : World} (hb : Below w.heap.size w w') : w.grownBy w' none := ⟨hb.os, hb.tape, hb.output, hb.size, fun k hk _ => hb.block k hk⟩
/-- What a call that writes to g leaves as it was: all below g, and all blocks of cells but g and rows of bytes. -/
structure KW (g : Nat) (w w' : World) : Prop where
  below : Below g w w'
  keep : ∀ (k : Nat) (cs : Array Value) (ty : TypeId) (fr : Nat × Nat), k ≠ g → ty ≠ 5 → w.heap[k]? = some (.cells cs ty fr) → w'.heap[k]? = some (.cells cs ty fr)
theorem KW.refl (g : Nat) (w : World) : KW g w w := ⟨Below.refl _ _, fun _ _ _ _ _ _ h => h⟩
theorem KW.trans {g : Nat} {a b c : World} (h : KW g a b) (k : KW g b c) : KW g a c := ⟨h.below.trans k.below, fun i cs ty fr h1 h2 h3 => k.keep i cs ty fr h1 h2 (h.keep i cs ty fr h1 h2 h3)⟩
theorem KW.alloc {g : Nat} {a w : World} (h : KW g a w) (hg : g ≤ w.heap.size) (o : Obj) : KW g a (w.alloc o) :=
  ⟨h.below.alloc hg o, fun k cs ty fr h1 h2 h3 => by
    have h4 := h.keep k cs ty fr h1 h2 h3
    rw [Below.heap_alloc _ _ _ (block_lt h4)]
    exact h4⟩
theorem KW.setCell {g : Nat} {a w : World} (h : KW g a w) (off : Nat) (u : Value) : KW g a (w.setCell ⟨g, off, none⟩ u) :=
  ⟨h.below.setCell (p := ⟨g, off, none⟩) (Nat.le_refl _) u, fun k cs ty fr h1 h2 h3 => by rw [Below.heap_setCell _ _ _ _ h1]; exact h.keep k cs ty fr h1 h2 h3⟩
theorem KW.grown {g B : Nat} {a w w' : World} (h : KW g a w) {v : Value} {n : Nat} {xs : List Value} (hB : g ≤ B) (hg : g ≤ w.heap.size) (ho : w.ownsRow B 5 1 v n xs) (hgr : w.grownBy w' v.ownBlock) : KW g a w' :=
  ⟨h.below.grown hgr hg (fun k hk => Nat.le_trans hB (ho.lt k hk).1), fun k cs ty fr h1 h2 h3 => by
    have h4 := h.keep k cs ty fr h1 h2 h3
    rw [hgr.block k (block_lt h4) (fun e => Lib.ownBlock_ne ho h4 h2 e.symm)]
    exact h4⟩
theorem KW.cell {g : Nat} {w w' : World} (h : KW g w w') {k : Nat} {cs : Array Value} {ty : TypeId} {fr : Nat × Nat} (hk : k ≠ g) (ht : ty ≠ 5) (h1 : w.heap[k]? = some (.cells cs ty fr)) : w'.heap[k]? = some (.cells cs ty fr) := h.keep k cs ty fr hk ht h1
/-- The writer stands at g, holds the nodes fv, and has written bs. -/
def WR (g : Nat) (fv : Value) (bs : List UInt8) (w : World) : Prop :=
  ∃ p v, (p = .pointer none ∨ p = .pointer (some ⟨g, 1, none⟩)) ∧ w.heap[g]? = some (.cells #[fv, p, v] 63 (0, 0)) ∧ w.ownsRow (g + 1) 5 1 v bs.length (Lib.byteCells bs)
theorem WR.lt {g : Nat} {fv : Value} {bs : List UInt8} {w : World} (h : WR g fv bs w) : g < w.heap.size := by
  obtain ⟨p, v, _, h1, _⟩ := h
  exact block_lt h1
theorem WR.f {g : Nat} {fv : Value} {bs : List UInt8} {w : World} (h : WR g fv bs w) : w.cell? ⟨g, 0, none⟩ = some fv := by
  obtain ⟨p, v, _, h1, _⟩ := h
  exact block_cell h1 rfl
theorem WR.alloc {g : Nat} {fv : Value} {bs : List UInt8} {w : World} (h : WR g fv bs w) (o : Obj) : WR g fv bs (w.alloc o) := by
  have hl := h.lt
  obtain ⟨p, v, h0, h1, h2⟩ := h
  exact ⟨p, v, h0, block_alloc h1 _, h2.alloc _⟩
theorem WR.keep {g : Nat} {fv : Value} {bs : List UInt8} {w w' : World} (h : WR g fv bs w) (hb : Below w.heap.size w w') : WR g fv bs w' := by
  have hl := h.lt
  obtain ⟨p, v, h0, h1, h2⟩ := h
  exact ⟨p, v, h0, (hb.block g hl).trans h1, h2.kept (grown_bel hb) (by cases v.ownBlock <;> simp)⟩
theorem KW.of_below {g : Nat} {w w' : World} (hg : g ≤ w.heap.size) (hb : Below w.heap.size w w') : KW g w w' :=
  ⟨hb.mono hg, fun k cs ty fr _ _ h => (hb.block k (block_lt h)).trans h⟩
/-- .. and its builder has been used. -/
def WU (g : Nat) (fv : Value) (bs : List UInt8) (w : World) : Prop :=
  ∃ v, w.heap[g]? = some (.cells #[fv, .pointer (some ⟨g, 1, none⟩), v] 63 (0, 0)) ∧ w.ownsRow (g + 1) 5 1 v bs.length (Lib.byteCells bs)
theorem WU.wr {g : Nat} {fv : Value} {bs : List UInt8} {w : World} (h : WU g fv bs w) : WR g fv bs w := by
  obtain ⟨v, h1, h2⟩ := h
  exact ⟨_, v, Or.inr rfl, h1, h2⟩
set_option maxHeartbeats 1000000 in
set_option maxRecDepth 100000 in
theorem checkW_any (g : Nat) (fv : Value) (bs : List UInt8) (w : World) (h : WR g fv bs w) :
    Calls Tryz.prog 77 #[.pointer (some ⟨g, 1, none⟩)] w fun e w' => e = .returned (.tuple #[]) ∧ WU g fv bs w' ∧ KW g w w' := by
  obtain ⟨p, v, hp, hk, ho⟩ := h
  have hlt := block_lt hk
  obtain ⟨j, hj, hjs⟩ := Option.map_eq_some_iff.1 (show (Tryz.prog.info? 61).map (·.size) = some 2 by kernel_rfl)
  have c1 : w.cell? ⟨g, 1, none⟩ = some p := block_cell hk rfl
  rcases hp with rfl | rfl
  · have hsh : w.shape? g = some (63, 3) := by simp [World.shape?, hk]
    have hfz : w.frozen? ⟨g, 1, none⟩ = false := block_free hk
    have HK := Lib.hid hk
    clear hk
    go_enter Tryz.func77, Tryz.ntmps77
    go_wp2
    rw [Lib.run_to_unsafe w ⟨g, 1, none⟩ Tryz.underlying58 Tryz.underlying151 hj (by rw [hjs]; decide) hsh (by show 1 < 3; decide)]
    simp only [Result.andThen]
    rw [Oper.upon_value]
    go_wp2
    rw [run_callFunc_extern Tryz.func103 (by kernel_rfl) (by kernel_rfl) (by kernel_rfl) (e := Extern.AbiNoEscape.same) (by kernel_rfl)]
    rw [Lib.run_noEscape]
    simp only [Result.andThen]
    rw [Oper.upon_value]
    go_wp2
    rw [Lib.run_from_unsafe w ⟨g, 1, none⟩ Tryz.underlying151 Tryz.underlying58 hj hsh (by kernel_rfl)]
    simp only [Result.andThen]
    rw [Oper.upon_value]
    go_wp2
    go_end0
    refine ⟨rfl, ⟨v, ?_, ?_⟩, (KW.refl g w).setCell _ _⟩
    · have := block_set HK.out (i := 1) (.pointer (some ⟨g, 1, none⟩))
      simpa using this
    · exact ho.kept (row := some g) ⟨rfl, rfl, rfl, by simp [World.setCell], fun k _ hk => Below.heap_setCell _ _ _ _ (fun e => hk (by simp [e]))⟩ (Or.inr (fun e => by have := (ho.lt g e).1; omega))
  · have HK := Lib.hid hk
    clear hk
    go_enter Tryz.func77, Tryz.ntmps77
    go_wp2
    rw [Lib.run_neq_ptr_same w _ Tryz.underlying58 hj]
    go_wp2
    go_end0
    exact ⟨rfl, ⟨v, HK.out, ho⟩, KW.refl g w⟩
set_option maxHeartbeats 2000000 in
set_option maxRecDepth 100000 in
theorem writeS_any (g : Nat) (fv : Value) (bs : List UInt8) (s : ByteArray) (w : World) (h : WR g fv bs w) (hlen : bs.length + s.size ≤ 140737488355328) :
    Calls Tryz.prog 64 #[.pointer (some ⟨g, 1, none⟩), .string s] w fun e w' => (∃ v, e = .returned v) ∧ WU g fv (bs ++ s.data.toList) w' ∧ KW g w w' := by
  obtain ⟨i0, hi, hz0, hz1, hz2⟩ := info_parts infoB1
  go_enter Tryz.func64, Tryz.ntmps64
  go_wp2_with fail
  refine (checkW_any g fv bs _ h).mono ?_
  rintro e w1 ⟨rfl, h1, hk1⟩
  obtain ⟨v, hbk, hown⟩ := h1
  have c1 : w1.cell? ⟨g, 1, none⟩ = some (.pointer (some ⟨g, 1, none⟩)) := by rw [Lib.cell_of_heap hbk]; rfl
  have c2 : w1.cell? ⟨g, 2, none⟩ = some v := by rw [Lib.cell_of_heap hbk]; rfl
  have hgl := block_lt hbk
  have HBK := Lib.hid hbk
  clear hbk
  go_wp2_with (at_builtin; refine Lib.wpList_append_own_string _ rfl _ _ 59 9 rfl (g + 1) 5 i0 Tryz.underlying59 Tryz.underlying9 hi hz0 hz1 hz2 _ _ _ rfl hown _ rfl ?c3 ?c4 ?c5 ?_)
  case c3 => unfold maxLen; omega
  case c4 => omega
  case c5 => omega
  intro v' w2 hown' hgrow _
  have hb2 : w2.heap[g]? = some (.cells #[fv, .pointer (some ⟨g, 1, none⟩), v] 63 (0, 0)) := by
    rw [hgrow.block g (by omega) (fun e => by have := (hown.lt g e.symm).1; omega)]
    exact HBK.out
  have d1 : w2.cell? ⟨g, 1, none⟩ = some (.pointer (some ⟨g, 1, none⟩)) := by rw [Lib.cell_of_heap hb2]; rfl
  have d2 : w2.cell? ⟨g, 2, none⟩ = some v := by rw [Lib.cell_of_heap hb2]; rfl
  have f2 : w2.frozen? ⟨g, 2, none⟩ = false := Lib.frozen_of_heap hb2 2
  have HB2 := Lib.hid hb2
  clear hb2
  obtain ⟨va, vc, rfl⟩ := own_shape hown'
  go_wp2
  go_ret2
  refine ⟨⟨_, rfl⟩, ⟨.slice va (bs.length + s.size) vc, ?_, ?_⟩, (hk1.grown (Nat.le_succ g) (by omega) hown hgrow).setCell _ _⟩
  · have := block_set HB2.out (i := 2) (.slice va (bs.length + s.size) vc)
    simpa using this
  · have h3 := hown'.kept (w' := w2.setCell ⟨g, 2, none⟩ (.slice va (bs.length + s.size) vc)) (row := some g) ⟨rfl, rfl, rfl, by simp [World.setCell], fun k _ hk => Below.heap_setCell _ _ _ _ (fun e => hk (by simp [e]))⟩ (Or.inr (fun e => by have := (hown'.lt g e).1; omega))
    have e1 : (bs ++ s.data.toList).length = bs.length + s.size := by rw [List.length_append, Array.length_toList]; rfl
    have e2 : Lib.byteCells (bs ++ s.data.toList) = Lib.byteCells bs ++ Lib.strCells s := by simp [Lib.byteCells, Lib.strCells]
    rw [e1, e2]
    exact h3
end Go.Proofs.YtkoghgnjjfnamaaGreatDoor
