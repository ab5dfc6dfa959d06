/- A string as it is written: strings.NewReplacer(..).Replace, value.quote: the walks. -/
import Derived.Test.YthefajkihnlgfaaGreatDoorM17
import Derived.Test.YthefajkihnlgfaaGreatDoorRepR
import Derived.Test.YthefajkihnlgfaaGreatDoorVBase
import Derived.Test.YthefajkihnlgfaaGreatDoorM03
import Derived.Test.YthefajkihnlgfaaGreatDoorShelf
import Derived.Lib.AppendStr
import Derived.Lib.Builder
import Derived.Lib.Walk
import Derived.Test.YthefajkihnlgfaaGreatDoorFlR
namespace Go.Proofs.YthefajkihnlgfaaGreatDoor
open Go.RowKit
set_option linter.unusedSimpArgs false
set_option linter.unusedVariables false
def repC (d i : Int) (r on : Value) : Array Value := #[.int .u32 d, .int .i32 i, .int .u32 0, r, on]
set_option maxHeartbeats 4000000 in
set_option maxRecDepth 100000 in
theorem newRep_any (q qc : Nat) (w : World) (hq : ∀ j s, qeO[j]? = some s → w.cell? ⟨q, j, none⟩ = some (.string s)) :
    Calls Tryz.prog 36 #[.slice (some ⟨q, 0, none⟩) 8 qc] w fun e w' => ∃ b nb nc, e = .returned (.pointer (some ⟨b, 0, none⟩)) ∧ w.heap.size ≤ b ∧ w.heap.size ≤ nb ∧ nb < b ∧ Below w.heap.size w w' ∧
      w'.heap[b]? = some (.cells (repC 0 0 .nilIface (.slice (some ⟨nb, 0, none⟩) 8 nc)) 97 (0, 0)) ∧ ∀ j s, qeO[j]? = some s → w'.cell? ⟨nb, j, none⟩ = some (.string s) := by
  obtain ⟨i0, hi, hz0, hz1, hz2⟩ := info_parts infoSt
  have HQ := Lib.hid hq
  clear hq
  go_enter Tryz.func36, Tryz.ntmps36
  go_wp2_with (at_builtin
               go_loud (refine wpList_append_own_at w rfl _ _ 24 rfl w.heap.size 9 i0 _ 1 16 Tryz.underlying24 hi hz0 hz1 hz2 rfl (by decide) (.slice none 0 0) 0 [] rfl ⟨rfl, Or.inl ⟨rfl, rfl⟩⟩ ⟨q, 0, none⟩ 8 qc (qeO.map Value.string) rfl rfl ?c1 ?c2 (by unfold maxLen; omega) (by omega) (Nat.le_refl _) ?_))
  case c1 =>
    intro j u hj
    rw [List.getElem?_map] at hj
    obtain ⟨s, hs, rfl⟩ := Option.map_eq_some_iff.1 hj
    have e : (⟨q, 0, none⟩ : Addr).add j = ⟨q, j, none⟩ := by cases j <;> simp [Addr.add]
    rw [e]
    exact HQ.out j s hs
  case c2 =>
    intro u hu
    obtain ⟨s, _, rfl⟩ := List.mem_map.1 hu
    rfl
  intro v' w2 hown hgr _ hbl
  obtain ⟨a2, c2, rfl⟩ := own_shape hown
  obtain ⟨nb, cap, cur, hv, hnb, hh, h1, h2, h3, h4⟩ : ∃ g cap cur, Value.slice a2 (0 + 8) c2 = .slice (some ⟨g, 0, none⟩) (0 + 8) cap ∧ w.heap.size ≤ g ∧ w2.heap[g]? = some (.cells cur 9 (0, 0)) ∧ 0 + 8 ≤ cap ∧ cap ≤ maxLen ∧ cur.size = cap * 1 ∧ cur.toList.take ((0 + 8) * 1) = [] ++ qeO.map Value.string := by
    rcases hown.2 with ⟨_, h⟩ | h
    · cases h
    · exact h
  cases hv
  have hb2 : Below w.heap.size w w2 := ⟨hgr.os, hgr.tape, hgr.output, hgr.size, fun k hk => hgr.block k hk (by simp [Value.ownBlock])⟩
  have hnl := block_lt hh
  have HC : Hid (∀ j s, qeO[j]? = some s → cur[j]? = some (Value.string s)) := Lib.hid (fun j s hj => by
    have hj8 : j < 8 := (List.getElem?_eq_some_iff.1 hj).1
    have e : (cur.toList.take ((0 + 8) * 1))[j]? = some (Value.string s) := by rw [h4, List.nil_append, List.getElem?_map, hj]; rfl
    rw [List.getElem?_take, if_pos (by omega), Array.getElem?_toList] at e
    exact e)
  clear hown hgr hbl h1 h2 h3 h4
  have HH := Lib.hid hh
  clear hh
  go_wp2_with fail
  go_ret
  refine ⟨w2.heap.size, nb, c2, rfl, hb2.size, hnb, hnl, hb2.alloc hb2.size _, block_new _ _ rfl, fun j s hj => ?_⟩
  exact block_cell (block_alloc HH.out _) (HC.out j s hj)
set_option maxHeartbeats 4000000 in
set_option maxRecDepth 100000 in
theorem buildOnce_any (b nb nc : Nat) (w : World) (hbk : w.heap[b]? = some (.cells (repC 0 1 .nilIface (.slice (some ⟨nb, 0, none⟩) 8 nc)) 97 (0, 0))) (hn : ∀ j s, qeO[j]? = some s → w.cell? ⟨nb, j, none⟩ = some (.string s)) :
    Calls Tryz.prog 44 #[.pointer (some ⟨b, 0, none⟩)] w fun e w' => e = .returned (.tuple #[]) ∧ ∃ rb, w.heap.size ≤ rb ∧ w'.heap[b]? = some (.cells (repC 0 1 (.iface 130 (.pointer (some ⟨rb, 0, none⟩))) (.slice none 0 0)) 97 (0, 0)) ∧ BSR w.heap.size rb w' ∧ Below b w w' := by
  have hbl := block_lt hbk
  have HBD := Lib.hid (build_any b nb nc w (block_cell hbk rfl) hn)
  have HBK := Lib.hid hbk
  clear hbk hn
  go_enter Tryz.func44, Tryz.ntmps44
  go_wp2_with fail
  refine HBD.out.mono ?_
  rintro e w2 ⟨rb, hrb, rfl, hbs, hb⟩
  have hk2 := block_below HBK.out hb
  have c3 : w2.cell? ⟨b, 3, none⟩ = some .nilIface := block_cell hk2 rfl
  have c4 : w2.cell? ⟨b, 4, none⟩ = some (.slice (some ⟨nb, 0, none⟩) 8 nc) := block_cell hk2 rfl
  have hf : ∀ j, w2.frozen? ⟨b, j, none⟩ = false := fun j => block_free hk2
  have hz2 := hb.size
  have HK2 := Lib.hid hk2
  have HBS := Lib.hid hbs
  clear hk2 hbs
  go_wp2_with fail
  go_end0
  refine ⟨rfl, rb, hrb, ?_, ?_, ?_⟩
  · have h1 := block_set (block_set HK2.out (i := 3) (.iface 130 (.pointer (some ⟨rb, 0, none⟩)))) (i := 4) (.slice none 0 0)
    simpa [repC] using h1
  · refine HBS.out.keepsAt fun k hk1 hk2 => ?_
    have hne : k ≠ b := by omega
    rw [Below.heap_setCell _ _ _ _ hne, Below.heap_setCell _ _ _ _ hne]
  · exact ((hb.mono (show b ≤ w.heap.size by omega)).setCell (p := ⟨b, 3, none⟩) (Nat.le_refl _) _).setCell (p := ⟨b, 4, none⟩) (Nat.le_refl _) _
set_option maxHeartbeats 4000000 in
set_option maxRecDepth 100000 in
theorem replace_any (b nb nc : Nat) (s : ByteArray) (hs : s.size ≤ 1000000) (w : World) (hnb : nb < b) (hbk : w.heap[b]? = some (.cells (repC 0 0 .nilIface (.slice (some ⟨nb, 0, none⟩) 8 nc)) 97 (0, 0))) (hn : ∀ j s, qeO[j]? = some s → w.cell? ⟨nb, j, none⟩ = some (.string s)) :
    Calls Tryz.prog 37 #[.pointer (some ⟨b, 0, none⟩), .string s] w fun e w' => e = .returned (.string ⟨(qeL s.data.toList).toArray⟩) ∧ Below b w w' := by
  have hbl := block_lt hbk
  have HON := Lib.hid (onceDo_any b 0 44 (.pointer (some ⟨b, 0, none⟩)) (fun w' => ∃ rb, w.heap.size ≤ rb ∧ w'.heap[b]? = some (.cells (repC 0 1 (.iface 130 (.pointer (some ⟨rb, 0, none⟩))) (.slice none 0 0)) 97 (0, 0)) ∧ BSR w.heap.size rb w' ∧ Below b w w') w
    (block_cell hbk rfl) (block_cell hbk rfl) (block_free hbk) ?h1 ?h2 ?h3)
  case h1 =>
    have e : (w.setCell ⟨b, 0 + 1, none⟩ (.int .i32 1)).heap[b]? = some (.cells (repC 0 1 .nilIface (.slice (some ⟨nb, 0, none⟩) 8 nc)) 97 (0, 0)) := by
      have := block_set hbk (i := 1) (.int .i32 1)
      simpa [repC] using this
    refine (buildOnce_any b nb nc _ e (fun j s hj => ?_)).mono ?_
    · rw [World.cell?_setCell_other _ _ _ _ (by simp <;> omega)]
      exact hn j s hj
    · rintro e w' ⟨rfl, rb, h1, h2, h3, h4⟩
      exact ⟨rfl, rb, by simpa using h1, h2, by simpa using h3, ((Below.refl b w).setCell (p := ⟨b, 1, none⟩) (Nat.le_refl _) _).trans h4⟩
  case h2 =>
    rintro w' ⟨rb, _, h2, _, _⟩
    exact ⟨block_cell h2 rfl, block_free h2, block_cell h2 rfl, block_free h2⟩
  case h3 => exact fun args w => by first | rfl | go_simp
  clear hbk hn
  go_enter Tryz.func37, Tryz.ntmps37
  go_wp2_with fail
  refine HON.out.mono ?_
  rintro e w1 ⟨rfl, w2, ⟨rb, hrb, hk2, hbs, hb2⟩, rfl⟩
  have hk3 : (((w2.drew.setCell ⟨b, 0, none⟩ (.int .u32 1)).setCell ⟨b, 0 + 1, none⟩ (.int .i32 0))).heap[b]? = some (.cells #[.int .u32 1, .int .i32 0, .int .u32 0, .iface 130 (.pointer (some ⟨rb, 0, none⟩)), .slice none 0 0] 97 (0, 0)) := by
    have h0 : w2.drew.heap[b]? = some (.cells (repC 0 1 (.iface 130 (.pointer (some ⟨rb, 0, none⟩))) (.slice none 0 0)) 97 (0, 0)) := hk2
    have := block_set (block_set h0 (i := 0) (.int .u32 1)) (i := 0 + 1) (.int .i32 0)
    simpa [repC] using this
  have hB3 : Below b w ((w2.drew.setCell ⟨b, 0, none⟩ (.int .u32 1)).setCell ⟨b, 0 + 1, none⟩ (.int .i32 0)) := (hb2.drew.setCell (p := ⟨b, 0, none⟩) (Nat.le_refl _) _).setCell (p := ⟨b, 0 + 1, none⟩) (Nat.le_refl _) _
  have hbs3 : BSR w.heap.size rb ((w2.drew.setCell ⟨b, 0, none⟩ (.int .u32 1)).setCell ⟨b, 0 + 1, none⟩ (.int .i32 0)) := hbs.keepsAt fun k hk1 hk2 => by
    have hne : k ≠ b := by omega
    rw [Below.heap_setCell _ _ _ _ hne, Below.heap_setCell _ _ _ _ hne]
    rfl
  generalize (w2.drew.setCell ⟨b, 0, none⟩ (.int .u32 1)).setCell ⟨b, 0 + 1, none⟩ (.int .i32 0) = w3 at *
  have c3 : w3.cell? ⟨b, 3, none⟩ = _ := block_cell hk3 rfl
  have HBR := Lib.hid (bsrRep_any _ _ s w3 hbs3 hs)
  clear hk2 hbs hb2 hk3 hbs3 HON
  go_wp2_with fail
  refine HBR.out.mono ?_
  rintro e w4 ⟨rfl, hb4⟩
  have hsz := hB3.size
  go_wp2_with fail
  go_ret
  exact ⟨rfl, hB3.trans (hb4.mono (by omega))⟩
set_option maxHeartbeats 4000000 in
set_option maxRecDepth 100000 in
theorem quote_any (s : ByteArray) (hs : s.size ≤ 1024) (w : World) : Calls Tryz.prog 27 #[.string s] w fun e w' => e = .returned (.string ⟨(qB s).toArray⟩) ∧ Below w.heap.size w w' := by
  have HNR := Lib.hid (fun q qc W h => newRep_any q qc W h)
  have HRP := Lib.hid (fun b nb nc W h1 h2 h3 => replace_any b nb nc s (by omega) W h1 h2 h3)
  have hlen : (qeL s.data.toList).length ≤ 2048 := by
    have h1 := qeL_len s.data.toList
    have h2 := qeN_le s.data.toList
    have h3 : s.data.toList.length = s.size := Array.length_toList
    omega
  have HE : Hid ((⟨#[34]⟩ : ByteArray) ++ ⟨(qeL s.data.toList).toArray⟩ ++ ⟨#[34]⟩ = ⟨(qB s).toArray⟩) := Lib.hid (by
    apply ba_ext
    rw [nw_app, nw_app]
    rfl)
  obtain ⟨R, hR⟩ : ∃ R : ByteArray, ⟨(qeL s.data.toList).toArray⟩ = R := ⟨_, rfl⟩
  have hRs : R.size ≤ 2048 := by rw [← hR]; exact hlen
  rw [hR] at HRP HE
  clear hlen hR
  go_enter Tryz.func27, Tryz.ntmps27
  go_wp2_with fail
  refine (HNR.out _ _ _ ?hq).mono ?_
  case hq =>
    intro j s hj
    refine block_cell (block_new _ _ rfl) ?_
    rcases (by have := (List.getElem?_eq_some_iff.1 hj).1; simp [qeO] at this; omega : j = 0 ∨ j = 1 ∨ j = 2 ∨ j = 3 ∨ j = 4 ∨ j = 5 ∨ j = 6 ∨ j = 7) with rfl | rfl | rfl | rfl | rfl | rfl | rfl | rfl <;> (cases hj; rfl)
  rintro e w2 ⟨b, nb, nc, rfl, hb, hnb, hlt, hb2, hbk, hn⟩
  have HRR := Lib.hid (HRP.out b nb nc w2 hlt hbk hn)
  have hB2 : Below w.heap.size w w2 := ((Below.refl _ _).alloc (Nat.le_refl _) _).next hb2
  clear HNR HRP hbk hn
  go_wp2_with fail
  refine HRR.out.mono ?_
  rintro e w3 ⟨rfl, hb3⟩
  go_wp2_with fail
  go_ret
  have hb' : w.heap.size + 1 ≤ b := by simpa using hb
  exact ⟨congrArg (fun x => Ending.returned (Value.string x)) HE.out, hB2.trans (hb3.mono (by omega))⟩
attribute [local go_sem] run_bits64 run_frombits64
theorem builder_belowQ {T e : TypeId} {B b : Nat} {bs : List Value} {w w' : World} (h : Lib.IsBuilder T e B b bs w) (hb : Below w.heap.size w w') : Lib.IsBuilder T e B b bs w' := by
  rcases h with ⟨h1, v, h2, h3, h4⟩ | ⟨h1, v, h2, h3, h4⟩
  · exact Or.inl ⟨h1, v, block_below h2 hb, own_below h3 hb, h4⟩
  · exact Or.inr ⟨h1, v, block_below h2 hb, own_below h3 hb, h4⟩
end Go.Proofs.YthefajkihnlgfaaGreatDoor

/- The writer: a block that holds nodes and a builder; what a call that writes leaves as it was; strings.Builder's WriteString and String in such a block. -/
namespace Go.Proofs.YthefajkihnlgfaaGreatDoor
open Go.RowKit Go.Shelf
set_option linter.unusedSimpArgs false
set_option linter.unusedVariables false
theorem grown_bel {w w' : World} (hb : Below w.heap.size w w') : w.grownBy w' none := ⟨hb.os, hb.tape, hb.output, hb.size, fun k hk _ => hb.block k hk⟩
/-- What a call that writes to g leaves as it was: all below g, and all blocks of cells but g and rows of bytes. -/
structure KW (g : Nat) (w w' : World) : Prop where
  below : Below g w w'
  keep : ∀ (k : Nat) (cs : Array Value) (ty : TypeId) (fr : Nat × Nat), k ≠ g → ty ≠ 5 → w.heap[k]? = some (.cells cs ty fr) → w'.heap[k]? = some (.cells cs ty fr)
theorem KW.refl (g : Nat) (w : World) : KW g w w := ⟨Below.refl _ _, fun _ _ _ _ _ _ h => h⟩
theorem KW.trans {g : Nat} {a b c : World} (h : KW g a b) (k : KW g b c) : KW g a c := ⟨h.below.trans k.below, fun i cs ty fr h1 h2 h3 => k.keep i cs ty fr h1 h2 (h.keep i cs ty fr h1 h2 h3)⟩
theorem KW.alloc {g : Nat} {a w : World} (h : KW g a w) (hg : g ≤ w.heap.size) (o : Obj) : KW g a (w.alloc o) :=
  ⟨h.below.alloc hg o, fun k cs ty fr h1 h2 h3 => by
    have h4 := h.keep k cs ty fr h1 h2 h3
    rw [Below.heap_alloc _ _ _ (block_lt h4)]
    exact h4⟩
theorem KW.setCell {g : Nat} {a w : World} (h : KW g a w) (off : Nat) (u : Value) : KW g a (w.setCell ⟨g, off, none⟩ u) :=
  ⟨h.below.setCell (p := ⟨g, off, none⟩) (Nat.le_refl _) u, fun k cs ty fr h1 h2 h3 => by rw [Below.heap_setCell _ _ _ _ h1]; exact h.keep k cs ty fr h1 h2 h3⟩
theorem KW.grown {g B : Nat} {a w w' : World} (h : KW g a w) {v : Value} {n : Nat} {xs : List Value} (hB : g ≤ B) (hg : g ≤ w.heap.size) (ho : w.ownsRow B 5 1 v n xs) (hgr : w.grownBy w' v.ownBlock) : KW g a w' :=
  ⟨h.below.grown hgr hg (fun k hk => Nat.le_trans hB (ho.lt k hk).1), fun k cs ty fr h1 h2 h3 => by
    have h4 := h.keep k cs ty fr h1 h2 h3
    rw [hgr.block k (block_lt h4) (fun e => Lib.ownBlock_ne ho h4 h2 e.symm)]
    exact h4⟩
theorem KW.cell {g : Nat} {w w' : World} (h : KW g w w') {k : Nat} {cs : Array Value} {ty : TypeId} {fr : Nat × Nat} (hk : k ≠ g) (ht : ty ≠ 5) (h1 : w.heap[k]? = some (.cells cs ty fr)) : w'.heap[k]? = some (.cells cs ty fr) := h.keep k cs ty fr hk ht h1
theorem KW.of_below {g : Nat} {w w' : World} (hg : g ≤ w.heap.size) (hb : Below w.heap.size w w') : KW g w w' :=
  ⟨hb.mono hg, fun k cs ty fr _ _ h => (hb.block k (block_lt h)).trans h⟩
end Go.Proofs.YthefajkihnlgfaaGreatDoor

/- strings.Builder's WriteString: what it leaves as it was. -/
namespace Go.Proofs.YthefajkihnlgfaaGreatDoor
open Go.RowKit Go.Shelf
set_option linter.unusedSimpArgs false
set_option linter.unusedVariables false
/-- A builder at g that has written l. -/
def IB (g : Nat) (l : List UInt8) (w : World) : Prop := Lib.IsBuilder 54 5 g g (Lib.byteCells l) w
theorem IB.below {g : Nat} {l : List UInt8} {w w' : World} (h : IB g l w) (hb : Below w.heap.size w w') : IB g l w' := builder_belowQ h hb
theorem IB.lt {g : Nat} {l : List UInt8} {w : World} (h : IB g l w) : g < w.heap.size := by
  rcases h with ⟨_, v, h2, _⟩ | ⟨_, v, h2, _⟩
  · exact block_lt h2
  · exact block_lt h2
theorem checkK {g : Nat} {bs : List Value} {w : World} (h : Lib.IsBuilder 54 5 g g bs w) :
    Calls Tryz.prog 19 #[.pointer (some ⟨g, 0, none⟩)] w fun e w' => e = .returned (.tuple #[]) ∧ Lib.BuilderAt 54 5 g g (.pointer (some ⟨g, 0, none⟩)) bs w' ∧ KW g w w' := by
  rcases h with h | h
  · refine (check_fresh g w h.cell0 h.shape h.frozen0).mono ?_
    rintro e w' ⟨rfl, rfl⟩
    exact ⟨rfl, h.used _, (KW.refl _ _).setCell 0 _⟩
  · refine (check_used g w h.cell0).mono ?_
    rintro e w' ⟨rfl, rfl⟩
    exact ⟨rfl, h, KW.refl _ _⟩
set_option maxHeartbeats 2000000 in
set_option maxRecDepth 100000 in
theorem ws_any {g : Nat} {l : List UInt8} {w : World} (h : IB g l w) (s : ByteArray) (hlen : l.length + s.size ≤ 140737488355328) :
    Calls Tryz.prog 14 #[.pointer (some ⟨g, 0, none⟩), .string s] w fun e w' => (∃ v, e = .returned v) ∧ IB g (l ++ s.data.toList) w' ∧ KW g w w' := by
  obtain ⟨i0, hi, hz0, hz1, hz2⟩ := info_parts infoB1
  have hbl : (Lib.byteCells l).length = l.length := by simp [Lib.byteCells]
  have HBE : Hid (Lib.byteCells l ++ Lib.strCells s = Lib.byteCells (l ++ s.data.toList)) := Lib.hid (by simp [Lib.strCells, Lib.byteCells])
  have hgw := h.lt
  unfold IB at h
  generalize Lib.byteCells l = bs at *
  generalize l.length = ll at *
  go_enter Tryz.func14, Tryz.ntmps14
  go_wp2_with fail
  refine (checkK h).mono ?_
  rintro e w1 ⟨rfl, h1, hk1⟩
  have hb1 := hk1.below
  obtain ⟨hB, v, hbk, hown, hne⟩ := h1
  have c0 : w1.cell? ⟨g, 0, none⟩ = some (.pointer (some ⟨g, 0, none⟩)) := by rw [Lib.cell_of_heap hbk]; rfl
  have c1 : w1.cell? ⟨g, 1, none⟩ = some v := by rw [Lib.cell_of_heap hbk]; rfl
  have HBK := Lib.hid hbk
  clear hbk
  go_wp2_with (at_builtin; refine Lib.wpList_append_own_string _ rfl _ _ 40 9 rfl g 5 i0 Tryz.underlying40 Tryz.underlying9 hi hz0 hz1 hz2 _ _ _ rfl hown s rfl ?c3 ?c4 ?c5 ?_)
  case c3 => unfold maxLen; omega
  case c4 => omega
  case c5 => have := hb1.size; omega
  intro v' w2 hown' hgrow _
  have hlt : g < w1.heap.size := block_lt HBK.out
  have hb2 : w2.heap[g]? = some (.cells #[.pointer (some ⟨g, 0, none⟩), v] 54 (0, 0)) := by
    rw [hgrow.block g hlt (fun e => hne e.symm)]
    exact HBK.out
  have d0 : w2.cell? ⟨g, 0, none⟩ = some (.pointer (some ⟨g, 0, none⟩)) := by rw [Lib.cell_of_heap hb2]; rfl
  have d1 : w2.cell? ⟨g, 1, none⟩ = some v := by rw [Lib.cell_of_heap hb2]; rfl
  have f1 : w2.frozen? ⟨g, 1, none⟩ = false := Lib.frozen_of_heap hb2 1
  obtain ⟨ao, n', cap, rfl⟩ : ∃ ao n' cap, v' = .slice ao n' cap := by
    rcases hown'.2 with ⟨hv, _⟩ | ⟨g, cap, cur, hv, _⟩
    · exact ⟨_, _, _, hv⟩
    · exact ⟨_, _, _, hv⟩
  have HB2 := Lib.hid hb2
  clear hb2
  go_wp2
  go_ret2
  refine ⟨⟨_, rfl⟩, ?_, ?_⟩
  · have := Lib.BuilderAt.put (T := 54) (e := 5) hB HB2.out (bs' := bs ++ Lib.strCells s) (by rw [List.length_append, Lib.strCells_length, hbl]; exact hown') (by decide)
    rw [HBE.out] at this
    exact Or.inr this
  · exact (hk1.grown (Nat.le_refl _) (by omega) hown hgrow).setCell 1 _
end Go.Proofs.YthefajkihnlgfaaGreatDoor

