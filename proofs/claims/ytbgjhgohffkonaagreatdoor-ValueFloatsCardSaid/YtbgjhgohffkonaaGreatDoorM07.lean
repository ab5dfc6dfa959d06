/- strings.Builder's WriteByte at this program: the walk of the library's text. -/
import Derived.Test.YtbgjhgohffkonaaGreatDoorM03
import Derived.Test.YtbgjhgohffkonaaGreatDoorShelf
import Derived.Lib.Builder
import Derived.Lib.Walk
import Derived.Laws.BitsAllLaws
import Derived.Shelf.Abstract
import Derived.Maps.AppendAt
import Derived.Laws.AppendOwnNone
namespace Go.Proofs.YtbgjhgohffkonaaGreatDoor
open Go.RowKit Go.Shelf

set_option maxHeartbeats 1000000 in
set_option maxRecDepth 100000 in
theorem check_used (b : Nat) (w : World) (h0 : w.cell? ⟨b, 0, none⟩ = some (.pointer (some ⟨b, 0, none⟩))) :
    Calls Tryz.prog 77 #[.pointer (some ⟨b, 0, none⟩)] w fun e w' => e = .returned (.tuple #[]) ∧ w' = w := by
  obtain ⟨j, hj, _⟩ := Option.map_eq_some_iff.1 (show (Tryz.prog.info? 69).map (·.size) = some 2 by kernel_rfl)
  go_enter Tryz.func77, Tryz.ntmps77
  go_wp2
  rw [Lib.run_neq_ptr_same w _ Tryz.underlying66 hj]
  go_wp2
  go_end0
  exact ⟨rfl, rfl⟩

set_option maxHeartbeats 1000000 in
set_option maxRecDepth 100000 in
theorem check_fresh (b : Nat) (w : World) (h0 : w.cell? ⟨b, 0, none⟩ = some (.pointer none)) (hsh : w.shape? b = some (69, 2)) (hfz : w.frozen? ⟨b, 0, none⟩ = false) :
    Calls Tryz.prog 77 #[.pointer (some ⟨b, 0, none⟩)] w fun e w' => e = .returned (.tuple #[]) ∧ w' = w.setCell ⟨b, 0, none⟩ (.pointer (some ⟨b, 0, none⟩)) := by
  obtain ⟨j, hj, hjs⟩ := Option.map_eq_some_iff.1 (show (Tryz.prog.info? 69).map (·.size) = some 2 by kernel_rfl)
  go_enter Tryz.func77, Tryz.ntmps77
  go_wp2
  rw [Lib.run_to_unsafe w ⟨b, 0, none⟩ Tryz.underlying66 Tryz.underlying174 hj (by rw [hjs]; decide) hsh (Nat.zero_lt_succ 1)]
  simp only [Result.andThen]
  rw [Oper.upon_value]
  go_wp2
  rw [run_callFunc_extern Tryz.func125 (by kernel_rfl) (by kernel_rfl) (by kernel_rfl) (e := Extern.AbiNoEscape.same) (by kernel_rfl)]
  rw [Lib.run_noEscape]
  simp only [Result.andThen]
  rw [Oper.upon_value]
  go_wp2
  rw [Lib.run_from_unsafe w ⟨b, 0, none⟩ Tryz.underlying174 Tryz.underlying66 hj hsh (by kernel_rfl)]
  simp only [Result.andThen]
  rw [Oper.upon_value]
  go_wp2
  go_end0
  exact ⟨rfl, rfl⟩

theorem check_any (B b : Nat) (bs : List Value) (w : World) (h : Lib.IsBuilder 69 5 B b bs w) :
    Calls Tryz.prog 77 #[.pointer (some ⟨b, 0, none⟩)] w fun e w' => e = .returned (.tuple #[]) ∧ (Lib.BuilderAt 69 5 B b (.pointer (some ⟨b, 0, none⟩)) bs w' ∧ Below B w w') := by
  rcases h with h | h
  · refine (check_fresh b w h.cell0 h.shape h.frozen0).mono ?_
    rintro e w' ⟨rfl, rfl⟩
    exact ⟨rfl, h.used _, (Below.refl B w).setCell (p := ⟨b, 0, none⟩) h.1 _⟩
  · refine (check_used b w h.cell0).mono ?_
    rintro e w' ⟨rfl, rfl⟩
    exact ⟨rfl, h, Below.refl B _⟩

theorem infoB1 : (Tryz.prog.info? 5).map (fun i => (i.zero, i.size, i.bytes)) = some (some (.int .u8 0), 1, 1) := by kernel_rfl
end Go.Proofs.YtbgjhgohffkonaaGreatDoor

/- The lexer's questions on one byte, and how far bytes of one kind go. -/
namespace Go.Proofs.YtbgjhgohffkonaaGreatDoor
open Go.RowKit Go.Shelf

/-! The reader of a text. -/
section
variable {w w' : World} {g at' : Nat} {s : ByteArray} {out : Value}
end

/-- A byte by its place. -/
theorem byte_at {s : ByteArray} {k : Nat} (h : k < s.size) : s.data.toList[k]? = some s[k] := by
  have hl : s.data.toList.length = s.size := Array.length_toList
  rw [List.getElem?_eq_getElem (by omega)]
  rfl

end Go.Proofs.YtbgjhgohffkonaaGreatDoor

/- The number that begins at a place, as a plain function; what is asked of the library's readers of numbers. -/
namespace Go.Proofs.YtbgjhgohffkonaaGreatDoor
open Go.RowKit

def bt (s : ByteArray) (i : Nat) : Option UInt8 := s.data.toList[i]?
theorem bt_some {s : ByteArray} {i : Nat} (h : i < s.size) : bt s i = some s[i] := byte_at h
theorem bt_none {s : ByteArray} {i : Nat} (h : s.size ≤ i) : bt s i = none := by
  have hl : s.data.toList.length = s.size := Array.length_toList
  exact List.getElem?_eq_none (by omega)
end Go.Proofs.YtbgjhgohffkonaaGreatDoor

/- Bytes that are appended to a row of the call's own, out of digits that lie beside it. -/
namespace Go.Proofs.YtbgjhgohffkonaaGreatDoor
open Go.RowKit Go.Shelf
set_option linter.unusedSimpArgs false
set_option linter.unusedVariables false
/-- A row of bytes of the call's own, and digits that lie elsewhere. -/
structure DS (base bb : Nat) (D : List UInt8) (w0 w : World) (v : Value) (L : List UInt8) : Prop where
  bel : Below base w0 w
  own : w.ownsRow base 5 1 v L.length (Lib.byteCells L)
  ne : v.ownBlock ≠ some bb
  lt : bb < w.heap.size
  ba : base ≤ w.heap.size
  dig : ∀ (j : Nat) (b : UInt8), D[j]? = some b → w.cell? ⟨bb, j, none⟩ = some (.int .u8 b.toNat)
theorem DS.below {base bb : Nat} {D L : List UInt8} {w0 w w' : World} {v : Value} (h : DS base bb D w0 w v L) (hb : Below w.heap.size w w') : DS base bb D w0 w' v L :=
  ⟨h.bel.trans (hb.mono h.ba), own_below h.own hb, h.ne, Nat.lt_of_lt_of_le h.lt hb.size, Nat.le_trans h.ba hb.size, fun j b hj => (hb.cell (p := ⟨bb, j, none⟩) h.lt).trans (h.dig j b hj)⟩
theorem DS.alloc {base bb : Nat} {D L : List UInt8} {w0 w : World} {v : Value} (h : DS base bb D w0 w v L) (o : Obj) : DS base bb D w0 (w.alloc o) v L := h.below ((Below.refl _ _).alloc (Nat.le_refl _) _)
theorem DS.shape {base bb : Nat} {D L : List UInt8} {w0 w : World} {v : Value} (h : DS base bb D w0 w v L) : ∃ a c, v = .slice a L.length c := by
  rcases h.own.2 with ⟨h1, h2⟩ | ⟨g, c, cur, h1, _⟩
  · exact ⟨none, 0, by rw [h1, h2]⟩
  · exact ⟨_, _, h1⟩
/-- append(own row of bytes, bytes that lie somewhere). -/
theorem append_ds {w0 w : World} {ops : Array Oper} {rest : List Oper} {o : Oper} {a : Act} {Q : Exit → Act → World → Prop} (hgd : o.guard = none) (s x : Operand)
    (ho : o.op = .call { callee := .builtin .append, args := #[s, x], argTypes := #[67, 67] })
    {base bb : Nat} {D L N : List UInt8} {v : Value} (hs : a.eval s = v) (hd : DS base bb D w0 w v L) (q off c : Nat) (hx : a.eval x = .slice (some ⟨q, off, none⟩) N.length c)
    (hN : ∀ (j : Nat) (b : UInt8), N[j]? = some b → w.cell? ⟨q, off + j, none⟩ = some (.int .u8 b.toNat)) (hsz : L.length + N.length ≤ 1000000)
    (h : ∀ v' w', DS base bb D w0 w' v' (L ++ N) → wpList Tryz.prog ops Q rest (a.put o.dst v') w') : wpList Tryz.prog ops Q (o :: rest) a w := by
  obtain ⟨i0, hi, hz0, hz1, hz2⟩ := info_parts infoB1
  refine wpList_append_own_at w hgd s x 67 ho base 5 i0 _ 1 1 Tryz.underlying67 hi hz0 hz1 hz2 rfl (by decide) v L.length (Lib.byteCells L) hs hd.own ⟨q, off, none⟩ N.length c (Lib.byteCells N) hx (by simp [Lib.byteCells]) ?_ ?_ (by unfold maxLen; omega) (by omega) hd.ba (fun v' w' h2 h3 _ h5 => ?_)
  · intro j u hu
    rw [Lib.byteCells, List.getElem?_map] at hu
    obtain ⟨b, hb, rfl⟩ := Option.map_eq_some_iff.1 hu
    have hadd : (⟨q, off, none⟩ : Addr).add j = ⟨q, off + j, none⟩ := by unfold Addr.add; split <;> simp_all
    rw [hadd]
    exact hN j b hb
  · intro u hu
    rw [Lib.byteCells] at hu
    obtain ⟨b, _, rfl⟩ := List.mem_map.1 hu
    rfl
  · have hbw : Below base w w' := (Below.refl base w).grown h3 hd.ba (fun k hk => (hd.own.lt k hk).1)
    refine h v' w' ⟨hd.bel.trans hbw, ?_, ?_, Nat.lt_of_lt_of_le hd.lt h3.size, Nat.le_trans hd.ba h3.size, fun j b hj => ?_⟩
    · rw [List.length_append]
      rw [Lib.byteCells_append]
      exact h2
    · rcases h5 with h5 | h5
      · rw [h5]; exact hd.ne
      · rw [h5]
        have := hd.lt
        intro e
        have := Option.some.inj e
        omega
    · rw [World.cell?_of_block (a := ⟨bb, j, none⟩) (h3.block bb hd.lt (fun e => hd.ne e.symm))]
      exact hd.dig j b hj
/-- .. one byte, that lies in a new block. -/
theorem append_d1 {w0 w : World} {ops : Array Oper} {rest : List Oper} {o : Oper} {a : Act} {Q : Exit → Act → World → Prop} (hgd : o.guard = none) (s x : Operand)
    (ho : o.op = .call { callee := .builtin .append, args := #[s, x], argTypes := #[67, 67] })
    {base bb : Nat} {D L : List UInt8} {v : Value} (hs : a.eval s = v) (hd : DS base bb D w0 w v L) (q c : Nat) (b : UInt8) (hx : a.eval x = .slice (some ⟨q, 0, none⟩) 1 c)
    (hq : w.cell? ⟨q, 0, none⟩ = some (.int .u8 b.toNat)) (hsz : L.length + 1 ≤ 1000000)
    (h : ∀ v' w', DS base bb D w0 w' v' (L ++ [b]) → wpList Tryz.prog ops Q rest (a.put o.dst v') w') : wpList Tryz.prog ops Q (o :: rest) a w :=
  append_ds hgd s x ho hs hd q 0 c (N := [b]) hx (fun j u hj => by
    match j, hj with
    | 0, hj => cases hj; exact hq
    | j + 1, hj => simp at hj) hsz h
def fmS (neg : Bool) : List UInt8 := if neg then [45] else []
def fmI (D : List UInt8) (dp : Int) : List UInt8 := if 0 < dp then D.take dp.toNat ++ List.replicate (dp.toNat - D.length) 48 else [48]
def fmR (D : List UInt8) (dp : Int) : List UInt8 := if dp < (D.length : Int) then 46 :: (List.replicate (-dp).toNat 48 ++ D.drop dp.toNat) else []
def fmF (neg : Bool) (D : List UInt8) (dp : Int) : List UInt8 := fmS neg ++ fmI D dp ++ fmR D dp
theorem rep_succ (k : Nat) : List.replicate (k + 1) (48 : UInt8) = List.replicate k 48 ++ [48] := List.replicate_succ'
end Go.Proofs.YtbgjhgohffkonaaGreatDoor

