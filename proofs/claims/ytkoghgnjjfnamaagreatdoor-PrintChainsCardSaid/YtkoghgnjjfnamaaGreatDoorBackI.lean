/- slices.Backward over numbers: what its iterator hands on, for every loop body that keeps what lay below n₀ (turned from the kit's GgSlicesIterAtTheDump). -/
import Derived.RangeFuncNested
import Derived.RangeFuncBound
import Derived.RangeFuncCalls
import Derived.RangeFuncLeaves
import Derived.RangeFuncBox
import Derived.Shelf.Abstract
import Derived.Shelf.RegionOpen
import Derived.WalkKit
import Derived.OwnWalkIn
import Derived.TacticsInMore
import Derived.LoopNIn
import Derived.LoopIn
import Derived.Test.YtkoghgnjjfnamaaGreatDoorGa
namespace Go.Proofs.YtkoghgnjjfnamaaGreatDoor
open Go.RowKit Go.Shelf
attribute [local go_sem] Oper.semAt_some

def upto' {α : Type} (f : Nat → α) (k : Nat) : List α := (List.range k).map f
theorem upto'_succ {α : Type} (f : Nat → α) (k : Nat) : upto' f (k + 1) = upto' f k ++ [f k] := by simp [upto', List.range_succ]
theorem upto'_length {α : Type} (f : Nat → α) (k : Nat) : (upto' f k).length = k := by simp [upto']
/-- Below n₀, and at block Bs, nothing turns. -/
def KB (n₀ Bs : Nat) (W W' : World) : Prop := Below n₀ W W' ∧ W'.heap[Bs]? = W.heap[Bs]?
theorem KB.refl (n₀ Bs : Nat) (W : World) : KB n₀ Bs W W := ⟨Below.refl _ _, rfl⟩
theorem KB.trans {n₀ Bs : Nat} {A B C : World} (h : KB n₀ Bs A B) (k : KB n₀ Bs B C) : KB n₀ Bs A C := ⟨h.1.trans k.1, k.2.trans h.2⟩
theorem KB.put {n₀ Bs : Nat} {w : World} (hn : n₀ ≤ w.heap.size) (hB : Bs < w.heap.size) (W : World) (l : Nat) (o o' : Obj) (hl : w.heap.size ≤ l) (h : W.heap[l]? = some o) (h1 : o.isCells = false) (h2 : o.isWalk = false) : KB n₀ Bs W (W.putObj l o') := by
  refine ⟨belowK_b hn W l o o' hl h h1 h2, ?_⟩
  have := (grownBy_putObj' W l o').block Bs (by have := (Array.getElem?_eq_some_iff.1 h).1; omega) (by intro e; cases e; omega)
  exact this
theorem KB.cell {n₀ Bs : Nat} {A B : World} (h : KB n₀ Bs A B) {v : Value} (hc : A.cell? ⟨Bs, 0, none⟩ = some v) : B.cell? ⟨Bs, 0, none⟩ = some v := (World.cell?_of_block (w := A) h.2).trans hc
/-- What the loop is handed: an index, and the number there. -/
def encI (c : Nat → Nat) (i : Nat) : Array Value := #[.int .i64 (i : Int), .int .i64 (c i : Int)]
set_option maxRecDepth 100000 in
set_option maxHeartbeats 2000000 in
theorem backward1_in (F : Fence) (n : Nat) (h7 : F.fn 51) (hro : F.round = none) (hn : 1 ≤ n) (l Bs n₀ b off len cap : Nat) (c : Nat → Nat) (hreach : len ≤ 1759218604390) (hb : b < n₀) (J Jx : List Nat → World → Prop)
    (hY : ∀ (pre : List Nat) (x : Nat) W, J pre W → pre.length < len → YieldAt F (n - 1) Tryz.prog l #[.int .i64 (x : Int), .int .i64 (c x : Int)] W fun e W' =>
      (e = .returned (.bool true) ∧ J (pre ++ [x]) W' ∧ KB n₀ Bs W W') ∨ (e = .returned (.bool false) ∧ Jx (pre ++ [x]) W'))
    (W : World) (hBs : W.cell? ⟨Bs, 0, none⟩ = some (.slice (some ⟨b, off, none⟩) len cap))
    (hc : ∀ j, j < len → W.cell? ⟨b, off + j, none⟩ = some (.int .i64 (c j : Int))) (h0 : J [] W) :
    CallsIn F n Tryz.prog 51 #[.func (.yield l) #[] #[], .pointer (some ⟨Bs, 0, none⟩)] W fun e W' => (∃ v, e = .returned v) ∧
      ((∃ ys, ys = upto' (fun j => len - 1 - j) len ∧ J ys W') ∨ (∃ pre, (∃ k, k ≤ len ∧ pre = upto' (fun j => len - 1 - j) k) ∧ Jx pre W')) := by
  refine callsIn_of_wp Tryz.func51 rfl h7 ?_ hro
  simp only [Tryz.ntmps51, List.size_toArray, List.length_cons, List.length_nil, Nat.reduceAdd, Nat.reduceSub, Array.replicate_succ, Array.replicate_zero, List.push_toArray, List.append_toArray, List.nil_append, List.cons_append]
  gi_wp2
  gi_loopw [3] (fun i wr => ∃ k : Nat, k ≤ len ∧ i = .int .i64 ((len : Int) - 1 - (k : Int)) ∧ J (upto' (fun j => len - 1 - j) k) wr ∧ KB n₀ Bs W wr)
    (fun i _ => (intOf i + 1).toNat)
  case atStart => exact ⟨0, Nat.zero_le _, by simp, h0, KB.refl _ _ _⟩
  case round =>
    obtain ⟨k, hk, rfl, hJs, hnx⟩ := hrel
    have hBw := hnx.cell hBs
    by_cases hlt : k < len
    · obtain ⟨i, hi⟩ : ∃ i : Nat, (len : Int) - 1 - (k : Int) = (i : Int) := ⟨len - 1 - k, by omega⟩
      have hil : i < len := by omega
      have hie : len - 1 - k = i := by omega
      have q0 := hc i hil
      have c0 := (hnx.1.cell (p := ⟨b, off + i, none⟩) hb).trans q0
      obtain ⟨fn, tmps, assign, body, hy, hR⟩ := hY _ i wr hJs (by rw [upto'_length]; exact hlt)
      rw [hi]
      have HI := Lib.hid hi
      clear hi q0
      have hiI : (i : Int) < (len : Int) := by omega
      have hge : (0 : Int) ≤ (i : Int) := by omega
      gi_wp2
      refine hR.mono ?_
      rintro e W3 (⟨rfl, hJ3, hk3⟩ | ⟨rfl, hJx3⟩)
      · gi_wp2
        go_roundw
        case rel => exact ⟨k + 1, by omega, by have := HI.out; simp only [Value.int.injEq, true_and]; omega, by rw [upto'_succ, hie]; exact hJ3, hnx.trans hk3⟩
        case measure => simp [intOf]
      · gi_wp2
        refine bodyPost_ret (results_none rfl _ _ _) rfl ?_
        exact ⟨⟨_, rfl⟩, .inr ⟨_, ⟨k + 1, by omega, by rw [upto'_succ, hie]⟩, hJx3⟩⟩
    · obtain rfl : k = len := by omega
      have hneg : ¬ ((0 : Int) ≤ (k : Int) - 1 - (k : Int)) := by omega
      gi_wp2
      go_end0
      exact ⟨⟨_, rfl⟩, .inl hJs⟩
set_option maxRecDepth 100000 in
set_option maxHeartbeats 1000000 in
theorem backward1_nil_in (F : Fence) (n : Nat) (h7 : F.fn 51) (hro : F.round = none) (l Bs : Nat) (a : Option Addr) (cap : Nat) (J : List Nat → World → Prop) (W : World) (hBs : W.cell? ⟨Bs, 0, none⟩ = some (.slice a 0 cap)) (h0 : J [] W) :
    CallsIn F n Tryz.prog 51 #[.func (.yield l) #[] #[], .pointer (some ⟨Bs, 0, none⟩)] W fun e W' => (∃ v, e = .returned v) ∧ J [] W' := by
  refine callsIn_of_wp Tryz.func51 rfl h7 ?_ hro
  simp only [Tryz.ntmps51, List.size_toArray, List.length_cons, List.length_nil, Nat.reduceAdd, Nat.reduceSub, Array.replicate_succ, Array.replicate_zero, List.push_toArray, List.append_toArray, List.nil_append, List.cons_append]
  gi_wp2
  gi_loopw [3] (fun i wr => i = .int .i64 (-1) ∧ J [] wr) (fun _ _ => 0)
  case atStart => exact ⟨rfl, h0⟩
  case round =>
    obtain ⟨rfl, hJs⟩ := hrel
    gi_wp2
    go_end0
    exact ⟨⟨_, rfl⟩, hJs⟩
set_option maxHeartbeats 1000000 in
theorem backward_in (F : Fence) (n : Nat) (h5 : F.fn 23) (hro : F.round = none) (a : Option Addr) (len cap : Nat) (w : World) :
    CallsIn F n Tryz.prog 23 #[.slice a len cap] w fun e w' => e = .returned (.func (.func 51) #[] #[.pointer (some ⟨w.heap.size, 0, none⟩)]) ∧ w' = w.alloc (.cells #[.slice a len cap] 29) := by
  refine callsIn_of_wp Tryz.func23 rfl h5 ?_ hro
  simp only [Tryz.ntmps23, List.size_toArray, List.length_cons, List.length_nil, Nat.reduceAdd, Nat.reduceSub, Array.replicate_succ, Array.replicate_zero, List.push_toArray, List.append_toArray, List.nil_append, List.cons_append]
  gi_wp2
  go_ret
  exact ⟨rfl, rfl⟩
/-- The numbers' cells, in a block below n₀; or there are none. -/
def ICells (n₀ : Nat) (W : World) (sv : Value) (len : Nat) (c : Nat → Nat) : Prop :=
  (∃ a cap, sv = .slice a 0 cap ∧ len = 0) ∨ ∃ b off cap, sv = .slice (some ⟨b, off, none⟩) len cap ∧ b < n₀ ∧ ∀ j, j < len → W.cell? ⟨b, off + j, none⟩ = some (.int .i64 (c j : Int))
theorem ICells.below {n₀ : Nat} {A B : World} (h : Below n₀ A B) {sv : Value} {len : Nat} {c : Nat → Nat} : ICells n₀ A sv len c → ICells n₀ B sv len c
  | .inl e => .inl e
  | .inr ⟨b, off, cap, e, hb, hc⟩ => .inr ⟨b, off, cap, e, hb, fun j hj => (h.cell (p := ⟨b, off + j, none⟩) hb).trans (hc j hj)⟩
theorem backward_stops (F : Fence) (n : Nat) (h7 : F.fn 51) (hro : F.round = none) (hn : 1 ≤ n) (Bs n₀ : Nat) (sv : Value) (len : Nat) (c : Nat → Nat) (hreach : len ≤ 1759218604390) (w : World) (hBs : Bs < w.heap.size) (hn₀ : n₀ ≤ w.heap.size)
    (hc : w.cell? ⟨Bs, 0, none⟩ = some sv) (hI : ICells n₀ w sv len c) :
    SeqStopsK F n Tryz.prog 51 #[.pointer (some ⟨Bs, 0, none⟩)] (encI c) (KB n₀ Bs) (fun ys => ys = upto' (fun j => len - 1 - j) len)
      (fun pre => ∃ k, k ≤ len ∧ pre = upto' (fun j => len - 1 - j) k) len w := fun l J Jx W hW _ _ hY h0 => by
  have hc' := (hW.cell (p := ⟨Bs, 0, none⟩) hBs).trans hc
  rcases hI.below (hW.mono hn₀) with ⟨a, cap, rfl, rfl⟩ | ⟨b, off, cap, rfl, hb, hcs⟩
  · exact (backward1_nil_in F n h7 hro l Bs a cap J W hc' h0).mono fun e W' ⟨he, hj⟩ => ⟨he, .inl ⟨_, rfl, hj⟩⟩
  · exact backward1_in F n h7 hro hn l Bs n₀ b off len cap c hreach hb J Jx hY W hc' hcs h0
/-- A frame leaves with marks of loops over functions that are done. -/
def MarkedAt (n₀ : Nat) (rs : List Nat) (w : World) : Prop := rs.Nodup ∧ ∀ r ∈ rs, n₀ ≤ r ∧ w.heap[r]? = some (.deferred (some []))
def markOf (r : Nat) : Deferred := { target := .collected r, args := #[] }
theorem leaves_marks {P : Program} {F : Fence} {n : Nat} {fn : Func} {tmps : Array Value} {R : Ending → World → Prop} {n₀ : Nat} : ∀ (rs : List Nat) (w : World), MarkedAt n₀ rs w →
    (∀ w', Below n₀ w w' → (∀ (k : Nat) (cs : Array Value) (ty : TypeId) (fr : Nat × Nat), w.heap[k]? = some (.cells cs ty fr) → w'.heap[k]? = some (.cells cs ty fr)) → LeavesIn F n P fn tmps R [] .returning w') → LeavesInM F n P fn tmps R (rs.map markOf) .returning w
  | [], w, _, h => h w (Below.refl _ _) (fun _ _ _ _ h => h)
  | r :: rs, w, hm, h => by
    obtain ⟨hn, hr⟩ := hm
    obtain ⟨h1, h2⟩ := hr r (by simp)
    have hgp := grownBy_putObj' w r (.deferred none)
    have hne : ∀ k, k < w.heap.size → k ≠ r → (w.putObj r (.deferred none)).heap[k]? = w.heap[k]? := fun k hk hkr => hgp.block k hk (fun e => hkr (Option.some.inj e))
    have hlt : r < w.heap.size := (Array.getElem?_eq_some_iff.1 h2).1
    refine ⟨by simp, .inl ⟨r, _, rfl, run_takeDeferred h2, leaves_marks rs _ ⟨(List.nodup_cons.1 hn).2, fun r' hr' => ?_⟩ fun w' hb hk => h w' (Below.trans ?_ hb) (fun k cs ty fr hc => hk k cs ty fr ?_)⟩⟩
    · obtain ⟨h3, h4⟩ := hr r' (by simp [hr'])
      refine ⟨h3, ?_⟩
      rw [hne r' (Array.getElem?_eq_some_iff.1 h4).1 (fun e => (List.nodup_cons.1 hn).1 (e ▸ hr'))]
      exact h4
    · exact (Below.refl n₀ w).grown hgp (Nat.le_of_lt (Nat.lt_of_le_of_lt h1 hlt)) (fun k hk => by cases hk; exact h1)
    · rw [hne k (Array.getElem?_eq_some_iff.1 hc).1 (fun e => by subst e; rw [h2] at hc; cases hc)]
      exact hc
end Go.Proofs.YtkoghgnjjfnamaaGreatDoor
