/- Rows of values that a call has laid, and a result that is one. -/
import Derived.Test.YtdpnknlpkjablaaGreatDoorNum
import Derived.Test.YtdpnknlpkjablaaGreatDoorSign6
import Derived.Laws.ResultCell
namespace Go.Proofs.YtdpnknlpkjablaaGreatDoor
open Go.RowKit

/-- The two values that came in, and the one that goes out. -/
structure R3 (S : Nat) (A B Z : Array Value) (W : World) : Prop where
  ra : W.heap[S]? = some (.cells A 27 (0, 0))
  rb : W.heap[S + 1]? = some (.cells B 27 (0, 0))
  rz : W.heap[S + 2]? = some (.cells Z 27 (0, 0))
theorem R3.below {S : Nat} {A B Z : Array Value} {W W' : World} (h : R3 S A B Z W) (hb : Below W.heap.size W W') : R3 S A B Z W' := ⟨block_below h.ra hb, block_below h.rb hb, block_below h.rz hb⟩
theorem R3.lt {S : Nat} {A B Z : Array Value} {W : World} (h : R3 S A B Z W) : S + 2 < W.heap.size := block_lt h.rz
theorem R3.new (w : World) (A B Z : Array Value) : R3 w.heap.size A B Z (((w.alloc (.cells A 27 (0, 0))).alloc (.cells B 27 (0, 0))).alloc (.cells Z 27 (0, 0))) :=
  ⟨block_alloc (block_alloc (block_new _ _ rfl) _) _, block_alloc (block_new _ _ (by simp)) _, block_new _ _ (by simp)⟩
theorem R3.set {S : Nat} {A B : Array Value} {W : World} {a0 a1 a2 a3 a4 a5 : Value} (h : R3 S A B #[a0, a1, a2, a3, a4, a5] W) (b0 b1 b2 b3 b4 b5 : Value) :
    ((((((W.setCell ⟨S + 2, 0, none⟩ b0).setCell ⟨S + 2, 1, none⟩ b1).setCell ⟨S + 2, 2, none⟩ b2).setCell ⟨S + 2, 3, none⟩ b3).setCell ⟨S + 2, 4, none⟩ b4).setCell ⟨S + 2, 5, none⟩ b5).heap[S + 2]? = some (.cells #[b0, b1, b2, b3, b4, b5] 27 (0, 0)) := row6 h.rz b0 b1 b2 b3 b4 b5
theorem value_size : (Tryz.prog.info? 27).map (·.size) = some 6 := by kernel_rfl
theorem results_row_tmp {fn : Func} {p u : Tmp} (h : fn.results = #[.cell p 27, .tmp u]) (tmps : Array Value) (w : World) (g : Nat) (t : TypeId) (cs : Array Value) (fr : Nat × Nat)
    (hp : tmps.getD p undef = .pointer (some ⟨g, 0, none⟩)) (hg : w.heap[g]? = some (.cells cs t fr)) (hi : cs.size = 6) :
    (results fn tmps).run Tryz.prog w = .ok (.tuple #[.agg cs, tmps.getD u undef]) w := by
  have hl := run_loadVar_row (P := Tryz.prog) w g t 27 cs fr _ hg Tryz.underlying27 rfl (by rw [hi]; exact value_size)
  rw [results_cell_tmp h, hp]
  simp [asAddr, hl, Result.andThen]
end Go.Proofs.YtdpnknlpkjablaaGreatDoor
