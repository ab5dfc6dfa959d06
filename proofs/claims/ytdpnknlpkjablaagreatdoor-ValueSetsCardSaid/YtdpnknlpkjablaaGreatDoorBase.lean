/- Values of the laws: rows of six cells; what makes them. -/
import Derived.Test.YtdpnknlpkjablaaGreatDoorMem
import Derived.Test.YtdpnknlpkjablaaGreatDoorProg
import Derived.WalkKit
import Derived.Handy
import Derived.Laws.Rows
import Derived.BigQuiet
namespace Go.Proofs.YtdpnknlpkjablaaGreatDoor
open Go.RowKit

theorem row6 {w : World} {g : Nat} {T : TypeId} {a0 a1 a2 a3 a4 a5 : Value} (h : w.heap[g]? = some (.cells #[a0, a1, a2, a3, a4, a5] T (0, 0))) (b0 b1 b2 b3 b4 b5 : Value) :
    ((((((w.setCell ⟨g, 0, none⟩ b0).setCell ⟨g, 1, none⟩ b1).setCell ⟨g, 2, none⟩ b2).setCell ⟨g, 3, none⟩ b3).setCell ⟨g, 4, none⟩ b4).setCell ⟨g, 5, none⟩ b5).heap[g]? = some (.cells #[b0, b1, b2, b3, b4, b5] T (0, 0)) :=
  block_set (i := 5) (block_set (i := 4) (block_set (i := 3) (block_set (i := 2) (block_set (i := 1) (block_set (i := 0) h b0) b1) b2) b3) b4) b5
/-- A float is stored as any cell is. -/
theorem store_flt (W : World) (a : Addr) (x : Nat) : (store a (.float .f64 x)).run Tryz.prog W = match W.cell? a with
    | some _ => if W.frozen? a then .halt (.unsupported (.unsafePointer "a write to bytes that a string shares")) W else .ok () (W.setCell a (.float .f64 x))
    | none => match W.farStore Tryz.prog a (.float .f64 x) (Mode.plain == .atomic) with
      | .ok (w', _) => .ok () w'
      | .error h => .halt h W := run_store Tryz.prog W a (.float .f64 x) .plain rfl
theorem whole_any (n : Int) (w : World) : Calls Tryz.prog 11 #[.int .i64 n] w fun e w' => e = .returned (.agg #[.int .i64 2, .int .i64 (n), .float .f64 0, .string ⟨#[]⟩, .slice none 0 0, .slice none 0 0]) ∧ Below w.heap.size w w' := by
  have hsf := store_flt
  go_enter Tryz.func11, Tryz.ntmps11
  go_wp2_with fail
  refine bodyPost_ret (results_cell_row rfl _ _ w.heap.size 27 _ (0, 0) _ rfl (block_new _ _ rfl) Tryz.underlying27 rfl (by kernel_rfl)) rfl ?_
  exact ⟨rfl, (by (repeat' (first | (with_reducible exact Below.refl _ _) | (with_reducible assumption) | (with_reducible refine below_drewN ?_ _) | (with_reducible refine Below.drew ?_) | (with_reducible refine Below.alloc ?_ ?_ _) | (with_reducible refine Below.setCell ?_ ?_ _) | omega | (simp; done) | (simp; omega))))⟩
theorem real_any (b : Nat) (w : World) : Calls Tryz.prog 18 #[.float .f64 b] w fun e w' => e = .returned (.agg #[.int .i64 3, .int .i64 0, .float .f64 (b), .string ⟨#[]⟩, .slice none 0 0, .slice none 0 0]) ∧ Below w.heap.size w w' := by
  have hsf := store_flt
  go_enter Tryz.func18, Tryz.ntmps18
  go_wp2_with fail
  refine bodyPost_ret (results_cell_row rfl _ _ w.heap.size 27 _ (0, 0) _ rfl (block_new _ _ rfl) Tryz.underlying27 rfl (by kernel_rfl)) rfl ?_
  exact ⟨rfl, (by (repeat' (first | (with_reducible exact Below.refl _ _) | (with_reducible assumption) | (with_reducible refine below_drewN ?_ _) | (with_reducible refine Below.drew ?_) | (with_reducible refine Below.alloc ?_ ?_ _) | (with_reducible refine Below.setCell ?_ ?_ _) | omega | (simp; done) | (simp; omega))))⟩
end Go.Proofs.YtdpnknlpkjablaaGreatDoor
