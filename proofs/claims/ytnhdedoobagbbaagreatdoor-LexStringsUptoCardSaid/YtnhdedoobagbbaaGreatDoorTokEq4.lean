/- A string's token is what it is. -/
import Derived.Test.YtnhdedoobagbbaaGreatDoorMem
import Derived.Laws.StructEq
namespace Go.Proofs.YtnhdedoobagbbaaGreatDoor
open Go.RowKit

theorem eq_float0 (d : Nat) (w : World) : (Op.equalIn (d + 1) 32 (.float .f64 0) (.float .f64 0)).run Tryz.prog w = .ok true w := by
  have h := Tryz.underlying32
  simp [Op.equalIn, run_underlying h]
  decide +kernel
theorem tok_neq4 (nm : ByteArray) (w : World) :
    (binOp BinOp.neq 34 (.agg #[.int .i64 4, .string nm, .int .i64 0, .float .f64 0, .int .i64 0]) (.agg #[.int .i64 4, .string nm, .int .i64 0, .float .f64 0, .int .i64 0])).run Tryz.prog w = .ok (.bool false) w := by
  have hf := fun d => eq_float0 d w
  rw [run_neq_struct]
  rw [run_equalIn_agg (P := Tryz.prog) w 9999 34 _ _ (by kernel_rfl) (by kernel_rfl)]
  simp [go_sem, Tryz.underlying34, Tryz.underlying2, Tryz.underlying9, hf]
theorem tok_eq4 (nm : ByteArray) (w : World) :
    (Op.equalIn 10000 34 (.agg #[.int .i64 4, .string nm, .int .i64 0, .float .f64 0, .int .i64 0]) (.agg #[.int .i64 4, .string nm, .int .i64 0, .float .f64 0, .int .i64 0])).run Tryz.prog w = .ok true w := by
  have hf := fun d => eq_float0 d w
  rw [run_equalIn_agg (P := Tryz.prog) w 9999 34 _ _ (by kernel_rfl) (by kernel_rfl)]
  simp [go_sem, Tryz.underlying34, Tryz.underlying2, Tryz.underlying9, hf]
theorem fault_eq (p e : Int) (w : World) : (binOp BinOp.eql 30 (.agg #[.int .i64 p, .int .i64 e]) (.agg #[.int .i64 p, .int .i64 e])).run Tryz.prog w = .ok (.bool true) w := by
  rw [run_eql_struct]
  rw [run_equalIn_agg (P := Tryz.prog) w 9999 30 _ _ (by kernel_rfl) (by kernel_rfl)]
  simp [go_sem, Tryz.underlying30, Tryz.underlying3, Tryz.underlying28]
theorem fault_eq2 (p e : Int) (w : World) : (Op.equalIn 10000 30 (.agg #[.int .i64 p, .int .i64 e]) (.agg #[.int .i64 p, .int .i64 e])).run Tryz.prog w = .ok true w := by
  rw [run_equalIn_agg (P := Tryz.prog) w 9999 30 _ _ (by kernel_rfl) (by kernel_rfl)]
  simp [go_sem, Tryz.underlying30, Tryz.underlying3, Tryz.underlying28]
end Go.Proofs.YtnhdedoobagbbaaGreatDoor
