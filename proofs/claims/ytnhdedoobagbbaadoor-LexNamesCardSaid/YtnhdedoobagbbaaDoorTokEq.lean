/- A name's token is what it is. -/
import Derived.Test.YtnhdedoobagbbaaDoorMem
import Derived.Laws.StructEq
namespace Go.Proofs.YtnhdedoobagbbaaDoor
open Go.RowKit

theorem eq_float0 (d : Nat) (w : World) : (Op.equalIn (d + 1) 29 (.float .f64 0) (.float .f64 0)).run Tryd.prog w = .ok true w := by
  have h := Tryd.underlying29
  simp [Op.equalIn, run_underlying h]
  decide +kernel
theorem tok_eq2 (nm : ByteArray) (w : World) :
    (Op.equalIn 10000 31 (.agg #[.int .i64 1, .string nm, .int .i64 0, .float .f64 0, .int .i64 0]) (.agg #[.int .i64 1, .string nm, .int .i64 0, .float .f64 0, .int .i64 0])).run Tryd.prog w = .ok true w := by
  have hf := fun d => eq_float0 d w
  rw [run_equalIn_agg (P := Tryd.prog) w 9999 31 _ _ (by kernel_rfl) (by kernel_rfl)]
  simp [go_sem, Tryd.underlying31, Tryd.underlying2, Tryd.underlying9, hf]
theorem tok_eq (nm : ByteArray) (w : World) :
    (binOp BinOp.eql 31 (.agg #[.int .i64 1, .string nm, .int .i64 0, .float .f64 0, .int .i64 0]) (.agg #[.int .i64 1, .string nm, .int .i64 0, .float .f64 0, .int .i64 0])).run Tryd.prog w = .ok (.bool true) w := by
  have hf := fun d => eq_float0 d w
  rw [run_eql_struct]
  rw [run_equalIn_agg (P := Tryd.prog) w 9999 31 _ _ (by kernel_rfl) (by kernel_rfl)]
  simp [go_sem, Tryd.underlying31, Tryd.underlying2, Tryd.underlying9, hf]
end Go.Proofs.YtnhdedoobagbbaaDoor
