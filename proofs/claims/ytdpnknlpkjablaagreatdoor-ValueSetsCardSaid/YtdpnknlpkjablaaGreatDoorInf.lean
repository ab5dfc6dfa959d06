/- A float by its bits, and math.IsInf at either sign. -/
import Derived.Test.YtdpnknlpkjablaaGreatDoorMem
import Derived.Laws.BitsAllLaws
namespace Go.Proofs.YtdpnknlpkjablaaGreatDoor
open Go.RowKit
theorem run_bits64 (b : Nat) (w : World) : (callFunc 32 #[.float .f64 b]).run Tryz.prog w = .ok (.value (.int .u64 b)) w := by
  rw [run_callFunc_extern Tryz.func32 (by kernel_rfl) (by kernel_rfl) (by kernel_rfl) (e := Extern.MathFloatBits.float64bits) (by kernel_rfl)]
  rfl
theorem run_frombits64 (n : Int) (w : World) : (callFunc 19 #[.int .u64 n]).run Tryz.prog w = .ok (.value (.float .f64 n.toNat)) w := by
  rw [run_callFunc_extern Tryz.func19 (by kernel_rfl) (by kernel_rfl) (by kernel_rfl) (e := Extern.MathFloatBits.float64frombits) (by kernel_rfl)]
  rfl
attribute [local go_sem] run_bits64 run_frombits64
def absB (b : Nat) : Nat := (bits .andNot .u64 (b : Int) 9223372036854775808).toNat
def infB (b : Nat) : Bool := FloatKind.f64.format.order (absB b) 9218868437227405311 == some .gt
set_option maxRecDepth 100000 in
theorem abs_any (b : Nat) (w : World) : Calls Tryz.prog 45 #[.float .f64 b] w fun e w' => e = .returned (.float .f64 (absB b)) ∧ w = w' := by
  go_enter Tryz.func45, Tryz.ntmps45
  go_wp2_with fail
  go_ret
  exact ⟨rfl, rfl⟩
set_option maxRecDepth 100000 in
theorem inf_any (b : Nat) (w : World) : Calls Tryz.prog 43 #[.float .f64 b, .int .i64 0] w fun e w' => e = .returned (.bool (infB b)) ∧ w = w' := by
  have h := Lib.hid (show infB b = (FloatKind.f64.format.order (absB b) 9218868437227405311 == some .gt) from rfl)
  generalize infB b = r at *
  go_enter Tryz.func43, Tryz.ntmps43
  go_wp2_with fail
  refine (abs_any b _).mono ?_
  rintro e w1 ⟨rfl, rfl⟩
  go_wp2_with fail
  go_ret
  exact ⟨ret_bool h.out.symm, rfl⟩
end Go.Proofs.YtdpnknlpkjablaaGreatDoor
