/- The text of 100.0. -/
import Derived.Test.YtdpnknlpkjablaaGreatDoorFmt6
import Derived.Test.YtdpnknlpkjablaaGreatDoorInf
namespace Go.Proofs.YtdpnknlpkjablaaGreatDoor
open Go.RowKit Go.Sort Go.Shelf

attribute [local go_sem] run_bits64 run_frombits64
def t1000 : ByteArray := ⟨#[49, 48, 48, 46, 48]⟩
theorem dot_tx (w : World) : Calls Tryz.prog 48 #[.string t100, .string ⟨#[46]⟩] w fun e w' => e = .returned (.bool false) ∧ w = w' :=
  (Tryz.strings_Contains_one t100 46 w).mono fun e w' h => ⟨h.1.trans (by kernel_rfl), h.2.symm⟩
set_option maxHeartbeats 2000000 in
set_option maxRecDepth 100000 in
theorem nan_tx (w : World) : Calls Tryz.prog 33 #[.float .f64 4636737291354636288] w fun e w' => e = .returned (.bool false) ∧ w = w' := by
  have o1 : FloatKind.f64.format.order 4636737291354636288 4636737291354636288 = some .eq := by kernel_rfl
  go_enter Tryz.func33, Tryz.ntmps33
  go_wp2_with fail
  go_ret
  exact ⟨rfl, rfl⟩
theorem infUp_tx (w : World) : Calls Tryz.prog 43 #[.float .f64 4636737291354636288, .int .i64 1] w fun e w' => e = .returned (.bool false) ∧ w = w' := by
  have o1 : FloatKind.f64.format.order 4636737291354636288 9218868437227405311 = some .lt := by kernel_rfl
  go_enter Tryz.func43, Tryz.ntmps43
  go_wp2_with fail
  go_ret
  exact ⟨rfl, rfl⟩
theorem infDown_tx (w : World) : Calls Tryz.prog 43 #[.float .f64 4636737291354636288, .int .i64 (-1)] w fun e w' => e = .returned (.bool false) ∧ w = w' := by
  have n1 : ∀ W, Sem.run Tryz.prog (Op.unary .neg (.float .f64 4636737291354636288)) W = .ok (.float .f64 13860109328209412096) W := fun W => by kernel_rfl
  have n2 : Op.negFloat .f64 4636737291354636288 = 13860109328209412096 := by kernel_rfl
  have o1 : FloatKind.f64.format.order 13860109328209412096 9218868437227405311 = some .lt := by kernel_rfl
  go_enter Tryz.func43, Tryz.ntmps43
  go_wp2_with fail
  go_ret
  exact ⟨rfl, rfl⟩
theorem abs_tx (w : World) : Calls Tryz.prog 45 #[.float .f64 4636737291354636288] w fun e w' => e = .returned (.float .f64 4636737291354636288) ∧ w = w' :=
  (abs_any 4636737291354636288 w).mono fun e w' h => ⟨h.1.trans (by kernel_rfl), h.2⟩
theorem notNan_tx (x : Nat) (h : FloatKind.f64.format.order x x = some .eq) (w : World) : Calls Tryz.prog 68 #[.float .f64 x] w fun e w' => e = .returned (.bool false) ∧ w = w' := by
  go_enter Tryz.func68, Tryz.ntmps68
  go_wp2_with fail
  go_ret
  exact ⟨rfl, rfl⟩
theorem cmp_tx (w : World) : Calls Tryz.prog 46 #[.float .f64 4636737291354636288, .float .f64 4921056587992461136] w fun e w' => e = .returned (.int .i64 (-1)) ∧ w = w' := by
  have o1 : FloatKind.f64.format.order 4636737291354636288 4921056587992461136 = some .lt := by kernel_rfl
  go_enter Tryz.func46, Tryz.ntmps46
  go_wp2_with fail
  refine (notNan_tx 4636737291354636288 (by kernel_rfl) _).mono ?_
  rintro e w2 ⟨rfl, rfl⟩
  go_wp2_with fail
  refine (notNan_tx 4921056587992461136 (by kernel_rfl) _).mono ?_
  rintro e w2 ⟨rfl, rfl⟩
  go_wp2_with fail
  go_ret
  exact ⟨rfl, rfl⟩
set_option maxHeartbeats 2000000 in
set_option maxRecDepth 100000 in
theorem float_tx {w : World} (hG : PG w) : Calls Tryz.prog 24 #[.float .f64 4636737291354636288] w fun e w' => e = .returned (.string t1000) ∧ Below w.heap.size w w' := by
  have o1 : FloatKind.f64.format.order 4636737291354636288 0 = some .gt := by kernel_rfl
  have o2 : FloatKind.f64.format.order 4636737291354636288 4517329193108106637 = some .gt := by kernel_rfl
  have ht : t100.size = 3 := rfl
  have a1 : t100 ++ ⟨#[46, 48]⟩ = t1000 := by decide
  have a2 : t1000 ++ ⟨#[]⟩ = t1000 := by decide
  have ht2 : t1000.size = 5 := rfl
  go_enter Tryz.func24, Tryz.ntmps24
  go_wp2_with fail
  refine (nan_tx _).mono ?_
  rintro e w2 ⟨rfl, rfl⟩
  go_wp2_with fail
  refine (infUp_tx _).mono ?_
  rintro e w2 ⟨rfl, rfl⟩
  go_wp2_with fail
  refine (infDown_tx _).mono ?_
  rintro e w2 ⟨rfl, rfl⟩
  go_wp2_with fail
  refine (fmt_tx hG).mono ?_
  rintro e w2 ⟨rfl, hb⟩
  go_wp2_with fail
  refine (abs_tx _).mono ?_
  rintro e w3 ⟨rfl, rfl⟩
  go_wp2_with fail
  refine (cmp_tx _).mono ?_
  rintro e w3 ⟨rfl, rfl⟩
  go_wp2_with fail
  refine (dot_tx _).mono ?_
  rintro e w3 ⟨rfl, rfl⟩
  go_wp2_with fail
  go_ret
  exact ⟨rfl, hb⟩
end Go.Proofs.YtdpnknlpkjablaaGreatDoor
