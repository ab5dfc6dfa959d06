/- A sign is looked for among the six. -/
import Derived.Test.YtdpnknlpkjablaaGreatDoorBase
import Derived.LoopN
namespace Go.Proofs.YtdpnknlpkjablaaGreatDoor
open Go.RowKit

/-- A row of the six signs. -/
structure Six (g : Nat) (W : World) : Prop where
  c0 : W.cell? ⟨g, 0, none⟩ = some (.string ⟨#[43]⟩)
  c1 : W.cell? ⟨g, 1, none⟩ = some (.string ⟨#[45]⟩)
  c2 : W.cell? ⟨g, 2, none⟩ = some (.string ⟨#[42]⟩)
  c3 : W.cell? ⟨g, 3, none⟩ = some (.string ⟨#[47]⟩)
  c4 : W.cell? ⟨g, 4, none⟩ = some (.string ⟨#[43, 43]⟩)
  c5 : W.cell? ⟨g, 5, none⟩ = some (.string ⟨#[47, 47]⟩)
theorem index_plus {g : Nat} {W : World} (h : Six g W) : Calls Tryz.prog 49 #[.slice (some ⟨g, 0, none⟩) 6 6, .string ⟨#[43]⟩] W fun e w' => e = .returned (.int .i64 0) ∧ W = w' := by
  have q0 := h.c0
  go_enter Tryz.func49, Tryz.ntmps49
  go_wp2_with fail
  refine wp_loop_rounds 1 ?_
  rw [rounds_succ]
  go_wp2_with fail
  go_ret
  exact ⟨rfl, rfl⟩
theorem contains_plus {g : Nat} {W : World} (h : Six g W) : Calls Tryz.prog 25 #[.slice (some ⟨g, 0, none⟩) 6 6, .string ⟨#[43]⟩] W fun e w' => e = .returned (.bool true) ∧ W = w' := by
  go_enter Tryz.func25, Tryz.ntmps25
  go_wp2_with fail
  refine (index_plus h).mono ?_
  rintro e w2 ⟨rfl, rfl⟩
  go_wp2_with fail
  go_ret
  exact ⟨rfl, rfl⟩
theorem index_minus {g : Nat} {W : World} (h : Six g W) : Calls Tryz.prog 49 #[.slice (some ⟨g, 0, none⟩) 6 6, .string ⟨#[45]⟩] W fun e w' => e = .returned (.int .i64 1) ∧ W = w' := by
  have q0 := h.c0
  have q1 := h.c1
  go_enter Tryz.func49, Tryz.ntmps49
  go_wp2_with fail
  refine wp_loop_rounds 2 ?_
  rw [rounds_succ]
  go_wp2_with fail
  rw [rounds_succ]
  go_wp2_with fail
  go_ret
  exact ⟨rfl, rfl⟩
theorem contains_minus {g : Nat} {W : World} (h : Six g W) : Calls Tryz.prog 25 #[.slice (some ⟨g, 0, none⟩) 6 6, .string ⟨#[45]⟩] W fun e w' => e = .returned (.bool true) ∧ W = w' := by
  go_enter Tryz.func25, Tryz.ntmps25
  go_wp2_with fail
  refine (index_minus h).mono ?_
  rintro e w2 ⟨rfl, rfl⟩
  go_wp2_with fail
  go_ret
  exact ⟨rfl, rfl⟩
theorem index_times {g : Nat} {W : World} (h : Six g W) : Calls Tryz.prog 49 #[.slice (some ⟨g, 0, none⟩) 6 6, .string ⟨#[42]⟩] W fun e w' => e = .returned (.int .i64 2) ∧ W = w' := by
  have q0 := h.c0
  have q1 := h.c1
  have q2 := h.c2
  go_enter Tryz.func49, Tryz.ntmps49
  go_wp2_with fail
  refine wp_loop_rounds 3 ?_
  rw [rounds_succ]
  go_wp2_with fail
  rw [rounds_succ]
  go_wp2_with fail
  rw [rounds_succ]
  go_wp2_with fail
  go_ret
  exact ⟨rfl, rfl⟩
theorem contains_times {g : Nat} {W : World} (h : Six g W) : Calls Tryz.prog 25 #[.slice (some ⟨g, 0, none⟩) 6 6, .string ⟨#[42]⟩] W fun e w' => e = .returned (.bool true) ∧ W = w' := by
  go_enter Tryz.func25, Tryz.ntmps25
  go_wp2_with fail
  refine (index_times h).mono ?_
  rintro e w2 ⟨rfl, rfl⟩
  go_wp2_with fail
  go_ret
  exact ⟨rfl, rfl⟩
theorem index_quo {g : Nat} {W : World} (h : Six g W) : Calls Tryz.prog 49 #[.slice (some ⟨g, 0, none⟩) 6 6, .string ⟨#[47]⟩] W fun e w' => e = .returned (.int .i64 3) ∧ W = w' := by
  have q0 := h.c0
  have q1 := h.c1
  have q2 := h.c2
  have q3 := h.c3
  go_enter Tryz.func49, Tryz.ntmps49
  go_wp2_with fail
  refine wp_loop_rounds 4 ?_
  rw [rounds_succ]
  go_wp2_with fail
  rw [rounds_succ]
  go_wp2_with fail
  rw [rounds_succ]
  go_wp2_with fail
  rw [rounds_succ]
  go_wp2_with fail
  go_ret
  exact ⟨rfl, rfl⟩
theorem contains_quo {g : Nat} {W : World} (h : Six g W) : Calls Tryz.prog 25 #[.slice (some ⟨g, 0, none⟩) 6 6, .string ⟨#[47]⟩] W fun e w' => e = .returned (.bool true) ∧ W = w' := by
  go_enter Tryz.func25, Tryz.ntmps25
  go_wp2_with fail
  refine (index_quo h).mono ?_
  rintro e w2 ⟨rfl, rfl⟩
  go_wp2_with fail
  go_ret
  exact ⟨rfl, rfl⟩
end Go.Proofs.YtdpnknlpkjablaaGreatDoor
