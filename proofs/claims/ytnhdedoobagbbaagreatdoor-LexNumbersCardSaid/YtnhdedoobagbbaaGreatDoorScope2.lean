/- A scope with two labels, both jumped to from ahead: an own law beside the kit's 'wp_scope_straight'. -/
import Derived.WalkMore
namespace Go.Proofs.YtnhdedoobagbbaaGreatDoor
section
variable {P : Program} {a : Act} {w : World} {Q : Exit → Act → World → Prop}
theorem wp_scope_two {c r0 r1 : Code} (hf0 : findLabel c 0 = some r0) (hf1 : findLabel c 1 = some r1)
    (h : ∀ Q' : Exit → Act → World → Prop, (∀ a w, r0.wp P (Exit.noGoto Q) a w → Q' (.goto 0) a w) → (∀ a w, r1.wp P (Exit.noGoto Q) a w → Q' (.goto 1) a w) → c.wp P Q' a w) :
    (Code.scope c).wp P Q a w := by
  intro b k cs
  have hg0 : gotoIn 0 (.inScope c :: k) = some (.code r0 :: .inScope c :: k) := by simp [gotoIn, hf0]
  have hg1 : gotoIn 1 (.inScope c :: k) = some (.code r1 :: .inScope c :: k) := by simp [gotoIn, hf1]
  have key : ∀ (r : Code) a w, r.wp P (Exit.noGoto Q) a w → ∃ e a' w', Q e a' w' ∧ Arrives P (lone (b.at a (.code r :: .inScope c :: k)) cs w) b k cs e a' w' := by
    intro r a w hr
    obtain ⟨e, a₁, w₁, hq, harr⟩ := hr b (.inScope c :: k) cs
    cases e with
    | normal => exact ⟨.normal, a₁, w₁, hq, Steps.trans harr (.one step_inScope)⟩
    | exit id => exact ⟨.exit id, a₁, w₁, hq, fun k' hk => harr k' (by simp [exitTo, hk])⟩
    | goto l' => exact hq.elim
    | ret => exact ⟨_, a₁, w₁, hq, harr⟩
    | panic ch => exact ⟨_, a₁, w₁, hq, harr⟩
    | outgrown => exact ⟨_, a₁, w₁, hq, harr⟩
  obtain ⟨e, a₁, w₁, hq, harr⟩ := h (fun e a w => match e with
    | .goto 0 => r0.wp P (Exit.noGoto Q) a w
    | .goto 1 => r1.wp P (Exit.noGoto Q) a w
    | .goto _ => False
    | e => Q e a w) (fun _ _ h => h) (fun _ _ h => h) b (.inScope c :: k) cs
  cases e with
  | normal => exact ⟨.normal, a₁, w₁, hq, .head step_scope (Steps.trans harr (.one step_inScope))⟩
  | exit id => exact ⟨.exit id, a₁, w₁, hq, fun k' hk => .head step_scope (harr k' (by simp [exitTo, hk]))⟩
  | goto l' =>
    match l', hq, harr with
    | 0, hq, harr =>
      obtain ⟨e₂, a₂, w₂, hq₂, harr₂⟩ := key r0 a₁ w₁ hq
      exact ⟨e₂, a₂, w₂, hq₂, .of_steps (.head step_scope (harr _ hg0)) harr₂⟩
    | 1, hq, harr =>
      obtain ⟨e₂, a₂, w₂, hq₂, harr₂⟩ := key r1 a₁ w₁ hq
      exact ⟨e₂, a₂, w₂, hq₂, .of_steps (.head step_scope (harr _ hg1)) harr₂⟩
    | n + 2, hq, _ => exact hq.elim
  | ret => exact ⟨_, a₁, w₁, hq, .of_steps (.one step_scope) harr⟩
  | panic ch => exact ⟨_, a₁, w₁, hq, .of_steps (.one step_scope) harr⟩
  | outgrown => exact ⟨_, a₁, w₁, hq, .of_steps (.one step_scope) harr⟩
end
end Go.Proofs.YtnhdedoobagbbaaGreatDoor
