/- A drawn region by a table, as RegTab, with one operation that makes memory: the law of the world changes there. -/
import Derived.Test.YtppljgallbmgcaaGreatDoorRegTab
namespace Go.Proofs.YtppljgallbmgcaaGreatDoor
open Go

section
variable {P : Program} {ops : Array Oper} {Q : Exit → Act → World → Prop}
theorem wp_region_taba {id : Nat} {a : Act} {w : World} (hmx : P.follows .mixedOrders = true) (n base m : Nat) (V : Nat → Value) (W : Bool → World → Prop) (hsz : ops.size = n + 1) (back : backB ops = true) (haw : awaitedB ops n = true) (hm : m < n) (hw0 : W false w.drew)
    (step : ∀ (i : Nat), i < n → ∀ (b : Bool) (v : Nat → Value) (w : World), W b w → (i = m → b = false) → (((ops[i]?).map fun o : Oper => o.after.any fun e => e.on == m && Region.binds .any e) = some true → b = true) → (∀ j, ((ops[i]?).map fun o : Oper => o.after.any fun e => e.on == j && Region.binds .any e) = some true → v (base + j) = V j) →
      wpOp P ops Q i (fun a' w' => a' = frameOf a (List.range' base n) (fun d => if d = base + i then V i else v d) ∧ W (b || i == m) w') (frameOf a (List.range' base n) v) w)
    (last : ∀ (w : World), W true w → wpOp P ops Q n (Q .normal) (frameOf a (List.range' base n) (fun d => V (d - base))) w) :
    (Code.region id ops true).wp P Q a w := by
  have hdep : ∀ i j, ((ops[i]?).map fun o : Oper => o.after.any fun e => e.on == j && Region.binds .any e) = some true → j < i := by
    intro i j h
    cases ho : ops[i]? with
    | none => rw [ho] at h; cases h
    | some o =>
      rw [ho] at h
      simp only [Option.map_some, Option.some.injEq, Array.any_eq_true'] at h
      obtain ⟨e, he, hb⟩ := h
      rw [Bool.and_eq_true, beq_iff_eq] at hb
      rw [← hb.1]
      exact backB_spec back i o ho e he hb.2
  refine wp_region_inv hmx (fun L a' w' => (L n = true ∧ (∀ i, i < n → L i = true) ∧ Q .normal a' w') ∨
    (L n = false ∧ (∀ i, i ≤ n → L i = true → ∀ j, ((ops[i]?).map fun o : Oper => o.after.any fun e => e.on == j && Region.binds .any e) = some true → L j = true) ∧
      ∃ v, a' = frameOf a (List.range' base n) v ∧ W (L m) w' ∧ ∀ i, i < n → L i = true → v (base + i) = V i)) back
    (Or.inr ⟨rfl, (fun _ _ h => by cases h), _, (frameOf_self a _).symm, hw0, fun _ _ h => by cases h⟩) ?_ ?_
  · intro i hi L a' w' hL hd hI
    rcases hI with ⟨hn, hall, _⟩ | ⟨hn, hcl, v, rfl, hW, hv⟩
    · by_cases e : i = n
      · subst e; rw [hn] at hL; cases hL
      · rw [hall i (by omega)] at hL; cases hL
    · by_cases e : i = n
      · subst e
        have hall := awaited_all (L := fun j => L j && decide (j ≤ i)) haw (fun k hk j hj => by
          rw [Bool.and_eq_true, decide_eq_true_eq] at hk ⊢
          exact ⟨hcl k hk.2 hk.1 j hj, by have := hdep k j hj; omega⟩) (fun j hj => by
          rw [Bool.and_eq_true, decide_eq_true_eq]
          exact ⟨hd j hj, by have := hdep i j hj; omega⟩)
        have hall' : ∀ k, k < i → L k = true := fun k hk => by
          have := hall k hk
          rw [Bool.and_eq_true] at this
          exact this.1
        rw [frameOf_same (v' := fun d => V (d - base)) (fun d hdd => by
          have hdm : d ∈ List.range' base i := by simpa using hdd
          rw [List.mem_range'_1] at hdm
          have := hv (d - base) (by omega) (hall' _ (by omega))
          rwa [show base + (d - base) = d by omega] at this)]
        refine wpOp_mono (fun a2 w2 h2 => Or.inl ⟨by simp, fun k hk => ?_, h2⟩) (last w' (by rw [hall' m hm] at hW; exact hW))
        simp [hall' k hk]
      · have hin : i < n := by omega
        refine wpOp_mono (fun a2 w2 h2 => Or.inr ⟨?_, ?_, _, h2.1, (by have h3 := h2.2; rw [show (i == m) = (m == i) from BEq.comm] at h3; exact h3), ?_⟩) (step i hin (L m) v w' hW (fun e => by subst e; exact hL) (fun hj => hd m hj) (fun j hj => hv j (by have := hdep i j hj; omega) (hd j hj)))
        · simp [hn]
          omega
        · intro k hkn hk j hj
          simp only [Bool.or_eq_true, beq_iff_eq] at hk ⊢
          rcases hk with hk | rfl
          · exact Or.inl (hcl k hkn hk j hj)
          · exact Or.inl (hd j hj)
        · intro k hk hk2
          simp only [Bool.or_eq_true, beq_iff_eq] at hk2
          by_cases e2 : k = i
          · subst e2; simp
          · rw [if_neg (by omega)]
            rcases hk2 with hk2 | hk2
            · exact hv k hk hk2
            · exact absurd hk2 e2
  · intro L a' w' hall hI
    rcases hI with ⟨_, _, h⟩ | ⟨hn, _⟩
    · exact h
    · rw [hall n (by omega)] at hn; cases hn

end
end Go.Proofs.YtppljgallbmgcaaGreatDoor
