/- A drawn region by a table, as RegTab, with one operation whose value is not known ahead (it makes memory): the law of the world changes there, and holds its value. -/
import Derived.Test.YtkoghgnjjfnamaaGreatDoorRegTab
namespace Go.Proofs.YtkoghgnjjfnamaaGreatDoor
open Go
/-- What operation i yields: the table's value; s at m. -/
def tabV (V : Nat → Value) (m : Nat) (s : Option Value) (i : Nat) : Value := if i = m then s.getD undef else V i
section
variable {P : Program} {ops : Array Oper} {Q : Exit → Act → World → Prop}
theorem wp_region_tabx {id : Nat} {a : Act} {w : World} (hmx : P.follows .mixedOrders = true) (n base m : Nat) (V : Nat → Value) (W : Option Value → World → Prop) (hsz : ops.size = n + 1) (back : backB ops = true) (haw : awaitedB ops n = true) (hm : m < n) (hw0 : W none w.drew)
    (step : ∀ (i : Nat), i < n → i ≠ m → ∀ (s : Option Value) (v : Nat → Value) (w : World), W s w → (((ops[i]?).map fun o : Oper => o.after.any fun e => e.on == m && Region.binds .any e) = some true → s.isSome = true) → (∀ j, ((ops[i]?).map fun o : Oper => o.after.any fun e => e.on == j && Region.binds .any e) = some true → v (base + j) = tabV V m s j) →
      wpOp P ops Q i (fun a' w' => a' = frameOf a (List.range' base n) (fun d => if d = base + i then V i else v d) ∧ W s w') (frameOf a (List.range' base n) v) w)
    (make : ∀ (v : Nat → Value) (w : World), W none w → (∀ j, j ≠ m → ((ops[m]?).map fun o : Oper => o.after.any fun e => e.on == j && Region.binds .any e) = some true → v (base + j) = V j) →
      wpOp P ops Q m (fun a' w' => ∃ x, a' = frameOf a (List.range' base n) (fun d => if d = base + m then x else v d) ∧ W (some x) w') (frameOf a (List.range' base n) v) w)
    (last : ∀ (x : Value) (w : World), W (some x) w → wpOp P ops Q n (Q .normal) (frameOf a (List.range' base n) (fun d => if d = base + m then x else V (d - base))) w) :
    (Code.region id ops true).wp P Q a w := by
  have hdep : ∀ i j, ((ops[i]?).map fun o : Oper => o.after.any fun e => e.on == j && Region.binds .any e) = some true → j < i := by
    intro i j h
    cases ho : ops[i]? with
    | none => rw [ho] at h; cases h
    | some o =>
      rw [ho] at h
      simp only [Option.map_some, Option.some.injEq, Array.any_eq_true'] at h
      obtain ⟨e, he, hb⟩ := h
      rw [Bool.and_eq_true, beq_iff_eq] at hb
      rw [← hb.1]
      exact backB_spec back i o ho e he hb.2
  refine wp_region_inv hmx (fun L a' w' => (L n = true ∧ (∀ i, i < n → L i = true) ∧ Q .normal a' w') ∨
    (L n = false ∧ (∀ i, i ≤ n → L i = true → ∀ j, ((ops[i]?).map fun o : Oper => o.after.any fun e => e.on == j && Region.binds .any e) = some true → L j = true) ∧
      ∃ s v, a' = frameOf a (List.range' base n) v ∧ s.isSome = L m ∧ W s w' ∧ ∀ i, i < n → L i = true → v (base + i) = tabV V m s i)) back
    (Or.inr ⟨rfl, (fun _ _ h => by cases h), none, _, (frameOf_self a _).symm, rfl, hw0, fun _ _ h => by cases h⟩) ?_ ?_
  · intro i hi L a' w' hL hd hI
    rcases hI with ⟨hn, hall, _⟩ | ⟨hn, hcl, s, v, rfl, hs, hW, hv⟩
    · by_cases e : i = n
      · subst e; rw [hn] at hL; cases hL
      · rw [hall i (by omega)] at hL; cases hL
    · by_cases e : i = n
      · subst e
        have hall := awaited_all (L := fun j => L j && decide (j ≤ i)) haw (fun k hk j hj => by
          rw [Bool.and_eq_true, decide_eq_true_eq] at hk ⊢
          exact ⟨hcl k hk.2 hk.1 j hj, by have := hdep k j hj; omega⟩) (fun j hj => by
          rw [Bool.and_eq_true, decide_eq_true_eq]
          exact ⟨hd j hj, by have := hdep i j hj; omega⟩)
        have hall' : ∀ k, k < i → L k = true := fun k hk => by
          have := hall k hk
          rw [Bool.and_eq_true] at this
          exact this.1
        rw [hall' m hm] at hs
        cases s with
        | none => cases hs
        | some x =>
        rw [frameOf_same (v' := fun d => if d = base + m then x else V (d - base)) (fun d hdd => by
          have hdm : d ∈ List.range' base i := by simpa using hdd
          rw [List.mem_range'_1] at hdm
          have h5 := hv (d - base) (by omega) (hall' _ (by omega))
          rw [show base + (d - base) = d by omega] at h5
          rw [h5]
          unfold tabV
          by_cases e : d = base + m
          · subst e; simp
          · rw [if_neg (by omega), if_neg e])]
        refine wpOp_mono (fun a2 w2 h2 => Or.inl ⟨by simp, fun k hk => ?_, h2⟩) (last x w' hW)
        simp [hall' k hk]
      · have hin : i < n := by omega
        have key : ∀ (s' : Option Value) (a2 : Act) (w2 : World), (s'.isSome = (L m || (m == i))) → (∀ k, k ≠ m → tabV V m s' k = tabV V m s k) → (i ≠ m → s' = s) → a2 = frameOf a (List.range' base n) (fun d => if d = base + i then tabV V m s' i else v d) → W s' w2 →
            ((L n || (n == i)) = true ∧ (∀ k, k < n → (L k || (k == i)) = true) ∧ Q .normal a2 w2) ∨
            ((L n || (n == i)) = false ∧ (∀ k, k ≤ n → (L k || (k == i)) = true → ∀ j, ((ops[k]?).map fun o : Oper => o.after.any fun e => e.on == j && Region.binds .any e) = some true → (L j || (j == i)) = true) ∧
              ∃ s v, a2 = frameOf a (List.range' base n) v ∧ s.isSome = (L m || (m == i)) ∧ W s w2 ∧ ∀ k, k < n → (L k || (k == i)) = true → v (base + k) = tabV V m s k) := by
          intro s' a2 w2 h1 h2 h3 h4 h5
          refine Or.inr ⟨?_, ?_, s', _, h4, h1, h5, ?_⟩
          · simp [hn]
            omega
          · intro k hkn hk j hj
            simp only [Bool.or_eq_true, beq_iff_eq] at hk ⊢
            rcases hk with hk | rfl
            · exact Or.inl (hcl k hkn hk j hj)
            · exact Or.inl (hd j hj)
          · intro k hk hk2
            simp only [Bool.or_eq_true, beq_iff_eq] at hk2
            by_cases e2 : k = i
            · subst e2; simp
            · rw [if_neg (by omega)]
              rcases hk2 with hk2 | hk2
              · by_cases e3 : k = m
                · subst e3
                  rw [hv k hk hk2, h3 (fun e => e2 e.symm)]
                · rw [h2 k e3]
                  exact hv k hk hk2
              · exact absurd hk2 e2
        by_cases e3 : i = m
        · subst e3
          rw [hL] at hs
          cases s with
          | some x => cases hs
          | none =>
          refine wpOp_mono (fun a2 w2 h2 => ?_) (make v w' hW (fun j hj hj2 => by
            have := hv j (by have := hdep i j hj2; omega) (hd j hj2)
            unfold tabV at this
            rwa [if_neg hj] at this))
          obtain ⟨x, h3, h4⟩ := h2
          exact key (some x) a2 w2 (by simp) (fun k hk => by unfold tabV; rw [if_neg hk, if_neg hk]) (fun h => absurd rfl h) (by rw [h3]; congr 1; funext d; by_cases e : d = base + i <;> simp [e, tabV]) h4
        · refine wpOp_mono (fun a2 w2 h2 => key s a2 w2 (by rw [hs]; simp; intro h; exact absurd h.symm e3) (fun _ _ => rfl) (fun _ => rfl) (by rw [h2.1]; congr 1; funext d; by_cases e : d = base + i <;> simp [e, tabV, e3]) h2.2)
            (step i hin e3 s v w' hW (fun hj => by rw [hs]; exact hd m hj) (fun j hj => hv j (by have := hdep i j hj; omega) (hd j hj)))
  · intro L a' w' hall hI
    rcases hI with ⟨_, _, h⟩ | ⟨hn, _⟩
    · exact h
    · rw [hall n (by omega)] at hn; cases hn
end
end Go.Proofs.YtkoghgnjjfnamaaGreatDoor
