/- A statement that draws its order and ends in one last operation: by a table of what each operation yields (under way). -/
import Derived.Test.YtkoghgnjjfnamaaGreatDoorRegInv
namespace Go.Proofs.YtkoghgnjjfnamaaGreatDoor
open Go

section
variable {P : Program} {ops : Array Oper} {Q : Exit → Act → World → Prop}

/-- Each operation but the last is awaited by a later one. -/
def awaitedB (ops : Array Oper) (n : Nat) : Bool := (List.range n).all fun i => (List.range (n + 1)).any fun j => decide (i < j) && ((ops[j]?).map fun o : Oper => o.after.any fun e => e.on == i && Region.binds .any e) == some true
theorem awaited_all {n : Nat} (h : awaitedB ops n = true) {L : Nat → Bool} (hc : ∀ i, L i = true → ∀ j, ((ops[i]?).map fun o : Oper => o.after.any fun e => e.on == j && Region.binds .any e) = some true → L j = true)
    (hn : ∀ j, ((ops[n]?).map fun o : Oper => o.after.any fun e => e.on == j && Region.binds .any e) = some true → L j = true) : ∀ i, i < n → L i = true := by
  have key : ∀ k i, i + k = n → 0 < k → L i = true := by
    intro k
    induction k using Nat.strongRecOn with
    | ind k ih =>
      intro i hik hk
      unfold awaitedB at h
      rw [List.all_eq_true] at h
      have hi := h i (List.mem_range.2 (by omega))
      rw [List.any_eq_true] at hi
      obtain ⟨j, hj, hx⟩ := hi
      rw [Bool.and_eq_true, decide_eq_true_eq, beq_iff_eq] at hx
      have hjn := List.mem_range.1 hj
      by_cases e : j = n
      · subst e
        exact hn i hx.2
      · exact hc j (ih (n - j) (by omega) j (by omega) (by omega)) i hx.2
  intro i hi
  exact key (n - i) i (by omega) (by omega)

theorem frameOf_same {a0 : Act} {ds : List Nat} {v v' : Nat → Value} (h : ∀ d, ds.contains d = true → v d = v' d) : frameOf a0 ds v = frameOf a0 ds v' := by
  unfold frameOf
  congr 1
  apply Array.ext
  · simp
  · intro j h1 h2
    simp only [Array.getElem_mapIdx]
    split
    · exact h j ‹_›
    · rfl

theorem wp_region_tab {id : Nat} {a : Act} {w : World} (hm : P.follows .mixedOrders = true) (n base : Nat) (V : Nat → Value) (W : World → Prop) (hsz : ops.size = n + 1) (back : backB ops = true) (haw : awaitedB ops n = true) (hw0 : W w.drew)
    (step : ∀ (i : Nat), i < n → ∀ (v : Nat → Value) (w : World), W w → (∀ j, ((ops[i]?).map fun o : Oper => o.after.any fun e => e.on == j && Region.binds .any e) = some true → v (base + j) = V j) →
      wpOp P ops Q i (fun a' w' => a' = frameOf a (List.range' base n) (fun d => if d = base + i then V i else v d) ∧ W w') (frameOf a (List.range' base n) v) w)
    (last : ∀ (w : World), W w → wpOp P ops Q n (Q .normal) (frameOf a (List.range' base n) (fun d => V (d - base))) w) :
    (Code.region id ops true).wp P Q a w := by
  have hdep : ∀ i j, ((ops[i]?).map fun o : Oper => o.after.any fun e => e.on == j && Region.binds .any e) = some true → j < i := by
    intro i j h
    cases ho : ops[i]? with
    | none => rw [ho] at h; cases h
    | some o =>
      rw [ho] at h
      simp only [Option.map_some, Option.some.injEq, Array.any_eq_true'] at h
      obtain ⟨e, he, hb⟩ := h
      rw [Bool.and_eq_true, beq_iff_eq] at hb
      rw [← hb.1]
      exact backB_spec back i o ho e he hb.2
  refine wp_region_inv hm (fun L a' w' => (L n = true ∧ (∀ i, i < n → L i = true) ∧ Q .normal a' w') ∨
    (L n = false ∧ (∀ i, i ≤ n → L i = true → ∀ j, ((ops[i]?).map fun o : Oper => o.after.any fun e => e.on == j && Region.binds .any e) = some true → L j = true) ∧
      ∃ v, a' = frameOf a (List.range' base n) v ∧ W w' ∧ ∀ i, i < n → L i = true → v (base + i) = V i)) back
    (Or.inr ⟨rfl, (fun _ _ h => by cases h), _, (frameOf_self a _).symm, hw0, fun _ _ h => by cases h⟩) ?_ ?_
  · intro i hi L a' w' hL hd hI
    rcases hI with ⟨hn, hall, _⟩ | ⟨hn, hcl, v, rfl, hW, hv⟩
    · by_cases e : i = n
      · subst e; rw [hn] at hL; cases hL
      · rw [hall i (by omega)] at hL; cases hL
    · by_cases e : i = n
      · subst e
        have hall := awaited_all (L := fun j => L j && decide (j ≤ i)) haw (fun k hk j hj => by
          rw [Bool.and_eq_true, decide_eq_true_eq] at hk ⊢
          exact ⟨hcl k hk.2 hk.1 j hj, by have := hdep k j hj; omega⟩) (fun j hj => by
          rw [Bool.and_eq_true, decide_eq_true_eq]
          exact ⟨hd j hj, by have := hdep i j hj; omega⟩)
        have hall' : ∀ k, k < i → L k = true := fun k hk => by
          have := hall k hk
          rw [Bool.and_eq_true] at this
          exact this.1
        rw [frameOf_same (v' := fun d => V (d - base)) (fun d hdd => by
          have hdm : d ∈ List.range' base i := by simpa using hdd
          rw [List.mem_range'_1] at hdm
          have := hv (d - base) (by omega) (hall' _ (by omega))
          rwa [show base + (d - base) = d by omega] at this)]
        refine wpOp_mono (fun a2 w2 h2 => Or.inl ⟨by simp, fun k hk => ?_, h2⟩) (last w' hW)
        simp [hall' k hk]
      · have hin : i < n := by omega
        refine wpOp_mono (fun a2 w2 h2 => Or.inr ⟨?_, ?_, _, h2.1, h2.2, ?_⟩) (step i hin v w' hW (fun j hj => hv j (by have := hdep i j hj; omega) (hd j hj)))
        · simp [hn]
          omega
        · intro k hkn hk j hj
          simp only [Bool.or_eq_true, beq_iff_eq] at hk ⊢
          rcases hk with hk | rfl
          · exact Or.inl (hcl k hkn hk j hj)
          · exact Or.inl (hd j hj)
        · intro k hk hk2
          simp only [Bool.or_eq_true, beq_iff_eq] at hk2
          by_cases e2 : k = i
          · subst e2; simp
          · rw [if_neg (by omega)]
            rcases hk2 with hk2 | hk2
            · exact hv k hk hk2
            · exact absurd hk2 e2
  · intro L a' w' hall hI
    rcases hI with ⟨_, _, h⟩ | ⟨hn, _⟩
    · exact h
    · rw [hall n (by omega)] at hn; cases hn

theorem yielded_at {g d : Nat} {o : Oper} {tmps : Array Value} {b : Bool} (ho : ops[g]? = some o) (hd : o.dst = some d) (hs : d < tmps.size) (hv : tmps[d]?.getD undef = .bool b) : yielded ops tmps g = some b := by
  have h : tmps[d]? = some (.bool b) := by
    rw [Array.getElem?_eq_getElem hs] at hv ⊢
    simpa using hv
  unfold yielded
  rw [ho]
  simp [hd, h]
/-- An operation whose guard lets it run. -/
theorem wpOp_guard {i g : Nat} {b : Bool} {o : Oper} {K : Act → World → Prop} {a : Act} {w w' : World} {v : Value} (ho : ops[i]? = some o) (hg : o.guard = some (g, b)) (hy : yielded ops a.tmps g = some b) (hr : (execOp a.eval o).run P w = .ok (.value v) w') (h : K (a.put o.dst v) w') : wpOp P ops Q i K a w := by
  refine wpOp_step ho fun K' hK => ?_
  rw [if_pos (by unfold Region.wanted; rw [hg]; simp [hy])]
  unfold Oper.wp
  rw [hr]
  exact hK _ _ h
/-- An operation that its guard leaves out. -/
theorem wpOp_out {i g : Nat} {b c : Bool} {o : Oper} {K : Act → World → Prop} {a : Act} {w : World} (ho : ops[i]? = some o) (hg : o.guard = some (g, b)) (hy : yielded ops a.tmps g = some c) (hc : c ≠ b) (h : K (a.put o.dst undef) w) : wpOp P ops Q i K a w := by
  refine wpOp_step ho fun K' hK => ?_
  rw [if_neg (by unfold Region.wanted; rw [hg]; simp [hy, hc])]
  exact hK _ _ h
theorem wpOp_guardcall {i g : Nat} {b : Bool} {o : Oper} {K : Act → World → Prop} {a : Act} {w : World} {f : FuncId} {args : Array Value} {R : Ending → World → Prop} (ho : ops[i]? = some o) (hg : o.guard = some (g, b)) (hy : yielded ops a.tmps g = some b) (hr : (execOp a.eval o).run P w = .ok (.enter f args) w)
    (hc : Calls P f args w R) (h : ∀ e w', R e w' → ∃ v, e = .returned v ∧ K (a.put o.dst v) w') : wpOp P ops Q i K a w := by
  refine wpOp_step ho fun K' hK => ?_
  rw [if_pos (by unfold Region.wanted; rw [hg]; simp [hy])]
  unfold Oper.wp
  rw [hr]
  refine hc.mono ?_
  intro e w' hR
  obtain ⟨v, rfl, hk⟩ := h e w' hR
  exact hK _ _ hk
end
end Go.Proofs.YtkoghgnjjfnamaaGreatDoor
