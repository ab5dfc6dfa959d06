/- A statement that draws its order, by an invariant: each operation is looked at once, whatever the order. -/
import Derived.Test.YthefajkihnlgfaaGreatDoorM03
import Derived.WalkKit
import Derived.Orders
namespace Go.Proofs.YthefajkihnlgfaaGreatDoor
open Go

section
variable {P : Program} {ops : Array Oper} {Q : Exit → Act → World → Prop}

theorem listed_set {listed : Array Bool} {i : Nat} (hi : i < listed.size) : (fun j => (listed.setIfInBounds i true).getD j false) = (fun j => listed.getD j false || j == i) := by
  funext j
  by_cases h : i = j
  · subst h
    simp [hi]
  · rw [getD_set_ne false h]
    have : (j == i) = false := by simp; omega
    rw [this, Bool.or_false]
theorem listed_count {listed : Array Bool} {i : Nat} (hi : i < listed.size) (hf : listed.getD i true = false) : (listed.setIfInBounds i true).toList.count true = listed.toList.count true + 1 := by
  have hg : listed[i] = false := by simpa [hi] using hf
  rw [Array.toList_setIfInBounds, List.count_set (by simpa using hi)]
  simp [hg]

/-- Every edge goes back. -/
def backB (ops : Array Oper) : Bool := (List.range ops.size).all fun i => match ops[i]? with | some o => o.after.all fun e => !(Region.binds .any e) || decide (e.on < i) | none => true
theorem backB_spec (h : backB ops = true) (i : Nat) (o : Oper) (ho : ops[i]? = some o) (e : Edge) (he : e ∈ o.after) (hb : Region.binds .any e = true) : e.on < i := by
  unfold backB at h
  rw [List.all_eq_true] at h
  have hlt : i < ops.size := (Array.getElem?_eq_some_iff.1 ho).1
  have := h i (List.mem_range.2 hlt)
  rw [ho] at this
  simp only [Array.all_eq_true_iff_forall_mem] at this
  simpa [hb] using this e he

theorem wpAny_inv (I : (Nat → Bool) → Act → World → Prop) (back : ∀ (i : Nat) (o : Oper), ops[i]? = some o → ∀ e ∈ o.after, Region.binds .any e = true → e.on < i)
    (step : ∀ (L : Nat → Bool) (a : Act) (w : World) (i : Nat) (o : Oper), ops[i]? = some o → L i = false → (∀ e ∈ o.after, Region.binds .any e = true → L e.on = true) → I L a w → wpOp P ops Q i (I (fun j => L j || j == i)) a w)
    (fin : ∀ (L : Nat → Bool) (a : Act) (w : World), (∀ i, i < ops.size → L i = true) → I L a w → Q .normal a w) :
    ∀ (fuel : Nat) (listed : Array Bool) (a : Act) (w : World), listed.size = ops.size → ops.size ≤ fuel + listed.toList.count true → I (fun j => listed.getD j false) a w → wpAny P .any ops Q fuel listed a w := by
  have done : ∀ (listed : Array Bool) (a : Act) (w : World), listed.size = ops.size → Region.ready .any ops listed = [] → I (fun j => listed.getD j false) a w → Q .normal a w := by
    intro listed a w hs hr hI
    refine fin _ a w (fun i => ?_) hI
    induction i using Nat.strongRecOn with
    | ind i ih =>
      intro hi
      cases hl : listed.getD i false with
      | true => rfl
      | false =>
        have ho : ops[i]? = some ops[i] := Array.getElem?_eq_getElem hi
        have : i ∈ Region.ready .any ops listed := mem_ready.2 ⟨by
          rw [← hs] at hi
          simpa [hi] using hl, _, ho, fun e he hbe => ih e.on (back i _ ho e he hbe) (Nat.lt_trans (back i _ ho e he hbe) hi)⟩
        rw [hr] at this
        cases this
  intro fuel
  induction fuel with
  | zero =>
    intro listed a w hs hc hI
    have hr : Region.ready .any ops listed = [] := by
      rw [List.eq_nil_iff_forall_not_mem]
      intro i hi
      obtain ⟨h0, o, ho, _⟩ := mem_ready.1 hi
      have hlt : i < listed.size := by rw [hs]; exact (Array.getElem?_eq_some_iff.1 ho).1
      have hcl := List.count_le_length (a := true) (l := listed.toList)
      have heq : listed.toList.count true = listed.toList.length := by simp at hcl hc ⊢; omega
      rw [List.count_eq_length] at heq
      have := heq listed[i] (by simp)
      simp [hlt] at h0
      rw [h0] at this
      cases this
    exact ⟨hr, done listed a w hs hr hI⟩
  | succ fuel ih =>
    intro listed a w hs hc hI
    refine ⟨fun hr => done listed a w hs hr hI, fun i hi => ?_⟩
    obtain ⟨h0, o, ho, hall⟩ := mem_ready.1 hi
    have hlt : i < listed.size := by rw [hs]; exact (Array.getElem?_eq_some_iff.1 ho).1
    have h0' : listed.getD i false = false := by simpa [hlt] using h0
    refine wpOp_mono (fun a' w' hI' => ih _ a' w' (by simpa using hs) (by rw [listed_count hlt h0]; omega) (by rw [listed_set hlt]; exact hI')) (step _ a w i o ho h0' hall hI)

/-- A region that draws its order: what holds ahead of it, step by step, holds behind it. -/
theorem wp_region_inv {id : Nat} {a : Act} {w : World} (hm : P.follows .mixedOrders = true) (I : (Nat → Bool) → Act → World → Prop) (back : backB ops = true)
    (h0 : I (fun _ => false) a w.drew)
    (step : ∀ (i : Nat), i < ops.size → ∀ (L : Nat → Bool) (a : Act) (w : World), L i = false → (∀ j, ((ops[i]?).map fun o => o.after.any fun e => e.on == j && Region.binds .any e) = some true → L j = true) → I L a w → wpOp P ops Q i (I (fun j => L j || j == i)) a w)
    (fin : ∀ (L : Nat → Bool) (a : Act) (w : World), (∀ i, i < ops.size → L i = true) → I L a w → Q .normal a w) :
    (Code.region id ops true).wp P Q a w := by
  refine wp_region_any hm (wpAny_inv I (backB_spec back) (fun L a w i o ho hL hall hI => step i (Array.getElem?_eq_some_iff.1 ho).1 L a w hL (fun j hj => ?_) hI) fin ops.size _ a _ (by simp) (by omega) ?_)
  · rw [ho] at hj
    simp only [Option.map_some, Option.some.injEq, Array.any_eq_true'] at hj
    obtain ⟨e, he, hb⟩ := hj
    rw [Bool.and_eq_true, beq_iff_eq] at hb
    rw [← hb.1]
    exact hall e he hb.2
  · have : (fun j => (Array.replicate ops.size false).getD j false) = fun _ => false := by
      funext j
      simp [Array.getElem?_replicate]
      split <;> rfl
    rw [this]
    exact h0

/-- The frame under a name. -/
theorem with_frame {c : Code} {a : Act} {w : World} (h : ∀ a0 : Act, a0 = a → c.wp P Q a0 w) : c.wp P Q a w := h a rfl

/-- An operation with no guard, by what it runs to. -/
theorem wpOp_value {i : Nat} {o : Oper} {K : Act → World → Prop} {a : Act} {w w' : World} {v : Value} (ho : ops[i]? = some o) (hg : o.guard = none) (hr : (execOp a.eval o).run P w = .ok (.value v) w') (h : K (a.put o.dst v) w') : wpOp P ops Q i K a w := by
  refine wpOp_step ho fun K' hK => ?_
  rw [if_pos (by unfold Region.wanted; rw [hg])]
  unfold Oper.wp
  rw [hr]
  exact hK _ _ h
theorem wpOp_skip {i : Nat} {o : Oper} {K : Act → World → Prop} {a : Act} {w w' : World} (ho : ops[i]? = some o) (hg : o.guard = none) (hd : o.dst = none) (hr : (execOp a.eval o).run P w = .ok .skip w') (h : K a w') : wpOp P ops Q i K a w := by
  refine wpOp_step ho fun K' hK => ?_
  rw [if_pos (by unfold Region.wanted; rw [hg])]
  unfold Oper.wp
  rw [hr]
  refine hK _ _ ?_
  rw [hd]
  exact h
theorem wpOp_call {i : Nat} {o : Oper} {K : Act → World → Prop} {a : Act} {w : World} {f : FuncId} {args : Array Value} {R : Ending → World → Prop} (ho : ops[i]? = some o) (hg : o.guard = none) (hr : (execOp a.eval o).run P w = .ok (.enter f args) w)
    (hc : Calls P f args w R) (h : ∀ e w', R e w' → ∃ v, e = .returned v ∧ K (a.put o.dst v) w') : wpOp P ops Q i K a w := by
  refine wpOp_step ho fun K' hK => ?_
  rw [if_pos (by unfold Region.wanted; rw [hg])]
  unfold Oper.wp
  rw [hr]
  refine hc.mono ?_
  intro e w' hR
  obtain ⟨v, rfl, hk⟩ := h e w' hR
  exact hK _ _ hk
end

/-- A frame in which the slots of ds hold what v says, the others what a0 says. -/
def frameOf (a0 : Act) (ds : List Nat) (v : Nat → Value) : Act := { a0 with tmps := a0.tmps.mapIdx fun j x => if ds.contains j then v j else x }
theorem frameOf_self (a0 : Act) (ds : List Nat) : frameOf a0 ds (fun j => a0.tmps.getD j undef) = a0 := by
  unfold frameOf
  cases a0 with
  | mk t d =>
    congr 1
    apply Array.ext
    · simp
    · intro j h1 h2
      simp [h2]
theorem frameOf_put {a0 : Act} {ds : List Nat} {v : Nat → Value} {d : Nat} {x : Value} (h : ds.contains d = true) : (frameOf a0 ds v).put (some d) x = frameOf a0 ds (fun j => if j = d then x else v j) := by
  unfold frameOf Act.put
  simp only
  congr 1
  apply Array.ext
  · simp
  · intro j h1 h2
    simp at h1 h2
    rw [Array.getElem_setIfInBounds (by simpa using h2)]
    simp only [Array.getElem_mapIdx]
    by_cases hj : d = j
    · subst hj
      have hm : d ∈ ds := by simpa using h
      simp [hm]
    · have hj' : ¬ j = d := fun e => hj e.symm
      simp [hj, hj']
theorem frameOf_in {a0 : Act} {ds : List Nat} {v : Nat → Value} {d : Nat} (h : ds.contains d = true) (hs : d < a0.tmps.size) : (frameOf a0 ds v).eval (.tmp d) = v d := by
  have hm : d ∈ ds := by simpa using h
  simp [frameOf, Act.eval, hs, hm]
theorem frameOf_out {a0 : Act} {ds : List Nat} {v : Nat → Value} {d : Nat} (h : ds.contains d = false) : (frameOf a0 ds v).eval (.tmp d) = a0.eval (.tmp d) := by
  have hm : d ∉ ds := by simpa using h
  simp [frameOf, Act.eval]
  rcases Nat.lt_or_ge d a0.tmps.size with hs | hs
  · simp [hs, hm]
  · simp [hs]
theorem frameOf_in' {a0 : Act} {ds : List Nat} {v : Nat → Value} {d : Nat} (h : ds.contains d = true) (hs : d < a0.tmps.size) : (frameOf a0 ds v).tmps[d]?.getD undef = v d := by
  rw [← frameOf_in (v := v) h hs]
  simp [Act.eval]
theorem frameOf_out' {a0 : Act} {ds : List Nat} {v : Nat → Value} {d : Nat} (h : ds.contains d = false) : (frameOf a0 ds v).tmps[d]?.getD undef = a0.eval (.tmp d) := by
  rw [← frameOf_out (v := v) h]
  simp [Act.eval]
theorem frameOf_cons (a0 : Act) (d : Nat) (ds : List Nat) (v : Nat → Value) : frameOf a0 (d :: ds) v = frameOf (a0.put (some d) (v d)) ds v := by
  unfold frameOf Act.put
  simp only
  congr 1
  apply Array.ext
  · simp
  · intro j h1 h2
    simp only [Array.getElem_mapIdx]
    have h1' : j < a0.tmps.size := by simpa using h1
    rw [Array.getElem_setIfInBounds (by simpa using h1')]
    by_cases hm : j ∈ ds
    · simp [hm]
    · by_cases hj : d = j
      · subst hj; simp [hm]
      · have hj' : ¬ j = d := fun e => hj e.symm
        simp [hm, hj, hj']
theorem frameOf_nil (a0 : Act) (v : Nat → Value) : frameOf a0 [] v = a0 := by
  unfold frameOf
  cases a0 with
  | mk t d =>
    congr 1
    apply Array.ext
    · simp
    · intro j h1 h2
      simp
end Go.Proofs.YthefajkihnlgfaaGreatDoor

/- A statement that draws its order and ends in one last operation: by a table of what each operation yields (under way). -/
namespace Go.Proofs.YthefajkihnlgfaaGreatDoor
open Go

section
variable {P : Program} {ops : Array Oper} {Q : Exit → Act → World → Prop}

/-- Each operation but the last is awaited by a later one. -/
def awaitedB (ops : Array Oper) (n : Nat) : Bool := (List.range n).all fun i => (List.range (n + 1)).any fun j => decide (i < j) && ((ops[j]?).map fun o : Oper => o.after.any fun e => e.on == i && Region.binds .any e) == some true
theorem awaited_all {n : Nat} (h : awaitedB ops n = true) {L : Nat → Bool} (hc : ∀ i, L i = true → ∀ j, ((ops[i]?).map fun o : Oper => o.after.any fun e => e.on == j && Region.binds .any e) = some true → L j = true)
    (hn : ∀ j, ((ops[n]?).map fun o : Oper => o.after.any fun e => e.on == j && Region.binds .any e) = some true → L j = true) : ∀ i, i < n → L i = true := by
  have key : ∀ k i, i + k = n → 0 < k → L i = true := by
    intro k
    induction k using Nat.strongRecOn with
    | ind k ih =>
      intro i hik hk
      unfold awaitedB at h
      rw [List.all_eq_true] at h
      have hi := h i (List.mem_range.2 (by omega))
      rw [List.any_eq_true] at hi
      obtain ⟨j, hj, hx⟩ := hi
      rw [Bool.and_eq_true, decide_eq_true_eq, beq_iff_eq] at hx
      have hjn := List.mem_range.1 hj
      by_cases e : j = n
      · subst e
        exact hn i hx.2
      · exact hc j (ih (n - j) (by omega) j (by omega) (by omega)) i hx.2
  intro i hi
  exact key (n - i) i (by omega) (by omega)

theorem frameOf_same {a0 : Act} {ds : List Nat} {v v' : Nat → Value} (h : ∀ d, ds.contains d = true → v d = v' d) : frameOf a0 ds v = frameOf a0 ds v' := by
  unfold frameOf
  congr 1
  apply Array.ext
  · simp
  · intro j h1 h2
    simp only [Array.getElem_mapIdx]
    split
    · exact h j ‹_›
    · rfl

theorem wp_region_tab {id : Nat} {a : Act} {w : World} (hm : P.follows .mixedOrders = true) (n base : Nat) (V : Nat → Value) (W : World → Prop) (hsz : ops.size = n + 1) (back : backB ops = true) (haw : awaitedB ops n = true) (hw0 : W w.drew)
    (step : ∀ (i : Nat), i < n → ∀ (v : Nat → Value) (w : World), W w → (∀ j, ((ops[i]?).map fun o : Oper => o.after.any fun e => e.on == j && Region.binds .any e) = some true → v (base + j) = V j) →
      wpOp P ops Q i (fun a' w' => a' = frameOf a (List.range' base n) (fun d => if d = base + i then V i else v d) ∧ W w') (frameOf a (List.range' base n) v) w)
    (last : ∀ (w : World), W w → wpOp P ops Q n (Q .normal) (frameOf a (List.range' base n) (fun d => V (d - base))) w) :
    (Code.region id ops true).wp P Q a w := by
  have hdep : ∀ i j, ((ops[i]?).map fun o : Oper => o.after.any fun e => e.on == j && Region.binds .any e) = some true → j < i := by
    intro i j h
    cases ho : ops[i]? with
    | none => rw [ho] at h; cases h
    | some o =>
      rw [ho] at h
      simp only [Option.map_some, Option.some.injEq, Array.any_eq_true'] at h
      obtain ⟨e, he, hb⟩ := h
      rw [Bool.and_eq_true, beq_iff_eq] at hb
      rw [← hb.1]
      exact backB_spec back i o ho e he hb.2
  refine wp_region_inv hm (fun L a' w' => (L n = true ∧ (∀ i, i < n → L i = true) ∧ Q .normal a' w') ∨
    (L n = false ∧ (∀ i, i ≤ n → L i = true → ∀ j, ((ops[i]?).map fun o : Oper => o.after.any fun e => e.on == j && Region.binds .any e) = some true → L j = true) ∧
      ∃ v, a' = frameOf a (List.range' base n) v ∧ W w' ∧ ∀ i, i < n → L i = true → v (base + i) = V i)) back
    (Or.inr ⟨rfl, (fun _ _ h => by cases h), _, (frameOf_self a _).symm, hw0, fun _ _ h => by cases h⟩) ?_ ?_
  · intro i hi L a' w' hL hd hI
    rcases hI with ⟨hn, hall, _⟩ | ⟨hn, hcl, v, rfl, hW, hv⟩
    · by_cases e : i = n
      · subst e; rw [hn] at hL; cases hL
      · rw [hall i (by omega)] at hL; cases hL
    · by_cases e : i = n
      · subst e
        have hall := awaited_all (L := fun j => L j && decide (j ≤ i)) haw (fun k hk j hj => by
          rw [Bool.and_eq_true, decide_eq_true_eq] at hk ⊢
          exact ⟨hcl k hk.2 hk.1 j hj, by have := hdep k j hj; omega⟩) (fun j hj => by
          rw [Bool.and_eq_true, decide_eq_true_eq]
          exact ⟨hd j hj, by have := hdep i j hj; omega⟩)
        have hall' : ∀ k, k < i → L k = true := fun k hk => by
          have := hall k hk
          rw [Bool.and_eq_true] at this
          exact this.1
        rw [frameOf_same (v' := fun d => V (d - base)) (fun d hdd => by
          have hdm : d ∈ List.range' base i := by simpa using hdd
          rw [List.mem_range'_1] at hdm
          have := hv (d - base) (by omega) (hall' _ (by omega))
          rwa [show base + (d - base) = d by omega] at this)]
        refine wpOp_mono (fun a2 w2 h2 => Or.inl ⟨by simp, fun k hk => ?_, h2⟩) (last w' hW)
        simp [hall' k hk]
      · have hin : i < n := by omega
        refine wpOp_mono (fun a2 w2 h2 => Or.inr ⟨?_, ?_, _, h2.1, h2.2, ?_⟩) (step i hin v w' hW (fun j hj => hv j (by have := hdep i j hj; omega) (hd j hj)))
        · simp [hn]
          omega
        · intro k hkn hk j hj
          simp only [Bool.or_eq_true, beq_iff_eq] at hk ⊢
          rcases hk with hk | rfl
          · exact Or.inl (hcl k hkn hk j hj)
          · exact Or.inl (hd j hj)
        · intro k hk hk2
          simp only [Bool.or_eq_true, beq_iff_eq] at hk2
          by_cases e2 : k = i
          · subst e2; simp
          · rw [if_neg (by omega)]
            rcases hk2 with hk2 | hk2
            · exact hv k hk hk2
            · exact absurd hk2 e2
  · intro L a' w' hall hI
    rcases hI with ⟨_, _, h⟩ | ⟨hn, _⟩
    · exact h
    · rw [hall n (by omega)] at hn; cases hn

theorem yielded_at {g d : Nat} {o : Oper} {tmps : Array Value} {b : Bool} (ho : ops[g]? = some o) (hd : o.dst = some d) (hs : d < tmps.size) (hv : tmps[d]?.getD undef = .bool b) : yielded ops tmps g = some b := by
  have h : tmps[d]? = some (.bool b) := by
    rw [Array.getElem?_eq_getElem hs] at hv ⊢
    simpa using hv
  unfold yielded
  rw [ho]
  simp [hd, h]
/-- An operation whose guard lets it run. -/
theorem wpOp_guard {i g : Nat} {b : Bool} {o : Oper} {K : Act → World → Prop} {a : Act} {w w' : World} {v : Value} (ho : ops[i]? = some o) (hg : o.guard = some (g, b)) (hy : yielded ops a.tmps g = some b) (hr : (execOp a.eval o).run P w = .ok (.value v) w') (h : K (a.put o.dst v) w') : wpOp P ops Q i K a w := by
  refine wpOp_step ho fun K' hK => ?_
  rw [if_pos (by unfold Region.wanted; rw [hg]; simp [hy])]
  unfold Oper.wp
  rw [hr]
  exact hK _ _ h
/-- An operation that its guard leaves out. -/
theorem wpOp_out {i g : Nat} {b c : Bool} {o : Oper} {K : Act → World → Prop} {a : Act} {w : World} (ho : ops[i]? = some o) (hg : o.guard = some (g, b)) (hy : yielded ops a.tmps g = some c) (hc : c ≠ b) (h : K (a.put o.dst undef) w) : wpOp P ops Q i K a w := by
  refine wpOp_step ho fun K' hK => ?_
  rw [if_neg (by unfold Region.wanted; rw [hg]; simp [hy, hc])]
  exact hK _ _ h
theorem wpOp_guardcall {i g : Nat} {b : Bool} {o : Oper} {K : Act → World → Prop} {a : Act} {w : World} {f : FuncId} {args : Array Value} {R : Ending → World → Prop} (ho : ops[i]? = some o) (hg : o.guard = some (g, b)) (hy : yielded ops a.tmps g = some b) (hr : (execOp a.eval o).run P w = .ok (.enter f args) w)
    (hc : Calls P f args w R) (h : ∀ e w', R e w' → ∃ v, e = .returned v ∧ K (a.put o.dst v) w') : wpOp P ops Q i K a w := by
  refine wpOp_step ho fun K' hK => ?_
  rw [if_pos (by unfold Region.wanted; rw [hg]; simp [hy])]
  unfold Oper.wp
  rw [hr]
  refine hc.mono ?_
  intro e w' hR
  obtain ⟨v, rfl, hk⟩ := h e w' hR
  exact hK _ _ hk
end
end Go.Proofs.YthefajkihnlgfaaGreatDoor

