/- A statement that draws its order, by a table, inside a fence (turned from RegInv, RegTab). -/
import Derived.Test.YtkoghgnjjfnamaaGreatDoorRegTab
import Derived.OrdersIn
namespace Go.Proofs.YtkoghgnjjfnamaaGreatDoor
open Go
section
variable {F : Fence} {nf : Nat} {P : Program} {ops : Array Oper} {Q : Exit → Act → World → Prop}
theorem wpAnyIn_inv (I : (Nat → Bool) → Act → World → Prop) (back : ∀ (i : Nat) (o : Oper), ops[i]? = some o → ∀ e ∈ o.after, Region.binds .any e = true → e.on < i)
    (step : ∀ (L : Nat → Bool) (a : Act) (w : World) (i : Nat) (o : Oper), ops[i]? = some o → L i = false → (∀ e ∈ o.after, Region.binds .any e = true → L e.on = true) → I L a w → wpOpIn F nf P ops Q i (I (fun j => L j || j == i)) a w)
    (fin : ∀ (L : Nat → Bool) (a : Act) (w : World), (∀ i, i < ops.size → L i = true) → I L a w → Q .normal a w) :
    ∀ (fuel : Nat) (listed : Array Bool) (a : Act) (w : World), listed.size = ops.size → ops.size ≤ fuel + listed.toList.count true → I (fun j => listed.getD j false) a w → wpAnyIn F nf P .any ops Q fuel listed a w := by
  have done : ∀ (listed : Array Bool) (a : Act) (w : World), listed.size = ops.size → Region.ready .any ops listed = [] → I (fun j => listed.getD j false) a w → Q .normal a w := by
    intro listed a w hs hr hI
    refine fin _ a w (fun i => ?_) hI
    induction i using Nat.strongRecOn with
    | ind i ih =>
      intro hi
      cases hl : listed.getD i false with
      | true => rfl
      | false =>
        have ho : ops[i]? = some ops[i] := Array.getElem?_eq_getElem hi
        have : i ∈ Region.ready .any ops listed := mem_ready.2 ⟨by
          rw [← hs] at hi
          simpa [hi] using hl, _, ho, fun e he hbe => ih e.on (back i _ ho e he hbe) (Nat.lt_trans (back i _ ho e he hbe) hi)⟩
        rw [hr] at this
        cases this
  intro fuel
  induction fuel with
  | zero =>
    intro listed a w hs hc hI
    have hr : Region.ready .any ops listed = [] := by
      rw [List.eq_nil_iff_forall_not_mem]
      intro i hi
      obtain ⟨h0, o, ho, _⟩ := mem_ready.1 hi
      have hlt : i < listed.size := by rw [hs]; exact (Array.getElem?_eq_some_iff.1 ho).1
      have hcl := List.count_le_length (a := true) (l := listed.toList)
      have heq : listed.toList.count true = listed.toList.length := by simp at hcl hc ⊢; omega
      rw [List.count_eq_length] at heq
      have := heq listed[i] (by simp)
      simp [hlt] at h0
      rw [h0] at this
      cases this
    exact ⟨hr, done listed a w hs hr hI⟩
  | succ fuel ih =>
    intro listed a w hs hc hI
    refine ⟨fun hr => done listed a w hs hr hI, fun i hi => ?_⟩
    obtain ⟨h0, o, ho, hall⟩ := mem_ready.1 hi
    have hlt : i < listed.size := by rw [hs]; exact (Array.getElem?_eq_some_iff.1 ho).1
    have h0' : listed.getD i false = false := by simpa [hlt] using h0
    refine wpOpIn_mono (fun a' w' hI' => ih _ a' w' (by simpa using hs) (by rw [listed_count hlt h0]; omega) (by rw [listed_set hlt]; exact hI')) (step _ a w i o ho h0' hall hI)

theorem wpIn_region_inv {id : Nat} {a : Act} {w : World} (hm : P.follows .mixedOrders = true) (I : (Nat → Bool) → Act → World → Prop) (back : backB ops = true)
    (h0 : I (fun _ => false) a w.drew)
    (step : ∀ (i : Nat), i < ops.size → ∀ (L : Nat → Bool) (a : Act) (w : World), L i = false → (∀ j, ((ops[i]?).map fun o => o.after.any fun e => e.on == j && Region.binds .any e) = some true → L j = true) → I L a w → wpOpIn F nf P ops Q i (I (fun j => L j || j == i)) a w)
    (fin : ∀ (L : Nat → Bool) (a : Act) (w : World), (∀ i, i < ops.size → L i = true) → I L a w → Q .normal a w) :
    (Code.region id ops true).wpIn F nf P Q a w := by
  refine wpIn_region_any hm (wpAnyIn_inv I (backB_spec back) (fun L a w i o ho hL hall hI => step i (Array.getElem?_eq_some_iff.1 ho).1 L a w hL (fun j hj => ?_) hI) fin ops.size _ a _ (by simp) (by omega) ?_)
  · rw [ho] at hj
    simp only [Option.map_some, Option.some.injEq, Array.any_eq_true'] at hj
    obtain ⟨e, he, hb⟩ := hj
    rw [Bool.and_eq_true, beq_iff_eq] at hb
    rw [← hb.1]
    exact hall e he hb.2
  · have : (fun j => (Array.replicate ops.size false).getD j false) = fun _ => false := by
      funext j
      simp [Array.getElem?_replicate]
      split <;> rfl
    rw [this]
    exact h0

theorem wpOpIn_value {i : Nat} {o : Oper} {K : Act → World → Prop} {a : Act} {w w' : World} {v : Value} (ho : ops[i]? = some o) (hg : o.guard = none) (hF : ∀ f, F.fn f) (hr : (Oper.semAt F.round a.eval o).run P w = .ok (.value v) w') (h : K (a.put o.dst v) w') : wpOpIn F nf P ops Q i K a w := by
  refine wpOpIn_step ho fun K' hK => ?_
  rw [if_pos (by unfold Region.wanted; rw [hg])]
  refine ⟨fun f _ => hF f, ?_⟩
  show Oper.uponIn F nf P o a K' Q (Sem.run P (Oper.semAt F.round a.eval o) w)
  rw [hr]
  exact hK _ _ h
theorem wpOpIn_skip {i : Nat} {o : Oper} {K : Act → World → Prop} {a : Act} {w w' : World} (ho : ops[i]? = some o) (hg : o.guard = none) (hd : o.dst = none) (hF : ∀ f, F.fn f) (hr : (Oper.semAt F.round a.eval o).run P w = .ok .skip w') (h : K a w') : wpOpIn F nf P ops Q i K a w := by
  refine wpOpIn_step ho fun K' hK => ?_
  rw [if_pos (by unfold Region.wanted; rw [hg])]
  refine ⟨fun f _ => hF f, ?_⟩
  show Oper.uponIn F nf P o a K' Q (Sem.run P (Oper.semAt F.round a.eval o) w)
  rw [hr]
  refine hK _ _ ?_
  rw [hd]
  exact h
theorem wpIn_region_tab {id : Nat} {a : Act} {w : World} (hm : P.follows .mixedOrders = true) (n base : Nat) (V : Nat → Value) (W : World → Prop) (hsz : ops.size = n + 1) (back : backB ops = true) (haw : awaitedB ops n = true) (hw0 : W w.drew)
    (step : ∀ (i : Nat), i < n → ∀ (v : Nat → Value) (w : World), W w → (∀ j, ((ops[i]?).map fun o : Oper => o.after.any fun e => e.on == j && Region.binds .any e) = some true → v (base + j) = V j) →
      wpOpIn F nf P ops Q i (fun a' w' => a' = frameOf a (List.range' base n) (fun d => if d = base + i then V i else v d) ∧ W w') (frameOf a (List.range' base n) v) w)
    (last : ∀ (w : World), W w → wpOpIn F nf P ops Q n (Q .normal) (frameOf a (List.range' base n) (fun d => V (d - base))) w) :
    (Code.region id ops true).wpIn F nf P Q a w := by
  have hdep : ∀ i j, ((ops[i]?).map fun o : Oper => o.after.any fun e => e.on == j && Region.binds .any e) = some true → j < i := by
    intro i j h
    cases ho : ops[i]? with
    | none => rw [ho] at h; cases h
    | some o =>
      rw [ho] at h
      simp only [Option.map_some, Option.some.injEq, Array.any_eq_true'] at h
      obtain ⟨e, he, hb⟩ := h
      rw [Bool.and_eq_true, beq_iff_eq] at hb
      rw [← hb.1]
      exact backB_spec back i o ho e he hb.2
  refine wpIn_region_inv hm (fun L a' w' => (L n = true ∧ (∀ i, i < n → L i = true) ∧ Q .normal a' w') ∨
    (L n = false ∧ (∀ i, i ≤ n → L i = true → ∀ j, ((ops[i]?).map fun o : Oper => o.after.any fun e => e.on == j && Region.binds .any e) = some true → L j = true) ∧
      ∃ v, a' = frameOf a (List.range' base n) v ∧ W w' ∧ ∀ i, i < n → L i = true → v (base + i) = V i)) back
    (Or.inr ⟨rfl, (fun _ _ h => by cases h), _, (frameOf_self a _).symm, hw0, fun _ _ h => by cases h⟩) ?_ ?_
  · intro i hi L a' w' hL hd hI
    rcases hI with ⟨hn, hall, _⟩ | ⟨hn, hcl, v, rfl, hW, hv⟩
    · by_cases e : i = n
      · subst e; rw [hn] at hL; cases hL
      · rw [hall i (by omega)] at hL; cases hL
    · by_cases e : i = n
      · subst e
        have hall := awaited_all (L := fun j => L j && decide (j ≤ i)) haw (fun k hk j hj => by
          rw [Bool.and_eq_true, decide_eq_true_eq] at hk ⊢
          exact ⟨hcl k hk.2 hk.1 j hj, by have := hdep k j hj; omega⟩) (fun j hj => by
          rw [Bool.and_eq_true, decide_eq_true_eq]
          exact ⟨hd j hj, by have := hdep i j hj; omega⟩)
        have hall' : ∀ k, k < i → L k = true := fun k hk => by
          have := hall k hk
          rw [Bool.and_eq_true] at this
          exact this.1
        rw [frameOf_same (v' := fun d => V (d - base)) (fun d hdd => by
          have hdm : d ∈ List.range' base i := by simpa using hdd
          rw [List.mem_range'_1] at hdm
          have := hv (d - base) (by omega) (hall' _ (by omega))
          rwa [show base + (d - base) = d by omega] at this)]
        refine wpOpIn_mono (fun a2 w2 h2 => Or.inl ⟨by simp, fun k hk => ?_, h2⟩) (last w' hW)
        simp [hall' k hk]
      · have hin : i < n := by omega
        refine wpOpIn_mono (fun a2 w2 h2 => Or.inr ⟨?_, ?_, _, h2.1, h2.2, ?_⟩) (step i hin v w' hW (fun j hj => hv j (by have := hdep i j hj; omega) (hd j hj)))
        · simp [hn]
          omega
        · intro k hkn hk j hj
          simp only [Bool.or_eq_true, beq_iff_eq] at hk ⊢
          rcases hk with hk | rfl
          · exact Or.inl (hcl k hkn hk j hj)
          · exact Or.inl (hd j hj)
        · intro k hk hk2
          simp only [Bool.or_eq_true, beq_iff_eq] at hk2
          by_cases e2 : k = i
          · subst e2; simp
          · rw [if_neg (by omega)]
            rcases hk2 with hk2 | hk2
            · exact hv k hk hk2
            · exact absurd hk2 e2
  · intro L a' w' hall hI
    rcases hI with ⟨_, _, h⟩ | ⟨hn, _⟩
    · exact h
    · rw [hall n (by omega)] at hn; cases hn

theorem wpOpIn_guard {i g : Nat} {b : Bool} {o : Oper} {K : Act → World → Prop} {a : Act} {w w' : World} {v : Value} (ho : ops[i]? = some o) (hg : o.guard = some (g, b)) (hy : yielded ops a.tmps g = some b) (hF : ∀ f, F.fn f) (hr : (Oper.semAt F.round a.eval o).run P w = .ok (.value v) w') (h : K (a.put o.dst v) w') : wpOpIn F nf P ops Q i K a w := by
  refine wpOpIn_step ho fun K' hK => ?_
  rw [if_pos (by unfold Region.wanted; rw [hg]; simp [hy])]
  refine ⟨fun f _ => hF f, ?_⟩
  show Oper.uponIn F nf P o a K' Q (Sem.run P (Oper.semAt F.round a.eval o) w)
  rw [hr]
  exact hK _ _ h
theorem wpOpIn_out {i g : Nat} {b c : Bool} {o : Oper} {K : Act → World → Prop} {a : Act} {w : World} (ho : ops[i]? = some o) (hg : o.guard = some (g, b)) (hy : yielded ops a.tmps g = some c) (hF : ∀ f, F.fn f) (hc : c ≠ b) (h : K (a.put o.dst undef) w) : wpOpIn F nf P ops Q i K a w := by
  refine wpOpIn_step ho fun K' hK => ?_
  rw [if_neg (by unfold Region.wanted; rw [hg]; simp [hy, hc])]
  exact ⟨fun f _ => hF f, hK _ _ h⟩
/-- An operation that its guard, itself left out, leaves out. -/
theorem wpOpIn_outU {i g d : Nat} {b : Bool} {o og : Oper} {K : Act → World → Prop} {a : Act} {w : World} (ho : ops[i]? = some o) (hg : o.guard = some (g, b)) (hog : ops[g]? = some og) (hd : og.dst = some d) (hv : a.tmps[d]?.getD undef = undef) (hF : ∀ f, F.fn f) (h : K (a.put o.dst undef) w) : wpOpIn F nf P ops Q i K a w := by
  have hy : yielded ops a.tmps g ≠ some b := by
    unfold yielded
    rw [hog]
    cases hx : a.tmps[d]? with
    | none => simp [hd, hx]
    | some x =>
      rw [hx] at hv
      have : x = undef := hv
      subst this
      simp [hd, hx, undef]
  refine wpOpIn_step ho fun K' hK => ?_
  rw [if_neg (by unfold Region.wanted; rw [hg]; simp [hy])]
  exact ⟨fun f _ => hF f, hK _ _ h⟩
theorem with_frameIn {c : Code} {a : Act} {w : World} (h : ∀ a0 : Act, a0 = a → c.wpIn F nf P Q a0 w) : c.wpIn F nf P Q a w := h a rfl
theorem with_worldIn {c : Code} {a : Act} {w : World} (h : ∀ w0 : World, w0 = w → c.wpIn F nf P Q a w0) : c.wpIn F nf P Q a w := h w rfl
end
end Go.Proofs.YtkoghgnjjfnamaaGreatDoor
