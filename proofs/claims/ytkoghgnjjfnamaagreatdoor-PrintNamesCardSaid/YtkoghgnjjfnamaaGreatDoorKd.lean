/- RegInv, RegTab, RegTabX, RegTabA, RegTabIn, BackI, MapP: what is used of them. -/
import Derived.Test.YtkoghgnjjfnamaaGreatDoorGa
import Derived.WalkKit
import Derived.Orders
import Derived.OrdersIn
import Derived.RangeFuncNested
import Derived.RangeFuncBound
import Derived.RangeFuncCalls
import Derived.RangeFuncLeaves
import Derived.RangeFuncBox
import Derived.Shelf.Abstract
import Derived.Shelf.RegionOpen
import Derived.OwnWalkIn
import Derived.TacticsInMore
import Derived.LoopNIn
import Derived.LoopIn
import Derived.Maps.RangeWalk
import Derived.Maps.OwnSet
namespace Go.Proofs.YtkoghgnjjfnamaaGreatDoor
set_option maxRecDepth 100000
set_option maxHeartbeats 2000000
open Go
section
variable {P : Program} {ops : Array Oper} {Q : Exit → Act → World → Prop}
theorem listed_set {listed : Array Bool} {i : Nat} (hi : i < listed.size) : (fun j => (listed.setIfInBounds i true).getD j false) = (fun j => listed.getD j false || j == i) := by
 funext j
 by_cases h : i = j
 · subst h
   simp [hi]
 · rw [getD_set_ne false h]
   have : (j == i) = false := by simp; omega
   rw [this, Bool.or_false]
theorem listed_count {listed : Array Bool} {i : Nat} (hi : i < listed.size) (hf : listed.getD i true = false) : (listed.setIfInBounds i true).toList.count true = listed.toList.count true + 1 := by
 have hg : listed[i] = false := by simpa [hi] using hf
 rw [Array.toList_setIfInBounds, List.count_set (by simpa using hi)]; simp [hg]
def backB (ops : Array Oper) : Bool := (List.range ops.size).all fun i => match ops[i]? with | some o => o.after.all fun e => !(Region.binds .any e) || decide (e.on < i) | none => true
theorem backB_spec (h : backB ops = true) (i : Nat) (o : Oper) (ho : ops[i]? = some o) (e : Edge) (he : e ∈ o.after) (hb : Region.binds .any e = true) : e.on < i := by
 unfold backB at h; rw [List.all_eq_true] at h; have hlt : i < ops.size := (Array.getElem?_eq_some_iff.1 ho).1
 have := h i (List.mem_range.2 hlt); rw [ho] at this; simp only [Array.all_eq_true_iff_forall_mem] at this; simpa [hb] using this e he
theorem wpAny_inv (I : (Nat → Bool) → Act → World → Prop) (back : ∀ (i : Nat) (o : Oper), ops[i]? = some o → ∀ e ∈ o.after, Region.binds .any e = true → e.on < i)
 (step : ∀ (L : Nat → Bool) (a : Act) (w : World) (i : Nat) (o : Oper), ops[i]? = some o → L i = false → (∀ e ∈ o.after, Region.binds .any e = true → L e.on = true) → I L a w → wpOp P ops Q i (I (fun j => L j || j == i)) a w)
 (fin : ∀ (L : Nat → Bool) (a : Act) (w : World), (∀ i, i < ops.size → L i = true) → I L a w → Q .normal a w) :
 ∀ (fuel : Nat) (listed : Array Bool) (a : Act) (w : World), listed.size = ops.size → ops.size ≤ fuel + listed.toList.count true → I (fun j => listed.getD j false) a w → wpAny P .any ops Q fuel listed a w := by
 have done : ∀ (listed : Array Bool) (a : Act) (w : World), listed.size = ops.size → Region.ready .any ops listed = [] → I (fun j => listed.getD j false) a w → Q .normal a w := by
  intro listed a w hs hr hI; refine fin _ a w (fun i => ?_) hI; induction i using Nat.strongRecOn with
  | ind i ih =>
    intro hi; cases hl : listed.getD i false with
    | true => rfl
    | false =>
      have ho : ops[i]? = some ops[i] := Array.getElem?_eq_getElem hi; have : i ∈ Region.ready .any ops listed := mem_ready.2 ⟨by
       rw [← hs] at hi; simpa [hi] using hl, _, ho, fun e he hbe => ih e.on (back i _ ho e he hbe) (Nat.lt_trans (back i _ ho e he hbe) hi)⟩
      rw [hr] at this; cases this
 intro fuel; induction fuel with
 | zero =>
   intro listed a w hs hc hI; have hr : Region.ready .any ops listed = [] := by
    rw [List.eq_nil_iff_forall_not_mem]; intro i hi; obtain ⟨h0, o, ho, _⟩ := mem_ready.1 hi; have hlt : i < listed.size := by rw [hs]; exact (Array.getElem?_eq_some_iff.1 ho).1
    have hcl := List.count_le_length (a := true) (l := listed.toList); have heq : listed.toList.count true = listed.toList.length := by simp at hcl hc ⊢; omega
    rw [List.count_eq_length] at heq
    have := heq listed[i] (by simp); simp [hlt] at h0
    rw [h0] at this; cases this
   exact ⟨hr, done listed a w hs hr hI⟩
 | succ fuel ih =>
   intro listed a w hs hc hI; refine ⟨fun hr => done listed a w hs hr hI, fun i hi => ?_⟩; obtain ⟨h0, o, ho, hall⟩ := mem_ready.1 hi; have hlt : i < listed.size := by rw [hs]; exact (Array.getElem?_eq_some_iff.1 ho).1
   have h0' : listed.getD i false = false := by simpa [hlt] using h0
   refine wpOp_mono (fun a' w' hI' => ih _ a' w' (by simpa using hs) (by rw [listed_count hlt h0]; omega) (by rw [listed_set hlt]; exact hI')) (step _ a w i o ho h0' hall hI)
theorem wp_region_inv {id : Nat} {a : Act} {w : World} (hm : P.follows .mixedOrders = true) (I : (Nat → Bool) → Act → World → Prop) (back : backB ops = true)
 (h0 : I (fun _ => false) a w.drew)
 (step : ∀ (i : Nat), i < ops.size → ∀ (L : Nat → Bool) (a : Act) (w : World), L i = false → (∀ j, ((ops[i]?).map fun o => o.after.any fun e => e.on == j && Region.binds .any e) = some true → L j = true) → I L a w → wpOp P ops Q i (I (fun j => L j || j == i)) a w)
 (fin : ∀ (L : Nat → Bool) (a : Act) (w : World), (∀ i, i < ops.size → L i = true) → I L a w → Q .normal a w) :
 (Code.region id ops true).wp P Q a w := by
 refine wp_region_any hm (wpAny_inv I (backB_spec back) (fun L a w i o ho hL hall hI => step i (Array.getElem?_eq_some_iff.1 ho).1 L a w hL (fun j hj => ?_) hI) fin ops.size _ a _ (by simp) (by omega) ?_)
 · rw [ho] at hj
   simp only [Option.map_some, Option.some.injEq, Array.any_eq_true'] at hj; obtain ⟨e, he, hb⟩ := hj; rw [Bool.and_eq_true, beq_iff_eq] at hb; rw [← hb.1]; exact hall e he hb.2
 · have : (fun j => (Array.replicate ops.size false).getD j false) = fun _ => false := by
    funext j
    simp [Array.getElem?_replicate]
    split <;> rfl
   rw [this]; exact h0
theorem with_frame {c : Code} {a : Act} {w : World} (h : ∀ a0 : Act, a0 = a → c.wp P Q a0 w) : c.wp P Q a w := h a rfl
theorem wpOp_value {i : Nat} {o : Oper} {K : Act → World → Prop} {a : Act} {w w' : World} {v : Value} (ho : ops[i]? = some o) (hg : o.guard = none) (hr : (execOp a.eval o).run P w = .ok (.value v) w') (h : K (a.put o.dst v) w') : wpOp P ops Q i K a w := by
 refine wpOp_step ho fun K' hK => ?_
 rw [if_pos (by unfold Region.wanted; rw [hg])]; unfold Oper.wp; rw [hr]; exact hK _ _ h
theorem wpOp_call {i : Nat} {o : Oper} {K : Act → World → Prop} {a : Act} {w : World} {f : FuncId} {args : Array Value} {R : Ending → World → Prop} (ho : ops[i]? = some o) (hg : o.guard = none) (hr : (execOp a.eval o).run P w = .ok (.enter f args) w)
 (hc : Calls P f args w R) (h : ∀ e w', R e w' → ∃ v, e = .returned v ∧ K (a.put o.dst v) w') : wpOp P ops Q i K a w := by
 refine wpOp_step ho fun K' hK => ?_
 rw [if_pos (by unfold Region.wanted; rw [hg])]; unfold Oper.wp; rw [hr]; refine hc.mono ?_; intro e w' hR; obtain ⟨v, rfl, hk⟩ := h e w' hR; exact hK _ _ hk
end
def frameOf (a0 : Act) (ds : List Nat) (v : Nat → Value) : Act := { a0 with tmps := a0.tmps.mapIdx fun j x => if ds.contains j then v j else x }
theorem frameOf_self (a0 : Act) (ds : List Nat) : frameOf a0 ds (fun j => a0.tmps.getD j undef) = a0 := by
 unfold frameOf; cases a0 with
 | mk t d =>
   congr 1
   apply Array.ext
   · simp
   · intro j h1 h2
     simp [h2]
theorem frameOf_put {a0 : Act} {ds : List Nat} {v : Nat → Value} {d : Nat} {x : Value} (h : ds.contains d = true) : (frameOf a0 ds v).put (some d) x = frameOf a0 ds (fun j => if j = d then x else v j) := by
 unfold frameOf Act.put; simp only
 congr 1
 apply Array.ext
 · simp
 · intro j h1 h2
   simp at h1 h2; rw [Array.getElem_setIfInBounds (by simpa using h2)]; simp only [Array.getElem_mapIdx]; by_cases hj : d = j
   · subst hj
     have hm : d ∈ ds := by simpa using h
     simp [hm]
   · have hj' : ¬ j = d := fun e => hj e.symm
     simp [hj, hj']
theorem frameOf_in {a0 : Act} {ds : List Nat} {v : Nat → Value} {d : Nat} (h : ds.contains d = true) (hs : d < a0.tmps.size) : (frameOf a0 ds v).eval (.tmp d) = v d := by
 have hm : d ∈ ds := by simpa using h
 simp [frameOf, Act.eval, hs, hm]
theorem frameOf_out {a0 : Act} {ds : List Nat} {v : Nat → Value} {d : Nat} (h : ds.contains d = false) : (frameOf a0 ds v).eval (.tmp d) = a0.eval (.tmp d) := by
 have hm : d ∉ ds := by simpa using h
 simp [frameOf, Act.eval]
 rcases Nat.lt_or_ge d a0.tmps.size with hs | hs
 · simp [hs, hm]
 · simp [hs]
theorem frameOf_in' {a0 : Act} {ds : List Nat} {v : Nat → Value} {d : Nat} (h : ds.contains d = true) (hs : d < a0.tmps.size) : (frameOf a0 ds v).tmps[d]?.getD undef = v d := by
 rw [← frameOf_in (v := v) h hs]; simp [Act.eval]
theorem frameOf_out' {a0 : Act} {ds : List Nat} {v : Nat → Value} {d : Nat} (h : ds.contains d = false) : (frameOf a0 ds v).tmps[d]?.getD undef = a0.eval (.tmp d) := by
 rw [← frameOf_out (v := v) h]; simp [Act.eval]
theorem frameOf_cons (a0 : Act) (d : Nat) (ds : List Nat) (v : Nat → Value) : frameOf a0 (d :: ds) v = frameOf (a0.put (some d) (v d)) ds v := by
 unfold frameOf Act.put; simp only
 congr 1
 apply Array.ext
 · simp
 · intro j h1 h2
   simp only [Array.getElem_mapIdx]; have h1' : j < a0.tmps.size := by simpa using h1
   rw [Array.getElem_setIfInBounds (by simpa using h1')]; by_cases hm : j ∈ ds
   · simp [hm]
   · by_cases hj : d = j
     · subst hj; simp [hm]
     · have hj' : ¬ j = d := fun e => hj e.symm
       simp [hm, hj, hj']
theorem frameOf_nil (a0 : Act) (v : Nat → Value) : frameOf a0 [] v = a0 := by
 unfold frameOf; cases a0 with
 | mk t d =>
   congr 1
   apply Array.ext
   · simp
   · intro j h1 h2
     simp
end Go.Proofs.YtkoghgnjjfnamaaGreatDoor
namespace Go.Proofs.YtkoghgnjjfnamaaGreatDoor
set_option maxRecDepth 100000
set_option maxHeartbeats 2000000
open Go
section
variable {P : Program} {ops : Array Oper} {Q : Exit → Act → World → Prop}
def awaitedB (ops : Array Oper) (n : Nat) : Bool := (List.range n).all fun i => (List.range (n + 1)).any fun j => decide (i < j) && ((ops[j]?).map fun o : Oper => o.after.any fun e => e.on == i && Region.binds .any e) == some true
theorem awaited_all {n : Nat} (h : awaitedB ops n = true) {L : Nat → Bool} (hc : ∀ i, L i = true → ∀ j, ((ops[i]?).map fun o : Oper => o.after.any fun e => e.on == j && Region.binds .any e) = some true → L j = true)
 (hn : ∀ j, ((ops[n]?).map fun o : Oper => o.after.any fun e => e.on == j && Region.binds .any e) = some true → L j = true) : ∀ i, i < n → L i = true := by
 have key : ∀ k i, i + k = n → 0 < k → L i = true := by
  intro k; induction k using Nat.strongRecOn with
  | ind k ih =>
    intro i hik hk; unfold awaitedB at h; rw [List.all_eq_true] at h; have hi := h i (List.mem_range.2 (by omega)); rw [List.any_eq_true] at hi; obtain ⟨j, hj, hx⟩ := hi; rw [Bool.and_eq_true, decide_eq_true_eq, beq_iff_eq] at hx; have hjn := List.mem_range.1 hj; by_cases e : j = n
    · subst e
      exact hn i hx.2
    · exact hc j (ih (n - j) (by omega) j (by omega) (by omega)) i hx.2
 intro i hi; exact key (n - i) i (by omega) (by omega)
theorem frameOf_same {a0 : Act} {ds : List Nat} {v v' : Nat → Value} (h : ∀ d, ds.contains d = true → v d = v' d) : frameOf a0 ds v = frameOf a0 ds v' := by
 unfold frameOf; congr 1
 apply Array.ext
 · simp
 · intro j h1 h2
   simp only [Array.getElem_mapIdx]; split
   · exact h j ‹_›
   · rfl
theorem wp_region_tab {id : Nat} {a : Act} {w : World} (hm : P.follows .mixedOrders = true) (n base : Nat) (V : Nat → Value) (W : World → Prop) (hsz : ops.size = n + 1) (back : backB ops = true) (haw : awaitedB ops n = true) (hw0 : W w.drew)
 (step : ∀ (i : Nat), i < n → ∀ (v : Nat → Value) (w : World), W w → (∀ j, ((ops[i]?).map fun o : Oper => o.after.any fun e => e.on == j && Region.binds .any e) = some true → v (base + j) = V j) →
  wpOp P ops Q i (fun a' w' => a' = frameOf a (List.range' base n) (fun d => if d = base + i then V i else v d) ∧ W w') (frameOf a (List.range' base n) v) w)
 (last : ∀ (w : World), W w → wpOp P ops Q n (Q .normal) (frameOf a (List.range' base n) (fun d => V (d - base))) w) :
 (Code.region id ops true).wp P Q a w := by
 have hdep : ∀ i j, ((ops[i]?).map fun o : Oper => o.after.any fun e => e.on == j && Region.binds .any e) = some true → j < i := by
  intro i j h; cases ho : ops[i]? with
  | none => rw [ho] at h; cases h
  | some o =>
    rw [ho] at h; simp only [Option.map_some, Option.some.injEq, Array.any_eq_true'] at h; obtain ⟨e, he, hb⟩ := h; rw [Bool.and_eq_true, beq_iff_eq] at hb; rw [← hb.1]; exact backB_spec back i o ho e he hb.2
 refine wp_region_inv hm (fun L a' w' => (L n = true ∧ (∀ i, i < n → L i = true) ∧ Q .normal a' w') ∨
  (L n = false ∧ (∀ i, i ≤ n → L i = true → ∀ j, ((ops[i]?).map fun o : Oper => o.after.any fun e => e.on == j && Region.binds .any e) = some true → L j = true) ∧
   ∃ v, a' = frameOf a (List.range' base n) v ∧ W w' ∧ ∀ i, i < n → L i = true → v (base + i) = V i)) back
  (Or.inr ⟨rfl, (fun _ _ h => by cases h), _, (frameOf_self a _).symm, hw0, fun _ _ h => by cases h⟩) ?_ ?_
 · intro i hi L a' w' hL hd hI
   rcases hI with ⟨hn, hall, _⟩ | ⟨hn, hcl, v, rfl, hW, hv⟩
   · by_cases e : i = n
     · subst e; rw [hn] at hL; cases hL
     · rw [hall i (by omega)] at hL; cases hL
   · by_cases e : i = n
     · subst e
       have hall := awaited_all (L := fun j => L j && decide (j ≤ i)) haw (fun k hk j hj => by
        rw [Bool.and_eq_true, decide_eq_true_eq] at hk ⊢; exact ⟨hcl k hk.2 hk.1 j hj, by have := hdep k j hj; omega⟩) (fun j hj => by
        rw [Bool.and_eq_true, decide_eq_true_eq]; exact ⟨hd j hj, by have := hdep i j hj; omega⟩)
       have hall' : ∀ k, k < i → L k = true := fun k hk => by
        have := hall k hk; rw [Bool.and_eq_true] at this; exact this.1
       rw [frameOf_same (v' := fun d => V (d - base)) (fun d hdd => by
        have hdm : d ∈ List.range' base i := by simpa using hdd
        rw [List.mem_range'_1] at hdm
        have := hv (d - base) (by omega) (hall' _ (by omega)); rwa [show base + (d - base) = d by omega] at this)]
       refine wpOp_mono (fun a2 w2 h2 => Or.inl ⟨by simp, fun k hk => ?_, h2⟩) (last w' hW); simp [hall' k hk]
     · have hin : i < n := by omega
       refine wpOp_mono (fun a2 w2 h2 => Or.inr ⟨?_, ?_, _, h2.1, h2.2, ?_⟩) (step i hin v w' hW (fun j hj => hv j (by have := hdep i j hj; omega) (hd j hj)))
       · simp [hn]
         omega
       · intro k hkn hk j hj
         simp only [Bool.or_eq_true, beq_iff_eq] at hk ⊢; rcases hk with hk | rfl
         · exact Or.inl (hcl k hkn hk j hj)
         · exact Or.inl (hd j hj)
       · intro k hk hk2
         simp only [Bool.or_eq_true, beq_iff_eq] at hk2; by_cases e2 : k = i
         · subst e2; simp
         · rw [if_neg (by omega)]
           rcases hk2 with hk2 | hk2
           · exact hv k hk hk2
           · exact absurd hk2 e2
 · intro L a' w' hall hI
   rcases hI with ⟨_, _, h⟩ | ⟨hn, _⟩
   · exact h
   · rw [hall n (by omega)] at hn; cases hn
theorem yielded_at {g d : Nat} {o : Oper} {tmps : Array Value} {b : Bool} (ho : ops[g]? = some o) (hd : o.dst = some d) (hs : d < tmps.size) (hv : tmps[d]?.getD undef = .bool b) : yielded ops tmps g = some b := by
 have h : tmps[d]? = some (.bool b) := by
  rw [Array.getElem?_eq_getElem hs] at hv ⊢; simpa using hv
 unfold yielded; rw [ho]; simp [hd, h]
end
end Go.Proofs.YtkoghgnjjfnamaaGreatDoor
namespace Go.Proofs.YtkoghgnjjfnamaaGreatDoor
set_option maxRecDepth 100000
set_option maxHeartbeats 2000000
open Go
def tabV (V : Nat → Value) (m : Nat) (s : Option Value) (i : Nat) : Value := if i = m then s.getD undef else V i
section
variable {P : Program} {ops : Array Oper} {Q : Exit → Act → World → Prop}
theorem wp_region_tabx {id : Nat} {a : Act} {w : World} (hmx : P.follows .mixedOrders = true) (n base m : Nat) (V : Nat → Value) (W : Option Value → World → Prop) (hsz : ops.size = n + 1) (back : backB ops = true) (haw : awaitedB ops n = true) (hm : m < n) (hw0 : W none w.drew)
 (step : ∀ (i : Nat), i < n → i ≠ m → ∀ (s : Option Value) (v : Nat → Value) (w : World), W s w → (((ops[i]?).map fun o : Oper => o.after.any fun e => e.on == m && Region.binds .any e) = some true → s.isSome = true) → (∀ j, ((ops[i]?).map fun o : Oper => o.after.any fun e => e.on == j && Region.binds .any e) = some true → v (base + j) = tabV V m s j) →
  wpOp P ops Q i (fun a' w' => a' = frameOf a (List.range' base n) (fun d => if d = base + i then V i else v d) ∧ W s w') (frameOf a (List.range' base n) v) w)
 (make : ∀ (v : Nat → Value) (w : World), W none w → (∀ j, j ≠ m → ((ops[m]?).map fun o : Oper => o.after.any fun e => e.on == j && Region.binds .any e) = some true → v (base + j) = V j) →
  wpOp P ops Q m (fun a' w' => ∃ x, a' = frameOf a (List.range' base n) (fun d => if d = base + m then x else v d) ∧ W (some x) w') (frameOf a (List.range' base n) v) w)
 (last : ∀ (x : Value) (w : World), W (some x) w → wpOp P ops Q n (Q .normal) (frameOf a (List.range' base n) (fun d => if d = base + m then x else V (d - base))) w) :
 (Code.region id ops true).wp P Q a w := by
 have hdep : ∀ i j, ((ops[i]?).map fun o : Oper => o.after.any fun e => e.on == j && Region.binds .any e) = some true → j < i := by
  intro i j h; cases ho : ops[i]? with
  | none => rw [ho] at h; cases h
  | some o =>
    rw [ho] at h; simp only [Option.map_some, Option.some.injEq, Array.any_eq_true'] at h; obtain ⟨e, he, hb⟩ := h; rw [Bool.and_eq_true, beq_iff_eq] at hb; rw [← hb.1]; exact backB_spec back i o ho e he hb.2
 refine wp_region_inv hmx (fun L a' w' => (L n = true ∧ (∀ i, i < n → L i = true) ∧ Q .normal a' w') ∨
  (L n = false ∧ (∀ i, i ≤ n → L i = true → ∀ j, ((ops[i]?).map fun o : Oper => o.after.any fun e => e.on == j && Region.binds .any e) = some true → L j = true) ∧
   ∃ s v, a' = frameOf a (List.range' base n) v ∧ s.isSome = L m ∧ W s w' ∧ ∀ i, i < n → L i = true → v (base + i) = tabV V m s i)) back
  (Or.inr ⟨rfl, (fun _ _ h => by cases h), none, _, (frameOf_self a _).symm, rfl, hw0, fun _ _ h => by cases h⟩) ?_ ?_
 · intro i hi L a' w' hL hd hI
   rcases hI with ⟨hn, hall, _⟩ | ⟨hn, hcl, s, v, rfl, hs, hW, hv⟩
   · by_cases e : i = n
     · subst e; rw [hn] at hL; cases hL
     · rw [hall i (by omega)] at hL; cases hL
   · by_cases e : i = n
     · subst e
       have hall := awaited_all (L := fun j => L j && decide (j ≤ i)) haw (fun k hk j hj => by
        rw [Bool.and_eq_true, decide_eq_true_eq] at hk ⊢; exact ⟨hcl k hk.2 hk.1 j hj, by have := hdep k j hj; omega⟩) (fun j hj => by
        rw [Bool.and_eq_true, decide_eq_true_eq]; exact ⟨hd j hj, by have := hdep i j hj; omega⟩)
       have hall' : ∀ k, k < i → L k = true := fun k hk => by
        have := hall k hk; rw [Bool.and_eq_true] at this; exact this.1
       rw [hall' m hm] at hs; cases s with
       | none => cases hs
       | some x =>
       rw [frameOf_same (v' := fun d => if d = base + m then x else V (d - base)) (fun d hdd => by
        have hdm : d ∈ List.range' base i := by simpa using hdd
        rw [List.mem_range'_1] at hdm; have h5 := hv (d - base) (by omega) (hall' _ (by omega)); rw [show base + (d - base) = d by omega] at h5; rw [h5]; unfold tabV; by_cases e : d = base + m
        · subst e; simp
        · rw [if_neg (by omega), if_neg e])]
       refine wpOp_mono (fun a2 w2 h2 => Or.inl ⟨by simp, fun k hk => ?_, h2⟩) (last x w' hW); simp [hall' k hk]
     · have hin : i < n := by omega
       have key : ∀ (s' : Option Value) (a2 : Act) (w2 : World), (s'.isSome = (L m || (m == i))) → (∀ k, k ≠ m → tabV V m s' k = tabV V m s k) → (i ≠ m → s' = s) → a2 = frameOf a (List.range' base n) (fun d => if d = base + i then tabV V m s' i else v d) → W s' w2 →
        ((L n || (n == i)) = true ∧ (∀ k, k < n → (L k || (k == i)) = true) ∧ Q .normal a2 w2) ∨
        ((L n || (n == i)) = false ∧ (∀ k, k ≤ n → (L k || (k == i)) = true → ∀ j, ((ops[k]?).map fun o : Oper => o.after.any fun e => e.on == j && Region.binds .any e) = some true → (L j || (j == i)) = true) ∧
          ∃ s v, a2 = frameOf a (List.range' base n) v ∧ s.isSome = (L m || (m == i)) ∧ W s w2 ∧ ∀ k, k < n → (L k || (k == i)) = true → v (base + k) = tabV V m s k) := by
        intro s' a2 w2 h1 h2 h3 h4 h5; refine Or.inr ⟨?_, ?_, s', _, h4, h1, h5, ?_⟩
        · simp [hn]
          omega
        · intro k hkn hk j hj
          simp only [Bool.or_eq_true, beq_iff_eq] at hk ⊢; rcases hk with hk | rfl
          · exact Or.inl (hcl k hkn hk j hj)
          · exact Or.inl (hd j hj)
        · intro k hk hk2
          simp only [Bool.or_eq_true, beq_iff_eq] at hk2; by_cases e2 : k = i
          · subst e2; simp
          · rw [if_neg (by omega)]
            rcases hk2 with hk2 | hk2
            · by_cases e3 : k = m
              · subst e3
                rw [hv k hk hk2, h3 (fun e => e2 e.symm)]
              · rw [h2 k e3]
                exact hv k hk hk2
            · exact absurd hk2 e2
       by_cases e3 : i = m
       · subst e3
         rw [hL] at hs; cases s with
         | some x => cases hs
         | none =>
         refine wpOp_mono (fun a2 w2 h2 => ?_) (make v w' hW (fun j hj hj2 => by
          have := hv j (by have := hdep i j hj2; omega) (hd j hj2); unfold tabV at this; rwa [if_neg hj] at this))
         obtain ⟨x, h3, h4⟩ := h2; exact key (some x) a2 w2 (by simp) (fun k hk => by unfold tabV; rw [if_neg hk, if_neg hk]) (fun h => absurd rfl h) (by rw [h3]; congr 1; funext d; by_cases e : d = base + i <;> simp [e, tabV]) h4
       · refine wpOp_mono (fun a2 w2 h2 => key s a2 w2 (by rw [hs]; simp; intro h; exact absurd h.symm e3) (fun _ _ => rfl) (fun _ => rfl) (by rw [h2.1]; congr 1; funext d; by_cases e : d = base + i <;> simp [e, tabV, e3]) h2.2)
          (step i hin e3 s v w' hW (fun hj => by rw [hs]; exact hd m hj) (fun j hj => hv j (by have := hdep i j hj; omega) (hd j hj)))
 · intro L a' w' hall hI
   rcases hI with ⟨_, _, h⟩ | ⟨hn, _⟩
   · exact h
   · rw [hall n (by omega)] at hn; cases hn
end
end Go.Proofs.YtkoghgnjjfnamaaGreatDoor
namespace Go.Proofs.YtkoghgnjjfnamaaGreatDoor
set_option maxRecDepth 100000
set_option maxHeartbeats 2000000
open Go
section
variable {P : Program} {ops : Array Oper} {Q : Exit → Act → World → Prop}
theorem wp_region_taba {id : Nat} {a : Act} {w : World} (hmx : P.follows .mixedOrders = true) (n base m : Nat) (V : Nat → Value) (W : Bool → World → Prop) (hsz : ops.size = n + 1) (back : backB ops = true) (haw : awaitedB ops n = true) (hm : m < n) (hw0 : W false w.drew)
 (step : ∀ (i : Nat), i < n → ∀ (b : Bool) (v : Nat → Value) (w : World), W b w → (i = m → b = false) → (((ops[i]?).map fun o : Oper => o.after.any fun e => e.on == m && Region.binds .any e) = some true → b = true) → (∀ j, ((ops[i]?).map fun o : Oper => o.after.any fun e => e.on == j && Region.binds .any e) = some true → v (base + j) = V j) →
  wpOp P ops Q i (fun a' w' => a' = frameOf a (List.range' base n) (fun d => if d = base + i then V i else v d) ∧ W (b || i == m) w') (frameOf a (List.range' base n) v) w)
 (last : ∀ (w : World), W true w → wpOp P ops Q n (Q .normal) (frameOf a (List.range' base n) (fun d => V (d - base))) w) :
 (Code.region id ops true).wp P Q a w := by
 have hdep : ∀ i j, ((ops[i]?).map fun o : Oper => o.after.any fun e => e.on == j && Region.binds .any e) = some true → j < i := by
  intro i j h; cases ho : ops[i]? with
  | none => rw [ho] at h; cases h
  | some o =>
    rw [ho] at h; simp only [Option.map_some, Option.some.injEq, Array.any_eq_true'] at h; obtain ⟨e, he, hb⟩ := h; rw [Bool.and_eq_true, beq_iff_eq] at hb; rw [← hb.1]; exact backB_spec back i o ho e he hb.2
 refine wp_region_inv hmx (fun L a' w' => (L n = true ∧ (∀ i, i < n → L i = true) ∧ Q .normal a' w') ∨
  (L n = false ∧ (∀ i, i ≤ n → L i = true → ∀ j, ((ops[i]?).map fun o : Oper => o.after.any fun e => e.on == j && Region.binds .any e) = some true → L j = true) ∧
   ∃ v, a' = frameOf a (List.range' base n) v ∧ W (L m) w' ∧ ∀ i, i < n → L i = true → v (base + i) = V i)) back
  (Or.inr ⟨rfl, (fun _ _ h => by cases h), _, (frameOf_self a _).symm, hw0, fun _ _ h => by cases h⟩) ?_ ?_
 · intro i hi L a' w' hL hd hI
   rcases hI with ⟨hn, hall, _⟩ | ⟨hn, hcl, v, rfl, hW, hv⟩
   · by_cases e : i = n
     · subst e; rw [hn] at hL; cases hL
     · rw [hall i (by omega)] at hL; cases hL
   · by_cases e : i = n
     · subst e
       have hall := awaited_all (L := fun j => L j && decide (j ≤ i)) haw (fun k hk j hj => by
        rw [Bool.and_eq_true, decide_eq_true_eq] at hk ⊢; exact ⟨hcl k hk.2 hk.1 j hj, by have := hdep k j hj; omega⟩) (fun j hj => by
        rw [Bool.and_eq_true, decide_eq_true_eq]; exact ⟨hd j hj, by have := hdep i j hj; omega⟩)
       have hall' : ∀ k, k < i → L k = true := fun k hk => by
        have := hall k hk; rw [Bool.and_eq_true] at this; exact this.1
       rw [frameOf_same (v' := fun d => V (d - base)) (fun d hdd => by
        have hdm : d ∈ List.range' base i := by simpa using hdd
        rw [List.mem_range'_1] at hdm
        have := hv (d - base) (by omega) (hall' _ (by omega)); rwa [show base + (d - base) = d by omega] at this)]
       refine wpOp_mono (fun a2 w2 h2 => Or.inl ⟨by simp, fun k hk => ?_, h2⟩) (last w' (by rw [hall' m hm] at hW; exact hW)); simp [hall' k hk]
     · have hin : i < n := by omega
       refine wpOp_mono (fun a2 w2 h2 => Or.inr ⟨?_, ?_, _, h2.1, (by have h3 := h2.2; rw [show (i == m) = (m == i) from BEq.comm] at h3; exact h3), ?_⟩) (step i hin (L m) v w' hW (fun e => by subst e; exact hL) (fun hj => hd m hj) (fun j hj => hv j (by have := hdep i j hj; omega) (hd j hj)))
       · simp [hn]
         omega
       · intro k hkn hk j hj
         simp only [Bool.or_eq_true, beq_iff_eq] at hk ⊢; rcases hk with hk | rfl
         · exact Or.inl (hcl k hkn hk j hj)
         · exact Or.inl (hd j hj)
       · intro k hk hk2
         simp only [Bool.or_eq_true, beq_iff_eq] at hk2; by_cases e2 : k = i
         · subst e2; simp
         · rw [if_neg (by omega)]
           rcases hk2 with hk2 | hk2
           · exact hv k hk hk2
           · exact absurd hk2 e2
 · intro L a' w' hall hI
   rcases hI with ⟨_, _, h⟩ | ⟨hn, _⟩
   · exact h
   · rw [hall n (by omega)] at hn; cases hn
end
end Go.Proofs.YtkoghgnjjfnamaaGreatDoor
namespace Go.Proofs.YtkoghgnjjfnamaaGreatDoor
set_option maxRecDepth 100000
set_option maxHeartbeats 2000000
open Go
section
variable {F : Fence} {nf : Nat} {P : Program} {ops : Array Oper} {Q : Exit → Act → World → Prop}
theorem wpAnyIn_inv (I : (Nat → Bool) → Act → World → Prop) (back : ∀ (i : Nat) (o : Oper), ops[i]? = some o → ∀ e ∈ o.after, Region.binds .any e = true → e.on < i)
 (step : ∀ (L : Nat → Bool) (a : Act) (w : World) (i : Nat) (o : Oper), ops[i]? = some o → L i = false → (∀ e ∈ o.after, Region.binds .any e = true → L e.on = true) → I L a w → wpOpIn F nf P ops Q i (I (fun j => L j || j == i)) a w)
 (fin : ∀ (L : Nat → Bool) (a : Act) (w : World), (∀ i, i < ops.size → L i = true) → I L a w → Q .normal a w) :
 ∀ (fuel : Nat) (listed : Array Bool) (a : Act) (w : World), listed.size = ops.size → ops.size ≤ fuel + listed.toList.count true → I (fun j => listed.getD j false) a w → wpAnyIn F nf P .any ops Q fuel listed a w := by
 have done : ∀ (listed : Array Bool) (a : Act) (w : World), listed.size = ops.size → Region.ready .any ops listed = [] → I (fun j => listed.getD j false) a w → Q .normal a w := by
  intro listed a w hs hr hI; refine fin _ a w (fun i => ?_) hI; induction i using Nat.strongRecOn with
  | ind i ih =>
    intro hi; cases hl : listed.getD i false with
    | true => rfl
    | false =>
      have ho : ops[i]? = some ops[i] := Array.getElem?_eq_getElem hi; have : i ∈ Region.ready .any ops listed := mem_ready.2 ⟨by
       rw [← hs] at hi; simpa [hi] using hl, _, ho, fun e he hbe => ih e.on (back i _ ho e he hbe) (Nat.lt_trans (back i _ ho e he hbe) hi)⟩
      rw [hr] at this; cases this
 intro fuel; induction fuel with
 | zero =>
   intro listed a w hs hc hI; have hr : Region.ready .any ops listed = [] := by
    rw [List.eq_nil_iff_forall_not_mem]; intro i hi; obtain ⟨h0, o, ho, _⟩ := mem_ready.1 hi; have hlt : i < listed.size := by rw [hs]; exact (Array.getElem?_eq_some_iff.1 ho).1
    have hcl := List.count_le_length (a := true) (l := listed.toList); have heq : listed.toList.count true = listed.toList.length := by simp at hcl hc ⊢; omega
    rw [List.count_eq_length] at heq
    have := heq listed[i] (by simp); simp [hlt] at h0
    rw [h0] at this; cases this
   exact ⟨hr, done listed a w hs hr hI⟩
 | succ fuel ih =>
   intro listed a w hs hc hI; refine ⟨fun hr => done listed a w hs hr hI, fun i hi => ?_⟩; obtain ⟨h0, o, ho, hall⟩ := mem_ready.1 hi; have hlt : i < listed.size := by rw [hs]; exact (Array.getElem?_eq_some_iff.1 ho).1
   have h0' : listed.getD i false = false := by simpa [hlt] using h0
   refine wpOpIn_mono (fun a' w' hI' => ih _ a' w' (by simpa using hs) (by rw [listed_count hlt h0]; omega) (by rw [listed_set hlt]; exact hI')) (step _ a w i o ho h0' hall hI)
theorem wpIn_region_inv {id : Nat} {a : Act} {w : World} (hm : P.follows .mixedOrders = true) (I : (Nat → Bool) → Act → World → Prop) (back : backB ops = true)
 (h0 : I (fun _ => false) a w.drew)
 (step : ∀ (i : Nat), i < ops.size → ∀ (L : Nat → Bool) (a : Act) (w : World), L i = false → (∀ j, ((ops[i]?).map fun o => o.after.any fun e => e.on == j && Region.binds .any e) = some true → L j = true) → I L a w → wpOpIn F nf P ops Q i (I (fun j => L j || j == i)) a w)
 (fin : ∀ (L : Nat → Bool) (a : Act) (w : World), (∀ i, i < ops.size → L i = true) → I L a w → Q .normal a w) :
 (Code.region id ops true).wpIn F nf P Q a w := by
 refine wpIn_region_any hm (wpAnyIn_inv I (backB_spec back) (fun L a w i o ho hL hall hI => step i (Array.getElem?_eq_some_iff.1 ho).1 L a w hL (fun j hj => ?_) hI) fin ops.size _ a _ (by simp) (by omega) ?_)
 · rw [ho] at hj
   simp only [Option.map_some, Option.some.injEq, Array.any_eq_true'] at hj; obtain ⟨e, he, hb⟩ := hj; rw [Bool.and_eq_true, beq_iff_eq] at hb; rw [← hb.1]; exact hall e he hb.2
 · have : (fun j => (Array.replicate ops.size false).getD j false) = fun _ => false := by
    funext j
    simp [Array.getElem?_replicate]
    split <;> rfl
   rw [this]; exact h0
theorem wpOpIn_value {i : Nat} {o : Oper} {K : Act → World → Prop} {a : Act} {w w' : World} {v : Value} (ho : ops[i]? = some o) (hg : o.guard = none) (hF : ∀ f, F.fn f) (hr : (Oper.semAt F.round a.eval o).run P w = .ok (.value v) w') (h : K (a.put o.dst v) w') : wpOpIn F nf P ops Q i K a w := by
 refine wpOpIn_step ho fun K' hK => ?_
 rw [if_pos (by unfold Region.wanted; rw [hg])]; refine ⟨fun f _ => hF f, ?_⟩; show Oper.uponIn F nf P o a K' Q (Sem.run P (Oper.semAt F.round a.eval o) w); rw [hr]; exact hK _ _ h
theorem wpOpIn_skip {i : Nat} {o : Oper} {K : Act → World → Prop} {a : Act} {w w' : World} (ho : ops[i]? = some o) (hg : o.guard = none) (hd : o.dst = none) (hF : ∀ f, F.fn f) (hr : (Oper.semAt F.round a.eval o).run P w = .ok .skip w') (h : K a w') : wpOpIn F nf P ops Q i K a w := by
 refine wpOpIn_step ho fun K' hK => ?_
 rw [if_pos (by unfold Region.wanted; rw [hg])]; refine ⟨fun f _ => hF f, ?_⟩; show Oper.uponIn F nf P o a K' Q (Sem.run P (Oper.semAt F.round a.eval o) w); rw [hr]; refine hK _ _ ?_; rw [hd]; exact h
theorem wpIn_region_tab {id : Nat} {a : Act} {w : World} (hm : P.follows .mixedOrders = true) (n base : Nat) (V : Nat → Value) (W : World → Prop) (hsz : ops.size = n + 1) (back : backB ops = true) (haw : awaitedB ops n = true) (hw0 : W w.drew)
 (step : ∀ (i : Nat), i < n → ∀ (v : Nat → Value) (w : World), W w → (∀ j, ((ops[i]?).map fun o : Oper => o.after.any fun e => e.on == j && Region.binds .any e) = some true → v (base + j) = V j) →
  wpOpIn F nf P ops Q i (fun a' w' => a' = frameOf a (List.range' base n) (fun d => if d = base + i then V i else v d) ∧ W w') (frameOf a (List.range' base n) v) w)
 (last : ∀ (w : World), W w → wpOpIn F nf P ops Q n (Q .normal) (frameOf a (List.range' base n) (fun d => V (d - base))) w) :
 (Code.region id ops true).wpIn F nf P Q a w := by
 have hdep : ∀ i j, ((ops[i]?).map fun o : Oper => o.after.any fun e => e.on == j && Region.binds .any e) = some true → j < i := by
  intro i j h; cases ho : ops[i]? with
  | none => rw [ho] at h; cases h
  | some o =>
    rw [ho] at h; simp only [Option.map_some, Option.some.injEq, Array.any_eq_true'] at h; obtain ⟨e, he, hb⟩ := h; rw [Bool.and_eq_true, beq_iff_eq] at hb; rw [← hb.1]; exact backB_spec back i o ho e he hb.2
 refine wpIn_region_inv hm (fun L a' w' => (L n = true ∧ (∀ i, i < n → L i = true) ∧ Q .normal a' w') ∨
  (L n = false ∧ (∀ i, i ≤ n → L i = true → ∀ j, ((ops[i]?).map fun o : Oper => o.after.any fun e => e.on == j && Region.binds .any e) = some true → L j = true) ∧
   ∃ v, a' = frameOf a (List.range' base n) v ∧ W w' ∧ ∀ i, i < n → L i = true → v (base + i) = V i)) back
  (Or.inr ⟨rfl, (fun _ _ h => by cases h), _, (frameOf_self a _).symm, hw0, fun _ _ h => by cases h⟩) ?_ ?_
 · intro i hi L a' w' hL hd hI
   rcases hI with ⟨hn, hall, _⟩ | ⟨hn, hcl, v, rfl, hW, hv⟩
   · by_cases e : i = n
     · subst e; rw [hn] at hL; cases hL
     · rw [hall i (by omega)] at hL; cases hL
   · by_cases e : i = n
     · subst e
       have hall := awaited_all (L := fun j => L j && decide (j ≤ i)) haw (fun k hk j hj => by
        rw [Bool.and_eq_true, decide_eq_true_eq] at hk ⊢; exact ⟨hcl k hk.2 hk.1 j hj, by have := hdep k j hj; omega⟩) (fun j hj => by
        rw [Bool.and_eq_true, decide_eq_true_eq]; exact ⟨hd j hj, by have := hdep i j hj; omega⟩)
       have hall' : ∀ k, k < i → L k = true := fun k hk => by
        have := hall k hk; rw [Bool.and_eq_true] at this; exact this.1
       rw [frameOf_same (v' := fun d => V (d - base)) (fun d hdd => by
        have hdm : d ∈ List.range' base i := by simpa using hdd
        rw [List.mem_range'_1] at hdm
        have := hv (d - base) (by omega) (hall' _ (by omega)); rwa [show base + (d - base) = d by omega] at this)]
       refine wpOpIn_mono (fun a2 w2 h2 => Or.inl ⟨by simp, fun k hk => ?_, h2⟩) (last w' hW); simp [hall' k hk]
     · have hin : i < n := by omega
       refine wpOpIn_mono (fun a2 w2 h2 => Or.inr ⟨?_, ?_, _, h2.1, h2.2, ?_⟩) (step i hin v w' hW (fun j hj => hv j (by have := hdep i j hj; omega) (hd j hj)))
       · simp [hn]
         omega
       · intro k hkn hk j hj
         simp only [Bool.or_eq_true, beq_iff_eq] at hk ⊢; rcases hk with hk | rfl
         · exact Or.inl (hcl k hkn hk j hj)
         · exact Or.inl (hd j hj)
       · intro k hk hk2
         simp only [Bool.or_eq_true, beq_iff_eq] at hk2; by_cases e2 : k = i
         · subst e2; simp
         · rw [if_neg (by omega)]
           rcases hk2 with hk2 | hk2
           · exact hv k hk hk2
           · exact absurd hk2 e2
 · intro L a' w' hall hI
   rcases hI with ⟨_, _, h⟩ | ⟨hn, _⟩
   · exact h
   · rw [hall n (by omega)] at hn; cases hn
theorem wpOpIn_guard {i g : Nat} {b : Bool} {o : Oper} {K : Act → World → Prop} {a : Act} {w w' : World} {v : Value} (ho : ops[i]? = some o) (hg : o.guard = some (g, b)) (hy : yielded ops a.tmps g = some b) (hF : ∀ f, F.fn f) (hr : (Oper.semAt F.round a.eval o).run P w = .ok (.value v) w') (h : K (a.put o.dst v) w') : wpOpIn F nf P ops Q i K a w := by
 refine wpOpIn_step ho fun K' hK => ?_
 rw [if_pos (by unfold Region.wanted; rw [hg]; simp [hy])]; refine ⟨fun f _ => hF f, ?_⟩; show Oper.uponIn F nf P o a K' Q (Sem.run P (Oper.semAt F.round a.eval o) w); rw [hr]; exact hK _ _ h
theorem wpOpIn_out {i g : Nat} {b c : Bool} {o : Oper} {K : Act → World → Prop} {a : Act} {w : World} (ho : ops[i]? = some o) (hg : o.guard = some (g, b)) (hy : yielded ops a.tmps g = some c) (hF : ∀ f, F.fn f) (hc : c ≠ b) (h : K (a.put o.dst undef) w) : wpOpIn F nf P ops Q i K a w := by
 refine wpOpIn_step ho fun K' hK => ?_
 rw [if_neg (by unfold Region.wanted; rw [hg]; simp [hy, hc])]; exact ⟨fun f _ => hF f, hK _ _ h⟩
theorem wpOpIn_outU {i g d : Nat} {b : Bool} {o og : Oper} {K : Act → World → Prop} {a : Act} {w : World} (ho : ops[i]? = some o) (hg : o.guard = some (g, b)) (hog : ops[g]? = some og) (hd : og.dst = some d) (hv : a.tmps[d]?.getD undef = undef) (hF : ∀ f, F.fn f) (h : K (a.put o.dst undef) w) : wpOpIn F nf P ops Q i K a w := by
 have hy : yielded ops a.tmps g ≠ some b := by
  unfold yielded; rw [hog]; cases hx : a.tmps[d]? with
  | none => simp [hd, hx]
  | some x =>
    rw [hx] at hv; have : x = undef := hv; subst this; simp [hd, hx, undef]
 refine wpOpIn_step ho fun K' hK => ?_
 rw [if_neg (by unfold Region.wanted; rw [hg]; simp [hy])]; exact ⟨fun f _ => hF f, hK _ _ h⟩
theorem with_frameIn {c : Code} {a : Act} {w : World} (h : ∀ a0 : Act, a0 = a → c.wpIn F nf P Q a0 w) : c.wpIn F nf P Q a w := h a rfl
theorem with_worldIn {c : Code} {a : Act} {w : World} (h : ∀ w0 : World, w0 = w → c.wpIn F nf P Q a w0) : c.wpIn F nf P Q a w := h w rfl
end
end Go.Proofs.YtkoghgnjjfnamaaGreatDoor
namespace Go.Proofs.YtkoghgnjjfnamaaGreatDoor
set_option maxRecDepth 100000
set_option maxHeartbeats 2000000
open Go.RowKit Go.Shelf
attribute [local go_sem] Oper.semAt_some
def upto' {α : Type} (f : Nat → α) (k : Nat) : List α := (List.range k).map f
theorem upto'_succ {α : Type} (f : Nat → α) (k : Nat) : upto' f (k + 1) = upto' f k ++ [f k] := by simp [upto', List.range_succ]
theorem upto'_length {α : Type} (f : Nat → α) (k : Nat) : (upto' f k).length = k := by simp [upto']
def KB (n₀ Bs : Nat) (W W' : World) : Prop := Below n₀ W W' ∧ W'.heap[Bs]? = W.heap[Bs]?
theorem KB.refl (n₀ Bs : Nat) (W : World) : KB n₀ Bs W W := ⟨Below.refl _ _, rfl⟩
theorem KB.trans {n₀ Bs : Nat} {A B C : World} (h : KB n₀ Bs A B) (k : KB n₀ Bs B C) : KB n₀ Bs A C := ⟨h.1.trans k.1, k.2.trans h.2⟩
theorem KB.put {n₀ Bs : Nat} {w : World} (hn : n₀ ≤ w.heap.size) (hB : Bs < w.heap.size) (W : World) (l : Nat) (o o' : Obj) (hl : w.heap.size ≤ l) (h : W.heap[l]? = some o) (h1 : o.isCells = false) (h2 : o.isWalk = false) : KB n₀ Bs W (W.putObj l o') := by
 refine ⟨belowK_b hn W l o o' hl h h1 h2, ?_⟩; have := (grownBy_putObj' W l o').block Bs (by have := (Array.getElem?_eq_some_iff.1 h).1; omega) (by intro e; cases e; omega); exact this
theorem KB.cell {n₀ Bs : Nat} {A B : World} (h : KB n₀ Bs A B) {v : Value} (hc : A.cell? ⟨Bs, 0, none⟩ = some v) : B.cell? ⟨Bs, 0, none⟩ = some v := (World.cell?_of_block (w := A) h.2).trans hc
def encI (c : Nat → Nat) (i : Nat) : Array Value := #[.int .i64 (i : Int), .int .i64 (c i : Int)]
theorem backward1_in (F : Fence) (n : Nat) (h7 : F.fn 51) (hro : F.round = none) (hn : 1 ≤ n) (l Bs n₀ b off len cap : Nat) (c : Nat → Nat) (hreach : len ≤ 1759218604390) (hb : b < n₀) (J Jx : List Nat → World → Prop)
 (hY : ∀ (pre : List Nat) (x : Nat) W, J pre W → pre.length < len → YieldAt F (n - 1) Tryz.prog l #[.int .i64 (x : Int), .int .i64 (c x : Int)] W fun e W' =>
  (e = .returned (.bool true) ∧ J (pre ++ [x]) W' ∧ KB n₀ Bs W W') ∨ (e = .returned (.bool false) ∧ Jx (pre ++ [x]) W'))
 (W : World) (hBs : W.cell? ⟨Bs, 0, none⟩ = some (.slice (some ⟨b, off, none⟩) len cap))
 (hc : ∀ j, j < len → W.cell? ⟨b, off + j, none⟩ = some (.int .i64 (c j : Int))) (h0 : J [] W) :
 CallsIn F n Tryz.prog 51 #[.func (.yield l) #[] #[], .pointer (some ⟨Bs, 0, none⟩)] W fun e W' => (∃ v, e = .returned v) ∧
  ((∃ ys, ys = upto' (fun j => len - 1 - j) len ∧ J ys W') ∨ (∃ pre, (∃ k, k ≤ len ∧ pre = upto' (fun j => len - 1 - j) k) ∧ Jx pre W')) := by
 refine callsIn_of_wp Tryz.func51 rfl h7 ?_ hro; simp only [Tryz.ntmps51, List.size_toArray, List.length_cons, List.length_nil, Nat.reduceAdd, Nat.reduceSub, Array.replicate_succ, Array.replicate_zero, List.push_toArray, List.append_toArray, List.nil_append, List.cons_append]; gi_wp2
 gi_loopw [3] (fun i wr => ∃ k : Nat, k ≤ len ∧ i = .int .i64 ((len : Int) - 1 - (k : Int)) ∧ J (upto' (fun j => len - 1 - j) k) wr ∧ KB n₀ Bs W wr)
  (fun i _ => (intOf i + 1).toNat)
 case atStart => exact ⟨0, Nat.zero_le _, by simp, h0, KB.refl _ _ _⟩
 case round =>
  obtain ⟨k, hk, rfl, hJs, hnx⟩ := hrel; have hBw := hnx.cell hBs; by_cases hlt : k < len
  · obtain ⟨i, hi⟩ : ∃ i : Nat, (len : Int) - 1 - (k : Int) = (i : Int) := ⟨len - 1 - k, by omega⟩
    have hil : i < len := by omega
    have hie : len - 1 - k = i := by omega
    have q0 := hc i hil; have c0 := (hnx.1.cell (p := ⟨b, off + i, none⟩) hb).trans q0; obtain ⟨fn, tmps, assign, body, hy, hR⟩ := hY _ i wr hJs (by rw [upto'_length]; exact hlt); rw [hi]; have HI := Lib.hid hi; clear hi q0; have hiI : (i : Int) < (len : Int) := by omega
    have hge : (0 : Int) ≤ (i : Int) := by omega
    gi_wp2
    refine hR.mono ?_; rintro e W3 (⟨rfl, hJ3, hk3⟩ | ⟨rfl, hJx3⟩)
    · gi_wp2
      go_roundw
      case rel => exact ⟨k + 1, by omega, by have := HI.out; simp only [Value.int.injEq, true_and]; omega, by rw [upto'_succ, hie]; exact hJ3, hnx.trans hk3⟩
      case measure => simp [intOf]
    · gi_wp2
      refine bodyPost_ret (results_none rfl _ _ _) rfl ?_; exact ⟨⟨_, rfl⟩, .inr ⟨_, ⟨k + 1, by omega, by rw [upto'_succ, hie]⟩, hJx3⟩⟩
  · obtain rfl : k = len := by omega
    have hneg : ¬ ((0 : Int) ≤ (k : Int) - 1 - (k : Int)) := by omega
    gi_wp2
    go_end0; exact ⟨⟨_, rfl⟩, .inl hJs⟩
theorem backward1_nil_in (F : Fence) (n : Nat) (h7 : F.fn 51) (hro : F.round = none) (l Bs : Nat) (a : Option Addr) (cap : Nat) (J : List Nat → World → Prop) (W : World) (hBs : W.cell? ⟨Bs, 0, none⟩ = some (.slice a 0 cap)) (h0 : J [] W) :
 CallsIn F n Tryz.prog 51 #[.func (.yield l) #[] #[], .pointer (some ⟨Bs, 0, none⟩)] W fun e W' => (∃ v, e = .returned v) ∧ J [] W' := by
 refine callsIn_of_wp Tryz.func51 rfl h7 ?_ hro; simp only [Tryz.ntmps51, List.size_toArray, List.length_cons, List.length_nil, Nat.reduceAdd, Nat.reduceSub, Array.replicate_succ, Array.replicate_zero, List.push_toArray, List.append_toArray, List.nil_append, List.cons_append]; gi_wp2
 gi_loopw [3] (fun i wr => i = .int .i64 (-1) ∧ J [] wr) (fun _ _ => 0)
 case atStart => exact ⟨rfl, h0⟩
 case round =>
  obtain ⟨rfl, hJs⟩ := hrel; gi_wp2
  go_end0; exact ⟨⟨_, rfl⟩, hJs⟩
theorem backward_in (F : Fence) (n : Nat) (h5 : F.fn 23) (hro : F.round = none) (a : Option Addr) (len cap : Nat) (w : World) :
 CallsIn F n Tryz.prog 23 #[.slice a len cap] w fun e w' => e = .returned (.func (.func 51) #[] #[.pointer (some ⟨w.heap.size, 0, none⟩)]) ∧ w' = w.alloc (.cells #[.slice a len cap] 29) := by
 refine callsIn_of_wp Tryz.func23 rfl h5 ?_ hro; simp only [Tryz.ntmps23, List.size_toArray, List.length_cons, List.length_nil, Nat.reduceAdd, Nat.reduceSub, Array.replicate_succ, Array.replicate_zero, List.push_toArray, List.append_toArray, List.nil_append, List.cons_append]; gi_wp2
 go_ret; exact ⟨rfl, rfl⟩
def ICells (n₀ : Nat) (W : World) (sv : Value) (len : Nat) (c : Nat → Nat) : Prop :=
 (∃ a cap, sv = .slice a 0 cap ∧ len = 0) ∨ ∃ b off cap, sv = .slice (some ⟨b, off, none⟩) len cap ∧ b < n₀ ∧ ∀ j, j < len → W.cell? ⟨b, off + j, none⟩ = some (.int .i64 (c j : Int))
theorem ICells.below {n₀ : Nat} {A B : World} (h : Below n₀ A B) {sv : Value} {len : Nat} {c : Nat → Nat} : ICells n₀ A sv len c → ICells n₀ B sv len c
 | .inl e => .inl e
 | .inr ⟨b, off, cap, e, hb, hc⟩ => .inr ⟨b, off, cap, e, hb, fun j hj => (h.cell (p := ⟨b, off + j, none⟩) hb).trans (hc j hj)⟩
theorem backward_stops (F : Fence) (n : Nat) (h7 : F.fn 51) (hro : F.round = none) (hn : 1 ≤ n) (Bs n₀ : Nat) (sv : Value) (len : Nat) (c : Nat → Nat) (hreach : len ≤ 1759218604390) (w : World) (hBs : Bs < w.heap.size) (hn₀ : n₀ ≤ w.heap.size)
 (hc : w.cell? ⟨Bs, 0, none⟩ = some sv) (hI : ICells n₀ w sv len c) :
 SeqStopsK F n Tryz.prog 51 #[.pointer (some ⟨Bs, 0, none⟩)] (encI c) (KB n₀ Bs) (fun ys => ys = upto' (fun j => len - 1 - j) len)
  (fun pre => ∃ k, k ≤ len ∧ pre = upto' (fun j => len - 1 - j) k) len w := fun l J Jx W hW _ _ hY h0 => by
 have hc' := (hW.cell (p := ⟨Bs, 0, none⟩) hBs).trans hc; rcases hI.below (hW.mono hn₀) with ⟨a, cap, rfl, rfl⟩ | ⟨b, off, cap, rfl, hb, hcs⟩
 · exact (backward1_nil_in F n h7 hro l Bs a cap J W hc' h0).mono fun e W' ⟨he, hj⟩ => ⟨he, .inl ⟨_, rfl, hj⟩⟩
 · exact backward1_in F n h7 hro hn l Bs n₀ b off len cap c hreach hb J Jx hY W hc' hcs h0
def MarkedAt (n₀ : Nat) (rs : List Nat) (w : World) : Prop := rs.Nodup ∧ ∀ r ∈ rs, n₀ ≤ r ∧ w.heap[r]? = some (.deferred (some []))
def markOf (r : Nat) : Deferred := { target := .collected r, args := #[] }
theorem leaves_marks {P : Program} {F : Fence} {n : Nat} {fn : Func} {tmps : Array Value} {R : Ending → World → Prop} {n₀ : Nat} : ∀ (rs : List Nat) (w : World), MarkedAt n₀ rs w →
 (∀ w', Below n₀ w w' → (∀ (k : Nat) (cs : Array Value) (ty : TypeId) (fr : Nat × Nat), w.heap[k]? = some (.cells cs ty fr) → w'.heap[k]? = some (.cells cs ty fr)) → LeavesIn F n P fn tmps R [] .returning w') → LeavesInM F n P fn tmps R (rs.map markOf) .returning w
 | [], w, _, h => h w (Below.refl _ _) (fun _ _ _ _ h => h)
 | r :: rs, w, hm, h => by
   obtain ⟨hn, hr⟩ := hm; obtain ⟨h1, h2⟩ := hr r (by simp); have hgp := grownBy_putObj' w r (.deferred none); have hne : ∀ k, k < w.heap.size → k ≠ r → (w.putObj r (.deferred none)).heap[k]? = w.heap[k]? := fun k hk hkr => hgp.block k hk (fun e => hkr (Option.some.inj e))
   have hlt : r < w.heap.size := (Array.getElem?_eq_some_iff.1 h2).1; refine ⟨by simp, .inl ⟨r, _, rfl, run_takeDeferred h2, leaves_marks rs _ ⟨(List.nodup_cons.1 hn).2, fun r' hr' => ?_⟩ fun w' hb hk => h w' (Below.trans ?_ hb) (fun k cs ty fr hc => hk k cs ty fr ?_)⟩⟩
   · obtain ⟨h3, h4⟩ := hr r' (by simp [hr'])
     refine ⟨h3, ?_⟩; rw [hne r' (Array.getElem?_eq_some_iff.1 h4).1 (fun e => (List.nodup_cons.1 hn).1 (e ▸ hr'))]; exact h4
   · exact (Below.refl n₀ w).grown hgp (Nat.le_of_lt (Nat.lt_of_le_of_lt h1 hlt)) (fun k hk => by cases hk; exact h1)
   · rw [hne k (Array.getElem?_eq_some_iff.1 hc).1 (fun e => by subst e; rw [h2] at hc; cases hc)]
     exact hc
end Go.Proofs.YtkoghgnjjfnamaaGreatDoor
namespace Go.Proofs.YtkoghgnjjfnamaaGreatDoor
set_option maxRecDepth 100000
set_option maxHeartbeats 2000000
open Go.RowKit Go.Maps
def Rv (v : Value) : Option (DataW Value × List MemPlace) := some (.held v, [])
def keyS (s : ByteArray) : Lit := .string s.data.toList
theorem keyS_inj {a b : ByteArray} (h : keyS a = keyS b) : a = b := by
 unfold keyS at h; cases a; cases b; simp at h; simp [h]
theorem keyS_isKey (s : ByteArray) : WideAt.IsKeyLit (keyS s) := trivial
def FMap : Type := ByteArray → Option Value
def updF (F : FMap) (s : ByteArray) (o : Option Value) : FMap := fun x => if x = s then o else F x
theorem updF_same (F : FMap) (s : ByteArray) (o : Option Value) : updF F s o s = o := by simp [updF]
theorem updF_other {F : FMap} {s x : ByteArray} (o : Option Value) (h : x ≠ s) : updF F s o x = F x := by simp [updF, h]
def MAgree (D : DataW Value) (F : FMap) : Prop := ∀ s, Maps.has D (keyS s) = (F s).isSome ∧ ∀ zd, D.atKey (keyS s) zd = match F s with | some v => .held v | none => zd
def MF (w : World) (b n : Nat) (F : FMap) : Prop := ∃ D, w.ownsMap Tryz.prog 9 Rv b n D ∧ MAgree D F
theorem kStr : Keyed Tryz.prog 9 := string_keyed Tryz.underlying9
theorem keyOfS {s : ByteArray} (hs : s.size ≤ maxLen) : keyOf Tryz.prog 9 (.string s) = some (keyS s) := WideMaps.keyOf_string_mk Tryz.underlying9 hs
theorem MF.made (w : World) {g : Nat} (hg : g = w.heap.size) : MF (w.alloc (.map #[] 0)) g 0 (fun _ => none) := by
 subst hg; exact ⟨_, World.ownsMap_made w _ _ _, fun s => ⟨rfl, fun zd => rfl⟩⟩
theorem MF.lt {w : World} {b n : Nat} {F : FMap} (h : MF w b n F) : b < w.heap.size := by obtain ⟨D, h1, _⟩ := h; exact h1.lt
theorem MF.block {w w' : World} {b n : Nat} {F : FMap} (h : MF w b n F) (hb : w'.heap[b]? = w.heap[b]?) : MF w' b n F := by
 obtain ⟨D, ⟨es, clock, h1, h2⟩, hA⟩ := h; exact ⟨D, ⟨es, clock, hb.trans h1, h2⟩, hA⟩
theorem MF.below {w w' : World} {b n : Nat} {F : FMap} (h : MF w b n F) (hb : Below w.heap.size w w') : MF w' b n F := h.block (hb.block b h.lt)
theorem MF.below' {w w' : World} {b n B : Nat} {F : FMap} (h : MF w b n F) (hb : Below B w w') (hB : b < B) : MF w' b n F := h.block (hb.block b hB)
theorem MF.kept {w w' : World} {b n : Nat} {F : FMap} {row : Option Nat} (h : MF w b n F) (hg : w.grownBy w' row) (hne : some b ≠ row) : MF w' b n F := h.block (hg.block b h.lt hne)
theorem MF.mono {w : World} {b n m : Nat} {F : FMap} (h : MF w b n F) (hn : n ≤ m) : MF w b m F := by obtain ⟨D, h1, h2⟩ := h; exact ⟨D, h1.mono hn, h2⟩
theorem MAgree.put {D : DataW Value} {F : FMap} (h : MAgree D F) (hD : IsMap D) (s : ByteArray) (v : Value) : MAgree (D.put (keyS s) (.held v)) (updF F s (some v)) := by
 intro x; by_cases hx : x = s
 · subst hx
   rw [updF_same]; exact ⟨has_put_same hD (keyS_isKey _) _, fun zd => atKey_put_same hD (keyS_isKey _) _ _⟩
 · rw [updF_other _ hx]
   have hne : keyS x ≠ keyS s := fun e => hx (keyS_inj e)
   exact ⟨(has_put_other hne _).trans (h x).1, fun zd => (atKey_put_other hne _ _).trans ((h x).2 zd)⟩
theorem held_inj {v v' : Value} {ps : List MemPlace} {d : DataW Value} (h : Rv v = some (d, ps)) (hd : d = .held v') : v = v' := by
 subst hd; simp only [Rv, Option.some.injEq, Prod.mk.injEq, DataW.held.injEq] at h; exact h.1
section
variable {w : World} {b n : Nat} {F : FMap} {t e : TypeId} {z : Value}
theorem MF.look (h : MF w b n F) (ht : Tryz.prog.underlying t = some (.map 9 e)) (hz : ∀ w, (zeroValue e).run Tryz.prog w = .ok z w) {s : ByteArray} (hs : s.size ≤ maxLen) :
 (Instr.lookup t (.map (some b)) (.string s) false).run Tryz.prog w = .ok ((F s).getD z) w := by
 obtain ⟨D, h1, h2⟩ := h; obtain ⟨v, ps, hr, hv⟩ := h1.lookup kStr ht (hz w) (zd := .held z) (zp := []) rfl (keyOfS hs); rw [hr, (h2 s).2] at *; cases hF : F s with
 | none => rw [hF] at hv; rw [held_inj hv rfl]; rfl
 | some x => rw [hF] at hv; rw [held_inj hv rfl]; rfl
theorem MF.store (h : MF w b n F) (ht : Tryz.prog.underlying t = some (.map 9 e)) (hn : n < maxLen) {s : ByteArray} (hs : s.size ≤ maxLen) (v : Value) :
 ∃ w', (Instr.mapUpdate t (.map (some b)) (.string s) v).run Tryz.prog w = .ok () w' ∧ MF w' b (n + 1) (updF F s (some v)) ∧ w.grownBy w' (some b) ∧ w'.heap.size = w.heap.size := by
 obtain ⟨D, h1, h2⟩ := h; obtain ⟨w', hr, ho, ht'⟩ := h1.store kStr ht hn (keyOfS hs) (val := v) (d := .held v) (ps := []) rfl; refine ⟨w', hr, ⟨_, ho, h2.put h1.isMap s v⟩, ht'.grown, ?_⟩; obtain ⟨es, clock, es', clock', _, rfl⟩ := ht'; simp [ChangeMaps.setBlock]
end
section
variable (w : World) {ops : Array Oper} {rest : List Oper} {o : Oper} {a : Act} {Q : Exit → Act → World → Prop}
theorem at_store (hw : o.guard = none) (m x y : Operand) (t e : TypeId) (hop : o.op = Op.mapUpdate t m x y) (ht : Tryz.prog.underlying t = some (.map 9 e))
 (b n : Nat) (F : FMap) (hm : a.eval m = .map (some b)) (h : MF w b n F) (hn : n < maxLen) (s : ByteArray) (hx : a.eval x = .string s) (hs : s.size ≤ maxLen) (v : Value) (hy : a.eval y = v)
 (hK : ∀ w', MF w' b (n + 1) (updF F s (some v)) → w.grownBy w' (some b) → w'.heap.size = w.heap.size → wpList Tryz.prog ops Q rest (a.put o.dst undef) w') : wpList Tryz.prog ops Q (o :: rest) a w := by
 refine wpList_plain hw fun K' hK' => ?_
 obtain ⟨w', hr, h1, h2, h3⟩ := h.store ht hn hs v; unfold Oper.wp; simp [execOp, hop, hm, hx, hy, hr, Result.andThen]
 exact hK' _ _ (hK w' h1 h2 h3)
end
end Go.Proofs.YtkoghgnjjfnamaaGreatDoor
