/- A statement that draws its order: reads, then one call that waits for all of them, then what is made of its answer, in whatever order: one walk in the text's order. -/
import Derived.Test.YtdpnknlpkjablaaGreatDoorMem
import Derived.StillTailTactics
namespace Go.Proofs.YtdpnknlpkjablaaGreatDoor
open Go

section
variable {P : Program} {md : Region.Mode}

def waitsB (md : Region.Mode) (ops : Array Oper) (n : Nat) : Bool :=
  (List.range n).all (fun i => (List.range (n + 1)).any fun j => decide (i < j) && Region.waitsFor md ops j i) &&
  (List.range ops.size).all (fun t => decide (t ≤ n) || (List.range t).any fun j => decide (n ≤ j) && Region.waitsFor md ops t j)
def plainB (ops : List Oper) : Bool := ops.all fun o => o.guard.isNone
def backAll (md : Region.Mode) (ops : Array Oper) (n : Nat) : Bool := (List.range n).all fun i => match ops[i]? with | some o => o.after.all fun e => !(Region.binds md e) || decide (e.on < i) | none => true

/-- While a read is not done nothing behind the reads may run. -/
theorem late_waits {ops : Array Oper} {n : Nat} {listed : Array Bool} (hw : waitsB md ops n = true) (hn : n < ops.size) (inv : HeadInv md ops n listed) :
    ∀ (d i : Nat), n - i = d → i < n → listed.getD i true = false → ∀ t, n ≤ t → t ∉ Region.ready md ops listed := by
  simp only [waitsB, Bool.and_eq_true] at hw
  obtain ⟨hw1, hw2⟩ := hw
  rw [List.all_eq_true] at hw1 hw2
  intro d
  induction d using Nat.strongRecOn with
  | ind d ih =>
    intro i hd hi hun t ht hr
    obtain ⟨_, ot, hot, hall⟩ := mem_ready.1 hr
    have htlt : t < ops.size := (Array.getElem?_eq_some_iff.1 hot).1
    by_cases htn : t = n
    · subst htn
      have h1 := hw1 i (List.mem_range.2 hi)
      rw [List.any_eq_true] at h1
      obtain ⟨j, hj, h1⟩ := h1
      rw [Bool.and_eq_true, decide_eq_true_eq] at h1
      obtain ⟨hij, h1⟩ := h1
      have hjt : j < t + 1 := List.mem_range.1 hj
      obtain ⟨oj, hoj, e, he, hb, hon⟩ := Region.waitsFor_spec h1
      by_cases hjeq : j = t
      · subst hjeq
        have : oj = ot := Option.some.inj (hoj.symm.trans hot)
        subst this
        have := hall e he hb
        rw [hon, getD_both hun] at this
        cases this
      · have hju : listed.getD j true = false := by
          have hjs : j < listed.size := by rw [inv.size]; omega
          cases hlj : listed.getD j false with
          | false => exact getD_in hjs hlj
          | true =>
            have := inv.closed j oj hoj hlj e he hb
            rw [hon, getD_both hun] at this
            cases this
        exact ih (t - j) (by omega) j rfl (by omega) hju t (Nat.le_refl _) hr
    · have h2 := hw2 t (List.mem_range.2 htlt)
      rw [Bool.or_eq_true] at h2
      rcases h2 with h2 | h2
      · simp at h2; omega
      · rw [List.any_eq_true] at h2
        obtain ⟨j, hj, h2⟩ := h2
        rw [Bool.and_eq_true, decide_eq_true_eq] at h2
        obtain ⟨oj, hoj, e, he, hb, hon⟩ := Region.waitsFor_spec h2.2
        have : oj = ot := Option.some.inj (hoj.symm.trans hot)
        subst this
        have hjt := List.mem_range.1 hj
        have := hall e he hb
        rw [hon, getD_both (inv.tail j h2.1 (by omega))] at this
        cases this

theorem all_listed {ops : Array Oper} {n : Nat} {listed : Array Bool} (hb : backAll md ops n = true) (hn : n ≤ ops.size) (hs : listed.size = ops.size) (hr : ∀ i, i < n → i ∉ Region.ready md ops listed) : ∀ i, i < n → listed.getD i false = true := by
  intro i
  induction i using Nat.strongRecOn with
  | ind i ih =>
    intro hi
    cases hl : listed.getD i false with
    | true => rfl
    | false =>
      have ho : ops[i]? = some ops[i] := Array.getElem?_eq_getElem (by omega)
      refine absurd (mem_ready.2 ⟨getD_in (by omega) hl, _, ho, fun e he hbd => ?_⟩) (hr i hi)
      unfold backAll at hb
      rw [List.all_eq_true] at hb
      have h1 := hb i (List.mem_range.2 hi)
      rw [ho] at h1
      simp only [Array.all_eq_true_iff_forall_mem] at h1
      have h2 : e.on < i := by simpa [hbd] using h1 e he
      exact ih e.on h2 (by omega)

/-- The reads, in whatever order, out of a walk of them alone. -/
theorem heads_any {ops opsH : Array Oper} {n g : Nat} {w : World} {Q' : Exit → Act → World → Prop} {Lq : Act → Prop} (hw : waitsB md ops n = true) (hb : backAll md ops n = true) (hn : n < ops.size)
    (hH : ∀ i, i < n → opsH[i]? = ops[i]?) (hHs : ∀ i, n ≤ i → opsH[i]? = none) (hpl : ∀ i o, i < n → ops[i]? = some o → o.guard = none)
    (hL : ∀ listed a, (∀ i, i < n → listed.getD i false = true) → (∀ i, n ≤ i → i < ops.size → listed.getD i true = false) → listed.size = ops.size → Lq a → wpAny P md ops Q' g listed a w) :
    ∀ (f : Nat) (listed : Array Bool) (a : Act), HeadInv md ops n listed → f = ((List.range n).filter fun i => !(listed.getD i false)).length → wpAnyS P md opsH w Lq f listed a → wpAny P md ops Q' (f + g) listed a w := by
  have sub : ∀ listed i, i ∈ Region.ready md opsH listed → i < n ∧ i ∈ Region.ready md ops listed := by
    intro listed i hi
    obtain ⟨h0, o, ho, hall⟩ := mem_ready.1 hi
    have hin : i < n := by
      rcases Nat.lt_or_ge i n with h | h
      · exact h
      · rw [hHs i h] at ho; cases ho
    exact ⟨hin, mem_ready.2 ⟨h0, o, by rw [← hH i hin]; exact ho, hall⟩⟩
  have sup : ∀ listed i, i < n → i ∈ Region.ready md ops listed → i ∈ Region.ready md opsH listed := by
    intro listed i hin hi
    obtain ⟨h0, o, ho, hall⟩ := mem_ready.1 hi
    exact mem_ready.2 ⟨h0, o, by rw [hH i hin]; exact ho, hall⟩
  intro f
  induction f with
  | zero =>
    intro listed a inv hf h
    rw [Nat.zero_add]
    have hr : Region.ready md opsH listed = [] := h.1
    refine hL listed a (all_listed (md := md) hb (by omega) inv.size fun i hi hm => ?_) inv.tail inv.size h.2
    have := sup listed i hi hm
    rw [hr] at this
    cases this
  | succ f ih =>
    intro listed a inv hf h
    rw [show f + 1 + g = (f + g) + 1 by omega]
    have hun : ∃ i, i < n ∧ listed.getD i true = false := by
      have : 0 < ((List.range n).filter fun i => !(listed.getD i false)).length := by omega
      obtain ⟨i, hi⟩ := List.exists_mem_of_length_pos this
      rw [List.mem_filter, List.mem_range] at hi
      exact ⟨i, hi.1, getD_in (by rw [inv.size]; omega) (by simpa using hi.2)⟩
    obtain ⟨i0, hi0, hu0⟩ := hun
    have hnone := late_waits hw hn inv _ i0 rfl hi0 hu0
    refine ⟨fun h0 => ?_, fun i hi => ?_⟩
    · exfalso
      have := all_listed (md := md) hb (Nat.le_of_lt hn) inv.size (fun i _ hm => by rw [h0] at hm; cases hm) i0 hi0
      rw [getD_both hu0] at this
      cases this
    · have hin : i < n := by
        rcases Nat.lt_or_ge i n with h1 | h1
        · exact h1
        · exact absurd hi (hnone i h1)
      obtain ⟨hiu, oi, hoi, _⟩ := mem_ready.1 hi
      have h1 := h.2 i (sup listed i hin hi)
      have hg := hpl i oi hin hoi
      have hst : stOp P ops w i (wpAnyS P md opsH w Lq f (listed.setIfInBounds i true)) a := by
        unfold stOp at h1 ⊢
        rw [hH i hin] at h1
        rw [hoi] at h1 ⊢
        simp only [Region.wanted, hg] at h1 ⊢
        exact h1
      refine wpOp_of_stOp (fun a' h' => ih _ a' (inv.set hi hin) ?_ h') hst
      -- one fewer
      have his : i < listed.size := by rw [inv.size]; omega
      have key : (List.range n).filter (fun j => !((listed.setIfInBounds i true).getD j false)) = ((List.range n).filter fun j => !(listed.getD j false)).filter (fun j => !(j == i)) := by
        rw [List.filter_filter]
        apply List.filter_congr
        intro j _
        by_cases hj : i = j
        · subst hj; simp [his]
        · rw [getD_set_ne false hj]
          have : (j == i) = false := by simp; omega
          simp [this]
      rw [key]
      have hmem : i ∈ (List.range n).filter fun j => !(listed.getD j false) := by
        rw [List.mem_filter, List.mem_range]
        exact ⟨hin, by rw [getD_both hiu]; rfl⟩
      have hnd : ((List.range n).filter fun j => !(listed.getD j false)).Nodup := List.Pairwise.filter _ List.nodup_range
      have he : ((List.range n).filter fun j => !(listed.getD j false)).filter (fun j => !(j == i)) = ((List.range n).filter fun j => !(listed.getD j false)).erase i := by
        rw [hnd.erase_eq_filter]
        rfl
      rw [he, List.length_erase_of_mem hmem]
      omega

def midB (l : List Oper) (n : Nat) : Bool :=
  Region.noSelect l.toArray && Region.noSelect (l.take n).toArray && decide (n < l.length) && waitsB .any l.toArray n && backAll .any l.toArray n && plainB (l.take n) &&
  Region.lexFrom .any (l.take n).toArray n 0 (Array.replicate l.length false) &&
  decide (Region.ready .any l.toArray (Array.replicate n true ++ Array.replicate (l.length - n) false) = [n]) &&
  Region.lexFrom .any l.toArray (l.length - (n + 1)) (n + 1) (Array.replicate (n + 1) true ++ Array.replicate (l.length - (n + 1)) false)

theorem getD_app_lt {j i k : Nat} (h : j < i) : (Array.replicate i true ++ Array.replicate k false).getD j false = true := by
  rw [Array.getD_eq_getD_getElem?, Array.getElem?_append_left (by simpa using h)]
  simp [h]
theorem getD_app_ge {j i k : Nat} (h : i ≤ j) (h2 : j < i + k) : (Array.replicate i true ++ Array.replicate k false).getD j true = false := by
  rw [Array.getD_eq_getD_getElem?, Array.getElem?_append_right (by simpa using h)]
  simp [show j - i < k by omega]
theorem listed_eq {listed : Array Bool} {n m : Nat} (hn : n ≤ m) (hs : listed.size = m) (h1 : ∀ i, i < n → listed.getD i false = true) (h2 : ∀ i, n ≤ i → i < m → listed.getD i true = false) : listed = Array.replicate n true ++ Array.replicate (m - n) false := by
  apply Array.ext
  · simp; omega
  · intro i hi hi'
    by_cases h : i < n
    · have := h1 i h
      simp [hi] at this
      rw [this, Array.getElem_append_left (by simpa using h)]
      simp
    · have := h2 i (by omega) (by omega)
      simp [hi] at this
      rw [this, Array.getElem_append_right (by simp; omega)]
      simp

theorem wp_region_mid {id : Nat} {Q : Exit → Act → World → Prop} {a : Act} {w : World} {l : List Oper} {o : Oper} (n : Nat) (hm : P.follows .mixedOrders = true) (hB : midB l n = true) (ho : l[n]? = some o) (hg : o.guard = none)
    (h : wpStill P (l.take n).toArray { w with drawn := w.drawn + 1 } (fun a' => o.wp P a' { w with drawn := w.drawn + 1 } (fun a2 w2 => wpStill P l.toArray w2 (fun a3 => Q .normal a3 w2) (l.drop (n + 1)) a2) Q) (l.take n) a) :
    (Code.region id l.toArray true).wp P Q a w := by
  simp only [midB, Bool.and_eq_true, decide_eq_true_eq] at hB
  obtain ⟨⟨⟨⟨⟨⟨⟨⟨hsel, hselH⟩, hn⟩, hw⟩, hb⟩, hpl⟩, hlex⟩, hrd⟩, hlex2⟩ := hB
  refine wp_region_any hm ?_
  have hsz : l.toArray.size = l.length := by simp
  have htl : (l.take n).length = n := by simp; omega
  have inv0 : HeadInv .any l.toArray n (Array.replicate l.length false) :=
    ⟨by simp, fun j oj _ hl => (by rw [getD_replicate_false] at hl; cases hl), fun t _ ht => getD_in (by simpa using ht) (getD_replicate_false _ _)⟩
  have hlexH := wpAnyS_lex (P := P) (md := .any) (ops := (l.take n).toArray) hselH (l.take n) 0 (Array.replicate l.length false) a (fun j => by simp) (by rw [htl]; exact hlex) h
  rw [htl] at hlexH
  have := heads_any (P := P) (md := .any) (ops := l.toArray) (opsH := (l.take n).toArray) (n := n) (g := l.length - n) (w := { w with drawn := w.drawn + 1 }) (Q' := Q) hw hb (by simpa using hn)
    (fun i hi => by simp [hi]) (fun i hi => by simp; omega)
    (fun i oi hi hoi => by
      unfold plainB at hpl
      rw [List.all_eq_true] at hpl
      have := hpl oi (List.mem_of_getElem? (i := i) (by rw [List.getElem?_take, if_pos hi]; simpa using hoi))
      simpa using this)
    (fun listed a' h1 h2 h3 hLq => by
      have hle := listed_eq (Nat.le_of_lt hn) (by rw [h3, hsz]) h1 (fun i hi hi' => h2 i hi (by rw [hsz]; exact hi'))
      subst hle
      obtain ⟨k, hk⟩ : ∃ k, l.length - n = k + 1 := ⟨l.length - n - 1, by omega⟩
      rw [hk]
      refine ⟨fun h0 => (by rw [← hk, hrd] at h0; cases h0), fun i hi => ?_⟩
      rw [← hk, hrd] at hi
      have hin : i = n := by simpa using hi
      subst hin
      unfold wpOp
      have hoi : l.toArray[i]? = some o := by simpa using ho
      rw [hoi]
      simp only [Region.wanted, hg, if_true]
      refine Or.inl (Oper.wp_mono (fun a2 w2 h2' => ?_) hLq)
      have hset : (Array.replicate i true ++ Array.replicate (k + 1) false).setIfInBounds i true = Array.replicate (i + 1) true ++ Array.replicate (l.length - (i + 1)) false := by
        apply listed_eq (by omega)
        · simp; omega
        · intro j hj
          by_cases e : i = j
          · subst e; simp
          · rw [getD_set_ne false e]
            exact getD_app_lt (by omega)
        · intro j hj hj'
          rw [getD_set_ne true (by omega)]
          exact getD_app_ge (by omega) (by omega)
      rw [hset]
      have hk2 : k = (l.drop (i + 1)).length := by simp; omega
      rw [hk2]
      refine wpAny_of_still (Q := fun a3 => Q .normal a3 w2) (fun _ h => h) _ _ _ ?_
      refine wpAnyS_lex (md := .any) hsel (l.drop (i + 1)) (i + 1) _ a2 (fun j => by simp [List.getElem?_drop]) ?_ h2'
      simpa using hlex2)
    n (Array.replicate l.length false) a inv0 (by
      have : (List.range n).filter (fun i => !((Array.replicate l.length false).getD i false)) = List.range n := by
        rw [List.filter_eq_self]
        intro i hi
        rw [getD_replicate_false]; rfl
      rw [this]; simp) hlexH
  rw [show n + (l.length - n) = l.length by omega] at this
  simpa using this
end
end Go.Proofs.YtdpnknlpkjablaaGreatDoor
