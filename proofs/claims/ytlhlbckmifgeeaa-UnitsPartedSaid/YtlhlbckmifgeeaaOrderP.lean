/- The order of units as a plain function. -/
import Derived.Test.YtlhlbckmifgeeaaClos
import Derived.Test.YtlhlbckmifgeeaaSortS
namespace Go.Proofs.Ytlhlbckmifgeeaa
open Go.RowKit

instance decMemB (s : ByteArray) (l : List ByteArray) : Decidable (s ∈ l) := @List.instDecidableMemOfLawfulBEq ByteArray instBEqOfDecidableEq inferInstance s l

def nm (us : List U) : List ByteArray := us.map (·.name)
/-- The first unit of a name. -/
def byName (us : List U) : UMap := fun s => us.find? fun u => decide (u.name = s)
/-- The name that stands twice first. -/
def twiceU (us : List U) : Option ByteArray := ((List.range us.length).find? fun k => match us[k]? with | some u => decide (u.name ∈ nm (us.take k)) | none => false).bind fun k => (us[k]?).map (·.name)
/-- Only the units of the names. -/
def only (G : UMap) (ns : List ByteArray) : UMap := fun s => if s ∈ ns then G s else none
def lacks (G : UMap) (s : ByteArray) : Bool := match G s with | some u => u.req.any fun r => !(G r).isSome | none => false
def ready (G : UMap) (s : ByteArray) : Bool := match G s with | some u => free G u | none => false

/-- Unit by unit, the least name that may start first. -/
def runU (G : UMap) : Nat → List ByteArray → List U → List U × ByteArray × Int
  | 0, _, acc => (acc, ⟨#[]⟩, 0)
  | k + 1, ns, acc =>
    match ns with
    | [] => (acc, ⟨#[]⟩, 0)
    | n0 :: _ =>
      match ns.findIdx? (ready (only G ns)) with
      | none => ([], n0, 29)
      | some i => match ns[i]?.bind G with
        | some u => runU G k (ns.eraseIdx i) (acc ++ [u])
        | none => (acc, ⟨#[]⟩, 0)

def orderC (us : List U) : List U × ByteArray × Int :=
  match (sortS (nm us)).find? (lacks (byName us)) with
  | some s => ([], s, 28)
  | none => runU (byName us) us.length (sortS (nm us)) []
def orderB (us : List U) : List U × ByteArray × Int :=
  match twiceU us with
  | some s => ([], s, 10)
  | none => orderC us
def orderU (us : List U) : List U × ByteArray × Int :=
  if 24 < us.length then ([], ⟨#[]⟩, 30) else orderB us
theorem orderB_some {us : List U} {s : ByteArray} (h : twiceU us = some s) : orderB us = ([], s, 10) := by unfold orderB; rw [h]
theorem orderB_none {us : List U} (h : twiceU us = none) : orderB us = orderC us := by unfold orderB; rw [h]
theorem orderC_some {us : List U} {s : ByteArray} (h : (sortS (nm us)).find? (lacks (byName us)) = some s) : orderC us = ([], s, 28) := by unfold orderC; rw [h]
theorem orderC_none {us : List U} (h : (sortS (nm us)).find? (lacks (byName us)) = none) : orderC us = runU (byName us) us.length (sortS (nm us)) [] := by unfold orderC; rw [h]

theorem find_first {p : ByteArray → Bool} {ss : List ByteArray} {k : Nat} {s : ByteArray} (hk : ss[k]? = some s) (he : p s = true) (hb : ∀ (j : Nat) (x : ByteArray), j < k → ss[j]? = some x → p x = false) : ss.find? p = some s := by
  obtain ⟨hlt, hx⟩ := List.getElem?_eq_some_iff.1 hk
  rw [List.find?_eq_some_iff_getElem]
  refine ⟨he, k, hlt, hx, fun j hj => ?_⟩
  rw [hb j _ hj (List.getElem?_eq_getElem (by omega))]; rfl
theorem find_no {p : ByteArray → Bool} {ss : List ByteArray} (hb : ∀ (j : Nat) (x : ByteArray), ss[j]? = some x → p x = false) : ss.find? p = none := by
  rw [List.find?_eq_none]
  intro x hx
  obtain ⟨j, hj⟩ := List.getElem?_of_mem hx
  simp [hb j x hj]
theorem byName_none {us : List U} {s : ByteArray} : byName us s = none ↔ s ∉ nm us := by
  unfold byName nm
  rw [List.find?_eq_none]
  constructor
  · intro h hm
    obtain ⟨u, hu, rfl⟩ := List.mem_map.1 hm
    simpa using h u hu
  · intro h u hu
    simp
    intro e
    exact h (List.mem_map.2 ⟨u, hu, e⟩)
theorem byName_some {us : List U} {s : ByteArray} {u : U} (h : byName us s = some u) : u ∈ us ∧ u.name = s := by
  unfold byName at h
  have h1 := List.mem_of_find?_eq_some h
  have h2 := List.find?_some h
  exact ⟨h1, by simpa using h2⟩
theorem byName_isSome {us : List U} {s : ByteArray} : (byName us s).isSome = decide (s ∈ nm us) := by
  cases h : byName us s with
  | none => simp [byName_none.1 h]
  | some u =>
    have := byName_some h
    have : s ∈ nm us := List.mem_map.2 ⟨u, this.1, this.2⟩
    simp [this]
theorem byName_snoc {us : List U} {u : U} (h : u.name ∉ nm us) : byName (us ++ [u]) = fun s => if s = u.name then some u else byName us s := by
  funext s
  unfold byName
  rw [List.find?_append]
  by_cases hs : s = u.name
  · subst hs
    have := byName_none.2 h
    unfold byName at this
    rw [this]; simp
  · have : ¬ u.name = s := fun e => hs e.symm
    simp [hs, this]

theorem twiceU_none {us : List U} (h : (nm us).Nodup) : twiceU us = none := by
  unfold twiceU
  have : ((List.range us.length).find? fun k => match us[k]? with | some u => decide (u.name ∈ nm (us.take k)) | none => false) = none := by
    rw [List.find?_eq_none]
    intro k hk
    have hk' : k < us.length := by simpa using hk
    rw [List.getElem?_eq_getElem hk']
    simp only [decide_eq_true_eq]
    intro hm
    obtain ⟨x, hx, he⟩ := List.mem_map.1 hm
    obtain ⟨j, hj, rfl⟩ := List.mem_iff_getElem.1 hx
    have hjk : j < k := by simp at hj; omega
    have h1 := List.nodup_iff_pairwise_ne.1 h
    rw [List.pairwise_iff_getElem] at h1
    have := h1 j k (by simp [nm]; omega) (by simp [nm]; omega) hjk
    simp [nm] at this
    apply this
    simpa using he
  rw [this]; rfl
theorem twiceU_some {us : List U} {k : Nat} {u : U} (hk : us[k]? = some u) (hm : u.name ∈ nm (us.take k)) (hn : (nm (us.take k)).Nodup) : twiceU us = some u.name := by
  unfold twiceU
  have hlt := (List.getElem?_eq_some_iff.1 hk).1
  have : ((List.range us.length).find? fun k => match us[k]? with | some u => decide (u.name ∈ nm (us.take k)) | none => false) = some k := by
    rw [List.find?_eq_some_iff_getElem]
    refine ⟨by rw [hk]; simpa using hm, k, by simpa using hlt, by simp, fun j hj => ?_⟩
    have hjl : j < us.length := by omega
    simp only [List.getElem_range]
    rw [List.getElem?_eq_getElem hjl]
    simp only [Bool.not_eq_true', decide_eq_false_iff_not]
    intro hm'
    have h1 := List.nodup_iff_pairwise_ne.1 hn
    rw [List.pairwise_iff_getElem] at h1
    obtain ⟨x, hx, he⟩ := List.mem_map.1 hm'
    obtain ⟨i, hi, rfl⟩ := List.mem_iff_getElem.1 hx
    have hij : i < j := by simp at hi; omega
    have := h1 i j (by simp [nm]; omega) (by simp [nm]; omega) hij
    simp [nm] at this
    apply this
    simpa using he
  rw [this]
  simp [hk]
theorem nodup_step {us : List U} {k : Nat} {u : U} (hk : us[k]? = some u) (hn : (nm (us.take k)).Nodup) (hm : u.name ∉ nm (us.take k)) : (nm (us.take (k + 1))).Nodup := by
  obtain ⟨hlt, he⟩ := List.getElem?_eq_some_iff.1 hk
  rw [List.take_succ_eq_append_getElem hlt, he]
  unfold nm at *
  rw [List.map_append, List.nodup_append]
  refine ⟨hn, by simp, fun a ha b hb => ?_⟩
  simp at hb
  subst hb
  intro e
  subst e
  exact hm ha
theorem take_snoc {us : List U} {k : Nat} {u : U} (hk : us[k]? = some u) : us.take (k + 1) = us.take k ++ [u] := by
  obtain ⟨hlt, he⟩ := List.getElem?_eq_some_iff.1 hk
  rw [List.take_succ_eq_append_getElem hlt, he]

theorem own_mono {w : World} {base base' : Nat} {e : TypeId} {size : Nat} {v : Value} {n : Nat} {xs : List Value} (h : w.ownsRow base e size v n xs) (hb : base' ≤ base) : w.ownsRow base' e size v n xs := by
  obtain ⟨h1, h2⟩ := h
  refine ⟨h1, ?_⟩
  rcases h2 with h2 | ⟨g, cap, cur, hv, hg, r⟩
  · exact Or.inl h2
  · exact Or.inr ⟨g, cap, cur, hv, Nat.le_trans hb hg, r⟩
theorem runU_nil (G : UMap) (k : Nat) (acc : List U) : runU G k [] acc = (acc, ⟨#[]⟩, 0) := by cases k <;> rfl
theorem runU_none {G : UMap} {k : Nat} {n0 : ByteArray} {r : List ByteArray} {acc : List U} (h : idxP (ready (only G (n0 :: r))) (n0 :: r) = -1) : runU G (k + 1) (n0 :: r) acc = ([], n0, 29) := by
  unfold idxP at h
  cases hf : (n0 :: r).findIdx? (ready (only G (n0 :: r))) with
  | none => simp only [runU, hf]
  | some i => rw [hf] at h; simp at h
theorem runU_some {G : UMap} {k i : Nat} {ns : List ByteArray} {acc : List U} {s : ByteArray} {u : U} (h : idxP (ready (only G ns)) ns = i) (hs : ns[i]? = some s) (hu : G s = some u) : runU G (k + 1) ns acc = runU G k (ns.eraseIdx i) (acc ++ [u]) := by
  unfold idxP at h
  cases hf : ns.findIdx? (ready (only G ns)) with
  | none => rw [hf] at h; simp at h
  | some j =>
    rw [hf] at h
    simp at h
    obtain rfl : j = i := by omega
    cases ns with
    | nil => simp at hs
    | cons n0 r =>
      have hb : (Option.some s).bind G = Option.some u := hu
      simp only [runU, hf, hs, hb]
theorem idxP_cases (p : ByteArray → Bool) (ss : List ByteArray) : idxP p ss = -1 ∨ ∃ (i : Nat) (s : ByteArray), idxP p ss = i ∧ ss[i]? = some s ∧ i < ss.length ∧ p s = true := by
  unfold idxP
  cases h : ss.findIdx? p with
  | none => exact Or.inl rfl
  | some i =>
    rw [List.findIdx?_eq_some_iff_getElem] at h
    exact Or.inr ⟨i, ss[i]'h.1, rfl, List.getElem?_eq_getElem h.1, h.1, h.2.1⟩
theorem only_erase {G : UMap} {ns : List ByteArray} {i : Nat} {s : ByteArray} (hs : ns[i]? = some s) (hn : ns.Nodup) : only G (ns.eraseIdx i) = fun x => if x = s then none else only G ns x := by
  obtain ⟨hlt, he⟩ := List.getElem?_eq_some_iff.1 hs
  funext x
  unfold only
  have hm : x ∈ ns.eraseIdx i ↔ x ∈ ns ∧ x ≠ s := by
    rw [List.mem_eraseIdx_iff_getElem?]
    constructor
    · rintro ⟨j, hj, hx⟩
      refine ⟨List.mem_of_getElem? hx, fun e => ?_⟩
      subst e
      have h1 := List.nodup_iff_pairwise_ne.1 hn
      rw [List.pairwise_iff_getElem] at h1
      obtain ⟨hjl, hje⟩ := List.getElem?_eq_some_iff.1 hx
      rcases Nat.lt_or_gt_of_ne hj with h | h
      · exact h1 j i hjl hlt h (by rw [hje, he])
      · exact h1 i j hlt hjl h (by rw [hje, he])
    · rintro ⟨hx, hne⟩
      obtain ⟨j, hj⟩ := List.getElem?_of_mem hx
      exact ⟨j, fun e => by subst e; rw [hs] at hj; exact hne (Option.some.inj hj).symm, hj⟩
  by_cases hx : x = s
  · subst hx
    rw [if_neg (fun h => (hm.1 h).2 rfl), if_pos rfl]
  · rw [if_neg hx]
    by_cases h2 : x ∈ ns
    · rw [if_pos (hm.2 ⟨h2, hx⟩), if_pos h2]
    · rw [if_neg (fun h => h2 (hm.1 h).1), if_neg h2]
theorem only_some {G : UMap} {ns : List ByteArray} {s : ByteArray} (hs : s ∈ ns) : only G ns s = G s := by unfold only; rw [if_pos hs]
theorem FU.del {p : Nat → Prop} {w : World} {F : FMap} {G : UMap} (h : FU p w F G) (s : ByteArray) : FU p w (updF F s Option.none) (fun x => if x = s then Option.none else G x) := by
  intro x
  by_cases hx : x = s
  · subst hx
    rw [updF_same]; simp
  · rw [updF_other _ hx]
    simp only [if_neg hx]
    exact h x
theorem only_all {us : List U} {sn : List ByteArray} (h : ∀ s, s ∈ nm us → s ∈ sn) : only (byName us) sn = byName us := by
  funext s
  unfold only
  by_cases hm : s ∈ sn
  · rw [if_pos hm]
  · rw [if_neg hm, byName_none.2 (fun h2 => hm (h s h2))]

/-! Sorting does not hang on how the strings stood. -/
theorem le_total_bytes (x y : List UInt8) : (decide (x ≤ y) || decide (y ≤ x)) = true := by
  rcases List.le_total x y with h | h <;> simp [h]
theorem le_trans_bytes (x y z : List UInt8) (h1 : decide (x ≤ y) = true) (h2 : decide (y ≤ z) = true) : decide (x ≤ z) = true := by
  simp at *
  exact List.le_trans h1 h2
theorem sortS_sorted (ss : List ByteArray) : (bytesOf (sortS ss)).Pairwise (fun x y => decide (x ≤ y) = true) := by
  unfold sortS
  rw [bytesOf_ofBytes]
  exact List.pairwise_mergeSort le_trans_bytes le_total_bytes _
theorem sortS_congr {a b : List ByteArray} (h : a.Perm b) : sortS a = sortS b := by
  have hp : (bytesOf (sortS a)).Perm (bytesOf (sortS b)) := ((sortS_perm a).trans (h.trans (sortS_perm b).symm)).map _
  have := List.Perm.eq_of_pairwise (le := fun x y => decide (x ≤ y) = true) (fun x y _ _ h1 h2 => by simp at h1 h2; exact List.le_antisymm h1 h2) (sortS_sorted a) (sortS_sorted b) hp
  rw [← ofBytes_bytesOf (sortS a), this, ofBytes_bytesOf]
theorem sortS_nodup {a : List ByteArray} (h : a.Nodup) : (sortS a).Nodup := (sortS_perm a).nodup_iff.2 h
theorem mem_sortS {a : List ByteArray} {s : ByteArray} : s ∈ sortS a ↔ s ∈ a := (sortS_perm a).mem_iff
end Go.Proofs.Ytlhlbckmifgeeaa
