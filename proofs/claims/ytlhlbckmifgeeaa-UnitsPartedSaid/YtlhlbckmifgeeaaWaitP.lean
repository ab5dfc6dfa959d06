/- What the order keeps: each unit once, behind all that it waits for; and it does not hang on how the units stood. -/
import Derived.Test.YtlhlbckmifgeeaaShown
import Derived.Test.YtlhlbckmifgeeaaRef2
namespace Go.Proofs.Ytlhlbckmifgeeaa
open Go.RowKit

/-- Each unit stands behind all that it requires, and behind all of the names after which it stands. -/
def Good (dom : List ByteArray) (acc : List U) : Prop :=
  ∀ (i : Nat) (u : U), acc[i]? = some u → (∀ r, r ∈ u.req → r ∈ nm (acc.take i)) ∧ (∀ a, a ∈ u.aft → a ∈ nm (acc.take i) ∨ a ∉ dom)
theorem Good.nil (dom : List ByteArray) : Good dom [] := fun i u h => by simp at h
theorem Good.snoc {dom : List ByteArray} {acc : List U} {u : U} (h : Good dom acc) (hr : ∀ r, r ∈ u.req → r ∈ nm acc) (ha : ∀ a, a ∈ u.aft → a ∈ nm acc ∨ a ∉ dom) : Good dom (acc ++ [u]) := by
  intro i x hx
  by_cases hi : i < acc.length
  · rw [List.getElem?_append_left hi] at hx
    rw [List.take_append_of_le_length (by omega)]
    exact h i x hx
  · have hlt := (List.getElem?_eq_some_iff.1 hx).1
    simp at hlt
    obtain rfl : i = acc.length := by omega
    simp at hx
    subst hx
    rw [List.take_left]
    exact ⟨hr, ha⟩

theorem runU_good {us : List U} {dom : List ByteArray} (hdom : ∀ s, s ∈ dom ↔ s ∈ nm us) (hreq : ∀ s u, byName us s = some u → ∀ r, r ∈ u.req → r ∈ dom) :
    ∀ (k : Nat) (ns : List ByteArray) (acc : List U), ns.length = k → ns.Nodup → (nm acc ++ ns).Nodup → (∀ s, s ∈ dom ↔ s ∈ nm acc ∨ s ∈ ns) → Good dom acc → (∀ u, u ∈ acc → u ∈ us) →
      ((runU (byName us) k ns acc).2.2 ≠ 0 ∧ (runU (byName us) k ns acc).1 = [] ∧ (runU (byName us) k ns acc).2.2 = 29) ∨
      ((runU (byName us) k ns acc).2.2 = 0 ∧ (runU (byName us) k ns acc).2.1 = ⟨#[]⟩ ∧ Good dom (runU (byName us) k ns acc).1 ∧ (nm (runU (byName us) k ns acc).1).Nodup ∧ (∀ u, u ∈ (runU (byName us) k ns acc).1 → u ∈ us) ∧ (runU (byName us) k ns acc).1.length = acc.length + ns.length) := by
  intro k
  induction k with
  | zero =>
    intro ns acc hl hn hnn hd hg hu
    have : ns = [] := List.eq_nil_of_length_eq_zero hl
    subst this
    right
    simp only [runU]
    exact ⟨trivial, trivial, hg, by simpa using hnn, hu, by simp⟩
  | succ k ih =>
    intro ns acc hl hn hnn hd hg hu
    cases ns with
    | nil => simp at hl
    | cons n0 rest =>
      rcases idxP_cases (ready (only (byName us) (n0 :: rest))) (n0 :: rest) with hx | ⟨i, s, hx, hs, hlt, hrd⟩
      · left
        rw [runU_none hx]
        exact ⟨by simp, rfl, rfl⟩
      · have hsm := List.mem_of_getElem? hs
        have hsd : s ∈ nm us := (hdom s).1 ((hd s).2 (Or.inr hsm))
        have hbn : (byName us s).isSome = true := by rw [byName_isSome]; simpa using hsd
        obtain ⟨u, hub⟩ := Option.isSome_iff_exists.1 hbn
        have hun := byName_some hub
        rw [runU_some hx hs hub]
        have hfree : free (only (byName us) (n0 :: rest)) u = true := by
          unfold ready at hrd
          rw [only_some hsm, hub] at hrd
          exact hrd
        unfold free at hfree
        rw [Bool.and_eq_true] at hfree
        have notin : ∀ r, (only (byName us) (n0 :: rest) r).isSome = false → r ∈ nm us → r ∉ n0 :: rest := by
          intro r h1 h2 h3
          rw [only_some h3, byName_isSome] at h1
          simp [h2] at h1
        have hr1 : ∀ r, r ∈ u.req → r ∈ nm acc := by
          intro r hr
          have hrd := hreq s u hub r hr
          have h1 := hfree.1
          simp only [Bool.not_eq_true', List.any_eq_false, Bool.not_eq_true] at h1
          rcases (hd r).1 hrd with h | h
          · exact h
          · exact absurd h (notin r (h1 r hr) ((hdom r).1 hrd))
        have ha1 : ∀ a, a ∈ u.aft → a ∈ nm acc ∨ a ∉ dom := by
          intro a ha
          by_cases hda : a ∈ dom
          · have h1 := hfree.2
            simp only [Bool.not_eq_true', List.any_eq_false, Bool.not_eq_true] at h1
            rcases (hd a).1 hda with h | h
            · exact Or.inl h
            · exact absurd h (notin a (h1 a ha) ((hdom a).1 hda))
          · exact Or.inr hda
        have hel : ((n0 :: rest).eraseIdx i).length = k := by rw [List.length_eraseIdx, if_pos hlt]; simp at hl ⊢; exact hl
        have hme : ∀ x, x ∈ (n0 :: rest).eraseIdx i ↔ x ∈ n0 :: rest ∧ x ≠ s := by
          intro x
          have := congrFun (only_erase (G := fun y => some u) hs hn) x
          unfold only at this
          by_cases hxs : x = s
          · subst hxs
            simp at this
            simp [this]
          · rw [if_neg hxs] at this
            by_cases h1 : x ∈ (n0 :: rest).eraseIdx i
            · by_cases h2 : x ∈ n0 :: rest
              · simp [h1, h2, hxs]
              · simp [h1, h2] at this
            · by_cases h2 : x ∈ n0 :: rest
              · simp [h1, h2] at this
              · simp [h1, h2]
        have hnma : nm (acc ++ [u]) = nm acc ++ [s] := by unfold nm; rw [List.map_append]; simp [hun.2]
        have hnd := List.nodup_append.1 hnn
        have hsna : s ∉ nm acc := fun h => hnd.2.2 s h s hsm rfl
        have := ih ((n0 :: rest).eraseIdx i) (acc ++ [u]) hel (hn.eraseIdx i) (by
            rw [hnma, List.nodup_append, List.nodup_append]
            refine ⟨⟨hnd.1, by simp, fun a ha b hb e => by simp at hb; subst hb; subst e; exact hsna ha⟩, hn.eraseIdx i, fun a ha b hb e => ?_⟩
            subst e
            have := (hme a).1 hb
            rcases List.mem_append.1 ha with h | h
            · exact hnd.2.2 a h a this.1 rfl
            · simp at h; exact this.2 h) (by
            intro x
            rw [hd x, hnma, List.mem_append, hme x]
            by_cases hxs : x = s
            · subst hxs; simp [hsm]
            · simp [hxs]) (hg.snoc hr1 ha1) (fun x hx => by
            rcases List.mem_append.1 hx with h | h
            · exact hu x h
            · simp at h; subst h; exact hun.1)
        rw [hel] at this
        simp only [List.length_append, List.length_cons, List.length_nil] at this ⊢
        rcases this with h | h
        · exact Or.inl h
        · exact Or.inr ⟨h.1, h.2.1, h.2.2.1, h.2.2.2.1, h.2.2.2.2.1, by rw [h.2.2.2.2.2]; simp at hl; omega⟩

theorem nodup_of_twice {us : List U} (h : twiceU us = none) : (nm us).Nodup := by
  have hk : ∀ k, k ≤ us.length → (nm (us.take k)).Nodup := by
    intro k
    induction k with
    | zero => intro _; simp [nm]
    | succ k ih =>
      intro hk
      have h1 := ih (by omega)
      have hu : us[k]? = some (us[k]'(by omega)) := List.getElem?_eq_getElem (by omega)
      refine nodup_step hu h1 (fun hm => ?_)
      rw [twiceU_some hu hm h1] at h
      cases h
  have := hk us.length (Nat.le_refl _)
  rwa [List.take_length] at this

theorem lacks_none {us : List U} {ns : List ByteArray} (h : ns.find? (lacks (byName us)) = none) (hns : ∀ s, s ∈ nm us → s ∈ ns) : ∀ s u, byName us s = some u → ∀ r, r ∈ u.req → r ∈ nm us := by
  intro s u hu r hr
  rw [List.find?_eq_none] at h
  have hm : s ∈ nm us := by
    have : (byName us s).isSome = true := by rw [hu]; rfl
    rw [byName_isSome] at this
    simpa using this
  have h1 := h s (hns s hm)
  unfold lacks at h1
  rw [hu] at h1
  simp only [Bool.not_eq_true, List.any_eq_false] at h1
  have := h1 r hr
  rw [byName_isSome] at this
  simpa using this

/-- What an order is, or is not. -/
theorem order_spec (us : List U) :
    ((orderU us).2.2 ≠ 0 ∧ (orderU us).1 = []) ∨
    ((orderU us).2.2 = 0 ∧ (orderU us).2.1 = ⟨#[]⟩ ∧ (nm us).Nodup ∧ Good (nm us) (orderU us).1 ∧ (nm (orderU us).1).Nodup ∧ (∀ u, u ∈ (orderU us).1 → u ∈ us) ∧ (orderU us).1.length = us.length) := by
  by_cases hl : 24 < us.length
  · left; unfold orderU; rw [if_pos hl]; exact ⟨by simp, rfl⟩
  · have e1 : orderU us = orderB us := by unfold orderU; rw [if_neg hl]
    rw [e1]
    cases ht : twiceU us with
    | some s => left; rw [orderB_some ht]; exact ⟨by simp, rfl⟩
    | none =>
      rw [orderB_none ht]
      have hn := nodup_of_twice ht
      cases hf : (sortS (nm us)).find? (lacks (byName us)) with
      | some s => left; rw [orderC_some hf]; exact ⟨by simp, rfl⟩
      | none =>
        rw [orderC_none hf]
        have hlen : (sortS (nm us)).length = us.length := by rw [sortS_length]; simp [nm]
        have := runU_good (us := us) (dom := nm us) (fun s => Iff.rfl) (lacks_none hf fun s hs => mem_sortS.2 hs) us.length (sortS (nm us)) [] hlen (sortS_nodup hn) (by simpa [nm] using sortS_nodup hn) (fun s => by simp [nm, mem_sortS]) (Good.nil _) (fun u hu => by simp at hu)
        rcases this with h | h
        · exact Or.inl ⟨h.1, h.2.1⟩
        · exact Or.inr ⟨h.1, h.2.1, hn, h.2.2.1, h.2.2.2.1, h.2.2.2.2.1, by rw [h.2.2.2.2.2, hlen]; simp⟩

theorem byName_of_mem {us : List U} (hn : (nm us).Nodup) {u : U} (hu : u ∈ us) : byName us u.name = some u := by
  cases h : byName us u.name with
  | none => exact absurd (List.mem_map.2 ⟨u, hu, rfl⟩) (byName_none.1 h)
  | some x =>
    have hx := byName_some h
    obtain ⟨i, hi⟩ := List.getElem?_of_mem hu
    obtain ⟨j, hj⟩ := List.getElem?_of_mem hx.1
    obtain ⟨hil, hie⟩ := List.getElem?_eq_some_iff.1 hi
    obtain ⟨hjl, hje⟩ := List.getElem?_eq_some_iff.1 hj
    have h1 := List.nodup_iff_pairwise_ne.1 hn
    rw [List.pairwise_iff_getElem] at h1
    rcases Nat.lt_trichotomy i j with h2 | h2 | h2
    · have := h1 i j (by simp [nm]; omega) (by simp [nm]; omega) h2
      simp [nm] at this
      exact absurd (by rw [hie, hje]; exact hx.2.symm) this
    · subst h2; rw [hi] at hj; exact congrArg some (Option.some.inj hj).symm
    · have := h1 j i (by simp [nm]; omega) (by simp [nm]; omega) h2
      simp [nm] at this
      exact absurd (by rw [hie, hje]; exact hx.2) this

theorem byName_perm {us vs : List U} (hn : (nm us).Nodup) (hp : vs.Perm us) : byName vs = byName us := by
  have hn' : (nm vs).Nodup := (hp.map U.name).nodup_iff.2 hn
  funext s
  cases h : byName us s with
  | none => rw [byName_none] at h ⊢; exact fun hm => h ((hp.map U.name).mem_iff.1 hm)
  | some u =>
    have hu := byName_some h
    have := byName_of_mem hn' (hp.mem_iff.2 hu.1)
    rw [hu.2] at this
    exact this

/-- Turned round the units have the same order, or the same error, but for the name that stands twice. -/
theorem order_rev (us : List U) : (orderU us.reverse = orderU us) ∨ ((orderU us).2.2 = 10 ∧ (orderU us.reverse).2.2 = 10 ∧ (orderU us).1 = [] ∧ (orderU us.reverse).1 = []) := by
  have hp : us.reverse.Perm us := List.reverse_perm us
  by_cases hl : 24 < us.length
  · left; unfold orderU; rw [if_pos hl, if_pos (by simpa using hl)]
  · have e1 : orderU us = orderB us := by unfold orderU; rw [if_neg hl]
    have e2 : orderU us.reverse = orderB us.reverse := by unfold orderU; rw [if_neg (by simpa using hl)]
    rw [e1, e2]
    have hnn : (nm us.reverse).Nodup ↔ (nm us).Nodup := (hp.map U.name).nodup_iff
    cases ht : twiceU us with
    | some s =>
      right
      cases ht' : twiceU us.reverse with
      | some s' => rw [orderB_some ht, orderB_some ht']; exact ⟨rfl, rfl, rfl, rfl⟩
      | none =>
        have := hnn.1 (nodup_of_twice ht')
        rw [twiceU_none this] at ht
        cases ht
    | none =>
      left
      have hn := nodup_of_twice ht
      rw [orderB_none ht, orderB_none (twiceU_none (hnn.2 hn))]
      unfold orderC
      rw [sortS_congr (a := nm us.reverse) (b := nm us) (hp.map U.name), byName_perm hn hp, List.length_reverse]

/-! What the law asks of the answer. -/
theorem findI_self {xs : List U} (hn : (nm xs).Nodup) {i : Nat} {u : U} (hi : xs[i]? = some u) : findI xs u.name = i := by
  refine findI_some hi (eqs_true.2 rfl) (fun j x hj hx => eqs_false.2 fun e => ?_)
  obtain ⟨hil, hie⟩ := List.getElem?_eq_some_iff.1 hi
  obtain ⟨hjl, hje⟩ := List.getElem?_eq_some_iff.1 hx
  have h1 := List.nodup_iff_pairwise_ne.1 hn
  rw [List.pairwise_iff_getElem] at h1
  have := h1 j i (by simp [nm]; omega) (by simp [nm]; omega) hj
  simp [nm] at this
  exact this (by rw [hie, hje]; exact e)
theorem findI_ge {us : List U} {s : ByteArray} (h : s ∈ nm us) : 0 ≤ findI us s := by
  unfold findI
  cases hf : findU us s with
  | some k => simp
  | none =>
    unfold findU at hf
    rw [List.findIdx?_eq_none_iff] at hf
    obtain ⟨u, hu, rfl⟩ := List.mem_map.1 h
    have := hf u hu
    simp at this
theorem findI_lt {xs : List U} {s : ByteArray} {i : Nat} (h : s ∈ nm (xs.take i)) : 0 ≤ findI xs s ∧ findI xs s < i := by
  refine ⟨findI_ge ?_, ?_⟩
  · obtain ⟨u, hu, rfl⟩ := List.mem_map.1 h
    exact List.mem_map.2 ⟨u, List.mem_of_mem_take hu, rfl⟩
  · obtain ⟨u, hu, rfl⟩ := List.mem_map.1 h
    obtain ⟨j, hj⟩ := List.getElem?_of_mem hu
    have hjl := (List.getElem?_eq_some_iff.1 hj).1
    rw [List.getElem?_take] at hj
    split at hj
    · rename_i hji
      unfold findI
      cases hf : findU xs u.name with
      | none => simp; omega
      | some k =>
        unfold findU at hf
        rw [List.findIdx?_eq_some_iff_getElem] at hf
        obtain ⟨hkl, _, hk⟩ := hf
        simp only
        by_cases hkj : j < k
        · have := hk j hkj
          obtain ⟨hjl', hje⟩ := List.getElem?_eq_some_iff.1 hj
          rw [hje] at this
          simp at this
        · omega
    · cases hj
theorem findI_out {xs : List U} {s : ByteArray} (h : s ∉ nm xs) : findI xs s = -1 := by
  refine findI_none fun j x hx => eqs_false.2 fun e => h ?_
  exact List.mem_map.2 ⟨x, List.mem_of_getElem? hx, e⟩
end Go.Proofs.Ytlhlbckmifgeeaa
