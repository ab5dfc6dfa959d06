/- What stops, stays and starts makes whole lists. -/
import Derived.Test.YtlhlbckmifgeeaaDiffT
import Derived.Test.YtlhlbckmifgeeaaWaitP
import Derived.Test.YtlhlbckmifgeeaaDiffC
namespace Go.Proofs.Ytlhlbckmifgeeaa
open Go.RowKit

theorem order_ok {us : List U} (h : (orderU us).2.2 = 0) : (orderU us).2.1 = ⟨#[]⟩ ∧ us.length ≤ 24 ∧ (nm us).Nodup ∧ ∀ u, u ∈ us → ∀ r, r ∈ u.req → r ∈ nm us := by
  have hs := order_spec us
  rcases hs with hs | hs
  · exact absurd h hs.1
  · refine ⟨hs.2.1, ?_, hs.2.2.1, ?_⟩
    · rcases Nat.lt_or_ge 24 us.length with hl | hl
      · exfalso
        unfold orderU at h
        rw [if_pos hl] at h
        simp at h
      · exact hl
    · intro u hu r hr
      have hl : ¬ 24 < us.length := by
        intro hl
        unfold orderU at h
        rw [if_pos hl] at h
        simp at h
      have e1 : orderU us = orderB us := by unfold orderU; rw [if_neg hl]
      rw [e1] at h
      cases ht : twiceU us with
      | some s => rw [orderB_some ht] at h; simp at h
      | none =>
        rw [orderB_none ht] at h
        cases hf : (sortS (nm us)).find? (lacks (byName us)) with
        | some s => rw [orderC_some hf] at h; simp at h
        | none =>
          rw [List.find?_eq_none] at hf
          have h1 := hf u.name (mem_sortS.2 (List.mem_map.2 ⟨u, hu, rfl⟩))
          unfold lacks at h1
          rw [byName_of_mem hs.2.2.1 hu] at h1
          simp only [Bool.not_eq_true] at h1
          rw [List.any_eq_false] at h1
          have h2 := h1 r hr
          rw [byName_isSome] at h2
          simpa using h2
theorem first_nodup {us : List U} (hn : (nm us).Nodup) {i : Nat} {u : U} (hu : us[i]? = some u) : findU us u.name = some i := by
  obtain ⟨j, hj, hf⟩ := findU_self hu
  obtain ⟨u', hu', he⟩ := findU_name hf
  rw [hf]
  congr 1
  have h1 : (nm us)[i]? = some u.name := by simp [nm, hu]
  have h2 : (nm us)[j]? = some u.name := by simp [nm, hu', he]
  exact (List.getElem?_inj (List.getElem?_eq_some_iff.1 h2).1 hn).1 (by rw [h1, h2])
theorem inU_nm (us : List U) (s : ByteArray) : inU us s = true ↔ s ∈ nm us := by
  rw [← findI_in, decide_eq_true_eq]
  constructor
  · intro h
    rcases findI_cases us s with h1 | ⟨i, h1⟩
    · omega
    · obtain ⟨u, hu, rfl⟩ := findU_name (findI_eq.1 h1)
      exact List.mem_map.2 ⟨u, List.mem_of_getElem? hu, rfl⟩
  · intro h
    obtain ⟨u, hu, rfl⟩ := List.mem_map.1 h
    obtain ⟨i, hi⟩ := List.getElem?_of_mem hu
    obtain ⟨j, _, hf⟩ := findU_self hi
    have := findI_eq.2 hf
    omega
theorem nm_take {us : List U} {i : Nat} {u : U} (hu : us[i]? = some u) : nm (us.take (i + 1)) = nm (us.take i) ++ [u.name] := by
  have : us.take (i + 1) = us.take i ++ [u] := by
    rw [List.take_add_one, hu]; rfl
  rw [this]; simp [nm]
theorem keepP_filter {fresh : List U} (hn : (nm fresh).Nodup) (S : NSet) : ∀ i, i ≤ fresh.length → keepP fresh S i = (nm (fresh.take i)).filter (fun s => S s) := by
  intro i
  induction i with
  | zero => intro _; simp [keepP, nm]
  | succ i ih =>
    intro hi
    obtain ⟨u, hu⟩ := get_lt fresh (k := i) (by omega)
    have hf := findI_eq.2 (first_nodup hn hu)
    rw [keepP_succ hu, ih (by omega), nm_take hu, List.filter_append]
    congr 1
    cases hS : S u.name <;> simp [hf, hS]
theorem startP_filter {fresh : List U} (hn : (nm fresh).Nodup) (S : NSet) : ∀ i, i ≤ fresh.length → startP fresh S i = (nm (fresh.take i)).filter (fun s => !S s) := by
  intro i
  induction i with
  | zero => intro _; simp [startP, nm]
  | succ i ih =>
    intro hi
    obtain ⟨u, hu⟩ := get_lt fresh (k := i) (by omega)
    have hf := findI_eq.2 (first_nodup hn hu)
    rw [startP_succ hu, ih (by omega), nm_take hu, List.filter_append]
    congr 1
    cases hS : S u.name <;> simp [hf, hS]
theorem stopP_filter {old : List U} (hn : (nm old).Nodup) (S : NSet) : ∀ i, i ≤ old.length → stopP old S i = ((nm (old.take i)).filter (fun s => !S s)).reverse := by
  intro i
  induction i with
  | zero => intro _; simp [stopP, nm]
  | succ i ih =>
    intro hi
    obtain ⟨u, hu⟩ := get_lt old (k := i) (by omega)
    have hf := findI_eq.2 (first_nodup hn hu)
    rw [stopP_succ hu, ih (by omega), nm_take hu, List.filter_append, List.reverse_append]
    congr 1
    cases hS : S u.name <;> simp [hf, hS]
theorem keepP_all {fresh : List U} (hn : (nm fresh).Nodup) (S : NSet) : keepP fresh S fresh.length = (nm fresh).filter (fun s => S s) := by
  rw [keepP_filter hn S _ (Nat.le_refl _), List.take_length]
theorem startP_all {fresh : List U} (hn : (nm fresh).Nodup) (S : NSet) : startP fresh S fresh.length = (nm fresh).filter (fun s => !S s) := by
  rw [startP_filter hn S _ (Nat.le_refl _), List.take_length]
theorem stopP_all {old : List U} (hn : (nm old).Nodup) (S : NSet) : stopP old S old.length = ((nm old).filter (fun s => !S s)).reverse := by
  rw [stopP_filter hn S _ (Nat.le_refl _), List.take_length]
theorem filter_both (l : List ByteArray) (S : NSet) : (l.filter (fun s => S s)).length + (l.filter (fun s => !S s)).length = l.length := by
  induction l with
  | nil => rfl
  | cons a r ih => cases hS : S a <;> simp only [List.filter_cons, hS, List.length_cons, Bool.not_true, Bool.not_false, if_true, if_false, Bool.false_eq_true] <;> omega
theorem part_new {fresh : List U} (hn : (nm fresh).Nodup) (S : NSet) : (keepP fresh S fresh.length).length + (startP fresh S fresh.length).length = fresh.length := by
  rw [keepP_all hn, startP_all hn, filter_both]
  simp [nm]
theorem mid_in {old fresh : List U} {S : NSet} (hM : Mid old fresh S) {s : ByteArray} (h : S s = true) : s ∈ nm old ∧ s ∈ nm fresh := by
  obtain ⟨i, k, u, x, h1, h2, _⟩ := S0_in (hM.sub s h)
  have a : inU old s = true := by unfold inU; rw [h2]; rfl
  have b : inU fresh s = true := by unfold inU; rw [h1]; rfl
  exact ⟨(inU_nm _ _).1 a, (inU_nm _ _).1 b⟩
theorem part_old {old fresh : List U} (hn : (nm old).Nodup) (hm : (nm fresh).Nodup) {S : NSet} (hM : Mid old fresh S) : (stopP old S old.length).length + (keepP fresh S fresh.length).length = old.length := by
  rw [stopP_all hn, keepP_all hm, List.length_reverse]
  have hp : ((nm fresh).filter (fun s => S s)).Perm ((nm old).filter (fun s => S s)) :=
    (List.perm_ext_iff_of_nodup (hm.filter _) (hn.filter _)).2 fun s => by
      simp only [List.mem_filter]
      exact ⟨fun h => ⟨(mid_in hM h.2).1, h.2⟩, fun h => ⟨(mid_in hM h.2).2, h.2⟩⟩
  rw [hp.length_eq, Nat.add_comm, filter_both]
  simp [nm]
/-- What is kept, and what it requires. -/
theorem keep_at {old fresh : List U} (hm : (nm fresh).Nodup) {S : NSet} (hM : Mid old fresh S) {s : ByteArray} (h : s ∈ keepP fresh S fresh.length) :
    ∃ i k u x, findI fresh s = ((i : Nat) : Int) ∧ findI old s = ((k : Nat) : Int) ∧ fresh[i]? = some u ∧ old[k]? = some x ∧ sameU x u = true ∧ S s = true := by
  rw [keepP_all hm, List.mem_filter] at h
  obtain ⟨i, k, u, x, h1, h2, h3, h4, h5⟩ := S0_in (hM.sub s h.2)
  exact ⟨i, k, u, x, findI_eq.2 h1, findI_eq.2 h2, h3, h4, h5, h.2⟩
theorem keep_req {old fresh : List U} (hm : (nm fresh).Nodup) (hreq : ∀ u, u ∈ fresh → ∀ r, r ∈ u.req → r ∈ nm fresh) {S : NSet} (hC : Closed old fresh S) {s : ByteArray} {i : Nat} {u : U} (hs : S s = true) (hi : findI fresh s = (i : Int)) (hu : fresh[i]? = some u) {r : ByteArray} (hr : r ∈ u.req) : r ∈ keepP fresh S fresh.length := by
  have hb := hC s hs
  rw [badB_at (findI_eq.1 hi) hu, List.any_eq_false] at hb
  have hg := hb r hr
  have hin := hreq u (List.mem_of_getElem? hu) r hr
  rw [keepP_all hm, List.mem_filter]
  refine ⟨hin, ?_⟩
  unfold goneB at hg
  rw [(inU_nm fresh r).2 hin] at hg
  simpa using hg
/-- Of a list with itself all stays. -/
theorem self_all {us : List U} {S : NSet} (hM : Mid us us S) {s : ByteArray} (h : s ∈ nm us) : S s = true := by
  have h0 : ∀ s, s ∈ nm us → S0 us us s = true := by
    intro s hs
    have := (inU_nm us s).2 hs
    unfold inU at this
    obtain ⟨i, hi⟩ := Option.isSome_iff_exists.1 this
    obtain ⟨u, hu, _⟩ := findU_name hi
    unfold S0
    rw [hi]
    simp only
    rw [hu]
    simp [sameU]
  refine hM.big (S0 us us) (fun _ h => h) ?_ s (h0 s h)
  intro n _
  cases hf : findU us n with
  | none => unfold badB; rw [hf]
  | some i =>
    obtain ⟨u, hu, _⟩ := findU_name hf
    rw [badB_at hf hu, List.any_eq_false]
    intro r _
    unfold goneB
    cases hr : inU us r with
    | false => simp
    | true => rw [h0 r ((inU_nm us r).1 hr)]; simp
theorem self_stop {us : List U} (hn : (nm us).Nodup) {S : NSet} (hM : Mid us us S) : stopP us S us.length = [] := by
  rw [stopP_all hn]
  have : (nm us).filter (fun s => !S s) = [] := List.filter_eq_nil_iff.2 fun s hs => by rw [self_all hM hs]; simp
  rw [this]; rfl
theorem self_start {us : List U} (hn : (nm us).Nodup) {S : NSet} (hM : Mid us us S) : startP us S us.length = [] := by
  rw [startP_all hn]
  exact List.filter_eq_nil_iff.2 fun s hs => by rw [self_all hM hs]; simp
theorem self_keep {us : List U} (hn : (nm us).Nodup) {S : NSet} (hM : Mid us us S) : (keepP us S us.length).length = us.length := by
  rw [keepP_all hn, List.filter_eq_self.2 fun s hs => self_all hM hs]
  simp [nm]
end Go.Proofs.Ytlhlbckmifgeeaa
