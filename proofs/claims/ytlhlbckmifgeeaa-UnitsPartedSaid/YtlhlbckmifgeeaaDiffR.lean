/- What stays, as the document's answer keeps it: a row of bools. -/
import Derived.Test.YtlhlbckmifgeeaaDiffP
namespace Go.Proofs.Ytlhlbckmifgeeaa
open Go.RowKit

theorem name_of_toList {u : U} {s : ByteArray} (h : (u.name.toList == s.toList) = true) : u.name = s := eqs_true.1 h
theorem findU_name {us : List U} {s : ByteArray} {i : Nat} (h : findU us s = some i) : ∃ u, us[i]? = some u ∧ u.name = s := by
  unfold findU at h
  rw [List.findIdx?_eq_some_iff_getElem] at h
  obtain ⟨h1, h2, _⟩ := h
  exact ⟨us[i], List.getElem?_eq_getElem h1, name_of_toList h2⟩
theorem findU_self {us : List U} {u : U} {i : Nat} (h : us[i]? = some u) : ∃ j, j ≤ i ∧ findU us u.name = some j := by
  cases hf : findU us u.name with
  | none =>
    unfold findU at hf
    rw [List.findIdx?_eq_none_iff] at hf
    have := hf u (List.mem_of_getElem? h)
    simp at this
  | some j =>
    refine ⟨j, ?_, rfl⟩
    unfold findU at hf
    rw [List.findIdx?_eq_some_iff_getElem] at hf
    obtain ⟨h1, h2, h3⟩ := hf
    rcases Nat.lt_or_ge i j with hlt | hge
    · have := h3 i hlt
      obtain ⟨hi, hx⟩ := List.getElem?_eq_some_iff.1 h
      rw [hx] at this
      simp at this
    · exact hge
theorem findI_eq {us : List U} {s : ByteArray} {i : Nat} : findI us s = (i : Int) ↔ findU us s = some i := by
  unfold findI
  cases findU us s with
  | none => simp <;> omega
  | some k => simp <;> omega
theorem findU_inb {us : List U} {s : ByteArray} {i : Nat} (h : findU us s = some i) : i < us.length := by
  obtain ⟨u, hu, _⟩ := findU_name h
  exact (List.getElem?_eq_some_iff.1 hu).1
def refS (fresh : List U) (bs : List Bool) : NSet := fun s => match findU fresh s with | some i => bs[i]?.getD false | none => false
theorem refS_some {fresh : List U} {bs : List Bool} {s : ByteArray} {i : Nat} (h : findU fresh s = some i) : refS fresh bs s = bs[i]?.getD false := by unfold refS; rw [h]
theorem refS_none {fresh : List U} {bs : List Bool} {s : ByteArray} (h : findU fresh s = none) : refS fresh bs s = false := by unfold refS; rw [h]
theorem set_gone (bs : List Bool) (i : Nat) : (bs.set i false)[i]?.getD false = false := by
  rw [List.getElem?_set]
  simp only [if_true]
  split <;> rfl
/-- Only where a name stands first. -/
def FirstB (fresh : List U) (bs : List Bool) : Prop := ∀ i u, fresh[i]? = some u → bs[i]? = some true → findU fresh u.name = some i
theorem refS_del {fresh : List U} {bs : List Bool} {i : Nat} {u : U} (hu : fresh[i]? = some u) (hf : findU fresh u.name = some i) : refS fresh (bs.set i false) = delS (refS fresh bs) u.name := by
  funext s
  unfold delS
  cases hs : findU fresh s with
  | none => rw [refS_none hs, refS_none hs]; rfl
  | some j =>
    rw [refS_some hs, refS_some hs]
    by_cases hj : j = i
    · subst hj
      obtain ⟨u', hu', rfl⟩ := findU_name hs
      rw [hu] at hu'
      cases hu'
      rw [set_gone]
      simp
    · have hne : s ≠ u.name := by
        rintro rfl
        rw [hs] at hf
        exact hj (Option.some.inj hf)
      rw [List.getElem?_set_ne (fun e => hj e.symm)]
      simp [hne]
theorem first_del {fresh : List U} {bs : List Bool} (h : FirstB fresh bs) (i : Nat) : FirstB fresh (bs.set i false) := by
  intro j u hu hb
  by_cases hj : j = i
  · subst hj
    rw [List.getElem?_set] at hb
    split at hb
    · split at hb <;> simp at hb
    · exact h j u hu hb
  · rw [List.getElem?_set_ne (fun e => hj e.symm)] at hb
    exact h j u hu hb
/-- The first row of bools. -/
def bit0 (old fresh : List U) (i : Nat) : Bool :=
  match fresh[i]? with
  | some u => (match findU fresh u.name, findU old u.name with
    | some j, some k => decide (j = i) && (match old[k]? with | some x => sameU x u | none => false)
    | _, _ => false)
  | none => false
theorem bit0_first {old fresh : List U} {i : Nat} {u : U} (hu : fresh[i]? = some u) (h : bit0 old fresh i = true) : findU fresh u.name = some i := by
  unfold bit0 at h
  rw [hu] at h
  simp only at h
  split at h
  · rename_i j k h1 h2
    simp only [Bool.and_eq_true, decide_eq_true_eq] at h
    rw [h1, h.1]
  · cases h
theorem refS_start {old fresh : List U} {bs : List Bool} (h : ∀ i, i < fresh.length → bs[i]? = some (bit0 old fresh i)) : refS fresh bs = S0 old fresh ∧ FirstB fresh bs := by
  constructor
  · funext s
    cases hs : findU fresh s with
    | none =>
      rw [refS_none hs]
      unfold S0
      rw [hs]
    | some i =>
      obtain ⟨u, hu, rfl⟩ := findU_name hs
      have hi := findU_inb hs
      rw [refS_some hs, h i hi]
      simp only [Option.getD_some]
      unfold bit0 S0
      rw [hu]
      simp only
      rw [hs]
      cases findU old u.name with
      | none => rfl
      | some k =>
        simp only
        rw [hu]
        cases old[k]? <;> simp
  · intro i u hu hb
    have hi := (List.getElem?_eq_some_iff.1 hu).1
    rw [h i hi] at hb
    exact bit0_first hu (Option.some.inj hb)
/-- What the answer asks of a name that is required. -/
theorem refGone (old fresh : List U) (bs : List Bool) (r : ByteArray) :
    goneB old fresh (refS fresh bs) r = ((decide (0 ≤ findI fresh r) || decide (0 ≤ findI old r)) && (decide (findI fresh r < 0) || !(bs[(findI fresh r).toNat]?.getD false))) := by
  unfold goneB inU findI
  cases hf : findU fresh r with
  | none =>
    rw [refS_none hf]
    cases findU old r with
    | none => rfl
    | some k => simp
  | some i =>
    rw [refS_some hf]
    have h1 : decide ((0 : Int) ≤ ((i : Nat) : Int)) = true := decide_eq_true (by omega)
    have h2 : decide (((i : Nat) : Int) < 0) = false := decide_eq_false (by omega)
    simp only [h1, h2, Bool.true_or, Bool.true_and, Bool.false_or, Int.toNat_natCast, Option.isSome_some, Bool.or_true, Bool.and_true]
/-- None that stays requires what is gone. -/
theorem refS_closed {old fresh : List U} {bs : List Bool} (h : ∀ (i : Nat) (u : U), fresh[i]? = some u → bs[i]? = some true → u.req.any (goneB old fresh (refS fresh bs)) = false) : Closed old fresh (refS fresh bs) := by
  intro n hn
  unfold badB
  cases hf : findU fresh n with
  | none => rfl
  | some i =>
    rw [refS_some hf] at hn
    obtain ⟨u, hu, _⟩ := findU_name hf
    simp only
    rw [hu]
    simp only
    refine h i u hu ?_
    cases hb : bs[i]? with
    | none => rw [hb] at hn; cases hn
    | some b => rw [hb] at hn; simp at hn; rw [hn]
theorem refBad {old fresh : List U} {bs : List Bool} {i : Nat} {u : U} {r : ByteArray} (hu : fresh[i]? = some u) (hf : findU fresh u.name = some i) (hr : r ∈ u.req) (hg : goneB old fresh (refS fresh bs) r = true) : badB old fresh (refS fresh bs) u.name = true := by
  unfold badB
  rw [hf]
  simp only
  rw [hu]
  simp only
  rw [List.any_eq_true]
  exact ⟨r, hr, hg⟩
def cntB (bs : List Bool) : Nat := bs.countP id
theorem cntB_del {bs : List Bool} {i : Nat} (h : bs[i]? = some true) : cntB (bs.set i false) < cntB bs := by
  obtain ⟨hi, hx⟩ := List.getElem?_eq_some_iff.1 h
  unfold cntB
  induction bs generalizing i with
  | nil => simp at hi
  | cons b r ih =>
    cases i with
    | zero =>
      simp at hx
      subst hx
      simp
    | succ i =>
      have h' : r[i]? = some true := by simpa using h
      have := ih h' (by simpa using hi) (by simpa using hx)
      simp only [List.set_cons_succ, List.countP_cons]
      omega
end Go.Proofs.Ytlhlbckmifgeeaa
