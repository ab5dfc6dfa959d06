/- What stays, as the program keeps it: a map. -/
import Derived.Test.YtlhlbckmifgeeaaDiffT
import Derived.Test.YtlhlbckmifgeeaaDiffC
namespace Go.Proofs.Ytlhlbckmifgeeaa
open Go.RowKit

def bits (old fresh : List U) (k : Nat) : List Bool := (List.range k).map (bit0 old fresh)
theorem bits_get (old fresh : List U) (k i : Nat) : (bits old fresh k)[i]? = if i < k then some (bit0 old fresh i) else none := by
  unfold bits
  rw [List.getElem?_map]
  split
  · rename_i h; simp [h]
  · rename_i h; rw [List.getElem?_eq_none (by simp; omega)]; rfl
theorem bits_S0 (old fresh : List U) : refS fresh (bits old fresh fresh.length) = S0 old fresh :=
  (refS_start fun i hi => by rw [bits_get, if_pos hi]).1
theorem bits_zero (old fresh : List U) : FS (refS fresh (bits old fresh 0)) = fun _ => none := by
  funext s
  unfold FS refS
  cases findU fresh s <;> simp [bits]
theorem bits_no {old fresh : List U} {k : Nat} (h : bit0 old fresh k = false) : refS fresh (bits old fresh (k + 1)) = refS fresh (bits old fresh k) := by
  funext s
  cases hs : findU fresh s with
  | none => rw [refS_none hs, refS_none hs]
  | some i =>
    rw [refS_some hs, refS_some hs, bits_get, bits_get]
    by_cases e : i = k
    · subst e; simp [h]
    · by_cases hi : i < k
      · rw [if_pos hi, if_pos (by omega)]
      · rw [if_neg hi, if_neg (by omega)]
theorem bits_yes {old fresh : List U} {k : Nat} {u : U} (hu : fresh[k]? = some u) (h : bit0 old fresh k = true) : FS (refS fresh (bits old fresh (k + 1))) = updF (FS (refS fresh (bits old fresh k))) u.name (some (.bool true)) := by
  have hf := bit0_first hu h
  have hlt : k < k + 1 := Nat.lt_succ_self k
  funext s
  by_cases e : s = u.name
  · subst e
    rw [updF_same]
    unfold FS
    rw [refS_some hf, bits_get, if_pos hlt]
    simp [h]
  · rw [updF_other _ e]
    unfold FS
    cases hs : findU fresh s with
    | none => rw [refS_none hs, refS_none hs]
    | some i =>
      have hik : i ≠ k := by
        rintro rfl
        obtain ⟨u', hu', rfl⟩ := findU_name hs
        rw [hu] at hu'
        cases hu'
        exact e rfl
      rw [refS_some hs, refS_some hs, bits_get, bits_get]
      by_cases hi : i < k
      · have hi2 : i < k + 1 := by omega
        simp only [hi, hi2, if_true]
      · have hi2 : ¬ i < k + 1 := by omega
        simp only [hi, hi2, if_false]
theorem FS_del (S : NSet) (n : ByteArray) : FS (delS S n) = updF (FS S) n none := by
  funext s
  by_cases e : s = n
  · subst e; rw [updF_same]; simp [FS, delS]
  · rw [updF_other _ e]; simp [FS, delS, e]
theorem FS_some {S : NSet} {s : ByteArray} {v : Value} (h : FS S s = some v) : S s = true ∧ v = .bool true := by
  unfold FS at h
  cases hs : S s <;> simp [hs] at h
  exact ⟨rfl, h.symm⟩
def cntS (fresh : List U) (S : NSet) : Nat := fresh.countP fun u : U => S u.name
theorem cntS_del {fresh : List U} {S : NSet} {n : ByteArray} {i : Nat} (hn : S n = true) (hi : findU fresh n = some i) : cntS fresh (delS S n) + 1 ≤ cntS fresh S := by
  obtain ⟨u, hu, rfl⟩ := findU_name hi
  clear hi
  unfold cntS
  have key : ∀ l : List U, l.countP (fun x : U => delS S u.name x.name) ≤ l.countP (fun x : U => S x.name) := by
    intro l
    refine List.countP_mono_left fun x _ hx => ?_
    unfold delS at hx
    simp only [Bool.and_eq_true] at hx
    exact hx.1
  induction fresh generalizing i with
  | nil => simp at hu
  | cons x r ih =>
    cases i with
    | zero =>
      simp at hu
      subst hu
      rw [List.countP_cons_of_pos (p := fun u : U => S u.name) hn, List.countP_cons_of_neg (p := fun v : U => delS S x.name v.name) (by simp [delS])]
      have := key r
      omega
    | succ i =>
      have := ih (i := i) (by simpa using hu)
      rw [List.countP_cons, List.countP_cons]
      have h2 : delS S u.name x.name = true → S x.name = true := by
        intro h; unfold delS at h; simp only [Bool.and_eq_true] at h; exact h.1
      by_cases hd : delS S u.name x.name = true
      · rw [if_pos hd, if_pos (h2 hd)]; omega
      · rw [if_neg hd]
        split <;> omega
/-- A measure that is read off what is known alone. -/
theorem least_ex {α : Type} {R : α → Prop} (c : α → Nat) : ∀ (n : Nat) (S : α), c S = n → R S → ∃ T, R T ∧ ∀ T', R T' → c T ≤ c T' := by
  intro n
  induction n using Nat.strongRecOn with
  | ind n ih =>
    intro S hn hS
    by_cases h : ∃ T, R T ∧ c T < n
    · obtain ⟨T, h1, h2⟩ := h
      exact ih (c T) h2 T rfl h1
    · refine ⟨S, hS, fun T hT => ?_⟩
      rcases Nat.lt_or_ge (c T) (c S) with hlt | hge
      · exact absurd ⟨T, hT, hn ▸ hlt⟩ h
      · exact hge
theorem least_ex' {α : Type} {R : α → Prop} (c : α → Nat) (h : ∃ S, R S) : ∃ T, R T ∧ ∀ T', R T' → c T ≤ c T' := by
  obtain ⟨S, hS⟩ := h
  exact least_ex c _ S rfl hS
noncomputable def least {α : Type} (R : α → Prop) (c : α → Nat) : Nat := by
  classical
  exact if h : ∃ S, R S then c (Classical.choose (least_ex' c h)) else 0
theorem least_spec {α : Type} {R : α → Prop} (c : α → Nat) {S : α} (h : R S) : ∃ T, R T ∧ c T = least R c := by
  have hx : ∃ S, R S := ⟨S, h⟩
  unfold least
  rw [dif_pos hx]
  exact ⟨_, (Classical.choose_spec (least_ex' c hx)).1, rfl⟩
theorem least_le {α : Type} {R : α → Prop} (c : α → Nat) {S : α} (h : R S) : least R c ≤ c S := by
  have hx : ∃ S, R S := ⟨S, h⟩
  unfold least
  rw [dif_pos hx]
  exact (Classical.choose_spec (least_ex' c hx)).2 S h
end Go.Proofs.Ytlhlbckmifgeeaa
