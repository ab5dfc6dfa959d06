/- The reference's order of units, reckoned: the least of the names that are ready, index by index, is the first that is ready in the sorted names. -/
import Derived.Test.YtlhlbckmifgeeaaWaitP
import Derived.Test.YtlhlbckmifgeeaaWaits
import Derived.Sort.Walk0
namespace Go.Proofs.Ytlhlbckmifgeeaa
open Go.RowKit

def nmAt (us : List U) (i : Nat) : ByteArray := match us[i]? with | some u => u.name | none => ⟨#[]⟩
theorem nmAt_eq {us : List U} {i : Nat} {u : U} (h : us[i]? = some u) : nmAt us i = u.name := by unfold nmAt; rw [h]
def ltS (a b : ByteArray) : Bool := Op.bytesLess a.toList b.toList
theorem ltS_eq (a b : ByteArray) : ltS a b = decide (a.data.toList < b.data.toList) := by
  unfold ltS
  rw [bytesLess_eq, Lib.toList_data, Lib.toList_data]
theorem ltS_irrefl (a : ByteArray) : ltS a a = false := by
  rw [ltS_eq, decide_eq_false_iff_not]
  exact List.lt_irrefl _
theorem ltS_trans {a b c : ByteArray} (h1 : ltS a b = true) (h2 : ltS b c = true) : ltS a c = true := by
  rw [ltS_eq, decide_eq_true_eq] at *
  exact List.lt_trans h1 h2
/-- not below: at least. -/
theorem ltS_le {a b : ByteArray} (h : ltS a b = false) : b.data.toList ≤ a.data.toList := by
  rw [ltS_eq, decide_eq_false_iff_not] at h
  exact List.not_lt.1 h
theorem ltS_of_le {a b : ByteArray} (h : b.data.toList ≤ a.data.toList) : ltS a b = false := by
  rw [ltS_eq, decide_eq_false_iff_not]
  exact List.not_lt.2 h
theorem ltS_step {a b c : ByteArray} (h1 : ltS a b = true) (h2 : ltS c b = false) : ltS c a = false := by
  cases h : ltS c a with
  | false => rfl
  | true => rw [ltS_trans h h1] at h2; cases h2

/-- m is the place of the least name among those of the first k of which p holds; -1: there is none. -/
def MinTo (us : List U) (p : Nat → Bool) (k : Nat) (m : Int) : Prop :=
  (m = -1 ∧ ∀ j, j < k → p j = false) ∨ ∃ i : Nat, m = i ∧ i < k ∧ p i = true ∧ ∀ j, j < k → p j = true → ltS (nmAt us j) (nmAt us i) = false
section
variable {us : List U} {p : Nat → Bool} {k : Nat} {m : Int}
theorem MinTo.zero (us : List U) (p : Nat → Bool) : MinTo us p 0 (-1) := Or.inl ⟨rfl, fun _ h => absurd h (Nat.not_lt_zero _)⟩
theorem MinTo.skip (h : MinTo us p k m) (hp : p k = false) : MinTo us p (k + 1) m := by
  rcases h with ⟨h1, h2⟩ | ⟨i, h1, h2, h3, h4⟩
  · refine Or.inl ⟨h1, fun j hj => ?_⟩
    by_cases e : j = k
    · subst e; exact hp
    · exact h2 j (by omega)
  · refine Or.inr ⟨i, h1, by omega, h3, fun j hj hpj => ?_⟩
    by_cases e : j = k
    · subst e; rw [hp] at hpj; cases hpj
    · exact h4 j (by omega) hpj
theorem MinTo.keep (h : MinTo us p k m) {i : Nat} (hm : m = i) (hlt : ltS (nmAt us k) (nmAt us i) = false) : MinTo us p (k + 1) m := by
  rcases h with ⟨h1, h2⟩ | ⟨i', h1, h2, h3, h4⟩
  · omega
  · obtain rfl : i' = i := by omega
    refine Or.inr ⟨i', h1, by omega, h3, fun j hj hpj => ?_⟩
    by_cases e : j = k
    · subst e; exact hlt
    · exact h4 j (by omega) hpj
theorem MinTo.first (h : MinTo us p k m) (hm : m < 0) (hp : p k = true) : MinTo us p (k + 1) k := by
  rcases h with ⟨h1, h2⟩ | ⟨i', h1, h2, h3, h4⟩
  · refine Or.inr ⟨k, rfl, by omega, hp, fun j hj hpj => ?_⟩
    by_cases e : j = k
    · subst e; exact ltS_irrefl _
    · rw [h2 j (by omega)] at hpj; cases hpj
  · omega
theorem MinTo.less (h : MinTo us p k m) {i : Nat} (hm : m = i) (hp : p k = true) (hlt : ltS (nmAt us k) (nmAt us i) = true) : MinTo us p (k + 1) k := by
  rcases h with ⟨h1, h2⟩ | ⟨i', h1, h2, h3, h4⟩
  · omega
  · obtain rfl : i' = i := by omega
    refine Or.inr ⟨k, rfl, by omega, hp, fun j hj hpj => ?_⟩
    by_cases e : j = k
    · subst e; exact ltS_irrefl _
    · exact ltS_step hlt (h4 j (by omega) hpj)
theorem MinTo.cases (h : MinTo us p k m) : m = -1 ∨ ∃ i : Nat, m = i ∧ i < k ∧ p i = true := by
  rcases h with ⟨h1, _⟩ | ⟨i, h1, h2, h3, _⟩
  · exact Or.inl h1
  · exact Or.inr ⟨i, h1, h2, h3⟩
end

/-! The first look: does a name stand twice? -/
theorem findI_first {us : List U} {k : Nat} {u : U} (hk : us[k]? = some u) : (findI us u.name = k ∧ u.name ∉ nm (us.take k)) ∨ ((findI us u.name != k) = true ∧ u.name ∈ nm (us.take k)) := by
  by_cases hm : u.name ∈ nm (us.take k)
  · refine Or.inr ⟨?_, hm⟩
    have := findI_lt hm
    rw [bne_iff_ne]
    omega
  · refine Or.inl ⟨findI_some hk (eqs_true.2 rfl) (fun j x hj hx => ?_), hm⟩
    rw [eqs_false]
    intro e
    apply hm
    rw [← e]
    exact List.mem_map.2 ⟨x, List.mem_of_getElem? (i := j) (by rw [List.getElem?_take, if_pos hj]; exact hx), rfl⟩

/-! The second look: the least name of one that lacks something. -/
def lacksAt (us : List U) (i : Nat) : Bool := match us[i]? with | some u => u.req.any fun r => !(byName us r).isSome | none => false
def NoLack (us : List U) (u : U) (kk : Nat) : Prop := ∀ (j : Nat) (r : ByteArray), j < kk → u.req[j]? = some r → (byName us r).isSome = true
theorem findI_isSome (us : List U) (s : ByteArray) : (findI us s = -1 ∧ (byName us s).isSome = false) ∨ ∃ i : Nat, findI us s = i ∧ (byName us s).isSome = true := by
  rw [byName_isSome]
  by_cases h : s ∈ nm us
  · have := findI_ge h
    exact Or.inr ⟨(findI us s).toNat, by omega, by simpa using h⟩
  · exact Or.inl ⟨findI_out h, by simpa using h⟩
/-- What holds within the second look. -/
def BadIn (us : List U) (u : U) (i kk : Nat) (m : Int) : Prop := (NoLack us u kk ∧ MinTo us (lacksAt us) i m) ∨ (lacksAt us i = true ∧ MinTo us (lacksAt us) (i + 1) m)
section
variable {us : List U} {u : U} {i kk : Nat} {m : Int}
theorem BadIn.zero (h : MinTo us (lacksAt us) i m) : BadIn us u i 0 m := Or.inl ⟨fun _ _ hj => absurd hj (Nat.not_lt_zero _), h⟩
theorem BadIn.there (h : BadIn us u i kk m) {r : ByteArray} (hr : u.req[kk]? = some r) (hs : (byName us r).isSome = true) : BadIn us u i (kk + 1) m := by
  rcases h with ⟨h1, h2⟩ | h
  · refine Or.inl ⟨fun j x hj hx => ?_, h2⟩
    by_cases e : j = kk
    · subst e; rw [hr] at hx; cases hx; exact hs
    · exact h1 j x (by omega) hx
  · exact Or.inr h
theorem lacksAt_of (hu : us[i]? = some u) {r : ByteArray} (hr : u.req[kk]? = some r) (hs : (byName us r).isSome = false) : lacksAt us i = true := by
  unfold lacksAt
  rw [hu]
  simp only [List.any_eq_true]
  exact ⟨r, List.mem_of_getElem? hr, by rw [hs]; rfl⟩
theorem BadIn.first (h : BadIn us u i kk m) (hu : us[i]? = some u) {r : ByteArray} (hr : u.req[kk]? = some r) (hs : (byName us r).isSome = false) (hm : m < 0) : BadIn us u i (kk + 1) i := by
  rcases h with ⟨h1, h2⟩ | ⟨h1, h2⟩
  · exact Or.inr ⟨lacksAt_of hu hr hs, h2.first hm (lacksAt_of hu hr hs)⟩
  · rcases h2 with ⟨h3, h4⟩ | ⟨i', h3, _⟩
    · rw [h4 i (by omega)] at h1; cases h1
    · omega
theorem BadIn.less (h : BadIn us u i kk m) (hu : us[i]? = some u) {r : ByteArray} (hr : u.req[kk]? = some r) (hs : (byName us r).isSome = false) {b : Nat} (hm : m = b) (hlt : ltS (nmAt us i) (nmAt us b) = true) : BadIn us u i (kk + 1) i := by
  rcases h with ⟨h1, h2⟩ | ⟨h1, h2⟩
  · exact Or.inr ⟨lacksAt_of hu hr hs, h2.less hm (lacksAt_of hu hr hs) hlt⟩
  · rcases h2 with ⟨h3, h4⟩ | ⟨i', h3, h4, h5, h6⟩
    · omega
    · obtain rfl : i' = b := by omega
      rw [h6 i (by omega) h1] at hlt; cases hlt
theorem BadIn.keep (h : BadIn us u i kk m) (hu : us[i]? = some u) {r : ByteArray} (hr : u.req[kk]? = some r) (hs : (byName us r).isSome = false) {b : Nat} (hm : m = b) (hlt : ltS (nmAt us i) (nmAt us b) = false) : BadIn us u i (kk + 1) m := by
  rcases h with ⟨h1, h2⟩ | h
  · exact Or.inr ⟨lacksAt_of hu hr hs, h2.keep hm hlt⟩
  · exact Or.inr h
theorem BadIn.done (h : BadIn us u i kk m) (hu : us[i]? = some u) (hk : u.req.length ≤ kk) : MinTo us (lacksAt us) (i + 1) m := by
  rcases h with ⟨h1, h2⟩ | ⟨_, h⟩
  · refine h2.skip ?_
    unfold lacksAt
    rw [hu]
    simp only [List.any_eq_false]
    intro r hr
    obtain ⟨j, hj⟩ := List.getElem?_of_mem hr
    rw [h1 j r (by have := (List.getElem?_eq_some_iff.1 hj).1; omega) hj]
    simp
  · exact h
theorem BadIn.cases (h : BadIn us u i kk m) : m = -1 ∨ ∃ b : Nat, m = b ∧ b ≤ i := by
  rcases h with ⟨_, h⟩ | ⟨_, h⟩
  · rcases h.cases with h | ⟨b, h1, h2, _⟩
    · exact Or.inl h
    · exact Or.inr ⟨b, h1, by omega⟩
  · rcases h.cases with h | ⟨b, h1, h2, _⟩
    · exact Or.inl h
    · exact Or.inr ⟨b, h1, by omega⟩
end

/-- Sorted, of a list of strings. -/
def Sorted (ns : List ByteArray) : Prop := (bytesOf ns).Pairwise (fun x y => decide (x ≤ y) = true)
theorem Sorted.erase {ns : List ByteArray} (h : Sorted ns) (i : Nat) : Sorted (ns.eraseIdx i) := by
  unfold Sorted bytesOf at *
  exact h.sublist ((List.eraseIdx_sublist ns i).map _)
theorem Sorted.le {ns : List ByteArray} (h : Sorted ns) {i j : Nat} {a b : ByteArray} (hi : ns[i]? = some a) (hj : ns[j]? = some b) (hij : i ≤ j) : a.data.toList ≤ b.data.toList := by
  by_cases e : i = j
  · subst e; rw [hi] at hj; cases hj; exact List.le_refl _
  · unfold Sorted at h
    rw [List.pairwise_iff_getElem] at h
    obtain ⟨hi1, hi2⟩ := List.getElem?_eq_some_iff.1 hi
    obtain ⟨hj1, hj2⟩ := List.getElem?_eq_some_iff.1 hj
    have := h i j (by simpa [bytesOf] using hi1) (by simpa [bytesOf] using hj1) (by omega)
    simp only [bytesOf, List.getElem_map, hi2, hj2] at this
    simpa using this

/-- The names that are left, as the two sides have them. -/
def St (us : List U) (left : List Bool) (ns : List ByteArray) : Prop :=
  left.length = us.length ∧ ns.Nodup ∧ Sorted ns ∧ ∀ s, s ∈ ns ↔ ∃ (i : Nat) (u : U), left[i]? = some true ∧ us[i]? = some u ∧ u.name = s

theorem first_of_min {us : List U} {left : List Bool} {ns : List ByteArray} (hS : St us left ns) {P : ByteArray → Bool} {p : Nat → Bool}
    (hp : ∀ i, i < us.length → p i = ((left.getD i false) && P (nmAt us i))) {m : Int} (h : MinTo us p us.length m) :
    (m = -1 ∧ idxP P ns = -1) ∨ ∃ (i k : Nat) (u : U), m = i ∧ us[i]? = some u ∧ idxP P ns = k ∧ ns[k]? = some u.name ∧ left[i]? = some true := by
  obtain ⟨hl, hnd, hsrt, hmem⟩ := hS
  rcases h with ⟨h1, h2⟩ | ⟨i, h1, h2, h3, h4⟩
  · refine Or.inl ⟨h1, idxP_none fun j x hx => ?_⟩
    obtain ⟨a, u, ha, hu, rfl⟩ := (hmem x).1 (List.mem_of_getElem? hx)
    have hal := (List.getElem?_eq_some_iff.1 hu).1
    have := h2 a hal
    rw [hp a hal, nmAt_eq hu] at this
    simpa [List.getD, ha] using this
  · obtain ⟨u, hu⟩ := get_lt us h2
    rw [hp i h2, nmAt_eq hu, Bool.and_eq_true] at h3
    have hli : left[i]? = some true := by
      have h30 := h3.1
      rw [List.getD_eq_getElem?_getD] at h30
      cases hx : left[i]? with
      | none => rw [hx] at h30; cases h30
      | some b => rw [hx] at h30; simp at h30; rw [h30]
    have hin : u.name ∈ ns := (hmem _).2 ⟨i, u, hli, hu, rfl⟩
    refine Or.inr ⟨i, ?_⟩
    rcases idxP_cases P ns with hc | ⟨k, s, hk, hs, hkl, hPs⟩
    · exfalso
      unfold idxP at hc
      cases hf : ns.findIdx? P with
      | none =>
        rw [List.findIdx?_eq_none_iff] at hf
        rw [hf _ hin] at h3
        cases h3.2
      | some k => rw [hf] at hc; simp at hc
    · refine ⟨k, u, h1, hu, hk, ?_, hli⟩
      rw [hs]
      -- s is the least
      obtain ⟨a, v, ha, hv, hvs⟩ := (hmem s).1 (List.mem_of_getElem? hs)
      have hal := (List.getElem?_eq_some_iff.1 hv).1
      have hpa : p a = true := by rw [hp a hal, nmAt_eq hv, hvs, hPs]; simp [List.getD, ha]
      have h5 := h4 a hal hpa
      rw [nmAt_eq hv, nmAt_eq hu, hvs] at h5
      have h6 := ltS_le h5
      obtain ⟨j, hj⟩ := List.getElem?_of_mem hin
      have hjk : k ≤ j := by
        rcases Nat.lt_or_ge j k with hlt | hge
        · exfalso
          unfold idxP at hk
          cases hf : ns.findIdx? P with
          | none => rw [hf] at hk; simp at hk
          | some k' =>
            rw [hf] at hk
            simp at hk
            obtain rfl : k' = k := by omega
            rw [List.findIdx?_eq_some_iff_getElem] at hf
            obtain ⟨_, _, hb⟩ := hf
            have := hb j hlt
            obtain ⟨hj1, hj2⟩ := List.getElem?_eq_some_iff.1 hj
            rw [hj2, h3.2] at this
            simp at this
        · exact hge
      have h7 := hsrt.le hs hj hjk
      have h8 := List.le_antisymm h7 h6
      have : s = u.name := by
        cases s with | mk a => cases hn : u.name with | mk b => rw [hn] at h8; congr 1; exact Array.toList_inj.1 h8
      rw [this]

theorem St.start {us : List U} (hn : (nm us).Nodup) : St us (List.replicate us.length true) (sortS (nm us)) := by
  refine ⟨by simp, sortS_nodup hn, sortS_sorted _, fun s => ?_⟩
  rw [mem_sortS]
  unfold nm
  rw [List.mem_map]
  constructor
  · rintro ⟨u, hu, rfl⟩
    obtain ⟨i, hi⟩ := List.getElem?_of_mem hu
    have := (List.getElem?_eq_some_iff.1 hi).1
    exact ⟨i, u, by rw [List.getElem?_replicate, if_pos this], hi, rfl⟩
  · rintro ⟨i, u, _, hu, rfl⟩
    exact ⟨u, List.mem_of_getElem? hu, rfl⟩
theorem nodup_at {us : List U} (hn : (nm us).Nodup) {i j : Nat} {u v : U} (hi : us[i]? = some u) (hj : us[j]? = some v) (h : u.name = v.name) : i = j := by
  have h1 := findI_self hn hi
  have h2 := findI_self hn hj
  rw [h] at h1
  rw [h1] at h2
  omega
theorem St.next {us : List U} {left : List Bool} {ns : List ByteArray} (h : St us left ns) (hn : (nm us).Nodup) {i k : Nat} {u : U} (hu : us[i]? = some u) (hk : ns[k]? = some u.name) : St us (left.set i false) (ns.eraseIdx k) := by
  obtain ⟨hl, hnd, hsrt, hmem⟩ := h
  refine ⟨by simpa using hl, List.Nodup.eraseIdx k hnd, hsrt.erase k, fun s => ?_⟩
  have hm : s ∈ ns.eraseIdx k ↔ s ∈ ns ∧ s ≠ u.name := by
    have h1 := only_erase (G := fun _ => some u) hk hnd
    have h2 := congrFun h1 s
    unfold only at h2
    by_cases a : s ∈ ns.eraseIdx k
    · rw [if_pos a] at h2
      by_cases b : s = u.name
      · rw [if_pos b] at h2; cases h2
      · rw [if_neg b] at h2
        by_cases c : s ∈ ns
        · exact ⟨fun _ => ⟨c, b⟩, fun _ => a⟩
        · rw [if_neg c] at h2; cases h2
    · rw [if_neg a] at h2
      constructor
      · intro h; exact absurd h a
      · rintro ⟨c, b⟩
        rw [if_neg b, if_pos c] at h2; cases h2
  rw [hm, hmem]
  constructor
  · rintro ⟨⟨j, v, h1, h2, h3⟩, hne⟩
    refine ⟨j, v, ?_, h2, h3⟩
    have : i ≠ j := by
      intro e; subst e
      rw [hu] at h2; cases h2
      exact hne h3.symm
    rw [List.getElem?_set_ne this]; exact h1
  · rintro ⟨j, v, h1, h2, h3⟩
    by_cases e : i = j
    · subst e
      rw [List.getElem?_set_self' ] at h1
      cases hx : left[i]? with
      | none => rw [hx] at h1; cases h1
      | some b => rw [hx] at h1; simp at h1
    · rw [List.getElem?_set_ne e] at h1
      refine ⟨⟨j, v, h1, h2, h3⟩, fun hs => e ?_⟩
      rw [← h3] at hs
      exact nodup_at hn hu h2 hs.symm

theorem wt_eq {us : List U} {left : List Bool} {ns : List ByteArray} (h : St us left ns) (hn : (nm us).Nodup) (s : ByteArray) : wt us left s = (only (byName us) ns s).isSome := by
  obtain ⟨hl, hnd, hsrt, hmem⟩ := h
  unfold wt only
  cases hf : findU us s with
  | none =>
    have : s ∉ nm us := by
      intro hs
      have := findI_ge hs
      unfold findI at this
      rw [hf] at this
      simp at this
    simp only
    split
    · rw [byName_none.2 this]; rfl
    · rfl
  | some k =>
    unfold findU at hf
    rw [List.findIdx?_eq_some_iff_getElem] at hf
    obtain ⟨hk, he, _⟩ := hf
    have hu : us[k]? = some us[k] := List.getElem?_eq_getElem hk
    have hs := eqs_true.1 he
    by_cases hin : s ∈ ns
    · rw [if_pos hin]
      obtain ⟨j, v, h1, h2, h3⟩ := (hmem s).1 hin
      obtain rfl := nodup_at hn hu h2 (by rw [hs, h3])
      have : s ∈ nm us := List.mem_map.2 ⟨v, List.mem_of_getElem? h2, h3⟩
      rw [byName_isSome, decide_eq_true this]
      simp [List.getD, h1]
    · rw [if_neg hin]
      simp only [List.getD_eq_getElem?_getD]
      cases hx : left[k]? with
      | none => rfl
      | some b =>
        cases b with
        | false => rfl
        | true => exact absurd ((hmem s).2 ⟨k, _, hx, hu, hs⟩) hin
theorem ready_eq {us : List U} {left : List Bool} {ns : List ByteArray} (h : St us left ns) (hn : (nm us).Nodup) {i : Nat} {u : U} (hu : us[i]? = some u) (hl : left[i]? = some true) : ready (only (byName us) ns) u.name = !waitsU us left u := by
  have hin : u.name ∈ ns := (h.2.2.2 _).2 ⟨i, u, hl, hu, rfl⟩
  unfold ready
  rw [only_some hin, byName_of_mem hn (List.mem_of_getElem? hu)]
  simp only
  unfold free waitsU
  have e : (fun s => (only (byName us) ns s).isSome) = wt us left := by funext s; exact (wt_eq h hn s).symm
  rw [e]
  simp

/-- What the two looks of the third loop tell. -/
def leftAt (left : List Bool) (i : Nat) : Bool := left.getD i false
def readyAt (us : List U) (left : List Bool) (i : Nat) : Bool := leftAt left i && match us[i]? with | some u => !waitsU us left u | none => false
theorem next_of {us : List U} {left : List Bool} {ns : List ByteArray} (hS : St us left ns) (hn : (nm us).Nodup) {m : Int} (h : MinTo us (readyAt us left) us.length m) :
    (m = -1 ∧ idxP (ready (only (byName us) ns)) ns = -1) ∨ ∃ (i k : Nat) (u : U), m = i ∧ us[i]? = some u ∧ idxP (ready (only (byName us) ns)) ns = k ∧ ns[k]? = some u.name ∧ left[i]? = some true := by
  refine first_of_min hS (fun i hi => ?_) h
  obtain ⟨u, hu⟩ := get_lt us hi
  unfold readyAt leftAt
  rw [hu, nmAt_eq hu]
  simp only
  rw [List.getD_eq_getElem?_getD]
  cases hx : left[i]? with
  | none => rfl
  | some b =>
    cases b with
    | false => rfl
    | true => rw [ready_eq hS hn hu hx]
theorem least_of {us : List U} {left : List Bool} {ns : List ByteArray} (hS : St us left ns) {m : Int} (h : MinTo us (leftAt left) us.length m) {n0 : ByteArray} {r : List ByteArray} (hns : ns = n0 :: r) :
    ∃ (i : Nat) (u : U), m = i ∧ us[i]? = some u ∧ u.name = n0 := by
  have hmin : MinTo us (fun i => (left.getD i false) && (fun _ => true) (nmAt us i)) us.length m := by
    have e : (fun i => (left.getD i false) && (fun _ => true) (nmAt us i)) = leftAt left := by funext i; simp [leftAt]
    rw [e]; exact h
  rcases first_of_min (P := fun _ => true) hS (fun _ _ => rfl) hmin with ⟨_, h2⟩ | ⟨i, k, u, h1, h2, h3, h4, _⟩
  · subst hns
    simp [idxP, List.findIdx?_cons] at h2
  · subst hns
    simp [idxP, List.findIdx?_cons] at h3
    have : k = 0 := by omega
    subst this
    simp at h4
    exact ⟨i, u, h1, h2, h4.symm⟩
theorem bad_of {us : List U} (hn : (nm us).Nodup) {m : Int} (h : MinTo us (lacksAt us) us.length m) :
    (m = -1 ∧ (sortS (nm us)).find? (lacks (byName us)) = none) ∨ ∃ (i : Nat) (u : U), m = i ∧ us[i]? = some u ∧ (sortS (nm us)).find? (lacks (byName us)) = some u.name := by
  have hp : ∀ i, i < us.length → lacksAt us i = (((List.replicate us.length true).getD i false) && lacks (byName us) (nmAt us i)) := by
    intro i hi
    obtain ⟨u, hu⟩ := get_lt us hi
    have e : (List.replicate us.length true).getD i false = true := by simp [List.getD, hi]
    rw [e, nmAt_eq hu]
    unfold lacksAt lacks
    rw [hu, byName_of_mem hn (List.mem_of_getElem? hu)]
    simp
  rcases first_of_min (St.start hn) hp h with ⟨h1, h2⟩ | ⟨i, k, u, h1, h2, h3, h4, _⟩
  · refine Or.inl ⟨h1, find_no fun j x hx => ?_⟩
    unfold idxP at h2
    cases hf : (sortS (nm us)).findIdx? (lacks (byName us)) with
    | some k => rw [hf] at h2; simp at h2
    | none =>
      rw [List.findIdx?_eq_none_iff] at hf
      exact hf x (List.mem_of_getElem? hx)
  · refine Or.inr ⟨i, u, h1, h2, ?_⟩
    unfold idxP at h3
    cases hf : (sortS (nm us)).findIdx? (lacks (byName us)) with
    | none => rw [hf] at h3; simp at h3
    | some k' =>
      rw [hf] at h3
      simp at h3
      obtain rfl : k' = k := by omega
      rw [List.findIdx?_eq_some_iff_getElem] at hf
      obtain ⟨hk, hP, hb⟩ := hf
      have e := (List.getElem?_eq_some_iff.1 h4).2
      rw [e] at hP
      refine find_first h4 hP fun j x hj hx => ?_
      have := hb j hj
      rw [(List.getElem?_eq_some_iff.1 hx).2] at this
      simpa using this
theorem St.nil {us : List U} {left : List Bool} {ns : List ByteArray} (hS : St us left ns) {m : Int} (h : MinTo us (leftAt left) us.length m) (hm : m < 0) : ns = [] := by
  cases ns with
  | nil => rfl
  | cons n0 r =>
    obtain ⟨i, _, h1, _⟩ := least_of hS h rfl
    omega
end Go.Proofs.Ytlhlbckmifgeeaa
