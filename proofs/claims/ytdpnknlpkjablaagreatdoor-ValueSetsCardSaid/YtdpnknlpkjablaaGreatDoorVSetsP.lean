/- A set put over another, as plain data: what the law asks of it. -/
import Derived.Test.YtdpnknlpkjablaaGreatDoorVReck2
namespace Go.Proofs.YtdpnknlpkjablaaGreatDoor
open Go.RowKit

/-- Where a name stands in a set. -/
def isB (s x : ByteArray) : Bool := x.toList == s.toList
def atP (v : V) (s : ByteArray) : Int := idxG (isB s) v.names
theorem isB_yes {s x : ByteArray} : isB s x = true ↔ x = s := by unfold isB; exact eqs_true
theorem at_cases (v : V) (s : ByteArray) : (∃ j : Nat, v.names[j]? = some s ∧ atP v s = (j : Int)) ∨ (s ∉ v.names ∧ atP v s = -1) := by
  unfold atP idxG
  cases h : v.names.findIdx? (isB s) with
  | none =>
    rw [List.findIdx?_eq_none_iff] at h
    refine Or.inr ⟨fun hm => ?_, rfl⟩
    have := h s hm
    rw [isB_yes.2 rfl] at this
    cases this
  | some k =>
    obtain ⟨hlt, hx, _⟩ := List.findIdx?_eq_some_iff_getElem.1 h
    exact Or.inl ⟨k, by rw [List.getElem?_eq_getElem hlt, isB_yes.1 hx], rfl⟩
theorem at_neg {v : V} {s : ByteArray} : atP v s < 0 ↔ s ∉ v.names := by
  rcases at_cases v s with ⟨j, h1, h2⟩ | ⟨h1, h2⟩
  · exact ⟨fun h => by omega, fun h => absurd (List.mem_of_getElem? h1) h⟩
  · exact ⟨fun _ => h1, fun _ => by omega⟩

theorem putsV_mem {s : ByteArray} {x : V} : ∀ {G : NM} {ns : List ByteArray} {xs : List V}, putsV G ns xs s = some x → x ∈ xs ∨ G s = some x
  | G, [], xs, h => by rw [putsV_nil] at h; exact Or.inr h
  | G, _ :: _, [], h => Or.inr h
  | G, n :: ns, y :: xs, h => by
    rw [putsV] at h
    rcases putsV_mem h with h | h
    · exact Or.inl (List.mem_cons_of_mem _ h)
    · unfold updV at h
      split at h
      · cases h; exact Or.inl List.mem_cons_self
      · exact Or.inr h
theorem over_item {a b : V} {s : ByteArray} {x : V} (h : overP a b s = some x) : x ∈ a.items ∨ x ∈ b.items := by
  unfold overP at h
  rcases putsV_mem h with h | h
  · exact Or.inr h
  · rcases putsV_mem h with h | h
    · exact Or.inl h
    · cases h
theorem over_b {a b : V} {s : ByteArray} {j : Nat} {x : V} (hb : namesP b.names = true) (h1 : b.names[j]? = some s) (h2 : b.items[j]? = some x) : overP a b s = some x :=
  putsV_at (names_nodup hb) h1 h2
theorem over_a {a b : V} {s : ByteArray} {j : Nat} {x : V} (ha : namesP a.names = true) (hn : s ∉ b.names) (h1 : a.names[j]? = some s) (h2 : a.items[j]? = some x) : overP a b s = some x := by
  unfold overP
  rw [putsV_not hn]
  exact putsV_at (names_nodup ha) h1 h2
theorem over_is {a b : V} (ha : namesP a.names = true) (hb : namesP b.names = true) (na : a.names.length = a.items.length) (nb : b.names.length = b.items.length) (s : ByteArray) : (overP a b s).isSome = true ↔ s ∈ a.names ++ b.names := by
  refine ⟨over_mem, fun h => ?_⟩
  rw [List.mem_append] at h
  by_cases h2 : s ∈ b.names
  · obtain ⟨j, hj⟩ := List.getElem?_of_mem h2
    obtain ⟨x, hx⟩ := get_lt b.items (k := j) (by have := (List.getElem?_eq_some_iff.1 hj).1; omega)
    rw [over_b hb hj hx]; rfl
  · have h1 := h.resolve_right h2
    obtain ⟨j, hj⟩ := List.getElem?_of_mem h1
    obtain ⟨x, hx⟩ := get_lt a.items (k := j) (by have := (List.getElem?_eq_some_iff.1 hj).1; omega)
    rw [over_a ha h2 hj hx]; rfl

section
variable {d : Nat} {a b : V} {L : List ByteArray} {xs : List V}
theorem up_length (h : UpP (overP a b) L xs) : L.length ≤ a.names.length + b.names.length := by
  obtain ⟨⟨ns, hd, hm, rfl⟩, _, _⟩ := h
  rw [sortS_length, ← List.length_append]
  exact hd.length_le_of_subset (fun s hs => over_mem ((hm s).1 hs))
theorem up_right (ka : a.kind = 6) (kb : b.kind = 6) (ga : rightP (d + 1) 32 a = true) (gb : rightP (d + 1) 32 b = true) (h : UpP (overP a b) L xs) (hl : xs.length ≤ 256) : rightP (d + 1) 32 (.mk 6 0 0 ⟨#[]⟩ L xs) = true := by
  obtain ⟨_, _, _, na, la, wa, ia⟩ := right_set ka ga
  obtain ⟨_, _, _, nb, lb, wb, ib⟩ := right_set kb gb
  obtain ⟨⟨ns, hd, hm, rfl⟩, hxl, hat⟩ := h
  have hn : namesP (sortS ns) = true := sort_names hd fun s hs => by
    rcases List.mem_append.1 (over_mem ((hm s).1 hs)) with h | h
    · exact names_size wa h
    · exact names_size wb h
  have hi : xs.all (rightP d 31) = true := by
    rw [List.all_eq_true]
    intro x hx
    obtain ⟨i, hi⟩ := List.getElem?_of_mem hx
    obtain ⟨s, hs⟩ := get_lt (sortS ns) (k := i) (by have := (List.getElem?_eq_some_iff.1 hi).1; omega)
    obtain ⟨y, hy, hg⟩ := hat i s hs
    rw [hi] at hy
    cases hy
    rcases over_item hg with h | h
    · exact ia x h
    · exact ib x h
  unfold rightP
  simp only [V.kind, V.int, V.flt, V.text, V.names, V.items, or_true, if_true]
  rw [hn, hi]
  simp [hxl, ByteArray.size]
  omega
/-- Each name of what came out has its value. -/
theorem up_at (ka : a.kind = 6) (kb : b.kind = 6) (ga : rightP (d + 1) 32 a = true) (gb : rightP (d + 1) 32 b = true) (h : UpP (overP a b) L xs) {i : Nat} {s : ByteArray} (hs : L[i]? = some s) :
    ∃ x, xs[i]? = some x ∧ ((∃ j : Nat, atP b s = (j : Int) ∧ b.items[j]? = some x) ∨ (atP b s = -1 ∧ ∃ j : Nat, atP a s = (j : Int) ∧ a.items[j]? = some x)) := by
  obtain ⟨_, _, _, na, la, wa, ia⟩ := right_set ka ga
  obtain ⟨_, _, _, nb, lb, wb, ib⟩ := right_set kb gb
  obtain ⟨x, hx, hg⟩ := h.2.2 i s hs
  refine ⟨x, hx, ?_⟩
  rcases at_cases b s with ⟨j, h1, h2⟩ | ⟨h1, h2⟩
  · obtain ⟨y, hy⟩ := get_lt b.items (k := j) (by have := (List.getElem?_eq_some_iff.1 h1).1; omega)
    have := over_b (a := a) wb h1 hy
    rw [hg] at this
    cases this
    exact Or.inl ⟨j, h2, hy⟩
  · rcases at_cases a s with ⟨j, h3, h4⟩ | ⟨h3, _⟩
    · obtain ⟨y, hy⟩ := get_lt a.items (k := j) (by have := (List.getElem?_eq_some_iff.1 h3).1; omega)
      have := over_a wa h1 h3 hy
      rw [hg] at this
      cases this
      exact Or.inr ⟨h2, j, h4, hy⟩
    · have := over_mem (a := a) (b := b) (s := s) (by rw [hg]; rfl)
      rcases List.mem_append.1 this with h | h
      · exact absurd h h3
      · exact absurd h h1
/-- How many of the names ahead the other set has not. -/
def cntP (a b : V) (k : Nat) : Nat := ((a.names.take k).filter fun s => decide (atP b s < 0)).length
theorem cntP_zero : cntP a b 0 = 0 := by simp [cntP]
theorem cntP_step {k : Nat} {s : ByteArray} (hs : a.names[k]? = some s) : cntP a b (k + 1) = cntP a b k + if atP b s < 0 then 1 else 0 := by
  unfold cntP
  rw [take_snoc' hs, List.filter_append, List.length_append]
  split <;> simp [*]
theorem cntP_le (k : Nat) : cntP a b k ≤ k := by
  unfold cntP
  exact Nat.le_trans (List.length_filter_le _ _) (by rw [List.length_take]; omega)
theorem up_count (ka : a.kind = 6) (kb : b.kind = 6) (ga : rightP (d + 1) 32 a = true) (gb : rightP (d + 1) 32 b = true) (h : UpP (overP a b) L xs) : L.length = cntP a b a.names.length + b.names.length := by
  obtain ⟨_, _, _, na, la, wa, ia⟩ := right_set ka ga
  obtain ⟨_, _, _, nb, lb, wb, ib⟩ := right_set kb gb
  obtain ⟨⟨ns, hd, hm, rfl⟩, _, _⟩ := h
  rw [sortS_length]
  have hp : ns.Perm ((a.names.filter fun s => decide (atP b s < 0)) ++ b.names) := by
    refine (List.perm_ext_iff_of_nodup hd ?_).2 fun s => ?_
    · rw [List.nodup_append]
      refine ⟨(names_nodup wa).filter _, names_nodup wb, fun x hx y hy e => ?_⟩
      subst e
      have := (List.mem_filter.1 hx).2
      simp only [decide_eq_true_eq] at this
      exact at_neg.1 this hy
    · rw [hm, over_is wa wb na nb, List.mem_append, List.mem_append, List.mem_filter]
      simp only [decide_eq_true_eq, at_neg]
      by_cases hb : s ∈ b.names <;> simp [hb]
  rw [hp.length_eq, List.length_append]
  unfold cntP
  rw [List.take_length]
/-- A set over itself is it. -/
theorem up_self (ka : a.kind = 6) (ga : rightP (d + 1) 32 a = true) (h : UpP (overP a a) L xs) : .mk 6 0 0 ⟨#[]⟩ L xs = a ∧ xs.length ≤ 256 := by
  obtain ⟨ha, hf, ht, na, la, wa, ia⟩ := right_set ka ga
  obtain ⟨⟨ns, hd, hm, rfl⟩, hxl, hat⟩ := h
  have hp : ns.Perm a.names := (List.perm_ext_iff_of_nodup hd (names_nodup wa)).2 fun s => by
    rw [hm, over_is wa wa na na, List.mem_append, or_self]
  have hL : sortS ns = a.names := by rw [sortS_congr hp, names_sort wa]
  rw [hL] at hxl hat ⊢
  have hX : xs = a.items := by
    apply List.ext_getElem?
    intro i
    by_cases hi : i < a.names.length
    · obtain ⟨s, hs⟩ := get_lt a.names hi
      obtain ⟨x, hx, hg⟩ := hat i s hs
      obtain ⟨y, hy⟩ := get_lt a.items (k := i) (by omega)
      have := over_b (a := a) wa hs hy
      rw [hg] at this
      cases this
      rw [hx, hy]
    · rw [List.getElem?_eq_none (by omega), List.getElem?_eq_none (by omega)]
  refine ⟨?_, by omega⟩
  subst hX
  obtain ⟨k, n, f, t, ns', is'⟩ := a
  simp only [V.kind, V.int, V.flt, V.text, V.names, V.items] at *
  subst ka ha hf
  obtain ⟨t⟩ := t
  have : t = #[] := Array.eq_empty_of_size_eq_zero ht
  subst this
  rfl
end
end Go.Proofs.YtdpnknlpkjablaaGreatDoor
