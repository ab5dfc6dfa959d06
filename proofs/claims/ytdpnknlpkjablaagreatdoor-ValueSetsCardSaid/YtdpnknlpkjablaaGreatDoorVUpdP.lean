/- A set put over another, as plain data. -/
import Derived.Test.YtdpnknlpkjablaaGreatDoorVSortS
import Derived.Test.YtdpnknlpkjablaaGreatDoorValP
import Derived.Sort.Walk0
namespace Go.Proofs.YtdpnknlpkjablaaGreatDoor
open Go.RowKit

/-! Sorting does not hang on how the strings stood. -/
theorem le_total_bytes (x y : List UInt8) : (decide (x ≤ y) || decide (y ≤ x)) = true := by
  rcases List.le_total x y with h | h <;> simp [h]
theorem le_trans_bytes (x y z : List UInt8) (h1 : decide (x ≤ y) = true) (h2 : decide (y ≤ z) = true) : decide (x ≤ z) = true := by
  simp at *
  exact List.le_trans h1 h2
theorem sortS_sorted (ss : List ByteArray) : (bytesOf (sortS ss)).Pairwise (fun x y => decide (x ≤ y) = true) := by
  unfold sortS
  rw [bytesOf_ofBytes]
  exact List.pairwise_mergeSort le_trans_bytes le_total_bytes _
theorem sortS_congr {a b : List ByteArray} (h : a.Perm b) : sortS a = sortS b := by
  have hp : (bytesOf (sortS a)).Perm (bytesOf (sortS b)) := ((sortS_perm a).trans (h.trans (sortS_perm b).symm)).map _
  have := List.Perm.eq_of_pairwise (le := fun x y => decide (x ≤ y) = true) (fun x y _ _ h1 h2 => by simp at h1 h2; exact List.le_antisymm h1 h2) (sortS_sorted a) (sortS_sorted b) hp
  rw [← ofBytes_bytesOf (sortS a), this, ofBytes_bytesOf]
theorem sortS_nodup {a : List ByteArray} (h : a.Nodup) : (sortS a).Nodup := (sortS_perm a).nodup_iff.2 h
theorem mem_sortS {a : List ByteArray} {s : ByteArray} : s ∈ sortS a ↔ s ∈ a := (sortS_perm a).mem_iff

/-! What a name stands for. -/
abbrev NM := ByteArray → Option V
def updV (G : NM) (s : ByteArray) (v : V) : NM := fun x => if x = s then some v else G x
def putsV : NM → List ByteArray → List V → NM
  | G, n :: ns, x :: xs => putsV (updV G n x) ns xs
  | G, [], _ => G
  | G, _ :: _, [] => G
theorem putsV_nil (G : NM) (xs : List V) : putsV G [] xs = G := by cases xs <;> rfl
theorem putsV_snoc : ∀ (G : NM) {ns : List ByteArray} {xs : List V} (n : ByteArray) (x : V), ns.length = xs.length → putsV G (ns ++ [n]) (xs ++ [x]) = updV (putsV G ns xs) n x
  | G, [], [], n, x, _ => rfl
  | G, m :: ns, y :: xs, n, x, h => putsV_snoc (updV G m y) n x (by simpa using h)
theorem putsV_step (G : NM) {ns : List ByteArray} {xs : List V} {n : ByteArray} {x : V} {k : Nat} (h1 : ns[k]? = some n) (h2 : xs[k]? = some x) : putsV G (ns.take (k + 1)) (xs.take (k + 1)) = updV (putsV G (ns.take k) (xs.take k)) n x := by
  rw [take_snoc' h1, take_snoc' h2]
  refine putsV_snoc _ _ _ ?_
  have := (List.getElem?_eq_some_iff.1 h1).1
  have := (List.getElem?_eq_some_iff.1 h2).1
  simp only [List.length_take]
  omega
theorem putsV_not {s : ByteArray} : ∀ {G : NM} {ns : List ByteArray} {xs : List V}, s ∉ ns → putsV G ns xs s = G s
  | G, [], xs, _ => by rw [putsV_nil]
  | G, _ :: _, [], _ => rfl
  | G, n :: ns, x :: xs, h => by
    have h1 : s ≠ n := fun e => h (by rw [e]; exact List.mem_cons_self)
    have h2 : s ∉ ns := fun e => h (List.mem_cons_of_mem _ e)
    rw [putsV, putsV_not h2, updV, if_neg h1]
theorem putsV_at : ∀ {G : NM} {ns : List ByteArray} {xs : List V} {j : Nat} {s : ByteArray} {x : V}, ns.Nodup → ns[j]? = some s → xs[j]? = some x → putsV G ns xs s = some x
  | G, [], xs, j, s, x, _, h, _ => by simp at h
  | G, _ :: _, [], j, s, x, _, _, h => by simp at h
  | G, n :: ns, y :: xs, 0, s, x, hd, h1, h2 => by
    simp at h1 h2
    subst h1 h2
    have hd := List.nodup_cons.1 hd
    rw [putsV, putsV_not hd.1, updV, if_pos rfl]
  | G, n :: ns, y :: xs, j + 1, s, x, hd, h1, h2 => by
    have hd := List.nodup_cons.1 hd
    rw [putsV]
    exact putsV_at hd.2 (by simpa using h1) (by simpa using h2)
/-- The second set's values over the first one's. -/
def overP (a b : V) : NM := putsV (putsV (fun _ => none) a.names a.items) b.names b.items

theorem over_mem {a b : V} {s : ByteArray} (h : (overP a b s).isSome = true) : s ∈ a.names ++ b.names := by
  rw [List.mem_append]
  by_cases hb : s ∈ b.names
  · exact Or.inr hb
  · by_cases ha : s ∈ a.names
    · exact Or.inl ha
    · unfold overP at h
      rw [putsV_not hb, putsV_not ha] at h
      cases h
/-- Names and items that tell what the names stand for. -/
def UpP (G : NM) (L : List ByteArray) (xs : List V) : Prop :=
  (∃ ns : List ByteArray, ns.Nodup ∧ (∀ s, s ∈ ns ↔ (G s).isSome = true) ∧ L = sortS ns) ∧ xs.length = L.length ∧ ∀ (i : Nat) (s : ByteArray), L[i]? = some s → ∃ x, xs[i]? = some x ∧ G s = some x

/-! Names that rise. -/
theorem less_le {x y : List UInt8} (h : Op.bytesLess x y = true) : decide (x ≤ y) = true := by
  rw [_root_.Go.Proofs.bytesLess_eq] at h
  simp at h ⊢
  exact List.le_of_lt h
theorem names_at {l : List ByteArray} (h : namesP l = true) {i : Nat} {s t : ByteArray} (hs : l[i]? = some s) (ht : l[i + 1]? = some t) : Op.bytesLess s.toList t.toList = true := by
  unfold namesP at h
  rw [List.all_eq_true] at h
  have := h (i + 1) (List.mem_range.2 (List.getElem?_eq_some_iff.1 ht).1)
  rw [okAt_succ ht hs] at this
  simp only [Bool.and_eq_true] at this
  exact this.2
theorem names_size {l : List ByteArray} (h : namesP l = true) {s : ByteArray} (hs : s ∈ l) : s.size ≤ 1024 := by
  obtain ⟨i, hi⟩ := List.getElem?_of_mem hs
  unfold namesP at h
  rw [List.all_eq_true] at h
  have := h i (List.mem_range.2 (List.getElem?_eq_some_iff.1 hi).1)
  unfold okAt at this
  rw [hi] at this
  simp only [Bool.and_eq_true, decide_eq_true_eq] at this
  exact this.1
theorem names_far {l : List ByteArray} (h : namesP l = true) : ∀ (k i : Nat) {s t : ByteArray}, l[i]? = some s → l[i + k + 1]? = some t → Op.bytesLess s.toList t.toList = true
  | 0, i, s, t, hs, ht => names_at h hs ht
  | k + 1, i, s, t, hs, ht => by
    obtain ⟨u, hu⟩ := get_lt l (k := i + k + 1) (by have := (List.getElem?_eq_some_iff.1 ht).1; omega)
    exact bytesLess_trans (names_far h k i hs hu) (names_at h hu (by rw [← ht]; congr 1))
theorem names_rise {l : List ByteArray} (h : namesP l = true) : l.Pairwise (fun s t => Op.bytesLess s.toList t.toList = true) := by
  rw [List.pairwise_iff_getElem]
  intro i j hi hj hij
  exact names_far h (j - i - 1) i (List.getElem?_eq_getElem hi) (by rw [← List.getElem?_eq_getElem hj]; congr 1; omega)
theorem names_nodup {l : List ByteArray} (h : namesP l = true) : l.Nodup :=
  (names_rise h).imp fun {s t} hlt e => by subst e; rw [bytesLess_irrefl] at hlt; cases hlt
theorem names_sort {l : List ByteArray} (h : namesP l = true) : sortS l = l := by
  unfold sortS
  have hp : (bytesOf l).Pairwise (fun x y => decide (x ≤ y) = true) := by
    unfold bytesOf
    rw [List.pairwise_map]
    refine (names_rise h).imp fun {s t} hlt => ?_
    have := less_le hlt
    rw [← Lib.toList_data, ← Lib.toList_data]
    exact this
  rw [List.mergeSort_of_pairwise hp, ofBytes_bytesOf]
/-- Sorted and each once: they rise. -/
theorem sort_names {ns : List ByteArray} (hd : ns.Nodup) (hz : ∀ s ∈ ns, s.size ≤ 1024) : namesP (sortS ns) = true := by
  refine namesP_yes fun i hi => ?_
  obtain ⟨s, hs⟩ := get_lt (sortS ns) hi
  have hsz := hz s (mem_sortS.1 (List.mem_of_getElem? hs))
  cases i with
  | zero => rw [okAt_zero hs]; simpa using hsz
  | succ j =>
    obtain ⟨t, ht⟩ := get_lt (sortS ns) (k := j) (by omega)
    rw [okAt_succ hs ht]
    simp only [Bool.and_eq_true, decide_eq_true_eq]
    refine ⟨hsz, ?_⟩
    have hp := sortS_sorted ns
    unfold bytesOf at hp
    rw [List.pairwise_map, List.pairwise_iff_getElem] at hp
    obtain ⟨hjl, ht'⟩ := List.getElem?_eq_some_iff.1 ht
    obtain ⟨hsl, hs'⟩ := List.getElem?_eq_some_iff.1 hs
    have h1 := hp j (j + 1) hjl hsl (by omega)
    rw [ht', hs', ← Lib.toList_data, ← Lib.toList_data] at h1
    rcases bytesLess_total t.toList s.toList with h | h | h
    · exact h
    · have e := toList_inj h
      have h9 := List.pairwise_iff_getElem.1 (sortS_nodup hd) j (j + 1) hjl hsl (by omega)
      rw [ht', hs', e] at h9
      exact absurd rfl h9
    · rw [_root_.Go.Proofs.bytesLess_eq] at h
      simp at h h1
      exact absurd h (List.not_lt.2 h1)
end Go.Proofs.YtdpnknlpkjablaaGreatDoor
