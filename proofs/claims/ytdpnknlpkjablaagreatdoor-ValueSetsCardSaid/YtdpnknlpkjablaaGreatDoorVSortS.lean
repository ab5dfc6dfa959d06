/- Appending strings to, and slices.Sort at, a list of strings of the call's own. -/
import Derived.Test.YtdpnknlpkjablaaGreatDoorSortShelf
import Derived.Test.YtdpnknlpkjablaaGreatDoorVOwn
import Derived.Maps.AppendAt
import Derived.Laws.AppendOwnNone
import Derived.Sort.OwnSorted
import Derived.Lib.OwnBridge
namespace Go.Proofs.YtdpnknlpkjablaaGreatDoor
open Go.RowKit Go.Sort

theorem infoS : (Tryz.prog.info? 9).map (fun i => (i.zero, i.size, i.bytes)) = some (some (.string ⟨#[]⟩), 1, 16) := by kernel_rfl
theorem nil_of_none {p : Nat → Prop} {w : World} {n cap : Nat} {ss : List ByteArray} (h : SLP p w (.slice none n cap) ss) : n = 0 ∧ cap = 0 ∧ ss = [] := by
  obtain ⟨a, cap', hv, hz, hl, hc⟩ := h
  simp only [Value.slice.injEq] at hv
  obtain ⟨rfl, rfl, rfl⟩ := hv
  have : ss = [] := by
    cases ss with
    | nil => rfl
    | cons x r =>
      obtain ⟨b, off, hh, _⟩ := hc 0 x rfl
      cases hh
  subst this
  exact ⟨rfl, hz rfl, rfl⟩

/-- append(list of the call's own, any list of strings ...). -/
theorem append_strs {w : World} {ops : Array Oper} {rest : List Oper} {o : Oper} {a : Act} {Q : Exit → Act → World → Prop} (hgd : o.guard = none) (s x : Operand)
    (ho : o.op = .call { callee := .builtin .append, args := #[s, x], argTypes := #[24, 24] })
    (base : Nat) (v : Value) (n : Nat) (xs : List Value) (hs : a.eval s = v) (hown : w.ownsRow base 9 1 v n xs)
    (y : Value) (ss : List ByteArray) (p : Nat → Prop) (hx : a.eval x = y) (hy : SLP p w y ss) (hn : n + ss.length ≤ 8796093022208) (hbase : base ≤ w.heap.size)
    (h : ∀ v' w', w'.ownsRow base 9 1 v' (n + ss.length) (xs ++ ss.map Value.string) → w.grownBy w' v.ownBlock → (v'.ownBlock = v.ownBlock ∨ v'.ownBlock = some w.heap.size) → wpList Tryz.prog ops Q rest (a.put o.dst v') w') : wpList Tryz.prog ops Q (o :: rest) a w := by
  obtain ⟨i0, hi, hz0, hz1, hz2⟩ := info_parts infoS
  obtain ⟨ad, cap, rfl, hz, hl, hc⟩ := id hy
  cases ad with
  | none =>
    obtain ⟨h0, rfl, rfl⟩ := nil_of_none hy
    exact wpList_append_own_none hgd s x 24 ho base 9 i0 1 Tryz.underlying24 hi v n xs hs hown hx (h v w (by simpa using hown) ⟨rfl, rfl, rfl, Nat.le_refl _, fun _ _ _ => rfl⟩ (Or.inl rfl))
  | some ad =>
    refine wpList_append_own_at w hgd s x 24 ho base 9 i0 _ 1 16 Tryz.underlying24 hi hz0 hz1 hz2 rfl (by decide) v n xs hs hown ad ss.length cap (ss.map Value.string) hx (by simp) ?_ ?_ (by unfold maxLen; omega) (by omega) hbase (fun v' w' h2 h3 _ h5 => h v' w' h2 h3 h5)
    · intro j u hu
      rw [List.getElem?_map] at hu
      cases hs' : ss[j]? with
      | none => rw [hs'] at hu; simp at hu
      | some t =>
        rw [hs'] at hu
        simp at hu
        obtain ⟨b, off, hh, hcell, _⟩ := hc j t hs'
        cases hh
        rw [← hu]
        have hadd : (⟨b, off, none⟩ : Addr).add j = ⟨b, off + j, none⟩ := by unfold Addr.add; split <;> simp_all
        rw [hadd]; exact hcell
    · intro u hu
      obtain ⟨t, _, rfl⟩ := List.mem_map.1 hu
      rfl

/-- append(list of the call's own, one string), the string lying in a cell. -/
theorem append_str {w : World} {ops : Array Oper} {rest : List Oper} {o : Oper} {a : Act} {Q : Exit → Act → World → Prop} (hgd : o.guard = none) (s x : Operand)
    (ho : o.op = .call { callee := .builtin .append, args := #[s, x], argTypes := #[24, 24] })
    (base : Nat) (v : Value) (n : Nat) (xs : List Value) (hs : a.eval s = v) (hown : w.ownsRow base 9 1 v n xs)
    (b c : Nat) (t : ByteArray) (hx : a.eval x = .slice (some ⟨b, 0, none⟩) 1 c) (hy : w.cell? ⟨b, 0, none⟩ = some (.string t)) (hn : n + 1 ≤ 8796093022208) (hbase : base ≤ w.heap.size)
    (h : ∀ v' w', w'.ownsRow base 9 1 v' (n + 1) (xs ++ [.string t]) → w.grownBy w' v.ownBlock → (v'.ownBlock = v.ownBlock ∨ v'.ownBlock = some w.heap.size) → wpList Tryz.prog ops Q rest (a.put o.dst v') w') : wpList Tryz.prog ops Q (o :: rest) a w := by
  obtain ⟨i0, hi, hz0, hz1, hz2⟩ := info_parts infoS
  refine wpList_append_own_at w hgd s x 24 ho base 9 i0 _ 1 16 Tryz.underlying24 hi hz0 hz1 hz2 rfl (by decide) v n xs hs hown ⟨b, 0, none⟩ 1 c [.string t] hx rfl ?_ ?_ (by unfold maxLen; omega) (by omega) hbase (fun v' w' h2 h3 _ h5 => h v' w' h2 h3 h5)
  · intro j u hu
    match j, hu with
    | 0, hu => simp at hu; subst hu; exact hy
    | j + 1, hu => simp at hu
  · intro u hu
    simp at hu
    subst hu; rfl

/-- A list of strings of the call's own. -/
def OS (base : Nat) (w : World) (v : Value) (ss : List ByteArray) : Prop := w.ownsRow base 9 1 v ss.length (ss.map Value.string)
theorem OS.below {base : Nat} {w w' : World} {v : Value} {ss : List ByteArray} (h : OS base w v ss) (hb : Below w.heap.size w w') : OS base w' v ss := own_below h hb


theorem OS.mono {base base' : Nat} {w : World} {v : Value} {ss : List ByteArray} (h : OS base w v ss) (hb : base' ≤ base) : OS base' w v ss := by
  obtain ⟨h1, h2⟩ := h
  refine ⟨h1, ?_⟩
  rcases h2 with h2 | ⟨g, cap, cur, hv, hg, r⟩
  · exact Or.inl h2
  · exact Or.inr ⟨g, cap, cur, hv, Nat.le_trans hb hg, r⟩
theorem OS.set {base : Nat} {w : World} {v : Value} {ss : List ByteArray} (h : OS base w v ss) {a : Addr} (ha : a.block < base) (x : Value) : OS base (w.setCell a x) v ss := ownsRow_setCell_below h ha x
theorem OS.keptG {base : Nat} {w w' : World} {v : Value} {ss : List ByteArray} {row : Option Nat} (h : OS base w v ss) (hg : w.grownBy w' row) (hr : ∀ k, row = some k → k < base) : OS base w' v ss :=
  World.ownsRow.kept h hg (by
    cases hv : v.ownBlock with
    | none => exact Or.inl rfl
    | some j => exact Or.inr (fun e => by have h1 := (World.ownsRow.lt h j hv).1; have h2 := hr j e.symm; omega))
theorem OS.low {base : Nat} {w : World} {v : Value} {ss : List ByteArray} (h : OS base w v ss) {g : Nat} (hg : g < base) : some g ≠ v.ownBlock := fun e => by have := (World.ownsRow.lt h g e.symm).1; omega
theorem OS.lows {base : Nat} {w : World} {v : Value} {ss : List ByteArray} (h : OS base w v ss) : ∀ j, v.ownBlock = some j → base ≤ j := fun j hj => (World.ownsRow.lt h j hj).1
theorem OS.snoc {base : Nat} {w : World} {v : Value} {ss : List ByteArray} {s : ByteArray} (h : w.ownsRow base 9 1 v (ss.length + 1) (ss.map Value.string ++ [.string s])) : OS base w v (ss ++ [s]) := by
  unfold OS
  simpa using h
theorem OS.slp {base : Nat} {w : World} {v : Value} {ss : List ByteArray} (h : OS base w v ss) (hl : ss.length ≤ 8796093021952) (hs : ∀ s, s ∈ ss → s.size ≤ maxLen) : SLP (fun b => base ≤ b ∧ v.ownBlock = some b) w v ss := by
  obtain ⟨hx, hc⟩ := h
  rcases hc with ⟨rfl, h0⟩ | ⟨g, cap, cur, rfl, hb, hh, hle, hm, hsz, htk⟩
  · have : ss = [] := List.eq_nil_of_length_eq_zero h0
    subst this
    exact ⟨none, 0, rfl, fun _ => rfl, hl, fun i s h => by simp at h⟩
  · refine ⟨_, _, rfl, (fun h => by cases h), hl, fun i s hi => ⟨g, 0, rfl, ?_, hs s (List.mem_of_getElem? hi), hb, rfl⟩⟩
    rw [Nat.zero_add, cell_of_row w g i cur 9 (0, 0) hh]
    have hlt := (List.getElem?_eq_some_iff.1 hi).1
    have : (ss.map Value.string)[i]? = some (Value.string s) := by rw [List.getElem?_map, hi]; rfl
    rw [← htk, List.getElem?_take] at this
    split at this
    · simpa using this
    · cases this
theorem OS.shape {base : Nat} {w : World} {v : Value} {ss : List ByteArray} (h : OS base w v ss) : ∃ a cap, v = .slice a ss.length cap := by
  rcases h.2 with ⟨rfl, h0⟩ | ⟨g, cap, _, rfl, _⟩
  · exact ⟨none, 0, by rw [h0]⟩
  · exact ⟨_, _, rfl⟩

def bytesOf (ss : List ByteArray) : List (List UInt8) := ss.map (·.data.toList)
def ofBytes (ls : List (List UInt8)) : List ByteArray := ls.map fun l => ⟨l.toArray⟩
theorem ofBytes_bytesOf (ss : List ByteArray) : ofBytes (bytesOf ss) = ss := by
  unfold ofBytes bytesOf
  rw [List.map_map]
  conv => rhs; rw [← List.map_id ss]
  apply List.map_congr_left
  intro x _
  simp
theorem bytesOf_ofBytes (ls : List (List UInt8)) : bytesOf (ofBytes ls) = ls := by
  unfold ofBytes bytesOf
  rw [List.map_map]
  conv => rhs; rw [← List.map_id ls]
  apply List.map_congr_left
  intro x _
  simp
theorem enc_bytesOf (ss : List ByteArray) : (bytesOf ss).map encStr = ss.map Value.string := Lib.map_encStr ss
theorem enc_ofBytes (ls : List (List UInt8)) : ls.map encStr = (ofBytes ls).map Value.string := by
  rw [← enc_bytesOf, bytesOf_ofBytes]

/-- The strings in rising order. -/
def sortS (ss : List ByteArray) : List ByteArray := ofBytes ((bytesOf ss).mergeSort fun x y => decide (x ≤ y))
theorem sortS_perm (ss : List ByteArray) : (sortS ss).Perm ss := by
  have h := (List.mergeSort_perm (bytesOf ss) (fun x y => decide (x ≤ y))).map (fun l => (⟨l.toArray⟩ : ByteArray))
  have e : (bytesOf ss).map (fun l => (⟨l.toArray⟩ : ByteArray)) = ss := ofBytes_bytesOf ss
  rw [e] at h
  exact h
theorem sortS_length (ss : List ByteArray) : (sortS ss).length = ss.length := (sortS_perm ss).length_eq

theorem sort_own {base : Nat} {v : Value} {ss : List ByteArray} {w : World} (h : OS base w v ss) (hl : ss.length ≤ 8796093022208) :
    Calls Tryz.prog 52 #[v] w fun e w' => e = .returned (.tuple #[]) ∧ OS base w' v (sortS ss) ∧ w.grownBy w' v.ownBlock := by
  rcases own_block_form h with ⟨rfl, h0, _⟩ | ⟨g, cap, rfl⟩
  · have : ss = [] := List.eq_nil_of_length_eq_zero h0
    subst this
    refine (Tryz.slices_Sort_string_none none 0 w).mono ?_
    rintro e w' ⟨rfl, rfl⟩
    exact ⟨rfl, by rw [show sortS [] = [] from List.eq_nil_of_length_eq_zero (by rw [sortS_length]; rfl)]; exact h, ⟨rfl, rfl, rfl, Nat.le_refl _, fun _ _ _ => rfl⟩⟩
  · have h' : w.ownsRow base 9 1 (.slice (some ⟨g, 0, none⟩) (bytesOf ss).length cap) (bytesOf ss).length ((bytesOf ss).map encStr) := by
      rw [enc_bytesOf]
      simpa [OS, bytesOf] using h
    obtain ⟨_, _, hv, hb, hlt, hn, hm, hlen, hH⟩ := Lib.holds_of_ownsRow h' (by intro e; cases e)
    simp at hv
    obtain ⟨rfl, rfl⟩ := hv
    have hc := Tryz.slices_Sort_string g 0 cap (bytesOf ss) w hH hlt (by simp [bytesOf]; omega)
    have el : (bytesOf ss).length = ss.length := by simp [bytesOf]
    rw [el] at hc
    refine hc.mono ?_
    rintro e w' ⟨rfl, n, os, rfl⟩
    refine ⟨rfl, ?_, grownBy_sorted _⟩
    rcases h.2 with ⟨h1, _⟩ | ⟨g', cap', cur, h1, h2, h3, h4, h5, h6, h7⟩
    · cases h1
    · simp at h1
      obtain ⟨rfl, rfl⟩ := h1
      have := ownsRow_sorted (n := n) (os := os) (e := 9) (ss := bytesOf ss) (ts := (bytesOf ss).mergeSort fun x y => decide (x ≤ y)) (by simp) h2 h3 (by rw [el]; exact h4) h5 h6
      rw [el, enc_ofBytes] at this
      unfold OS
      rw [sortS_length]
      exact this

end Go.Proofs.YtdpnknlpkjablaaGreatDoor
