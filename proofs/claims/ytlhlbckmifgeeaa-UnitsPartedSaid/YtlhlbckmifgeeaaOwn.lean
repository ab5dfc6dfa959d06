/- Appending strings, and units, to a list that the call has made. -/
import Derived.Test.YtlhlbckmifgeeaaBase
import Derived.Maps.AppendAt
import Derived.Laws.AppendOwnNone
namespace Go.Proofs.Ytlhlbckmifgeeaa
open Go.RowKit

theorem infoS : (Try.prog.info? 9).map (fun i => (i.zero, i.size, i.bytes)) = some (some (.string ⟨#[]⟩), 1, 16) := by kernel_rfl
theorem infoU : (Try.prog.info? 32).map (fun i => (i.zero, i.size, i.bytes)) = some (some (.agg #[.string ⟨#[]⟩, .string ⟨#[]⟩, .slice none 0 0, .slice none 0 0]), 4, 80) := by kernel_rfl

theorem nil_of_none {p : Nat → Prop} {w : World} {n cap : Nat} {ss : List ByteArray} (h : SLP p w (.slice none n cap) ss) : n = 0 ∧ cap = 0 ∧ ss = [] := by
  obtain ⟨a, cap', hv, hz, hl, hc⟩ := h
  simp only [Value.slice.injEq] at hv
  obtain ⟨rfl, rfl, rfl⟩ := hv
  have : ss = [] := by
    cases ss with
    | nil => rfl
    | cons x r =>
      obtain ⟨b, off, hh, _⟩ := hc 0 x rfl
      cases hh
  subst this
  exact ⟨rfl, hz rfl, rfl⟩

/-- append(list of the call's own, any list of strings ...). -/
theorem append_strs {w : World} {ops : Array Oper} {rest : List Oper} {o : Oper} {a : Act} {Q : Exit → Act → World → Prop} (hgd : o.guard = none) (s x : Operand)
    (ho : o.op = .call { callee := .builtin .append, args := #[s, x], argTypes := #[30, 30] })
    (base : Nat) (v : Value) (n : Nat) (xs : List Value) (hs : a.eval s = v) (hown : w.ownsRow base 9 1 v n xs)
    (y : Value) (ss : List ByteArray) (p : Nat → Prop) (hx : a.eval x = y) (hy : SLP p w y ss) (hn : n + ss.length ≤ 8796093022208) (hbase : base ≤ w.heap.size)
    (h : ∀ v' w', w'.ownsRow base 9 1 v' (n + ss.length) (xs ++ ss.map Value.string) → w.grownBy w' v.ownBlock → (v'.ownBlock = v.ownBlock ∨ v'.ownBlock = some w.heap.size) → wpList Try.prog ops Q rest (a.put o.dst v') w') : wpList Try.prog ops Q (o :: rest) a w := by
  obtain ⟨i0, hi, hz0, hz1, hz2⟩ := info_parts infoS
  obtain ⟨ad, cap, rfl, hz, hl, hc⟩ := id hy
  cases ad with
  | none =>
    obtain ⟨h0, rfl, rfl⟩ := nil_of_none hy
    exact wpList_append_own_none hgd s x 30 ho base 9 i0 1 Try.underlying30 hi v n xs hs hown hx (h v w (by simpa using hown) ⟨rfl, rfl, rfl, Nat.le_refl _, fun _ _ _ => rfl⟩ (Or.inl rfl))
  | some ad =>
    refine wpList_append_own_at w hgd s x 30 ho base 9 i0 _ 1 16 Try.underlying30 hi hz0 hz1 hz2 rfl (by decide) v n xs hs hown ad ss.length cap (ss.map Value.string) hx (by simp) ?_ ?_ (by unfold maxLen; omega) (by omega) hbase (fun v' w' h2 h3 _ h5 => h v' w' h2 h3 h5)
    · intro j u hu
      rw [List.getElem?_map] at hu
      cases hs' : ss[j]? with
      | none => rw [hs'] at hu; simp at hu
      | some t =>
        rw [hs'] at hu
        simp at hu
        obtain ⟨b, off, hh, hcell, _⟩ := hc j t hs'
        cases hh
        rw [← hu]
        have hadd : (⟨b, off, none⟩ : Addr).add j = ⟨b, off + j, none⟩ := by unfold Addr.add; split <;> simp_all
        rw [hadd]; exact hcell
    · intro u hu
      obtain ⟨t, _, rfl⟩ := List.mem_map.1 hu
      rfl

/-- append(list of the call's own, one string), the string lying in a cell. -/
theorem append_str {w : World} {ops : Array Oper} {rest : List Oper} {o : Oper} {a : Act} {Q : Exit → Act → World → Prop} (hgd : o.guard = none) (s x : Operand)
    (ho : o.op = .call { callee := .builtin .append, args := #[s, x], argTypes := #[30, 30] })
    (base : Nat) (v : Value) (n : Nat) (xs : List Value) (hs : a.eval s = v) (hown : w.ownsRow base 9 1 v n xs)
    (b c : Nat) (t : ByteArray) (hx : a.eval x = .slice (some ⟨b, 0, none⟩) 1 c) (hy : w.cell? ⟨b, 0, none⟩ = some (.string t)) (hn : n + 1 ≤ 8796093022208) (hbase : base ≤ w.heap.size)
    (h : ∀ v' w', w'.ownsRow base 9 1 v' (n + 1) (xs ++ [.string t]) → w.grownBy w' v.ownBlock → (v'.ownBlock = v.ownBlock ∨ v'.ownBlock = some w.heap.size) → wpList Try.prog ops Q rest (a.put o.dst v') w') : wpList Try.prog ops Q (o :: rest) a w := by
  obtain ⟨i0, hi, hz0, hz1, hz2⟩ := info_parts infoS
  refine wpList_append_own_at w hgd s x 30 ho base 9 i0 _ 1 16 Try.underlying30 hi hz0 hz1 hz2 rfl (by decide) v n xs hs hown ⟨b, 0, none⟩ 1 c [.string t] hx rfl ?_ ?_ (by unfold maxLen; omega) (by omega) hbase (fun v' w' h2 h3 _ h5 => h v' w' h2 h3 h5)
  · intro j u hu
    match j, hu with
    | 0, hu => simp at hu; subst hu; exact hy
    | j + 1, hu => simp at hu
  · intro u hu
    simp at hu
    subst hu; rfl

/-- append(list of the call's own, one unit), the unit's cells lying in a block. -/
theorem append_unit {w : World} {ops : Array Oper} {rest : List Oper} {o : Oper} {a : Act} {Q : Exit → Act → World → Prop} (hgd : o.guard = none) (s x : Operand)
    (ho : o.op = .call { callee := .builtin .append, args := #[s, x], argTypes := #[22, 22] })
    (base : Nat) (v : Value) (n : Nat) (xs : List Value) (hs : a.eval s = v) (hown : w.ownsRow base 32 4 v n xs)
    (b c : Nat) (c0 c1 c2 c3 : Value) (hx : a.eval x = .slice (some ⟨b, 0, none⟩) 1 c)
    (h0 : w.cell? ⟨b, 0, none⟩ = some c0) (h1 : w.cell? ⟨b, 1, none⟩ = some c1) (h2 : w.cell? ⟨b, 2, none⟩ = some c2) (h3 : w.cell? ⟨b, 3, none⟩ = some c3)
    (o0 : c0.oneCell' = true) (o1 : c1.oneCell' = true) (o2 : c2.oneCell' = true) (o3 : c3.oneCell' = true) (hn : n + 1 ≤ 1759218604441) (hbase : base ≤ w.heap.size)
    (h : ∀ v' w', w'.ownsRow base 32 4 v' (n + 1) (xs ++ [c0, c1, c2, c3]) → w.grownBy w' v.ownBlock → (v'.ownBlock = v.ownBlock ∨ v'.ownBlock = some w.heap.size) → wpList Try.prog ops Q rest (a.put o.dst v') w') : wpList Try.prog ops Q (o :: rest) a w := by
  obtain ⟨i0, hi, hz0, hz1, hz2⟩ := info_parts infoU
  refine wpList_append_own_at w hgd s x 22 ho base 32 i0 _ 4 80 Try.underlying22 hi hz0 hz1 hz2 rfl (by decide) v n xs hs hown ⟨b, 0, none⟩ 1 c [c0, c1, c2, c3] hx rfl ?_ ?_ (by unfold maxLen; omega) (by omega) hbase (fun v' w' h2 h3 _ h5 => h v' w' h2 h3 h5)
  · intro j u hu
    have hadd : ∀ i, (⟨b, 0, none⟩ : Addr).add i = ⟨b, i, none⟩ := fun i => by unfold Addr.add; split <;> simp_all
    rw [hadd]
    match j, hu with
    | 0, hu => simp at hu; subst hu; exact h0
    | 1, hu => simp at hu; subst hu; exact h1
    | 2, hu => simp at hu; subst hu; exact h2
    | 3, hu => simp at hu; subst hu; exact h3
    | j + 4, hu => simp at hu
  · intro u hu
    simp at hu
    rcases hu with rfl | rfl | rfl | rfl <;> assumption

/-- .. as one step of a region that draws its order. -/
theorem step_append_unit {w : World} {ops : Array Oper} {o : Oper} {a : Act} {K : Act → World → Prop} {Q : Exit → Act → World → Prop} {E : Prop} (hgd : o.guard = none) (s x : Operand)
    (ho : o.op = .call { callee := .builtin .append, args := #[s, x], argTypes := #[22, 22] })
    (base : Nat) (v : Value) (n : Nat) (xs : List Value) (hs : a.eval s = v) (hown : w.ownsRow base 32 4 v n xs)
    (b c : Nat) (c0 c1 c2 c3 : Value) (hx : a.eval x = .slice (some ⟨b, 0, none⟩) 1 c)
    (h0 : w.cell? ⟨b, 0, none⟩ = some c0) (h1 : w.cell? ⟨b, 1, none⟩ = some c1) (h2 : w.cell? ⟨b, 2, none⟩ = some c2) (h3 : w.cell? ⟨b, 3, none⟩ = some c3)
    (o0 : c0.oneCell' = true) (o1 : c1.oneCell' = true) (o2 : c2.oneCell' = true) (o3 : c3.oneCell' = true) (hn : n + 1 ≤ 1759218604441) (hbase : base ≤ w.heap.size)
    (h : ∀ v' w', w'.ownsRow base 32 4 v' (n + 1) (xs ++ [c0, c1, c2, c3]) → w.grownBy w' v.ownBlock → (v'.ownBlock = v.ownBlock ∨ v'.ownBlock = some w.heap.size) → K (a.put o.dst v') w') :
    if Region.wanted o (yielded ops a.tmps) = true then Oper.wp Try.prog o a w K Q else E := by
  have hw : Region.wanted o (yielded ops a.tmps) = true := by simp [Region.wanted, hgd]
  rw [if_pos hw]
  obtain ⟨i0, hi, hz0, hz1, hz2⟩ := info_parts infoU
  have hadd : ∀ i, (⟨b, 0, none⟩ : Addr).add i = ⟨b, i, none⟩ := fun i => by unfold Addr.add; split <;> simp_all
  obtain ⟨v', w', hr, r2, r3, r4, r5⟩ := run_append_own_at (P := Try.prog) w base 22 o.type 32 i0 _ 4 80 Try.underlying22 hi hz0 hz1 hz2 rfl (by decide) v n xs hown ⟨b, 0, none⟩ 1 c [c0, c1, c2, c3] rfl
    (fun j u hu => by
      rw [hadd]
      match j, hu with
      | 0, hu => simp at hu; subst hu; exact h0
      | 1, hu => simp at hu; subst hu; exact h1
      | 2, hu => simp at hu; subst hu; exact h2
      | 3, hu => simp at hu; subst hu; exact h3
      | j + 4, hu => simp at hu)
    (fun u hu => by
      simp at hu
      rcases hu with rfl | rfl | rfl | rfl <;> assumption) (by unfold maxLen; omega) (by omega) hbase
  unfold Oper.wp execOp
  simp only [ho, resolve, invoke, builtin, Sem.run_bind, Sem.run_pure, Result.andThen_ok, List.map_toArray, List.map_cons, List.map_nil, hs, hx, hr]
  exact h v' w' r2 r3 r5

theorem ownsRow_new0 {w : World} {base g : Nat} {e : TypeId} (hb : base ≤ w.heap.size) (hg : g = w.heap.size) : (w.alloc (.cells #[] e)).ownsRow base e 1 (.slice (some ⟨g, 0, none⟩) 0 0) 0 [] := by
  subst hg
  exact World.ownsRow_made w #[] 0 hb (Nat.zero_le _) rfl

theorem own_below {w w' : World} {base : Nat} {e : TypeId} {size : Nat} {v : Value} {n : Nat} {xs : List Value} (h : w.ownsRow base e size v n xs) (hb : Below w.heap.size w w') : w'.ownsRow base e size v n xs := by
  obtain ⟨h1, h2⟩ := h
  refine ⟨h1, ?_⟩
  rcases h2 with h2 | ⟨g, cap, cur, hv, hg, hh, r⟩
  · exact Or.inl h2
  · exact Or.inr ⟨g, cap, cur, hv, hg, by rw [hb.block g (Array.getElem?_eq_some_iff.1 hh).1]; exact hh, r⟩

theorem block_grown {w w' : World} {row : Option Nat} {g : Nat} {o : Obj} (h : w.heap[g]? = some o) (hg : w.grownBy w' row) (hne : some g ≠ row) : w'.heap[g]? = some o := by
  rw [hg.block g (Array.getElem?_eq_some_iff.1 h).1 hne]; exact h
theorem block_alloc {w : World} {g : Nat} {o : Obj} (h : w.heap[g]? = some o) (x : Obj) : (w.alloc x).heap[g]? = some o := by
  rw [Below.heap_alloc _ _ _ (Array.getElem?_eq_some_iff.1 h).1]; exact h
theorem block_new (w : World) (x : Obj) {g : Nat} (hg : g = w.heap.size) : (w.alloc x).heap[g]? = some x := by subst hg; exact heap_alloc_new w _
theorem block_setCell {w : World} {g : Nat} {o : Obj} (h : w.heap[g]? = some o) {a : Addr} (hne : g ≠ a.block) (v : Value) : (w.setCell a v).heap[g]? = some o := by
  rw [Below.heap_setCell _ _ _ _ hne]; exact h
theorem block_cell {w : World} {g i : Nat} {c : Array Value} {e : TypeId} {fz : Nat × Nat} {v : Value} (h : w.heap[g]? = some (.cells c e fz)) (hi : c[i]? = some v) : w.cell? ⟨g, i, none⟩ = some v := by
  simp [World.cell?, h, hi]
theorem block_free {w : World} {g i : Nat} {c : Array Value} {e : TypeId} (h : w.heap[g]? = some (.cells c e (0, 0))) : w.frozen? ⟨g, i, none⟩ = false := by
  simp [World.frozen?, h]
theorem block_set {w : World} {g i : Nat} {c : Array Value} {e : TypeId} {fz : Nat × Nat} (h : w.heap[g]? = some (.cells c e fz)) (v : Value) : (w.setCell ⟨g, i, none⟩ v).heap[g]? = some (.cells (c.setIfInBounds i v) e fz) := by
  simp [World.setCell, Array.getElem?_modify, h]
theorem below_grown {B : Nat} {a w w' : World} {row : Option Nat} (h : Below B a w) (hg : w.grownBy w' row) (hB : B ≤ w.heap.size) (hr : ∀ k, row = some k → B ≤ k) : Below B a w' := h.grown hg hB hr
theorem Kept.trans {p : Nat → Prop} {a b c : World} (h : Kept p a b) (k : Kept p b c) (hs : a.heap.size ≤ b.heap.size) : Kept p a c := fun i hp hi => (k i hp (by omega)).trans (h i hp hi)
theorem obS (b o n c : Nat) : (Value.slice (some ⟨b, o, none⟩) n c).ownBlock = some b := rfl
/-- The block of a list that was appended to, as a bound. -/
theorem lies {v v' : Value} {s L : Nat} (hl : v'.ownBlock = v.ownBlock ∨ v'.ownBlock = some s) (hv : ∀ j, v.ownBlock = some j → L ≤ j) (hs : L ≤ s) : ∀ j, v'.ownBlock = some j → L ≤ j := by
  intro j hj
  rcases hl with h | h
  · exact hv j (h ▸ hj)
  · rw [h] at hj; cases hj; exact hs
theorem liesS {b o n c L : Nat} (h : L ≤ b) : ∀ j, (Value.slice (some ⟨b, o, none⟩) n c).ownBlock = some j → L ≤ j := by
  intro j hj; cases hj; exact h
theorem notRow {v : Value} {g L : Nat} (h : ∀ j, v.ownBlock = some j → L ≤ j) (hg : g < L) : some g ≠ v.ownBlock := fun e => absurd (h g e.symm) (by omega)
theorem ownsRow_cap {w : World} {base g n m cap size : Nat} {e : TypeId} {xs : List Value} (h : w.ownsRow base e size (.slice (some ⟨g, 0, none⟩) m cap) n xs) : n ≤ cap := by
  rcases h.2 with ⟨h, _⟩ | ⟨g', cap', cur, hv, _, _, hc, _⟩
  · cases h
  · simp at hv
    omega
theorem kept_one {w w' : World} {g : Nat} (h : ∀ o, w.heap[g]? = some o → w'.heap[g]? = some o) : Kept (fun b => b = g) w w' := by
  intro b hb hlt
  subst hb
  rw [h _ (Array.getElem?_eq_getElem hlt), Array.getElem?_eq_getElem hlt]
/-- A block of cells that may be written. -/
def Fz (w : World) (b : Nat) : Prop := ∃ c e, w.heap[b]? = some (.cells c e (0, 0))
theorem Fz.free {w : World} {b i : Nat} (h : Fz w b) : w.frozen? ⟨b, i, none⟩ = false := by obtain ⟨c, e, h⟩ := h; exact block_free h
theorem Fz.lt {w : World} {b : Nat} (h : Fz w b) : b < w.heap.size := by obtain ⟨c, e, h⟩ := h; exact (Array.getElem?_eq_some_iff.1 h).1
theorem Fz.eq {w w' : World} {b : Nat} (h : Fz w b) (he : w'.heap[b]? = w.heap[b]?) : Fz w' b := by obtain ⟨c, e, h⟩ := h; exact ⟨c, e, he.trans h⟩
theorem Fz.below {w w' : World} {b : Nat} (h : Fz w b) (hb : Below w.heap.size w w') : Fz w' b := h.eq (hb.block b h.lt)
theorem Fz.set {w : World} {b : Nat} (h : Fz w b) (g i : Nat) (v : Value) : Fz (w.setCell ⟨g, i, none⟩ v) b := by
  obtain ⟨c, e, h⟩ := h
  by_cases hg : b = g
  · subst hg; exact ⟨_, _, block_set h v⟩
  · exact ⟨c, e, block_setCell h hg v⟩
theorem own_fz {w : World} {base n g : Nat} {v : Value} {xs : List Value} {e : TypeId} {size : Nat} (h : w.ownsRow base e size v n xs) (hg : v.ownBlock = some g) : Fz w g := by
  rcases h.2 with ⟨h, _⟩ | ⟨g', cap', cur, hv, _, hh, _⟩
  · subst h; cases hg
  · subst hv
    simp [Value.ownBlock] at hg
    subst hg
    exact ⟨_, _, hh⟩
end Go.Proofs.Ytlhlbckmifgeeaa
