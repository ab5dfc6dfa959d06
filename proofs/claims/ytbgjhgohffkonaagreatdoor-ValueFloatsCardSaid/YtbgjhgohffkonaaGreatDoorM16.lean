/- Appending strings, and units, to a list that the call has made. -/
import Derived.Test.YtbgjhgohffkonaaGreatDoorM03
import Derived.Test.YtbgjhgohffkonaaGreatDoorM15
import Derived.Maps.AppendAt
import Derived.Laws.AppendOwnNone
import Derived.Test.YtbgjhgohffkonaaGreatDoorProg
import Derived.WalkKit
import Derived.Handy
import Derived.Laws.Rows
import Derived.BigQuiet
namespace Go.Proofs.YtbgjhgohffkonaaGreatDoor
open Go.RowKit

theorem infoS : (Tryz.prog.info? 9).map (fun i => (i.zero, i.size, i.bytes)) = some (some (.string ⟨#[]⟩), 1, 16) := by kernel_rfl
theorem nil_of_none {p : Nat → Prop} {w : World} {n cap : Nat} {ss : List ByteArray} (h : SLP p w (.slice none n cap) ss) : n = 0 ∧ cap = 0 ∧ ss = [] := by
  obtain ⟨a, cap', hv, hz, hl, hc⟩ := h
  simp only [Value.slice.injEq] at hv
  obtain ⟨rfl, rfl, rfl⟩ := hv
  have : ss = [] := by
    cases ss with
    | nil => rfl
    | cons x r =>
      obtain ⟨b, off, hh, _⟩ := hc 0 x rfl
      cases hh
  subst this
  exact ⟨rfl, hz rfl, rfl⟩

/-- append(list of the call's own, any list of strings ...). -/
theorem append_strs {w : World} {ops : Array Oper} {rest : List Oper} {o : Oper} {a : Act} {Q : Exit → Act → World → Prop} (hgd : o.guard = none) (s x : Operand)
    (ho : o.op = .call { callee := .builtin .append, args := #[s, x], argTypes := #[34, 34] })
    (base : Nat) (v : Value) (n : Nat) (xs : List Value) (hs : a.eval s = v) (hown : w.ownsRow base 9 1 v n xs)
    (y : Value) (ss : List ByteArray) (p : Nat → Prop) (hx : a.eval x = y) (hy : SLP p w y ss) (hn : n + ss.length ≤ 8796093022208) (hbase : base ≤ w.heap.size)
    (h : ∀ v' w', w'.ownsRow base 9 1 v' (n + ss.length) (xs ++ ss.map Value.string) → w.grownBy w' v.ownBlock → (v'.ownBlock = v.ownBlock ∨ v'.ownBlock = some w.heap.size) → wpList Tryz.prog ops Q rest (a.put o.dst v') w') : wpList Tryz.prog ops Q (o :: rest) a w := by
  obtain ⟨i0, hi, hz0, hz1, hz2⟩ := info_parts infoS
  obtain ⟨ad, cap, rfl, hz, hl, hc⟩ := id hy
  cases ad with
  | none =>
    obtain ⟨h0, rfl, rfl⟩ := nil_of_none hy
    exact wpList_append_own_none hgd s x 34 ho base 9 i0 1 Tryz.underlying34 hi v n xs hs hown hx (h v w (by simpa using hown) ⟨rfl, rfl, rfl, Nat.le_refl _, fun _ _ _ => rfl⟩ (Or.inl rfl))
  | some ad =>
    refine wpList_append_own_at w hgd s x 34 ho base 9 i0 _ 1 16 Tryz.underlying34 hi hz0 hz1 hz2 rfl (by decide) v n xs hs hown ad ss.length cap (ss.map Value.string) hx (by simp) ?_ ?_ (by unfold maxLen; omega) (by omega) hbase (fun v' w' h2 h3 _ h5 => h v' w' h2 h3 h5)
    · intro j u hu
      rw [List.getElem?_map] at hu
      cases hs' : ss[j]? with
      | none => rw [hs'] at hu; simp at hu
      | some t =>
        rw [hs'] at hu
        simp at hu
        obtain ⟨b, off, hh, hcell, _⟩ := hc j t hs'
        cases hh
        rw [← hu]
        have hadd : (⟨b, off, none⟩ : Addr).add j = ⟨b, off + j, none⟩ := by unfold Addr.add; split <;> simp_all
        rw [hadd]; exact hcell
    · intro u hu
      obtain ⟨t, _, rfl⟩ := List.mem_map.1 hu
      rfl

/-- append(list of the call's own, one string), the string lying in a cell. -/
theorem append_str {w : World} {ops : Array Oper} {rest : List Oper} {o : Oper} {a : Act} {Q : Exit → Act → World → Prop} (hgd : o.guard = none) (s x : Operand)
    (ho : o.op = .call { callee := .builtin .append, args := #[s, x], argTypes := #[34, 34] })
    (base : Nat) (v : Value) (n : Nat) (xs : List Value) (hs : a.eval s = v) (hown : w.ownsRow base 9 1 v n xs)
    (b c : Nat) (t : ByteArray) (hx : a.eval x = .slice (some ⟨b, 0, none⟩) 1 c) (hy : w.cell? ⟨b, 0, none⟩ = some (.string t)) (hn : n + 1 ≤ 8796093022208) (hbase : base ≤ w.heap.size)
    (h : ∀ v' w', w'.ownsRow base 9 1 v' (n + 1) (xs ++ [.string t]) → w.grownBy w' v.ownBlock → (v'.ownBlock = v.ownBlock ∨ v'.ownBlock = some w.heap.size) → wpList Tryz.prog ops Q rest (a.put o.dst v') w') : wpList Tryz.prog ops Q (o :: rest) a w := by
  obtain ⟨i0, hi, hz0, hz1, hz2⟩ := info_parts infoS
  refine wpList_append_own_at w hgd s x 34 ho base 9 i0 _ 1 16 Tryz.underlying34 hi hz0 hz1 hz2 rfl (by decide) v n xs hs hown ⟨b, 0, none⟩ 1 c [.string t] hx rfl ?_ ?_ (by unfold maxLen; omega) (by omega) hbase (fun v' w' h2 h3 _ h5 => h v' w' h2 h3 h5)
  · intro j u hu
    match j, hu with
    | 0, hu => simp at hu; subst hu; exact hy
    | j + 1, hu => simp at hu
  · intro u hu
    simp at hu
    subst hu; rfl

theorem ownsRow_new0 {w : World} {base g : Nat} {e : TypeId} (hb : base ≤ w.heap.size) (hg : g = w.heap.size) : (w.alloc (.cells #[] e)).ownsRow base e 1 (.slice (some ⟨g, 0, none⟩) 0 0) 0 [] := by
  subst hg
  exact World.ownsRow_made w #[] 0 hb (Nat.zero_le _) rfl

theorem below_grown {B : Nat} {a w w' : World} {row : Option Nat} (h : Below B a w) (hg : w.grownBy w' row) (hB : B ≤ w.heap.size) (hr : ∀ k, row = some k → B ≤ k) : Below B a w' := h.grown hg hB hr
theorem Kept.trans {p : Nat → Prop} {a b c : World} (h : Kept p a b) (k : Kept p b c) (hs : a.heap.size ≤ b.heap.size) : Kept p a c := fun i hp hi => (k i hp (by omega)).trans (h i hp hi)
theorem obS (b o n c : Nat) : (Value.slice (some ⟨b, o, none⟩) n c).ownBlock = some b := rfl
/-- The block of a list that was appended to, as a bound. -/
theorem lies {v v' : Value} {s L : Nat} (hl : v'.ownBlock = v.ownBlock ∨ v'.ownBlock = some s) (hv : ∀ j, v.ownBlock = some j → L ≤ j) (hs : L ≤ s) : ∀ j, v'.ownBlock = some j → L ≤ j := by
  intro j hj
  rcases hl with h | h
  · exact hv j (h ▸ hj)
  · rw [h] at hj; cases hj; exact hs
theorem liesS {b o n c L : Nat} (h : L ≤ b) : ∀ j, (Value.slice (some ⟨b, o, none⟩) n c).ownBlock = some j → L ≤ j := by
  intro j hj; cases hj; exact h
theorem notRow {v : Value} {g L : Nat} (h : ∀ j, v.ownBlock = some j → L ≤ j) (hg : g < L) : some g ≠ v.ownBlock := fun e => absurd (h g e.symm) (by omega)
theorem ownsRow_cap {w : World} {base g n m cap size : Nat} {e : TypeId} {xs : List Value} (h : w.ownsRow base e size (.slice (some ⟨g, 0, none⟩) m cap) n xs) : n ≤ cap := by
  rcases h.2 with ⟨h, _⟩ | ⟨g', cap', cur, hv, _, _, hc, _⟩
  · cases h
  · simp at hv
    omega
theorem kept_one {w w' : World} {g : Nat} (h : ∀ o, w.heap[g]? = some o → w'.heap[g]? = some o) : Kept (fun b => b = g) w w' := by
  intro b hb hlt
  subst hb
  rw [h _ (Array.getElem?_eq_getElem hlt), Array.getElem?_eq_getElem hlt]
/-- A block of cells that may be written. -/
def Fz (w : World) (b : Nat) : Prop := ∃ c e, w.heap[b]? = some (.cells c e (0, 0))
theorem Fz.free {w : World} {b i : Nat} (h : Fz w b) : w.frozen? ⟨b, i, none⟩ = false := by obtain ⟨c, e, h⟩ := h; exact block_free h
theorem Fz.lt {w : World} {b : Nat} (h : Fz w b) : b < w.heap.size := by obtain ⟨c, e, h⟩ := h; exact (Array.getElem?_eq_some_iff.1 h).1
theorem Fz.eq {w w' : World} {b : Nat} (h : Fz w b) (he : w'.heap[b]? = w.heap[b]?) : Fz w' b := by obtain ⟨c, e, h⟩ := h; exact ⟨c, e, he.trans h⟩
theorem Fz.below {w w' : World} {b : Nat} (h : Fz w b) (hb : Below w.heap.size w w') : Fz w' b := h.eq (hb.block b h.lt)
theorem Fz.set {w : World} {b : Nat} (h : Fz w b) (g i : Nat) (v : Value) : Fz (w.setCell ⟨g, i, none⟩ v) b := by
  obtain ⟨c, e, h⟩ := h
  by_cases hg : b = g
  · subst hg; exact ⟨_, _, block_set h v⟩
  · exact ⟨c, e, block_setCell h hg v⟩
theorem own_fz {w : World} {base n g : Nat} {v : Value} {xs : List Value} {e : TypeId} {size : Nat} (h : w.ownsRow base e size v n xs) (hg : v.ownBlock = some g) : Fz w g := by
  rcases h.2 with ⟨h, _⟩ | ⟨g', cap', cur, hv, _, hh, _⟩
  · subst h; cases hg
  · subst hv
    simp [Value.ownBlock] at hg
    subst hg
    exact ⟨_, _, hh⟩
end Go.Proofs.YtbgjhgohffkonaaGreatDoor

/- The reference's functions that only read: each answers as the plain function does. -/
namespace Go.Proofs.YtbgjhgohffkonaaGreatDoor
open Go.RowKit

/-- The world has but drawn. -/
def Dr (w w' : World) : Prop := ∃ n, w' = w.drewN n
theorem Dr.refl (w : World) : Dr w w := ⟨0, rfl⟩
theorem Dr.mk (w : World) (n : Nat) : Dr w (w.drewN n) := ⟨n, rfl⟩
theorem Dr.below {w w' : World} (h : Dr w w') : Below w.heap.size w w' := by obtain ⟨n, rfl⟩ := h; exact below_drewN' w n

def Same1 (s1 s2 : List ByteArray) (k : Nat) : Prop := ∀ j : Nat, j < k → s1[j]? = s2[j]?

theorem Same1.step {s1 s2 : List ByteArray} {k : Nat} {x y : ByteArray} (h : Same1 s1 s2 k) (hx : s1[k]? = some x) (hy : s2[k]? = some y) (he : (!x.toList == y.toList) = false) : Same1 s1 s2 (k + 1) := by
  intro j hj
  by_cases hjk : j < k
  · exact h j hjk
  · obtain rfl : j = k := by omega
    simp only [Bool.not_eq_false'] at he
    rw [hx, hy, eqs_true.1 he]
theorem Same1.no {s1 s2 : List ByteArray} {k : Nat} {x y : ByteArray} (hx : s1[k]? = some x) (hy : s2[k]? = some y) (he : (!x.toList == y.toList) = true) : decide (s1 = s2) = false := by
  simp only [Bool.not_eq_true'] at he
  rw [decide_eq_false_iff_not]
  intro h
  rw [h, hy] at hx
  exact eqs_false.1 he (Option.some.inj hx).symm
theorem Same1.yes {s1 s2 : List ByteArray} {n : Nat} (h : Same1 s1 s2 n) (h1 : s1.length = n) (h2 : s2.length = n) : decide (s1 = s2) = true := by
  rw [decide_eq_true_eq]
  apply List.ext_getElem?
  intro j
  by_cases hj : j < n
  · exact h j hj
  · rw [List.getElem?_eq_none (by omega), List.getElem?_eq_none (by omega)]

def FindTo (us : List U) (s : ByteArray) (k : Nat) : Prop := ∀ (j : Nat) (x : U), j < k → us[j]? = some x → (x.name.toList == s.toList) = false
theorem FindTo.step {us : List U} {s : ByteArray} {k : Nat} {u : U} (h : FindTo us s k) (hu : us[k]? = some u) (he : (u.name.toList == s.toList) = false) : FindTo us s (k + 1) := by
  intro j x hj hx
  by_cases hjk : j < k
  · exact h j x hjk hx
  · obtain rfl : j = k := by omega
    rw [hu] at hx
    cases hx
    exact he

theorem sameU_of {x y : U} {b1 b2 : Bool} (h1 : (x.name.toList == y.name.toList) = b1) (h2 : (x.start.toList == y.start.toList) = b2) : sameU x y = (b1 && b2 && decide (x.req = y.req) && decide (x.aft = y.aft)) := by
  simp [sameU, h1, h2]

end Go.Proofs.YtbgjhgohffkonaaGreatDoor

/- Values of the laws: rows of six cells; what makes them. -/
namespace Go.Proofs.YtbgjhgohffkonaaGreatDoor
open Go.RowKit

theorem row6 {w : World} {g : Nat} {T : TypeId} {a0 a1 a2 a3 a4 a5 : Value} (h : w.heap[g]? = some (.cells #[a0, a1, a2, a3, a4, a5] T (0, 0))) (b0 b1 b2 b3 b4 b5 : Value) :
    ((((((w.setCell ⟨g, 0, none⟩ b0).setCell ⟨g, 1, none⟩ b1).setCell ⟨g, 2, none⟩ b2).setCell ⟨g, 3, none⟩ b3).setCell ⟨g, 4, none⟩ b4).setCell ⟨g, 5, none⟩ b5).heap[g]? = some (.cells #[b0, b1, b2, b3, b4, b5] T (0, 0)) :=
  block_set (i := 5) (block_set (i := 4) (block_set (i := 3) (block_set (i := 2) (block_set (i := 1) (block_set (i := 0) h b0) b1) b2) b3) b4) b5
/-- A float is stored as any cell is. -/
theorem store_flt (W : World) (a : Addr) (x : Nat) : (store a (.float .f64 x)).run Tryz.prog W = match W.cell? a with
    | some _ => if W.frozen? a then .halt (.unsupported (.unsafePointer "a write to bytes that a string shares")) W else .ok () (W.setCell a (.float .f64 x))
    | none => match W.farStore Tryz.prog a (.float .f64 x) (Mode.plain == .atomic) with
      | .ok (w', _) => .ok () w'
      | .error h => .halt h W := run_store Tryz.prog W a (.float .f64 x) .plain rfl
theorem whole_any (n : Int) (w : World) : Calls Tryz.prog 12 #[.int .i64 n] w fun e w' => e = .returned (.agg #[.int .i64 2, .int .i64 (n), .float .f64 0, .string ⟨#[]⟩, .slice none 0 0, .slice none 0 0]) ∧ Below w.heap.size w w' := by
  have hsf := store_flt
  go_enter Tryz.func12, Tryz.ntmps12
  go_wp2_with fail
  refine bodyPost_ret (results_cell_row rfl _ _ w.heap.size 37 _ (0, 0) _ rfl (block_new _ _ rfl) Tryz.underlying37 rfl (by kernel_rfl)) rfl ?_
  exact ⟨rfl, (by (repeat' (first | (with_reducible exact Below.refl _ _) | (with_reducible assumption) | (with_reducible refine below_drewN ?_ _) | (with_reducible refine Below.drew ?_) | (with_reducible refine Below.alloc ?_ ?_ _) | (with_reducible refine Below.setCell ?_ ?_ _) | omega | (simp; done) | (simp; omega))))⟩
theorem real_any (b : Nat) (w : World) : Calls Tryz.prog 9 #[.float .f64 b] w fun e w' => e = .returned (.agg #[.int .i64 3, .int .i64 0, .float .f64 (b), .string ⟨#[]⟩, .slice none 0 0, .slice none 0 0]) ∧ Below w.heap.size w w' := by
  have hsf := store_flt
  go_enter Tryz.func9, Tryz.ntmps9
  go_wp2_with fail
  refine bodyPost_ret (results_cell_row rfl _ _ w.heap.size 37 _ (0, 0) _ rfl (block_new _ _ rfl) Tryz.underlying37 rfl (by kernel_rfl)) rfl ?_
  exact ⟨rfl, (by (repeat' (first | (with_reducible exact Below.refl _ _) | (with_reducible assumption) | (with_reducible refine below_drewN ?_ _) | (with_reducible refine Below.drew ?_) | (with_reducible refine Below.alloc ?_ ?_ _) | (with_reducible refine Below.setCell ?_ ?_ _) | omega | (simp; done) | (simp; omega))))⟩
end Go.Proofs.YtbgjhgohffkonaaGreatDoor

