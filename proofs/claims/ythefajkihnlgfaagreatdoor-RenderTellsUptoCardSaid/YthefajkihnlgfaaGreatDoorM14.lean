/- Appending strings, and units, to a list that the call has made. -/
import Derived.Test.YthefajkihnlgfaaGreatDoorM03
import Derived.Test.YthefajkihnlgfaaGreatDoorM13
import Derived.Maps.AppendAt
import Derived.Laws.AppendOwnNone
import Derived.Test.YthefajkihnlgfaaGreatDoorProg
import Derived.WalkKit
import Derived.Handy
import Derived.Laws.Rows
import Derived.BigQuiet
namespace Go.Proofs.YthefajkihnlgfaaGreatDoor
open Go.RowKit

theorem infoS : (Tryz.prog.info? 9).map (fun i => (i.zero, i.size, i.bytes)) = some (some (.string ⟨#[]⟩), 1, 16) := by kernel_rfl
theorem infoU : (Tryz.prog.info? 37).map (fun i => (i.zero, i.size, i.bytes)) = some (some (.agg #[.string ⟨#[]⟩, .string ⟨#[]⟩, .slice none 0 0, .slice none 0 0]), 4, 80) := by kernel_rfl

theorem nil_of_none {p : Nat → Prop} {w : World} {n cap : Nat} {ss : List ByteArray} (h : SLP p w (.slice none n cap) ss) : n = 0 ∧ cap = 0 ∧ ss = [] := by
  obtain ⟨a, cap', hv, hz, hl, hc⟩ := h
  simp only [Value.slice.injEq] at hv
  obtain ⟨rfl, rfl, rfl⟩ := hv
  have : ss = [] := by
    cases ss with
    | nil => rfl
    | cons x r =>
      obtain ⟨b, off, hh, _⟩ := hc 0 x rfl
      cases hh
  subst this
  exact ⟨rfl, hz rfl, rfl⟩

/-- append(list of the call's own, any list of strings ...). -/
theorem append_strs {w : World} {ops : Array Oper} {rest : List Oper} {o : Oper} {a : Act} {Q : Exit → Act → World → Prop} (hgd : o.guard = none) (s x : Operand)
    (ho : o.op = .call { callee := .builtin .append, args := #[s, x], argTypes := #[24, 24] })
    (base : Nat) (v : Value) (n : Nat) (xs : List Value) (hs : a.eval s = v) (hown : w.ownsRow base 9 1 v n xs)
    (y : Value) (ss : List ByteArray) (p : Nat → Prop) (hx : a.eval x = y) (hy : SLP p w y ss) (hn : n + ss.length ≤ 8796093022208) (hbase : base ≤ w.heap.size)
    (h : ∀ v' w', w'.ownsRow base 9 1 v' (n + ss.length) (xs ++ ss.map Value.string) → w.grownBy w' v.ownBlock → (v'.ownBlock = v.ownBlock ∨ v'.ownBlock = some w.heap.size) → wpList Tryz.prog ops Q rest (a.put o.dst v') w') : wpList Tryz.prog ops Q (o :: rest) a w := by
  obtain ⟨i0, hi, hz0, hz1, hz2⟩ := info_parts infoS
  obtain ⟨ad, cap, rfl, hz, hl, hc⟩ := id hy
  cases ad with
  | none =>
    obtain ⟨h0, rfl, rfl⟩ := nil_of_none hy
    exact wpList_append_own_none hgd s x 24 ho base 9 i0 1 Tryz.underlying24 hi v n xs hs hown hx (h v w (by simpa using hown) ⟨rfl, rfl, rfl, Nat.le_refl _, fun _ _ _ => rfl⟩ (Or.inl rfl))
  | some ad =>
    refine wpList_append_own_at w hgd s x 24 ho base 9 i0 _ 1 16 Tryz.underlying24 hi hz0 hz1 hz2 rfl (by decide) v n xs hs hown ad ss.length cap (ss.map Value.string) hx (by simp) ?_ ?_ (by unfold maxLen; omega) (by omega) hbase (fun v' w' h2 h3 _ h5 => h v' w' h2 h3 h5)
    · intro j u hu
      rw [List.getElem?_map] at hu
      cases hs' : ss[j]? with
      | none => rw [hs'] at hu; simp at hu
      | some t =>
        rw [hs'] at hu
        simp at hu
        obtain ⟨b, off, hh, hcell, _⟩ := hc j t hs'
        cases hh
        rw [← hu]
        have hadd : (⟨b, off, none⟩ : Addr).add j = ⟨b, off + j, none⟩ := by unfold Addr.add; split <;> simp_all
        rw [hadd]; exact hcell
    · intro u hu
      obtain ⟨t, _, rfl⟩ := List.mem_map.1 hu
      rfl

/-- append(list of the call's own, one string), the string lying in a cell. -/
theorem append_str {w : World} {ops : Array Oper} {rest : List Oper} {o : Oper} {a : Act} {Q : Exit → Act → World → Prop} (hgd : o.guard = none) (s x : Operand)
    (ho : o.op = .call { callee := .builtin .append, args := #[s, x], argTypes := #[24, 24] })
    (base : Nat) (v : Value) (n : Nat) (xs : List Value) (hs : a.eval s = v) (hown : w.ownsRow base 9 1 v n xs)
    (b c : Nat) (t : ByteArray) (hx : a.eval x = .slice (some ⟨b, 0, none⟩) 1 c) (hy : w.cell? ⟨b, 0, none⟩ = some (.string t)) (hn : n + 1 ≤ 8796093022208) (hbase : base ≤ w.heap.size)
    (h : ∀ v' w', w'.ownsRow base 9 1 v' (n + 1) (xs ++ [.string t]) → w.grownBy w' v.ownBlock → (v'.ownBlock = v.ownBlock ∨ v'.ownBlock = some w.heap.size) → wpList Tryz.prog ops Q rest (a.put o.dst v') w') : wpList Tryz.prog ops Q (o :: rest) a w := by
  obtain ⟨i0, hi, hz0, hz1, hz2⟩ := info_parts infoS
  refine wpList_append_own_at w hgd s x 24 ho base 9 i0 _ 1 16 Tryz.underlying24 hi hz0 hz1 hz2 rfl (by decide) v n xs hs hown ⟨b, 0, none⟩ 1 c [.string t] hx rfl ?_ ?_ (by unfold maxLen; omega) (by omega) hbase (fun v' w' h2 h3 _ h5 => h v' w' h2 h3 h5)
  · intro j u hu
    match j, hu with
    | 0, hu => simp at hu; subst hu; exact hy
    | j + 1, hu => simp at hu
  · intro u hu
    simp at hu
    subst hu; rfl

/-- append(list of the call's own, one unit), the unit's cells lying in a block. -/
theorem append_unit {w : World} {ops : Array Oper} {rest : List Oper} {o : Oper} {a : Act} {Q : Exit → Act → World → Prop} (hgd : o.guard = none) (s x : Operand)
    (ho : o.op = .call { callee := .builtin .append, args := #[s, x], argTypes := #[25, 25] })
    (base : Nat) (v : Value) (n : Nat) (xs : List Value) (hs : a.eval s = v) (hown : w.ownsRow base 37 4 v n xs)
    (b c : Nat) (c0 c1 c2 c3 : Value) (hx : a.eval x = .slice (some ⟨b, 0, none⟩) 1 c)
    (h0 : w.cell? ⟨b, 0, none⟩ = some c0) (h1 : w.cell? ⟨b, 1, none⟩ = some c1) (h2 : w.cell? ⟨b, 2, none⟩ = some c2) (h3 : w.cell? ⟨b, 3, none⟩ = some c3)
    (o0 : c0.oneCell' = true) (o1 : c1.oneCell' = true) (o2 : c2.oneCell' = true) (o3 : c3.oneCell' = true) (hn : n + 1 ≤ 1759218604441) (hbase : base ≤ w.heap.size)
    (h : ∀ v' w', w'.ownsRow base 37 4 v' (n + 1) (xs ++ [c0, c1, c2, c3]) → w.grownBy w' v.ownBlock → (v'.ownBlock = v.ownBlock ∨ v'.ownBlock = some w.heap.size) → wpList Tryz.prog ops Q rest (a.put o.dst v') w') : wpList Tryz.prog ops Q (o :: rest) a w := by
  obtain ⟨i0, hi, hz0, hz1, hz2⟩ := info_parts infoU
  refine wpList_append_own_at w hgd s x 25 ho base 37 i0 _ 4 80 Tryz.underlying25 hi hz0 hz1 hz2 rfl (by decide) v n xs hs hown ⟨b, 0, none⟩ 1 c [c0, c1, c2, c3] hx rfl ?_ ?_ (by unfold maxLen; omega) (by omega) hbase (fun v' w' h2 h3 _ h5 => h v' w' h2 h3 h5)
  · intro j u hu
    have hadd : ∀ i, (⟨b, 0, none⟩ : Addr).add i = ⟨b, i, none⟩ := fun i => by unfold Addr.add; split <;> simp_all
    rw [hadd]
    match j, hu with
    | 0, hu => simp at hu; subst hu; exact h0
    | 1, hu => simp at hu; subst hu; exact h1
    | 2, hu => simp at hu; subst hu; exact h2
    | 3, hu => simp at hu; subst hu; exact h3
    | j + 4, hu => simp at hu
  · intro u hu
    simp at hu
    rcases hu with rfl | rfl | rfl | rfl <;> assumption

/-- .. as one step of a region that draws its order. -/
theorem step_append_unit {w : World} {ops : Array Oper} {o : Oper} {a : Act} {K : Act → World → Prop} {Q : Exit → Act → World → Prop} {E : Prop} (hgd : o.guard = none) (s x : Operand)
    (ho : o.op = .call { callee := .builtin .append, args := #[s, x], argTypes := #[25, 25] })
    (base : Nat) (v : Value) (n : Nat) (xs : List Value) (hs : a.eval s = v) (hown : w.ownsRow base 37 4 v n xs)
    (b c : Nat) (c0 c1 c2 c3 : Value) (hx : a.eval x = .slice (some ⟨b, 0, none⟩) 1 c)
    (h0 : w.cell? ⟨b, 0, none⟩ = some c0) (h1 : w.cell? ⟨b, 1, none⟩ = some c1) (h2 : w.cell? ⟨b, 2, none⟩ = some c2) (h3 : w.cell? ⟨b, 3, none⟩ = some c3)
    (o0 : c0.oneCell' = true) (o1 : c1.oneCell' = true) (o2 : c2.oneCell' = true) (o3 : c3.oneCell' = true) (hn : n + 1 ≤ 1759218604441) (hbase : base ≤ w.heap.size)
    (h : ∀ v' w', w'.ownsRow base 37 4 v' (n + 1) (xs ++ [c0, c1, c2, c3]) → w.grownBy w' v.ownBlock → (v'.ownBlock = v.ownBlock ∨ v'.ownBlock = some w.heap.size) → K (a.put o.dst v') w') :
    if Region.wanted o (yielded ops a.tmps) = true then Oper.wp Tryz.prog o a w K Q else E := by
  have hw : Region.wanted o (yielded ops a.tmps) = true := by simp [Region.wanted, hgd]
  rw [if_pos hw]
  obtain ⟨i0, hi, hz0, hz1, hz2⟩ := info_parts infoU
  have hadd : ∀ i, (⟨b, 0, none⟩ : Addr).add i = ⟨b, i, none⟩ := fun i => by unfold Addr.add; split <;> simp_all
  obtain ⟨v', w', hr, r2, r3, r4, r5⟩ := run_append_own_at (P := Tryz.prog) w base 25 o.type 37 i0 _ 4 80 Tryz.underlying25 hi hz0 hz1 hz2 rfl (by decide) v n xs hown ⟨b, 0, none⟩ 1 c [c0, c1, c2, c3] rfl
    (fun j u hu => by
      rw [hadd]
      match j, hu with
      | 0, hu => simp at hu; subst hu; exact h0
      | 1, hu => simp at hu; subst hu; exact h1
      | 2, hu => simp at hu; subst hu; exact h2
      | 3, hu => simp at hu; subst hu; exact h3
      | j + 4, hu => simp at hu)
    (fun u hu => by
      simp at hu
      rcases hu with rfl | rfl | rfl | rfl <;> assumption) (by unfold maxLen; omega) (by omega) hbase
  unfold Oper.wp execOp
  simp only [ho, resolve, invoke, builtin, Sem.run_bind, Sem.run_pure, Result.andThen_ok, List.map_toArray, List.map_cons, List.map_nil, hs, hx, hr]
  exact h v' w' r2 r3 r5

theorem ownsRow_new0 {w : World} {base g : Nat} {e : TypeId} (hb : base ≤ w.heap.size) (hg : g = w.heap.size) : (w.alloc (.cells #[] e)).ownsRow base e 1 (.slice (some ⟨g, 0, none⟩) 0 0) 0 [] := by
  subst hg
  exact World.ownsRow_made w #[] 0 hb (Nat.zero_le _) rfl

theorem below_grown {B : Nat} {a w w' : World} {row : Option Nat} (h : Below B a w) (hg : w.grownBy w' row) (hB : B ≤ w.heap.size) (hr : ∀ k, row = some k → B ≤ k) : Below B a w' := h.grown hg hB hr
theorem Kept.trans {p : Nat → Prop} {a b c : World} (h : Kept p a b) (k : Kept p b c) (hs : a.heap.size ≤ b.heap.size) : Kept p a c := fun i hp hi => (k i hp (by omega)).trans (h i hp hi)
theorem obS (b o n c : Nat) : (Value.slice (some ⟨b, o, none⟩) n c).ownBlock = some b := rfl
/-- The block of a list that was appended to, as a bound. -/
theorem lies {v v' : Value} {s L : Nat} (hl : v'.ownBlock = v.ownBlock ∨ v'.ownBlock = some s) (hv : ∀ j, v.ownBlock = some j → L ≤ j) (hs : L ≤ s) : ∀ j, v'.ownBlock = some j → L ≤ j := by
  intro j hj
  rcases hl with h | h
  · exact hv j (h ▸ hj)
  · rw [h] at hj; cases hj; exact hs
theorem liesS {b o n c L : Nat} (h : L ≤ b) : ∀ j, (Value.slice (some ⟨b, o, none⟩) n c).ownBlock = some j → L ≤ j := by
  intro j hj; cases hj; exact h
theorem notRow {v : Value} {g L : Nat} (h : ∀ j, v.ownBlock = some j → L ≤ j) (hg : g < L) : some g ≠ v.ownBlock := fun e => absurd (h g e.symm) (by omega)
theorem ownsRow_cap {w : World} {base g n m cap size : Nat} {e : TypeId} {xs : List Value} (h : w.ownsRow base e size (.slice (some ⟨g, 0, none⟩) m cap) n xs) : n ≤ cap := by
  rcases h.2 with ⟨h, _⟩ | ⟨g', cap', cur, hv, _, _, hc, _⟩
  · cases h
  · simp at hv
    omega
theorem kept_one {w w' : World} {g : Nat} (h : ∀ o, w.heap[g]? = some o → w'.heap[g]? = some o) : Kept (fun b => b = g) w w' := by
  intro b hb hlt
  subst hb
  rw [h _ (Array.getElem?_eq_getElem hlt), Array.getElem?_eq_getElem hlt]
/-- A block of cells that may be written. -/
def Fz (w : World) (b : Nat) : Prop := ∃ c e, w.heap[b]? = some (.cells c e (0, 0))
theorem Fz.free {w : World} {b i : Nat} (h : Fz w b) : w.frozen? ⟨b, i, none⟩ = false := by obtain ⟨c, e, h⟩ := h; exact block_free h
theorem Fz.lt {w : World} {b : Nat} (h : Fz w b) : b < w.heap.size := by obtain ⟨c, e, h⟩ := h; exact (Array.getElem?_eq_some_iff.1 h).1
theorem Fz.eq {w w' : World} {b : Nat} (h : Fz w b) (he : w'.heap[b]? = w.heap[b]?) : Fz w' b := by obtain ⟨c, e, h⟩ := h; exact ⟨c, e, he.trans h⟩
theorem Fz.below {w w' : World} {b : Nat} (h : Fz w b) (hb : Below w.heap.size w w') : Fz w' b := h.eq (hb.block b h.lt)
theorem Fz.set {w : World} {b : Nat} (h : Fz w b) (g i : Nat) (v : Value) : Fz (w.setCell ⟨g, i, none⟩ v) b := by
  obtain ⟨c, e, h⟩ := h
  by_cases hg : b = g
  · subst hg; exact ⟨_, _, block_set h v⟩
  · exact ⟨c, e, block_setCell h hg v⟩
theorem own_fz {w : World} {base n g : Nat} {v : Value} {xs : List Value} {e : TypeId} {size : Nat} (h : w.ownsRow base e size v n xs) (hg : v.ownBlock = some g) : Fz w g := by
  rcases h.2 with ⟨h, _⟩ | ⟨g', cap', cur, hv, _, hh, _⟩
  · subst h; cases hg
  · subst hv
    simp [Value.ownBlock] at hg
    subst hg
    exact ⟨_, _, hh⟩
end Go.Proofs.YthefajkihnlgfaaGreatDoor

/- The reference's functions that only read: each answers as the plain function does. -/
namespace Go.Proofs.YthefajkihnlgfaaGreatDoor
open Go.RowKit

/-- The world has but drawn. -/
def Dr (w w' : World) : Prop := ∃ n, w' = w.drewN n
theorem Dr.refl (w : World) : Dr w w := ⟨0, rfl⟩
theorem Dr.mk (w : World) (n : Nat) : Dr w (w.drewN n) := ⟨n, rfl⟩
theorem Dr.below {w w' : World} (h : Dr w w') : Below w.heap.size w w' := by obtain ⟨n, rfl⟩ := h; exact below_drewN' w n

def Same1 (s1 s2 : List ByteArray) (k : Nat) : Prop := ∀ j : Nat, j < k → s1[j]? = s2[j]?

theorem Same1.step {s1 s2 : List ByteArray} {k : Nat} {x y : ByteArray} (h : Same1 s1 s2 k) (hx : s1[k]? = some x) (hy : s2[k]? = some y) (he : (!x.toList == y.toList) = false) : Same1 s1 s2 (k + 1) := by
  intro j hj
  by_cases hjk : j < k
  · exact h j hjk
  · obtain rfl : j = k := by omega
    simp only [Bool.not_eq_false'] at he
    rw [hx, hy, eqs_true.1 he]
theorem Same1.no {s1 s2 : List ByteArray} {k : Nat} {x y : ByteArray} (hx : s1[k]? = some x) (hy : s2[k]? = some y) (he : (!x.toList == y.toList) = true) : decide (s1 = s2) = false := by
  simp only [Bool.not_eq_true'] at he
  rw [decide_eq_false_iff_not]
  intro h
  rw [h, hy] at hx
  exact eqs_false.1 he (Option.some.inj hx).symm
theorem Same1.yes {s1 s2 : List ByteArray} {n : Nat} (h : Same1 s1 s2 n) (h1 : s1.length = n) (h2 : s2.length = n) : decide (s1 = s2) = true := by
  rw [decide_eq_true_eq]
  apply List.ext_getElem?
  intro j
  by_cases hj : j < n
  · exact h j hj
  · rw [List.getElem?_eq_none (by omega), List.getElem?_eq_none (by omega)]

set_option maxHeartbeats 400000 in
theorem sameList_any {v1 v2 : Value} {s1 s2 : List ByteArray} {w : World} (h1 : SL w v1 s1) (h2 : SL w v2 s2) :
    Calls Tryz.prog 24 #[v1, v2] w fun e w' => e = .returned (.bool (decide (s1 = s2))) ∧ Dr w w' := by
  obtain ⟨a1, cap1, rfl, _, hm1, hc1⟩ := h1
  obtain ⟨a2, cap2, rfl, _, hm2, hc2⟩ := h2
  generalize hn1 : s1.length = n1 at *
  generalize hn2 : s2.length = n2 at *
  have HN1 := Lib.hid hn1
  have HN2 := Lib.hid hn2
  have HC1 := Lib.hid hc1
  have HC2 := Lib.hid hc2
  clear hn1 hn2 hc1 hc2
  by_cases hne : n1 = n2
  · subst hne
    go_enter Tryz.func24, Tryz.ntmps24
    go_wp2
    go_loopw [5] (fun i wr => ∃ k m : Nat, k ≤ n1 ∧ i = .int .i64 k ∧ wr = w.drewN m ∧ Same1 s1 s2 k) (fun i _ => n1 - (intOf i).toNat)
    case atStart => exact ⟨0, 0, Nat.zero_le _, rfl, rfl, fun j hj => absurd hj (Nat.not_lt_zero _)⟩
    case round =>
      obtain ⟨k, m, hk, rfl, rfl, hsame⟩ := hrel
      by_cases hlt : k < n1
      · obtain ⟨x, hx⟩ := get_lt s1 (k := k) (by have := HN1.out; omega)
        obtain ⟨y, hy⟩ := get_lt s2 (k := k) (by have := HN2.out; omega)
        obtain ⟨b1, off1, rfl, hcell1, _, _⟩ := HC1.out k _ hx
        obtain ⟨b2, off2, rfl, hcell2, _, _⟩ := HC2.out k _ hy
        have HX := Lib.hid hx
        have HY := Lib.hid hy
        clear hx hy
        go_wp2
        go_quiet (fail)
        go_wp2
        · go_ret
          exact ⟨ret_bool (Same1.no HX.out HY.out ‹_›).symm, m + nq, by simp⟩
        · go_roundw
          case rel => exact ⟨k + 1, m + nq, by omega, by go_num, rfl, hsame.step HX.out HY.out ‹_›⟩
          case measure => simp [intOf]; omega
      · obtain rfl : k = n1 := by omega
        go_wp2
        go_ret
        exact ⟨ret_bool (hsame.yes HN1.out HN2.out).symm, Dr.mk _ _⟩
  · have hbb : ((n1 : Int) != (n2 : Int)) = true := by simp; omega
    go_enter Tryz.func24, Tryz.ntmps24
    go_wp2
    go_ret
    exact ⟨ret_bool (by rw [eq_comm, decide_eq_false_iff_not]; intro h; exact hne (by rw [← HN1.out, ← HN2.out, h])), Dr.refl _⟩

def FindTo (us : List U) (s : ByteArray) (k : Nat) : Prop := ∀ (j : Nat) (x : U), j < k → us[j]? = some x → (x.name.toList == s.toList) = false
theorem FindTo.step {us : List U} {s : ByteArray} {k : Nat} {u : U} (h : FindTo us s k) (hu : us[k]? = some u) (he : (u.name.toList == s.toList) = false) : FindTo us s (k + 1) := by
  intro j x hj hx
  by_cases hjk : j < k
  · exact h j x hjk hx
  · obtain rfl : j = k := by omega
    rw [hu] at hx
    cases hx
    exact he

theorem sameU_of {x y : U} {b1 b2 : Bool} (h1 : (x.name.toList == y.name.toList) = b1) (h2 : (x.start.toList == y.start.toList) = b2) : sameU x y = (b1 && b2 && decide (x.req = y.req) && decide (x.aft = y.aft)) := by
  simp [sameU, h1, h2]

set_option maxHeartbeats 400000 in
theorem same_any {v1 v2 : Value} {x y : U} {w : World} (h1 : UV w v1 x) (h2 : UV w v2 y) :
    Calls Tryz.prog 18 #[v1, v2] w fun e w' => e = .returned (.bool (sameU x y)) ∧ Below w.heap.size w w' := by
  obtain ⟨r1, f1, rfl, hn1, hs1, hr1, hf1⟩ := h1
  obtain ⟨r2, f2, rfl, hn2, hs2, hr2, hf2⟩ := h2
  generalize hreq : decide (x.req = y.req) = breq
  generalize haft : decide (x.aft = y.aft) = baft
  have HR := Lib.hid hreq
  have HA := Lib.hid haft
  clear hreq haft
  cases hname : (x.name.toList == y.name.toList) <;> cases hstart : (x.start.toList == y.start.toList) <;> cases breq <;> cases baft
  all_goals
    have HE := Lib.hid (sameU_of hname hstart)
    generalize sameU x y = res at HE ⊢
    go_enter Tryz.func18, Tryz.ntmps18
    go_wp2_with fail
    refine (sameList_any (SLP.keeps ?_ hr1) (SLP.keeps ?_ hr2)).mono ?_
    rotate_left 2
    rw [HR.out]
    rintro e w1 ⟨rfl, m1, rfl⟩
    go_wp2_with fail
    refine (sameList_any (SLP.keeps ?_ hf1) (SLP.keeps ?_ hf2)).mono ?_
    rotate_left 2
    rw [HA.out]
    rintro e w2 ⟨rfl, m2, rfl⟩
    go_wp2_with fail
    go_ret
    refine ⟨ret_bool ?_, ?_⟩
    all_goals first | (rw [HE.out, HR.out, HA.out]; rfl) | (repeat' (first | (with_reducible exact Below.refl _ _) | (with_reducible assumption) | (with_reducible refine below_drewN ?_ _) | (with_reducible refine Below.drew ?_) | (with_reducible refine Below.alloc ?_ ?_ _) | (with_reducible refine Below.setCell ?_ ?_ _) | omega | (simp; done) | (simp; omega)))
end Go.Proofs.YthefajkihnlgfaaGreatDoor

/- Values of the laws: rows of six cells; what makes them. -/
namespace Go.Proofs.YthefajkihnlgfaaGreatDoor
open Go.RowKit

theorem row6 {w : World} {g : Nat} {T : TypeId} {a0 a1 a2 a3 a4 a5 : Value} (h : w.heap[g]? = some (.cells #[a0, a1, a2, a3, a4, a5] T (0, 0))) (b0 b1 b2 b3 b4 b5 : Value) :
    ((((((w.setCell ⟨g, 0, none⟩ b0).setCell ⟨g, 1, none⟩ b1).setCell ⟨g, 2, none⟩ b2).setCell ⟨g, 3, none⟩ b3).setCell ⟨g, 4, none⟩ b4).setCell ⟨g, 5, none⟩ b5).heap[g]? = some (.cells #[b0, b1, b2, b3, b4, b5] T (0, 0)) :=
  block_set (i := 5) (block_set (i := 4) (block_set (i := 3) (block_set (i := 2) (block_set (i := 1) (block_set (i := 0) h b0) b1) b2) b3) b4) b5
/-- A float is stored as any cell is. -/
theorem store_flt (W : World) (a : Addr) (x : Nat) : (store a (.float .f64 x)).run Tryz.prog W = match W.cell? a with
    | some _ => if W.frozen? a then .halt (.unsupported (.unsafePointer "a write to bytes that a string shares")) W else .ok () (W.setCell a (.float .f64 x))
    | none => match W.farStore Tryz.prog a (.float .f64 x) (Mode.plain == .atomic) with
      | .ok (w', _) => .ok () w'
      | .error h => .halt h W := run_store Tryz.prog W a (.float .f64 x) .plain rfl
end Go.Proofs.YthefajkihnlgfaaGreatDoor

