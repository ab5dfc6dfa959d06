/- bootjackref12.deep and right of any value. -/
import Derived.Test.YthefajkihnlgfaaGreatDoorM17
import Derived.Test.YthefajkihnlgfaaGreatDoorVRl
import Derived.Deep.DeepCutAuto
import Derived.Deep.CutRange
import Derived.Test.YthefajkihnlgfaaGreatDoorFlR
namespace Go.Proofs.YthefajkihnlgfaaGreatDoor
open Go.RowKit Go.Shelf
set_option linter.unusedSimpArgs false
set_option linter.unusedVariables false
attribute [local go_sem] run_bits64 run_frombits64 store_flt
def maxL : List Nat → Nat
  | [] => 0
  | a :: r => max a (maxL r)
def deepP : Nat → V → Int → Nat
  | 0, _, _ => 0
  | d + 1, v, m => if (v.kind = 5 ∨ v.kind = 6) ∧ 0 ≤ m then maxL (v.items.map fun x => deepP d x (m - 1)) + 1 else 0
def bad1 (k : Int) : Bool := decide (k < 0) || decide (7 < k)
def bad3 (k n : Int) : Bool := (decide (k ≠ 1) && decide (k ≠ 2) && decide (n ≠ 0)) || (decide (k = 1) && decide (n ≠ 0) && decide (n ≠ 1))
def bad5 (k : Int) (x ts nn ni : Nat) : Bool := (decide (k ≠ 3) && decide (x ≠ 0)) || (decide (k ≠ 4) && decide (ts ≠ 0)) || (decide (k ≠ 6) && decide (nn ≠ 0)) || (decide (k ≠ 6) && decide (k ≠ 5) && decide (ni ≠ 0))
def bad7 (k : Int) (ts nn ni : Nat) : Bool := decide (1024 < ts) || decide (256 < ni) || (decide (k = 6) && decide (nn ≠ ni))
def rightR : Nat → V → Bool
  | 0, _ => false
  | d + 1, v => !bad1 v.kind && !bad3 v.kind v.int && !bad5 v.kind v.flt v.text.size v.names.length v.items.length && !bad7 v.kind v.text.size v.names.length v.items.length && namesP v.names && v.items.all (rightR d)
theorem maxL_le {l : List Nat} {m : Nat} : maxL l ≤ m ↔ ∀ x ∈ l, x ≤ m := by
  induction l with
  | nil => simp [maxL]
  | cons a r ih =>
    simp only [maxL, List.mem_cons, forall_eq_or_imp, ← ih]
    omega
theorem maxL_app (a : List Nat) (x : Nat) : maxL (a ++ [x]) = max (maxL a) x := by
  induction a with
  | nil => simp [maxL]
  | cons b r ih => simp only [List.cons_append, maxL, ih]; omega
theorem deepP_le : ∀ (d : Nat) (v : V) (m : Int), deepP d v m ≤ d
  | 0, _, _ => Nat.le_refl _
  | d + 1, v, m => by
    unfold deepP
    split
    · have : maxL (v.items.map fun x => deepP d x (m - 1)) ≤ d := by
        rw [maxL_le]
        intro x hx
        obtain ⟨y, _, rfl⟩ := List.mem_map.1 hx
        exact deepP_le d y _
      omega
    · omega
/-- How the two say it. -/
theorem all_two {α : Type} (l : List α) (p q : α → Bool) : (l.all fun x => p x && q x) = (l.all p && l.all q) := by
  induction l with
  | nil => rfl
  | cons a r ih =>
    simp only [List.all_cons, ih]
    cases p a <;> cases q a <;> cases r.all p <;> simp
theorem right_list (D D' N A A' : Bool) (m x ts nn ni : Nat) (k n : Int) (hk : k = 5 ∨ k = 6) (hD : m ≠ 0 → A = (D' && A')) (hD0 : D = (decide (m ≠ 0) && D')) :
    (decide (n = 0) && decide (x = 0) && decide (ts = 0) && (if k = 5 then decide (nn = 0) else decide (nn = ni)) && decide (m ≠ 0) && decide (ni ≤ 256) && N && A) =
      (D && (decide (n = 0) && !(decide (x ≠ 0) || decide (ts ≠ 0) || (decide (k = 5) && decide (nn ≠ 0))) && !(decide (1024 < ts) || decide (256 < ni) || (decide (k = 6) && decide (nn ≠ ni))) && N && A')) := by
  rw [hD0]
  by_cases hm : m = 0
  · subst hm; simp
  · rw [hD hm]
    rw [Bool.eq_iff_iff]
    rcases hk with rfl | rfl
    · simp
      constructor
      · rintro ⟨⟨⟨⟨⟨⟨⟨h1, h2⟩, h3⟩, h4⟩, h5⟩, h6⟩, h7⟩, h8, h9⟩
        subst h3
        simp [h1, h2, h4, h5, h7, h8, h9, hm]
        omega
      · rintro ⟨⟨h0, h1⟩, ⟨⟨⟨h2, ⟨h3, h4⟩, h5⟩, h6, h7⟩, h8⟩, h9⟩
        simp [h1, h2, h4, h5, h7, h8, h9, hm, h3]
    · simp
      constructor
      · rintro ⟨⟨⟨⟨⟨⟨⟨h1, h2⟩, h3⟩, h4⟩, h5⟩, h6⟩, h7⟩, h8, h9⟩
        subst h3
        simp [h1, h2, h4, h5, h7, h8, h9, hm]
        omega
      · rintro ⟨⟨h0, h1⟩, ⟨⟨⟨h2, h3, h4⟩, ⟨h5, h6⟩, h7⟩, h8⟩, h9⟩
        simp [h1, h2, h4, h5, h7, h8, h9, hm, h3, h6]
theorem size_dec {t : ByteArray} : t.size = 0 ↔ t = ⟨#[]⟩ := ⟨empty_of_size, fun h => by rw [h]; rfl⟩
theorem right_both : ∀ (d m : Nat) (v : V), rightP d m v = (decide (deepP d v ((m : Int) + 1) ≤ m) && rightR d v)
  | 0, m, v => by simp [rightP, rightR]
  | d + 1, m, v => by
    have ih : ∀ k x, rightP d k x = (decide (deepP d x ((k : Int) + 1) ≤ k) && rightR d x) := fun k x => right_both d k x
    obtain ⟨k, n, x, t, ns, is⟩ := v
    by_cases h56 : k = 5 ∨ k = 6
    · have eL : rightP (d + 1) m (.mk k n x t ns is) = (decide (n = 0) && decide (x = 0) && decide (t.size = 0) && (if k = 5 then decide (ns.length = 0) else decide (ns.length = is.length)) && decide (m ≠ 0) && decide (is.length ≤ 256) && namesP ns && is.all (rightP d (m - 1))) := by
        show (if k = 5 ∨ k = 6 then _ else _) = _
        exact if_pos h56
      have eD : deepP (d + 1) (.mk k n x t ns is) ((m : Int) + 1) = maxL (is.map fun x => deepP d x (((m : Int) + 1) - 1)) + 1 := by
        show (if (k = 5 ∨ k = 6) ∧ 0 ≤ (m : Int) + 1 then _ else _) = _
        exact if_pos ⟨h56, by omega⟩
      rw [eL, eD]
      refine (right_list (decide (maxL (is.map fun x => deepP d x (((m : Int) + 1) - 1)) + 1 ≤ m)) (is.all fun x => decide (deepP d x (m : Int) ≤ m - 1)) (namesP ns) _ (is.all (rightR d)) m x t.size ns.length is.length k n h56 ?_ ?_).trans ?_
      · intro hm
        rw [← all_two]
        congr 1
        funext y
        rw [ih]
        rw [show ((m - 1 : Nat) : Int) + 1 = (m : Int) by omega]
      · rw [Bool.eq_iff_iff]
        simp only [Bool.and_eq_true, decide_eq_true_eq, List.all_eq_true]
        rw [show ((m : Int) + 1) - 1 = (m : Int) by omega]
        have hm := @maxL_le (is.map fun x => deepP d x (m : Int)) (m - 1)
        constructor
        · intro h
          refine ⟨by omega, fun y hy => (hm.1 (by omega)) _ (List.mem_map.2 ⟨y, hy, rfl⟩)⟩
        · rintro ⟨h1, h2⟩
          have := hm.2 (fun z hz => by obtain ⟨y, hy, rfl⟩ := List.mem_map.1 hz; exact h2 y hy)
          omega
      · congr 1
        show _ = (!bad1 k && !bad3 k n && !bad5 k x t.size ns.length is.length && !bad7 k t.size ns.length is.length && namesP ns && is.all (rightR d))
        unfold bad1 bad3 bad5 bad7
        rcases h56 with rfl | rfl
        · simp
        · simp
    · have eD : deepP (d + 1) (.mk k n x t ns is) ((m : Int) + 1) = 0 := by
        show (if (k = 5 ∨ k = 6) ∧ 0 ≤ (m : Int) + 1 then _ else _) = _
        exact if_neg (fun h => h56 h.1)
      have eL : rightP (d + 1) m (.mk k n x t ns is) = ((if k = 0 ∨ k = 7 then decide (n = 0) && decide (x = 0) && decide (t.size = 0)
      else if k = 1 then (decide (n = 0) || decide (n = 1)) && decide (x = 0) && decide (t.size = 0)
      else if k = 2 then decide (x = 0) && decide (t.size = 0)
      else if k = 3 then decide (n = 0) && decide (t.size = 0)
      else if k = 4 then decide (n = 0) && decide (x = 0) && decide (t.size ≤ 1024) else false)
      && decide (ns.length = 0) && decide (is.length = 0)) := by
        show (if k = 5 ∨ k = 6 then _ else _) = _
        exact if_neg h56
      rw [eD, eL]
      show _ = (decide (0 ≤ m) && (!bad1 k && !bad3 k n && !bad5 k x t.size ns.length is.length && !bad7 k t.size ns.length is.length && namesP ns && is.all (rightR d)))
      have hn6 : k ≠ 6 := fun e => h56 (Or.inr e)
      have hn5 : k ≠ 5 := fun e => h56 (Or.inl e)
      rw [decide_eq_true (Nat.zero_le m), Bool.true_and]
      by_cases h1 : ns = []
      · by_cases h2 : is = []
        · subst h1
          subst h2
          unfold bad1 bad3 bad5 bad7
          have hN : namesP [] = true := rfl
          rw [hN]
          generalize t.size = ts
          by_cases k0 : k = 0
          · subst k0; rw [Bool.eq_iff_iff]; simp <;> omega
          by_cases k7 : k = 7
          · subst k7; rw [Bool.eq_iff_iff]; simp <;> omega
          by_cases k1 : k = 1
          · subst k1; rw [Bool.eq_iff_iff]; simp <;> omega
          by_cases k2 : k = 2
          · subst k2; rw [Bool.eq_iff_iff]; simp <;> omega
          by_cases k3 : k = 3
          · subst k3; rw [Bool.eq_iff_iff]; simp <;> omega
          by_cases k4 : k = 4
          · subst k4; rw [Bool.eq_iff_iff]; simp <;> omega
          have hbad : (decide (k < 0) || decide (7 < k)) = true := by simp; omega
          rw [hbad]
          simp [k0, k7, k1, k2, k3, k4]
        · have hl : is.length ≠ 0 := fun e => h2 (List.eq_nil_of_length_eq_zero e)
          rw [decide_eq_false hl, Bool.and_false]
          unfold bad5
          simp [hn6, hn5, hl]
      · have hl : ns.length ≠ 0 := fun e => h1 (List.eq_nil_of_length_eq_zero e)
        rw [decide_eq_false hl, Bool.and_false, Bool.false_and]
        unfold bad5
        simp [hn6, hl]
end Go.Proofs.YthefajkihnlgfaaGreatDoor

/- Plain: what value.Show tells. -/
namespace Go.Proofs.YthefajkihnlgfaaGreatDoor
open Go.RowKit
def I64' (n : Int) : Prop := -9223372036854775808 ≤ n ∧ n ≤ 9223372036854775807
/-- Its numbers are of their types. -/
def NumV : Nat → V → Prop
  | 0, _ => True
  | d + 1, v => I64' v.int ∧ v.flt < 18446744073709551616 ∧ ∀ x, x ∈ v.items → NumV d x
def textP (v : V) : List UInt8 :=
  if v.kind = 0 then [110, 117, 108, 108] else if v.kind = 1 then (if v.int = 1 then [116, 114, 117, 101] else [102, 97, 108, 115, 101]) else if v.kind = 2 then Lib.itoa v.int else fltT v.flt
def shI (f : V → List UInt8) (xs : List V) (k : Nat) : List UInt8 := (xs.take k).flatMap fun x => 32 :: f x
def shS (f : V → List UInt8) (ps : List (ByteArray × V)) (k : Nat) : List UInt8 := (ps.take k).flatMap fun p => 32 :: (qB p.1 ++ 61 :: (f p.2 ++ [59]))
def showP : Nat → V → List UInt8
  | 0, _ => []
  | d + 1, v =>
    if v.kind = 4 then qB v.text else if v.kind = 7 then [102, 117, 110, 99, 116, 105, 111, 110]
    else if v.kind = 5 then 91 :: (shI (showP d) v.items v.items.length ++ [32, 93])
    else if v.kind = 6 then 123 :: (shS (showP d) (v.names.zip v.items) v.items.length ++ [32, 125]) else textP v
theorem shI_succ {f : V → List UInt8} {xs : List V} {k : Nat} {x : V} (h : xs[k]? = some x) : shI f xs (k + 1) = shI f xs k ++ 32 :: f x := by
  unfold shI
  rw [List.take_add_one, h]
  simp
theorem shS_succ {f : V → List UInt8} {ps : List (ByteArray × V)} {k : Nat} {n : ByteArray} {x : V} (h : ps[k]? = some (n, x)) : shS f ps (k + 1) = shS f ps k ++ 32 :: (qB n ++ 61 :: (f x ++ [59])) := by
  unfold shS
  rw [List.take_add_one, h]
  simp
theorem shI_mono (f : V → List UInt8) (xs : List V) {j k : Nat} (h : j ≤ k) : (shI f xs j).length ≤ (shI f xs k).length := by
  obtain ⟨e, rfl⟩ : ∃ e, k = j + e := ⟨k - j, by omega⟩
  unfold shI
  rw [List.take_add, List.flatMap_append, List.length_append]
  omega
theorem shS_mono (f : V → List UInt8) (ps : List (ByteArray × V)) {j k : Nat} (h : j ≤ k) : (shS f ps j).length ≤ (shS f ps k).length := by
  obtain ⟨e, rfl⟩ : ∃ e, k = j + e := ⟨k - j, by omega⟩
  unfold shS
  rw [List.take_add, List.flatMap_append, List.length_append]
  omega
theorem shI_le {f : V → List UInt8} {xs : List V} {k n : Nat} {x : V} (h : xs[k]? = some x) (hn : k < n) : (shI f xs k).length + 1 + (f x).length ≤ (shI f xs n).length := by
  have h1 := shI_mono f xs (show k + 1 ≤ n from hn)
  rw [shI_succ h, List.length_append, List.length_cons] at h1
  omega
theorem shS_le {f : V → List UInt8} {ps : List (ByteArray × V)} {k n : Nat} {s : ByteArray} {x : V} (h : ps[k]? = some (s, x)) (hn : k < n) : (shS f ps k).length + 3 + (qB s).length + (f x).length ≤ (shS f ps n).length := by
  have h1 := shS_mono f ps (show k + 1 ≤ n from hn)
  rw [shS_succ h] at h1
  simp only [List.length_append, List.length_cons, List.length_nil] at h1
  omega
/-- What a right list or set holds is right, one level further down. -/
theorem right_items {d m : Nat} {v x : V} (hk : v.kind = 5 ∨ v.kind = 6) (h : rightP (d + 1) m v = true) (hx : x ∈ v.items) : ∃ k, m = k + 1 ∧ rightP d k x = true := by
  unfold rightP at h
  rw [if_pos hk] at h
  simp only [Bool.and_eq_true, decide_eq_true_eq, List.all_eq_true] at h
  have h2 := h.2 x hx
  cases m with
  | zero => exact absurd rfl h.1.1.1.2
  | succ k => exact ⟨k, rfl, h2⟩
theorem right_names {d m : Nat} {v : V} (hk : v.kind = 6) (h : rightP (d + 1) m v = true) : v.names.length = v.items.length ∧ (∀ (i : Nat) (s : ByteArray), v.names[i]? = some s → s.size ≤ 1024) ∧ v.items.length ≤ 256 := by
  unfold rightP at h
  rw [if_pos (Or.inr hk)] at h
  simp only [Bool.and_eq_true, decide_eq_true_eq] at h
  obtain ⟨⟨⟨⟨⟨_, h1⟩, _⟩, h3⟩, h2⟩, _⟩ := h
  rw [if_neg (by omega), decide_eq_true_eq] at h1
  refine ⟨h1, fun i s hi => ?_, h3⟩
  unfold namesP at h2
  rw [List.all_eq_true] at h2
  have h4 := h2 i (List.mem_range.2 (List.getElem?_eq_some_iff.1 hi).1)
  unfold okAt at h4
  rw [hi] at h4
  simp only [Bool.and_eq_true, decide_eq_true_eq] at h4
  exact h4.1
theorem right_text {d m : Nat} {v : V} (hk : v.kind = 4) (h : rightP (d + 1) m v = true) : v.text.size ≤ 1024 := by
  unfold rightP at h
  rw [if_neg (by omega), if_neg (by omega), if_neg (by omega), if_neg (by omega), if_neg (by omega), if_pos hk] at h
  simp only [Bool.and_eq_true, decide_eq_true_eq] at h
  exact h.1.1.2
/-- A plain value's rightness does not depend on levels. -/
theorem right_plain {d m k : Nat} {v : V} (hk : ¬ (v.kind = 5 ∨ v.kind = 6)) : rightP d m v = rightP d k v := by
  cases d with
  | zero => rfl
  | succ d => unfold rightP; rw [if_neg hk, if_neg hk]
theorem right_kind {d m : Nat} {v : V} (h : rightP d m v = true) : v.kind = 0 ∨ v.kind = 1 ∨ v.kind = 2 ∨ v.kind = 3 ∨ v.kind = 4 ∨ v.kind = 5 ∨ v.kind = 6 ∨ v.kind = 7 := by
  rw [right_both] at h
  cases d with
  | zero => simp [rightR] at h
  | succ d =>
    rw [Bool.and_eq_true] at h
    have h := h.2
    unfold rightR at h
    simp only [Bool.and_eq_true] at h
    have h1 := h.1.1.1.1.1
    unfold bad1 at h1
    simp at h1
    omega
end Go.Proofs.YthefajkihnlgfaaGreatDoor

