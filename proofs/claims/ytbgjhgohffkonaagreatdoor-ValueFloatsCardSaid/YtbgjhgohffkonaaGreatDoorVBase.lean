/- Any values, as plain data, and what it says that a value in memory reads as one. -/
import Derived.Test.YtbgjhgohffkonaaGreatDoorM15
import Derived.Test.YtbgjhgohffkonaaGreatDoorM16
import Derived.BigQuiet
import Derived.Deep.QuietTactic
import Derived.Lib.Hide
import Derived.WalkSmall
import Derived.Lib.Strings
namespace Go.Proofs.YtbgjhgohffkonaaGreatDoor
open Go.RowKit

theorem _root_.Go.RowKit.Below.next {a b c : World} (h : Below a.heap.size a b) (k : Below b.heap.size b c) : Below a.heap.size a c := h.trans (k.mono h.size)

/-- A value as plain data. -/
inductive V where
  | mk (kind int : Int) (flt : Nat) (text : ByteArray) (names : List ByteArray) (items : List V)
def V.kind : V → Int | .mk k _ _ _ _ _ => k
def V.int : V → Int | .mk _ n _ _ _ _ => n
def V.flt : V → Nat | .mk _ _ x _ _ _ => x
def V.text : V → ByteArray | .mk _ _ _ t _ _ => t
def V.names : V → List ByteArray | .mk _ _ _ _ l _ => l
def V.items : V → List V | .mk _ _ _ _ _ l => l
/-- Of a value of at most so many levels: what its two slices read as. -/
def VI : Nat → World → V → Value → Value → Prop
  | 0 => fun _ _ _ _ => False
  | d + 1 => fun w v r f => v.text.size ≤ maxLen ∧ SL w r v.names ∧ ∃ a cap, f = .slice a v.items.length cap ∧ (a = none → cap = 0) ∧ v.items.length ≤ 1599289640400 ∧
      ∀ i x, v.items[i]? = some x → ∃ b off r' f', a = some ⟨b, off, none⟩ ∧ w.cell? ⟨b, off + i * 6, none⟩ = some (.int .i64 x.kind) ∧ w.cell? ⟨b, off + i * 6 + 1, none⟩ = some (.int .i64 x.int) ∧
        w.cell? ⟨b, off + i * 6 + 2, none⟩ = some (.float .f64 x.flt) ∧ w.cell? ⟨b, off + i * 6 + 3, none⟩ = some (.string x.text) ∧ w.cell? ⟨b, off + i * 6 + 4, none⟩ = some r' ∧ w.cell? ⟨b, off + i * 6 + 5, none⟩ = some f' ∧ VI d w x r' f'
/-- A slice value that reads as the values. -/
def VLs (d : Nat) (w : World) (f : Value) (xs : List V) : Prop :=
  ∃ a cap, f = .slice a xs.length cap ∧ (a = none → cap = 0) ∧ xs.length ≤ 1599289640400 ∧
      ∀ i x, xs[i]? = some x → ∃ b off r' f', a = some ⟨b, off, none⟩ ∧ w.cell? ⟨b, off + i * 6, none⟩ = some (.int .i64 x.kind) ∧ w.cell? ⟨b, off + i * 6 + 1, none⟩ = some (.int .i64 x.int) ∧
        w.cell? ⟨b, off + i * 6 + 2, none⟩ = some (.float .f64 x.flt) ∧ w.cell? ⟨b, off + i * 6 + 3, none⟩ = some (.string x.text) ∧ w.cell? ⟨b, off + i * 6 + 4, none⟩ = some r' ∧ w.cell? ⟨b, off + i * 6 + 5, none⟩ = some f' ∧ VI d w x r' f'
theorem VI.list {w : World} {d : Nat} {v : V} {r f : Value} (h : VI (d + 1) w v r f) : VLs d w f v.items := h.2.2
/-- A value by value. -/
def aggV (v : V) (r f : Value) : Value := .agg #[.int .i64 v.kind, .int .i64 v.int, .float .f64 v.flt, .string v.text, r, f]
def VV (d : Nat) (w : World) (val : Value) (v : V) : Prop := ∃ r f, val = aggV v r f ∧ VI d w v r f
theorem VI.ck {w w' : World} (hc : ∀ (p : Addr) (v : Value), w.cell? p = some v → w'.cell? p = some v) (hs : ∀ (r : Value) (l : List ByteArray), SL w r l → SL w' r l) : ∀ (d : Nat) {v : V} {r f : Value}, VI d w v r f → VI d w' v r f := by
  intro d
  induction d with
  | zero => intro v r f h; exact h
  | succ d ih =>
    intro v r f h
    obtain ⟨h1, h2, a, cap, h3, h4, h5, h6⟩ := h
    refine ⟨h1, hs _ _ h2, a, cap, h3, h4, h5, fun i x hi => ?_⟩
    obtain ⟨b, off, r', f', k0, k1, k2, k3, k4, k5, k6, k7⟩ := h6 i x hi
    exact ⟨b, off, r', f', k0, hc _ _ k1, hc _ _ k2, hc _ _ k3, hc _ _ k4, hc _ _ k5, hc _ _ k6, ih k7⟩
theorem VI.keeps {w w' : World} (hb : Below w.heap.size w w') {d : Nat} {v : V} {r f : Value} (h : VI d w v r f) : VI d w' v r f :=
  h.ck (fun _ _ hc => cell_keeps hb hc) (fun _ _ hs => SL.keeps hb hs)
theorem VI.up {w : World} : ∀ (d : Nat) {v : V} {r f : Value}, VI d w v r f → VI (d + 1) w v r f := by
  intro d
  induction d with
  | zero => intro v r f h; exact h.elim
  | succ d ih =>
    intro v r f h
    obtain ⟨h1, h2, a, cap, h3, h4, h5, h6⟩ := h
    refine ⟨h1, h2, a, cap, h3, h4, h5, fun i x hi => ?_⟩
    obtain ⟨b, off, r', f', k0, k1, k2, k3, k4, k5, k6, k7⟩ := h6 i x hi
    exact ⟨b, off, r', f', k0, k1, k2, k3, k4, k5, k6, ih k7⟩
theorem VI.mono {w : World} {d e : Nat} (hde : d ≤ e) {v : V} {r f : Value} (h : VI d w v r f) : VI e w v r f := by
  induction hde with
  | refl => exact h
  | step _ ih => exact ih.up
theorem VV.keeps {w w' : World} (hb : Below w.heap.size w w') {d : Nat} {val : Value} {v : V} (h : VV d w val v) : VV d w' val v := by
  obtain ⟨r, f, rfl, hi⟩ := h
  exact ⟨r, f, rfl, hi.keeps hb⟩
theorem VV.mono {w : World} {d e : Nat} (hde : d ≤ e) {val : Value} {v : V} (h : VV d w val v) : VV e w val v := by
  obtain ⟨r, f, rfl, hi⟩ := h
  exact ⟨r, f, rfl, hi.mono hde⟩
/-- The items' cells, and each item by value. -/
theorem VI.item {w : World} {d : Nat} {v x : V} {r : Value} {a : Option Addr} {n cap i : Nat} (h : VI (d + 1) w v r (.slice a n cap)) (hi : v.items[i]? = some x) : ∃ b off r' f', a = some ⟨b, off, none⟩ ∧ w.cell? ⟨b, off + i * 6, none⟩ = some (.int .i64 x.kind) ∧ w.cell? ⟨b, off + i * 6 + 1, none⟩ = some (.int .i64 x.int) ∧
        w.cell? ⟨b, off + i * 6 + 2, none⟩ = some (.float .f64 x.flt) ∧ w.cell? ⟨b, off + i * 6 + 3, none⟩ = some (.string x.text) ∧ w.cell? ⟨b, off + i * 6 + 4, none⟩ = some r' ∧ w.cell? ⟨b, off + i * 6 + 5, none⟩ = some f' ∧ VI d w x r' f' := by
  obtain ⟨_, _, a', cap', h3, _, _, h6⟩ := h
  cases h3
  exact h6 i x hi
theorem VI.shape {w : World} {d : Nat} {v : V} {r f : Value} (h : VI d w v r f) : ∃ ra rc a cap, r = .slice ra v.names.length rc ∧ f = .slice a v.items.length cap ∧ v.items.length ≤ 1599289640400 ∧ v.text.size ≤ maxLen := by
  cases d with
  | zero => exact h.elim
  | succ d =>
    obtain ⟨h1, ⟨ra, rc, h2, _⟩, a, cap, h3, _, h5, _⟩ := h
    exact ⟨ra, rc, a, cap, h2, h3, h5, h1⟩
theorem VI.names {w : World} {d : Nat} {v : V} {r f : Value} (h : VI d w v r f) : SL w r v.names := by
  cases d with
  | zero => exact h.elim
  | succ d => exact h.2.1
theorem aggV_eq (v : V) (r f : Value) : aggV v r f = .agg #[.int .i64 v.kind, .int .i64 v.int, .float .f64 v.flt, .string v.text, r, f] := rfl
theorem VLs.keeps {w w' : World} (hb : Below w.heap.size w w') {d : Nat} {f : Value} {xs : List V} (h : VLs d w f xs) : VLs d w' f xs := by
  obtain ⟨a, cap, h3, h4, h5, h6⟩ := h
  refine ⟨a, cap, h3, h4, h5, fun i x hi => ?_⟩
  obtain ⟨b, off, r', f', k0, k1, k2, k3, k4, k5, k6, k7⟩ := h6 i x hi
  exact ⟨b, off, r', f', k0, cell_keeps hb k1, cell_keeps hb k2, cell_keeps hb k3, cell_keeps hb k4, cell_keeps hb k5, cell_keeps hb k6, k7.keeps hb⟩
theorem VV.of {w : World} {d : Nat} {v : V} {r f : Value} (h : VI d w v r f) : VV d w (.agg #[.int .i64 v.kind, .int .i64 v.int, .float .f64 v.flt, .string v.text, r, f]) v := ⟨r, f, rfl, h⟩

/-- Where p holds first. -/
def idxG {α : Type} (p : α → Bool) (l : List α) : Int := match l.findIdx? p with | some k => k | none => -1
theorem idxG_some {α : Type} {p : α → Bool} {l : List α} {k : Nat} {s : α} (hk : l[k]? = some s) (he : p s = true) (hb : ∀ (j : Nat) (x : α), j < k → l[j]? = some x → p x = false) : idxG p l = k := by
  have : l.findIdx? p = some k := by
    obtain ⟨hlt, hx⟩ := List.getElem?_eq_some_iff.1 hk
    rw [List.findIdx?_eq_some_iff_getElem]
    refine ⟨hlt, by rw [hx]; exact he, fun j hj => ?_⟩
    have := hb j (l[j]'(by omega)) hj (List.getElem?_eq_getElem (by omega))
    simpa using this
  unfold idxG; rw [this]
theorem idxG_none {α : Type} {p : α → Bool} {l : List α} (hb : ∀ (j : Nat) (x : α), l[j]? = some x → p x = false) : idxG p l = -1 := by
  have : l.findIdx? p = none := by
    rw [List.findIdx?_eq_none_iff]
    intro x hx
    obtain ⟨j, hj⟩ := List.getElem?_of_mem hx
    exact hb j x hj
  unfold idxG; rw [this]
theorem idxG_any {α : Type} (p : α → Bool) (l : List α) : decide (0 ≤ idxG p l) = l.any p := by
  unfold idxG
  cases h : l.findIdx? p with
  | none =>
    rw [List.findIdx?_eq_none_iff] at h
    have : l.any p = false := by rw [List.any_eq_false]; intro x hx; simp [h x hx]
    rw [this]; rfl
  | some k =>
    rw [List.findIdx?_eq_some_iff_getElem] at h
    have : l.any p = true := by rw [List.any_eq_true]; exact ⟨_, List.getElem_mem h.1, h.2.1⟩
    rw [this]; simp
def ToG {α : Type} (p : α → Bool) (l : List α) (k : Nat) : Prop := ∀ (j : Nat) (x : α), j < k → l[j]? = some x → p x = false
theorem ToG.step {α : Type} {p : α → Bool} {l : List α} {k : Nat} {s : α} (h : ToG p l k) (hs : l[k]? = some s) (he : p s = false) : ToG p l (k + 1) := by
  intro j x hj hx
  by_cases hjk : j < k
  · exact h j x hjk hx
  · obtain rfl : j = k := by omega
    rw [hs] at hx; cases hx; exact he

/-- The plain functions. -/
def okAt (l : List ByteArray) (i : Nat) : Bool :=
  match l[i]? with | some s => decide (s.size ≤ 1024) && (match i with | 0 => true | j + 1 => match l[j]? with | some t => Op.bytesLess t.toList s.toList | none => true) | none => true
def namesP (l : List ByteArray) : Bool := (List.range l.length).all (okAt l)
def rightP : Nat → Nat → V → Bool
  | 0, _, _ => false
  | d + 1, deep, v =>
    if v.kind = 5 ∨ v.kind = 6 then
      decide (v.int = 0) && decide (v.flt = 0) && decide (v.text.size = 0) && (if v.kind = 5 then decide (v.names.length = 0) else decide (v.names.length = v.items.length)) && decide (deep ≠ 0) && decide (v.items.length ≤ 256) && namesP v.names && v.items.all (rightP d (deep - 1))
    else
      (if v.kind = 0 ∨ v.kind = 7 then decide (v.int = 0) && decide (v.flt = 0) && decide (v.text.size = 0)
      else if v.kind = 1 then (decide (v.int = 0) || decide (v.int = 1)) && decide (v.flt = 0) && decide (v.text.size = 0)
      else if v.kind = 2 then decide (v.flt = 0) && decide (v.text.size = 0)
      else if v.kind = 3 then decide (v.int = 0) && decide (v.text.size = 0)
      else if v.kind = 4 then decide (v.int = 0) && decide (v.flt = 0) && decide (v.text.size ≤ 1024) else false)
      && decide (v.names.length = 0) && decide (v.items.length = 0)
theorem namesP_no {l : List ByteArray} {i : Nat} (hi : i < l.length) (h : okAt l i = false) : namesP l = false := by
  unfold namesP
  rw [List.all_eq_false]
  exact ⟨i, List.mem_range.2 hi, by simp [h]⟩
theorem namesP_yes {l : List ByteArray} (h : ∀ i, i < l.length → okAt l i = true) : namesP l = true := by
  unfold namesP
  rw [List.all_eq_true]
  exact fun i hi => h i (List.mem_range.1 hi)
theorem okAt_zero {l : List ByteArray} {s : ByteArray} (h : l[0]? = some s) : okAt l 0 = decide (s.size ≤ 1024) := by simp [okAt, h]
theorem okAt_succ {l : List ByteArray} {s t : ByteArray} {j : Nat} (h : l[j + 1]? = some s) (ht : l[j]? = some t) : okAt l (j + 1) = (decide (s.size ≤ 1024) && Op.bytesLess t.toList s.toList) := by simp [okAt, h, ht]
/-- Two floats as the same: by their bits, or both no number. -/
def eqF (x y : Nat) : Bool := FloatKind.f64.format.order x y == some .eq
def nanB (x : Nat) : Bool := !eqF x x
def fltP (x y : Nat) : Bool := decide (x = y) || nanB x && nanB y
def sameP : Nat → V → V → Bool
  | 0, _, _ => false
  | d + 1, a, b => fltP a.flt b.flt && decide (a.kind = b.kind) && decide (a.int = b.int) && decide (a.text = b.text) && decide (a.names = b.names) && decide (a.items.length = b.items.length) && (a.items.zip b.items).all fun p => sameP d p.1 p.2
def flV (a : V) : Nat := if a.kind = 2 then floatOfInt .f64 a.int else a.flt
def itemsE (f : V → V → Bool × Int) : List V → List V → Bool × Int
  | x :: xs, y :: ys => if (f x y).1 then itemsE f xs ys else (false, (f x y).2)
  | _, _ => (true, 0)
def equalP : Nat → V → V → Bool × Int
  | 0, _, _ => (false, 0)
  | d + 1, a, b =>
    if (a.kind = 2 ∨ a.kind = 3) ∧ (b.kind = 2 ∨ b.kind = 3) ∧ (a.kind = 3 ∨ b.kind = 3) then (eqF (flV a) (flV b), 0)
    else if a.kind ≠ b.kind then (false, 0)
    else if a.kind = 7 then (false, 11)
    else if a.kind = 5 ∨ a.kind = 6 then (if a.items.length ≠ b.items.length ∨ a.names ≠ b.names then (false, 0) else itemsE (equalP d) a.items b.items)
    else (sameP (d + 1) a b, 0)
def oddP : Nat → V → Bool
  | 0, _ => false
  | d + 1, v => decide (v.kind = 7) || nanB v.flt || v.items.any (oddP d)
theorem zip_self {l : List V} {p : V × V} (h : p ∈ l.zip l) : p.1 = p.2 ∧ p.1 ∈ l := by
  induction l with
  | nil => simp at h
  | cons x r ih =>
    rw [List.zip_cons_cons, List.mem_cons] at h
    rcases h with rfl | h
    · simp
    · exact ⟨(ih h).1, List.mem_cons_of_mem _ (ih h).2⟩
theorem sameP_refl {w : World} : ∀ (d : Nat) {v : V} {r f : Value}, VI d w v r f → sameP d v v = true := by
  intro d
  induction d with
  | zero => intro v r f h; exact h.elim
  | succ d ih =>
    intro v r f h
    have hall : (v.items.zip v.items).all (fun p => sameP d p.1 p.2) = true := by
      rw [List.all_eq_true]
      intro p hp
      obtain ⟨he, hm⟩ := zip_self hp
      obtain ⟨i, hi⟩ := List.getElem?_of_mem hm
      obtain ⟨_, _, _, _, _, _, _, h6⟩ := h
      obtain ⟨_, _, r', f', _, _, _, _, _, _, _, hv⟩ := h6 i _ hi
      rw [← he]
      exact ih hv
    unfold sameP
    rw [hall]
    simp [fltP]
theorem itemsE_no {f : V → V → Bool × Int} : ∀ (l : List V), (itemsE f l l).1 = false → ∃ x, x ∈ l ∧ (f x x).1 = false ∧ (itemsE f l l).2 = (f x x).2 := by
  intro l
  induction l with
  | nil => intro h; simp [itemsE] at h
  | cons x r ih =>
    intro h
    unfold itemsE at h ⊢
    cases hx : (f x x).1 with
    | true =>
      rw [hx] at h
      simp only [if_true] at h ⊢
      obtain ⟨y, h1, h2, h3⟩ := ih h
      exact ⟨y, List.mem_cons_of_mem _ h1, h2, h3⟩
    | false =>
      simp only [Bool.false_eq_true, if_false]
      exact ⟨x, by simp, hx, rfl⟩
/-- A value is equal to itself, but for functions and what is no number. -/
theorem equal_self {w : World} : ∀ (d : Nat) {v : V} {r f : Value}, VI d w v r f → (equalP d v v).1 = true ∨ (equalP d v v).2 = 11 ∨ oddP d v = true := by
  intro d
  induction d with
  | zero => intro v r f h; exact h.elim
  | succ d ih =>
    intro v r f h
    have hs := sameP_refl (d + 1) h
    unfold equalP oddP
    split
    · rename_i hc
      have hk : v.kind = 3 := by rcases hc.2.2 with h | h <;> exact h
      have hfl : flV v = v.flt := by unfold flV; rw [if_neg (by omega)]
      rw [hfl]
      cases he : eqF v.flt v.flt with
      | true => exact .inl rfl
      | false => exact .inr (.inr (by simp [nanB, he]))
    · split
      · rename_i hne; exact absurd rfl hne
      · split
        · exact .inr (.inl rfl)
        · split
          · rw [if_neg (by simp)]
            cases hit : (itemsE (equalP d) v.items v.items).1 with
            | true => exact .inl rfl
            | false =>
              obtain ⟨x, hx, h1, h2⟩ := itemsE_no _ hit
              obtain ⟨i, hi⟩ := List.getElem?_of_mem hx
              obtain ⟨_, _, _, _, _, _, _, h6⟩ := h
              obtain ⟨_, _, r', f', _, _, _, _, _, _, _, hv⟩ := h6 i _ hi
              rcases ih hv with h3 | h3 | h3
              · rw [h1] at h3; cases h3
              · exact .inr (.inl (h2.trans h3))
              · exact .inr (.inr (by
                  have : v.items.any (oddP d) = true := List.any_eq_true.2 ⟨x, hx, h3⟩
                  simp [this]))
          · exact .inl hs
end Go.Proofs.YtbgjhgohffkonaaGreatDoor

