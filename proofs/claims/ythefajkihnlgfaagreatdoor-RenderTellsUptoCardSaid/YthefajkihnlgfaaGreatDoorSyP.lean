/- What configurations and systems read as. -/
import Derived.Test.YthefajkihnlgfaaGreatDoorM17
import Derived.Test.YthefajkihnlgfaaGreatDoorFlR
import Derived.Test.YthefajkihnlgfaaGreatDoorM34
import Derived.Test.YthefajkihnlgfaaGreatDoorM35
import Derived.Test.YthefajkihnlgfaaGreatDoorVBase
import Derived.Laws.IdiomStrings
import Derived.Lib.BufferRead
namespace Go.Proofs.YthefajkihnlgfaaGreatDoor
open Go.RowKit Go.Shelf
set_option linter.unusedSimpArgs false
set_option linter.unusedVariables false
/-- A file of a system. -/
structure Fi where
  path : ByteArray
  data : List UInt8
/-- Bytes that a slice value reads as. -/
def DV (w : World) (dv : Value) (D : List UInt8) : Prop :=
  (D = [] ∧ dv = .slice none 0 0) ∨ ∃ g cap, dv = .slice (some ⟨g, 0, none⟩) D.length cap ∧ ∀ (j : Nat) (b : UInt8), D[j]? = some b → w.cell? ⟨g, j, none⟩ = some (.int .u8 b.toNat)
theorem DV.keeps {w w' : World} {dv : Value} {D : List UInt8} (h : DV w dv D) (hb : Below w.heap.size w w') : DV w' dv D := by
  rcases h with h | ⟨g, cap, h1, h2⟩
  · exact Or.inl h
  · exact Or.inr ⟨g, cap, h1, fun j b hj => cell_keeps hb (h2 j b hj)⟩
theorem DV.text {w : World} {dv : Value} {D : List UInt8} (h : DV w dv D) : (convert 40 9 dv).run Tryz.prog w = .ok (.string ⟨D.toArray⟩) w := by
  rcases h with ⟨rfl, rfl⟩ | ⟨g, cap, rfl, h2⟩
  · exact Lib.run_convert_nil_bytes w 40 9 5 0 Tryz.underlying40 Tryz.underlying5 Tryz.underlying9
  · exact run_convert_bytes_back w 40 9 5 ⟨g, 0, none⟩ cap D Tryz.underlying40 Tryz.underlying5 Tryz.underlying9 fun j hj => by
      rw [show (⟨g, 0, none⟩ : Addr).add j = ⟨g, j, none⟩ by unfold Addr.add; split <;> simp_all]
      exact h2 j _ (List.getElem?_eq_getElem hj)
theorem DV.one {w : World} {dv : Value} {D : List UInt8} (h : DV w dv D) : ∃ a n c, dv = .slice a n c := by
  rcases h with ⟨_, rfl⟩ | ⟨g, cap, rfl, _⟩
  · exact ⟨_, _, _, rfl⟩
  · exact ⟨_, _, _, rfl⟩
/-- Blocks of cells of one type stay as they were. -/
def KT (T : TypeId) (w w' : World) : Prop := ∀ (k : Nat) (cs : Array Value) (fr : Nat × Nat), w.heap[k]? = some (.cells cs T fr) → w'.heap[k]? = some (.cells cs T fr)
theorem KT.refl (T : TypeId) (w : World) : KT T w w := fun _ _ _ h => h
theorem KT.trans {T : TypeId} {a b c : World} (h : KT T a b) (k : KT T b c) : KT T a c := fun i cs fr hi => k i cs fr (h i cs fr hi)
theorem KT.below {T : TypeId} {w w' : World} (hb : Below w.heap.size w w') : KT T w w' := fun k cs fr h => (hb.block k (block_lt h)).trans h
theorem KT.alloc {T : TypeId} {a w : World} (h : KT T a w) (o : Obj) : KT T a (w.alloc o) := h.trans (KT.below ((Below.refl _ _).alloc (Nat.le_refl _) _))
theorem KT.setCell {T : TypeId} {a w : World} (h : KT T a w) {g off : Nat} {cs : Array Value} {ty : TypeId} {fr : Nat × Nat} (hg : w.heap[g]? = some (.cells cs ty fr)) (hne : ty ≠ T) (v : Value) : KT T a (w.setCell ⟨g, off, none⟩ v) := fun k ck fk hk => by
  have h1 := h k ck fk hk
  have hkg : k ≠ g := by
    rintro rfl
    rw [hg] at h1
    simp only [Option.some.injEq, Obj.cells.injEq] at h1
    exact hne h1.2.1
  rw [Below.heap_setCell _ _ _ _ hkg]
  exact h1
theorem own_ne {w : World} {base n size g : Nat} {v : Value} {xs : List Value} {e ty : TypeId} {cs : Array Value} {fr : Nat × Nat} (ho : w.ownsRow base e size v n xs) (hg : w.heap[g]? = some (.cells cs ty fr)) (hne : ty ≠ e) : v.ownBlock ≠ some g := by
  rcases ho.2 with ⟨rfl, _⟩ | ⟨k, cap, cur, rfl, _, hh, _⟩
  · simp [Value.ownBlock]
  · intro h
    have : k = g := by simpa [Value.ownBlock] using h
    subst this
    rw [hh] at hg
    simp only [Option.some.injEq, Obj.cells.injEq] at hg
    exact hne hg.2.1.symm
theorem KT.grown {T e : TypeId} {a w w' : World} (h : KT T a w) {base n size : Nat} {v : Value} {xs : List Value} (ho : w.ownsRow base e size v n xs) (hne : e ≠ T) (hg : w.grownBy w' v.ownBlock) : KT T a w' := fun k cs fr hk => by
  have h1 := h k cs fr hk
  rw [hg.block k (block_lt h1) (fun e' => own_ne ho h1 (fun e2 => hne e2.symm) e'.symm)]
  exact h1
theorem own_kt {w w' : World} {base n size : Nat} {v : Value} {xs : List Value} {e : TypeId} (ho : w.ownsRow base e size v n xs) (hk : KT e w w') : w'.ownsRow base e size v n xs := by
  obtain ⟨h1, h2⟩ := ho
  refine ⟨h1, ?_⟩
  rcases h2 with h2 | ⟨k, cap, cur, h3, h4, hh, h5⟩
  · exact Or.inl h2
  · exact Or.inr ⟨k, cap, cur, h3, h4, hk _ _ _ hh, h5⟩
/-- Bytes that lie in a block of bytes. -/
def DBy (w : World) (dv : Value) (D : List UInt8) : Prop :=
  (D = [] ∧ dv = .slice none 0 0) ∨ ∃ g cap cs fr, dv = .slice (some ⟨g, 0, none⟩) D.length cap ∧ w.heap[g]? = some (.cells cs 5 fr) ∧ ∀ (j : Nat) (b : UInt8), D[j]? = some b → cs[j]? = some (.int .u8 b.toNat)
theorem DBy.kt {w w' : World} {dv : Value} {D : List UInt8} (h : DBy w dv D) (hk : KT 5 w w') : DBy w' dv D := by
  rcases h with h | ⟨g, cap, cs, fr, h1, h2, h3⟩
  · exact Or.inl h
  · exact Or.inr ⟨g, cap, cs, fr, h1, hk _ _ _ h2, h3⟩
theorem DBy.dv {w : World} {dv : Value} {D : List UInt8} (h : DBy w dv D) : DV w dv D := by
  rcases h with h | ⟨g, cap, cs, fr, h1, h2, h3⟩
  · exact Or.inl h
  · exact Or.inr ⟨g, cap, h1, fun j b hj => block_cell h2 (h3 j b hj)⟩
theorem DBy.one {w : World} {dv : Value} {D : List UInt8} (h : DBy w dv D) : ∃ a n c, dv = .slice a n c := h.dv.one
theorem bytesRow_at (s : ByteArray) (z j : Nat) (b : UInt8) (hj : s.data.toList[j]? = some b) : (bytesRow s z)[j]? = some (.int .u8 b.toNat) := by
  have hjl := (List.getElem?_eq_some_iff.1 hj).1
  have hz : j < s.data.size := by simpa using hjl
  unfold bytesRow
  rw [Array.getElem?_append_left (by simpa using hz)]
  rw [Array.getElem?_map]
  have : s.data[j]? = some b := by simpa using hj
  rw [this]
  rfl
theorem db_new (w : World) (s : ByteArray) (z : Nat) {g : Nat} (hg : g = w.heap.size) : DBy (w.drew.alloc (.cells (bytesRow s z) 5 ((bytesRow s z).size, (bytesRow s z).size + 1))) (.slice (some ⟨g, 0, none⟩) s.size z) s.data.toList := by
  subst hg
  have hn := block_new w.drew (.cells (bytesRow s z) 5 ((bytesRow s z).size, (bytesRow s z).size + 1)) (g := w.heap.size) (by simp)
  refine Or.inr ⟨w.heap.size, z, _, _, by rw [show s.data.toList.length = s.size from Array.length_toList], hn, fun j b hj => ?_⟩
  have hjl := (List.getElem?_eq_some_iff.1 hj).1
  have hz : j < s.data.size := by simpa using hjl
  unfold bytesRow
  rw [Array.getElem?_append_left (by simpa using hz)]
  rw [Array.getElem?_map]
  have : s.data[j]? = some b := by simpa using hj
  rw [this]
  rfl
/-- A list of files. -/
def FL (w : World) (v : Value) (fs : List Fi) : Prop :=
  ∃ a cap, v = .slice a fs.length cap ∧ fs.length ≤ 1048576 ∧ ∀ (i : Nat) (f : Fi), fs[i]? = some f → ∃ b off dv, a = some ⟨b, off, none⟩ ∧ w.cell? ⟨b, off + i * 3, none⟩ = some (.string f.path) ∧ w.cell? ⟨b, off + i * 3 + 1, none⟩ = some (.int .i64 1) ∧ w.cell? ⟨b, off + i * 3 + 2, none⟩ = some dv ∧ DV w dv f.data
theorem FL.keeps {w w' : World} {v : Value} {fs : List Fi} (h : FL w v fs) (hb : Below w.heap.size w w') : FL w' v fs := by
  obtain ⟨a, cap, h1, h2, h3⟩ := h
  refine ⟨a, cap, h1, h2, fun i f hi => ?_⟩
  obtain ⟨b, off, dv, k0, k1, k2, k3, k4⟩ := h3 i f hi
  exact ⟨b, off, dv, k0, cell_keeps hb k1, cell_keeps hb k2, cell_keeps hb k3, k4.keeps hb⟩
/-- Three cells a file. -/
def FFlat (w : World) (xs : List Value) (fs : List Fi) : Prop :=
  xs.length = fs.length * 3 ∧ ∀ (i : Nat) (f : Fi), fs[i]? = some f → ∃ dv, xs[i * 3]? = some (.string f.path) ∧ xs[i * 3 + 1]? = some (.int .i64 1) ∧ xs[i * 3 + 2]? = some dv ∧ DBy w dv f.data
theorem FFlat.nil (w : World) : FFlat w [] [] := ⟨rfl, fun i f h => by simp at h⟩
theorem FFlat.kt {w w' : World} {xs : List Value} {fs : List Fi} (h : FFlat w xs fs) (hb : KT 5 w w') : FFlat w' xs fs :=
  ⟨h.1, fun i f hi => by obtain ⟨dv, k1, k2, k3, k4⟩ := h.2 i f hi; exact ⟨dv, k1, k2, k3, k4.kt hb⟩⟩
theorem FFlat.snoc {w : World} {xs : List Value} {fs : List Fi} {p : ByteArray} {dv : Value} {D : List UInt8} (h : FFlat w xs fs) (hd : DBy w dv D) : FFlat w (xs ++ [.string p, .int .i64 1, dv]) (fs ++ [⟨p, D⟩]) := by
  refine ⟨by simp [h.1]; omega, fun i f hi => ?_⟩
  have hl := h.1
  by_cases hlt : i < fs.length
  · rw [List.getElem?_append_left hlt] at hi
    obtain ⟨dv', k1, k2, k3, k4⟩ := h.2 i f hi
    exact ⟨dv', by rw [List.getElem?_append_left (by omega)]; exact k1, by rw [List.getElem?_append_left (by omega)]; exact k2, by rw [List.getElem?_append_left (by omega)]; exact k3, k4⟩
  · have hlt2 := (List.getElem?_eq_some_iff.1 hi).1
    simp at hlt2
    obtain rfl : i = fs.length := by omega
    simp at hi
    subst hi
    refine ⟨dv, ?_, ?_, ?_, hd⟩
    · rw [List.getElem?_append_right (by omega), show fs.length * 3 - xs.length = 0 by omega]; rfl
    · rw [List.getElem?_append_right (by omega), show fs.length * 3 + 1 - xs.length = 1 by omega]; rfl
    · rw [List.getElem?_append_right (by omega), show fs.length * 3 + 2 - xs.length = 2 by omega]; rfl
theorem FL.of_own {w : World} {base : Nat} {v : Value} {fs : List Fi} {n : Nat} {xs : List Value} (hown : w.ownsRow base 42 3 v n xs) (hf : FFlat w xs fs) (hl : fs.length ≤ 1048576) : FL w v fs := by
  obtain ⟨h1, h2⟩ := hown
  have hn : n = fs.length := by have := hf.1; omega
  subst hn
  rcases h2 with ⟨rfl, h0⟩ | ⟨g, cap, cur, rfl, hg, hh, hle, hm, hsz, htk⟩
  · refine ⟨none, 0, by rw [h0], hl, fun i x hi => ?_⟩
    have := (List.getElem?_eq_some_iff.1 hi).1
    omega
  · refine ⟨_, cap, rfl, hl, fun i f hi => ?_⟩
    obtain ⟨dv, k1, k2, k3, k4⟩ := hf.2 i f hi
    have cell : ∀ j u, xs[j]? = some u → w.cell? ⟨g, 0 + j, none⟩ = some u := by
      intro j u hj
      rw [Nat.zero_add]
      refine block_cell hh ?_
      rw [← htk, List.getElem?_take] at hj
      split at hj
      · simpa using hj
      · cases hj
    have c1 := cell _ _ k2
    have c2 := cell _ _ k3
    rw [← Nat.add_assoc] at c1 c2
    exact ⟨g, 0, dv, rfl, cell _ _ k1, c1, c2, k4.dv⟩
/-- A list of pairs. -/
def PL (w : World) (v : Value) (ps : List (ByteArray × ByteArray)) : Prop :=
  ∃ a cap, v = .slice a ps.length cap ∧ ∀ (i : Nat) (p : ByteArray × ByteArray), ps[i]? = some p → p.1.size ≤ 1048576 ∧ p.2.size ≤ 1048576 ∧ ∃ b off, a = some ⟨b, off, none⟩ ∧ w.cell? ⟨b, off + i * 2, none⟩ = some (.string p.1) ∧ w.cell? ⟨b, off + i * 2 + 1, none⟩ = some (.string p.2)
theorem PL.keeps {w w' : World} {v : Value} {ps : List (ByteArray × ByteArray)} (h : PL w v ps) (hb : Below w.heap.size w w') : PL w' v ps := by
  obtain ⟨a, cap, h1, h3⟩ := h
  refine ⟨a, cap, h1, fun i f hi => ?_⟩
  obtain ⟨k1, k2, b, off, k3, k4, k5⟩ := h3 i f hi
  exact ⟨k1, k2, b, off, k3, cell_keeps hb k4, cell_keeps hb k5⟩
/-- A list of settings: path and value, seven cells each. -/
def StL (d : Nat) (w : World) (v : Value) (ss : List (ByteArray × V)) : Prop :=
  ∃ a cap, v = .slice a ss.length cap ∧ ∀ (i : Nat) (s : ByteArray × V), ss[i]? = some s → s.1.size ≤ 1048576 ∧ NumV d s.2 ∧ (shT d s.2).length ≤ 10000000000 ∧ ∃ b off r f, a = some ⟨b, off, none⟩ ∧ w.cell? ⟨b, off + i * 7, none⟩ = some (.string s.1) ∧
    w.cell? ⟨b, off + i * 7 + 1, none⟩ = some (.int .i64 s.2.kind) ∧ w.cell? ⟨b, off + i * 7 + 2, none⟩ = some (.int .i64 s.2.int) ∧ w.cell? ⟨b, off + i * 7 + 3, none⟩ = some (.float .f64 s.2.flt) ∧ w.cell? ⟨b, off + i * 7 + 4, none⟩ = some (.string s.2.text) ∧
    w.cell? ⟨b, off + i * 7 + 5, none⟩ = some r ∧ w.cell? ⟨b, off + i * 7 + 6, none⟩ = some f ∧ VI d w s.2 r f
theorem StL.keeps {d : Nat} {w w' : World} {v : Value} {ss : List (ByteArray × V)} (h : StL d w v ss) (hb : Below w.heap.size w w') : StL d w' v ss := by
  obtain ⟨a, cap, h1, h3⟩ := h
  refine ⟨a, cap, h1, fun i f hi => ?_⟩
  obtain ⟨k1, k2, k3, b, off, r, f, q0, q1, q2, q3, q4, q5, q6, q7, q8⟩ := h3 i f hi
  exact ⟨k1, k2, k3, b, off, r, f, q0, cell_keeps hb q1, cell_keeps hb q2, cell_keeps hb q3, cell_keeps hb q4, cell_keeps hb q5, cell_keeps hb q6, cell_keeps hb q7, q8.keeps hb⟩
/-- A configuration. -/
structure Cf where
  ss : List (ByteArray × V)
  fs : List (ByteArray × ByteArray)
  us : List ByteArray
  un : List U
structure CV (d : Nat) (w : World) (v0 v1 v2 v3 : Value) (c : Cf) : Prop where
  st : StL d w v0 c.ss
  fi : PL w v1 c.fs
  us : SL w v2 c.us
  un : UL w v3 c.un
  usz : ∀ s, s ∈ c.us → s.size ≤ 1048576
  unz : ∀ u, u ∈ c.un → u.name.size ≤ 1048576
  len : c.ss.length ≤ 1048576 ∧ c.fs.length ≤ 1048576 ∧ c.us.length ≤ 1048576 ∧ c.un.length ≤ 1048576
theorem CV.keeps {d : Nat} {w w' : World} {v0 v1 v2 v3 : Value} {c : Cf} (h : CV d w v0 v1 v2 v3 c) (hb : Below w.heap.size w w') : CV d w' v0 v1 v2 v3 c :=
  ⟨h.st.keeps hb, h.fi.keeps hb, SL.keeps hb h.us, UL.keeps hb h.un, h.usz, h.unz, h.len⟩
/-- What a configuration asks for. -/
def fileOf (p : ByteArray × ByteArray) : Fi := ⟨p.1, if p.2 = ⟨#[]⟩ then [] else p.2.data.toList ++ [10]⟩
def unitOf (u : U) : U := if u.start = ⟨#[]⟩ then { u with start := u.name } else u
/-- A system. -/
structure SV (w : World) (a b c : Value) (cf : Cf) : Prop where
  fi : FL w a (cf.fs.map fileOf)
  us : SL w b cf.us
  un : UL w c (cf.un.map unitOf)
theorem SV.keeps {w w' : World} {a b c : Value} {cf : Cf} (h : SV w a b c cf) (hb : Below w.heap.size w w') : SV w' a b c cf := ⟨h.fi.keeps hb, SL.keeps hb h.us, UL.keeps hb h.un⟩
theorem kept_below {w a b : World} (ha : Below w.heap.size w a) (hb : Below w.heap.size w b) : Kept (fun k => k < w.heap.size) a b := fun k hk _ => (hb.block k hk).trans (ha.block k hk).symm
theorem unitOf_req (u : U) : (unitOf u).req = u.req ∧ (unitOf u).aft = u.aft ∧ (unitOf u).name = u.name := by unfold unitOf; split <;> exact ⟨rfl, rfl, rfl⟩
theorem map_take_succ {α β : Type} {l : List α} {k : Nat} {x : α} (f : α → β) (h : l[k]? = some x) : (l.take (k + 1)).map f = (l.take k).map f ++ [f x] := by
  rw [List.take_add_one, h]; simp
end Go.Proofs.YthefajkihnlgfaaGreatDoor

