/- Plain definitions on units and strings, and what it says that a value in memory reads as them. -/
import Derived.Test.YtlhlbckmifgeeaaRows
import Derived.WalkKit
import Derived.WalkSpells
import Derived.WalkLawsBesides
import Derived.BigQuiet
import Derived.Deep.QuietTactic
import Derived.Lib.Hide
import Derived.WalkSmall
import Derived.Lib.Strings
namespace Go.Proofs.Ytlhlbckmifgeeaa
open Go.RowKit

/-- A unit as plain data. -/
structure U where
  name : ByteArray
  start : ByteArray
  req : List ByteArray
  aft : List ByteArray

/-- The slice value reads as the strings; each of its cells lies in a block of which p holds. -/
def SLP (p : Nat → Prop) (w : World) (v : Value) (ss : List ByteArray) : Prop :=
  ∃ a cap, v = .slice a ss.length cap ∧ (a = none → cap = 0) ∧ ss.length ≤ 8796093021952 ∧
    ∀ i s, ss[i]? = some s → ∃ b off, a = some ⟨b, off, none⟩ ∧ w.cell? ⟨b, off + i, none⟩ = some (.string s) ∧ s.size ≤ maxLen ∧ p b
def SL (w : World) (v : Value) (ss : List ByteArray) : Prop := SLP (fun _ => True) w v ss

/-- A unit's four cells; what its lists lead to lies in blocks of which p holds. -/
def UCP (p : Nat → Prop) (w : World) (b o : Nat) (u : U) : Prop :=
  w.cell? ⟨b, o, none⟩ = some (.string u.name) ∧ w.cell? ⟨b, o + 1, none⟩ = some (.string u.start) ∧ u.name.size ≤ maxLen ∧ u.start.size ≤ maxLen ∧
  ∃ r f, w.cell? ⟨b, o + 2, none⟩ = some r ∧ w.cell? ⟨b, o + 3, none⟩ = some f ∧ SLP p w r u.req ∧ SLP p w f u.aft
def UC (w : World) (b o : Nat) (u : U) : Prop := UCP (fun _ => True) w b o u

/-- The slice value reads as the units; its cells lie in blocks of which q holds, those of their lists in blocks of which p holds. -/
def ULP (q p : Nat → Prop) (w : World) (v : Value) (us : List U) : Prop :=
  ∃ a cap, v = .slice a us.length cap ∧ us.length ≤ 1759218604390 ∧
    ∀ i u, us[i]? = some u → ∃ b off, a = some ⟨b, off, none⟩ ∧ UCP p w b (off + i * 4) u ∧ q b
def UL (w : World) (v : Value) (us : List U) : Prop := ULP (fun _ => True) (fun _ => True) w v us

/-- A unit by value. -/
def UVP (p : Nat → Prop) (w : World) (v : Value) (u : U) : Prop :=
  ∃ r f, v = .agg #[.string u.name, .string u.start, r, f] ∧ u.name.size ≤ maxLen ∧ u.start.size ≤ maxLen ∧ SLP p w r u.req ∧ SLP p w f u.aft
def UV (w : World) (v : Value) (u : U) : Prop := UVP (fun _ => True) w v u

theorem cell_keeps {w w' : World} (h : Below w.heap.size w w') {p : Addr} {v : Value} (hc : w.cell? p = some v) : w'.cell? p = some v :=
  (h.cell (World.block_lt_of_cell? w p hc)).trans hc

/-- Of blocks of which p holds nothing has turned. -/
def Kept (p : Nat → Prop) (w w' : World) : Prop := ∀ b, p b → b < w.heap.size → w'.heap[b]? = w.heap[b]?
theorem Kept.of_below {w w' : World} (p : Nat → Prop) (h : Below w.heap.size w w') : Kept p w w' := fun b _ hb => h.block b hb
theorem Kept.cell {p : Nat → Prop} {w w' : World} (h : Kept p w w') {b o : Nat} {v : Value} (hc : w.cell? ⟨b, o, none⟩ = some v) (hp : p b) : w'.cell? ⟨b, o, none⟩ = some v :=
  (World.cell?_of_block (w := w) (h b hp (World.block_lt_of_cell? w _ hc))).trans hc
theorem Kept.mono {p p' : Nat → Prop} {w w' : World} (h : Kept p w w') (hp : ∀ b, p' b → p b) : Kept p' w w' := fun b hb hl => h b (hp b hb) hl
theorem Kept.of_grown {w w' : World} {row : Option Nat} {p : Nat → Prop} (h : w.grownBy w' row) (hp : ∀ b, p b → some b ≠ row) : Kept p w w' := fun b hb hlt => h.block b hlt (hp b hb)

theorem SLP.kept {p : Nat → Prop} {w w' : World} {v : Value} {ss : List ByteArray} (hs : SLP p w v ss) (h : Kept p w w') : SLP p w' v ss := by
  obtain ⟨a, cap, hv, hz, hl, hc⟩ := hs
  refine ⟨a, cap, hv, hz, hl, fun i s hi => ?_⟩
  obtain ⟨b, off, ha, h1, h2, h3⟩ := hc i s hi
  exact ⟨b, off, ha, h.cell h1 h3, h2, h3⟩
theorem SLP.keeps {p : Nat → Prop} {w w' : World} {v : Value} {ss : List ByteArray} (h : Below w.heap.size w w') (hs : SLP p w v ss) : SLP p w' v ss := hs.kept (Kept.of_below p h)
theorem SL.keeps {w w' : World} {v : Value} {ss : List ByteArray} (h : Below w.heap.size w w') (hs : SL w v ss) : SL w' v ss := SLP.kept hs (Kept.of_below _ h)
theorem SLP.mono {p p' : Nat → Prop} {w : World} {v : Value} {ss : List ByteArray} (hs : SLP p w v ss) (h : ∀ b, p b → p' b) : SLP p' w v ss := by
  obtain ⟨a, cap, hv, hz, hl, hc⟩ := hs
  refine ⟨a, cap, hv, hz, hl, fun i s hi => ?_⟩
  obtain ⟨b, off, ha, h1, h2, h3⟩ := hc i s hi
  exact ⟨b, off, ha, h1, h2, h b h3⟩
theorem SLP.any {p : Nat → Prop} {w : World} {v : Value} {ss : List ByteArray} (hs : SLP p w v ss) : SL w v ss := hs.mono fun _ _ => trivial
/-- Each block that a reading meets is there. -/
theorem SLP.there {p : Nat → Prop} {w : World} {v : Value} {ss : List ByteArray} (hs : SLP p w v ss) : SLP (fun b => p b ∧ b < w.heap.size) w v ss := by
  obtain ⟨a, cap, hv, hz, hl, hc⟩ := hs
  refine ⟨a, cap, hv, hz, hl, fun i s hi => ?_⟩
  obtain ⟨b, off, ha, h1, h2, h3⟩ := hc i s hi
  exact ⟨b, off, ha, h1, h2, h3, World.block_lt_of_cell? w _ h1⟩

theorem UCP.kept {q p : Nat → Prop} {w w' : World} {b o : Nat} {u : U} (hs : UCP p w b o u) (hq : Kept q w w') (hb : q b) (h : Kept p w w') : UCP p w' b o u := by
  obtain ⟨h1, h2, h3, h4, r, f, h5, h6, h7, h8⟩ := hs
  exact ⟨hq.cell h1 hb, hq.cell h2 hb, h3, h4, r, f, hq.cell h5 hb, hq.cell h6 hb, h7.kept h, h8.kept h⟩
theorem UCP.keeps {p : Nat → Prop} {w w' : World} {b o : Nat} {u : U} (h : Below w.heap.size w w') (hs : UCP p w b o u) : UCP p w' b o u := hs.kept (q := fun _ => True) (Kept.of_below _ h) trivial (Kept.of_below _ h)
theorem UC.keeps {w w' : World} {b o : Nat} {u : U} (h : Below w.heap.size w w') (hs : UC w b o u) : UC w' b o u := UCP.keeps h hs
theorem UCP.mono {p p' : Nat → Prop} {w : World} {b o : Nat} {u : U} (hs : UCP p w b o u) (h : ∀ b, p b → p' b) : UCP p' w b o u := by
  obtain ⟨h1, h2, h3, h4, r, f, h5, h6, h7, h8⟩ := hs
  exact ⟨h1, h2, h3, h4, r, f, h5, h6, h7.mono h, h8.mono h⟩

theorem ULP.kept {q p : Nat → Prop} {w w' : World} {v : Value} {us : List U} (hs : ULP q p w v us) (hq : Kept q w w') (h : Kept p w w') : ULP q p w' v us := by
  obtain ⟨a, cap, hv, hl, hc⟩ := hs
  refine ⟨a, cap, hv, hl, fun i u hi => ?_⟩
  obtain ⟨b, off, ha, h1, h2⟩ := hc i u hi
  exact ⟨b, off, ha, h1.kept hq h2 h, h2⟩
theorem ULP.keeps {q p : Nat → Prop} {w w' : World} {v : Value} {us : List U} (h : Below w.heap.size w w') (hs : ULP q p w v us) : ULP q p w' v us := hs.kept (Kept.of_below _ h) (Kept.of_below _ h)
theorem UL.keeps {w w' : World} {v : Value} {us : List U} (h : Below w.heap.size w w') (hs : UL w v us) : UL w' v us := ULP.keeps h hs
theorem ULP.mono {q p q' p' : Nat → Prop} {w : World} {v : Value} {us : List U} (hs : ULP q p w v us) (hq : ∀ b, q b → q' b) (hp : ∀ b, p b → p' b) : ULP q' p' w v us := by
  obtain ⟨a, cap, hv, hl, hc⟩ := hs
  refine ⟨a, cap, hv, hl, fun i u hi => ?_⟩
  obtain ⟨b, off, ha, h1, h2⟩ := hc i u hi
  exact ⟨b, off, ha, h1.mono hp, hq b h2⟩
theorem ULP.any {q p : Nat → Prop} {w : World} {v : Value} {us : List U} (hs : ULP q p w v us) : UL w v us := hs.mono (fun _ _ => trivial) (fun _ _ => trivial)

theorem UVP.kept {p : Nat → Prop} {w w' : World} {v : Value} {u : U} (hs : UVP p w v u) (h : Kept p w w') : UVP p w' v u := by
  obtain ⟨r, f, hv, h1, h2, h3, h4⟩ := hs
  exact ⟨r, f, hv, h1, h2, h3.kept h, h4.kept h⟩
theorem UVP.keeps {p : Nat → Prop} {w w' : World} {v : Value} {u : U} (h : Below w.heap.size w w') (hs : UVP p w v u) : UVP p w' v u := hs.kept (Kept.of_below _ h)
theorem UV.keeps {w w' : World} {v : Value} {u : U} (h : Below w.heap.size w w') (hs : UV w v u) : UV w' v u := UVP.keeps h hs

theorem UCP.value {p : Nat → Prop} {w : World} {b o : Nat} {u : U} (h : UCP p w b o u) : ∃ r f, w.cell? ⟨b, o + 2, none⟩ = some r ∧ w.cell? ⟨b, o + 3, none⟩ = some f ∧ UVP p w (.agg #[.string u.name, .string u.start, r, f]) u := by
  obtain ⟨_, _, h3, h4, r, f, h5, h6, h7, h8⟩ := h
  exact ⟨r, f, h5, h6, r, f, rfl, h3, h4, h7, h8⟩

/-- A slice value's length. -/
def lenOf : Value → Nat | .slice _ l _ => l | _ => 0
theorem get_lt {α : Type} (l : List α) {k : Nat} (h : k < l.length) : ∃ x, l[k]? = some x := ⟨l[k], List.getElem?_eq_getElem h⟩

theorem below_drewN' (w : World) (n : Nat) : Below w.heap.size w (w.drewN n) := below_drewN (Below.refl _ _) n

/-- Strings are equal just if their lists of bytes are. -/
theorem toList_inj {a b : ByteArray} (h : a.toList = b.toList) : a = b := by
  rw [Lib.toList_data, Lib.toList_data] at h
  cases a; cases b
  simp at h
  simp [h]
theorem eqs_true {a b : ByteArray} : ((a.toList == b.toList) = true) ↔ a = b := by
  rw [beq_iff_eq]
  exact ⟨toList_inj, fun h => by rw [h]⟩
theorem eqs_false {a b : ByteArray} : ((a.toList == b.toList) = false) ↔ a ≠ b := by
  rw [← Bool.not_eq_true, eqs_true]

/-- Where a unit of a name stands first. -/
def findU (us : List U) (s : ByteArray) : Option Nat := us.findIdx? fun u : U => u.name.toList == s.toList
/-- .. as Go's number. -/
def findI (us : List U) (s : ByteArray) : Int := match findU us s with | some k => k | none => -1

def sameU (a b : U) : Bool := a.name.toList == b.name.toList && a.start.toList == b.start.toList && decide (a.req = b.req) && decide (a.aft = b.aft)

theorem findI_some {us : List U} {s : ByteArray} {k : Nat} {u : U} (hk : us[k]? = some u) (he : (u.name.toList == s.toList) = true) (hb : ∀ (j : Nat) (x : U), j < k → us[j]? = some x → (x.name.toList == s.toList) = false) : findI us s = k := by
  have : findU us s = some k := by
    unfold findU
    have hk' := (List.getElem?_eq_some_iff.1 hk)
    obtain ⟨hlt, hx⟩ := hk'
    rw [List.findIdx?_eq_some_iff_getElem]
    refine ⟨hlt, by rw [hx]; exact he, fun j hj => ?_⟩
    have := hb j (us[j]'(by omega)) hj (List.getElem?_eq_getElem (by omega))
    simpa using this
  unfold findI
  rw [this]
theorem findI_none {us : List U} {s : ByteArray} (hb : ∀ (j : Nat) (x : U), us[j]? = some x → (x.name.toList == s.toList) = false) : findI us s = -1 := by
  have : findU us s = none := by
    unfold findU
    rw [List.findIdx?_eq_none_iff]
    intro x hx
    obtain ⟨j, hj⟩ := List.getElem?_of_mem hx
    exact hb j x hj
  unfold findI
  rw [this]

end Go.Proofs.Ytlhlbckmifgeeaa
