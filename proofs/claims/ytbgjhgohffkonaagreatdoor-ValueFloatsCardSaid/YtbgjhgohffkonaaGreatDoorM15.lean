/- Plain: value.Float's text of any float. -/
import Derived.Test.YtbgjhgohffkonaaGreatDoorM14
import Derived.Lib.IndexAny
import Derived.Lib.IndexBytes
import Derived.Lib.IndexMore
import Derived.Test.YtbgjhgohffkonaaGreatDoorM03
import Derived.Test.YtbgjhgohffkonaaGreatDoorRows
import Derived.WalkKit
import Derived.WalkSpells
import Derived.WalkLawsBesides
import Derived.BigQuiet
import Derived.Deep.QuietTactic
import Derived.Lib.Hide
import Derived.WalkSmall
import Derived.Lib.Strings
namespace Go.Proofs.YtbgjhgohffkonaaGreatDoor
open Ieee
def bigB (b : Nat) : Bool := decide (fvA b < fvA 4517329193108106637) || decide (fvA 4921056587992461136 ≤ fvA b)
def dotT (l : List UInt8) : List UInt8 := if l.contains 46 then l else l ++ [46, 48]
/-- FormatFloat's text at 'f'. -/
def fT102 (b : Nat) : List UInt8 := if ftM b = 0 then fmS (ftN b) ++ [48] else ffT 102 b
def fT101 (b : Nat) : List UInt8 := ffT 101 b
def fltT (b : Nat) : List UInt8 :=
  if 9218868437227405312 < b % 9223372036854775808 then [110, 97, 110]
  else if b = 9218868437227405312 then [105, 110, 102]
  else if b = 18442240474082181120 then [45, 105, 110, 102]
  else if ftM b ≠ 0 ∧ bigB b = true then dotT (fmS (ftN b) ++ fmM (ftD b)) ++ 101 :: fmX (ftQ b - 1)
  else dotT (fT102 b)
theorem fT101_is (b : Nat) : fT101 b = (fmS (ftN b) ++ fmM (ftD b)) ++ 101 :: fmX (ftQ b - 1) := by
  unfold fT101 ffT fmE
  rw [if_pos rfl]
  simp
theorem absB_mod {b : Nat} (h : b < 18446744073709551616) : absB b = b % 9223372036854775808 := by
  unfold absB
  show (IntKind.u64.wrap ((BitVec.ofInt 64 (b : Int) &&& ~~~ BitVec.ofInt 64 9223372036854775808).toNat : Nat)).toNat = _
  have e : (BitVec.ofInt 64 (b : Int) &&& ~~~ BitVec.ofInt 64 9223372036854775808).toNat = b % 2 ^ 63 := by
    rw [BitVec.toNat_and, show (~~~ BitVec.ofInt 64 9223372036854775808).toNat = 2 ^ 63 - 1 by decide, Nat.and_two_pow_sub_one_eq_mod, BitVec.toNat_ofInt]
    congr 1
    omega
  rw [e, IntWalk.u64_in _ (by omega)]
  omega
theorem abs_ftE {b : Nat} (h : b < 18446744073709551616) : ftE (absB b) = ftE b := by
  rw [absB_mod h, ftE_mod, ftE_mod, Nat.mod_mod]
theorem abs_ftM {b : Nat} (h : b < 18446744073709551616) : ftM (absB b) = ftM b := by
  unfold ftM
  rw [abs_ftE h, absB_mod h]
  split <;> omega
theorem abs_fvS {b : Nat} (h : b < 18446744073709551616) : fvS (absB b) = (fvA b : Int) := by
  unfold fvS
  rw [if_neg (by rw [absB_mod h]; omega)]
  unfold fvA
  rw [abs_ftM h, abs_ftE h]
theorem abs_lt {b : Nat} (h : b < 18446744073709551616) : absB b < 18446744073709551616 := by rw [absB_mod h]; omega
theorem pos_fvS {c : Nat} (h : c < 9223372036854775808) : fvS c = (fvA c : Int) := by unfold fvS; rw [if_neg (by omega)]
theorem abs_order {b c : Nat} (h : b < 18446744073709551616) (hE : ftE b ≠ 2047) (hc : c < 9223372036854775808) (hcE : ftE c ≠ 2047) : F64.order (absB b) c = some (if fvA b < fvA c then .lt else if fvA b = fvA c then .eq else .gt) := by
  rw [order_val (abs_lt h) (by rw [abs_ftE h]; exact hE) (by omega) hcE, abs_fvS h, pos_fvS hc, cmp_int]
  simp only [Int.ofNat_lt, Int.natCast_inj]
theorem fvA_zero {b : Nat} : fvA b = 0 ↔ ftM b = 0 := by
  unfold fvA
  rw [Nat.mul_eq_zero]
  constructor
  · rintro (h | h)
    · exact h
    · simp at h
  · exact Or.inl
/-- How |b| stands to nought, to 1e-6, to 1e21. -/
theorem abs_cases {b : Nat} (h : b < 18446744073709551616) (hE : ftE b ≠ 2047) :
    (ftM b = 0 ∧ F64.order (absB b) 0 = some .eq) ∨
    (ftM b ≠ 0 ∧ F64.order (absB b) 0 = some .gt ∧
      ((bigB b = true ∧ F64.order (absB b) 4517329193108106637 = some .lt) ∨
       ((F64.order (absB b) 4517329193108106637 = some .gt ∨ F64.order (absB b) 4517329193108106637 = some .eq) ∧
        ((bigB b = true ∧ (F64.order (absB b) 4921056587992461136 = some .gt ∨ F64.order (absB b) 4921056587992461136 = some .eq)) ∨
         (bigB b = false ∧ F64.order (absB b) 4921056587992461136 = some .lt))))) := by
  have h0 := abs_order (c := 0) h hE (by decide) (by decide)
  have h1 := abs_order (c := 4517329193108106637) h hE (by decide) (by decide)
  have h2 := abs_order (c := 4921056587992461136) h hE (by decide) (by decide)
  have z : fvA 0 = 0 := fvA_zero.2 (by decide)
  rw [z] at h0
  have hB : bigB b = (decide (fvA b < fvA 4517329193108106637) || decide (fvA 4921056587992461136 ≤ fvA b)) := rfl
  generalize fvA 4517329193108106637 = A at *
  generalize fvA 4921056587992461136 = C at *
  have hz := @fvA_zero b
  generalize fvA b = x at *
  rw [h0, h1, h2, hB]
  clear h0 h1 h2 hB
  by_cases hx : x = 0
  · left
    exact ⟨hz.1 hx, by simp [hx]⟩
  · right
    refine ⟨fun e => hx (hz.2 e), by simp [hx], ?_⟩
    by_cases hA : x < A
    · left
      simp [hA]
    · right
      constructor
      · by_cases e : x = A
        · right; simp [e]
        · left; simp [hA, e]
      · by_cases hC : x < C
        · right
          have : ¬ C ≤ x := by omega
          simp [hA, hC, this]
        · left
          have hC' : C ≤ x := by omega
          refine ⟨by simp [hC'], ?_⟩
          by_cases e : x = C
          · right; simp [e]
          · left; simp [hC, e]
theorem order_min {b : Nat} (hb : b < 18446744073709551616) (hE : ftE b ≠ 2047) : F64.order b 18442240474082181119 = some .gt ∨ F64.order b 18442240474082181119 = some .eq := by
  rw [order_val hb hE (by decide) (by decide)]
  have h := fvA_le hE
  have h1 : fvA 18442240474082181119 = fvA 9218868437227405311 := by
    unfold fvA
    rw [show ftM 18442240474082181119 = ftM 9218868437227405311 by decide, show ftE 18442240474082181119 = ftE 9218868437227405311 by decide]
  have h2 : fvS 18442240474082181119 = -(fvA 9218868437227405311 : Int) := by unfold fvS; rw [if_pos (by decide), h1]
  rw [h2]
  have h3 : -(fvA 9218868437227405311 : Int) ≤ fvS b := by
    unfold fvS
    generalize fvA 9218868437227405311 = K at *
    generalize fvA b = a at *
    split <;> omega
  generalize (fvA 9218868437227405311 : Int) = K at *
  generalize fvS b = a at *
  rw [cmp_int, if_neg (by omega)]
  by_cases he : a = -K
  · rw [if_pos he]; exact Or.inr rfl
  · rw [if_neg he]; exact Or.inl rfl
/-- Not finite: no number, or infinite. -/
theorem not_fin {b : Nat} (hb : b < 18446744073709551616) (hE : ftE b = 2047) : (9218868437227405312 < b % 9223372036854775808 ∧ F64.order b b = none) ∨ b = 9218868437227405312 ∨ b = 18442240474082181120 := by
  unfold ftE at hE
  by_cases h : 9218868437227405312 < b % 9223372036854775808
  · left
    refine ⟨h, ?_⟩
    have e : ∃ s p, F64.read b = .nan s p := by
      refine ⟨(b / 9223372036854775808 % 2 == 1), b % 9223372036854775808 - 9218868437227405312, ?_⟩
      unfold Format.read
      rw [f64_sign, f64_binade, f64_inf]
      simp only []
      rw [if_neg (by omega), if_neg (by omega), if_neg (by omega)]
    obtain ⟨s, p, e⟩ := e
    unfold Format.order
    rw [e]
    rfl
  · right
    omega
theorem fin_of {b : Nat} (hE : ftE b ≠ 2047) : ¬ 9218868437227405312 < b % 9223372036854775808 ∧ b ≠ 9218868437227405312 ∧ b ≠ 18442240474082181120 := by
  unfold ftE at hE
  omega
theorem zero_of {b : Nat} (hb : b < 18446744073709551616) (hM : ftM b = 0) : b = 0 ∨ b = 9223372036854775808 := by
  unfold ftM ftE at hM
  split at hM <;> omega
theorem contains_dot (l : List UInt8) : Lib.contains l [46] = l.contains 46 := by
  unfold Lib.contains
  rw [Lib.index_one, Lib.contains_iff_indexByte]
theorem index_cut {p q : List UInt8} {c : UInt8} (h : c ∉ p) : Lib.indexByte (p ++ c :: q) c = (p.length : Int) := by
  induction p with
  | nil => simp [Lib.indexByte]
  | cons a r ih =>
    have h1 : a ≠ c := fun e => h (by rw [e]; exact List.mem_cons_self)
    have h2 := ih (fun e => h (List.mem_cons_of_mem _ e))
    simp only [List.cons_append, Lib.indexByte]
    rw [h2]
    simp [h1]
theorem ba_cut_l (p q : List UInt8) : (⟨(p ++ q).toArray⟩ : ByteArray).extract 0 p.length = ⟨p.toArray⟩ := by
  apply ByteArray.ext
  simp
theorem ba_cut_r (p q : List UInt8) : (⟨(p ++ q).toArray⟩ : ByteArray).extract p.length (p ++ q).length = ⟨q.toArray⟩ := by
  apply ByteArray.ext
  simp
theorem ba_plus (p q : List UInt8) : (⟨p.toArray⟩ : ByteArray) ++ ⟨q.toArray⟩ = ⟨(p ++ q).toArray⟩ := by
  apply ByteArray.ext
  simp
end Go.Proofs.YtbgjhgohffkonaaGreatDoor

/- Plain definitions on units and strings, and what it says that a value in memory reads as them. -/
namespace Go.Proofs.YtbgjhgohffkonaaGreatDoor
open Go.RowKit

/-- A unit as plain data. -/
structure U where
  name : ByteArray
  start : ByteArray
  req : List ByteArray
  aft : List ByteArray

/-- The slice value reads as the strings; each of its cells lies in a block of which p holds. -/
def SLP (p : Nat → Prop) (w : World) (v : Value) (ss : List ByteArray) : Prop :=
  ∃ a cap, v = .slice a ss.length cap ∧ (a = none → cap = 0) ∧ ss.length ≤ 8796093021952 ∧
    ∀ i s, ss[i]? = some s → ∃ b off, a = some ⟨b, off, none⟩ ∧ w.cell? ⟨b, off + i, none⟩ = some (.string s) ∧ s.size ≤ maxLen ∧ p b
def SL (w : World) (v : Value) (ss : List ByteArray) : Prop := SLP (fun _ => True) w v ss

/-- A unit's four cells; what its lists lead to lies in blocks of which p holds. -/
def UCP (p : Nat → Prop) (w : World) (b o : Nat) (u : U) : Prop :=
  w.cell? ⟨b, o, none⟩ = some (.string u.name) ∧ w.cell? ⟨b, o + 1, none⟩ = some (.string u.start) ∧ u.name.size ≤ maxLen ∧ u.start.size ≤ maxLen ∧
  ∃ r f, w.cell? ⟨b, o + 2, none⟩ = some r ∧ w.cell? ⟨b, o + 3, none⟩ = some f ∧ SLP p w r u.req ∧ SLP p w f u.aft
def UC (w : World) (b o : Nat) (u : U) : Prop := UCP (fun _ => True) w b o u

/-- The slice value reads as the units; its cells lie in blocks of which q holds, those of their lists in blocks of which p holds. -/
def ULP (q p : Nat → Prop) (w : World) (v : Value) (us : List U) : Prop :=
  ∃ a cap, v = .slice a us.length cap ∧ us.length ≤ 1759218604390 ∧
    ∀ i u, us[i]? = some u → ∃ b off, a = some ⟨b, off, none⟩ ∧ UCP p w b (off + i * 4) u ∧ q b
def UL (w : World) (v : Value) (us : List U) : Prop := ULP (fun _ => True) (fun _ => True) w v us

/-- A unit by value. -/
def UVP (p : Nat → Prop) (w : World) (v : Value) (u : U) : Prop :=
  ∃ r f, v = .agg #[.string u.name, .string u.start, r, f] ∧ u.name.size ≤ maxLen ∧ u.start.size ≤ maxLen ∧ SLP p w r u.req ∧ SLP p w f u.aft
def UV (w : World) (v : Value) (u : U) : Prop := UVP (fun _ => True) w v u

/-- Of blocks of which p holds nothing has turned. -/
def Kept (p : Nat → Prop) (w w' : World) : Prop := ∀ b, p b → b < w.heap.size → w'.heap[b]? = w.heap[b]?
theorem Kept.of_below {w w' : World} (p : Nat → Prop) (h : Below w.heap.size w w') : Kept p w w' := fun b _ hb => h.block b hb
theorem Kept.cell {p : Nat → Prop} {w w' : World} (h : Kept p w w') {b o : Nat} {v : Value} (hc : w.cell? ⟨b, o, none⟩ = some v) (hp : p b) : w'.cell? ⟨b, o, none⟩ = some v :=
  (World.cell?_of_block (w := w) (h b hp (World.block_lt_of_cell? w _ hc))).trans hc
theorem Kept.mono {p p' : Nat → Prop} {w w' : World} (h : Kept p w w') (hp : ∀ b, p' b → p b) : Kept p' w w' := fun b hb hl => h b (hp b hb) hl
theorem Kept.of_grown {w w' : World} {row : Option Nat} {p : Nat → Prop} (h : w.grownBy w' row) (hp : ∀ b, p b → some b ≠ row) : Kept p w w' := fun b hb hlt => h.block b hlt (hp b hb)

theorem SLP.kept {p : Nat → Prop} {w w' : World} {v : Value} {ss : List ByteArray} (hs : SLP p w v ss) (h : Kept p w w') : SLP p w' v ss := by
  obtain ⟨a, cap, hv, hz, hl, hc⟩ := hs
  refine ⟨a, cap, hv, hz, hl, fun i s hi => ?_⟩
  obtain ⟨b, off, ha, h1, h2, h3⟩ := hc i s hi
  exact ⟨b, off, ha, h.cell h1 h3, h2, h3⟩
theorem SLP.keeps {p : Nat → Prop} {w w' : World} {v : Value} {ss : List ByteArray} (h : Below w.heap.size w w') (hs : SLP p w v ss) : SLP p w' v ss := hs.kept (Kept.of_below p h)
theorem SL.keeps {w w' : World} {v : Value} {ss : List ByteArray} (h : Below w.heap.size w w') (hs : SL w v ss) : SL w' v ss := SLP.kept hs (Kept.of_below _ h)
theorem SLP.mono {p p' : Nat → Prop} {w : World} {v : Value} {ss : List ByteArray} (hs : SLP p w v ss) (h : ∀ b, p b → p' b) : SLP p' w v ss := by
  obtain ⟨a, cap, hv, hz, hl, hc⟩ := hs
  refine ⟨a, cap, hv, hz, hl, fun i s hi => ?_⟩
  obtain ⟨b, off, ha, h1, h2, h3⟩ := hc i s hi
  exact ⟨b, off, ha, h1, h2, h b h3⟩
theorem SLP.any {p : Nat → Prop} {w : World} {v : Value} {ss : List ByteArray} (hs : SLP p w v ss) : SL w v ss := hs.mono fun _ _ => trivial
/-- Each block that a reading meets is there. -/
theorem SLP.there {p : Nat → Prop} {w : World} {v : Value} {ss : List ByteArray} (hs : SLP p w v ss) : SLP (fun b => p b ∧ b < w.heap.size) w v ss := by
  obtain ⟨a, cap, hv, hz, hl, hc⟩ := hs
  refine ⟨a, cap, hv, hz, hl, fun i s hi => ?_⟩
  obtain ⟨b, off, ha, h1, h2, h3⟩ := hc i s hi
  exact ⟨b, off, ha, h1, h2, h3, World.block_lt_of_cell? w _ h1⟩

theorem UCP.kept {q p : Nat → Prop} {w w' : World} {b o : Nat} {u : U} (hs : UCP p w b o u) (hq : Kept q w w') (hb : q b) (h : Kept p w w') : UCP p w' b o u := by
  obtain ⟨h1, h2, h3, h4, r, f, h5, h6, h7, h8⟩ := hs
  exact ⟨hq.cell h1 hb, hq.cell h2 hb, h3, h4, r, f, hq.cell h5 hb, hq.cell h6 hb, h7.kept h, h8.kept h⟩
theorem UCP.keeps {p : Nat → Prop} {w w' : World} {b o : Nat} {u : U} (h : Below w.heap.size w w') (hs : UCP p w b o u) : UCP p w' b o u := hs.kept (q := fun _ => True) (Kept.of_below _ h) trivial (Kept.of_below _ h)
theorem UC.keeps {w w' : World} {b o : Nat} {u : U} (h : Below w.heap.size w w') (hs : UC w b o u) : UC w' b o u := UCP.keeps h hs
theorem UCP.mono {p p' : Nat → Prop} {w : World} {b o : Nat} {u : U} (hs : UCP p w b o u) (h : ∀ b, p b → p' b) : UCP p' w b o u := by
  obtain ⟨h1, h2, h3, h4, r, f, h5, h6, h7, h8⟩ := hs
  exact ⟨h1, h2, h3, h4, r, f, h5, h6, h7.mono h, h8.mono h⟩

theorem ULP.kept {q p : Nat → Prop} {w w' : World} {v : Value} {us : List U} (hs : ULP q p w v us) (hq : Kept q w w') (h : Kept p w w') : ULP q p w' v us := by
  obtain ⟨a, cap, hv, hl, hc⟩ := hs
  refine ⟨a, cap, hv, hl, fun i u hi => ?_⟩
  obtain ⟨b, off, ha, h1, h2⟩ := hc i u hi
  exact ⟨b, off, ha, h1.kept hq h2 h, h2⟩
theorem ULP.keeps {q p : Nat → Prop} {w w' : World} {v : Value} {us : List U} (h : Below w.heap.size w w') (hs : ULP q p w v us) : ULP q p w' v us := hs.kept (Kept.of_below _ h) (Kept.of_below _ h)
theorem UL.keeps {w w' : World} {v : Value} {us : List U} (h : Below w.heap.size w w') (hs : UL w v us) : UL w' v us := ULP.keeps h hs
theorem ULP.mono {q p q' p' : Nat → Prop} {w : World} {v : Value} {us : List U} (hs : ULP q p w v us) (hq : ∀ b, q b → q' b) (hp : ∀ b, p b → p' b) : ULP q' p' w v us := by
  obtain ⟨a, cap, hv, hl, hc⟩ := hs
  refine ⟨a, cap, hv, hl, fun i u hi => ?_⟩
  obtain ⟨b, off, ha, h1, h2⟩ := hc i u hi
  exact ⟨b, off, ha, h1.mono hp, hq b h2⟩
theorem ULP.any {q p : Nat → Prop} {w : World} {v : Value} {us : List U} (hs : ULP q p w v us) : UL w v us := hs.mono (fun _ _ => trivial) (fun _ _ => trivial)

theorem UVP.kept {p : Nat → Prop} {w w' : World} {v : Value} {u : U} (hs : UVP p w v u) (h : Kept p w w') : UVP p w' v u := by
  obtain ⟨r, f, hv, h1, h2, h3, h4⟩ := hs
  exact ⟨r, f, hv, h1, h2, h3.kept h, h4.kept h⟩
theorem UVP.keeps {p : Nat → Prop} {w w' : World} {v : Value} {u : U} (h : Below w.heap.size w w') (hs : UVP p w v u) : UVP p w' v u := hs.kept (Kept.of_below _ h)
theorem UV.keeps {w w' : World} {v : Value} {u : U} (h : Below w.heap.size w w') (hs : UV w v u) : UV w' v u := UVP.keeps h hs

theorem UCP.value {p : Nat → Prop} {w : World} {b o : Nat} {u : U} (h : UCP p w b o u) : ∃ r f, w.cell? ⟨b, o + 2, none⟩ = some r ∧ w.cell? ⟨b, o + 3, none⟩ = some f ∧ UVP p w (.agg #[.string u.name, .string u.start, r, f]) u := by
  obtain ⟨_, _, h3, h4, r, f, h5, h6, h7, h8⟩ := h
  exact ⟨r, f, h5, h6, r, f, rfl, h3, h4, h7, h8⟩

/-- Where a unit of a name stands first. -/
def findU (us : List U) (s : ByteArray) : Option Nat := us.findIdx? fun u : U => u.name.toList == s.toList
/-- .. as Go's number. -/
def findI (us : List U) (s : ByteArray) : Int := match findU us s with | some k => k | none => -1

def sameU (a b : U) : Bool := a.name.toList == b.name.toList && a.start.toList == b.start.toList && decide (a.req = b.req) && decide (a.aft = b.aft)

theorem findI_some {us : List U} {s : ByteArray} {k : Nat} {u : U} (hk : us[k]? = some u) (he : (u.name.toList == s.toList) = true) (hb : ∀ (j : Nat) (x : U), j < k → us[j]? = some x → (x.name.toList == s.toList) = false) : findI us s = k := by
  have : findU us s = some k := by
    unfold findU
    have hk' := (List.getElem?_eq_some_iff.1 hk)
    obtain ⟨hlt, hx⟩ := hk'
    rw [List.findIdx?_eq_some_iff_getElem]
    refine ⟨hlt, by rw [hx]; exact he, fun j hj => ?_⟩
    have := hb j (us[j]'(by omega)) hj (List.getElem?_eq_getElem (by omega))
    simpa using this
  unfold findI
  rw [this]
theorem findI_none {us : List U} {s : ByteArray} (hb : ∀ (j : Nat) (x : U), us[j]? = some x → (x.name.toList == s.toList) = false) : findI us s = -1 := by
  have : findU us s = none := by
    unfold findU
    rw [List.findIdx?_eq_none_iff]
    intro x hx
    obtain ⟨j, hj⟩ := List.getElem?_of_mem hx
    exact hb j x hj
  unfold findI
  rw [this]

end Go.Proofs.YtbgjhgohffkonaaGreatDoor

