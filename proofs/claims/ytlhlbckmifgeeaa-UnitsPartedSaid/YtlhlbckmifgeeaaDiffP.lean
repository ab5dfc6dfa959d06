/- What stops, stays and starts: as plain functions. -/
import Derived.Test.YtlhlbckmifgeeaaBase
namespace Go.Proofs.Ytlhlbckmifgeeaa
open Go.RowKit

def inU (us : List U) (s : ByteArray) : Bool := (findU us s).isSome
def NSet : Type := ByteArray → Bool
def S0 (old fresh : List U) : NSet := fun s =>
  match findU fresh s, findU old s with
  | some i, some k => (match fresh[i]?, old[k]? with | some u, some x => sameU x u | _, _ => false)
  | _, _ => false
def goneB (old fresh : List U) (S : NSet) (r : ByteArray) : Bool := !S r && (inU old r || inU fresh r)
def badB (old fresh : List U) (S : NSet) (n : ByteArray) : Bool :=
  match findU fresh n with
  | some i => (match fresh[i]? with | some u => u.req.any (goneB old fresh S) | none => false)
  | none => false
def SubS (S T : NSet) : Prop := ∀ n, S n = true → T n = true
def Closed (old fresh : List U) (S : NSet) : Prop := ∀ n, S n = true → badB old fresh S n = false
/-- Between the first set and the greatest closed one within it. -/
structure Mid (old fresh : List U) (S : NSet) : Prop where
  sub : SubS S (S0 old fresh)
  big : ∀ C, SubS C (S0 old fresh) → Closed old fresh C → SubS C S
def delS (S : NSet) (n : ByteArray) : NSet := fun s => S s && !decide (s = n)
theorem gone_mono {old fresh : List U} {S C : NSet} (h : SubS C S) {r : ByteArray} (hg : goneB old fresh S r = true) : goneB old fresh C r = true := by
  unfold goneB at *
  simp only [Bool.and_eq_true, Bool.not_eq_true'] at hg ⊢
  refine ⟨?_, hg.2⟩
  cases hc : C r with
  | false => rfl
  | true => rw [h r hc] at hg; cases hg.1
theorem bad_mono {old fresh : List U} {S C : NSet} (h : SubS C S) {n : ByteArray} (hb : badB old fresh S n = true) : badB old fresh C n = true := by
  unfold badB at *
  split at hb
  · rename_i i hi
    split at hb
    · rename_i u hu
      rw [List.any_eq_true] at hb ⊢
      obtain ⟨r, h1, h2⟩ := hb
      exact ⟨r, h1, gone_mono h h2⟩
    · cases hb
  · cases hb
theorem Mid.start (old fresh : List U) : Mid old fresh (S0 old fresh) := ⟨fun _ h => h, fun _ h _ => h⟩
theorem Mid.del {old fresh : List U} {S : NSet} (h : Mid old fresh S) {n : ByteArray} (hb : badB old fresh S n = true) : Mid old fresh (delS S n) := by
  refine ⟨fun s hs => h.sub s ?_, fun C h1 h2 s hs => ?_⟩
  · unfold delS at hs
    simp only [Bool.and_eq_true] at hs
    exact hs.1
  · have hcs := h.big C h1 h2
    unfold delS
    simp only [Bool.and_eq_true, Bool.not_eq_true', decide_eq_false_iff_not]
    refine ⟨hcs s hs, ?_⟩
    rintro rfl
    have := bad_mono hcs hb
    rw [h2 s hs] at this
    cases this
/-- Two that are closed are one. -/
theorem Mid.unique {old fresh : List U} {S T : NSet} (h : Mid old fresh S) (hc : Closed old fresh S) (k : Mid old fresh T) (kc : Closed old fresh T) : S = T := by
  funext s
  have h1 := h.big T k.sub kc s
  have h2 := k.big S h.sub hc s
  cases hs : S s with
  | true => exact (h2 hs).symm
  | false =>
    cases ht : T s with
    | false => rfl
    | true => rw [h1 ht] at hs; cases hs
/-- The three rows, of what stays. -/
def stopP (old : List U) (S : NSet) : Nat → List ByteArray
  | 0 => []
  | i + 1 => (match old[i]? with | some u => if findI old u.name = i ∧ S u.name = false then [u.name] else [] | none => []) ++ stopP old S i
def keepP (fresh : List U) (S : NSet) : Nat → List ByteArray
  | 0 => []
  | i + 1 => keepP fresh S i ++ (match fresh[i]? with | some u => if findI fresh u.name = i ∧ S u.name = true then [u.name] else [] | none => [])
def startP (fresh : List U) (S : NSet) : Nat → List ByteArray
  | 0 => []
  | i + 1 => startP fresh S i ++ (match fresh[i]? with | some u => if findI fresh u.name = i ∧ S u.name = false then [u.name] else [] | none => [])
theorem S0_in {old fresh : List U} {s : ByteArray} (h : S0 old fresh s = true) : ∃ i k u x, findU fresh s = some i ∧ findU old s = some k ∧ fresh[i]? = some u ∧ old[k]? = some x ∧ sameU x u = true := by
  unfold S0 at h
  split at h
  · rename_i i k h1 h2
    split at h
    · rename_i u x h3 h4
      exact ⟨i, k, u, x, h1, h2, h3, h4, h⟩
    · cases h
  · cases h
end Go.Proofs.Ytlhlbckmifgeeaa
