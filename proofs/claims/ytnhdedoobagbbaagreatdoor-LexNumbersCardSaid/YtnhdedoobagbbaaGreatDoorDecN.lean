/- Floats that are no NaN, and how the operations keep them so. -/
import Derived.Test.YtnhdedoobagbbaaGreatDoorDecF
namespace Go.Proofs.YtnhdedoobagbbaaGreatDoor
open Ieee

abbrev F64 : Format := FloatKind.f64.format
theorem f64_inf : F64.infRung = 9218868437227405312 := rfl
theorem f64_sign : F64.signWeight = 9223372036854775808 := rfl
theorem f64_binade : F64.binade = 4503599627370496 := rfl
/-- What is no NaN, and not below nought. -/
def Fin' (b : Nat) : Prop := b ≤ 9218868437227405312
theorem word_false (f : Format) (r : Nat) : f.word false r = r := rfl
theorem nearest_le (f : Format) (m : Nat) (p : Int) : f.nearest false m p ≤ f.infRung := by
  unfold Format.nearest
  split
  · rw [word_false]
    exact Nat.zero_le _
  · rw [word_false]
    exact Nat.min_le_right _ _
theorem nearest_fin (m : Nat) (p : Int) : Fin' (F64.nearest false m p) := by
  have h := nearest_le F64 m p
  rw [f64_inf] at h
  exact h
theorem read_fin {b : Nat} (h : Fin' b) : (∃ m p, F64.read b = .number false m p) ∨ F64.read b = .infinity false := by
  unfold Fin' at h
  unfold Format.read
  rw [f64_sign, f64_binade, f64_inf]
  have e1 : (b / 9223372036854775808 % 2 == 1) = false := by simp; omega
  have e2 : b % 9223372036854775808 = b := Nat.mod_eq_of_lt (by omega)
  simp only [e1, e2]
  split
  · exact Or.inl ⟨_, _, rfl⟩
  · split
    · exact Or.inl ⟨_, _, rfl⟩
    · rw [if_pos (by omega)]
      exact Or.inr rfl
theorem order_self {b : Nat} (h : Fin' b) : F64.order b b = some .eq := by
  unfold Format.order
  rcases read_fin h with ⟨m, p, e⟩ | e
  · rw [e]
    simp [Datum.order]
  · rw [e]
    rfl
theorem write_fin {d : Datum} (h : (∃ m p, d = .number false m p) ∨ d = .infinity false) : Fin' (F64.write d) := by
  rcases h with ⟨m, p, rfl⟩ | rfl
  · exact nearest_fin m p
  · have e : F64.write (.infinity false) = F64.infRung := rfl
    rw [e, f64_inf]
    exact Nat.le_refl _
/-- Divided by a number that is not nought. -/
theorem div_fin {a b m : Nat} {p : Int} (h : Fin' a) (hb : F64.read b = .number false m p) (hm : m ≠ 0) : ∃ r, F64.div a b = some r ∧ Fin' r := by
  unfold Format.div
  rw [hb]
  rcases read_fin h with ⟨m', p', e⟩ | e
  · rw [e]
    simp only [Datum.quotient]
    rw [if_neg hm]
    exact ⟨_, rfl, write_fin (Or.inl ⟨_, _, rfl⟩)⟩
  · rw [e]
    exact ⟨_, rfl, write_fin (Or.inr rfl)⟩
theorem mul_fin {a b m : Nat} {p : Int} (h : Fin' a) (hb : F64.read b = .number false m p) (hm : m ≠ 0) : ∃ r, F64.mul a b = some r ∧ Fin' r := by
  unfold Format.mul
  rw [hb]
  rcases read_fin h with ⟨m', p', e⟩ | e
  · rw [e]
    exact ⟨_, rfl, write_fin (Or.inl ⟨_, _, rfl⟩)⟩
  · rw [e]
    simp only [Datum.product]
    rw [if_neg hm]
    exact ⟨_, rfl, write_fin (Or.inr rfl)⟩
end Go.Proofs.YtnhdedoobagbbaaGreatDoor
