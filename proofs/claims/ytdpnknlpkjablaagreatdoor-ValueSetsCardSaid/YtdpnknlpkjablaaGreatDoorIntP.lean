/- Plain facts on the reckoning with ints. -/
import Derived.WalkKit
import Derived.RowKit
import Derived.Laws.Bits64b
import Derived.Laws.BitsLemmas
namespace Go.Proofs.YtdpnknlpkjablaaGreatDoor
open Go.RowKit

def I64 (n : Int) : Prop := -9223372036854775808 ≤ n ∧ n ≤ 9223372036854775807
def plusB (a b : Int) : Bool := decide (wrap64 (a + b) < a) == decide (b < 0)
theorem plus_comm (a b : Int) (ha : I64 a) (hb : I64 b) : plusB a b = plusB b a := by
  unfold plusB I64 at *
  rw [Int.add_comm b a]
  unfold wrap64
  rw [Bool.eq_iff_iff]
  simp only [beq_iff_eq, decide_eq_decide]
  omega
theorem plus_just {a b : Int} (ha : I64 a) (hb : I64 b) (h : plusB a b = true) : wrap64 (a + b) = a + b := by
  unfold plusB I64 at *
  unfold wrap64 at h ⊢
  simp only [beq_iff_eq, decide_eq_decide] at h
  omega
def minusB (a b : Int) : Bool := decide (a < wrap64 (a - b)) == decide (b < 0)
theorem minus_back {a b : Int} (ha : I64 a) (hb : I64 b) (h : plusB a b = true) : wrap64 (wrap64 (a + b) - b) = a ∧ minusB (wrap64 (a + b)) b = true := by
  rw [plus_just ha hb h]
  have e : wrap64 (a + b - b) = a := by
    unfold wrap64
    unfold I64 at *
    omega
  refine ⟨e, ?_⟩
  unfold minusB
  rw [e]
  simp only [beq_iff_eq, decide_eq_decide]
  omega
/-- An int's magnitude. -/
def mag (n : Int) : Nat := n.natAbs
theorem mag_lt {n : Int} (h : I64 n) : mag n < 18446744073709551616 := by unfold mag I64 at *; omega
theorem quot_back {a b : Int} (ha : I64 a) (hb : I64 b) (h0 : b ≠ 0) (h1 : ¬ (a = -9223372036854775808 ∧ b = -1)) : I64 (a.tdiv b) ∧ a.tdiv b * b + a.tmod b = a := by
  refine ⟨?_, by rw [Int.mul_comm]; exact Int.mul_tdiv_add_tmod a b⟩
  have hn : (a.tdiv b).natAbs = a.natAbs / b.natAbs := Int.natAbs_tdiv a b
  have hle : a.natAbs / b.natAbs ≤ a.natAbs := Nat.div_le_self _ _
  unfold I64 at *
  by_cases hmin : a = -9223372036854775808
  · subst hmin
    have hb1 : b ≠ -1 := fun h => h1 ⟨rfl, h⟩
    by_cases hb2 : b = 1
    · subst hb2; decide
    · have h2 : 2 ≤ b.natAbs := by omega
      have h3 : (-9223372036854775808 : Int).natAbs / b.natAbs ≤ (-9223372036854775808 : Int).natAbs / 2 := Nat.div_le_div_left h2 (by decide)
      rw [← hn] at h3
      have h4 : (-9223372036854775808 : Int).natAbs / 2 = 4611686018427387904 := by decide
      omega
  · omega
/-- What a product comes to, and whether it fits. -/
def timesZ (a b : Int) : Int :=
  if mag a * mag b / 18446744073709551616 ≠ 0 then 0
  else if (decide (a < 0) != decide (b < 0)) = true then wrap64 (-(wrap64 ((mag a * mag b % 18446744073709551616 : Nat) : Int)))
  else wrap64 ((mag a * mag b % 18446744073709551616 : Nat) : Int)
def timesB (a b : Int) : Bool :=
  if mag a * mag b / 18446744073709551616 ≠ 0 then false
  else if (decide (a < 0) != decide (b < 0)) = true then decide (mag a * mag b % 18446744073709551616 ≤ 9223372036854775808)
  else decide (mag a * mag b % 18446744073709551616 < 9223372036854775808)
theorem times_comm (a b : Int) : timesZ a b = timesZ b a ∧ timesB a b = timesB b a := by
  have h : (decide (a < 0) != decide (b < 0)) = (decide (b < 0) != decide (a < 0)) := by cases decide (a < 0) <;> cases decide (b < 0) <;> rfl
  unfold timesZ timesB
  rw [Nat.mul_comm (mag b) (mag a), h]
  exact ⟨rfl, rfl⟩
end Go.Proofs.YtdpnknlpkjablaaGreatDoor
