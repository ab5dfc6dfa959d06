/- Plain facts on what the laws of values reckon with: floats' order, bytes' order. -/
import Derived.WalkKit
import Derived.Laws.FloatBits
namespace Go.Proofs.YtdpnknlpkjablaaGreatDoor
open Ieee

theorem signed_up (s : Bool) (m a k : Nat) : signed s m (a + k) = signed s m a * 2 ^ k := by
  unfold signed
  rw [Nat.shiftLeft_add, Nat.shiftLeft_eq (m <<< a) k]
  split <;> simp [Int.neg_mul]
/-- A number's value in units of 2 ^ base. -/
def atBase (s : Bool) (m : Nat) (i base : Int) : Int := signed s m (i - base).toNat
theorem atBase_lower (s : Bool) (m : Nat) {i base base' : Int} (h : base ≤ i) (h' : base' ≤ base) : atBase s m i base' = atBase s m i base * 2 ^ (base - base').toNat := by
  unfold atBase
  rw [show (i - base').toNat = (i - base).toNat + (base - base').toNat by omega]
  exact signed_up _ _ _ _
theorem compare_scale (a b : Int) (k : Nat) : compare (a * 2 ^ k) (b * 2 ^ k) = compare a b := by
  have hp : (0 : Int) < 2 ^ k := Int.pow_pos (by decide)
  rcases Int.lt_trichotomy a b with h | h | h
  · rw [Int.compare_eq_lt.2 h, Int.compare_eq_lt.2 (Int.mul_lt_mul_of_pos_right h hp)]
  · subst h; simp
  · rw [Int.compare_eq_gt.2 h, Int.compare_eq_gt.2 (Int.mul_lt_mul_of_pos_right h hp)]
theorem order_num (s t : Bool) (m n : Nat) (i j base : Int) (hi : base ≤ i) (hj : base ≤ j) : (Datum.number s m i).order (.number t n j) = some (compare (atBase s m i base) (atBase t n j base)) := by
  show some (compare (atBase s m i (min i j)) (atBase t n j (min i j))) = _
  rw [atBase_lower s m (base := min i j) (base' := base) (by omega) (by omega), atBase_lower t n (base := min i j) (base' := base) (by omega) (by omega), compare_scale]
theorem order_nan (x y : Datum) : x.order y = none ↔ (x.isNaN = true ∨ y.isNaN = true) := by
  cases x <;> cases y <;> simp [Datum.order, Datum.isNaN]
theorem order_swap (x y : Datum) : y.order x = (x.order y).map Ordering.swap := by
  cases x with
  | nan => cases y <;> simp [Datum.order]
  | infinity s =>
    cases y with
    | nan => simp [Datum.order]
    | infinity t => cases s <;> cases t <;> rfl
    | number t n j => cases s <;> rfl
  | number s m i =>
    cases y with
    | nan => simp [Datum.order]
    | infinity t => cases t <;> rfl
    | number t n j =>
      rw [order_num t s n m j i (min i j) (by omega) (by omega), order_num s t m n i j (min i j) (by omega) (by omega)]
      simp only [Option.map_some, Int.compare_swap]
theorem order_trans {x y z : Datum} (h1 : x.order y = some .lt) (h2 : y.order z = some .lt) : x.order z = some .lt := by
  cases x with
  | nan => simp [Datum.order] at h1
  | infinity s =>
    cases y with
    | nan => simp [Datum.order] at h1
    | infinity t =>
      cases s <;> cases t <;> simp [Datum.order, compare, compareOfLessAndEq] at h1
      cases z with
      | nan => simp [Datum.order] at h2
      | infinity u => cases u <;> simp [Datum.order, compare, compareOfLessAndEq] at h2
      | number u l k => simp [Datum.order] at h2
    | number t n j =>
      cases s <;> simp [Datum.order] at h1
      cases z with
      | nan => simp [Datum.order] at h2
      | infinity u => cases u <;> simp [Datum.order] at h2 ⊢; decide
      | number u l k => simp [Datum.order]
  | number s m i =>
    cases y with
    | nan => simp [Datum.order] at h1
    | infinity t =>
      cases t <;> simp [Datum.order] at h1
      cases z with
      | nan => simp [Datum.order] at h2
      | infinity u => cases u <;> simp [Datum.order, compare, compareOfLessAndEq] at h2
      | number u l k => simp [Datum.order] at h2
    | number t n j =>
      cases z with
      | nan => simp [Datum.order] at h2
      | infinity u => cases u <;> simp [Datum.order] at h2 ⊢
      | number u l k =>
        have hb1 : min i (min j k) ≤ i := by omega
        have hb2 : min i (min j k) ≤ j := by omega
        have hb3 : min i (min j k) ≤ k := by omega
        rw [order_num _ _ _ _ _ _ _ hb1 hb2] at h1
        rw [order_num _ _ _ _ _ _ _ hb2 hb3] at h2
        rw [order_num _ _ _ _ _ _ _ hb1 hb3]
        have a1 := Int.compare_eq_lt.1 (Option.some.inj h1)
        have a2 := Int.compare_eq_lt.1 (Option.some.inj h2)
        rw [Int.compare_eq_lt.2 (Int.lt_trans a1 a2)]
/-- A word that is written is no NaN, unless a NaN is written. -/
theorem nearest_not_nan (s : Bool) (m : Nat) (i : Int) : (double.read (double.nearest s m i)).isNaN = false := by
  have hr : ∀ r, r ≤ double.infRung → (double.read (double.word s r)).isNaN = false := by
    intro r hr
    have h1 : double.signWeight = 9223372036854775808 := by decide +kernel
    have h2 : double.infRung = 9218868437227405312 := by decide +kernel
    have e : (double.word s r) % double.signWeight = r := by
      unfold Format.word
      rw [h1]
      rw [h2] at hr
      split <;> omega
    unfold Format.read
    simp only [e]
    split
    · rfl
    · split
      · rfl
      · split
        · rfl
        · omega
  unfold Format.nearest
  split
  · exact hr 0 (Nat.zero_le _)
  · exact hr _ (Nat.min_le_right _ _)

open Go.Op in
theorem bytesLess_irrefl : ∀ l, bytesLess l l = false
  | [] => rfl
  | a :: r => by simp [bytesLess, bytesLess_irrefl r]
open Go.Op in
theorem bytesLess_trans : ∀ {x y z : List UInt8}, bytesLess x y = true → bytesLess y z = true → bytesLess x z = true
  | x, [], _, h, _ => by cases x <;> cases h
  | _, _ :: _, [], _, h => by cases h
  | [], _ :: _, _ :: _, _, _ => rfl
  | a :: x, b :: y, c :: z, h1, h2 => by
    simp only [bytesLess, Bool.or_eq_true, Bool.and_eq_true, decide_eq_true_eq, beq_iff_eq] at h1 h2 ⊢
    rcases h1 with h1 | ⟨rfl, h1⟩
    · rcases h2 with h2 | ⟨rfl, h2⟩
      · exact Or.inl (UInt8.lt_trans h1 h2)
      · exact Or.inl h1
    · rcases h2 with h2 | ⟨rfl, h2⟩
      · exact Or.inl h2
      · exact Or.inr ⟨rfl, bytesLess_trans h1 h2⟩
open Go.Op in
theorem bytesLess_total : ∀ (x y : List UInt8), bytesLess x y = true ∨ x = y ∨ bytesLess y x = true
  | [], [] => Or.inr (Or.inl rfl)
  | [], _ :: _ => Or.inl rfl
  | _ :: _, [] => Or.inr (Or.inr rfl)
  | a :: x, b :: y => by
    simp only [bytesLess, Bool.or_eq_true, Bool.and_eq_true, decide_eq_true_eq, beq_iff_eq]
    rcases Nat.lt_trichotomy a.toNat b.toNat with h | h | h
    · exact Or.inl (Or.inl h)
    · have hab : a = b := UInt8.toNat_inj.1 h
      subst hab
      rcases bytesLess_total x y with h | h | h
      · exact Or.inl (Or.inr ⟨rfl, h⟩)
      · exact Or.inr (Or.inl (by rw [h]))
      · exact Or.inr (Or.inr (Or.inr ⟨rfl, h⟩))
    · exact Or.inr (Or.inr (Or.inl h))
end Go.Proofs.YtdpnknlpkjablaaGreatDoor
