/- Numbers' order, whatever their kinds. -/
import Derived.Test.YtdpnknlpkjablaaGreatDoorEqual
import Derived.Test.YtdpnknlpkjablaaGreatDoorValP
import Derived.Laws.BitsLemmas
namespace Go.Proofs.YtdpnknlpkjablaaGreatDoor
open Go.RowKit Ieee

theorem i64_and1 (n : Int) : bits .and .i64 n 1 = n % 2 := by
  have h1 : (BitVec.ofInt 64 1).toNat = 2 ^ 1 - 1 := by decide
  have key : (BitVec.ofInt 64 n &&& BitVec.ofInt 64 1).toNat = (n % ((2 ^ 64 : Nat) : Int)).toNat % 2 ^ 1 := by
    rw [BitVec.toNat_and, BitVec.toNat_ofInt, h1, Nat.and_two_pow_sub_one_eq_mod]
  show IntKind.i64.wrap ((BitVec.ofInt 64 n &&& BitVec.ofInt 64 1).toNat : Nat) = n % 2
  rw [key, IntKind.wrap_i64]
  omega
theorem i64_and7 (n : Int) : bits .and .i64 n 7 = n % 8 := by
  have h1 : (BitVec.ofInt 64 7).toNat = 2 ^ 3 - 1 := by decide
  have key : (BitVec.ofInt 64 n &&& BitVec.ofInt 64 7).toNat = (n % ((2 ^ 64 : Nat) : Int)).toNat % 2 ^ 3 := by
    rw [BitVec.toNat_and, BitVec.toNat_ofInt, h1, Nat.and_two_pow_sub_one_eq_mod]
  show IntKind.i64.wrap ((BitVec.ofInt 64 n &&& BitVec.ofInt 64 7).toNat : Nat) = n % 8
  rw [key, IntKind.wrap_i64]
  omega
/-- A number: its kind, its int, its float. -/
def Num (k n : Int) (b : Nat) : Prop := (k = 2 ∧ b = 0) ∨ (k = 3 ∧ n = 0)
def flN (k n : Int) (b : Nat) : Nat := if k = 2 then floatOfInt .f64 n else b
def lessN (k n : Int) (b : Nat) (k' n' : Int) (b' : Nat) : Bool := if k = 2 ∧ k' = 2 then decide (n < n') else double.order (flN k n b) (flN k' n' b') == some .lt
def eqN (k n : Int) (b : Nat) (k' n' : Int) (b' : Nat) : Bool := if k = 2 ∧ k' = 2 then n == n' else double.order (flN k n b) (flN k' n' b') == some .eq
theorem less_num {k n : Int} {b : Nat} {k' n' : Int} {b' : Nat} (h : Num k n b) (h' : Num k' n' b') (w : World) :
    Calls Tryz.prog 20 #[.agg #[.int .i64 k, .int .i64 n, .float .f64 b, .string ⟨#[]⟩, .slice none 0 0, .slice none 0 0], .agg #[.int .i64 k', .int .i64 n', .float .f64 b', .string ⟨#[]⟩, .slice none 0 0, .slice none 0 0]] w fun e w' =>
      e = .returned (.tuple #[.bool (lessN k n b k' n' b'), .int .i64 0]) ∧ Below w.heap.size w w' := by
  rcases h with ⟨rfl, rfl⟩ | ⟨rfl, rfl⟩ <;> rcases h' with ⟨rfl, rfl⟩ | ⟨rfl, rfl⟩
  · exact less_int_int n n' w
  · exact less_int_flt n b' w
  · exact less_flt_int b n' w
  · exact less_flt_flt b b' w
theorem equal_num {k n : Int} {b : Nat} {k' n' : Int} {b' : Nat} (h : Num k n b) (h' : Num k' n' b') (w : World) :
    Calls Tryz.prog 16 #[.agg #[.int .i64 k, .int .i64 n, .float .f64 b, .string ⟨#[]⟩, .slice none 0 0, .slice none 0 0], .agg #[.int .i64 k', .int .i64 n', .float .f64 b', .string ⟨#[]⟩, .slice none 0 0, .slice none 0 0]] w fun e w' =>
      e = .returned (.tuple #[.bool (eqN k n b k' n' b'), .int .i64 0]) ∧ Below w.heap.size w w' := by
  rcases h with ⟨rfl, rfl⟩ | ⟨rfl, rfl⟩ <;> rcases h' with ⟨rfl, rfl⟩ | ⟨rfl, rfl⟩
  · exact equal_int_int n n' w
  · exact equal_int_flt n b' w
  · exact equal_flt_int b n' w
  · exact equal_flt_flt b b' w
theorem swap_eq (x y : Nat) : (double.order y x == some .eq) = (double.order x y == some .eq) := by
  show ((double.read y).order (double.read x) == some .eq) = ((double.read x).order (double.read y) == some .eq)
  rw [order_swap (double.read x) (double.read y)]
  cases (double.read x).order (double.read y) with
  | none => rfl
  | some o => cases o <;> rfl
theorem swap_lt (x y : Nat) : (double.order y x == some .lt) = (double.order x y == some .gt) := by
  show ((double.read y).order (double.read x) == some .lt) = ((double.read x).order (double.read y) == some .gt)
  rw [order_swap (double.read x) (double.read y)]
  cases (double.read x).order (double.read y) with
  | none => rfl
  | some o => cases o <;> rfl
theorem eqN_swap (k n : Int) (b : Nat) (k' n' : Int) (b' : Nat) : eqN k' n' b' k n b = eqN k n b k' n' b' := by
  unfold eqN
  by_cases h : k = 2 ∧ k' = 2
  · rw [if_pos h, if_pos ⟨h.2, h.1⟩]
    rw [Bool.eq_iff_iff]
    simp only [beq_iff_eq]
    exact eq_comm
  · rw [if_neg h, if_neg (fun hh => h ⟨hh.2, hh.1⟩)]
    exact swap_eq _ _
/-- No NaN. -/
def okB (b : Nat) : Prop := double.order b b = some .eq
theorem nan_or (b : Nat) : okB b ∨ double.order b b = none := by
  unfold okB
  show (double.read b).order (double.read b) = _ ∨ _
  cases h : double.read b with
  | nan => right; show (double.read b).order (double.read b) = none; rw [h]; rfl
  | infinity s => left; cases s <;> rfl
  | number s m i =>
    left
    rw [order_num s s m m i i i (Int.le_refl _) (Int.le_refl _)]
    simp
theorem isNaN_iff (b : Nat) : double.order b b = none ↔ (double.read b).isNaN = true := by
  show (double.read b).order (double.read b) = none ↔ _
  rw [order_nan]
  simp
theorem flN_nan {k n : Int} {b : Nat} (h : Num k n b) (hb : okB b) : (double.read (flN k n b)).isNaN = false := by
  unfold flN
  rcases h with ⟨rfl, rfl⟩ | ⟨rfl, rfl⟩
  · rw [if_pos rfl]
    exact nearest_not_nan _ _ _
  · rw [if_neg (by decide)]
    cases hn : (double.read b).isNaN with
    | false => rfl
    | true =>
      have := (isNaN_iff b).2 hn
      unfold okB at hb
      rw [hb] at this
      cases this
/-- One that is NaN is neither below, nor above, nor equal. -/
theorem nan_all {k n : Int} {b : Nat} {k' n' : Int} {b' : Nat} (h : Num k n b) (h' : Num k' n' b') (hn : double.order b b = none ∨ double.order b' b' = none) :
    lessN k n b k' n' b' = false ∧ lessN k' n' b' k n b = false ∧ eqN k n b k' n' b' = false := by
  have hz : double.order 0 0 = some .eq := by decide +kernel
  have key : ¬ (k = 2 ∧ k' = 2) ∧ double.order (flN k n b) (flN k' n' b') = none ∧ double.order (flN k' n' b') (flN k n b) = none := by
    have hx : ((double.read (flN k n b)).isNaN = true ∨ (double.read (flN k' n' b')).isNaN = true) ∧ ¬ (k = 2 ∧ k' = 2) := by
      rcases hn with hn | hn
      · rcases h with ⟨rfl, rfl⟩ | ⟨rfl, rfl⟩
        · rw [hz] at hn; cases hn
        · exact ⟨Or.inl (by unfold flN; rw [if_neg (by decide)]; exact (isNaN_iff b).1 hn), by omega⟩
      · rcases h' with ⟨rfl, rfl⟩ | ⟨rfl, rfl⟩
        · rw [hz] at hn; cases hn
        · exact ⟨Or.inr (by unfold flN; rw [if_neg (by decide)]; exact (isNaN_iff b').1 hn), by omega⟩
    exact ⟨hx.2, (order_nan _ _).2 hx.1, (order_nan _ _).2 hx.1.symm⟩
  unfold lessN eqN
  rw [if_neg key.1, if_neg (fun hh => key.1 ⟨hh.2, hh.1⟩), if_neg key.1, key.2.1, key.2.2]
  exact ⟨rfl, rfl, rfl⟩
/-- Just one of three. -/
theorem one_of {k n : Int} {b : Nat} {k' n' : Int} {b' : Nat} (h : Num k n b) (h' : Num k' n' b') (hb : okB b) (hb' : okB b') :
    (lessN k n b k' n' b' = true ∧ lessN k' n' b' k n b = false ∧ eqN k n b k' n' b' = false) ∨ (lessN k n b k' n' b' = false ∧ lessN k' n' b' k n b = true ∧ eqN k n b k' n' b' = false) ∨
    (lessN k n b k' n' b' = false ∧ lessN k' n' b' k n b = false ∧ eqN k n b k' n' b' = true) := by
  unfold lessN eqN
  by_cases hk : k = 2 ∧ k' = 2
  · rw [if_pos hk, if_pos ⟨hk.2, hk.1⟩, if_pos hk]
    rcases Int.lt_trichotomy n n' with h1 | h1 | h1
    · left; exact ⟨by simp [h1], by simp; omega, by simp; omega⟩
    · right; right; exact ⟨by simp; omega, by simp; omega, by simp [h1]⟩
    · right; left; exact ⟨by simp; omega, by simp [h1], by simp; omega⟩
  · rw [if_neg hk, if_neg (fun hh => hk ⟨hh.2, hh.1⟩), if_neg hk, swap_lt (flN k n b)]
    cases ho : double.order (flN k n b) (flN k' n' b') with
    | none =>
      have := (order_nan _ _).1 ho
      rw [flN_nan h hb, flN_nan h' hb'] at this
      rcases this with h | h <;> cases h
    | some o =>
      cases o
      · left; exact ⟨rfl, rfl, rfl⟩
      · right; right; exact ⟨rfl, rfl, rfl⟩
      · right; left; exact ⟨rfl, rfl, rfl⟩
/-- Of three of one kind it goes on. -/
theorem goes_on {k n : Int} {b : Nat} {k' n' : Int} {b' : Nat} {k'' n'' : Int} {b'' : Nat} (hk : (k = 2 ∧ k' = 2 ∧ k'' = 2) ∨ (k = 3 ∧ k' = 3 ∧ k'' = 3)) (h1 : lessN k n b k' n' b' = true) (h2 : lessN k' n' b' k'' n'' b'' = true) : lessN k n b k'' n'' b'' = true := by
  unfold lessN at *
  rcases hk with ⟨rfl, rfl, rfl⟩ | ⟨rfl, rfl, rfl⟩
  · simp at h1 h2 ⊢
    omega
  · rw [if_neg (by decide)] at h1 h2 ⊢
    rw [beq_iff_eq] at h1 h2 ⊢
    exact order_trans h1 h2
end Go.Proofs.YtdpnknlpkjablaaGreatDoor
