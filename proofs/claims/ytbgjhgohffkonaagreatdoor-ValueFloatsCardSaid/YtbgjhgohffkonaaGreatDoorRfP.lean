/- What the library's reader of numbers makes of a text: as plain functions. -/
import Derived.Test.YtbgjhgohffkonaaGreatDoorM07
namespace Go.Proofs.YtbgjhgohffkonaaGreatDoor

/-- Digits ahead of p, a point at p, digits behind it up to q; then nothing, or an exponent to the text's end. -/
structure Shp (t : ByteArray) (p q : Nat) : Prop where
  pos : 0 < p
  lt : p + 1 < q
  le : q ≤ t.size
  small : t.size ≤ 800
  pre : ∀ i, i < p → ∃ c, bt t i = some c ∧ 48 ≤ c ∧ c ≤ 57
  dot : bt t p = some 46
  post : ∀ i, p < i → i < q → ∃ c, bt t i = some c ∧ 48 ≤ c ∧ c ≤ 57
/-- Digits from r to the end. -/
def DigE (t : ByteArray) (r : Nat) : Prop := r < t.size ∧ ∀ i, r ≤ i → i < t.size → ∃ c, bt t i = some c ∧ 48 ≤ c ∧ c ≤ 57
/-- The exponent: none; without a sign; with one. -/
def Tl (t : ByteArray) (q : Nat) (r : Nat) (s : Int) : Prop :=
  (q = t.size ∧ r = q ∧ s = 0) ∨ (q < t.size ∧ (bt t q = some 101 ∨ bt t q = some 69) ∧
    ((r = q + 1 ∧ s = 1 ∧ DigE t r) ∨ (r = q + 2 ∧ s = 1 ∧ bt t (q + 1) = some 43 ∧ DigE t r) ∨ (r = q + 2 ∧ s = -1 ∧ bt t (q + 1) = some 45 ∧ DigE t r)))
structure Rf where
  m : Nat
  nd : Nat
  ndM : Nat
  dp : Int
  dot : Bool
  digs : Bool
  tr : Bool
def rfStep (s : Rf) (c : UInt8) : Rf :=
  if c = 46 then { s with dot := true, dp := s.nd }
  else if c = 48 ∧ s.nd = 0 then { s with digs := true, dp := s.dp - 1 }
  else if s.ndM < 19 then { s with digs := true, nd := s.nd + 1, m := s.m * 10 + (c.toNat - 48), ndM := s.ndM + 1 }
  else { s with digs := true, nd := s.nd + 1, tr := s.tr || !(c == 48) }
def rfAt (t : ByteArray) : Nat → Rf
  | 0 => ⟨0, 0, 0, 0, false, false, false⟩
  | i + 1 => rfStep (rfAt t i) ((bt t i).getD 0)
def rfE (t : ByteArray) (r : Nat) : Nat → Nat
  | 0 => 0
  | k + 1 => if rfE t r k < 10000 then rfE t r k * 10 + (((bt t (r + k)).getD 48).toNat - 48) else rfE t r k
/-- The exponent of ten. -/
def rfX (t : ByteArray) (q r : Nat) (s : Int) : Int :=
  if (rfAt t q).m = 0 then 0 else (rfAt t q).dp + (rfE t r (t.size - r) : Nat) * s - (rfAt t q).ndM
theorem rfE_le (t : ByteArray) (r : Nat) : ∀ k, (∀ i, r ≤ i → i < r + k → ∃ c, bt t i = some c ∧ 48 ≤ c ∧ c ≤ 57) → rfE t r k ≤ 100000
  | 0, _ => by simp [rfE]
  | k + 1, h => by
    have ih := rfE_le t r k (fun i h1 h2 => h i h1 (by omega))
    obtain ⟨c, hc, h1, h2⟩ := h (r + k) (by omega) (by omega)
    unfold rfE
    rw [hc]
    have h3 : c.toNat ≤ 57 := UInt8.le_iff_toNat_le.1 h2
    show (if rfE t r k < 10000 then rfE t r k * 10 + (c.toNat - 48) else rfE t r k) ≤ 100000
    split <;> omega
/-- What holds of the state behind i bytes. -/
structure RfOk (t : ByteArray) (p i : Nat) (s : Rf) : Prop where
  nd_le : s.nd ≤ i
  m_le : s.ndM ≤ 19
  m_nd : s.ndM ≤ s.nd
  dp_lo : -(i : Int) ≤ s.dp
  dp_hi : s.dp ≤ (i : Int)
  m_lt : s.m < 10 ^ s.ndM
  dotted : s.dot = decide (p < i)
  some' : s.digs = decide (0 < i)
theorem rfAt_ok {t : ByteArray} {p q : Nat} (h : Shp t p q) : ∀ i, i ≤ q → RfOk t p i (rfAt t i) := by
  intro i
  induction i with
  | zero =>
    intro _
    exact ⟨by simp [rfAt], by simp [rfAt], by simp [rfAt], by simp [rfAt], by simp [rfAt], by simp [rfAt], by simp [rfAt], by simp [rfAt]⟩
  | succ i ih =>
    intro hi
    have s := ih (by omega)
    by_cases hp : i = p
    · have e : rfAt t (i + 1) = { rfAt t i with dot := true, dp := (rfAt t i).nd } := by
        rw [rfAt, hp, h.dot]
        show rfStep (rfAt t p) 46 = _
        unfold rfStep
        rw [if_pos rfl]
      rw [e]
      have hpos := h.pos
      exact ⟨by have := s.nd_le; show (rfAt t i).nd ≤ _; omega, s.m_le, s.m_nd, by show _ ≤ ((rfAt t i).nd : Int); omega, by have := s.nd_le; show ((rfAt t i).nd : Int) ≤ _; omega, s.m_lt, by simp; omega, by rw [s.some']; simp; omega⟩
    · obtain ⟨c, hc, h1, h2⟩ : ∃ c, bt t i = some c ∧ 48 ≤ c ∧ c ≤ 57 := by
        rcases Nat.lt_or_ge i p with hlt | hge
        · exact h.pre i hlt
        · exact h.post i (by omega) (by omega)
      have h3 : 48 ≤ c.toNat := UInt8.le_iff_toNat_le.1 h1
      have h4 : c.toNat ≤ 57 := UInt8.le_iff_toNat_le.1 h2
      have hne : c ≠ 46 := by intro e; subst e; exact absurd h1 (by decide)
      have hb := s.nd_le
      have h5 := s.dp_lo
      have h6 := s.dp_hi
      have h7 := s.m_lt
      have h8 := s.m_le
      have h9 := s.m_nd
      have hd : decide (p < i + 1) = decide (p < i) := by simp only [decide_eq_decide]; omega
      have e : rfAt t (i + 1) = rfStep (rfAt t i) c := by rw [rfAt, hc]; rfl
      rw [e]
      unfold rfStep
      rw [if_neg hne]
      split
      · exact ⟨by show (rfAt t i).nd ≤ _; omega, h8, h9, by show _ ≤ (rfAt t i).dp - 1; omega, by show (rfAt t i).dp - 1 ≤ _; omega, h7, by rw [hd]; exact s.dotted, by simp⟩
      · split
        · rename_i hm
          refine ⟨by show (rfAt t i).nd + 1 ≤ _; omega, by show (rfAt t i).ndM + 1 ≤ _; omega, by show (rfAt t i).ndM + 1 ≤ (rfAt t i).nd + 1; omega, by show _ ≤ (rfAt t i).dp; omega, by show (rfAt t i).dp ≤ _; omega, ?_, by rw [hd]; exact s.dotted, by simp⟩
          show (rfAt t i).m * 10 + (c.toNat - 48) < 10 ^ ((rfAt t i).ndM + 1)
          rw [Nat.pow_succ]
          omega
        · exact ⟨by show (rfAt t i).nd + 1 ≤ _; omega, h8, by show (rfAt t i).ndM ≤ (rfAt t i).nd + 1; omega, by show _ ≤ (rfAt t i).dp; omega, by show (rfAt t i).dp ≤ _; omega, h7, by rw [hd]; exact s.dotted, by simp⟩
theorem m_small {m k : Nat} (h : m < 10 ^ k) (hk : k ≤ 19) : m < 10000000000000000000 := by
  have := Nat.pow_le_pow_right (show 1 ≤ 10 by decide) hk
  omega
theorem m_small18 {m k : Nat} (h : m < 10 ^ k) (hk : k < 19) : m < 1000000000000000000 := by
  have := Nat.pow_le_pow_right (show 1 ≤ 10 by decide) (show k ≤ 18 by omega)
  omega
end Go.Proofs.YtbgjhgohffkonaaGreatDoor

