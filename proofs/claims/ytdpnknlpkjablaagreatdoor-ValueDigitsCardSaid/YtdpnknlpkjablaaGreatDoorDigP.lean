/- An int's digits are read as that int. -/
import Derived.Test.YtdpnknlpkjablaaGreatDoorIntP
import Derived.Lib.ItoaLen
import Derived.Lib.ItoaMem
import Derived.Lib.ParseIntB
namespace Go.Proofs.YtdpnknlpkjablaaGreatDoor
open Go.Lib

theorem dig_nat {d : Nat} (h : d < 10) : (UInt8.ofNat (48 + d)).toNat = 48 + d := by
  rw [UInt8.toNat_ofNat']
  omega
/-- Read on behind what was read: one digit more. -/
theorem uintM_snoc (M : Nat) (d : Nat) (hd : d < 10) : ∀ (l : List UInt8) (acc u : Nat), parseUintM M acc l = .ok u → u < 1844674407370955162 → u * 10 + d ≤ M → parseUintM M acc (l ++ [UInt8.ofNat (48 + d)]) = .ok (u * 10 + d)
  | [], acc, u, h, h1, h2 => by
    simp only [parseUintM] at h
    injection h with h
    subst h
    rw [List.nil_append, parseUintM, dig_nat hd, if_pos (by omega), if_neg (by omega), if_neg (by omega), parseUintM]
    congr 1
    omega
  | c :: r, acc, u, h, h1, h2 => by
    simp only [parseUintM] at h
    rw [List.cons_append, parseUintM]
    split at h
    · rename_i hc
      rw [if_pos hc]
      split at h
      · cases h
      · rename_i ha
        rw [if_neg ha]
        split at h
        · cases h
        · rename_i hb
          rw [if_neg hb]
          exact uintM_snoc M d hd r _ u h h1 h2
    · cases h
theorem uintM_dec (M : Nat) (hM : M ≤ 18446744073709551615) : ∀ (u : Nat), u ≤ M → parseUintM M 0 (decDigits u) = .ok u := by
  intro u
  induction u using Nat.strongRecOn with
  | ind u ih =>
    intro hu
    rw [decDigits]
    split
    · rename_i h
      rw [parseUintM, dig_nat h, if_pos (by omega), if_neg (by omega), if_neg (by omega), parseUintM]
      congr 1
      omega
    · rename_i h
      have h1 := uintM_snoc M (u % 10) (by omega) (decDigits (u / 10)) 0 (u / 10) (ih (u / 10) (by omega) (by omega)) (by omega) (by omega)
      rw [h1]
      congr 1
      omega
theorem dec_first (u : Nat) : ∃ c r, decDigits u = c :: r ∧ 48 ≤ c.toNat ∧ c.toNat ≤ 57 := by
  induction u using Nat.strongRecOn with
  | ind u ih =>
    rw [decDigits]
    split
    · rename_i h
      exact ⟨_, _, rfl, by rw [dig_nat h]; omega, by rw [dig_nat h]; omega⟩
    · obtain ⟨c, r, h1, h2⟩ := ih (u / 10) (by omega)
      exact ⟨c, _, by rw [h1]; rfl, h2⟩
theorem parse_itoa (n : Int) (hn : I64 n) : parseIntB 64 (itoa n) = .ok n := by
  unfold I64 at hn
  unfold itoa
  split
  · rename_i h
    obtain ⟨c, r, h1, _⟩ := dec_first n.natAbs
    have h2 := uintM_dec 18446744073709551615 (Nat.le_refl _) n.natAbs (by omega)
    simp only [parseIntB]
    rw [if_pos (Or.inr (by decide))]
    unfold parseUintB
    rw [if_neg (by rw [h1]; simp), show (2 ^ 64 - 1 : Nat) = 18446744073709551615 from rfl, h2]
    simp only
    rw [if_neg (fun hh => hh.1 rfl), if_neg (by intro hh; have := hh.2; have e : (2 ^ (64 - 1) : Nat) = 9223372036854775808 := rfl; omega), if_pos (by decide)]
    congr 1
    omega
  · rename_i h
    obtain ⟨c, r, h1, hc1, hc2⟩ := dec_first n.toNat
    have h2 := uintM_dec 18446744073709551615 (Nat.le_refl _) n.toNat (by omega)
    rw [h1] at h2 ⊢
    simp only [parseIntB]
    rw [if_neg (by omega)]
    unfold parseUintB
    rw [if_neg (by simp), show (2 ^ 64 - 1 : Nat) = 18446744073709551615 from rfl, h2]
    simp only
    rw [if_neg (by intro hh; have := hh.2; have e : (2 ^ (64 - 1) : Nat) = 9223372036854775808 := rfl; omega), if_neg (by omega), if_neg (by omega)]
    congr 1
    omega
theorem itoa_first (n : Int) : ∃ c r, itoa n = c :: r ∧ (decide (0 ≤ n) = ((c.toNat : Int) != 45)) := by
  unfold itoa
  split
  · rename_i h
    exact ⟨45, _, rfl, by simp; omega⟩
  · rename_i h
    obtain ⟨c, r, h1, h2, h3⟩ := dec_first n.toNat
    refine ⟨c, r, h1, ?_⟩
    have : ((c.toNat : Int) != 45) = true := by simp; omega
    rw [this]
    simp
    omega
end Go.Proofs.YtdpnknlpkjablaaGreatDoor
