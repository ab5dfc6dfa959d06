/- A decimal of many digits out of a text, as a plain function. -/
import Derived.Test.YtnhdedoobagbbaaGreatDoorDecG
import Derived.Test.YtnhdedoobagbbaaGreatDoorRfP
namespace Go.Proofs.YtnhdedoobagbbaaGreatDoor

def D0 : Dc := ⟨fun _ => 0, 0, 0, false, false⟩
def dsStep (D : Dc) (c : UInt8) : Dc :=
  if c = 46 then { D with dp := D.nd }
  else if c = 48 ∧ D.nd = 0 then { D with dp := D.dp - 1 }
  else { D with d := upd D.d D.nd c.toNat, nd := D.nd + 1 }
def dsAt (t : ByteArray) : Nat → Dc
  | 0 => D0
  | i + 1 => dsStep (dsAt t i) ((bt t i).getD 0)
def dsP (t : ByteArray) (q r : Nat) (s : Int) : Dc := { dsAt t q with dp := (dsAt t q).dp + (rfE t r (t.size - r) : Nat) * s }
structure DsOk (i : Nat) (D : Dc) : Prop where
  nd_le : D.nd ≤ i
  dp_lo : -(i : Int) ≤ D.dp
  dp_hi : D.dp ≤ (i : Int)
  dig : Dig D.d D.nd
  lead : 0 < D.nd → 49 ≤ D.d 0
  neg : D.neg = false
  tr : D.tr = false
theorem dsAt_ok {t : ByteArray} {p q : Nat} (h : Shp t p q) : ∀ i, i ≤ q → DsOk i (dsAt t i) := by
  intro i
  induction i with
  | zero => exact fun _ => ⟨Nat.le_refl _, by simp [dsAt, D0], by simp [dsAt, D0], fun i hi => absurd hi (Nat.not_lt_zero i), fun hi => absurd hi (Nat.lt_irrefl _), rfl, rfl⟩
  | succ i ih =>
    intro hi
    have s := ih (by omega)
    have h5 := s.dp_lo
    have h6 := s.dp_hi
    have h7 := s.nd_le
    by_cases hp : i = p
    · have e : dsAt t (i + 1) = { dsAt t i with dp := (dsAt t i).nd } := by
        rw [dsAt, hp, h.dot]
        show dsStep (dsAt t p) 46 = _
        unfold dsStep
        rw [if_pos rfl]
      rw [e]
      exact ⟨by show (dsAt t i).nd ≤ _; omega, by show _ ≤ ((dsAt t i).nd : Int); omega, by show ((dsAt t i).nd : Int) ≤ _; omega, s.dig, s.lead, s.neg, s.tr⟩
    · obtain ⟨c, hc, h1, h2⟩ : ∃ c, bt t i = some c ∧ 48 ≤ c ∧ c ≤ 57 := by
        rcases Nat.lt_or_ge i p with hlt | hge
        · exact h.pre i hlt
        · exact h.post i (by omega) (by omega)
      have h3 : 48 ≤ c.toNat := UInt8.le_iff_toNat_le.1 h1
      have h4 : c.toNat ≤ 57 := UInt8.le_iff_toNat_le.1 h2
      have hne : c ≠ 46 := by intro e; subst e; exact absurd h1 (by decide)
      have e : dsAt t (i + 1) = dsStep (dsAt t i) c := by rw [dsAt, hc]; rfl
      rw [e]
      unfold dsStep
      rw [if_neg hne]
      split
      · exact ⟨by show (dsAt t i).nd ≤ _; omega, by show _ ≤ (dsAt t i).dp - 1; omega, by show (dsAt t i).dp - 1 ≤ _; omega, s.dig, s.lead, s.neg, s.tr⟩
      · rename_i hz
        refine ⟨by show (dsAt t i).nd + 1 ≤ _; omega, by show _ ≤ (dsAt t i).dp; omega, by show (dsAt t i).dp ≤ _; omega, ?_, ?_, s.neg, s.tr⟩
        · intro j hj
          have hj' : j < (dsAt t i).nd + 1 := hj
          show 48 ≤ upd (dsAt t i).d (dsAt t i).nd c.toNat j ∧ upd (dsAt t i).d (dsAt t i).nd c.toNat j ≤ 57
          by_cases ej : j = (dsAt t i).nd
          · subst ej; rw [upd_same]; omega
          · rw [upd_ne ej]; exact s.dig j (by omega)
        · intro _
          show 49 ≤ upd (dsAt t i).d (dsAt t i).nd c.toNat 0
          by_cases e0 : (dsAt t i).nd = 0
          · rw [e0, upd_same]
            have : c ≠ 48 := fun ec => hz ⟨ec, e0⟩
            have : c.toNat ≠ 48 := fun e => this (UInt8.toNat_inj.1 e)
            omega
          · rw [upd_ne (by omega)]; exact s.lead (by omega)
theorem dsP_ok {t : ByteArray} {p q r : Nat} {s : Int} (h : Shp t p q) (hr : Tl t q r s) : OkD (dsP t q r s) ∧ (dsP t q r s).neg = false ∧ -200000 ≤ (dsP t q r s).dp ∧ (dsP t q r s).dp ≤ 200000 := by
  have o := dsAt_ok h q (Nat.le_refl _)
  have hq := h.le
  have hs := h.small
  have h1 := o.nd_le
  have h2 := o.dp_lo
  have h3 := o.dp_hi
  have hE : ∀ r', (r' = t.size ∨ DigE t r') → rfE t r' (t.size - r') ≤ 100000 := by
    intro r' hr'
    refine rfE_le t r' _ fun i hi1 hi2 => ?_
    rcases hr' with e | e
    · omega
    · exact e.2 i hi1 (by have := e.1; omega)
  refine ⟨⟨by show (dsAt t q).nd ≤ 800; omega, o.dig, o.lead⟩, o.neg, ?_⟩
  show -200000 ≤ (dsAt t q).dp + (rfE t r (t.size - r) : Nat) * s ∧ (dsAt t q).dp + (rfE t r (t.size - r) : Nat) * s ≤ 200000
  rcases hr with ⟨e1, e2, e3⟩ | ⟨_, _, ⟨_, e2, e3⟩ | ⟨_, e2, _, e3⟩ | ⟨_, e2, _, e3⟩⟩
  · subst e3; omega
  · subst e2; have := hE r (Or.inr e3); omega
  · subst e2; have := hE r (Or.inr e3); omega
  · subst e2; have := hE r (Or.inr e3); omega
end Go.Proofs.YtnhdedoobagbbaaGreatDoor
