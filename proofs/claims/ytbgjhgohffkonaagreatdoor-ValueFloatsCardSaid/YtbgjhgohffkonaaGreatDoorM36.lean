/- How far a shift moves a decimal's point. -/
import Derived.Test.YtbgjhgohffkonaaGreatDoorM02
import Derived.Test.YtbgjhgohffkonaaGreatDoorRfP
import Derived.Test.YtbgjhgohffkonaaGreatDoorM03
import Derived.StillTailTactics
namespace Go.Proofs.YtbgjhgohffkonaaGreatDoor

theorem rsP_dp {D : Dc} (h : OkD D) (hp : 0 < D.nd) {k : Nat} (hk : 1 ≤ k) :
    (rsP k D).dp = D.dp - (((rsA D.d k D.nd 0 0).2 : Int) - 1) := by
  obtain ⟨_, h2, _⟩ := rsP_spec h hp hk
  have e : ∀ D' : Dc, 0 < (trimD D').nd → (trimD D').dp = D'.dp := by
    intro D' h'
    have h'' : 0 < trimN D'.d D'.nd := h'
    show (if trimN D'.d D'.nd = 0 then 0 else D'.dp) = D'.dp
    rw [if_neg (by omega)]
  unfold rsP at h2 ⊢
  rw [e _ h2]
theorem rsP_dp_lo {D : Dc} (h : OkD D) (hp : 0 < D.nd) {k : Nat} (hk : 1 ≤ k) : D.dp - (800 + k) ≤ (rsP k D).dp ∧ (rsP k D).dp ≤ D.dp := by
  have hA := rsA_spec h.dig (k := k) D.nd 0 0 (by omega) (Or.inr ⟨rfl, hp, h.lead hp⟩) (by have := two_pow_pos k; omega)
  have hF := rsA_first h hp hk
  have hle := h.le
  rw [rsP_dp h hp hk]
  omega
/-- By four places or more: the point comes down. -/
theorem rsP_dp_hi {D : Dc} (h : OkD D) (hp : 0 < D.nd) {k : Nat} (hk : 4 ≤ k) : (rsP k D).dp < D.dp := by
  have hF := rsA_first h hp (k := k) (by omega)
  rw [rsP_dp h hp (by omega)]
  rcases hF with ⟨h1, h2⟩ | h2
  · exfalso
    have hA := rsA_spec h.dig (k := k) D.nd 0 0 (by omega) (Or.inr ⟨rfl, hp, h.lead hp⟩) (by have := two_pow_pos k; omega)
    have hd := (h.dig.dg (i := 0) hp).1
    have : 2 ^ 4 ≤ 2 ^ k := Nat.pow_le_pow_right (by decide) hk
    omega
  · omega
theorem lsP_dp {D : Dc} (h : OkD D) (hp : 0 < D.nd) {k : Nat} (h1 : 1 ≤ k) (h2 : k ≤ 60) : (lsP k D).dp = D.dp + (dlt k D : Nat) := by
  obtain ⟨_, h3, _⟩ := lsP_spec h hp h1 h2
  have e : ∀ D' : Dc, 0 < (trimD D').nd → (trimD D').dp = D'.dp := by
    intro D' h'
    have h'' : 0 < trimN D'.d D'.nd := h'
    show (if trimN D'.d D'.nd = 0 then 0 else D'.dp) = D'.dp
    rw [if_neg (by omega)]
  unfold lsP at h3 ⊢
  rw [e _ h3]
theorem lsP_dp_hi {D : Dc} (h : OkD D) (hp : 0 < D.nd) {k : Nat} (h1 : 1 ≤ k) (h2 : k ≤ 60) : D.dp ≤ (lsP k D).dp ∧ (lsP k D).dp ≤ D.dp + 60 := by
  rw [lsP_dp h hp h1 h2]
  have := dlt_le h1 h2 D
  omega
theorem rsP_neg (k : Nat) (D : Dc) : (rsP k D).neg = D.neg := rfl
theorem lsP_neg (k : Nat) (D : Dc) : (lsP k D).neg = D.neg := rfl
theorem shR_neg : ∀ (m : Nat) (D : Dc), (shR m D).neg = D.neg := by
  intro m
  induction m using Nat.strongRecOn with
  | ind m ih =>
    intro D
    rw [shR]
    split
    · rw [ih (m - 60) (by omega), rsP_neg]
    · exact rsP_neg _ _
theorem shL_neg : ∀ (m : Nat) (D : Dc), (shL m D).neg = D.neg := by
  intro m
  induction m using Nat.strongRecOn with
  | ind m ih =>
    intro D
    rw [shL]
    split
    · rw [ih (m - 60) (by omega), lsP_neg]
    · exact lsP_neg _ _
theorem shP_neg (k : Int) (D : Dc) : (shP k D).neg = D.neg := by
  unfold shP
  split
  · rfl
  · split
    · exact shL_neg _ _
    · split
      · exact shR_neg _ _
      · rfl
theorem shR_dp : ∀ (m : Nat) {D : Dc}, 1 ≤ m → OkD D → 0 < D.nd → D.dp - 860 * ((m : Int) + 1) ≤ (shR m D).dp ∧ (shR m D).dp ≤ D.dp := by
  intro m
  induction m using Nat.strongRecOn with
  | ind m ih =>
    intro D hm h hp
    rw [shR]
    split
    · obtain ⟨h1, h2, _⟩ := rsP_spec h hp (k := 60) (by decide)
      have h3 := rsP_dp_lo h hp (k := 60) (by decide)
      have := ih (m - 60) (by omega) (by omega) h1 h2
      omega
    · have := rsP_dp_lo h hp hm
      omega
theorem shL_dp : ∀ (m : Nat) {D : Dc}, 1 ≤ m → OkD D → 0 < D.nd → D.dp ≤ (shL m D).dp ∧ (shL m D).dp ≤ D.dp + 60 * ((m : Int) + 1) := by
  intro m
  induction m using Nat.strongRecOn with
  | ind m ih =>
    intro D hm h hp
    rw [shL]
    split
    · obtain ⟨h1, h2, _⟩ := lsP_spec h hp (k := 60) (by decide) (by decide)
      have h3 := lsP_dp_hi h hp (k := 60) (by decide) (by decide)
      have := ih (m - 60) (by omega) (by omega) h1 h2
      omega
    · have := lsP_dp_hi h hp hm (by omega)
      omega
theorem shP_dp (k : Int) {D : Dc} (h : OkD D) (hp : 0 < D.nd) : D.dp - 860 * (k.natAbs + 1) ≤ (shP k D).dp ∧ (shP k D).dp ≤ D.dp + 60 * (k.natAbs + 1) := by
  unfold shP
  rw [if_neg (by omega)]
  split
  · have := shL_dp k.toNat (by omega) h hp
    omega
  · split
    · have := shR_dp (-k).toNat (by omega) h hp
      omega
    · omega
/-- What the shifts to the right may still add to the exponent. -/
def phi (D : Dc) : Nat := if D.dp ≤ 0 then 0 else if D.dp = 1 then 3 * (D.d 0 - 48) else 27 * D.dp.toNat
theorem pwt_one : pwt 1 = 3 := rfl
theorem pwt_more {i : Nat} (h : 2 ≤ i) : 4 ≤ pwt i := by
  rcases Nat.lt_or_ge i 9 with h' | h'
  · have : ∀ i : Fin 9, 2 ≤ i.val → 4 ≤ pwt i.val := by decide
    exact this ⟨i, h'⟩ h
  · unfold pwt
    rw [List.getElem?_eq_none (by simpa using h')]
    decide
theorem phi_step {D : Dc} (h : OkD D) (hp : 0 < D.nd) (hd : 0 < D.dp) : phi (rsP (pwt D.dp.toNat) D) + pwt D.dp.toNat ≤ phi D := by
  obtain ⟨h1, h2, h3⟩ := rsP_spec h hp (pwt_le D.dp.toNat).1
  have h4 := (h1.dig 0 h2).2
  have h5 := (h1.dig 0 h2).1
  have h6 := (pwt_le D.dp.toNat).2
  have h9 := (h.dig 0 hp).1
  have h10 := h.lead hp
  by_cases e : D.dp = 1
  · have e1 : D.dp.toNat = 1 := by omega
    have e2 : phi D = 3 * (D.d 0 - 48) := by
      simp [phi, e]
    rw [e2]
    rw [e1, pwt_one] at h1 h2 h3 h4 h5 ⊢
    generalize rsP 3 D = R at *
    unfold phi
    split
    · omega
    · split <;> omega
  · have h7 := rsP_dp_hi h hp (pwt_more (i := D.dp.toNat) (by omega))
    generalize rsP (pwt D.dp.toNat) D = R at *
    generalize pwt D.dp.toNat = q at *
    have e2 : phi D = 27 * D.dp.toNat := by
      simp [phi, e]
      omega
    rw [e2]
    unfold phi
    split
    · omega
    · split <;> omega
end Go.Proofs.YtbgjhgohffkonaaGreatDoor

/- A decimal of many digits out of a text, as a plain function. -/
namespace Go.Proofs.YtbgjhgohffkonaaGreatDoor

def D0 : Dc := ⟨fun _ => 0, 0, 0, false, false⟩
def dsStep (D : Dc) (c : UInt8) : Dc :=
  if c = 46 then { D with dp := D.nd }
  else if c = 48 ∧ D.nd = 0 then { D with dp := D.dp - 1 }
  else { D with d := upd D.d D.nd c.toNat, nd := D.nd + 1 }
def dsAt (t : ByteArray) : Nat → Dc
  | 0 => D0
  | i + 1 => dsStep (dsAt t i) ((bt t i).getD 0)
def dsP (t : ByteArray) (q r : Nat) (s : Int) : Dc := { dsAt t q with dp := (dsAt t q).dp + (rfE t r (t.size - r) : Nat) * s }
structure DsOk (i : Nat) (D : Dc) : Prop where
  nd_le : D.nd ≤ i
  dp_lo : -(i : Int) ≤ D.dp
  dp_hi : D.dp ≤ (i : Int)
  dig : Dig D.d D.nd
  lead : 0 < D.nd → 49 ≤ D.d 0
  neg : D.neg = false
  tr : D.tr = false
theorem dsAt_ok {t : ByteArray} {p q : Nat} (h : Shp t p q) : ∀ i, i ≤ q → DsOk i (dsAt t i) := by
  intro i
  induction i with
  | zero => exact fun _ => ⟨Nat.le_refl _, by simp [dsAt, D0], by simp [dsAt, D0], fun i hi => absurd hi (Nat.not_lt_zero i), fun hi => absurd hi (Nat.lt_irrefl _), rfl, rfl⟩
  | succ i ih =>
    intro hi
    have s := ih (by omega)
    have h5 := s.dp_lo
    have h6 := s.dp_hi
    have h7 := s.nd_le
    by_cases hp : i = p
    · have e : dsAt t (i + 1) = { dsAt t i with dp := (dsAt t i).nd } := by
        rw [dsAt, hp, h.dot]
        show dsStep (dsAt t p) 46 = _
        unfold dsStep
        rw [if_pos rfl]
      rw [e]
      exact ⟨by show (dsAt t i).nd ≤ _; omega, by show _ ≤ ((dsAt t i).nd : Int); omega, by show ((dsAt t i).nd : Int) ≤ _; omega, s.dig, s.lead, s.neg, s.tr⟩
    · obtain ⟨c, hc, h1, h2⟩ : ∃ c, bt t i = some c ∧ 48 ≤ c ∧ c ≤ 57 := by
        rcases Nat.lt_or_ge i p with hlt | hge
        · exact h.pre i hlt
        · exact h.post i (by omega) (by omega)
      have h3 : 48 ≤ c.toNat := UInt8.le_iff_toNat_le.1 h1
      have h4 : c.toNat ≤ 57 := UInt8.le_iff_toNat_le.1 h2
      have hne : c ≠ 46 := by intro e; subst e; exact absurd h1 (by decide)
      have e : dsAt t (i + 1) = dsStep (dsAt t i) c := by rw [dsAt, hc]; rfl
      rw [e]
      unfold dsStep
      rw [if_neg hne]
      split
      · exact ⟨by show (dsAt t i).nd ≤ _; omega, by show _ ≤ (dsAt t i).dp - 1; omega, by show (dsAt t i).dp - 1 ≤ _; omega, s.dig, s.lead, s.neg, s.tr⟩
      · rename_i hz
        refine ⟨by show (dsAt t i).nd + 1 ≤ _; omega, by show _ ≤ (dsAt t i).dp; omega, by show (dsAt t i).dp ≤ _; omega, ?_, ?_, s.neg, s.tr⟩
        · intro j hj
          have hj' : j < (dsAt t i).nd + 1 := hj
          show 48 ≤ upd (dsAt t i).d (dsAt t i).nd c.toNat j ∧ upd (dsAt t i).d (dsAt t i).nd c.toNat j ≤ 57
          by_cases ej : j = (dsAt t i).nd
          · subst ej; rw [upd_same]; omega
          · rw [upd_ne ej]; exact s.dig j (by omega)
        · intro _
          show 49 ≤ upd (dsAt t i).d (dsAt t i).nd c.toNat 0
          by_cases e0 : (dsAt t i).nd = 0
          · rw [e0, upd_same]
            have : c ≠ 48 := fun ec => hz ⟨ec, e0⟩
            have : c.toNat ≠ 48 := fun e => this (UInt8.toNat_inj.1 e)
            omega
          · rw [upd_ne (by omega)]; exact s.lead (by omega)
theorem dsP_ok {t : ByteArray} {p q r : Nat} {s : Int} (h : Shp t p q) (hr : Tl t q r s) : OkD (dsP t q r s) ∧ (dsP t q r s).neg = false ∧ -200000 ≤ (dsP t q r s).dp ∧ (dsP t q r s).dp ≤ 200000 := by
  have o := dsAt_ok h q (Nat.le_refl _)
  have hq := h.le
  have hs := h.small
  have h1 := o.nd_le
  have h2 := o.dp_lo
  have h3 := o.dp_hi
  have hE : ∀ r', (r' = t.size ∨ DigE t r') → rfE t r' (t.size - r') ≤ 100000 := by
    intro r' hr'
    refine rfE_le t r' _ fun i hi1 hi2 => ?_
    rcases hr' with e | e
    · omega
    · exact e.2 i hi1 (by have := e.1; omega)
  refine ⟨⟨by show (dsAt t q).nd ≤ 800; omega, o.dig, o.lead⟩, o.neg, ?_⟩
  show -200000 ≤ (dsAt t q).dp + (rfE t r (t.size - r) : Nat) * s ∧ (dsAt t q).dp + (rfE t r (t.size - r) : Nat) * s ≤ 200000
  rcases hr with ⟨e1, e2, e3⟩ | ⟨_, _, ⟨_, e2, e3⟩ | ⟨_, e2, _, e3⟩ | ⟨_, e2, _, e3⟩⟩
  · subst e3; omega
  · subst e2; have := hE r (Or.inr e3); omega
  · subst e2; have := hE r (Or.inr e3); omega
  · subst e2; have := hE r (Or.inr e3); omega
end Go.Proofs.YtbgjhgohffkonaaGreatDoor

/- Bytes of a text of the shape of a number, as numbers. -/
namespace Go.Proofs.YtbgjhgohffkonaaGreatDoor
open Go.RowKit

theorem bt_nat {t : ByteArray} {i : Nat} {c : UInt8} (h : bt t i = some c) : ∃ hi : i < t.size, t[i] = c := by
  rcases Nat.lt_or_ge i t.size with h' | h'
  · refine ⟨h', ?_⟩
    rw [bt_some h'] at h
    exact Option.some.inj h
  · rw [bt_none h'] at h; cases h
theorem Shp.digit {t : ByteArray} {p q i : Nat} (h : Shp t p q) (hi : i < q) (hp : i ≠ p) : ∃ hi : i < t.size, 48 ≤ t[i].toNat ∧ t[i].toNat ≤ 57 := by
  obtain ⟨c, hc, h1, h2⟩ : ∃ c, bt t i = some c ∧ 48 ≤ c ∧ c ≤ 57 := by
    rcases Nat.lt_or_ge i p with hlt | hge
    · exact h.pre i hlt
    · exact h.post i (by omega) hi
  obtain ⟨hs, rfl⟩ := bt_nat hc
  exact ⟨hs, UInt8.le_iff_toNat_le.1 h1, UInt8.le_iff_toNat_le.1 h2⟩
theorem Shp.point {t : ByteArray} {p q : Nat} (h : Shp t p q) : ∃ hi : p < t.size, t[p] = 46 := bt_nat h.dot
theorem DigE.digit {t : ByteArray} {r i : Nat} (h : DigE t r) (h1 : r ≤ i) (h2 : i < t.size) : 48 ≤ t[i].toNat ∧ t[i].toNat ≤ 57 := by
  obtain ⟨c, hc, g1, g2⟩ := h.2 i h1 h2
  obtain ⟨hs, rfl⟩ := bt_nat hc
  exact ⟨UInt8.le_iff_toNat_le.1 g1, UInt8.le_iff_toNat_le.1 g2⟩
theorem dsAt_succ {t : ByteArray} {i : Nat} (h : i < t.size) : dsAt t (i + 1) = dsStep (dsAt t i) t[i] := by
  rw [dsAt, bt_some h]
  rfl
theorem rfAt_succ {t : ByteArray} {i : Nat} (h : i < t.size) : rfAt t (i + 1) = rfStep (rfAt t i) t[i] := by
  rw [rfAt, bt_some h]
  rfl
theorem dsStep_zero {D : Dc} {c : UInt8} (h : c.toNat = 48) (hn : D.nd = 0) : dsStep D c = { D with dp := D.dp - 1 } := by
  have : c = 48 := UInt8.toNat_inj.1 h
  subst this
  unfold dsStep
  rw [if_neg (by decide), if_pos ⟨rfl, hn⟩]
theorem dsStep_dig {D : Dc} {c : UInt8} (h1 : 48 ≤ c.toNat) (h : ¬ (c.toNat = 48 ∧ D.nd = 0)) : dsStep D c = { D with d := upd D.d D.nd c.toNat, nd := D.nd + 1 } := by
  unfold dsStep
  rw [if_neg (by rintro rfl; exact absurd h1 (by decide)), if_neg (by rintro ⟨rfl, h'⟩; exact h ⟨rfl, h'⟩)]
theorem rfE_succ {t : ByteArray} {r k : Nat} (h : r + k < t.size) : rfE t r (k + 1) = if rfE t r k < 10000 then rfE t r k * 10 + (t[r + k].toNat - 48) else rfE t r k := by
  show (if rfE t r k < 10000 then rfE t r k * 10 + (((bt t (r + k)).getD 48).toNat - 48) else rfE t r k) = _
  rw [bt_some h]
  rfl
set_option maxRecDepth 100000 in
theorem lower_E {c : UInt8} (h : c = 101 ∨ c = 69) (w : World) : Calls Tryz.prog 130 #[.int .u8 c.toNat] w fun e w' => e = .returned (.int .u8 101) ∧ w = w' := by
  have hor : bits .or .u8 (c.toNat : Nat) 32 = 101 := by
    rcases h with rfl | rfl <;> decide
  clear h
  generalize ((c.toNat : Nat) : Int) = x at *
  go_enter Tryz.func130, Tryz.ntmps130
  go_wp2_with fail
  go_ret
  exact ⟨rfl, rfl⟩
end Go.Proofs.YtbgjhgohffkonaaGreatDoor

/- A decimal of many digits read from a text. -/
namespace Go.Proofs.YtbgjhgohffkonaaGreatDoor
open Go.RowKit

theorem rfE_at {t : ByteArray} {r m : Nat} (h1 : r ≤ m) (h2 : m < t.size) : rfE t r (m + 1 - r) = if rfE t r (m - r) < 10000 then rfE t r (m - r) * 10 + (t[m].toNat - 48) else rfE t r (m - r) := by
  have := rfE_succ (t := t) (r := r) (k := m - r) (by omega)
  rw [show m - r + 1 = m + 1 - r by omega] at this
  rw [this]
  simp only [show r + (m - r) = m by omega]
theorem rfE_small {t : ByteArray} {r : Nat} (h : DigE t r) : ∀ m, r ≤ m → m ≤ t.size → rfE t r (m - r) ≤ 100000 := fun m h1 h2 =>
  rfE_le t r _ fun i hi1 hi2 => h.2 i hi1 (by omega)
end Go.Proofs.YtbgjhgohffkonaaGreatDoor

