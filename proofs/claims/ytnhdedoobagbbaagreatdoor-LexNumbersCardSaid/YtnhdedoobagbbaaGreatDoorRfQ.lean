/- Bytes of a text of the shape of a number, as numbers. -/
import Derived.Test.YtnhdedoobagbbaaGreatDoorDecH
import Derived.Test.YtnhdedoobagbbaaGreatDoorFltT
namespace Go.Proofs.YtnhdedoobagbbaaGreatDoor
open Go.RowKit

theorem bt_nat {t : ByteArray} {i : Nat} {c : UInt8} (h : bt t i = some c) : ∃ hi : i < t.size, t[i] = c := by
  rcases Nat.lt_or_ge i t.size with h' | h'
  · refine ⟨h', ?_⟩
    rw [bt_some h'] at h
    exact Option.some.inj h
  · rw [bt_none h'] at h; cases h
theorem Shp.digit {t : ByteArray} {p q i : Nat} (h : Shp t p q) (hi : i < q) (hp : i ≠ p) : ∃ hi : i < t.size, 48 ≤ t[i].toNat ∧ t[i].toNat ≤ 57 := by
  obtain ⟨c, hc, h1, h2⟩ : ∃ c, bt t i = some c ∧ 48 ≤ c ∧ c ≤ 57 := by
    rcases Nat.lt_or_ge i p with hlt | hge
    · exact h.pre i hlt
    · exact h.post i (by omega) hi
  obtain ⟨hs, rfl⟩ := bt_nat hc
  exact ⟨hs, UInt8.le_iff_toNat_le.1 h1, UInt8.le_iff_toNat_le.1 h2⟩
theorem Shp.point {t : ByteArray} {p q : Nat} (h : Shp t p q) : ∃ hi : p < t.size, t[p] = 46 := bt_nat h.dot
theorem DigE.digit {t : ByteArray} {r i : Nat} (h : DigE t r) (h1 : r ≤ i) (h2 : i < t.size) : 48 ≤ t[i].toNat ∧ t[i].toNat ≤ 57 := by
  obtain ⟨c, hc, g1, g2⟩ := h.2 i h1 h2
  obtain ⟨hs, rfl⟩ := bt_nat hc
  exact ⟨UInt8.le_iff_toNat_le.1 g1, UInt8.le_iff_toNat_le.1 g2⟩
theorem dsAt_succ {t : ByteArray} {i : Nat} (h : i < t.size) : dsAt t (i + 1) = dsStep (dsAt t i) t[i] := by
  rw [dsAt, bt_some h]
  rfl
theorem rfAt_succ {t : ByteArray} {i : Nat} (h : i < t.size) : rfAt t (i + 1) = rfStep (rfAt t i) t[i] := by
  rw [rfAt, bt_some h]
  rfl
theorem dsStep_zero {D : Dc} {c : UInt8} (h : c.toNat = 48) (hn : D.nd = 0) : dsStep D c = { D with dp := D.dp - 1 } := by
  have : c = 48 := UInt8.toNat_inj.1 h
  subst this
  unfold dsStep
  rw [if_neg (by decide), if_pos ⟨rfl, hn⟩]
theorem dsStep_dig {D : Dc} {c : UInt8} (h1 : 48 ≤ c.toNat) (h : ¬ (c.toNat = 48 ∧ D.nd = 0)) : dsStep D c = { D with d := upd D.d D.nd c.toNat, nd := D.nd + 1 } := by
  unfold dsStep
  rw [if_neg (by rintro rfl; exact absurd h1 (by decide)), if_neg (by rintro ⟨rfl, h'⟩; exact h ⟨rfl, h'⟩)]
theorem rfE_succ {t : ByteArray} {r k : Nat} (h : r + k < t.size) : rfE t r (k + 1) = if rfE t r k < 10000 then rfE t r k * 10 + (t[r + k].toNat - 48) else rfE t r k := by
  show (if rfE t r k < 10000 then rfE t r k * 10 + (((bt t (r + k)).getD 48).toNat - 48) else rfE t r k) = _
  rw [bt_some h]
  rfl
set_option maxRecDepth 100000 in
theorem lower_E {c : UInt8} (h : c = 101 ∨ c = 69) (w : World) : Calls Tryz.prog 54 #[.int .u8 c.toNat] w fun e w' => e = .returned (.int .u8 101) ∧ w = w' := by
  have hor : bits .or .u8 (c.toNat : Nat) 32 = 101 := by
    rcases h with rfl | rfl <;> decide
  clear h
  generalize ((c.toNat : Nat) : Int) = x at *
  go_enter Tryz.func54, Tryz.ntmps54
  go_wp2_with fail
  go_ret
  exact ⟨rfl, rfl⟩
end Go.Proofs.YtnhdedoobagbbaaGreatDoor
