/- A decimal's shift by any number of places. -/
import Derived.Test.YtnhdedoobagbbaaGreatDoorFltL
import Derived.Test.YtnhdedoobagbbaaGreatDoorDecG
namespace Go.Proofs.YtnhdedoobagbbaaGreatDoor
open Go.RowKit

theorem shL_more {m : Nat} {D : Dc} (h : 60 < m) : shL m D = shL (m - 60) (lsP 60 D) := by rw [shL, if_pos h]
theorem shL_last {m : Nat} {D : Dc} (h : ¬ 60 < m) : shL m D = lsP m D := by rw [shL, if_neg h]
theorem shR_more {m : Nat} {D : Dc} (h : 60 < m) : shR m D = shR (m - 60) (rsP 60 D) := by rw [shR, if_pos h]
theorem shR_last {m : Nat} {D : Dc} (h : ¬ 60 < m) : shR m D = rsP m D := by rw [shR, if_neg h]
set_option maxHeartbeats 1000000 in
set_option maxRecDepth 100000 in
theorem shift_any {w : World} {g base : Nat} {D : Dc} (hG : ChG base w) (h : DB w g D) (h' : OkD D) (hp : 0 < D.nd) (hb : base ≤ g) (hd1 : -1000000000 ≤ D.dp) (hd2 : D.dp ≤ 1000000000) {k : Int} (h1 : -1000000 ≤ k) (h2 : k ≤ 1000000) :
    Calls Tryz.prog 87 #[.pointer (some ⟨g, 0, none⟩), .int .i64 k] w fun e w' => (∃ v, e = .returned v) ∧ DB w' g (shP k D) ∧ Below base w w' := by
  have c1 := h.cell_nd
  have hnz : ((D.nd : Int) == 0) = false := by simp; omega
  obtain ⟨S, hS⟩ : ∃ S, shP k D = S := ⟨_, rfl⟩
  have HS := Lib.hid hS
  rw [hS]
  clear hS
  by_cases hk : 0 < k
  · obtain ⟨m, rfl⟩ : ∃ m : Nat, k = (m : Int) := ⟨k.toNat, by omega⟩
    have e : shL m D = S := by
      rw [← HS.out]
      unfold shP
      rw [if_neg (by omega), if_pos hk]
      rfl
    have HE := Lib.hid e
    clear e HS
    have hkN : 0 < m := by omega
    go_enter Tryz.func87, Tryz.ntmps87
    go_wp2_with fail
    go_loopw [1] (fun x wr => ∃ (m2 : Nat) (D2 : Dc), x = .int .i64 m2 ∧ 1 ≤ m2 ∧ m2 ≤ m ∧ OkD D2 ∧ 0 < D2.nd ∧ D.dp ≤ D2.dp ∧ D2.dp + 60 * m2 ≤ D.dp + 60 * m ∧ shL m2 D2 = S ∧ DB wr g D2 ∧ Below base w wr) (fun x _ => (intOf x).toNat)
    case atStart => exact ⟨m, D, rfl, by omega, by omega, h', hp, by omega, by omega, HE.out, h, Below.refl _ _⟩
    case round =>
      obtain ⟨m2, D2, rfl, hm1, hm2, ok2, hp2, hl, hh, he, hD, hB⟩ := hrel
      have HE2 := Lib.hid he
      have hG2 := hG.keeps (Nat.le_refl _) hB
      clear he
      by_cases hlt : 60 < m2
      · go_wp2_with fail
        refine (leftShift_any hG2 hD ok2 hp2 hb (by omega) (by omega) (k := 60) (by decide) (by decide)).mono ?_
        rintro e w3 ⟨⟨v, rfl⟩, hD3, hB3⟩
        obtain ⟨o1, o2, _⟩ := lsP_spec ok2 hp2 (k := 60) (by decide) (by decide)
        have o3 := lsP_dp_hi ok2 hp2 (k := 60) (by decide) (by decide)
        have HD := Lib.hid hD3
        clear hD3
        go_wp2_with fail
        go_roundw
        case rel =>
          refine ⟨m2 - 60, lsP 60 D2, by go_num, by omega, by omega, o1, o2, by omega, by omega, ?_, HD.out, hB.trans hB3⟩
          rw [← shL_more hlt]
          exact HE2.out
        case measure => simp [intOf]; omega
      · go_wp2_with fail
        refine (leftShift_any hG2 hD ok2 hp2 hb (by omega) (by omega) (k := m2) (by omega) (by omega)).mono ?_
        rintro e w3 ⟨⟨v, rfl⟩, hD3, hB3⟩
        rw [← shL_last hlt, HE2.out] at hD3
        go_wp2_with fail
        go_end0
        exact ⟨⟨_, rfl⟩, hD3, hB.trans hB3⟩
  · by_cases hk2 : k < 0
    · obtain ⟨m, rfl⟩ : ∃ m : Nat, k = -(m : Int) := ⟨(-k).toNat, by omega⟩
      have e : shR m D = S := by
        rw [← HS.out]
        unfold shP
        rw [if_neg (by omega), if_neg hk, if_pos hk2]
        congr 1
        omega
      have HE := Lib.hid e
      clear e HS
      have hkN : 0 < m := by omega
      go_enter Tryz.func87, Tryz.ntmps87
      go_wp2_with fail
      go_loopw [1] (fun x wr => ∃ (m2 : Nat) (D2 : Dc), x = .int .i64 (-(m2 : Int)) ∧ 1 ≤ m2 ∧ m2 ≤ m ∧ OkD D2 ∧ 0 < D2.nd ∧ D2.dp ≤ D.dp ∧ D.dp - 860 * (m - m2) ≤ D2.dp ∧ shR m2 D2 = S ∧ DB wr g D2 ∧ Below base w wr) (fun x _ => (-(intOf x)).toNat)
      case atStart => exact ⟨m, D, rfl, by omega, by omega, h', hp, by omega, by omega, HE.out, h, Below.refl _ _⟩
      case round =>
        obtain ⟨m2, D2, rfl, hm1, hm2, ok2, hp2, hl, hh, he, hD, hB⟩ := hrel
        have HE2 := Lib.hid he
        clear he
        by_cases hlt : 60 < m2
        · go_wp2_with fail
          refine (rightShift_any hD ok2 hp2 hb (by omega) (by omega) (k := 60) (by decide) (by decide)).mono ?_
          rintro e w3 ⟨⟨v, rfl⟩, hD3, hB3⟩
          obtain ⟨o1, o2, _⟩ := rsP_spec ok2 hp2 (k := 60) (by decide)
          have o3 := rsP_dp_lo ok2 hp2 (k := 60) (by decide)
          have HD := Lib.hid hD3
          clear hD3
          go_wp2_with fail
          go_roundw
          case rel =>
            refine ⟨m2 - 60, rsP 60 D2, by go_num, by omega, by omega, o1, o2, by omega, by omega, ?_, HD.out, hB.trans hB3⟩
            rw [← shR_more hlt]
            exact HE2.out
          case measure => simp [intOf]; omega
        · go_wp2_with fail
          refine (rightShift_any hD ok2 hp2 hb (by omega) (by omega) (k := m2) (by omega) (by omega)).mono ?_
          rintro e w3 ⟨⟨v, rfl⟩, hD3, hB3⟩
          rw [← shR_last hlt, HE2.out] at hD3
          go_wp2_with fail
          go_end0
          exact ⟨⟨_, rfl⟩, hD3, hB.trans hB3⟩
    · have e : D = S := by
        rw [← HS.out]
        unfold shP
        rw [if_neg (by omega), if_neg hk, if_neg hk2]
      subst e
      go_enter Tryz.func87, Tryz.ntmps87
      go_wp2_with fail
      go_end0
      exact ⟨⟨_, rfl⟩, h, Below.refl _ _⟩
end Go.Proofs.YtnhdedoobagbbaaGreatDoor
