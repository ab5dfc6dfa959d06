/- Trailing noughts of a decimal. -/
import Derived.Test.YtnhdedoobagbbaaGreatDoorDecM
import Derived.BigQuiet
import Derived.Deep.QuietTactic
import Derived.Deep.LoopGhost
import Derived.BigFrame
import Derived.IntWalk
namespace Go.Proofs.YtnhdedoobagbbaaGreatDoor
open Go.RowKit

theorem i64_nat {n : Nat} (h : n ≤ 1000000) : IntKind.i64.wrap (n : Int) = (n : Int) := IntWalk.i64_in _ (by omega)
set_option maxRecDepth 100000 in
theorem trim_any {w : World} {g base : Nat} {D : Dc} (h : DB w g D) (hs : D.nd ≤ 800) (hb : base ≤ g) :
    Calls Tryz.prog 102 #[.pointer (some ⟨g, 0, none⟩)] w fun e w' => (∃ v, e = .returned v) ∧ DB w' g (trimD D) ∧ Below base w w' := by
  go_enter Tryz.func102, Tryz.ntmps102
  go_wp2_with fail
  go_loopg [2] D.nd (fun k _ wr => k ≤ D.nd ∧ DB wr g { D with nd := k } ∧ trimN D.d k = trimN D.d D.nd ∧ Below base w wr)
  case atStart => exact ⟨Nat.le_refl _, h, rfl, Below.refl _ _⟩
  case round =>
    obtain ⟨hk, hD, ht, hB⟩ := hrel
    have HT := Lib.hid ht
    clear ht
    have f0 := hD.free 800
    have f1 := hD.free 801
    cases gk with
    | zero =>
      have c1 : wr.cell? ⟨g, 800, none⟩ = some (.int .i64 0) := hD.cell_nd
      have c2 : wr.cell? ⟨g, 801, none⟩ = some (.int .i64 D.dp) := hD.cell_dp
      have e : trimD D = { D with nd := 0, dp := 0 } := by
        unfold trimD
        rw [← HT.out]
        rfl
      have HE := Lib.hid e
      clear e
      go_wp2_with fail
      go_quiet (fail)
      go_wp2_with fail
      go_end0
      rw [HE.out]
      exact ⟨⟨_, rfl⟩, DB.set_dp (D := { D with nd := 0 }) (hD.drewN _) 0, (below_drewN hB _).setCell hb _⟩
    | succ m =>
      have c1 : wr.cell? ⟨g, 800, none⟩ = some (.int .i64 ((m : Int) + 1)) := hD.cell_nd
      have c2 : wr.cell? ⟨g, m, none⟩ = some (.int .u8 (D.d m : Nat)) := hD.cell_d (by omega)
      have a1 := i64_nat (n := m) (by omega)
      by_cases hd : D.d m = 48
      · rw [hd] at c2
        have e : trimN D.d m = trimN D.d (m + 1) := by
          show _ = if D.d m = 48 then _ else _
          rw [if_pos hd]
        have HE := Lib.hid (e.trans HT.out)
        have HD := Lib.hid hD
        clear e hd
        go_wp2_with fail
        go_quiet (fail)
        go_wp2_with fail
        go_roundg m
        case measure => omega
        case rel => exact ⟨by omega, DB.set_nd (D := { D with nd := m + 1 }) (HD.out.drewN _) m, HE.out, (below_drewN hB _).setCell hb _⟩
      · have hdb : (((D.d m : Nat) : Int) == 48) = false := by simp; omega
        have e : trimD D = { D with nd := m + 1 } := by
          unfold trimD
          rw [← HT.out]
          have : trimN D.d (m + 1) = m + 1 := by
            show (if D.d m = 48 then _ else _) = _
            rw [if_neg hd]
          rw [this]
          rfl
        have HE := Lib.hid e
        clear e hd
        go_wp2_with fail
        go_quiet (fail)
        go_wp2_with fail
        go_end0
        rw [HE.out]
        exact ⟨⟨_, rfl⟩, hD.drewN _, below_drewN hB _⟩
end Go.Proofs.YtnhdedoobagbbaaGreatDoor
