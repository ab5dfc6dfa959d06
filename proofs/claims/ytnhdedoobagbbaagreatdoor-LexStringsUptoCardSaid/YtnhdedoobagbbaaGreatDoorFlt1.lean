/- The library's reader of numbers with a point, at the one text that the laws of the lexer show. -/
import Derived.Test.YtnhdedoobagbbaaGreatDoorSign
import Derived.Laws.BitsAllLaws
import Derived.BigQuiet
import Derived.BigFrame
import Derived.WalkMore
import Derived.Handy
namespace Go.Proofs.YtnhdedoobagbbaaGreatDoor
open Go.RowKit

set_option maxRecDepth 100000 in
theorem lower_e (w : World) : Calls Tryz.prog 54 #[.int .u8 101] w fun e w' => e = .returned (.int .u8 101) ∧ w = w' := by
  have hor : bits .or .u8 101 32 = 101 := by decide
  go_enter Tryz.func54, Tryz.ntmps54
  go_wp2_with fail
  go_ret
  exact ⟨rfl, rfl⟩
set_option maxRecDepth 100000 in
theorem special_tx {t : ByteArray} (hs : t.size = 5) (h0 : t[0] = 49) (w : World) : Calls Tryz.prog 62 #[.string t] w fun e w' => e = .returned (.tuple #[.float .f64 0, .int .i64 0, .bool false]) ∧ w = w' := by
  go_enter Tryz.func62, Tryz.ntmps62
  go_wp2_with fail
  go_ret3
  exact ⟨rfl, rfl⟩
set_option maxHeartbeats 1000000 in
set_option maxRecDepth 100000 in
theorem readFloat_tx {t : ByteArray} (hs : t.size = 5) (h0 : t[0] = 49) (h1 : t[1] = 46) (h2 : t[2] = 53) (h3 : t[3] = 101) (h4 : t[4] = 51) (w : World) :
    Calls Tryz.prog 63 #[.string t] w fun e w' => e = .returned (.tuple #[.int .u64 15, .int .i64 2, .bool false, .bool false, .bool false, .int .i64 5, .bool true]) ∧ ∃ n, w' = w.drewN n := by
  go_enter Tryz.func63, Tryz.ntmps63
  go_wp2_with fail
  go_step3
  go_wp2_with fail
  go_step3
  go_wp2_with fail
  go_loopw [2, 5, 7, 9, 13, 14, 15, 16, 17] (fun v2 v5 v7 v9 v13 v14 v15 v16 v17 wr => (∃ m, wr = w.drewN m) ∧ v5 = .bool false ∧ v9 = .bool false ∧
    ((v2 = .int .u64 0 ∧ v7 = .int .i64 0 ∧ v13 = .bool false ∧ v14 = .bool false ∧ v15 = .int .i64 0 ∧ v16 = .int .i64 0 ∧ v17 = .int .i64 0) ∨
     (v2 = .int .u64 1 ∧ v7 = .int .i64 1 ∧ v13 = .bool false ∧ v14 = .bool true ∧ v15 = .int .i64 1 ∧ v16 = .int .i64 1 ∧ v17 = .int .i64 0) ∨
     (v2 = .int .u64 1 ∧ v7 = .int .i64 2 ∧ v13 = .bool true ∧ v14 = .bool true ∧ v15 = .int .i64 1 ∧ v16 = .int .i64 1 ∧ v17 = .int .i64 1) ∨
     (v2 = .int .u64 15 ∧ v7 = .int .i64 3 ∧ v13 = .bool true ∧ v14 = .bool true ∧ v15 = .int .i64 2 ∧ v16 = .int .i64 2 ∧ v17 = .int .i64 1))) (fun _ _ i _ _ _ _ _ _ _ => 5 - (intOf i).toNat)
  case atStart => exact ⟨⟨0, rfl⟩, rfl, rfl, Or.inl ⟨rfl, rfl, rfl, rfl, rfl, rfl, rfl⟩⟩
  case round =>
    obtain ⟨⟨m, rfl⟩, rfl, rfl, ⟨rfl, rfl, rfl, rfl, rfl, rfl, rfl⟩ | ⟨rfl, rfl, rfl, rfl, rfl, rfl, rfl⟩ | ⟨rfl, rfl, rfl, rfl, rfl, rfl, rfl⟩ | ⟨rfl, rfl, rfl, rfl, rfl, rfl, rfl⟩⟩ := hrel
    · go_wp2_with fail
      go_roundw
      case rel => exact ⟨⟨_, rfl⟩, rfl, rfl, Or.inr (Or.inl ⟨rfl, rfl, rfl, rfl, rfl, rfl, rfl⟩)⟩
      case measure => decide
    · go_wp2_with fail
      go_roundw
      case rel => exact ⟨⟨_, rfl⟩, rfl, rfl, Or.inr (Or.inr (Or.inl ⟨rfl, rfl, rfl, rfl, rfl, rfl, rfl⟩))⟩
      case measure => decide
    · go_wp2_with fail
      go_roundw
      case rel => exact ⟨⟨_, rfl⟩, rfl, rfl, Or.inr (Or.inr (Or.inr ⟨rfl, rfl, rfl, rfl, rfl, rfl, rfl⟩))⟩
      case measure => decide
    · go_wp2_with fail
      refine (lower_e _).mono ?_
      rintro e w2 ⟨rfl, rfl⟩
      go_wp2_with fail
      go_loopw [7, 9, 20] (fun v7 v9 v20 wr => (∃ m, wr = w.drewN m) ∧ v9 = .bool false ∧
        ((v7 = .int .i64 4 ∧ v20 = .int .i64 0) ∨ (v7 = .int .i64 5 ∧ v20 = .int .i64 3))) (fun i _ _ _ => 5 - (intOf i).toNat)
      case atStart => exact ⟨⟨_, rfl⟩, rfl, Or.inl ⟨rfl, rfl⟩⟩
      case round =>
        obtain ⟨⟨m2, rfl⟩, rfl, ⟨rfl, rfl⟩ | ⟨rfl, rfl⟩⟩ := hrel
        · go_wp2_with fail
          go_roundw
          case rel => exact ⟨⟨_, rfl⟩, rfl, Or.inr ⟨rfl, rfl⟩⟩
          case measure => decide
        · go_wp2_with fail
          rw [Exit.noGoto_ret]
          change bodyPost _ _ _ _ _ _
          go_returns
          exact ⟨rfl, _, rfl⟩
/-- What the package-level variables hold that the reader of numbers looks at. -/
structure FltG (w : World) : Prop where
  opt : w.cell? ⟨6, 0, none⟩ = some (.bool true)
  mant : w.cell? ⟨7, 0, none⟩ = some (.int .u64 52)
  pow : ∃ b o c, w.cell? ⟨10, 0, none⟩ = some (.slice (some ⟨b, o, none⟩) 23 c) ∧ w.cell? ⟨b, o + 2, none⟩ = some (.float .f64 4636737291354636288)
set_option maxHeartbeats 1000000 in
set_option maxRecDepth 100000 in
theorem exact_tx {w : World} (hG : FltG w) :
    Calls Tryz.prog 73 #[.int .u64 15, .int .i64 2, .bool false] w fun e w' => e = .returned (.tuple #[.float .f64 4654311885213007872, .bool true]) ∧ w = w' := by
  have q1 := hG.mant
  obtain ⟨b, o, c, q2, q3⟩ := hG.pow
  have f1 : floatOfInt FloatKind.f64 15 = 4624633867356078080 := by kernel_rfl
  have f2 : FloatKind.f64.format.order 4624633867356078080 4831355200913801216 = some .lt := by kernel_rfl
  have f3 : FloatKind.f64.format.order 4624633867356078080 14054727237768577024 = some .gt := by kernel_rfl
  have f4 : ∀ W, Sem.run Tryz.prog (binOp BinOp.mul 32 (.float .f64 4624633867356078080) (.float .f64 4636737291354636288)) W = .ok (.float .f64 4654311885213007872) W := fun W => by kernel_rfl
  go_enter Tryz.func73, Tryz.ntmps73
  go_wp2_with fail
  go_ret2
  exact ⟨rfl, rfl⟩
end Go.Proofs.YtnhdedoobagbbaaGreatDoor
