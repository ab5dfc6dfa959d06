/- The digits of 10^15, and how many of them are no noughts at the end. -/
import Derived.Test.YtdpnknlpkjablaaGreatDoorFmt2
import Derived.Lib.OwnBridge
import Derived.LoopN
namespace Go.Proofs.YtdpnknlpkjablaaGreatDoor
open Go.RowKit Go.Sort

def z16 : Array UInt8 := #[0, 0, 0, 0, 0, 0, 0, 0, 0, 0, 0, 0, 0, 0, 0, 0]
theorem base10_tx {w : World} {g cap : Nat} (hH : Holds (fun (b : UInt8) => Value.int .u8 (b.toNat : Int)) w g 0 z16) :
    Calls Tryz.prog 76 #[.slice (some ⟨g, 0, none⟩) 16 cap, .int .u64 1000000000000000] w fun e w' =>
      e = .returned (.tuple #[]) ∧ (w'.cell? ⟨g, 0, none⟩ = some (.int .u8 49) ∧ ∀ t, 1 ≤ t → t < 16 → w'.cell? ⟨g, t, none⟩ = some (.int .u8 48)) ∧ Below g w w' := by
  refine (Tryz.internal_strconv_formatBase10 g 0 cap 1000000000000000 z16 w hH (by decide) (by decide) (by decide)).mono ?_
  rintro e w' ⟨rfl, n, v', dk, rfl, hf⟩
  have hs : dk.size = 16 := hf.size
  have hc : ∀ t, t < 16 → ((putRow (fun (b : UInt8) => Value.int .u8 (b.toNat : Int)) w g 0 dk).drewN n).cell? ⟨g, t, none⟩ = some (.int .u8 ((Lib.dg 1000000000000000 (15 - t)).toNat : Int)) := fun t ht => by
    have h1 := cell?_putRow (fun (b : UInt8) => Value.int .u8 (b.toNat : Int)) w g 0 z16 dk hH (by rw [hs]; rfl) t (by omega)
    rw [Nat.zero_add] at h1
    have h2 : dk[t]! = Lib.dg 1000000000000000 (15 - t) := hf.done t (Nat.zero_le _) ht
    rw [h2] at h1
    exact h1
  refine ⟨rfl, ⟨?_, ?_⟩, ?_⟩
  · rw [hc 0 (by decide)]
    rfl
  · intro t h1 h2
    rw [hc t h2]
    have : Lib.dg 1000000000000000 (15 - t) = 48 := by
      have hall : ((List.range 15).all fun k => Lib.dg 1000000000000000 k == 48) = true := by decide +kernel
      have := List.all_eq_true.1 hall (15 - t) (List.mem_range.2 (by omega))
      simpa using this
    rw [this]
    rfl
  · exact below_drewN (Lib.below_putRow (q := 0) (Below.refl _ _) (Nat.le_refl _)) n
set_option maxHeartbeats 1000000 in
set_option maxRecDepth 100000 in
theorem digits_tx {w : World} {g : Nat} (hH : Holds (fun (b : UInt8) => Value.int .u8 (b.toNat : Int)) w g 0 z16) :
    Calls Tryz.prog 115 #[.slice (some ⟨g, 0, none⟩) 32 32, .int .u64 1000000000000000, .int .i64 (-13), .int .i64 16] w fun e w' =>
      e = .returned (.tuple #[.int .i64 3, .int .i64 1]) ∧ w'.cell? ⟨g, 0, none⟩ = some (.int .u8 49) ∧ Below g w w' := by
  go_enter Tryz.func115, Tryz.ntmps115
  go_wp2_with fail
  refine (base10_tx hH).mono ?_
  rintro e w2 ⟨rfl, ⟨q0, hq⟩, hb⟩
  have q1 := hq 1 (by decide) (by decide)
  have q2 := hq 2 (by decide) (by decide)
  have q3 := hq 3 (by decide) (by decide)
  have q4 := hq 4 (by decide) (by decide)
  have q5 := hq 5 (by decide) (by decide)
  have q6 := hq 6 (by decide) (by decide)
  have q7 := hq 7 (by decide) (by decide)
  have q8 := hq 8 (by decide) (by decide)
  have q9 := hq 9 (by decide) (by decide)
  have q10 := hq 10 (by decide) (by decide)
  have q11 := hq 11 (by decide) (by decide)
  have q12 := hq 12 (by decide) (by decide)
  have q13 := hq 13 (by decide) (by decide)
  have q14 := hq 14 (by decide) (by decide)
  have q15 := hq 15 (by decide) (by decide)
  clear hq
  go_wp2_with fail
  refine wp_loop_rounds 16 ?_
  rw [rounds_succ]
  go_wp2_with fail
  rw [rounds_succ]
  go_wp2_with fail
  rw [rounds_succ]
  go_wp2_with fail
  rw [rounds_succ]
  go_wp2_with fail
  rw [rounds_succ]
  go_wp2_with fail
  rw [rounds_succ]
  go_wp2_with fail
  rw [rounds_succ]
  go_wp2_with fail
  rw [rounds_succ]
  go_wp2_with fail
  rw [rounds_succ]
  go_wp2_with fail
  rw [rounds_succ]
  go_wp2_with fail
  rw [rounds_succ]
  go_wp2_with fail
  rw [rounds_succ]
  go_wp2_with fail
  rw [rounds_succ]
  go_wp2_with fail
  rw [rounds_succ]
  go_wp2_with fail
  rw [rounds_succ]
  go_wp2_with fail
  rw [rounds_succ]
  go_wp2_with fail
  go_ret2
  exact ⟨rfl, q0, hb⟩
end Go.Proofs.YtdpnknlpkjablaaGreatDoor
