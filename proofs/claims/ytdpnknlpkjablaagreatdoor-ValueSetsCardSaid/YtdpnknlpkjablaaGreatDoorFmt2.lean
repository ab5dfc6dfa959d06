/- The shortest digits of 100.0. -/
import Derived.Test.YtdpnknlpkjablaaGreatDoorFmt1
import Derived.Lib.SmallJoins
namespace Go.Proofs.YtdpnknlpkjablaaGreatDoor
open Go.RowKit

theorem log10_tx (w : World) : Calls Tryz.prog 101 #[.int .i64 (-46)] w fun e w' => e = .returned (.int .i64 (-14)) ∧ w = w' := by
  have h1 : ∀ W, Sem.run Tryz.prog (Op.shift .shr .i64 (-3629998) .u64 18) W = .ok (.int .i64 (-14)) W := fun W => by kernel_rfl
  go_enter Tryz.func101, Tryz.ntmps101
  go_wp2_with fail
  go_ret
  exact ⟨rfl, rfl⟩
theorem log2_tx (w : World) : Calls Tryz.prog 139 #[.int .i64 14] w fun e w' => e = .returned (.int .i64 46) ∧ w = w' := by
  have h1 : ∀ W, Sem.run Tryz.prog (Op.shift .shr .i64 1523942 .u64 15) W = .ok (.int .i64 46) W := fun W => by kernel_rfl
  go_enter Tryz.func139, Tryz.ntmps139
  go_wp2_with fail
  go_ret
  exact ⟨rfl, rfl⟩
theorem nudge_tx (x : Int) (h0 : 0 ≤ x) (h1 : x < 18446744073709551616) (w : World) : Calls Tryz.prog 141 #[.int .u64 x, .int .i64 0] w fun e w' => e = .returned (.int .u64 x) ∧ w = w' := by
  have hw : IntKind.u64.wrap x = x := by rw [IntKind.wrap_u64]; omega
  go_enter Tryz.func141, Tryz.ntmps141
  go_wp2_with fail
  go_ret
  exact ⟨rfl, rfl⟩
theorem ceil_tx (w : World) : Calls Tryz.prog 142 #[.int .u64 39999999999999997] w fun e w' => e = .returned (.int .u64 10000000000000000) ∧ w = w' := by
  have h1 : ∀ W, Sem.run Tryz.prog (Op.shift .shr .u64 40000000000000000 .u64 2) W = .ok (.int .u64 10000000000000000) W := fun W => by kernel_rfl
  go_enter Tryz.func142, Tryz.ntmps142
  go_wp2_with fail
  go_ret
  exact ⟨rfl, rfl⟩
theorem floor_tx (w : World) : Calls Tryz.prog 143 #[.int .u64 40000000000000003] w fun e w' => e = .returned (.int .u64 10000000000000000) ∧ w = w' := by
  have h1 : ∀ W, Sem.run Tryz.prog (Op.shift .shr .u64 40000000000000003 .u64 2) W = .ok (.int .u64 10000000000000000) W := fun W => by kernel_rfl
  go_enter Tryz.func143, Tryz.ntmps143
  go_wp2_with fail
  go_ret
  exact ⟨rfl, rfl⟩
theorem PG.below {w w' : World} (h : PG w) (hb : Below w.heap.size w w') : PG w' :=
  ⟨cell_keeps hb h.hi, cell_keeps hb h.lo, Go.Joins.tab_stays (g := 3) (by kernel_rfl) h.tab hb (Nat.le_refl _)⟩
set_option maxHeartbeats 1000000 in
set_option maxRecDepth 100000 in
theorem short_tx {w : World} (hG : PG w) : Calls Tryz.prog 120 #[.int .u64 14411518807585587200, .int .i64 (-57)] w fun e w' => e = .returned (.tuple #[.int .u64 1000000000000000, .int .i64 (-13)]) ∧ Below w.heap.size w w' := by
  have h1 : ∀ W, Sem.run Tryz.prog (Op.shift .shl .u64 1 .i64 10) W = .ok (.int .u64 1024) W := fun W => by kernel_rfl
  have h2 : ∀ W, Sem.run Tryz.prog (Op.shift .shr .u64 14411518807585587200 .i64 11) W = .ok (.int .u64 7036874417766400) W := fun W => by kernel_rfl
  have h3 : bits .and .i64 7036874417766400 1 = 0 := by kernel_rfl
  have hb0 : Below w.heap.size w (w.alloc (.cells #[.int .u64 0, .int .u64 0, .int .i64 0] 190 (0, 0))) := (Below.refl _ w).alloc (Nat.le_refl _) _
  have hg0 : (w.alloc (.cells #[.int .u64 0, .int .u64 0, .int .i64 0] 190 (0, 0))).heap[w.heap.size]? = _ := block_new w (.cells #[.int .u64 0, .int .u64 0, .int .i64 0] 190 (0, 0)) rfl
  have hG0 := hG.below hb0
  go_enter Tryz.func120, Tryz.ntmps120
  go_wp2_with fail
  refine (log10_tx _).mono ?_
  rintro e w1 ⟨rfl, rfl⟩
  go_wp2_with fail
  refine (log2_tx _).mono ?_
  rintro e w1 ⟨rfl, rfl⟩
  go_wp2_with fail
  refine (prescale_tx hG0 hg0).mono ?_
  rintro e w1 ⟨rfl, hw1⟩
  have hg1 : w1.heap[w.heap.size]? = some (.cells #[.int .u64 13107200000000000000, .int .u64 0, .int .i64 8] 190 (0, 0)) := by
    rw [hw1]
    exact block_set (i := 2) (block_set (i := 1) (block_set (i := 0) hg0 _) _) _
  have hB : Below w.heap.size w w1 := by
    rw [hw1]
    (repeat' (first | (with_reducible exact Below.refl _ _) | (with_reducible assumption) | (with_reducible refine below_drewN ?_ _) | (with_reducible refine Below.drew ?_) | (with_reducible refine Below.alloc ?_ ?_ _) | (with_reducible refine Below.setCell ?_ ?_ _) | omega | (simp; done) | (simp; omega)))
  clear hw1 hG0 hg0 hb0
  go_wp2_with fail
  refine (uscale_min hg1).mono ?_
  rintro e w2 ⟨rfl, rfl⟩
  go_wp2_with fail
  refine (nudge_tx _ (by decide) (by decide) _).mono ?_
  rintro e w2 ⟨rfl, rfl⟩
  go_wp2_with fail
  refine (ceil_tx _).mono ?_
  rintro e w2 ⟨rfl, rfl⟩
  go_wp2_with fail
  refine (uscale_max hg1).mono ?_
  rintro e w2 ⟨rfl, rfl⟩
  go_wp2_with fail
  refine (nudge_tx _ (by decide) (by decide) _).mono ?_
  rintro e w2 ⟨rfl, rfl⟩
  go_wp2_with fail
  refine (floor_tx _).mono ?_
  rintro e w2 ⟨rfl, rfl⟩
  go_wp2_with fail
  go_ret2
  exact ⟨rfl, hB⟩
end Go.Proofs.YtdpnknlpkjablaaGreatDoor
