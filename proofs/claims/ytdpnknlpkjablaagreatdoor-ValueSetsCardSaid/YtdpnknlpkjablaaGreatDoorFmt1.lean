/- The shortest digits of 100.0: the scaling. -/
import Derived.Test.YtdpnknlpkjablaaGreatDoorRows3
namespace Go.Proofs.YtdpnknlpkjablaaGreatDoor
open Go.RowKit

/-- What the package-level tables hold that are looked at. -/
structure PG (w : World) : Prop where
  hi : w.cell? ⟨8, 724, none⟩ = some (.int .u64 13107200000000000000)
  lo : w.cell? ⟨8, 725, none⟩ = some (.int .u64 0)
  tab : Lib.TabIs Tryz.prog w "internal/strconv.uint64pow10" .u64 Lib.pow10Tab
set_option maxRecDepth 100000 in
theorem prescale_tx {w : World} {g : Nat} {x y z : Value} (hG : PG w) (hg : w.heap[g]? = some (.cells #[x, y, z] 190 (0, 0))) :
    Calls Tryz.prog 138 #[.pointer (some ⟨g, 0, none⟩), .int .i64 (-57), .int .i64 14, .int .i64 46] w fun e w' =>
      e = .returned (.tuple #[]) ∧ w' = ((w.setCell ⟨g, 0, none⟩ (.int .u64 13107200000000000000)).setCell ⟨g, 1, none⟩ (.int .u64 0)).setCell ⟨g, 2, none⟩ (.int .i64 8) := by
  have p0 := hG.hi
  have p1 := hG.lo
  have c0 := block_cell hg (i := 0) rfl
  have c1 := block_cell hg (i := 1) rfl
  have c2 := block_cell hg (i := 2) rfl
  have f0 := block_free (i := 0) hg
  have f1 := block_free (i := 1) hg
  have f2 := block_free (i := 2) hg
  go_enter Tryz.func138, Tryz.ntmps138
  go_wp2_with fail
  refine bodyPost_end (results_none rfl _ _ _) rfl ?_
  exact ⟨rfl, rfl⟩
set_option maxRecDepth 100000 in
theorem uscale_min {w : World} {g : Nat} (hg : w.heap[g]? = some (.cells #[.int .u64 13107200000000000000, .int .u64 0, .int .i64 8] 190 (0, 0))) :
    Calls Tryz.prog 140 #[.int .u64 14411518807585586176, .pointer (some ⟨g, 0, none⟩)] w fun e w' => e = .returned (.int .u64 39999999999999997) ∧ w = w' := by
  have c0 := block_cell hg (i := 0) rfl
  have c1 := block_cell hg (i := 1) rfl
  have c2 := block_cell hg (i := 2) rfl
  have HM := Lib.hid (fun W => (Tryz.bits_Mul64 14411518807585586176 13107200000000000000 (by decide) (by decide) W).mono (R' := fun e w' => e = .returned (.tuple #[.int .u64 10239999999999999272, .int .u64 7456885660553576448]) ∧ W = w') fun e w' h => ⟨h.1.trans (by kernel_rfl), h.2.symm⟩)
  have hb : bits .and .i64 8 63 = 8 := by kernel_rfl
  have h1 : ∀ W, Sem.run Tryz.prog (Op.shift .shr .u64 10239999999999999272 .i64 8) W = .ok (.int .u64 39999999999999997) W := fun W => by kernel_rfl
  have h2 : ∀ W, Sem.run Tryz.prog (Op.shift .shl .u64 39999999999999997 .i64 8) W = .ok (.int .u64 10239999999999999232) W := fun W => by kernel_rfl
  have h3 : bits .or .u64 39999999999999997 1 = 39999999999999997 := by kernel_rfl
  go_enter Tryz.func140, Tryz.ntmps140
  go_wp2_with fail
  refine (HM.out _).mono ?_
  rintro e w2 ⟨rfl, rfl⟩
  go_wp2_with fail
  go_ret
  exact ⟨rfl, rfl⟩
set_option maxRecDepth 100000 in
theorem uscale_max {w : World} {g : Nat} (hg : w.heap[g]? = some (.cells #[.int .u64 13107200000000000000, .int .u64 0, .int .i64 8] 190 (0, 0))) :
    Calls Tryz.prog 140 #[.int .u64 14411518807585588224, .pointer (some ⟨g, 0, none⟩)] w fun e w' => e = .returned (.int .u64 40000000000000003) ∧ w = w' := by
  have c0 := block_cell hg (i := 0) rfl
  have c1 := block_cell hg (i := 1) rfl
  have c2 := block_cell hg (i := 2) rfl
  have HM := Lib.hid (fun W => (Tryz.bits_Mul64 14411518807585588224 13107200000000000000 (by decide) (by decide) W).mono (R' := fun e w' => e = .returned (.tuple #[.int .u64 10240000000000000727, .int .u64 10989858413155975168]) ∧ W = w') fun e w' h => ⟨h.1.trans (by kernel_rfl), h.2.symm⟩)
  have hb : bits .and .i64 8 63 = 8 := by kernel_rfl
  have h1 : ∀ W, Sem.run Tryz.prog (Op.shift .shr .u64 10240000000000000727 .i64 8) W = .ok (.int .u64 40000000000000002) W := fun W => by kernel_rfl
  have h2 : ∀ W, Sem.run Tryz.prog (Op.shift .shl .u64 40000000000000002 .i64 8) W = .ok (.int .u64 10240000000000000512) W := fun W => by kernel_rfl
  have h3 : bits .or .u64 40000000000000002 1 = 40000000000000003 := by kernel_rfl
  go_enter Tryz.func140, Tryz.ntmps140
  go_wp2_with fail
  refine (HM.out _).mono ?_
  rintro e w2 ⟨rfl, rfl⟩
  go_wp2_with fail
  go_ret
  exact ⟨rfl, rfl⟩
end Go.Proofs.YtdpnknlpkjablaaGreatDoor
