/- 100.0 as it is written. -/
import Derived.Test.YtdpnknlpkjablaaGreatDoorFmt4
import Derived.Deep.RegionWith
namespace Go.Proofs.YtdpnknlpkjablaaGreatDoor
open Go.RowKit Go.Sort

theorem run_sbits64 (b : Nat) (w : World) : (callFunc 110 #[.float .f64 b]).run Tryz.prog w = .ok (.value (.int .u64 b)) w := by
  rw [run_callFunc_extern Tryz.func110 (by kernel_rfl) (by kernel_rfl) (by kernel_rfl) (e := Extern.MathFloatBits.float64bits) (by kernel_rfl)]
  rfl
attribute [local go_sem] run_sbits64
set_option maxHeartbeats 2000000 in
set_option maxRecDepth 100000 in
theorem ftoa_tx {w : World} {base g0 : Nat} (hG : PG w) (hbase : base ≤ w.heap.size) (own0 : w.ownsRow base 5 1 (.slice (some ⟨g0, 0, none⟩) 0 24) 0 (Lib.byteCells [])) :
    Calls Tryz.prog 87 #[.slice (some ⟨g0, 0, none⟩) 0 24, .float .f64 4636737291354636288, .int .u8 102, .int .i64 (-1)] w fun e w' =>
      ∃ v, e = .returned v ∧ w'.ownsRow base 5 1 v 3 (Lib.byteCells [49, 48, 48]) ∧ Below base w w' := by
  have s1 : ∀ W, Sem.run Tryz.prog (Op.shift .shr .u64 4636737291354636288 .i64 63) W = .ok (.int .u64 0) W := fun W => by kernel_rfl
  have s2 : ∀ W, Sem.run Tryz.prog (Op.shift .shr .u64 4636737291354636288 .i64 52) W = .ok (.int .u64 1029) W := fun W => by kernel_rfl
  have s3 : ∀ W, Sem.run Tryz.prog (Op.shift .shl .i64 1 .i64 11) W = .ok (.int .i64 2048) W := fun W => by kernel_rfl
  have s4 : bits .and .i64 1029 2047 = 1029 := by kernel_rfl
  have s5 : ∀ W, Sem.run Tryz.prog (Op.shift .shl .u64 1 .i64 52) W = .ok (.int .u64 4503599627370496) W := fun W => by kernel_rfl
  have s6 : bits .and .u64 4636737291354636288 4503599627370495 = 2533274790395904 := by kernel_rfl
  have s7 : bits .or .u64 2533274790395904 4503599627370496 = 7036874417766400 := by kernel_rfl
  have s8 : ∀ W, Sem.run Tryz.prog (Op.shift .shl .u64 7036874417766400 .i64 11) W = .ok (.int .u64 14411518807585587200) W := fun W => by kernel_rfl
  have HL := Lib.hid (fun W => (Tryz.bits_Len64 7036874417766400 W (by decide) (by decide)).mono (R' := fun e w' => e = .returned (.int .i64 53) ∧ W = w') fun e w' h => ⟨h.1.trans (by kernel_rfl), h.2.symm⟩)
  go_enter Tryz.func87, Tryz.ntmps87
  go_wp2_with fail
  go_quiet (fail)
  go_wp2_with fail
  refine (HL.out _).mono ?_
  rintro e w1 ⟨rfl, rfl⟩
  go_wp2_with fail
  refine (short_tx (hG.below ((below_drewN (Below.refl _ _) nq).alloc (by simp) _))).mono ?_
  rintro e w2 ⟨rfl, hb2⟩
  have hbuf := block_below (g := (w.drewN nq).heap.size) (block_new (w.drewN nq) _ rfl) hb2
  have hB2 : Below w.heap.size w w2 := Below.trans ((below_drewN (Below.refl w.heap.size w) nq).alloc (by simp) _) (hb2.mono (by simp))
  have hH : Holds (fun (b : UInt8) => Value.int .u8 (b.toNat : Int)) w2 w.heap.size 0 z16 := by
    intro j hj
    have hj' : j < 16 := hj
    refine ⟨?_, block_free hbuf⟩
    rw [Nat.zero_add]
    refine block_cell hbuf ?_
    clear hj hb2 hB2 hbuf
    rcases j with _ | _ | _ | _ | _ | _ | _ | _ | _ | _ | _ | _ | _ | _ | _ | _ | j <;> first | rfl | (exfalso; omega)
  have HN := Lib.hid (fun W (h : PG W) => (Tryz.internal_strconv_numDigits 1000000000000000 (by decide) (by decide) W h.tab).mono (R' := fun e w' => e = .returned (.int .i64 16) ∧ W = w') fun e w' h => ⟨h.1.trans (by kernel_rfl), h.2.symm⟩)
  clear hbuf hb2
  go_wp2_with fail
  go_region_with (first
    | (go_at_call 75
       refine (HN.out _ (hG.below (below_drewN hB2 1))).mono ?_
       rintro e w3 ⟨rfl, rfl⟩)
    | (go_at_call 115
       refine (digits_tx (w := w2.drew) hH).mono ?_
       rintro e w3 ⟨rfl, q0, hb3⟩))
  all_goals
    have hB3 := (below_drewN hB2 1).trans hb3
    go_wp2_with fail
    refine (efg_tx (Nat.le_trans hbase hB3.size) (own_below own0 hB3) q0).mono ?_
    rintro e w4 ⟨v, rfl, own4, hb4⟩
    go_wp2_with fail
    go_ret
    exact ⟨_, rfl, own4, (hB3.mono hbase).trans hb4⟩
end Go.Proofs.YtdpnknlpkjablaaGreatDoor
