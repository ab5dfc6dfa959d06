/- strings.Builder's WriteString at this program: the walk of the library's text. -/
import Derived.Test.YtbgjhgohffkonaaGreatDoorM07
import Derived.Test.YtbgjhgohffkonaaGreatDoorM03
import Derived.Test.YtbgjhgohffkonaaGreatDoorShelf
import Derived.Lib.Builder
import Derived.Lib.Walk
import Derived.Lib.AppendStr
import Derived.Test.YtbgjhgohffkonaaGreatDoorM21
import Derived.Lib.SmallJoins
import Derived.Lib.OwnBridge
import Derived.LoopN
namespace Go.Proofs.YtbgjhgohffkonaaGreatDoor
open Go.RowKit Go.Shelf

set_option maxHeartbeats 2000000 in
set_option maxRecDepth 100000 in
theorem writeString_any (B b : Nat) (bs : List Value) (s : ByteArray) (w : World) (h : Lib.IsBuilder 69 5 B b bs w) (hlen : bs.length + s.size ≤ 140737488355328) (hBw : B ≤ w.heap.size) :
    Calls Tryz.prog 57 #[.pointer (some ⟨b, 0, none⟩), .string s] w fun e w' => e = .returned (.tuple #[.int .i64 s.size, .nilIface]) ∧ (Lib.BuilderAt 69 5 B b (.pointer (some ⟨b, 0, none⟩)) (bs ++ Lib.strCells s) w' ∧ Below B w w') := by
  obtain ⟨i0, hi, hz0, hz1, hz2⟩ := info_parts infoB1
  go_enter Tryz.func57, Tryz.ntmps57
  go_wp2_with fail
  refine (check_any B b bs _ h).mono ?_
  rintro e w1 ⟨rfl, h1, hb1⟩
  obtain ⟨hB, v, hbk, hown, hne⟩ := h1
  have c0 : w1.cell? ⟨b, 0, none⟩ = some (.pointer (some ⟨b, 0, none⟩)) := by rw [Lib.cell_of_heap hbk]; rfl
  have c1 : w1.cell? ⟨b, 1, none⟩ = some v := by rw [Lib.cell_of_heap hbk]; rfl
  have HBK := Lib.hid hbk
  clear hbk
  go_wp2_with (at_builtin; refine Lib.wpList_append_own_string _ rfl _ _ 67 9 rfl B 5 i0 Tryz.underlying67 Tryz.underlying9 hi hz0 hz1 hz2 _ _ _ rfl hown s rfl ?c3 ?c4 ?c5 ?_)
  case c3 => unfold maxLen; omega
  case c4 => omega
  case c5 => have := hb1.size; omega
  intro v' w2 hown' hgrow _
  have hlt : b < w1.heap.size := block_lt HBK.out
  have hb2 : w2.heap[b]? = some (.cells #[.pointer (some ⟨b, 0, none⟩), v] 69 (0, 0)) := by
    rw [hgrow.block b hlt (fun e => hne e.symm)]
    exact HBK.out
  have d0 : w2.cell? ⟨b, 0, none⟩ = some (.pointer (some ⟨b, 0, none⟩)) := by rw [Lib.cell_of_heap hb2]; rfl
  have d1 : w2.cell? ⟨b, 1, none⟩ = some v := by rw [Lib.cell_of_heap hb2]; rfl
  have f1 : w2.frozen? ⟨b, 1, none⟩ = false := Lib.frozen_of_heap hb2 1
  obtain ⟨ao, n', cap, rfl⟩ : ∃ ao n' cap, v' = .slice ao n' cap := by
    rcases hown'.2 with ⟨hv, _⟩ | ⟨g, cap, cur, hv, _⟩
    · exact ⟨_, _, _, hv⟩
    · exact ⟨_, _, _, hv⟩
  have HB2 := Lib.hid hb2
  clear hb2
  go_wp2
  go_ret2
  refine ⟨rfl, ?_, ?_⟩
  · exact Lib.BuilderAt.put (T := 69) (e := 5) hB HB2.out (bs' := bs ++ Lib.strCells s) (by simpa [Lib.strCells_length] using hown') (by decide)
  · exact (hb1.grown hgrow (by have := hb1.size; omega) (fun k hk => (hown.lt k hk).1)).setCell (p := ⟨b, 1, none⟩) hB _
end Go.Proofs.YtbgjhgohffkonaaGreatDoor

/- The shortest digits of 100.0: the scaling. -/
namespace Go.Proofs.YtbgjhgohffkonaaGreatDoor
open Go.RowKit

/-- What the package-level tables hold that are looked at. -/
structure PG (w : World) : Prop where
  hi : w.cell? ⟨11, 724, none⟩ = some (.int .u64 13107200000000000000)
  lo : w.cell? ⟨11, 725, none⟩ = some (.int .u64 0)
  tab : Lib.TabIs Tryz.prog w "internal/strconv.uint64pow10" .u64 Lib.pow10Tab
set_option maxRecDepth 100000 in
theorem prescale_tx {w : World} {g : Nat} {x y z : Value} (hG : PG w) (hg : w.heap[g]? = some (.cells #[x, y, z] 196 (0, 0))) :
    Calls Tryz.prog 132 #[.pointer (some ⟨g, 0, none⟩), .int .i64 (-57), .int .i64 14, .int .i64 46] w fun e w' =>
      e = .returned (.tuple #[]) ∧ w' = ((w.setCell ⟨g, 0, none⟩ (.int .u64 13107200000000000000)).setCell ⟨g, 1, none⟩ (.int .u64 0)).setCell ⟨g, 2, none⟩ (.int .i64 8) := by
  have p0 := hG.hi
  have p1 := hG.lo
  have c0 := block_cell hg (i := 0) rfl
  have c1 := block_cell hg (i := 1) rfl
  have c2 := block_cell hg (i := 2) rfl
  have f0 := block_free (i := 0) hg
  have f1 := block_free (i := 1) hg
  have f2 := block_free (i := 2) hg
  go_enter Tryz.func132, Tryz.ntmps132
  go_wp2_with fail
  refine bodyPost_end (results_none rfl _ _ _) rfl ?_
  exact ⟨rfl, rfl⟩
set_option maxRecDepth 100000 in
theorem uscale_min {w : World} {g : Nat} (hg : w.heap[g]? = some (.cells #[.int .u64 13107200000000000000, .int .u64 0, .int .i64 8] 196 (0, 0))) :
    Calls Tryz.prog 134 #[.int .u64 14411518807585586176, .pointer (some ⟨g, 0, none⟩)] w fun e w' => e = .returned (.int .u64 39999999999999997) ∧ w = w' := by
  have c0 := block_cell hg (i := 0) rfl
  have c1 := block_cell hg (i := 1) rfl
  have c2 := block_cell hg (i := 2) rfl
  have HM := Lib.hid (fun W => (Tryz.bits_Mul64 14411518807585586176 13107200000000000000 (by decide) (by decide) W).mono (R' := fun e w' => e = .returned (.tuple #[.int .u64 10239999999999999272, .int .u64 7456885660553576448]) ∧ W = w') fun e w' h => ⟨h.1.trans (by kernel_rfl), h.2.symm⟩)
  have hb : bits .and .i64 8 63 = 8 := by kernel_rfl
  have h1 : ∀ W, Sem.run Tryz.prog (Op.shift .shr .u64 10239999999999999272 .i64 8) W = .ok (.int .u64 39999999999999997) W := fun W => by kernel_rfl
  have h2 : ∀ W, Sem.run Tryz.prog (Op.shift .shl .u64 39999999999999997 .i64 8) W = .ok (.int .u64 10239999999999999232) W := fun W => by kernel_rfl
  have h3 : bits .or .u64 39999999999999997 1 = 39999999999999997 := by kernel_rfl
  go_enter Tryz.func134, Tryz.ntmps134
  go_wp2_with fail
  refine (HM.out _).mono ?_
  rintro e w2 ⟨rfl, rfl⟩
  go_wp2_with fail
  go_ret
  exact ⟨rfl, rfl⟩
set_option maxRecDepth 100000 in
theorem uscale_max {w : World} {g : Nat} (hg : w.heap[g]? = some (.cells #[.int .u64 13107200000000000000, .int .u64 0, .int .i64 8] 196 (0, 0))) :
    Calls Tryz.prog 134 #[.int .u64 14411518807585588224, .pointer (some ⟨g, 0, none⟩)] w fun e w' => e = .returned (.int .u64 40000000000000003) ∧ w = w' := by
  have c0 := block_cell hg (i := 0) rfl
  have c1 := block_cell hg (i := 1) rfl
  have c2 := block_cell hg (i := 2) rfl
  have HM := Lib.hid (fun W => (Tryz.bits_Mul64 14411518807585588224 13107200000000000000 (by decide) (by decide) W).mono (R' := fun e w' => e = .returned (.tuple #[.int .u64 10240000000000000727, .int .u64 10989858413155975168]) ∧ W = w') fun e w' h => ⟨h.1.trans (by kernel_rfl), h.2.symm⟩)
  have hb : bits .and .i64 8 63 = 8 := by kernel_rfl
  have h1 : ∀ W, Sem.run Tryz.prog (Op.shift .shr .u64 10240000000000000727 .i64 8) W = .ok (.int .u64 40000000000000002) W := fun W => by kernel_rfl
  have h2 : ∀ W, Sem.run Tryz.prog (Op.shift .shl .u64 40000000000000002 .i64 8) W = .ok (.int .u64 10240000000000000512) W := fun W => by kernel_rfl
  have h3 : bits .or .u64 40000000000000002 1 = 40000000000000003 := by kernel_rfl
  go_enter Tryz.func134, Tryz.ntmps134
  go_wp2_with fail
  refine (HM.out _).mono ?_
  rintro e w2 ⟨rfl, rfl⟩
  go_wp2_with fail
  go_ret
  exact ⟨rfl, rfl⟩
end Go.Proofs.YtbgjhgohffkonaaGreatDoor

/- The shortest digits of 100.0. -/
namespace Go.Proofs.YtbgjhgohffkonaaGreatDoor
open Go.RowKit

theorem log10_tx (w : World) : Calls Tryz.prog 88 #[.int .i64 (-46)] w fun e w' => e = .returned (.int .i64 (-14)) ∧ w = w' := by
  have h1 : ∀ W, Sem.run Tryz.prog (Op.shift .shr .i64 (-3629998) .u64 18) W = .ok (.int .i64 (-14)) W := fun W => by kernel_rfl
  go_enter Tryz.func88, Tryz.ntmps88
  go_wp2_with fail
  go_ret
  exact ⟨rfl, rfl⟩
theorem log2_tx (w : World) : Calls Tryz.prog 133 #[.int .i64 14] w fun e w' => e = .returned (.int .i64 46) ∧ w = w' := by
  have h1 : ∀ W, Sem.run Tryz.prog (Op.shift .shr .i64 1523942 .u64 15) W = .ok (.int .i64 46) W := fun W => by kernel_rfl
  go_enter Tryz.func133, Tryz.ntmps133
  go_wp2_with fail
  go_ret
  exact ⟨rfl, rfl⟩
theorem nudge_tx (x : Int) (h0 : 0 ≤ x) (h1 : x < 18446744073709551616) (w : World) : Calls Tryz.prog 135 #[.int .u64 x, .int .i64 0] w fun e w' => e = .returned (.int .u64 x) ∧ w = w' := by
  have hw : IntKind.u64.wrap x = x := by rw [IntKind.wrap_u64]; omega
  go_enter Tryz.func135, Tryz.ntmps135
  go_wp2_with fail
  go_ret
  exact ⟨rfl, rfl⟩
theorem ceil_tx (w : World) : Calls Tryz.prog 136 #[.int .u64 39999999999999997] w fun e w' => e = .returned (.int .u64 10000000000000000) ∧ w = w' := by
  have h1 : ∀ W, Sem.run Tryz.prog (Op.shift .shr .u64 40000000000000000 .u64 2) W = .ok (.int .u64 10000000000000000) W := fun W => by kernel_rfl
  go_enter Tryz.func136, Tryz.ntmps136
  go_wp2_with fail
  go_ret
  exact ⟨rfl, rfl⟩
theorem floor_tx (w : World) : Calls Tryz.prog 137 #[.int .u64 40000000000000003] w fun e w' => e = .returned (.int .u64 10000000000000000) ∧ w = w' := by
  have h1 : ∀ W, Sem.run Tryz.prog (Op.shift .shr .u64 40000000000000003 .u64 2) W = .ok (.int .u64 10000000000000000) W := fun W => by kernel_rfl
  go_enter Tryz.func137, Tryz.ntmps137
  go_wp2_with fail
  go_ret
  exact ⟨rfl, rfl⟩
theorem PG.below {w w' : World} (h : PG w) (hb : Below w.heap.size w w') : PG w' :=
  ⟨cell_keeps hb h.hi, cell_keeps hb h.lo, Go.Joins.tab_stays (g := 7) (by kernel_rfl) h.tab hb (Nat.le_refl _)⟩
set_option maxHeartbeats 1000000 in
set_option maxRecDepth 100000 in
theorem short_tx {w : World} (hG : PG w) : Calls Tryz.prog 93 #[.int .u64 14411518807585587200, .int .i64 (-57)] w fun e w' => e = .returned (.tuple #[.int .u64 1000000000000000, .int .i64 (-13)]) ∧ Below w.heap.size w w' := by
  have h1 : ∀ W, Sem.run Tryz.prog (Op.shift .shl .u64 1 .i64 10) W = .ok (.int .u64 1024) W := fun W => by kernel_rfl
  have h2 : ∀ W, Sem.run Tryz.prog (Op.shift .shr .u64 14411518807585587200 .i64 11) W = .ok (.int .u64 7036874417766400) W := fun W => by kernel_rfl
  have h3 : bits .and .i64 7036874417766400 1 = 0 := by kernel_rfl
  have hb0 : Below w.heap.size w (w.alloc (.cells #[.int .u64 0, .int .u64 0, .int .i64 0] 196 (0, 0))) := (Below.refl _ w).alloc (Nat.le_refl _) _
  have hg0 : (w.alloc (.cells #[.int .u64 0, .int .u64 0, .int .i64 0] 196 (0, 0))).heap[w.heap.size]? = _ := block_new w (.cells #[.int .u64 0, .int .u64 0, .int .i64 0] 196 (0, 0)) rfl
  have hG0 := hG.below hb0
  go_enter Tryz.func93, Tryz.ntmps93
  go_wp2_with fail
  refine (log10_tx _).mono ?_
  rintro e w1 ⟨rfl, rfl⟩
  go_wp2_with fail
  refine (log2_tx _).mono ?_
  rintro e w1 ⟨rfl, rfl⟩
  go_wp2_with fail
  refine (prescale_tx hG0 hg0).mono ?_
  rintro e w1 ⟨rfl, hw1⟩
  have hg1 : w1.heap[w.heap.size]? = some (.cells #[.int .u64 13107200000000000000, .int .u64 0, .int .i64 8] 196 (0, 0)) := by
    rw [hw1]
    exact block_set (i := 2) (block_set (i := 1) (block_set (i := 0) hg0 _) _) _
  have hB : Below w.heap.size w w1 := by
    rw [hw1]
    (repeat' (first | (with_reducible exact Below.refl _ _) | (with_reducible assumption) | (with_reducible refine below_drewN ?_ _) | (with_reducible refine Below.drew ?_) | (with_reducible refine Below.alloc ?_ ?_ _) | (with_reducible refine Below.setCell ?_ ?_ _) | omega | (simp; done) | (simp; omega)))
  clear hw1 hG0 hg0 hb0
  go_wp2_with fail
  refine (uscale_min hg1).mono ?_
  rintro e w2 ⟨rfl, rfl⟩
  go_wp2_with fail
  refine (nudge_tx _ (by decide) (by decide) _).mono ?_
  rintro e w2 ⟨rfl, rfl⟩
  go_wp2_with fail
  refine (ceil_tx _).mono ?_
  rintro e w2 ⟨rfl, rfl⟩
  go_wp2_with fail
  refine (uscale_max hg1).mono ?_
  rintro e w2 ⟨rfl, rfl⟩
  go_wp2_with fail
  refine (nudge_tx _ (by decide) (by decide) _).mono ?_
  rintro e w2 ⟨rfl, rfl⟩
  go_wp2_with fail
  refine (floor_tx _).mono ?_
  rintro e w2 ⟨rfl, rfl⟩
  go_wp2_with fail
  go_ret2
  exact ⟨rfl, hB⟩
end Go.Proofs.YtbgjhgohffkonaaGreatDoor

/- The digits of 10^15, and how many of them are no noughts at the end. -/
namespace Go.Proofs.YtbgjhgohffkonaaGreatDoor
open Go.RowKit Go.Sort

def z16 : Array UInt8 := #[0, 0, 0, 0, 0, 0, 0, 0, 0, 0, 0, 0, 0, 0, 0, 0]
theorem base10_tx {w : World} {g cap : Nat} (hH : Holds (fun (b : UInt8) => Value.int .u8 (b.toNat : Int)) w g 0 z16) :
    Calls Tryz.prog 72 #[.slice (some ⟨g, 0, none⟩) 16 cap, .int .u64 1000000000000000] w fun e w' =>
      e = .returned (.tuple #[]) ∧ (w'.cell? ⟨g, 0, none⟩ = some (.int .u8 49) ∧ ∀ t, 1 ≤ t → t < 16 → w'.cell? ⟨g, t, none⟩ = some (.int .u8 48)) ∧ Below g w w' := by
  refine (Tryz.internal_strconv_formatBase10 g 0 cap 1000000000000000 z16 w hH (by decide) (by decide) (by decide)).mono ?_
  rintro e w' ⟨rfl, n, v', dk, rfl, hf⟩
  have hs : dk.size = 16 := hf.size
  have hc : ∀ t, t < 16 → ((putRow (fun (b : UInt8) => Value.int .u8 (b.toNat : Int)) w g 0 dk).drewN n).cell? ⟨g, t, none⟩ = some (.int .u8 ((Lib.dg 1000000000000000 (15 - t)).toNat : Int)) := fun t ht => by
    have h1 := cell?_putRow (fun (b : UInt8) => Value.int .u8 (b.toNat : Int)) w g 0 z16 dk hH (by rw [hs]; rfl) t (by omega)
    rw [Nat.zero_add] at h1
    have h2 : dk[t]! = Lib.dg 1000000000000000 (15 - t) := hf.done t (Nat.zero_le _) ht
    rw [h2] at h1
    exact h1
  refine ⟨rfl, ⟨?_, ?_⟩, ?_⟩
  · rw [hc 0 (by decide)]
    rfl
  · intro t h1 h2
    rw [hc t h2]
    have : Lib.dg 1000000000000000 (15 - t) = 48 := by
      have hall : ((List.range 15).all fun k => Lib.dg 1000000000000000 k == 48) = true := by decide +kernel
      have := List.all_eq_true.1 hall (15 - t) (List.mem_range.2 (by omega))
      simpa using this
    rw [this]
    rfl
  · exact below_drewN (Lib.below_putRow (q := 0) (Below.refl _ _) (Nat.le_refl _)) n
set_option maxHeartbeats 1000000 in
set_option maxRecDepth 100000 in
theorem digits_tx {w : World} {g : Nat} (hH : Holds (fun (b : UInt8) => Value.int .u8 (b.toNat : Int)) w g 0 z16) :
    Calls Tryz.prog 87 #[.slice (some ⟨g, 0, none⟩) 32 32, .int .u64 1000000000000000, .int .i64 (-13), .int .i64 16] w fun e w' =>
      e = .returned (.tuple #[.int .i64 3, .int .i64 1]) ∧ w'.cell? ⟨g, 0, none⟩ = some (.int .u8 49) ∧ Below g w w' := by
  go_enter Tryz.func87, Tryz.ntmps87
  go_wp2_with fail
  refine (base10_tx hH).mono ?_
  rintro e w2 ⟨rfl, ⟨q0, hq⟩, hb⟩
  have q1 := hq 1 (by decide) (by decide)
  have q2 := hq 2 (by decide) (by decide)
  have q3 := hq 3 (by decide) (by decide)
  have q4 := hq 4 (by decide) (by decide)
  have q5 := hq 5 (by decide) (by decide)
  have q6 := hq 6 (by decide) (by decide)
  have q7 := hq 7 (by decide) (by decide)
  have q8 := hq 8 (by decide) (by decide)
  have q9 := hq 9 (by decide) (by decide)
  have q10 := hq 10 (by decide) (by decide)
  have q11 := hq 11 (by decide) (by decide)
  have q12 := hq 12 (by decide) (by decide)
  have q13 := hq 13 (by decide) (by decide)
  have q14 := hq 14 (by decide) (by decide)
  have q15 := hq 15 (by decide) (by decide)
  clear hq
  go_wp2_with fail
  refine wp_loop_rounds 16 ?_
  rw [rounds_succ]
  go_wp2_with fail
  rw [rounds_succ]
  go_wp2_with fail
  rw [rounds_succ]
  go_wp2_with fail
  rw [rounds_succ]
  go_wp2_with fail
  rw [rounds_succ]
  go_wp2_with fail
  rw [rounds_succ]
  go_wp2_with fail
  rw [rounds_succ]
  go_wp2_with fail
  rw [rounds_succ]
  go_wp2_with fail
  rw [rounds_succ]
  go_wp2_with fail
  rw [rounds_succ]
  go_wp2_with fail
  rw [rounds_succ]
  go_wp2_with fail
  rw [rounds_succ]
  go_wp2_with fail
  rw [rounds_succ]
  go_wp2_with fail
  rw [rounds_succ]
  go_wp2_with fail
  rw [rounds_succ]
  go_wp2_with fail
  rw [rounds_succ]
  go_wp2_with fail
  go_ret2
  exact ⟨rfl, q0, hb⟩
end Go.Proofs.YtbgjhgohffkonaaGreatDoor

/- 100.0 as it is written: the three digits. -/
namespace Go.Proofs.YtbgjhgohffkonaaGreatDoor
open Go.RowKit

set_option maxHeartbeats 2000000 in
set_option maxRecDepth 100000 in
theorem efg_tx {w : World} {base g0 g : Nat} (hbase : base ≤ w.heap.size) (own0 : w.ownsRow base 5 1 (.slice (some ⟨g0, 0, none⟩) 0 24) 0 (Lib.byteCells [])) (q0 : w.cell? ⟨g, 0, none⟩ = some (.int .u8 49)) :
    Calls Tryz.prog 84 #[.slice (some ⟨g0, 0, none⟩) 0 24, .bool false, .slice (some ⟨g, 0, none⟩) 32 32, .int .i64 3, .int .i64 1, .int .i64 0, .int .u8 102, .bool true] w fun e w' =>
      ∃ v, e = .returned v ∧ w'.ownsRow base 5 1 v 3 (Lib.byteCells [49, 48, 48]) ∧ Below base w w' := by
  obtain ⟨i0, hi, hz0, hz1, hz2⟩ := info_parts infoB1
  have hB0 : Below base w w := Below.refl _ _
  go_enter Tryz.func84, Tryz.ntmps84
  go_wp2_with fail
  refine wp_loop_rounds 2 ?_
  rw [rounds_succ]
  go_wp2_with (at_builtin; refine wpList_append_own _ rfl _ _ 67 rfl base 5 i0 (.int .u8 0) 1 1 Tryz.underlying67 hi hz0 hz1 hz2 rfl (by decide) _ _ _ rfl (own0.alloc _) ⟨_, 0, none⟩ 1 1 [.int .u8 49] rfl rfl ?a1 ?b1 ?c1 ?d1 ?e1 ?_)
  case a1 =>
    intro j u hj
    match j, hj with
    | 0, hj => simp at hj; subst hj; simp [Addr.add]
  case b1 => intro u hu; simp at hu; subst hu; rfl
  case c1 => unfold maxLen; omega
  case d1 => omega
  case e1 => have := hB0.size; simp; omega
  intro v1 w1 own1 grow1 _
  have hB1 : Below base w w1 := (hB0.alloc (by have := hB0.size; omega) _).grown grow1 (by have := hB0.size; simp; omega) (fun j hj => (own0.lt j hj).1)
  obtain ⟨va1, vc1, rfl⟩ := own_shape own1
  go_wp2_with fail
  rw [rounds_succ]
  go_wp2_with fail
  refine wp_loop_rounds 3 ?_
  rw [rounds_succ]
  go_wp2_with (at_builtin; refine wpList_append_own _ rfl _ _ 67 rfl base 5 i0 (.int .u8 0) 1 1 Tryz.underlying67 hi hz0 hz1 hz2 rfl (by decide) _ _ _ rfl (own1.alloc _) ⟨_, 0, none⟩ 1 1 [.int .u8 48] rfl rfl ?a2 ?b2 ?c2 ?d2 ?e2 ?_)
  case a2 =>
    intro j u hj
    match j, hj with
    | 0, hj => simp at hj; subst hj; simp [Addr.add]
  case b2 => intro u hu; simp at hu; subst hu; rfl
  case c2 => unfold maxLen; omega
  case d2 => omega
  case e2 => have := hB1.size; simp; omega
  intro v2 w2 own2 grow2 _
  have hB2 : Below base w w2 := (hB1.alloc (by have := hB1.size; omega) _).grown grow2 (by have := hB1.size; simp; omega) (fun j hj => (own1.lt j hj).1)
  obtain ⟨va2, vc2, rfl⟩ := own_shape own2
  go_wp2_with fail
  rw [rounds_succ]
  go_wp2_with (at_builtin; refine wpList_append_own _ rfl _ _ 67 rfl base 5 i0 (.int .u8 0) 1 1 Tryz.underlying67 hi hz0 hz1 hz2 rfl (by decide) _ _ _ rfl (own2.alloc _) ⟨_, 0, none⟩ 1 1 [.int .u8 48] rfl rfl ?a3 ?b3 ?c3 ?d3 ?e3 ?_)
  case a3 =>
    intro j u hj
    match j, hj with
    | 0, hj => simp at hj; subst hj; simp [Addr.add]
  case b3 => intro u hu; simp at hu; subst hu; rfl
  case c3 => unfold maxLen; omega
  case d3 => omega
  case e3 => have := hB2.size; simp; omega
  intro v3 w3 own3 grow3 _
  have hB3 : Below base w w3 := (hB2.alloc (by have := hB2.size; omega) _).grown grow3 (by have := hB2.size; simp; omega) (fun j hj => (own2.lt j hj).1)
  obtain ⟨va3, vc3, rfl⟩ := own_shape own3
  go_wp2_with fail
  rw [rounds_succ]
  go_wp2_with fail
  go_ret
  exact ⟨_, rfl, own3, hB3⟩
end Go.Proofs.YtbgjhgohffkonaaGreatDoor

/- strings.Builder's WriteString at this program: the walk of the library's text. -/
namespace Go.Proofs.YtbgjhgohffkonaaGreatDoor
open Go.RowKit Go.Shelf

end Go.Proofs.YtbgjhgohffkonaaGreatDoor

