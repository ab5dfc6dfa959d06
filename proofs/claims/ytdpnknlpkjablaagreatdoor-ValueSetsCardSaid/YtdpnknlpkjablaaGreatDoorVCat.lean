/- Lists put one behind the other: slices.Grow, Concat; value.bounded. -/
import Derived.Test.YtdpnknlpkjablaaGreatDoorVOwn
import Derived.Test.YtdpnknlpkjablaaGreatDoorRows3
import Derived.Lib.AppendZeros
namespace Go.Proofs.YtdpnknlpkjablaaGreatDoor
open Go.RowKit
attribute [local go_sem] store_flt

theorem index_cat {g : Nat} {W : World} (h : Six g W) : Calls Tryz.prog 49 #[.slice (some ⟨g, 0, none⟩) 6 6, .string ⟨#[43, 43]⟩] W fun e w' => e = .returned (.int .i64 4) ∧ W = w' := by
  have q0 := h.c0
  have q1 := h.c1
  have q2 := h.c2
  have q3 := h.c3
  have q4 := h.c4
  go_enter Tryz.func49, Tryz.ntmps49
  go_wp2_with fail
  refine wp_loop_rounds 5 ?_
  rw [rounds_succ]
  go_wp2_with fail
  rw [rounds_succ]
  go_wp2_with fail
  rw [rounds_succ]
  go_wp2_with fail
  rw [rounds_succ]
  go_wp2_with fail
  rw [rounds_succ]
  go_wp2_with fail
  go_ret
  exact ⟨rfl, rfl⟩
theorem contains_cat {g : Nat} {W : World} (h : Six g W) : Calls Tryz.prog 25 #[.slice (some ⟨g, 0, none⟩) 6 6, .string ⟨#[43, 43]⟩] W fun e w' => e = .returned (.bool true) ∧ W = w' := by
  go_enter Tryz.func25, Tryz.ntmps25
  go_wp2_with fail
  refine (index_cat h).mono ?_
  rintro e w2 ⟨rfl, rfl⟩
  go_wp2_with fail
  go_ret
  exact ⟨rfl, rfl⟩
theorem index_upd {g : Nat} {W : World} (h : Six g W) : Calls Tryz.prog 49 #[.slice (some ⟨g, 0, none⟩) 6 6, .string ⟨#[47, 47]⟩] W fun e w' => e = .returned (.int .i64 5) ∧ W = w' := by
  have q0 := h.c0
  have q1 := h.c1
  have q2 := h.c2
  have q3 := h.c3
  have q4 := h.c4
  have q5 := h.c5
  go_enter Tryz.func49, Tryz.ntmps49
  go_wp2_with fail
  refine wp_loop_rounds 6 ?_
  rw [rounds_succ]
  go_wp2_with fail
  rw [rounds_succ]
  go_wp2_with fail
  rw [rounds_succ]
  go_wp2_with fail
  rw [rounds_succ]
  go_wp2_with fail
  rw [rounds_succ]
  go_wp2_with fail
  rw [rounds_succ]
  go_wp2_with fail
  go_ret
  exact ⟨rfl, rfl⟩
theorem contains_upd {g : Nat} {W : World} (h : Six g W) : Calls Tryz.prog 25 #[.slice (some ⟨g, 0, none⟩) 6 6, .string ⟨#[47, 47]⟩] W fun e w' => e = .returned (.bool true) ∧ W = w' := by
  go_enter Tryz.func25, Tryz.ntmps25
  go_wp2_with fail
  refine (index_upd h).mono ?_
  rintro e w2 ⟨rfl, rfl⟩
  go_wp2_with fail
  go_ret
  exact ⟨rfl, rfl⟩
set_option maxHeartbeats 2000000 in
set_option maxRecDepth 100000 in
theorem grow_any (n : Nat) (hn : n ≤ 100000) (w : World) : Calls Tryz.prog 51 #[.slice none 0 0, .int .i64 (n : Int)] w fun e w' => ∃ v, e = .returned v ∧ w'.ownsRow w.heap.size 27 6 v 0 [] ∧ Below w.heap.size w w' := by
  by_cases h0 : n = 0
  · subst h0
    go_enter Tryz.func51, Tryz.ntmps51
    go_wp2_with fail
    go_ret
    exact ⟨_, rfl, World.ownsRow_nil _ _ _ _, Below.refl _ _⟩
  · obtain ⟨i0, hi, hz0, hz1, hz2⟩ := info_parts infoV
    have hzr := fun ty => Lib.run_append_nil_zeros (P := Tryz.prog) w 25 3 ty 27 i0 _ .i64 .i64 Tryz.underlying25 Tryz.underlying3 hi hz0 n (by omega) (by omega) (by omega) (by rw [hz2]; omega)
    have hge := grownCap_ge w n 0 27
    have hle := grownCap_le_maxLen w n 0 27 (by unfold maxLen; omega)
    generalize grownCap w n 0 27 = c at *
    have HZR := Lib.hid hzr
    clear hzr
    have hpos : (0 : Int) < (n : Int) := by omega
    go_enter Tryz.func51, Tryz.ntmps51
    go_wp2_with (at_builtin; refine Lib.wpList_append_run _ rfl _ _ _ _ rfl _ _ rfl rfl _ _ (HZR.out _) ?_)
    go_ret
    refine ⟨_, rfl, ⟨rfl, Or.inr ⟨w.heap.size, c, _, rfl, Nat.le_refl _, block_new _ _ rfl, Nat.zero_le _, hle, ?_, by simp⟩⟩, (by (repeat' (first | (with_reducible exact Below.refl _ _) | (with_reducible assumption) | (with_reducible refine below_drewN ?_ _) | (with_reducible refine Below.drew ?_) | (with_reducible refine Below.alloc ?_ ?_ _) | (with_reducible refine Below.setCell ?_ ?_ _) | omega | (simp; done) | (simp; omega))))⟩
    simp [size_zeroCells]
    omega
/-- The parts of what is put together. -/
def partsV (xs ys : List V) : Nat → List V | 0 => [] | 1 => xs | _ => xs ++ ys
set_option maxHeartbeats 4000000 in
set_option maxRecDepth 100000 in
theorem concat_any {d : Nat} {f1 f2 : Value} {xs ys : List V} {w : World} {g c : Nat} (h0 : w.cell? ⟨g, 0, none⟩ = some f1) (h1 : w.cell? ⟨g, 1, none⟩ = some f2) (w0 : World) (hb0 : Below w0.heap.size w0 w) (hx : VLs d w0 f1 xs) (hy : VLs d w0 f2 ys) (hl : xs.length ≤ 1000) (hl2 : ys.length ≤ 1000) :
    Calls Tryz.prog 28 #[.slice (some ⟨g, 0, none⟩) 2 c] w fun e w' => ∃ v cs, e = .returned v ∧ w'.ownsRow w.heap.size 27 6 v (xs ++ ys).length cs ∧ VFlat d w0 cs (xs ++ ys) ∧ Below w.heap.size w w' := by
  have hx0 := hx
  have hy0 := hy
  obtain ⟨a1, c1, rfl, _, _, _⟩ := hx0
  obtain ⟨a2, c2, rfl, _, _, _⟩ := hy0
  have HX := Lib.hid hx
  have HY := Lib.hid hy
  clear hx hy
  generalize hn1 : xs.length = n1 at *
  generalize hn2 : ys.length = n2 at *
  have HN1 := Lib.hid hn1
  have HN2 := Lib.hid hn2
  clear hn1 hn2
  go_enter Tryz.func28, Tryz.ntmps28
  go_wp2_with fail
  go_loopw [3, 11] (fun s i wr => ∃ (k q : Nat), k ≤ 2 ∧ i = .int .i64 (k : Int) ∧ s = .int .i64 (q : Int) ∧ q ≤ 1000 * k ∧ (k = 2 → q = n1 + n2) ∧ (k = 1 → q = n1) ∧ w = wr) (fun _ i _ => 2 - (intOf i).toNat)
  case atStart => exact ⟨0, 0, by omega, rfl, rfl, by omega, by omega, by omega, rfl⟩
  case round =>
    obtain ⟨k, q, hk, rfl, rfl, hq, hq2, hq1, rfl⟩ := hrel
    rcases (by omega : k = 0 ∨ k = 1 ∨ k = 2) with rfl | rfl | rfl
    · obtain rfl : q = 0 := by omega
      go_wp2_with fail
      go_roundw
      case rel => exact ⟨1, n1, by omega, by go_num, by go_num, by omega, by omega, by omega, trivial⟩
      case measure => simp [intOf]
    · obtain rfl : q = n1 := hq1 rfl
      go_wp2_with fail
      go_roundw
      case rel => exact ⟨2, q + n2, by omega, by go_num, by go_num, by omega, by omega, by omega, trivial⟩
      case measure => simp [intOf]
    · obtain rfl : q = n1 + n2 := hq2 rfl
      clear hq1 hq2
      go_wp2_with fail
      refine (grow_any (n1 + n2) (by omega) w).mono ?_
      rintro e w1 ⟨v, rfl, hown, hb1⟩
      have c0 := cell_keeps hb1 h0
      have c1' := cell_keeps hb1 h1
      have hg : g < w.heap.size := World.block_lt_of_cell? w _ h0
      go_wp2_with fail
      go_loopw [6, 27] (fun s i wr => ∃ (k : Nat) (cs : List Value), k ≤ 2 ∧ i = .int .i64 (k : Int) ∧ wr.ownsRow w.heap.size 27 6 s (partsV xs ys k).length cs ∧ VFlat d w0 cs (partsV xs ys k) ∧ Below w.heap.size w wr) (fun _ i _ => 2 - (intOf i).toNat)
      case atStart => exact ⟨0, [], by omega, rfl, hown, VFlat.nil _ _, hb1⟩
      case round =>
        clear hown hb1 c0 c1'
        obtain ⟨k, cs, hk, rfl, hown, hf, hb⟩ := hrel
        have c0 := cell_keeps hb h0
        have c1' := cell_keeps hb h1
        rcases (by omega : k = 0 ∨ k = 1 ∨ k = 2) with rfl | rfl | rfl
        · go_wp2_with (at_builtin
                       refine append_vals rfl _ _ rfl w.heap.size _ _ cs rfl hown d _ xs rfl w0 (hb0.next hb) HX.out (by simp [partsV]; have := HN1.out; omega) hb.size ?_
                       intro v2 w2 ns hown2 hf2 hg2 hl2)
          go_roundw
          case rel =>
            exact ⟨1, cs ++ ns, by omega, by go_num, by simpa [partsV] using hown2, by simpa [partsV] using hf.append hf2, hb.grown hg2 hb.size (fun j hj => (World.ownsRow.lt hown j hj).1)⟩
          case measure => simp [intOf]
        · go_wp2_with (at_builtin
                       refine append_vals rfl _ _ rfl w.heap.size _ _ cs rfl hown d _ ys rfl w0 (hb0.next hb) HY.out (by simp [partsV]; have := HN1.out; have := HN2.out; omega) hb.size ?_
                       intro v2 w2 ns hown2 hf2 hg2 hl2)
          go_roundw
          case rel =>
            exact ⟨2, cs ++ ns, by omega, by go_num, by simpa [partsV] using hown2, by simpa [partsV] using hf.append hf2, hb.grown hg2 hb.size (fun j hj => (World.ownsRow.lt hown j hj).1)⟩
          case measure => simp [intOf]
        · have hown' : wr.ownsRow w.heap.size 27 6 _ (xs ++ ys).length cs := hown
          have HO := Lib.hid hown'
          have HF := Lib.hid hf
          clear hown hown' hf
          go_wp2_with fail
          go_ret
          exact ⟨_, cs, rfl, HO.out, HF.out, hb⟩
end Go.Proofs.YtdpnknlpkjablaaGreatDoor
