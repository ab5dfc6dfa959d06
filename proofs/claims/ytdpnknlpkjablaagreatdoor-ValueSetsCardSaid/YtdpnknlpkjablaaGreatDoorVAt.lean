/- Where a name stands in a set. -/
import Derived.Test.YtdpnknlpkjablaaGreatDoorVSetsP
namespace Go.Proofs.YtdpnknlpkjablaaGreatDoor
open Go.RowKit
attribute [local go_sem] store_flt

set_option maxHeartbeats 2000000 in
set_option maxRecDepth 100000 in
theorem at_any {d : Nat} {v : V} {r f : Value} {w : World} (h : VI d w v r f) (s : ByteArray) : Calls Tryz.prog 14 #[.agg #[.int .i64 v.kind, .int .i64 v.int, .float .f64 v.flt, .string v.text, r, f], .string s] w fun e w' => e = .returned (.int .i64 (atP v s)) ∧ Below w.heap.size w w' := by
  have hn := h.names
  obtain ⟨ra, rc, fa, fc, rfl, rfl, _, _⟩ := h.shape
  obtain ⟨a', cap', he, hz, hm, hc⟩ := hn
  simp only [Value.slice.injEq] at he
  obtain ⟨rfl, -, rfl⟩ := he
  have HC := Lib.hid hc
  clear h hz hc
  unfold atP
  generalize v.items.length = l1 at *
  obtain ⟨P, hP⟩ : ∃ P, isB s = P := ⟨_, rfl⟩
  have HP := Lib.hid hP
  rw [hP]
  clear hP
  generalize hl : v.names.length = l at *
  have HL := Lib.hid hl
  clear hl
  generalize v.names = ns at *
  have hbx := block_new w (.cells #[.int .i64 v.kind, .int .i64 v.int, .float .f64 v.flt, .string v.text, .slice ra l rc, .slice fa l1 fc] 27 (0, 0)) rfl
  have hB : Below w.heap.size w (w.alloc (.cells #[.int .i64 v.kind, .int .i64 v.int, .float .f64 v.flt, .string v.text, .slice ra l rc, .slice fa l1 fc] 27 (0, 0))) := (by (repeat' (first | (with_reducible exact Below.refl _ _) | (with_reducible assumption) | (with_reducible refine below_drewN ?_ _) | (with_reducible refine Below.drew ?_) | (with_reducible refine Below.alloc ?_ ?_ _) | (with_reducible refine Below.setCell ?_ ?_ _) | omega | (simp; done) | (simp; omega))))
  go_enter Tryz.func14, Tryz.ntmps14
  go_wp2_with fail
  go_loopw [5] (fun i wr => ∃ k : Nat, k ≤ l ∧ i = .int .i64 (k : Int) ∧ wr.heap[w.heap.size]? = some (.cells #[.int .i64 v.kind, .int .i64 v.int, .float .f64 v.flt, .string v.text, .slice ra l rc, .slice fa l1 fc] 27 (0, 0)) ∧ Below w.heap.size w wr ∧ Hid (ToG P ns k)) (fun i _ => l - (intOf i).toNat)
  case atStart => exact ⟨0, Nat.zero_le _, rfl, hbx, hB, fun _ _ hj => absurd hj (Nat.not_lt_zero _)⟩
  case round =>
    clear hbx hB
    obtain ⟨k, hk, rfl, hbx, hb, hto⟩ := hrel
    have b4 := block_cell hbx (i := 4) rfl
    by_cases hlt : k < l
    · obtain ⟨x, hx⟩ := get_lt ns (k := k) (by have := HL.out; omega)
      obtain ⟨b, off, rfl, k1, k2, _⟩ := HC.out k x hx
      have k1 := cell_keeps hb k1
      have HX := Lib.hid hx
      clear hx
      cases hps : (x.toList == s.toList)
      · have HPS : Hid (P x = false) := by unfold Hid; rw [← HP.out]; exact hps
        go_wp2_with fail
        go_roundw
        case rel => exact ⟨k + 1, by omega, by go_num, hbx, hb, hto.out.step HX.out HPS.out⟩
        case measure => simp [intOf]; omega
      · have HPS : Hid (P x = true) := by unfold Hid; rw [← HP.out]; exact hps
        go_wp2_with fail
        go_ret
        exact ⟨ret_int (idxG_some HX.out HPS.out hto.out).symm, hb⟩
    · obtain rfl : k = l := by omega
      go_wp2_with fail
      go_ret
      exact ⟨ret_int (idxG_none (fun j x hx => hto.out j x (by have := (List.getElem?_eq_some_iff.1 hx).1; rw [HL.out] at this; exact this) hx)).symm, hb⟩
end Go.Proofs.YtdpnknlpkjablaaGreatDoor
