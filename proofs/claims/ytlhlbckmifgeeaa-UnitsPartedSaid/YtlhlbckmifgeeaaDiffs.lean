/- UnitsDiffs returns true for whatever two lists of units. -/
import Derived.Test.YtlhlbckmifgeeaaUDiff
import Derived.Test.YtlhlbckmifgeeaaRefDiff
import Derived.Test.YtlhlbckmifgeeaaOrdersP
import Derived.Test.YtlhlbckmifgeeaaOrders
namespace Go.Proofs.Ytlhlbckmifgeeaa
open Go.RowKit

set_option maxHeartbeats 400000 in
theorem names_any {v1 v2 : Value} {s1 s2 : List ByteArray} {w : World} (h1 : SL w v1 s1) (h2 : SL w v2 s2) :
    Calls Try.prog 17 #[v1, v2] w fun e w' => e = .returned (.bool (decide (s1 = s2))) ∧ Dr w w' := by
  obtain ⟨a1, cap1, rfl, _, hm1, hc1⟩ := h1
  obtain ⟨a2, cap2, rfl, _, hm2, hc2⟩ := h2
  generalize hn1 : s1.length = n1 at *
  generalize hn2 : s2.length = n2 at *
  have HN1 := Lib.hid hn1
  have HN2 := Lib.hid hn2
  have HC1 := Lib.hid hc1
  have HC2 := Lib.hid hc2
  clear hn1 hn2 hc1 hc2
  by_cases hne : n1 = n2
  · subst hne
    go_enter Try.func17, Try.ntmps17
    go_wp2
    go_loopw [5] (fun i wr => ∃ k m : Nat, k ≤ n1 ∧ i = .int .i64 k ∧ wr = w.drewN m ∧ Same1 s1 s2 k) (fun i _ => n1 - (intOf i).toNat)
    case atStart => exact ⟨0, 0, Nat.zero_le _, rfl, rfl, fun j hj => absurd hj (Nat.not_lt_zero _)⟩
    case round =>
      obtain ⟨k, m, hk, rfl, rfl, hsame⟩ := hrel
      by_cases hlt : k < n1
      · obtain ⟨x, hx⟩ := get_lt s1 (k := k) (by have := HN1.out; omega)
        obtain ⟨y, hy⟩ := get_lt s2 (k := k) (by have := HN2.out; omega)
        obtain ⟨b1, off1, rfl, hcell1, _, _⟩ := HC1.out k _ hx
        obtain ⟨b2, off2, rfl, hcell2, _, _⟩ := HC2.out k _ hy
        have HX := Lib.hid hx
        have HY := Lib.hid hy
        clear hx hy
        go_wp2
        go_quiet (fail)
        go_wp2
        · go_ret
          exact ⟨ret_bool (Same1.no HX.out HY.out ‹_›).symm, m + nq, by simp⟩
        · go_roundw
          case rel => exact ⟨k + 1, m + nq, by omega, by go_num, rfl, hsame.step HX.out HY.out ‹_›⟩
          case measure => simp [intOf]; omega
      · obtain rfl : k = n1 := by omega
        go_wp2
        go_ret
        exact ⟨ret_bool (hsame.yes HN1.out HN2.out).symm, Dr.mk _ _⟩
  · have hbb : ((n1 : Int) != (n2 : Int)) = true := by simp; omega
    go_enter Try.func17, Try.ntmps17
    go_wp2
    go_ret
    exact ⟨ret_bool (by rw [eq_comm, decide_eq_false_iff_not]; intro h; exact hne (by rw [← HN1.out, ← HN2.out, h])), Dr.refl _⟩

set_option maxHeartbeats 4000000 in
set_option maxRecDepth 100000 in
theorem diffs_law {v1 v2 : Value} {old fresh : List U} {w : World} (h1 : UL w v1 old) (h2 : UL w v2 fresh) :
    Calls Try.prog 6 #[v1, v2] w fun e w' => e = .returned (.bool true) ∧ Below w.heap.size w w' := by
  have hl1 := Lib.hid (show largeU old = decide (2000 < sizeU old) from rfl)
  have hl2 := Lib.hid (show largeU fresh = decide (2000 < sizeU fresh) from rfl)
  by_cases hbig1 : 2000 < sizeU old
  · have HL1 := Lib.hid (show largeU old = true by rw [hl1.out]; simpa using hbig1)
    go_enter Try.func6, Try.ntmps6
    go_wp2_with fail
    refine (shown_any w).mono ?_
    rintro e w1 ⟨rfl, hb1⟩
    go_wp2_with fail
    refine (large_any (h1.keeps hb1)).mono ?_
    rw [HL1.out]
    rintro e w2 ⟨rfl, m2, rfl⟩
    have hb2 : Below w.heap.size w (w1.drewN m2) := below_drewN hb1 _
    go_wp2_with fail
    refine (large_any (h2.keeps hb2)).mono ?_
    rintro e w3 ⟨rfl, m3, rfl⟩
    have hb3 := below_drewN hb1 (m2 + m3)
    go_wp2_with fail
    go_ret
    exact ⟨rfl, hb3⟩
  · have HL1 := Lib.hid (show largeU old = false by rw [hl1.out]; simpa using hbig1)
    have HS1 := Lib.hid (show sizeU old ≤ 2000 by omega)
    clear hbig1
    by_cases hbig2 : 2000 < sizeU fresh
    · have HL2 := Lib.hid (show largeU fresh = true by rw [hl2.out]; simpa using hbig2)
      go_enter Try.func6, Try.ntmps6
      go_wp2_with fail
      refine (shown_any w).mono ?_
      rintro e w1 ⟨rfl, hb1⟩
      go_wp2_with fail
      refine (large_any (h1.keeps hb1)).mono ?_
      rw [HL1.out]
      rintro e w2 ⟨rfl, m2, rfl⟩
      have hb2 : Below w.heap.size w (w1.drewN m2) := below_drewN hb1 _
      go_wp2_with fail
      refine (large_any (h2.keeps hb2)).mono ?_
      rw [HL2.out]
      rintro e w3 ⟨rfl, m3, rfl⟩
      have hb3 := below_drewN hb1 (m2 + m3)
      go_wp2_with fail
      go_ret
      exact ⟨rfl, hb3⟩
    · have HL2 := Lib.hid (show largeU fresh = false by rw [hl2.out]; simpa using hbig2)
      have HS2 := Lib.hid (show sizeU fresh ≤ 2000 by omega)
      clear hbig2
      go_enter Try.func6, Try.ntmps6
      go_wp2_with fail
      refine (shown_any w).mono ?_
      rintro e w1 ⟨rfl, hb1⟩
      go_wp2_with fail
      refine (large_any (h1.keeps hb1)).mono ?_
      rw [HL1.out]
      rintro e w2 ⟨rfl, m2, rfl⟩
      have hb2 : Below w.heap.size w (w1.drewN m2) := below_drewN hb1 _
      go_wp2_with fail
      refine (large_any (h2.keeps hb2)).mono ?_
      rw [HL2.out]
      rintro e w3 ⟨rfl, m3, rfl⟩
      have hb3 := below_drewN hb1 (m2 + m3)
      go_wp2_with fail
      refine (copied_law (h1.keeps hb3) HS1.out).mono ?_
      rintro e w4 ⟨ov, rfl, ho4, hb4⟩
      have hb4' := hb3.next hb4
      go_wp2_with fail
      refine (copied_law (h2.keeps hb4') HS2.out).mono ?_
      rintro e w5 ⟨pv, rfl, hp5, hb5⟩
      have hb5' := hb4'.next hb5
      have ho5 := ho4.keeps hb5
      go_wp2_with fail
      refine (unitsDiff_any ho5 hp5 HS1.out HS2.out).mono ?_
      rintro e w6 ⟨S, hM, hC, x1, x2, x3, rfl, hx1, hx2, hx3, hb6⟩
      have hb6' := hb5'.next hb6
      have ho6 := ho5.keeps hb6
      have hp6 := hp5.keeps hb6
      go_wp2_with fail
      refine (refDiff_any (h1.keeps hb6') (h2.keeps hb6') HS2.out).mono ?_
      rintro e w7 ⟨T, hM', hC', y1, y2, y3, rfl, hy1, hy2, hy3, hb7⟩
      obtain rfl := hM.unique hC hM' hC'
      clear hM hC hM' hC'
      have hb7' := hb6'.next hb7
      have ho7 := ho6.keeps hb7
      have hp7 := hp6.keeps hb7
      have hx1 := hx1.keeps hb7
      have hx2 := hx2.keeps hb7
      have hx3 := hx3.keeps hb7
      go_wp2_with fail
      refine (sameAll_any ho7 (h1.keeps hb7')).mono ?_
      rw [sameAllU_refl']
      rintro e w8 ⟨rfl, hb8⟩
      have hb8' := hb7'.next hb8
      go_wp2_with fail
      refine (sameAll_any (hp7.keeps hb8) (h2.keeps hb8')).mono ?_
      rw [sameAllU_refl']
      rintro e w9 ⟨rfl, hb9⟩
      have hb9' := hb8'.next hb9
      have hb79 := hb8.next hb9
      go_wp2_with fail
      refine (names_any (hx1.keeps hb79) (hy1.keeps hb79)).mono ?_
      rw [decide_eq_true rfl]
      rintro e w10 ⟨rfl, n10, rfl⟩
      have hb10 := below_drewN hb79 n10
      go_wp2_with fail
      refine (names_any (hx2.keeps hb10) (hy2.keeps hb10)).mono ?_
      rw [decide_eq_true rfl]
      rintro e w11 ⟨rfl, n11, rfl⟩
      have hb11 := below_drewN hb79 (n10 + n11)
      go_wp2_with fail
      refine (names_any (hx3.keeps hb11) (hy3.keeps hb11)).mono ?_
      rw [decide_eq_true rfl]
      rintro e w12 ⟨rfl, n12, rfl⟩
      have hb12 := below_drewN hb79 (n10 + n11 + n12)
      go_wp2_with fail
      go_ret
      exact ⟨rfl, hb7'.next hb12⟩
end Go.Proofs.Ytlhlbckmifgeeaa
