/- UnitsOrders returns true for whatever units. -/
import Derived.Test.YtlhlbckmifgeeaaOrdersP
namespace Go.Proofs.Ytlhlbckmifgeeaa
open Go.RowKit

theorem sameU_refl' (u : U) : sameU u u = true := by simp [sameU]
theorem sameAllU_refl' (us : List U) : sameAllU us us = true := by
  refine sameAll_yes (n := us.length) (fun j x y _ hx hy => ?_) rfl rfl
  rw [hx] at hy; cases hy; exact sameU_refl' _

set_option maxHeartbeats 1000000 in
set_option maxRecDepth 100000 in
theorem orders_law {v : Value} {us : List U} {w : World} (h1 : UL w v us) :
    Calls Try.prog 3 #[v] w fun e w' => e = .returned (.bool true) ∧ Below w.heap.size w w' := by
  have hlarge := Lib.hid (show largeU us = decide (2000 < sizeU us) from rfl)
  by_cases hbig : 2000 < sizeU us
  · have HL := Lib.hid (show largeU us = true by rw [hlarge.out]; simpa using hbig)
    go_enter Try.func3, Try.ntmps3
    go_wp2_with fail
    refine (shown_any w).mono ?_
    rintro e w1 ⟨rfl, hb1⟩
    go_wp2_with fail
    refine (large_any (h1.keeps hb1)).mono ?_
    rw [HL.out]
    rintro e w2 ⟨rfl, m2, rfl⟩
    go_wp2_with fail
    go_ret
    exact ⟨rfl, (by (repeat' (first | (with_reducible exact Below.refl _ _) | (with_reducible assumption) | (with_reducible refine below_drewN ?_ _) | (with_reducible refine Below.drew ?_) | (with_reducible refine Below.alloc ?_ ?_ _) | (with_reducible refine Below.setCell ?_ ?_ _) | omega | (simp; done) | (simp; omega))))⟩
  · have HL := Lib.hid (show largeU us = false by rw [hlarge.out]; simpa using hbig)
    have hsz : sizeU us ≤ 2000 := by omega
    have HS := Lib.hid hsz
    clear hbig hsz
    go_enter Try.func3, Try.ntmps3
    go_wp2_with fail
    refine (shown_any w).mono ?_
    rintro e w1 ⟨rfl, hb1⟩
    go_wp2_with fail
    refine (large_any (h1.keeps hb1)).mono ?_
    rw [HL.out]
    rintro e w2 ⟨rfl, m2, rfl⟩
    have hb2 : Below w.heap.size w (w1.drewN m2) := below_drewN hb1 _
    go_wp2_with fail
    refine (copied_law (h1.keeps hb2) HS.out).mono ?_
    rintro e w3 ⟨ov, rfl, ho3, hb3⟩
    have hb3' : Below w.heap.size w w3 := hb2.trans (hb3.mono hb2.size)
    go_wp2_with fail
    refine (refOrder_any (h1.keeps hb3') HS.out).mono ?_
    rintro e w4 hR
    generalize hO : orderU us = R at hR
    obtain ⟨xr, nr, er⟩ := R
    have HO := Lib.hid hO
    have hxl : xr.length ≤ 2000 := by
      have hspec := order_spec us
      rw [hO] at hspec
      have hln : us.length ≤ 2000 := by have := HS.out; unfold sizeU at this; omega
      rcases hspec with h | h
      · simp at h; rw [h.2]; simp
      · have := h.2.2.2.2.2.2; simp at this; omega
    clear hO
    obtain ⟨wv, rfl, hw4, hb4⟩ := hR
    have hb4' : Below w.heap.size w w4 := hb3'.trans (hb4.mono hb3'.size)
    have ho4 := ho3.keeps hb4
    have hne1 : (!nr.toList == nr.toList) = false := by simp
    have hne2 : (er != er) = false := by simp
    go_wp2_with fail
    go_loopw [9] (fun i wr => ∃ k : Nat, k ≤ 2 ∧ i = .int .i64 k ∧ Below w.heap.size w wr ∧ UL wr ov us ∧ UL wr wv xr) (fun i _ => 2 - (intOf i).toNat)
    case atStart => exact ⟨0, by omega, rfl, hb4', ho4, hw4⟩
    case round =>
      clear hb4' ho4 hw4
      obtain ⟨k, hk, rfl, hb5, ho5, hw5⟩ := hrel
      by_cases hlt : k < 2
      · obtain ⟨wo, hwo⟩ : ∃ wo, wo = wr := ⟨_, rfl⟩
        subst hwo
        go_wp2_with fail
        refine (order_any ho5 HS.out).mono ?_
        rw [HO.out]
        rintro e w6 ⟨xv, rfl, ⟨xs, hown, hflat⟩, hb6⟩
        have hux := (ULP.of_own hown hflat (show xr.length ≤ 1759218604390 by omega)).any
        have hx6 := XS.of_own hown hflat
        obtain ⟨xa, xc, rfl⟩ := own_shape hown
        clear hown hflat
        simp only at hux hx6
        go_wp2_with fail
        refine (sameAll_any hux (hw5.keeps hb6)).mono ?_
        rw [sameAllU_refl']
        rintro e w7 ⟨rfl, hb7⟩
        have hx7 := hx6.below hb7
        have hb7' : Below wo.heap.size wo w7 := hb6.trans (hb7.mono hb6.size)
        clear hux hx6
        go_wp2_with fail
        go_loopw [14] (fun i wq => ∃ k2 : Nat, k2 ≤ xr.length ∧ i = .int .i64 k2 ∧ Below wo.heap.size wo wq ∧ XS wq wo.heap.size xr.length (.slice xa xr.length xc)) (fun i _ => xr.length - (intOf i).toNat)
        case atStart => exact ⟨0, Nat.zero_le _, rfl, hb7', hx7⟩
        case round =>
          clear hb7' hx7
          obtain ⟨k2, hk2, rfl, hb8, hx8⟩ := hrel
          by_cases hlt2 : k2 < xr.length
          · rcases hx8 with ⟨h0, _⟩ | ⟨g, c, cur, hv, hg, hws⟩
            · omega
            · simp only [Value.slice.injEq, true_and] at hv
              obtain ⟨rfl, rfl⟩ := hv
              obtain ⟨s1, s2, r, rn, rc, f, fn, fc, q1, q2, q3, q4, l3, l4⟩ := hws.2 k2 hlt2
              have hrl := l3.1
              have hfl := l4.1
              have Q1 := Lib.hid q1
              have Q2 := Lib.hid q2
              have Q3 := Lib.hid q3
              have Q4 := Lib.hid q4
              have c2 := hws.cell q3
              clear q1 q2 q3 q4 l3 l4
              go_wp2_with fail
              go_loopw [15] (fun i wz => ∃ k3 : Nat, k3 ≤ rn ∧ i = .int .i64 k3 ∧ Below wo.heap.size wo wz ∧ WS wz wo.heap.size g cur xr.length) (fun i _ => rn - (intOf i).toNat)
              case atStart => exact ⟨0, Nat.zero_le _, rfl, hb8, hws⟩
              case round =>
                clear hb8 hws c2
                obtain ⟨k3, hk3, rfl, hb9, hws⟩ := hrel
                have c2 := hws.cell Q3.out
                by_cases hlt3 : k3 < rn
                · obtain ⟨b, off, s, rfl, hcell, hfz, hbase, hne⟩ := (hws.req hlt2 Q3.out).2 k3 hlt3
                  have hfr := hfz.free (i := off + k3)
                  go_wp2_with fail
                  go_roundw
                  case rel => exact ⟨k3 + 1, by omega, by go_num, hb9.setCell hbase _, hws.setStr _ _ _ hne⟩
                  case measure => simp [intOf]; omega
                · obtain rfl : k3 = rn := by omega
                  go_wp2_with fail
                  clear c2
                  have c3 := hws.cell Q4.out
                  go_loopw [16] (fun i wz => ∃ k3 : Nat, k3 ≤ fn ∧ i = .int .i64 k3 ∧ Below wo.heap.size wo wz ∧ WS wz wo.heap.size g cur xr.length) (fun i _ => fn - (intOf i).toNat)
                  case atStart => exact ⟨0, Nat.zero_le _, rfl, hb9, hws⟩
                  case round =>
                    clear hb9 hws c3
                    obtain ⟨k4, hk4, rfl, hb10, hws⟩ := hrel
                    have c3 := hws.cell Q4.out
                    by_cases hlt4 : k4 < fn
                    · obtain ⟨b, off, s, rfl, hcell, hfz, hbase, hne⟩ := (hws.aft hlt2 Q4.out).2 k4 hlt4
                      have hfr := hfz.free (i := off + k4)
                      go_wp2_with fail
                      go_roundw
                      case rel => exact ⟨k4 + 1, by omega, by go_num, hb10.setCell hbase _, hws.setStr _ _ _ hne⟩
                      case measure => simp [intOf]; omega
                    · obtain rfl : k4 = fn := by omega
                      have c2 := hws.cell Q3.out
                      have c0 := hws.cell Q1.out
                      have c1 := hws.cell Q2.out
                      have f0 := hws.free (k2 * 4)
                      have f1 := hws.free (k2 * 4 + 1)
                      have f2 := hws.free (k2 * 4 + 2)
                      have f3 := hws.free (k2 * 4 + 3)
                      go_wp2_with fail
                      go_roundw
                      case rel => exact ⟨k2 + 1, by omega, by go_num, (((hb10.setCell hg _).setCell hg _).setCell hg _).setCell hg _, Or.inr ⟨g, _, _, rfl, hg, (((hws.setRow _ _ (Or.inl ⟨⟨_, rfl⟩, by omega⟩)).setRow _ _ (Or.inl ⟨⟨_, rfl⟩, by omega⟩)).setRow _ _ (Or.inr ⟨rfl, by omega⟩)).setRow _ _ (Or.inr ⟨rfl, by omega⟩)⟩⟩
                      case measure => simp [intOf]; omega
          · obtain rfl : k2 = xr.length := by omega
            go_wp2_with fail
            go_roundw
            case rel => exact ⟨k + 1, by omega, by go_num, hb5.trans (hb8.mono hb5.size), ho5.keeps hb8, hw5.keeps hb8⟩
            case measure => simp [intOf]; omega
      · obtain rfl : k = 2 := by omega
        go_wp2_with fail
        refine (sameAll_any ho5 (h1.keeps hb5)).mono ?_
        rw [sameAllU_refl']
        rintro e w6 ⟨rfl, hb6⟩
        go_wp2_with fail
        go_ret
        exact ⟨rfl, hb5.trans (hb6.mono hb5.size)⟩
end Go.Proofs.Ytlhlbckmifgeeaa
