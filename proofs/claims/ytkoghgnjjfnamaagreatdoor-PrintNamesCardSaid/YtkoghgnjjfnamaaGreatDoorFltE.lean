/- FltE: what is used of them. -/
import Derived.Test.YtkoghgnjjfnamaaGreatDoorGo
import Derived.StillTailTactics
namespace Go.Proofs.YtkoghgnjjfnamaaGreatDoor
set_option maxRecDepth 100000
set_option maxHeartbeats 2000000
open Go.RowKit
theorem rfE_at {t : ByteArray} {r m : Nat} (h1 : r ≤ m) (h2 : m < t.size) : rfE t r (m + 1 - r) = if rfE t r (m - r) < 10000 then rfE t r (m - r) * 10 + (t[m].toNat - 48) else rfE t r (m - r) := by
 have := rfE_succ (t := t) (r := r) (k := m - r) (by omega); rw [show m - r + 1 = m + 1 - r by omega] at this; rw [this]; simp only [show r + (m - r) = m by omega]
theorem rfE_small {t : ByteArray} {r : Nat} (h : DigE t r) : ∀ m, r ≤ m → m ≤ t.size → rfE t r (m - r) ≤ 100000 := fun m h1 h2 =>
 rfE_le t r _ fun i hi1 hi2 => h.2 i hi1 (by omega)
theorem set_any {w : World} {g base : Nat} (h : DB w g D0) (hb : base ≤ g) {t : ByteArray} {p q r : Nat} {s : Int} (hS : Shp t p q) (hT : Tl t q r s) :
 Calls Tryz.prog 159 #[.pointer (some ⟨g, 0, none⟩), .string t] w fun e w' => e = .returned (.bool true) ∧ DB w' g (dsP t q r s) ∧ Below base w w' := by
 have hsz := hS.small; have hpos := hS.pos; have hlt := hS.lt; have hle := hS.le; obtain ⟨z0, z1, z2⟩ := hS.digit (i := 0) (by omega) (by omega); have n43 : ((t[0].toNat : Int) == 43) = false := by simp; omega
 have n45 : ((t[0].toNat : Int) == 45) = false := by simp; omega
 have hne : ¬ (t = ByteArray.empty) := by rintro rfl; exact absurd z0 (by decide)
 have f1 := h.free 802; have e1 := h.cell_neg; have e2 := h.cell_tr; have f2 := h.free 803; obtain ⟨S, hSt⟩ : ∃ S, dsP t q r s = S := ⟨_, rfl⟩; have HSt := Lib.hid hSt; rw [hSt]; have HS := Lib.hid hS; have HT := Lib.hid hT; have h0 : Hid (∀ w1 : World, w1 = (w.setCell ⟨g, 802, none⟩ (.bool false)).setCell ⟨g, 803, none⟩ (.bool false) → DB w1 g D0 ∧ Below base w w1) := Lib.hid fun w1 hw => by
  subst hw; exact ⟨(h.set_neg false).set_tr false, ((Below.refl _ _).setCell hb _).setCell hb _⟩
 clear hSt hS hT h; go_enter Tryz.func159, Tryz.ntmps159; go_upto_region 11 with fail
 refine with_world' fun w1 hw1 => ?_
 obtain ⟨hD0, hB0⟩ := h0.out w1 hw1; clear hw1 f1 f2 h0 n43 n45 e1 e2
 go_wp2_with fail; go_loopw [5, 6, 7] (fun i dt dgs wr => ∃ k : Nat, k ≤ q ∧ i = .int .i64 k ∧ dt = .bool (decide (p < k)) ∧ dgs = .bool (decide (0 < k)) ∧ DB wr g (dsAt t k) ∧ Below base w wr) (fun i _ _ _ => t.size - (intOf i).toNat)
 case atStart => exact ⟨0, by omega, rfl, by simp, by simp, hD0, hB0⟩
 case round =>
  clear hD0 hB0 w1; obtain ⟨k, hk, rfl, rfl, rfl, hD, hB⟩ := hrel; have c1 := hD.cell_nd; have c2 := hD.cell_dp; have ok := dsAt_ok HS.out k hk; have hnd := ok.nd_le; have hd1 := ok.dp_lo; have hd2 := ok.dp_hi; by_cases hkq : k < q
  · have hks : k < t.size := by omega
    have hs1 := dsAt_succ hks; by_cases hkp : k = p
    · obtain ⟨_, hc⟩ := HS.out.point
      subst hkp; have e46 : t[k] = 46 := hc; have f1 := hD.free 801; have HD := Lib.hid (show DB (wr.setCell ⟨g, 801, none⟩ (.int .i64 ((dsAt t k).nd : Nat))) g (dsAt t (k + 1)) by
       have := hD.set_dp ((dsAt t k).nd : Nat); rw [hs1, e46]; exact this)
      clear hD hs1 ok hd1 hd2
      go_wp2_with fail; go_roundw
      case rel => exact ⟨k + 1, by omega, by go_num, by simp, by simpa using hpos, HD.out, hB.setCell hb _⟩
      case measure => simp [intOf]; omega
    · obtain ⟨_, g1, g2⟩ := HS.out.digit hkq hkp
      have n95 : ((t[k].toNat : Int) == 95) = false := by simp; omega
      have n46 : ((t[k].toNat : Int) == 46) = false := by simp; omega
      have b1 : (48 : Int) ≤ (t[k].toNat : Int) := by omega
      have b2 : (t[k].toNat : Int) ≤ 57 := by omega
      have hdec : decide (p < k + 1) = decide (p < k) := by simp only [decide_eq_decide]; omega
      have HDEC := Lib.hid hdec; clear hdec; by_cases hz : t[k].toNat = 48 ∧ (dsAt t k).nd = 0
      · have f1 := hD.free 801
        have HD := Lib.hid (show DB (wr.setCell ⟨g, 801, none⟩ (.int .i64 ((dsAt t k).dp - 1))) g (dsAt t (k + 1)) by
         have := hD.set_dp ((dsAt t k).dp - 1); rw [hs1, dsStep_zero hz.1 hz.2]; exact this)
        have n48 : ((t[k].toNat : Int) == 48) = true := by simp; omega
        have n0 : (((dsAt t k).nd : Int) == 0) = true := by simp; omega
        clear hD hs1 ok hz
        go_wp2_with fail; go_roundw
        case rel => exact ⟨k + 1, by omega, by go_num, by rw [HDEC.out], by simp, HD.out, hB.setCell hb _⟩
        case measure => simp [intOf]; omega
      · have hstep := dsStep_dig (D := dsAt t k) (c := t[k]) g1 hz
        have hlt8 : ((dsAt t k).nd : Int) < 800 := by omega
        have f1 := hD.free 800; have f2 := hD.free (dsAt t k).nd; have c3 := hD.cell_d (i := (dsAt t k).nd) (by omega); have HD := Lib.hid (show ∀ v : Int, v = (t[k].toNat : Nat) → DB ((wr.setCell ⟨g, (dsAt t k).nd, none⟩ (.int .u8 v)).setCell ⟨g, 800, none⟩ (.int .i64 (((dsAt t k).nd : Nat) + 1))).drew g (dsAt t (k + 1)) from fun v hv => by
         subst hv; have h1 := hD.set_d (i := (dsAt t k).nd) (by omega) (t[k].toNat); have h2 := (h1.set_nd ((dsAt t k).nd + 1)).drewN 1; rw [hs1, hstep]; exact h2)
        by_cases h48 : t[k].toNat = 48
        · have n48 : ((t[k].toNat : Int) == 48) = true := by simp; omega
          have n0 : (((dsAt t k).nd : Int) == 0) = false := by simp; omega
          clear hD hs1 ok hz hstep
          go_wp2_with fail; go_still_tail 11, (by kernel_rfl)
          change wpList _ _ _ _ _ wr.drew
          go_wp2_with fail; go_roundw
          case rel => exact ⟨k + 1, by omega, by go_num, by rw [HDEC.out], by simp, HD.out _ (by omega), ((hB.setCell hb _).setCell hb _).drew⟩
          case measure => simp [intOf]; omega
        · have n48 : ((t[k].toNat : Int) == 48) = false := by simp; omega
          clear hD hs1 ok hz hstep
          go_wp2_with fail; go_still_tail 11, (by kernel_rfl)
          change wpList _ _ _ _ _ wr.drew
          go_wp2_with fail; go_roundw
          case rel => exact ⟨k + 1, by omega, by go_num, by rw [HDEC.out], by simp, HD.out _ (by omega), ((hB.setCell hb _).setCell hb _).drew⟩
          case measure => simp [intOf]; omega
  · obtain rfl : k = q := by omega
    have hpk : p < k := by omega
    have hk0 : 0 < k := by omega
    rcases HT.out with ⟨e1, e2, e3⟩ | ⟨hq, hc, hex⟩
    · subst e1
      have e : dsAt t t.size = S := by
       rw [← HSt.out, e3]; unfold dsP; rw [Int.mul_zero, Int.add_zero]
      rw [e] at hD; have HD := Lib.hid hD; clear hD e hkq
      go_wp2_with fail; go_ret; exact ⟨rfl, HD.out, hB⟩
    · have hc' : t[k] = 101 ∨ t[k] = 69 := by
       rcases hc with h | h
       · obtain ⟨_, h⟩ := bt_nat h; exact Or.inl h
       · obtain ⟨_, h⟩ := bt_nat h; exact Or.inr h
      have HL := Lib.hid (lower_E hc'); have hcn : t[k].toNat = 101 ∨ t[k].toNat = 69 := by
       rcases hc' with h | h <;> rw [h] <;> simp
      have n95 : ((t[k].toNat : Int) == 95) = false := by simp; omega
      have n46 : ((t[k].toNat : Int) == 46) = false := by simp; omega
      have b1 : (48 : Int) ≤ (t[k].toNat : Int) := by omega
      have b2 : ¬ ((t[k].toNat : Int) ≤ 57) := by omega
      have f1 := hD.free 801; have HD := Lib.hid hD; clear hD hc hc' hcn hkq ok hnd; rcases hex with ⟨hr, rfl, hg⟩ | ⟨hr, rfl, hsg, hg⟩ | ⟨hr, rfl, hsg, hg⟩
      · have hr1 : k + 1 < t.size := by have := hg.1; omega
        obtain ⟨g1, g2⟩ := hg.digit (i := k + 1) (by omega) hr1; have m43 : ((t[k + 1].toNat : Int) == 43) = false := by simp; omega
        have m45 : ((t[k + 1].toNat : Int) == 45) = false := by simp; omega
        have d1 : ¬ ((t[k + 1].toNat : Int) < 48) := by omega
        have d2 : ¬ ((57 : Int) < (t[k + 1].toNat : Int)) := by omega
        have HG := Lib.hid hg; have HEL := Lib.hid (rfE_small hg); have hrs : r < t.size := hg.1; have HF : Hid (∀ v : Int, v = (dsAt t k).dp + (rfE t r (t.size - r) : Nat) * 1 → DB (wr.setCell ⟨g, 801, none⟩ (.int .i64 v)) g S) := Lib.hid fun v hv => by
         have := HD.out.set_dp v; rw [← HSt.out]; unfold dsP; rw [← hv]; exact this
        clear hg
        go_wp2_with fail; refine (HL.out _).mono ?_; rintro e w2 ⟨rfl, rfl⟩
        go_wp2_with fail; clear c1 g1 g2 m43 m45 d1 d2 n95 n46 b1 b2; go_loopw [5, 9] (fun i ev wx => ∃ m : Nat, r ≤ m ∧ m ≤ t.size ∧ i = .int .i64 m ∧ ev = .int .i64 (rfE t r (m - r) : Nat) ∧ wx = wr) (fun i _ _ => t.size - (intOf i).toNat)
        case atStart => exact ⟨r, Nat.le_refl _, by omega, by go_num, by rw [Nat.sub_self]; rfl, by trivial⟩
        case round =>
         obtain ⟨m, hm1, hm2, rfl, rfl, rfl⟩ := hrel; by_cases hms : m < t.size
         · obtain ⟨g1, g2⟩ := HG.out.digit hm1 hms
           have hst := rfE_at (t := t) hm1 hms; have b1 : (48 : Int) ≤ (t[m].toNat : Int) := by omega
           have b2 : (t[m].toNat : Int) ≤ 57 := by omega
           have n95 : ((t[m].toNat : Int) == 95) = false := by simp; omega
           have hel : rfE t r (m - r) ≤ 100000 := HEL.out m hm1 hm2; have HST := Lib.hid hst; clear hst; by_cases he : rfE t r (m - r) < 10000
           · have HN : Hid ((rfE t r (m - r) : Int) * 10 + (t[m].toNat : Int) - 48 = (rfE t r (m + 1 - r) : Nat)) := Lib.hid (by
              rw [HST.out, if_pos he]; omega)
             have heI : (rfE t r (m - r) : Int) < 10000 := by omega
             clear HST; generalize rfE t r (m - r) = ee at *
             go_wp2_with fail; go_roundw
             case rel => exact ⟨m + 1, by omega, by omega, by go_num, congrArg (Value.int .i64) (HN.out), by trivial⟩
             case measure => simp [intOf]; omega
           · have HN : Hid (rfE t r (m - r) = rfE t r (m + 1 - r)) := Lib.hid (by
              rw [HST.out, if_neg he])
             have heI : ¬ ((rfE t r (m - r) : Int) < 10000) := by omega
             clear HST; generalize rfE t r (m - r) = ee at *
             go_wp2_with fail; go_roundw
             case rel => exact ⟨m + 1, by omega, by omega, by go_num, by rw [HN.out], by trivial⟩
             case measure => simp [intOf]; omega
         · obtain rfl : m = t.size := by omega
           have hel : rfE t r (t.size - r) ≤ 100000 := HEL.out _ hm1 (Nat.le_refl _); generalize rfE t r (t.size - r) = ee at *; clear hms
           go_wp2_with fail; go_ret; exact ⟨rfl, HF.out _ (by omega), hB.setCell hb _⟩
      · have hr1 : k + 1 + 1 < t.size := by have := hg.1; omega
        have hr0 : k + 1 < t.size := by omega
        obtain ⟨g1, g2⟩ := hg.digit (i := k + 1 + 1) (by omega) hr1; obtain ⟨_, hsg'⟩ := bt_nat hsg; have m43 : (t[k + 1].toNat : Int) = 43 := by rw [hsg']; rfl
        have d1 : ¬ ((t[k + 1 + 1].toNat : Int) < 48) := by omega
        have d2 : ¬ ((57 : Int) < (t[k + 1 + 1].toNat : Int)) := by omega
        have HG := Lib.hid hg; have HEL := Lib.hid (rfE_small hg); have hrs : r < t.size := hg.1; have HF : Hid (∀ v : Int, v = (dsAt t k).dp + (rfE t r (t.size - r) : Nat) * 1 → DB (wr.setCell ⟨g, 801, none⟩ (.int .i64 v)) g S) := Lib.hid fun v hv => by
         have := HD.out.set_dp v; rw [← HSt.out]; unfold dsP; rw [← hv]; exact this
        clear hg hsg hsg'
        go_wp2_with fail; refine (HL.out _).mono ?_; rintro e w2 ⟨rfl, rfl⟩
        go_wp2_with fail; clear c1 g1 g2 m43 d1 d2 n95 n46 b1 b2; go_loopw [5, 9] (fun i ev wx => ∃ m : Nat, r ≤ m ∧ m ≤ t.size ∧ i = .int .i64 m ∧ ev = .int .i64 (rfE t r (m - r) : Nat) ∧ wx = wr) (fun i _ _ => t.size - (intOf i).toNat)
        case atStart => exact ⟨r, Nat.le_refl _, by omega, by go_num, by rw [Nat.sub_self]; rfl, by trivial⟩
        case round =>
         obtain ⟨m, hm1, hm2, rfl, rfl, rfl⟩ := hrel; by_cases hms : m < t.size
         · obtain ⟨g1, g2⟩ := HG.out.digit hm1 hms
           have hst := rfE_at (t := t) hm1 hms; have b1 : (48 : Int) ≤ (t[m].toNat : Int) := by omega
           have b2 : (t[m].toNat : Int) ≤ 57 := by omega
           have n95 : ((t[m].toNat : Int) == 95) = false := by simp; omega
           have hel : rfE t r (m - r) ≤ 100000 := HEL.out m hm1 hm2; have HST := Lib.hid hst; clear hst; by_cases he : rfE t r (m - r) < 10000
           · have HN : Hid ((rfE t r (m - r) : Int) * 10 + (t[m].toNat : Int) - 48 = (rfE t r (m + 1 - r) : Nat)) := Lib.hid (by
              rw [HST.out, if_pos he]; omega)
             have heI : (rfE t r (m - r) : Int) < 10000 := by omega
             clear HST; generalize rfE t r (m - r) = ee at *
             go_wp2_with fail; go_roundw
             case rel => exact ⟨m + 1, by omega, by omega, by go_num, congrArg (Value.int .i64) (HN.out), by trivial⟩
             case measure => simp [intOf]; omega
           · have HN : Hid (rfE t r (m - r) = rfE t r (m + 1 - r)) := Lib.hid (by
              rw [HST.out, if_neg he])
             have heI : ¬ ((rfE t r (m - r) : Int) < 10000) := by omega
             clear HST; generalize rfE t r (m - r) = ee at *
             go_wp2_with fail; go_roundw
             case rel => exact ⟨m + 1, by omega, by omega, by go_num, by rw [HN.out], by trivial⟩
             case measure => simp [intOf]; omega
         · obtain rfl : m = t.size := by omega
           have hel : rfE t r (t.size - r) ≤ 100000 := HEL.out _ hm1 (Nat.le_refl _); generalize rfE t r (t.size - r) = ee at *; clear hms
           go_wp2_with fail; go_ret; exact ⟨rfl, HF.out _ (by omega), hB.setCell hb _⟩
      · have hr1 : k + 1 + 1 < t.size := by have := hg.1; omega
        have hr0 : k + 1 < t.size := by omega
        obtain ⟨g1, g2⟩ := hg.digit (i := k + 1 + 1) (by omega) hr1; obtain ⟨_, hsg'⟩ := bt_nat hsg; have m43 : (t[k + 1].toNat : Int) = 45 := by rw [hsg']; rfl
        have d1 : ¬ ((t[k + 1 + 1].toNat : Int) < 48) := by omega
        have d2 : ¬ ((57 : Int) < (t[k + 1 + 1].toNat : Int)) := by omega
        have HG := Lib.hid hg; have HEL := Lib.hid (rfE_small hg); have hrs : r < t.size := hg.1; have HF : Hid (∀ v : Int, v = (dsAt t k).dp + (rfE t r (t.size - r) : Nat) * -1 → DB (wr.setCell ⟨g, 801, none⟩ (.int .i64 v)) g S) := Lib.hid fun v hv => by
         have := HD.out.set_dp v; rw [← HSt.out]; unfold dsP; rw [← hv]; exact this
        clear hg hsg hsg'
        go_wp2_with fail; refine (HL.out _).mono ?_; rintro e w2 ⟨rfl, rfl⟩
        go_wp2_with fail; clear c1 g1 g2 m43 d1 d2 n95 n46 b1 b2; go_loopw [5, 9] (fun i ev wx => ∃ m : Nat, r ≤ m ∧ m ≤ t.size ∧ i = .int .i64 m ∧ ev = .int .i64 (rfE t r (m - r) : Nat) ∧ wx = wr) (fun i _ _ => t.size - (intOf i).toNat)
        case atStart => exact ⟨r, Nat.le_refl _, by omega, by go_num, by rw [Nat.sub_self]; rfl, by trivial⟩
        case round =>
         obtain ⟨m, hm1, hm2, rfl, rfl, rfl⟩ := hrel; by_cases hms : m < t.size
         · obtain ⟨g1, g2⟩ := HG.out.digit hm1 hms
           have hst := rfE_at (t := t) hm1 hms; have b1 : (48 : Int) ≤ (t[m].toNat : Int) := by omega
           have b2 : (t[m].toNat : Int) ≤ 57 := by omega
           have n95 : ((t[m].toNat : Int) == 95) = false := by simp; omega
           have hel : rfE t r (m - r) ≤ 100000 := HEL.out m hm1 hm2; have HST := Lib.hid hst; clear hst; by_cases he : rfE t r (m - r) < 10000
           · have HN : Hid ((rfE t r (m - r) : Int) * 10 + (t[m].toNat : Int) - 48 = (rfE t r (m + 1 - r) : Nat)) := Lib.hid (by
              rw [HST.out, if_pos he]; omega)
             have heI : (rfE t r (m - r) : Int) < 10000 := by omega
             clear HST; generalize rfE t r (m - r) = ee at *
             go_wp2_with fail; go_roundw
             case rel => exact ⟨m + 1, by omega, by omega, by go_num, congrArg (Value.int .i64) (HN.out), by trivial⟩
             case measure => simp [intOf]; omega
           · have HN : Hid (rfE t r (m - r) = rfE t r (m + 1 - r)) := Lib.hid (by
              rw [HST.out, if_neg he])
             have heI : ¬ ((rfE t r (m - r) : Int) < 10000) := by omega
             clear HST; generalize rfE t r (m - r) = ee at *
             go_wp2_with fail; go_roundw
             case rel => exact ⟨m + 1, by omega, by omega, by go_num, by rw [HN.out], by trivial⟩
             case measure => simp [intOf]; omega
         · obtain rfl : m = t.size := by omega
           have hel : rfE t r (t.size - r) ≤ 100000 := HEL.out _ hm1 (Nat.le_refl _); generalize rfE t r (t.size - r) = ee at *; clear hms
           go_wp2_with fail; go_ret; exact ⟨rfl, HF.out _ (by omega), hB.setCell hb _⟩
end Go.Proofs.YtkoghgnjjfnamaaGreatDoor
