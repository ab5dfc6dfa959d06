/- The library's reader of a text of the shape of a number. -/
import Derived.Test.YtbgjhgohffkonaaGreatDoorM36
import Derived.BigQuiet
import Derived.BigFrame
import Derived.WalkMore
import Derived.Handy
namespace Go.Proofs.YtbgjhgohffkonaaGreatDoor
open Go.RowKit

set_option maxRecDepth 100000 in
theorem lower_low {c : UInt8} (h : c.toNat ≤ 57) (w : World) : Calls Tryz.prog 130 #[.int .u8 c.toNat] w fun e w' => (∃ x : Nat, x ≤ 63 ∧ e = .returned (.int .u8 x)) ∧ w = w' := by
  obtain ⟨x, hx, hor⟩ : ∃ x : Nat, x ≤ 63 ∧ bits .or .u8 (c.toNat : Nat) 32 = (x : Int) := by
    have : ∀ n : Fin 58, (bits .or .u8 (n.val : Nat) 32).toNat ≤ 63 ∧ bits .or .u8 (n.val : Nat) 32 = ((bits .or .u8 (n.val : Nat) 32).toNat : Int) := by decide
    exact ⟨_, this ⟨c.toNat, by omega⟩⟩
  have HX := Lib.hid hx
  clear h hx
  generalize ((c.toNat : Nat) : Int) = y at *
  go_enter Tryz.func130, Tryz.ntmps130
  go_wp2_with fail
  go_ret
  exact ⟨⟨x, HX.out, rfl⟩, rfl⟩
theorem rfStep_dot {s : Rf} : rfStep s 46 = { s with dot := true, dp := s.nd } := by
  unfold rfStep
  rw [if_pos rfl]
theorem rfStep_zero {s : Rf} {c : UInt8} (h : c.toNat = 48) (hn : s.nd = 0) : rfStep s c = { s with digs := true, dp := s.dp - 1 } := by
  have : c = 48 := UInt8.toNat_inj.1 h
  subst this
  unfold rfStep
  rw [if_neg (by decide), if_pos ⟨rfl, hn⟩]
theorem rfStep_dig {s : Rf} {c : UInt8} (h1 : 48 ≤ c.toNat) (h : ¬ (c.toNat = 48 ∧ s.nd = 0)) (h2 : s.ndM < 19) : rfStep s c = { s with digs := true, nd := s.nd + 1, m := s.m * 10 + (c.toNat - 48), ndM := s.ndM + 1 } := by
  unfold rfStep
  rw [if_neg (by rintro rfl; exact absurd h1 (by decide)), if_neg (by rintro ⟨rfl, h'⟩; exact h ⟨rfl, h'⟩), if_pos h2]
theorem rfStep_more {s : Rf} {c : UInt8} (h1 : 48 ≤ c.toNat) (h : ¬ (c.toNat = 48 ∧ s.nd = 0)) (h2 : ¬ s.ndM < 19) : rfStep s c = { s with digs := true, nd := s.nd + 1, tr := s.tr || !(c == 48) } := by
  unfold rfStep
  rw [if_neg (by rintro rfl; exact absurd h1 (by decide)), if_neg (by rintro ⟨rfl, h'⟩; exact h ⟨rfl, h'⟩), if_neg h2]
set_option maxHeartbeats 2000000 in
set_option maxRecDepth 100000 in
theorem readFloat_any {w : World} {t : ByteArray} {p q r : Nat} {s : Int} (hS : Shp t p q) (hT : Tl t q r s) :
    Calls Tryz.prog 98 #[.string t] w fun e w' => e = .returned (.tuple #[.int .u64 (rfAt t q).m, .int .i64 (rfX t q r s), .bool false, .bool (rfAt t q).tr, .bool false, .int .i64 t.size, .bool true]) ∧ ∃ n, w' = w.drewN n := by
  have hsz := hS.small
  have hpos := hS.pos
  have hlt := hS.lt
  have hle := hS.le
  obtain ⟨z0, z1, z2⟩ := hS.digit (i := 0) (by omega) (by omega)
  have hs1 : 1 < t.size := by omega
  have hs2 : (2 : Int) < (t.size : Int) := by omega
  have n43 : ((t[0].toNat : Int) == 43) = false := by simp; omega
  have n45 : ((t[0].toNat : Int) == 45) = false := by simp; omega
  have hne : ¬ (t = ByteArray.empty) := by rintro rfl; exact absurd z0 (by decide)
  have hlow : t[1].toNat ≤ 57 := by
    by_cases h : 1 = p
    · subst h
      obtain ⟨_, h⟩ := hS.point
      rw [h]; decide
    · exact (hS.digit (i := 1) (by omega) h).2.2
  have HLOW := Lib.hid (lower_low hlow)
  obtain ⟨X, hX⟩ : ∃ X, rfX t q r s = X := ⟨_, rfl⟩
  have HX := Lib.hid hX
  rw [hX]
  have HS := Lib.hid hS
  have HT := Lib.hid hT
  clear hX hS hT hlow
  go_enter Tryz.func98, Tryz.ntmps98
  go_wp2_with fail
  go_step3
  go_upto_region 12 with fail
  go_cut [27, 54] from 36 to 54 (fun _ v wx => v = .bool false ∧ wx = w)
  case first =>
    by_cases h48 : t[0].toNat = 48
    · have n48 : ((t[0].toNat : Int) == 48) = true := by simp; omega
      go_wp2_with fail
      refine (HLOW.out _).mono ?_
      rintro e w2 ⟨⟨x, hx, rfl⟩, rfl⟩
      have nx : ((x : Int) == 120) = false := by simp; omega
      go_wp2_with fail
      go_meet
      exact ⟨rfl, rfl⟩
    · have n48 : ((t[0].toNat : Int) == 48) = false := by simp; omega
      go_wp2_with fail
      go_meet
      exact ⟨rfl, rfl⟩
  case rest =>
    obtain ⟨rfl, rfl⟩ := hcut
    clear HLOW n43 n45 hs1 hs2
    go_wp2_with fail
    go_step3
    go_wp2_with fail
    go_loopw [2, 5, 7, 9, 13, 14, 15, 16, 17] (fun v2 v5 v7 v9 v13 v14 v15 v16 v17 wr => ∃ k : Nat, k ≤ q ∧ v2 = .int .u64 (rfAt t k).m ∧ v5 = .bool (rfAt t k).tr ∧ v7 = .int .i64 k ∧ v9 = .bool false ∧ v13 = .bool (decide (p < k)) ∧ v14 = .bool (decide (0 < k)) ∧
      v15 = .int .i64 (rfAt t k).nd ∧ v16 = .int .i64 (rfAt t k).ndM ∧ v17 = .int .i64 (rfAt t k).dp ∧ wr = wc) (fun _ _ i _ _ _ _ _ _ _ => t.size - (intOf i).toNat)
    case atStart => exact ⟨0, by omega, rfl, rfl, rfl, rfl, by simp, by simp, rfl, rfl, rfl, by trivial⟩
    case round =>
      obtain ⟨k, hk, rfl, rfl, rfl, rfl, rfl, rfl, rfl, rfl, rfl, rfl⟩ := hrel
      have ok := rfAt_ok HS.out k hk
      have hnd := ok.nd_le
      have hd1 := ok.dp_lo
      have hd2 := ok.dp_hi
      have hm19 := ok.m_le
      have hmlt := m_small ok.m_lt ok.m_le
      have hdot := ok.dotted
      by_cases hkq : k < q
      · have hks : k < t.size := by omega
        have hst := rfAt_succ hks
        by_cases hkp : k = p
        · obtain ⟨_, hc⟩ := HS.out.point
          subst hkp
          have e46 : t[k] = 46 := hc
          rw [e46, rfStep_dot] at hst
          have HN := Lib.hid hst
          clear hst ok hmlt hdot
          generalize rfAt t k = S at *
          go_wp2_with fail
          go_roundw
          case rel =>
            exact ⟨k + 1, by omega, by rw [HN.out], by rw [HN.out], by go_num, rfl, by simp, by simpa using hpos, by rw [HN.out], by rw [HN.out], by rw [HN.out], by trivial⟩
          case measure => simp [intOf]; omega
        · obtain ⟨_, g1, g2⟩ := HS.out.digit hkq hkp
          have n95 : ((t[k].toNat : Int) == 95) = false := by simp; omega
          have n46 : ((t[k].toNat : Int) == 46) = false := by simp; omega
          have b1 : (48 : Int) ≤ (t[k].toNat : Int) := by omega
          have b2 : (t[k].toNat : Int) ≤ 57 := by omega
          have HDEC : Hid (decide (p < k + 1) = decide (p < k)) := Lib.hid (by simp only [decide_eq_decide]; omega)
          by_cases hz : t[k].toNat = 48 ∧ (rfAt t k).nd = 0
          · rw [rfStep_zero hz.1 hz.2] at hst
            have HN := Lib.hid hst
            have n48 : ((t[k].toNat : Int) == 48) = true := by simp; omega
            have n0 : (((rfAt t k).nd : Int) == 0) = true := by simp; omega
            have HZ := Lib.hid hz.2
            clear hst ok hmlt hdot hz
            generalize rfAt t k = S at *
            go_wp2_with fail
            go_roundw
            case rel =>
              exact ⟨k + 1, by omega, by rw [HN.out], by rw [HN.out], by go_num, rfl, by rw [HDEC.out], by simp, by rw [HN.out], by rw [HN.out], by rw [HN.out], by trivial⟩
            case measure => simp [intOf]; omega
          · have a4 : IntKind.u8.wrap ((t[k].toNat : Int) - 48) = ((t[k].toNat - 48 : Nat) : Int) := by
              rw [IntWalk.u8_in _ (by omega)]; omega
            have a5 : t[k].toNat - 48 ≤ 9 := by omega
            by_cases h19 : (rfAt t k).ndM < 19
            · rw [rfStep_dig g1 hz h19] at hst
              have HN := Lib.hid hst
              have hm18 := m_small18 ok.m_lt h19
              have h19I : ((rfAt t k).ndM : Int) < 19 := by omega
              have HM : Hid (((rfAt t k).m : Int) * 10 + ((t[k].toNat - 48 : Nat) : Int) = (((rfAt t k).m * 10 + (t[k].toNat - 48) : Nat) : Int)) := Lib.hid (by omega)
              by_cases h48 : t[k].toNat = 48
              · have n48 : ((t[k].toNat : Int) == 48) = true := by simp; omega
                have n0 : (((rfAt t k).nd : Int) == 0) = false := by simp; omega
                have HM' : Hid (((rfAt t k).m : Int) * 10 = (((rfAt t k).m * 10 + (t[k].toNat - 48) : Nat) : Int)) := Lib.hid (by omega)
                clear hst ok hmlt hdot hz a4 HM
                generalize rfAt t k = S at *
                go_wp2_with fail
                go_roundw
                case rel =>
                  exact ⟨k + 1, by omega, by rw [HN.out, ← HM'.out], by rw [HN.out], by go_num, rfl, by rw [HDEC.out], by simp, by rw [HN.out]; rfl, by rw [HN.out]; rfl, by rw [HN.out], by trivial⟩
                case measure => simp [intOf]; omega
              · have n48 : ((t[k].toNat : Int) == 48) = false := by simp; omega
                clear hst ok hmlt hdot hz
                generalize rfAt t k = S at *
                go_wp2_with fail
                go_roundw
                case rel =>
                  exact ⟨k + 1, by omega, by rw [HN.out, ← HM.out], by rw [HN.out], by go_num, rfl, by rw [HDEC.out], by simp, by rw [HN.out]; rfl, by rw [HN.out]; rfl, by rw [HN.out], by trivial⟩
                case measure => simp [intOf]; omega
            · rw [rfStep_more g1 hz h19] at hst
              have HN := Lib.hid hst
              have h19I : ¬ (((rfAt t k).ndM : Int) < 19) := by omega
              by_cases h48 : t[k].toNat = 48
              · have n48 : ((t[k].toNat : Int) == 48) = true := by simp; omega
                have m48 : ((t[k].toNat : Int) != 48) = false := by simp; omega
                have n0 : (((rfAt t k).nd : Int) == 0) = false := by simp; omega
                have hc48 : t[k] = 48 := UInt8.toNat_inj.1 h48
                have HC : Hid (((rfAt t k).tr || !(t[k] == 48)) = (rfAt t k).tr) := Lib.hid (by rw [hc48]; simp)
                clear hst ok hmlt hdot hz a4 hc48
                generalize rfAt t k = S at *
                go_wp2_with fail
                go_roundw
                case rel =>
                  exact ⟨k + 1, by omega, by rw [HN.out], by rw [HN.out]; exact congrArg Value.bool HC.out.symm, by go_num, rfl, by rw [HDEC.out], by simp, by rw [HN.out]; rfl, by rw [HN.out], by rw [HN.out], by trivial⟩
                case measure => simp [intOf]; omega
              · have n48 : ((t[k].toNat : Int) == 48) = false := by simp; omega
                have m48 : ((t[k].toNat : Int) != 48) = true := by simp; omega
                have hc48 : (t[k] == 48) = false := by rw [beq_eq_false_iff_ne]; rintro h; exact h48 (by rw [h]; rfl)
                have HC : Hid (((rfAt t k).tr || !(t[k] == 48)) = true) := Lib.hid (by rw [hc48]; simp)
                clear hst ok hmlt hdot hz hc48
                generalize rfAt t k = S at *
                go_wp2_with fail
                go_roundw
                case rel =>
                  exact ⟨k + 1, by omega, by rw [HN.out], by rw [HN.out]; exact congrArg Value.bool HC.out.symm, by go_num, rfl, by rw [HDEC.out], by simp, by rw [HN.out]; rfl, by rw [HN.out], by rw [HN.out], by trivial⟩
                case measure => simp [intOf]; omega
      · obtain rfl : k = q := by omega
        have hpk : p < k := by omega
        have hk0 : 0 < k := by omega
        have HXE : Hid (X = if (rfAt t k).m = 0 then 0 else (rfAt t k).dp + (rfE t r (t.size - r) : Nat) * s - (rfAt t k).ndM) := Lib.hid HX.out.symm
        clear HX hkq ok hdot
        generalize hSq : rfAt t k = S at *
        have HSQ := Lib.hid hSq
        clear hSq
        rcases HT.out with ⟨e1, e2, e3⟩ | ⟨hq, hc, hex⟩
        · subst e1 e3
          have HX0 : Hid (∀ v : Int, v = S.dp - (S.ndM : Nat) → ¬ S.m = 0 → X = v) := Lib.hid fun v hv h0 => by
            rw [HXE.out, if_neg h0, hv, Int.mul_zero, Int.add_zero]
          by_cases hm0 : S.m = 0
          · have n0 : ((S.m : Int) != 0) = false := by simp; omega
            have HX2 : Hid (X = 0) := Lib.hid (by rw [HXE.out, if_pos hm0])
            clear hm0
            go_wp2_with fail
            rw [Exit.noGoto_ret]
            change bodyPost _ _ _ _ _ _
            go_returns
            refine ⟨?_, 0, rfl⟩
            rw [HX2.out, HSQ.out]
          · have n0 : ((S.m : Int) != 0) = true := by simp; omega
            have HNZ := Lib.hid hm0
            clear hm0
            go_wp2_with fail
            rw [Exit.noGoto_ret]
            change bodyPost _ _ _ _ _ _
            go_returns
            refine ⟨?_, 0, rfl⟩
            rw [HX0.out _ rfl HNZ.out, HSQ.out]
        · have hc' : t[k] = 101 ∨ t[k] = 69 := by
            rcases hc with h | h
            · obtain ⟨_, h⟩ := bt_nat h; exact Or.inl h
            · obtain ⟨_, h⟩ := bt_nat h; exact Or.inr h
          have HL := Lib.hid (lower_E hc')
          have hcn : t[k].toNat = 101 ∨ t[k].toNat = 69 := by
            rcases hc' with h | h <;> rw [h] <;> simp
          have n95 : ((t[k].toNat : Int) == 95) = false := by simp; omega
          have n46 : ((t[k].toNat : Int) == 46) = false := by simp; omega
          have b1 : (48 : Int) ≤ (t[k].toNat : Int) := by omega
          have b2 : ¬ ((t[k].toNat : Int) ≤ 57) := by omega
          clear hc hc' hcn
          rcases hex with ⟨hr, rfl, hg⟩ | ⟨hr, rfl, hsg, hg⟩ | ⟨hr, rfl, hsg, hg⟩
          · have hr1 : k + 1 < t.size := by have := hg.1; omega
            obtain ⟨g1, g2⟩ := hg.digit (i := k + 1) (by omega) hr1
            have m43 : ((t[k + 1].toNat : Int) == 43) = false := by simp; omega
            have m45 : ((t[k + 1].toNat : Int) == 45) = false := by simp; omega
            have d1 : ¬ ((t[k + 1].toNat : Int) < 48) := by omega
            have d2 : ¬ ((57 : Int) < (t[k + 1].toNat : Int)) := by omega
            have HG := Lib.hid hg
            have HEL := Lib.hid (rfE_small hg)
            have hrs : r < t.size := hg.1
            clear hg
            go_wp2_with fail
            refine (HL.out _).mono ?_
            rintro e w2 ⟨rfl, rfl⟩
            go_wp2_with fail
            clear g1 g2 m43 m45 d1 d2 n95 n46 b1 b2
            go_loopw [7, 9, 20] (fun i un ev wx => ∃ m : Nat, r ≤ m ∧ m ≤ t.size ∧ i = .int .i64 m ∧ un = .bool false ∧ ev = .int .i64 (rfE t r (m - r) : Nat) ∧ wx = wr) (fun i _ _ _ => t.size - (intOf i).toNat)
            case atStart => exact ⟨r, Nat.le_refl _, by omega, by go_num, rfl, by rw [Nat.sub_self]; rfl, by trivial⟩
            case round =>
              obtain ⟨m, hm1, hm2, rfl, rfl, rfl, rfl⟩ := hrel
              by_cases hms : m < t.size
              · obtain ⟨g1, g2⟩ := HG.out.digit hm1 hms
                have hst := rfE_at (t := t) hm1 hms
                have b1 : (48 : Int) ≤ (t[m].toNat : Int) := by omega
                have b2 : (t[m].toNat : Int) ≤ 57 := by omega
                have n95 : ((t[m].toNat : Int) == 95) = false := by simp; omega
                have hel : rfE t r (m - r) ≤ 100000 := HEL.out m hm1 hm2
                have HST := Lib.hid hst
                clear hst
                by_cases he : rfE t r (m - r) < 10000
                · have HN : Hid ((rfE t r (m - r) : Int) * 10 + (t[m].toNat : Int) - 48 = (rfE t r (m + 1 - r) : Nat)) := Lib.hid (by
                    rw [HST.out, if_pos he]; omega)
                  have heI : (rfE t r (m - r) : Int) < 10000 := by omega
                  clear HST
                  generalize rfE t r (m - r) = ee at *
                  go_wp2_with fail
                  go_roundw
                  case rel => exact ⟨m + 1, by omega, by omega, by go_num, rfl, congrArg (Value.int .i64) (HN.out), by trivial⟩
                  case measure => simp [intOf]; omega
                · have HN : Hid (rfE t r (m - r) = rfE t r (m + 1 - r)) := Lib.hid (by
                    rw [HST.out, if_neg he])
                  have heI : ¬ ((rfE t r (m - r) : Int) < 10000) := by omega
                  clear HST
                  generalize rfE t r (m - r) = ee at *
                  go_wp2_with fail
                  go_roundw
                  case rel => exact ⟨m + 1, by omega, by omega, by go_num, rfl, by rw [HN.out], by trivial⟩
                  case measure => simp [intOf]; omega
              · obtain rfl : m = t.size := by omega
                have hel : rfE t r (t.size - r) ≤ 100000 := HEL.out _ hm1 (Nat.le_refl _)
                generalize rfE t r (t.size - r) = ee at *
                clear hms
                by_cases hm0 : S.m = 0
                · have n0 : ((S.m : Int) != 0) = false := by simp; omega
                  have HX2 : Hid (X = 0) := Lib.hid (by rw [HXE.out, if_pos hm0])
                  clear hm0
                  go_wp2_with fail
                  rw [Exit.noGoto_ret]
                  change bodyPost _ _ _ _ _ _
                  go_returns
                  refine ⟨?_, 0, rfl⟩
                  rw [HX2.out, HSQ.out]
                · have n0 : ((S.m : Int) != 0) = true := by simp; omega
                  have HX2 : Hid (∀ v : Int, v = S.dp + (ee : Nat) * 1 - (S.ndM : Nat) → X = v) := Lib.hid (fun v hv => by rw [HXE.out, if_neg hm0, hv])
                  clear hm0
                  go_wp2_with fail
                  rw [Exit.noGoto_ret]
                  change bodyPost _ _ _ _ _ _
                  go_returns
                  refine ⟨?_, 0, rfl⟩
                  rw [HSQ.out]
                  refine congrArg (fun x => Ending.returned (Value.tuple #[Value.int .u64 (S.m : Nat), Value.int .i64 x, .bool false, .bool S.tr, .bool false, .int .i64 (t.size : Nat), .bool true])) ?_
                  have := HX2.out _ rfl
                  omega
          · have hr1 : k + 1 + 1 < t.size := by have := hg.1; omega
            have hr0 : k + 1 < t.size := by omega
            obtain ⟨g1, g2⟩ := hg.digit (i := k + 1 + 1) (by omega) hr1
            obtain ⟨_, hsg'⟩ := bt_nat hsg
            have m43 : (t[k + 1].toNat : Int) = 43 := by rw [hsg']; rfl
            have d1 : ¬ ((t[k + 1 + 1].toNat : Int) < 48) := by omega
            have d2 : ¬ ((57 : Int) < (t[k + 1 + 1].toNat : Int)) := by omega
            have HG := Lib.hid hg
            have HEL := Lib.hid (rfE_small hg)
            have hrs : r < t.size := hg.1
            clear hg hsg hsg'
            go_wp2_with fail
            refine (HL.out _).mono ?_
            rintro e w2 ⟨rfl, rfl⟩
            go_wp2_with fail
            clear g1 g2 m43 d1 d2 n95 n46 b1 b2
            go_loopw [7, 9, 20] (fun i un ev wx => ∃ m : Nat, r ≤ m ∧ m ≤ t.size ∧ i = .int .i64 m ∧ un = .bool false ∧ ev = .int .i64 (rfE t r (m - r) : Nat) ∧ wx = wr) (fun i _ _ _ => t.size - (intOf i).toNat)
            case atStart => exact ⟨r, Nat.le_refl _, by omega, by go_num, rfl, by rw [Nat.sub_self]; rfl, by trivial⟩
            case round =>
              obtain ⟨m, hm1, hm2, rfl, rfl, rfl, rfl⟩ := hrel
              by_cases hms : m < t.size
              · obtain ⟨g1, g2⟩ := HG.out.digit hm1 hms
                have hst := rfE_at (t := t) hm1 hms
                have b1 : (48 : Int) ≤ (t[m].toNat : Int) := by omega
                have b2 : (t[m].toNat : Int) ≤ 57 := by omega
                have n95 : ((t[m].toNat : Int) == 95) = false := by simp; omega
                have hel : rfE t r (m - r) ≤ 100000 := HEL.out m hm1 hm2
                have HST := Lib.hid hst
                clear hst
                by_cases he : rfE t r (m - r) < 10000
                · have HN : Hid ((rfE t r (m - r) : Int) * 10 + (t[m].toNat : Int) - 48 = (rfE t r (m + 1 - r) : Nat)) := Lib.hid (by
                    rw [HST.out, if_pos he]; omega)
                  have heI : (rfE t r (m - r) : Int) < 10000 := by omega
                  clear HST
                  generalize rfE t r (m - r) = ee at *
                  go_wp2_with fail
                  go_roundw
                  case rel => exact ⟨m + 1, by omega, by omega, by go_num, rfl, congrArg (Value.int .i64) (HN.out), by trivial⟩
                  case measure => simp [intOf]; omega
                · have HN : Hid (rfE t r (m - r) = rfE t r (m + 1 - r)) := Lib.hid (by
                    rw [HST.out, if_neg he])
                  have heI : ¬ ((rfE t r (m - r) : Int) < 10000) := by omega
                  clear HST
                  generalize rfE t r (m - r) = ee at *
                  go_wp2_with fail
                  go_roundw
                  case rel => exact ⟨m + 1, by omega, by omega, by go_num, rfl, by rw [HN.out], by trivial⟩
                  case measure => simp [intOf]; omega
              · obtain rfl : m = t.size := by omega
                have hel : rfE t r (t.size - r) ≤ 100000 := HEL.out _ hm1 (Nat.le_refl _)
                generalize rfE t r (t.size - r) = ee at *
                clear hms
                by_cases hm0 : S.m = 0
                · have n0 : ((S.m : Int) != 0) = false := by simp; omega
                  have HX2 : Hid (X = 0) := Lib.hid (by rw [HXE.out, if_pos hm0])
                  clear hm0
                  go_wp2_with fail
                  rw [Exit.noGoto_ret]
                  change bodyPost _ _ _ _ _ _
                  go_returns
                  refine ⟨?_, 0, rfl⟩
                  rw [HX2.out, HSQ.out]
                · have n0 : ((S.m : Int) != 0) = true := by simp; omega
                  have HX2 : Hid (∀ v : Int, v = S.dp + (ee : Nat) * 1 - (S.ndM : Nat) → X = v) := Lib.hid (fun v hv => by rw [HXE.out, if_neg hm0, hv])
                  clear hm0
                  go_wp2_with fail
                  rw [Exit.noGoto_ret]
                  change bodyPost _ _ _ _ _ _
                  go_returns
                  refine ⟨?_, 0, rfl⟩
                  rw [HSQ.out]
                  refine congrArg (fun x => Ending.returned (Value.tuple #[Value.int .u64 (S.m : Nat), Value.int .i64 x, .bool false, .bool S.tr, .bool false, .int .i64 (t.size : Nat), .bool true])) ?_
                  have := HX2.out _ rfl
                  omega
          · have hr1 : k + 1 + 1 < t.size := by have := hg.1; omega
            have hr0 : k + 1 < t.size := by omega
            obtain ⟨g1, g2⟩ := hg.digit (i := k + 1 + 1) (by omega) hr1
            obtain ⟨_, hsg'⟩ := bt_nat hsg
            have m43 : (t[k + 1].toNat : Int) = 45 := by rw [hsg']; rfl
            have d1 : ¬ ((t[k + 1 + 1].toNat : Int) < 48) := by omega
            have d2 : ¬ ((57 : Int) < (t[k + 1 + 1].toNat : Int)) := by omega
            have HG := Lib.hid hg
            have HEL := Lib.hid (rfE_small hg)
            have hrs : r < t.size := hg.1
            clear hg hsg hsg'
            go_wp2_with fail
            refine (HL.out _).mono ?_
            rintro e w2 ⟨rfl, rfl⟩
            go_wp2_with fail
            clear g1 g2 m43 d1 d2 n95 n46 b1 b2
            go_loopw [7, 9, 20] (fun i un ev wx => ∃ m : Nat, r ≤ m ∧ m ≤ t.size ∧ i = .int .i64 m ∧ un = .bool false ∧ ev = .int .i64 (rfE t r (m - r) : Nat) ∧ wx = wr) (fun i _ _ _ => t.size - (intOf i).toNat)
            case atStart => exact ⟨r, Nat.le_refl _, by omega, by go_num, rfl, by rw [Nat.sub_self]; rfl, by trivial⟩
            case round =>
              obtain ⟨m, hm1, hm2, rfl, rfl, rfl, rfl⟩ := hrel
              by_cases hms : m < t.size
              · obtain ⟨g1, g2⟩ := HG.out.digit hm1 hms
                have hst := rfE_at (t := t) hm1 hms
                have b1 : (48 : Int) ≤ (t[m].toNat : Int) := by omega
                have b2 : (t[m].toNat : Int) ≤ 57 := by omega
                have n95 : ((t[m].toNat : Int) == 95) = false := by simp; omega
                have hel : rfE t r (m - r) ≤ 100000 := HEL.out m hm1 hm2
                have HST := Lib.hid hst
                clear hst
                by_cases he : rfE t r (m - r) < 10000
                · have HN : Hid ((rfE t r (m - r) : Int) * 10 + (t[m].toNat : Int) - 48 = (rfE t r (m + 1 - r) : Nat)) := Lib.hid (by
                    rw [HST.out, if_pos he]; omega)
                  have heI : (rfE t r (m - r) : Int) < 10000 := by omega
                  clear HST
                  generalize rfE t r (m - r) = ee at *
                  go_wp2_with fail
                  go_roundw
                  case rel => exact ⟨m + 1, by omega, by omega, by go_num, rfl, congrArg (Value.int .i64) (HN.out), by trivial⟩
                  case measure => simp [intOf]; omega
                · have HN : Hid (rfE t r (m - r) = rfE t r (m + 1 - r)) := Lib.hid (by
                    rw [HST.out, if_neg he])
                  have heI : ¬ ((rfE t r (m - r) : Int) < 10000) := by omega
                  clear HST
                  generalize rfE t r (m - r) = ee at *
                  go_wp2_with fail
                  go_roundw
                  case rel => exact ⟨m + 1, by omega, by omega, by go_num, rfl, by rw [HN.out], by trivial⟩
                  case measure => simp [intOf]; omega
              · obtain rfl : m = t.size := by omega
                have hel : rfE t r (t.size - r) ≤ 100000 := HEL.out _ hm1 (Nat.le_refl _)
                generalize rfE t r (t.size - r) = ee at *
                clear hms
                by_cases hm0 : S.m = 0
                · have n0 : ((S.m : Int) != 0) = false := by simp; omega
                  have HX2 : Hid (X = 0) := Lib.hid (by rw [HXE.out, if_pos hm0])
                  clear hm0
                  go_wp2_with fail
                  rw [Exit.noGoto_ret]
                  change bodyPost _ _ _ _ _ _
                  go_returns
                  refine ⟨?_, 0, rfl⟩
                  rw [HX2.out, HSQ.out]
                · have n0 : ((S.m : Int) != 0) = true := by simp; omega
                  have HX2 : Hid (∀ v : Int, v = S.dp + (ee : Nat) * (-1) - (S.ndM : Nat) → X = v) := Lib.hid (fun v hv => by rw [HXE.out, if_neg hm0, hv])
                  clear hm0
                  go_wp2_with fail
                  rw [Exit.noGoto_ret]
                  change bodyPost _ _ _ _ _ _
                  go_returns
                  refine ⟨?_, 0, rfl⟩
                  rw [HSQ.out]
                  refine congrArg (fun x => Ending.returned (Value.tuple #[Value.int .u64 (S.m : Nat), Value.int .i64 x, .bool false, .bool S.tr, .bool false, .int .i64 (t.size : Nat), .bool true])) ?_
                  have := HX2.out _ rfl
                  omega
end Go.Proofs.YtbgjhgohffkonaaGreatDoor

