/- internal/strconv.readFloat at a text with a minus ahead. -/
import Derived.Test.YtbgjhgohffkonaaGreatDoorFltX
import Derived.Test.YtbgjhgohffkonaaGreatDoorM36
import Derived.BigQuiet
import Derived.BigFrame
import Derived.WalkMore
import Derived.Handy
namespace Go.Proofs.YtbgjhgohffkonaaGreatDoor
open Go.RowKit
set_option linter.unusedVariables false
/-- A text with a minus ahead: what the reader of the text behind it says, in terms of the whole text's places. -/
structure Sg (S : ByteArray) (P Q r1 : Nat) (R : Nat → Rf) (EF : Nat → Nat) (s X : Int) : Prop where
  pos : 1 < P
  lt : P + 1 < Q
  le : Q ≤ S.size
  small : S.size ≤ 801
  digit : ∀ k, 1 ≤ k → k < Q → k ≠ P → ∃ h : k < S.size, 48 ≤ S[k].toNat ∧ S[k].toNat ≤ 57
  point : ∃ h : P < S.size, S[P] = 46
  step : ∀ k (h : k < S.size), 1 ≤ k → R (k + 1) = rfStep (R k) S[k]
  zero : R 1 = ⟨0, 0, 0, 0, false, false, false⟩
  nd_le : ∀ k, 1 ≤ k → k ≤ Q → (R k).nd ≤ k
  dp_lo : ∀ k, 1 ≤ k → k ≤ Q → -(k : Int) ≤ (R k).dp
  dp_hi : ∀ k, 1 ≤ k → k ≤ Q → (R k).dp ≤ (k : Int)
  m_le : ∀ k, 1 ≤ k → k ≤ Q → (R k).ndM ≤ 19
  m_lt : ∀ k, 1 ≤ k → k ≤ Q → (R k).m < 10 ^ (R k).ndM
  tl : Tl S Q r1 s
  x : X = if (R Q).m = 0 then 0 else (R Q).dp + (EF (S.size - r1) : Nat) * s - (R Q).ndM
  e0 : EF 0 = 0
  ea : ∀ m (h : m < S.size), r1 ≤ m → DigE S r1 → EF (m + 1 - r1) = if EF (m - r1) < 10000 then EF (m - r1) * 10 + (S[m].toNat - 48) else EF (m - r1)
  es : DigE S r1 → ∀ m, r1 ≤ m → m ≤ S.size → EF (m - r1) ≤ 100000
theorem sg_of {t S : ByteArray} {p q r : Nat} {s : Int} (hS : Shp t p q) (hT : Tl t q r s) (hz : S.size = t.size + 1) (hb : ∀ k (h : k < t.size) (h' : k + 1 < S.size), S[k + 1] = t[k]) :
    Sg S (p + 1) (q + 1) (r + 1) (fun k => rfAt t (k - 1)) (rfE t r) s (rfX t q r s) where
  pos := by have := hS.pos; omega
  lt := by have := hS.lt; omega
  le := by have := hS.le; omega
  small := by have := hS.small; omega
  digit := fun k h1 h2 h3 => by
    obtain ⟨j, rfl⟩ : ∃ j, k = j + 1 := ⟨k - 1, by omega⟩
    obtain ⟨h, g1, g2⟩ := hS.digit (i := j) (by omega) (by omega)
    refine ⟨by omega, ?_⟩
    rw [hb j h (by omega)]
    exact ⟨g1, g2⟩
  point := by
    obtain ⟨h, g⟩ := hS.point
    refine ⟨by omega, ?_⟩
    rw [hb p h (by omega)]
    exact g
  step := fun k h h1 => by
    obtain ⟨j, rfl⟩ : ∃ j, k = j + 1 := ⟨k - 1, by omega⟩
    have hj : j < t.size := by omega
    rw [hb j hj h]
    exact rfAt_succ hj
  zero := rfl
  nd_le := fun k h1 h2 => by have := (rfAt_ok hS (k - 1) (by omega)).nd_le; show (rfAt t (k - 1)).nd ≤ k; omega
  dp_lo := fun k h1 h2 => by have := (rfAt_ok hS (k - 1) (by omega)).dp_lo; show _ ≤ (rfAt t (k - 1)).dp; omega
  dp_hi := fun k h1 h2 => by have := (rfAt_ok hS (k - 1) (by omega)).dp_hi; show (rfAt t (k - 1)).dp ≤ _; omega
  m_le := fun k h1 h2 => (rfAt_ok hS (k - 1) (by omega)).m_le
  m_lt := fun k h1 h2 => (rfAt_ok hS (k - 1) (by omega)).m_lt
  tl := by
    have hbt : ∀ k, bt S (k + 1) = bt t k := fun k => by
      rcases Nat.lt_or_ge k t.size with h | h
      · rw [bt_some h, bt_some (show k + 1 < S.size by omega), hb k h (by omega)]
      · rw [bt_none h, bt_none (by omega)]
    have hg : DigE t r → DigE S (r + 1) := fun ⟨g1, g2⟩ => ⟨by omega, fun i h1 h2 => by
      obtain ⟨j, rfl⟩ : ∃ j, i = j + 1 := ⟨i - 1, by omega⟩
      rw [hbt]
      exact g2 j (by omega) (by omega)⟩
    rcases hT with ⟨a, b, c⟩ | ⟨a, b, c⟩
    · exact Or.inl ⟨by omega, by omega, c⟩
    · refine Or.inr ⟨by omega, by rw [hbt]; exact b, ?_⟩
      rcases c with ⟨c1, c2, c3⟩ | ⟨c1, c2, c3, c4⟩ | ⟨c1, c2, c3, c4⟩
      · exact Or.inl ⟨by omega, c2, hg c3⟩
      · exact Or.inr (Or.inl ⟨by omega, c2, by rw [hbt]; exact c3, hg c4⟩)
      · exact Or.inr (Or.inr ⟨by omega, c2, by rw [hbt]; exact c3, hg c4⟩)
  x := by
    have : S.size - (r + 1) = t.size - r := by omega
    rw [this]
    rfl
  e0 := rfl
  ea := fun m h h1 hg => by
    obtain ⟨j, rfl⟩ : ∃ j, m = j + 1 := ⟨m - 1, by omega⟩
    rw [show j + 1 + 1 - (r + 1) = j + 1 - r by omega, show j + 1 - (r + 1) = j - r by omega, hb j (by omega) h]
    exact rfE_at (by omega) (by omega)
  es := fun hg m h1 h2 => by
    have hg' : DigE t r := ⟨by have := hg.1; omega, fun i h1 h2 => by
      have := hg.2 (i + 1) (by omega) (by omega)
      have hbt : bt S (i + 1) = bt t i := by rw [bt_some h2, bt_some (show i + 1 < S.size by omega), hb i h2 (by omega)]
      rw [← hbt]
      exact this⟩
    rw [show m - (r + 1) = m - 1 - r by omega]
    exact rfE_small hg' (m - 1) (by omega) (by omega)
set_option maxHeartbeats 2000000 in
set_option maxRecDepth 100000 in
theorem readFloatN_sg {w : World} {S : ByteArray} {P Q r1 : Nat} {R : Nat → Rf} {EF : Nat → Nat} {s X : Int} (hS : Sg S P Q r1 R EF s X) (h45 : ∀ h : 0 < S.size, S[0] = 45) :
    Calls Tryz.prog 98 #[.string S] w fun e w' => e = .returned (.tuple #[.int .u64 (R Q).m, .int .i64 X, .bool true, .bool (R Q).tr, .bool false, .int .i64 S.size, .bool true]) ∧ ∃ n, w' = w.drewN n := by
  have hsz := hS.small
  have hpos := hS.pos
  have hlt := hS.lt
  have hle := hS.le
  have hs0 : 0 < S.size := by omega
  have h0 := h45 hs0
  obtain ⟨z0, z1, z2⟩ := hS.digit 1 (by omega) (by omega) (by omega)
  have hs2 : (3 : Int) < (S.size : Int) := by omega
  have hs3 : 2 < S.size := by omega
  have e45 : (S[0].toNat : Int) = 45 := by rw [h0]; rfl
  have hne : ¬ (S = ByteArray.empty) := by rintro rfl; exact absurd hs0 (by decide)
  have hlow : S[2].toNat ≤ 57 := by
    by_cases h : 2 = P
    · obtain ⟨hh, h1⟩ := hS.point
      have : S[2] = S[P] := by congr 1
      rw [this, h1]; decide
    · exact (hS.digit 2 (by omega) (by omega) h).2.2
  have HLOW := Lib.hid (lower_low hlow)
  have HS := Lib.hid hS
  have HT := Lib.hid hS.tl
  clear hS hlow h45 h0
  go_enter Tryz.func98, Tryz.ntmps98
  go_wp2_with fail
  go_step3
  go_upto_region 12 with fail
  go_cut [27, 54] from 36 to 54 (fun _ v wx => v = .bool false ∧ wx = w)
  case first =>
    by_cases h48 : S[1].toNat = 48
    · have n48 : ((S[1].toNat : Int) == 48) = true := by simp; omega
      go_wp2_with fail
      refine (HLOW.out _).mono ?_
      rintro e w2 ⟨⟨x, hx, rfl⟩, rfl⟩
      have nx : ((x : Int) == 120) = false := by simp; omega
      go_wp2_with fail
      go_meet
      exact ⟨rfl, rfl⟩
    · have n48 : ((S[1].toNat : Int) == 48) = false := by simp; omega
      go_wp2_with fail
      go_meet
      exact ⟨rfl, rfl⟩
  case rest =>
    obtain ⟨rfl, rfl⟩ := hcut
    clear HLOW e45 hs2
    go_wp2_with fail
    go_step3
    go_wp2_with fail
    go_loopw [2, 5, 7, 9, 13, 14, 15, 16, 17] (fun v2 v5 v7 v9 v13 v14 v15 v16 v17 wr => ∃ k : Nat, 1 ≤ k ∧ k ≤ Q ∧ v2 = .int .u64 (R k).m ∧ v5 = .bool (R k).tr ∧ v7 = .int .i64 k ∧ v9 = .bool false ∧ v13 = .bool (decide (P < k)) ∧ v14 = .bool (decide (1 < k)) ∧
      v15 = .int .i64 (R k).nd ∧ v16 = .int .i64 (R k).ndM ∧ v17 = .int .i64 (R k).dp ∧ wr = wc) (fun _ _ i _ _ _ _ _ _ _ => S.size - (intOf i).toNat)
    case atStart => exact ⟨1, by omega, by omega, by rw [HS.out.zero] <;> rfl, by rw [HS.out.zero] <;> rfl, by go_num, rfl, by first | (simp; done) | (simp; omega), by simp, by rw [HS.out.zero] <;> rfl, by rw [HS.out.zero] <;> rfl, by rw [HS.out.zero] <;> rfl, by trivial⟩
    case round =>
      obtain ⟨k, hk1, hk, rfl, rfl, rfl, rfl, rfl, rfl, rfl, rfl, rfl, rfl⟩ := hrel
      have hnd := HS.out.nd_le k hk1 hk
      have hd1 := HS.out.dp_lo k hk1 hk
      have hd2 := HS.out.dp_hi k hk1 hk
      have hm19 := HS.out.m_le k hk1 hk
      have hmlt := m_small (HS.out.m_lt k hk1 hk) (HS.out.m_le k hk1 hk)
      by_cases hkq : k < Q
      · have hks : k < S.size := by omega
        have hst := HS.out.step k hks hk1
        by_cases hkp : k = P
        · obtain ⟨_, hc⟩ := HS.out.point
          subst hkp
          have e46 : S[k] = 46 := hc
          rw [e46, rfStep_dot] at hst
          have HN := Lib.hid hst
          clear hst hmlt
          generalize R k = Z at *
          go_wp2_with fail
          go_roundw
          case rel =>
            exact ⟨k + 1, by omega, by omega, by rw [HN.out], by rw [HN.out], by go_num, rfl, by simp, by simp; omega, by rw [HN.out], by rw [HN.out], by rw [HN.out], by trivial⟩
          case measure => simp [intOf]; omega
        · obtain ⟨_, g1, g2⟩ := HS.out.digit k hk1 hkq hkp
          have n95 : ((S[k].toNat : Int) == 95) = false := by simp; omega
          have n46 : ((S[k].toNat : Int) == 46) = false := by simp; omega
          have b1 : (48 : Int) ≤ (S[k].toNat : Int) := by omega
          have b2 : (S[k].toNat : Int) ≤ 57 := by omega
          have HDEC : Hid (decide (P < k + 1) = decide (P < k)) := Lib.hid (by simp only [decide_eq_decide]; omega)
          by_cases hz : S[k].toNat = 48 ∧ (R k).nd = 0
          · rw [rfStep_zero hz.1 hz.2] at hst
            have HN := Lib.hid hst
            have n48 : ((S[k].toNat : Int) == 48) = true := by simp; omega
            have n0 : (((R k).nd : Int) == 0) = true := by simp; omega
            have HZ := Lib.hid hz.2
            clear hst hmlt hz
            generalize R k = Z at *
            go_wp2_with fail
            go_roundw
            case rel =>
              exact ⟨k + 1, by omega, by omega, by rw [HN.out], by rw [HN.out], by go_num, rfl, by rw [HDEC.out], by simp; omega, by rw [HN.out], by rw [HN.out], by rw [HN.out], by trivial⟩
            case measure => simp [intOf]; omega
          · have a4 : IntKind.u8.wrap ((S[k].toNat : Int) - 48) = ((S[k].toNat - 48 : Nat) : Int) := by
              rw [IntWalk.u8_in _ (by omega)]; omega
            have a5 : S[k].toNat - 48 ≤ 9 := by omega
            by_cases h19 : (R k).ndM < 19
            · rw [rfStep_dig g1 hz h19] at hst
              have HN := Lib.hid hst
              have hm18 := m_small18 (HS.out.m_lt k hk1 hk) h19
              have h19I : ((R k).ndM : Int) < 19 := by omega
              have HM : Hid (((R k).m : Int) * 10 + ((S[k].toNat - 48 : Nat) : Int) = (((R k).m * 10 + (S[k].toNat - 48) : Nat) : Int)) := Lib.hid (by omega)
              by_cases h48 : S[k].toNat = 48
              · have n48 : ((S[k].toNat : Int) == 48) = true := by simp; omega
                have n0 : (((R k).nd : Int) == 0) = false := by simp; omega
                have HM' : Hid (((R k).m : Int) * 10 = (((R k).m * 10 + (S[k].toNat - 48) : Nat) : Int)) := Lib.hid (by omega)
                clear hst hmlt hz a4 HM
                generalize R k = Z at *
                go_wp2_with fail
                go_roundw
                case rel =>
                  exact ⟨k + 1, by omega, by omega, by rw [HN.out, ← HM'.out], by rw [HN.out], by go_num, rfl, by rw [HDEC.out], by simp; omega, by rw [HN.out]; rfl, by rw [HN.out]; rfl, by rw [HN.out], by trivial⟩
                case measure => simp [intOf]; omega
              · have n48 : ((S[k].toNat : Int) == 48) = false := by simp; omega
                clear hst hmlt hz
                generalize R k = Z at *
                go_wp2_with fail
                go_roundw
                case rel =>
                  exact ⟨k + 1, by omega, by omega, by rw [HN.out, ← HM.out], by rw [HN.out], by go_num, rfl, by rw [HDEC.out], by simp; omega, by rw [HN.out]; rfl, by rw [HN.out]; rfl, by rw [HN.out], by trivial⟩
                case measure => simp [intOf]; omega
            · rw [rfStep_more g1 hz h19] at hst
              have HN := Lib.hid hst
              have h19I : ¬ (((R k).ndM : Int) < 19) := by omega
              by_cases h48 : S[k].toNat = 48
              · have n48 : ((S[k].toNat : Int) == 48) = true := by simp; omega
                have m48 : ((S[k].toNat : Int) != 48) = false := by simp; omega
                have n0 : (((R k).nd : Int) == 0) = false := by simp; omega
                have hc48 : S[k] = 48 := UInt8.toNat_inj.1 h48
                have HC : Hid (((R k).tr || !(S[k] == 48)) = (R k).tr) := Lib.hid (by rw [hc48]; simp)
                clear hst hmlt hz a4 hc48
                generalize R k = Z at *
                go_wp2_with fail
                go_roundw
                case rel =>
                  exact ⟨k + 1, by omega, by omega, by rw [HN.out], by rw [HN.out]; exact congrArg Value.bool HC.out.symm, by go_num, rfl, by rw [HDEC.out], by simp; omega, by rw [HN.out]; rfl, by rw [HN.out], by rw [HN.out], by trivial⟩
                case measure => simp [intOf]; omega
              · have n48 : ((S[k].toNat : Int) == 48) = false := by simp; omega
                have m48 : ((S[k].toNat : Int) != 48) = true := by simp; omega
                have hc48 : (S[k] == 48) = false := by rw [beq_eq_false_iff_ne]; rintro h; exact h48 (by rw [h]; rfl)
                have HC : Hid (((R k).tr || !(S[k] == 48)) = true) := Lib.hid (by rw [hc48]; simp)
                clear hst hmlt hz hc48
                generalize R k = Z at *
                go_wp2_with fail
                go_roundw
                case rel =>
                  exact ⟨k + 1, by omega, by omega, by rw [HN.out], by rw [HN.out]; exact congrArg Value.bool HC.out.symm, by go_num, rfl, by rw [HDEC.out], by simp; omega, by rw [HN.out]; rfl, by rw [HN.out], by rw [HN.out], by trivial⟩
                case measure => simp [intOf]; omega
      · obtain rfl : k = Q := by omega
        have hpk : P < k := by omega
        have hk0 : 1 < k := by omega
        have HXE : Hid (X = if (R k).m = 0 then 0 else (R k).dp + (EF (S.size - r1) : Nat) * s - (R k).ndM) := Lib.hid HS.out.x
        clear hkq
        generalize hSq : R k = Z at *
        have HSQ := Lib.hid hSq
        clear hSq
        rcases HT.out with ⟨e1, e2, e3⟩ | ⟨hq, hc, hex⟩
        · subst e1 e3
          have HX0 : Hid (∀ v : Int, v = Z.dp - (Z.ndM : Nat) → ¬ Z.m = 0 → X = v) := Lib.hid fun v hv h0 => by
            rw [HXE.out, if_neg h0, hv, Int.mul_zero, Int.add_zero]
          by_cases hm0 : Z.m = 0
          · have n0 : ((Z.m : Int) != 0) = false := by simp; omega
            have HX2 : Hid (X = 0) := Lib.hid (by rw [HXE.out, if_pos hm0])
            clear hm0
            go_wp2_with fail
            rw [Exit.noGoto_ret]
            change bodyPost _ _ _ _ _ _
            go_returns
            refine ⟨?_, 0, rfl⟩
            rw [HX2.out, HSQ.out]
          · have n0 : ((Z.m : Int) != 0) = true := by simp; omega
            have HNZ := Lib.hid hm0
            clear hm0
            go_wp2_with fail
            rw [Exit.noGoto_ret]
            change bodyPost _ _ _ _ _ _
            go_returns
            refine ⟨?_, 0, rfl⟩
            rw [HX0.out _ rfl HNZ.out, HSQ.out]
        · have hc' : S[k] = 101 ∨ S[k] = 69 := by
            rcases hc with h | h
            · obtain ⟨_, h⟩ := bt_nat h; exact Or.inl h
            · obtain ⟨_, h⟩ := bt_nat h; exact Or.inr h
          have HL := Lib.hid (lower_E hc')
          have hcn : S[k].toNat = 101 ∨ S[k].toNat = 69 := by
            rcases hc' with h | h <;> rw [h] <;> simp
          have n95 : ((S[k].toNat : Int) == 95) = false := by simp; omega
          have n46 : ((S[k].toNat : Int) == 46) = false := by simp; omega
          have b1 : (48 : Int) ≤ (S[k].toNat : Int) := by omega
          have b2 : ¬ ((S[k].toNat : Int) ≤ 57) := by omega
          clear hc hc' hcn
          rcases hex with ⟨hr, rfl, hg⟩ | ⟨hr, rfl, hsg, hg⟩ | ⟨hr, rfl, hsg, hg⟩
          · have hr1 : k + 1 < S.size := by have := hg.1; omega
            obtain ⟨g1, g2⟩ := hg.digit (i := k + 1) (by omega) hr1
            have m43 : ((S[k + 1].toNat : Int) == 43) = false := by simp; omega
            have m45 : ((S[k + 1].toNat : Int) == 45) = false := by simp; omega
            have d1 : ¬ ((S[k + 1].toNat : Int) < 48) := by omega
            have d2 : ¬ ((57 : Int) < (S[k + 1].toNat : Int)) := by omega
            have HG := Lib.hid hg
            have HEL := Lib.hid (HS.out.es hg)
            have hrs : r1 < S.size := hg.1
            clear hg
            go_wp2_with fail
            refine (HL.out _).mono ?_
            rintro e w2 ⟨rfl, rfl⟩
            go_wp2_with fail
            clear g1 g2 m43 m45 d1 d2 n95 n46 b1 b2
            go_loopw [7, 9, 20] (fun i un ev wx => ∃ m : Nat, r1 ≤ m ∧ m ≤ S.size ∧ i = .int .i64 m ∧ un = .bool false ∧ ev = .int .i64 (EF (m - r1) : Nat) ∧ wx = wr) (fun i _ _ _ => S.size - (intOf i).toNat)
            case atStart => exact ⟨r1, Nat.le_refl _, by omega, by go_num, rfl, by rw [Nat.sub_self, HS.out.e0]; rfl, by trivial⟩
            case round =>
              obtain ⟨m, hm1, hm2, rfl, rfl, rfl, rfl⟩ := hrel
              by_cases hms : m < S.size
              · obtain ⟨g1, g2⟩ := HG.out.digit hm1 hms
                have hst := HS.out.ea m hms hm1 HG.out
                have b1 : (48 : Int) ≤ (S[m].toNat : Int) := by omega
                have b2 : (S[m].toNat : Int) ≤ 57 := by omega
                have n95 : ((S[m].toNat : Int) == 95) = false := by simp; omega
                have hel : EF (m - r1) ≤ 100000 := HEL.out m hm1 hm2
                have HST := Lib.hid hst
                clear hst
                by_cases he : EF (m - r1) < 10000
                · have HN : Hid ((EF (m - r1) : Int) * 10 + (S[m].toNat : Int) - 48 = (EF (m + 1 - r1) : Nat)) := Lib.hid (by
                    rw [HST.out, if_pos he]; omega)
                  have heI : (EF (m - r1) : Int) < 10000 := by omega
                  clear HST
                  generalize EF (m - r1) = ee at *
                  go_wp2_with fail
                  go_roundw
                  case rel => exact ⟨m + 1, by omega, by omega, by go_num, rfl, congrArg (Value.int .i64) (HN.out), by trivial⟩
                  case measure => simp [intOf]; omega
                · have HN : Hid (EF (m - r1) = EF (m + 1 - r1)) := Lib.hid (by
                    rw [HST.out, if_neg he])
                  have heI : ¬ ((EF (m - r1) : Int) < 10000) := by omega
                  clear HST
                  generalize EF (m - r1) = ee at *
                  go_wp2_with fail
                  go_roundw
                  case rel => exact ⟨m + 1, by omega, by omega, by go_num, rfl, by rw [HN.out], by trivial⟩
                  case measure => simp [intOf]; omega
              · obtain rfl : m = S.size := by omega
                have hel : EF (S.size - r1) ≤ 100000 := HEL.out _ hm1 (Nat.le_refl _)
                generalize EF (S.size - r1) = ee at *
                clear hms
                by_cases hm0 : Z.m = 0
                · have n0 : ((Z.m : Int) != 0) = false := by simp; omega
                  have HX2 : Hid (X = 0) := Lib.hid (by rw [HXE.out, if_pos hm0])
                  clear hm0
                  go_wp2_with fail
                  rw [Exit.noGoto_ret]
                  change bodyPost _ _ _ _ _ _
                  go_returns
                  refine ⟨?_, 0, rfl⟩
                  rw [HX2.out, HSQ.out]
                · have n0 : ((Z.m : Int) != 0) = true := by simp; omega
                  have HX2 : Hid (∀ v : Int, v = Z.dp + (ee : Nat) * 1 - (Z.ndM : Nat) → X = v) := Lib.hid (fun v hv => by rw [HXE.out, if_neg hm0, hv])
                  clear hm0
                  go_wp2_with fail
                  rw [Exit.noGoto_ret]
                  change bodyPost _ _ _ _ _ _
                  go_returns
                  refine ⟨?_, 0, rfl⟩
                  rw [HSQ.out]
                  refine congrArg (fun x => Ending.returned (Value.tuple #[Value.int .u64 (Z.m : Nat), Value.int .i64 x, .bool true, .bool Z.tr, .bool false, .int .i64 (S.size : Nat), .bool true])) ?_
                  have := HX2.out _ rfl
                  omega
          · have hr1 : k + 1 + 1 < S.size := by have := hg.1; omega
            have hr0 : k + 1 < S.size := by omega
            obtain ⟨g1, g2⟩ := hg.digit (i := k + 1 + 1) (by omega) hr1
            obtain ⟨_, hsg'⟩ := bt_nat hsg
            have m43 : (S[k + 1].toNat : Int) = 43 := by rw [hsg']; rfl
            have d1 : ¬ ((S[k + 1 + 1].toNat : Int) < 48) := by omega
            have d2 : ¬ ((57 : Int) < (S[k + 1 + 1].toNat : Int)) := by omega
            have HG := Lib.hid hg
            have HEL := Lib.hid (HS.out.es hg)
            have hrs : r1 < S.size := hg.1
            clear hg hsg hsg'
            go_wp2_with fail
            refine (HL.out _).mono ?_
            rintro e w2 ⟨rfl, rfl⟩
            go_wp2_with fail
            clear g1 g2 m43 d1 d2 n95 n46 b1 b2
            go_loopw [7, 9, 20] (fun i un ev wx => ∃ m : Nat, r1 ≤ m ∧ m ≤ S.size ∧ i = .int .i64 m ∧ un = .bool false ∧ ev = .int .i64 (EF (m - r1) : Nat) ∧ wx = wr) (fun i _ _ _ => S.size - (intOf i).toNat)
            case atStart => exact ⟨r1, Nat.le_refl _, by omega, by go_num, rfl, by rw [Nat.sub_self, HS.out.e0]; rfl, by trivial⟩
            case round =>
              obtain ⟨m, hm1, hm2, rfl, rfl, rfl, rfl⟩ := hrel
              by_cases hms : m < S.size
              · obtain ⟨g1, g2⟩ := HG.out.digit hm1 hms
                have hst := HS.out.ea m hms hm1 HG.out
                have b1 : (48 : Int) ≤ (S[m].toNat : Int) := by omega
                have b2 : (S[m].toNat : Int) ≤ 57 := by omega
                have n95 : ((S[m].toNat : Int) == 95) = false := by simp; omega
                have hel : EF (m - r1) ≤ 100000 := HEL.out m hm1 hm2
                have HST := Lib.hid hst
                clear hst
                by_cases he : EF (m - r1) < 10000
                · have HN : Hid ((EF (m - r1) : Int) * 10 + (S[m].toNat : Int) - 48 = (EF (m + 1 - r1) : Nat)) := Lib.hid (by
                    rw [HST.out, if_pos he]; omega)
                  have heI : (EF (m - r1) : Int) < 10000 := by omega
                  clear HST
                  generalize EF (m - r1) = ee at *
                  go_wp2_with fail
                  go_roundw
                  case rel => exact ⟨m + 1, by omega, by omega, by go_num, rfl, congrArg (Value.int .i64) (HN.out), by trivial⟩
                  case measure => simp [intOf]; omega
                · have HN : Hid (EF (m - r1) = EF (m + 1 - r1)) := Lib.hid (by
                    rw [HST.out, if_neg he])
                  have heI : ¬ ((EF (m - r1) : Int) < 10000) := by omega
                  clear HST
                  generalize EF (m - r1) = ee at *
                  go_wp2_with fail
                  go_roundw
                  case rel => exact ⟨m + 1, by omega, by omega, by go_num, rfl, by rw [HN.out], by trivial⟩
                  case measure => simp [intOf]; omega
              · obtain rfl : m = S.size := by omega
                have hel : EF (S.size - r1) ≤ 100000 := HEL.out _ hm1 (Nat.le_refl _)
                generalize EF (S.size - r1) = ee at *
                clear hms
                by_cases hm0 : Z.m = 0
                · have n0 : ((Z.m : Int) != 0) = false := by simp; omega
                  have HX2 : Hid (X = 0) := Lib.hid (by rw [HXE.out, if_pos hm0])
                  clear hm0
                  go_wp2_with fail
                  rw [Exit.noGoto_ret]
                  change bodyPost _ _ _ _ _ _
                  go_returns
                  refine ⟨?_, 0, rfl⟩
                  rw [HX2.out, HSQ.out]
                · have n0 : ((Z.m : Int) != 0) = true := by simp; omega
                  have HX2 : Hid (∀ v : Int, v = Z.dp + (ee : Nat) * 1 - (Z.ndM : Nat) → X = v) := Lib.hid (fun v hv => by rw [HXE.out, if_neg hm0, hv])
                  clear hm0
                  go_wp2_with fail
                  rw [Exit.noGoto_ret]
                  change bodyPost _ _ _ _ _ _
                  go_returns
                  refine ⟨?_, 0, rfl⟩
                  rw [HSQ.out]
                  refine congrArg (fun x => Ending.returned (Value.tuple #[Value.int .u64 (Z.m : Nat), Value.int .i64 x, .bool true, .bool Z.tr, .bool false, .int .i64 (S.size : Nat), .bool true])) ?_
                  have := HX2.out _ rfl
                  omega
          · have hr1 : k + 1 + 1 < S.size := by have := hg.1; omega
            have hr0 : k + 1 < S.size := by omega
            obtain ⟨g1, g2⟩ := hg.digit (i := k + 1 + 1) (by omega) hr1
            obtain ⟨_, hsg'⟩ := bt_nat hsg
            have m43 : (S[k + 1].toNat : Int) = 45 := by rw [hsg']; rfl
            have d1 : ¬ ((S[k + 1 + 1].toNat : Int) < 48) := by omega
            have d2 : ¬ ((57 : Int) < (S[k + 1 + 1].toNat : Int)) := by omega
            have HG := Lib.hid hg
            have HEL := Lib.hid (HS.out.es hg)
            have hrs : r1 < S.size := hg.1
            clear hg hsg hsg'
            go_wp2_with fail
            refine (HL.out _).mono ?_
            rintro e w2 ⟨rfl, rfl⟩
            go_wp2_with fail
            clear g1 g2 m43 d1 d2 n95 n46 b1 b2
            go_loopw [7, 9, 20] (fun i un ev wx => ∃ m : Nat, r1 ≤ m ∧ m ≤ S.size ∧ i = .int .i64 m ∧ un = .bool false ∧ ev = .int .i64 (EF (m - r1) : Nat) ∧ wx = wr) (fun i _ _ _ => S.size - (intOf i).toNat)
            case atStart => exact ⟨r1, Nat.le_refl _, by omega, by go_num, rfl, by rw [Nat.sub_self, HS.out.e0]; rfl, by trivial⟩
            case round =>
              obtain ⟨m, hm1, hm2, rfl, rfl, rfl, rfl⟩ := hrel
              by_cases hms : m < S.size
              · obtain ⟨g1, g2⟩ := HG.out.digit hm1 hms
                have hst := HS.out.ea m hms hm1 HG.out
                have b1 : (48 : Int) ≤ (S[m].toNat : Int) := by omega
                have b2 : (S[m].toNat : Int) ≤ 57 := by omega
                have n95 : ((S[m].toNat : Int) == 95) = false := by simp; omega
                have hel : EF (m - r1) ≤ 100000 := HEL.out m hm1 hm2
                have HST := Lib.hid hst
                clear hst
                by_cases he : EF (m - r1) < 10000
                · have HN : Hid ((EF (m - r1) : Int) * 10 + (S[m].toNat : Int) - 48 = (EF (m + 1 - r1) : Nat)) := Lib.hid (by
                    rw [HST.out, if_pos he]; omega)
                  have heI : (EF (m - r1) : Int) < 10000 := by omega
                  clear HST
                  generalize EF (m - r1) = ee at *
                  go_wp2_with fail
                  go_roundw
                  case rel => exact ⟨m + 1, by omega, by omega, by go_num, rfl, congrArg (Value.int .i64) (HN.out), by trivial⟩
                  case measure => simp [intOf]; omega
                · have HN : Hid (EF (m - r1) = EF (m + 1 - r1)) := Lib.hid (by
                    rw [HST.out, if_neg he])
                  have heI : ¬ ((EF (m - r1) : Int) < 10000) := by omega
                  clear HST
                  generalize EF (m - r1) = ee at *
                  go_wp2_with fail
                  go_roundw
                  case rel => exact ⟨m + 1, by omega, by omega, by go_num, rfl, by rw [HN.out], by trivial⟩
                  case measure => simp [intOf]; omega
              · obtain rfl : m = S.size := by omega
                have hel : EF (S.size - r1) ≤ 100000 := HEL.out _ hm1 (Nat.le_refl _)
                generalize EF (S.size - r1) = ee at *
                clear hms
                by_cases hm0 : Z.m = 0
                · have n0 : ((Z.m : Int) != 0) = false := by simp; omega
                  have HX2 : Hid (X = 0) := Lib.hid (by rw [HXE.out, if_pos hm0])
                  clear hm0
                  go_wp2_with fail
                  rw [Exit.noGoto_ret]
                  change bodyPost _ _ _ _ _ _
                  go_returns
                  refine ⟨?_, 0, rfl⟩
                  rw [HX2.out, HSQ.out]
                · have n0 : ((Z.m : Int) != 0) = true := by simp; omega
                  have HX2 : Hid (∀ v : Int, v = Z.dp + (ee : Nat) * (-1) - (Z.ndM : Nat) → X = v) := Lib.hid (fun v hv => by rw [HXE.out, if_neg hm0, hv])
                  clear hm0
                  go_wp2_with fail
                  rw [Exit.noGoto_ret]
                  change bodyPost _ _ _ _ _ _
                  go_returns
                  refine ⟨?_, 0, rfl⟩
                  rw [HSQ.out]
                  refine congrArg (fun x => Ending.returned (Value.tuple #[Value.int .u64 (Z.m : Nat), Value.int .i64 x, .bool true, .bool Z.tr, .bool false, .int .i64 (S.size : Nat), .bool true])) ?_
                  have := HX2.out _ rfl
                  omega
theorem readFloatN_any {w : World} {t S : ByteArray} {p q r : Nat} {s : Int} (hS : Shp t p q) (hT : Tl t q r s) (hz : S.size = t.size + 1) (h45 : ∀ h : 0 < S.size, S[0] = 45) (hb : ∀ k (h : k < t.size) (h' : k + 1 < S.size), S[k + 1] = t[k]) :
    Calls Tryz.prog 98 #[.string S] w fun e w' => e = .returned (.tuple #[.int .u64 (rfAt t q).m, .int .i64 (rfX t q r s), .bool true, .bool (rfAt t q).tr, .bool false, .int .i64 S.size, .bool true]) ∧ ∃ n, w' = w.drewN n :=
  readFloatN_sg (P := p + 1) (Q := q + 1) (r1 := r + 1) (R := fun k => rfAt t (k - 1)) (EF := rfE t r) (s := s) (X := rfX t q r s) (sg_of hS hT hz hb) h45
end Go.Proofs.YtbgjhgohffkonaaGreatDoor

