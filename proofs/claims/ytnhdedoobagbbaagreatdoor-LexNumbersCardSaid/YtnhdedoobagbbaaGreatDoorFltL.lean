/- A decimal's shift to the left. -/
import Derived.Test.YtnhdedoobagbbaaGreatDoorFltR
namespace Go.Proofs.YtnhdedoobagbbaaGreatDoor
open Go.RowKit

/-- The table of how many digits come new; all of it in blocks below B. -/
def ChG (B : Nat) (w : World) : Prop := 13 < B ∧ ∃ b o c : Nat, b < B ∧ w.cell? ⟨13, 0, none⟩ = some (.slice (some ⟨b, o, none⟩) 61 c) ∧
  ∀ k, k ≤ 60 → w.cell? ⟨b, o + k * 2, none⟩ = some (.int .i64 ((cheat k).1 : Nat)) ∧ w.cell? ⟨b, o + k * 2 + 1, none⟩ = some (.string ⟨(cheat k).2.toArray⟩)
theorem ChG.keeps {B B' : Nat} {w w' : World} (hB : B ≤ B') (hb : Below B' w w') (h : ChG B w) : ChG B w' := by
  obtain ⟨h1, b, o, c, h2, h3, h4⟩ := h
  refine ⟨h1, b, o, c, h2, ?_, fun k hk => ⟨?_, ?_⟩⟩
  · rw [hb.cell (show (13 : Nat) < B' by omega)]; exact h3
  · rw [hb.cell (show b < B' by omega)]; exact (h4 k hk).1
  · rw [hb.cell (show b < B' by omega)]; exact (h4 k hk).2
theorem cheat_small {k : Nat} (h : k ≤ 60) : (cheat k).1 ≤ 20 ∧ (cheat k).2.length ≤ 60 := by
  have : ∀ k : Fin 61, decide ((cheat k.val).1 ≤ 20 ∧ (cheat k.val).2.length ≤ 60) = true := by decide +kernel
  simpa using this ⟨k, by omega⟩
set_option maxHeartbeats 1000000 in
set_option maxRecDepth 100000 in
theorem leftShift_any {w : World} {g base : Nat} {D : Dc} (hG : ChG base w) (h : DB w g D) (h' : OkD D) (hp : 0 < D.nd) (hb : base ≤ g) (hd1 : -1000000000000 ≤ D.dp) (hd2 : D.dp ≤ 1000000000000) {k : Nat} (h1 : 1 ≤ k) (h2 : k ≤ 60) :
    Calls Tryz.prog 95 #[.pointer (some ⟨g, 0, none⟩), .int .u64 k] w fun e w' => (∃ v, e = .returned v) ∧ DB w' g (lsP k D) ∧ Below base w w' := by
  obtain ⟨_, b, o, c, hbb, q1, q2⟩ := hG
  obtain ⟨q3, q4⟩ := q2 k h2
  have hes := lsA_end h' hp h1 h2
  have HLE := Lib.hid hes
  obtain ⟨δ, hδ⟩ : ∃ δ, (cheat k).1 = δ := ⟨_, rfl⟩
  have hδ1 := (cheat_ok h1 h2).2.2.1
  have hδ2 := (cheat_small h2).1
  have hlen := (cheat_small h2).2
  rw [hδ] at q3 hδ1 hδ2
  obtain ⟨r, hr⟩ : ∃ r, pfxB D.d D.nd 0 (cheat k).2 = r := ⟨_, rfl⟩
  have hx : dlt k D = if r = true then δ - 1 else δ := by unfold dlt; rw [hr, hδ]
  have HX := Lib.hid hx
  have HPF : Hid (∀ n, Calls Tryz.prog 101 #[.slice (some ⟨g, 0, none⟩) D.nd 800, .string ⟨(cheat k).2.toArray⟩] (w.drewN n) fun e w' => e = .returned (.bool r) ∧ ∃ m, w' = w.drewN m) := Lib.hid fun n => by
    have := prefix_any (h.drewN n) h'.le ⟨(cheat k).2.toArray⟩ (by show (cheat k).2.toArray.size ≤ 1000; simp; omega)
    rw [show (⟨(cheat k).2.toArray⟩ : ByteArray).data.toList = (cheat k).2 from rfl, hr] at this
    exact this.mono fun _ _ ⟨he, m, hm⟩ => ⟨he, n + m, by rw [← World.drewN_drewN]; exact hm⟩
  have c1 := h.cell_nd
  have hle := h'.le
  have hkI : (k : Int) < 61 := by omega
  have hnI : (D.nd : Int) ≤ 800 := by omega
  have hn0 : (0 : Int) ≤ (D.nd : Int) := by omega
  clear q2 hes hδ hlen hx hr
  generalize (⟨(cheat k).2.toArray⟩ : ByteArray) = ct at *
  go_enter Tryz.func95, Tryz.ntmps95
  go_upto_region 1 with fail
  go_cut [30] from 17 to 30 (fun v wx => v = .bool r ∧ ∃ n, wx = w.drewN n)
  case first =>
    go_quiet ((go_at_call 101; exact HPF.out _))
    go_wp2_with fail
    go_meet
    exact ⟨rfl, _, rfl⟩
  case rest =>
    obtain ⟨rfl, nw, rfl⟩ := hcut
    obtain ⟨x, hx⟩ : ∃ x, dlt k D = x := ⟨_, rfl⟩
    obtain ⟨P, hP⟩ : ∃ P : Nat, P = 2 ^ k := ⟨_, rfl⟩
    have hPI : (2 : Int) ^ k = (P : Int) := by rw [hP]; simp
    have hP0 : 2 ≤ P := by rw [hP]; exact Nat.le_trans (by decide) (Nat.pow_le_pow_right (by decide) h1)
    have hP1 : P ≤ 2 ^ 60 := by rw [hP]; exact Nat.pow_le_pow_right (by decide) h2
    have hxl : x ≤ 20 := by
      rw [← hx, HX.out]
      split <;> omega
    have hxx : (r = true → δ = x + 1) ∧ (r = false → δ = x) := by
      rw [← hx, HX.out]
      cases r <;> simp <;> omega
    have HP := Lib.hid hP
    have HDX := Lib.hid hx
    have hr' : ∀ A B, lsA k D.nd 0 (D.nd + x) D.d D.tr = A → lsB x A.1 A.2.1 A.2.2 = B → lsP k D = trimD { D with d := B.1, nd := if 800 ≤ D.nd + x then 800 else D.nd + x, dp := D.dp + x, tr := B.2 } := by
      intro A B hA hB
      unfold lsP
      simp only [hx, hA, hB]
    have HR := Lib.hid hr'
    have hle2 := HLE.out.1
    rw [hx] at hle2
    have HL2 := Lib.hid hle2
    have hD0 := h.drewN nw
    have c2 := h.cell_dp
    clear hP hx hr' hle2 HX HLE HPF
    obtain ⟨A, hA⟩ : ∃ A, lsA k D.nd 0 (D.nd + x) D.d D.tr = A := ⟨_, rfl⟩
    have HA := Lib.hid hA
    rw [hA] at HL2
    clear hA
    cases r
    · obtain rfl : x = δ := (hxx.2 rfl).symm
      clear hxx
      go_wp2_with fail
      go_loopw [5, 6, 7, 8, 9] (fun r x6 n _ _ wr => ∃ (r0 n0 : Nat) (ri wi : Int) (d : Nat → Nat) (t : Bool), r0 ≤ D.nd ∧ wi = (r0 : Int) + (x : Int) ∧ ri = (r0 : Int) - 1 ∧ r = .int .i64 ri ∧ x6 = .int .i64 wi ∧ n = .int .u64 n0 ∧ n0 < P ∧ (∀ i, i < r0 → d i = D.d i) ∧ lsA k r0 n0 (r0 + x) d t = A ∧ DB wr g { D with d := d, tr := t } ∧ Below base w wr) (fun r _ _ _ _ _ => (intOf r + 1).toNat)
      case atStart => exact ⟨D.nd, 0, _, _, D.d, D.tr, Nat.le_refl _, rfl, rfl, rfl, rfl, rfl, by omega, fun _ _ => rfl, HA.out, hD0, below_drewN (Below.refl _ _) _⟩
      case round =>
        clear hD0
        obtain ⟨r0, n0, ri, wi, d, t, hr0, hwi, hri, rfl, rfl, rfl, hn0, hdd, he, hD, hB⟩ := hrel
        have HE := Lib.hid he
        have HD := Lib.hid hD
        have HDD := Lib.hid hdd
        clear he hD hdd
        cases r0 with
        | zero =>
          obtain rfl : ri = -1 := by omega
          obtain rfl : wi = (x : Int) := by omega
          clear hri hwi
          have e : (n0, d, t) = A := HE.out
          subst e
          have hnx : n0 < 10 ^ x := HL2.out
          obtain ⟨Bv, hBv⟩ : ∃ Bv, lsB x n0 d t = Bv := ⟨_, rfl⟩
          have HBV := Lib.hid hBv
          have HNX := Lib.hid hnx
          have hR2 := HR.out (n0, d, t) Bv HA.out hBv
          have HR2 := Lib.hid hR2
          have hnP : n0 < 2 ^ 60 := by omega
          clear hBv hnx hR2 HL2 HA HR HE
          go_wp2_with fail
          go_loopw [6, 7, 10, 11] (fun x6 n _ _ wx => ∃ (w2 n2 : Nat) (wi : Int) (d2 : Nat → Nat) (t2 : Bool), w2 ≤ x ∧ wi = (w2 : Int) ∧ x6 = .int .i64 wi ∧ n = .int .u64 n2 ∧ n2 < 2 ^ 60 ∧ n2 < 10 ^ w2 ∧ lsB w2 n2 d2 t2 = Bv ∧ DB wx g { D with d := d2, tr := t2 } ∧ Below base w wx) (fun x6 _ _ _ _ => (intOf x6).toNat)
          case atStart => exact ⟨x, n0, _, d, t, Nat.le_refl _, rfl, rfl, rfl, hnP, HNX.out, HBV.out, HD.out, hB⟩
          case round =>
            clear hB HD HDD
            obtain ⟨w2, n2, wi, d2, t2, hw2, hwi, rfl, rfl, hnP2, hn2, he2, hD2, hB2⟩ := hrel
            have HE2 := Lib.hid he2
            have HD2 := Lib.hid hD2
            have HN2 := Lib.hid hn2
            have c8 : wr.cell? ⟨g, 800, none⟩ = some (.int .i64 (D.nd : Nat)) := hD2.cell_nd
            have c9 : wr.cell? ⟨g, 801, none⟩ = some (.int .i64 D.dp) := hD2.cell_dp
            have c10 : wr.cell? ⟨g, 803, none⟩ = some (.bool t2) := hD2.cell_tr
            have f8 := hD2.free 800
            have f9 := hD2.free 801
            have f10 := hD2.free 803
            clear he2 hD2 hn2
            by_cases h0 : n2 = 0
            · subst h0
              subst hwi
              have e : (d2, t2) = Bv := by
                rw [← HE2.out]
                cases w2 with
                | zero => rfl
                | succ f => unfold lsB; rw [if_pos rfl]
              subst e
              go_upto_region 28 with fail
              have hDn := HD2.out.set_nd (D.nd + x)
              have hBn := hB2.setCell (p := ⟨g, 800, none⟩) hb (.int .i64 ((D.nd + x : Nat) : Int))
              have en : ((D.nd + x : Nat) : Int) = (D.nd : Int) + (x : Int) := by simp
              rw [en] at hDn hBn
              refine with_world' fun w5 hw5 => ?_
              rw [← hw5] at hDn hBn
              clear hw5
              have d1 : w5.cell? ⟨g, 800, none⟩ = some (.int .i64 ((D.nd : Int) + (x : Int))) := by rw [← en]; exact hDn.cell_nd
              have d2' : w5.cell? ⟨g, 801, none⟩ = some (.int .i64 D.dp) := hDn.cell_dp
              have d3 := hDn.free 800
              have d4 := hDn.free 801
              have HDN := Lib.hid hDn
              clear hDn en c8 c9 c10 f8 f9 f10
              by_cases h8 : 800 ≤ D.nd + x
              · have h8I : 800 ≤ (D.nd : Int) + (x : Int) := by omega
                go_wp2_with fail
                have hE1 := (HDN.out.set_nd 800).set_dp (D.dp + (x : Int))
                refine (trim_any (D := { D with d := d2, tr := t2, nd := 800, dp := D.dp + (x : Int) }) hE1 (Nat.le_refl _) hb).mono ?_
                rintro e w6 ⟨⟨v, rfl⟩, hD6, hB6⟩
                go_wp2_with fail
                go_end0
                refine ⟨⟨_, rfl⟩, ?_, ((hBn.setCell hb _).setCell hb _).trans hB6⟩
                rw [HR2.out, if_pos h8]
                exact hD6
              · have h8I : (D.nd : Int) + (x : Int) < 800 := by omega
                go_wp2_with fail
                have hE1 := HDN.out.set_dp (D.dp + (x : Int))
                refine (trim_any (D := { D with d := d2, tr := t2, nd := D.nd + x, dp := D.dp + (x : Int) }) hE1 (by show D.nd + x ≤ 800; omega) hb).mono ?_
                rintro e w6 ⟨⟨v, rfl⟩, hD6, hB6⟩
                go_wp2_with fail
                go_end0
                refine ⟨⟨_, rfl⟩, ?_, (hBn.setCell hb _).trans hB6⟩
                rw [HR2.out, if_neg h8]
                exact hD6
            · obtain ⟨f, rfl⟩ : ∃ f, w2 = f + 1 := by
                refine ⟨w2 - 1, ?_⟩
                rcases Nat.eq_zero_or_pos w2 with h | h
                · have := HN2.out; rw [h] at this; simp at this; omega
                · omega
              obtain rfl : wi = (f : Int) + 1 := by omega
              clear hwi
              have f3 := HD2.out.free f
              have e4 : (n2 : Int) - 10 * ((n2 : Int) / 10) = (n2 : Int) % 10 := by omega
              have m1 : (n2 : Int) % 10 ≤ 9 := by omega
              have m2 : 0 ≤ (n2 : Int) % 10 := by omega
              have hb8 : f < 800 := by omega
              have b2 : (f : Int) < 800 := by omega
              have c3 : wr.cell? ⟨g, f, none⟩ = some (.int .u8 (d2 f : Nat)) := HD2.out.cell_d hb8
              have hnI : ((n2 : Int) == 0) = false := by simp; omega
              have hpI : 0 < (n2 : Int) := by omega
              go_wp2_with fail
              clear e4
              go_roundw
              case rel =>
                refine ⟨f, n2 / 10, _, upd d2 f (n2 % 10 + 48), t2, by omega, rfl, by go_num, by go_num, by omega, ?_, ?_, ?_, hB2.setCell hb _⟩
                · have := HN2.out
                  rw [Nat.pow_succ] at this
                  omega
                · have := HE2.out
                  unfold lsB at this
                  rw [if_neg h0, if_pos hb8] at this
                  exact this
                · have ev : (n2 : Int) % 10 + 48 = ((n2 % 10 + 48 : Nat) : Int) := by simp
                  rw [ev]
                  exact HD2.out.set_d hb8 _
              case measure => simp [intOf]
        | succ m =>
          obtain rfl : ri = (m : Int) := by omega
          obtain rfl : wi = (m : Int) + (x : Int) + 1 := by omega
          clear hri hwi
          have hdg := h'.dig m (by omega)
          have c3 : wr.cell? ⟨g, m, none⟩ = some (.int .u8 (d m : Nat)) := HD.out.cell_d (by omega)
          have c4 : wr.cell? ⟨g, 803, none⟩ = some (.bool t) := HD.out.cell_tr
          have f3 := HD.out.free (m + x)
          have f4 := HD.out.free 803
          rw [HDD.out m (by omega)] at c3
          have b1 : (m : Int) < 800 := by omega
          obtain ⟨M, hM⟩ : ∃ M, n0 + dg D.d m * P = M := ⟨_, rfl⟩
          have hM1 : dg D.d m * P ≤ 9 * P := Nat.mul_le_mul_right _ (by unfold dg; omega)
          have e1 : ((D.d m : Int) - 48) * (P : Int) = ((dg D.d m * P : Nat) : Int) := by
            rw [Int.natCast_mul]
            unfold dg
            congr 1
            omega
          have e2 : IntKind.u64.wrap (((D.d m : Int) - 48) * (P : Int)) = (M : Int) - (n0 : Int) := by
            rw [e1, IntWalk.u64_in _ (by omega)]
            omega
          have hMb : M < 10 * P := by omega
          have hMn : n0 ≤ M := by omega
          have e3 : (n0 : Int) + ((M : Int) - (n0 : Int)) = (M : Int) := by omega
          have e4 : (M : Int) - 10 * ((M : Int) / 10) = (M : Int) % 10 := by omega
          have m1 : (M : Int) % 10 ≤ 9 := by omega
          have m2 : 0 ≤ (M : Int) % 10 := by omega
          have HM := Lib.hid hM
          have HDG : Hid (dg d m = dg D.d m) := Lib.hid (by unfold dg; rw [HDD.out m (by omega)])
          clear hM hM1 e1
          by_cases hw : m + x < 800
          · have c5 : wr.cell? ⟨g, m + x, none⟩ = some (.int .u8 (d (m + x) : Nat)) := HD.out.cell_d hw
            have b2 : (m : Int) + (x : Int) < 800 := by omega
            go_wp2_with fail
            clear e2 e3 e4
            go_roundw
            case rel =>
              refine ⟨m, M / 10, _, _, upd d (m + x) (M % 10 + 48), t, by omega, rfl, rfl, rfl, by go_num, by go_num, by omega, ?_, ?_, ?_, hB.setCell hb _⟩
              · intro i hi
                rw [upd_ne (by omega)]
                exact HDD.out i (by omega)
              · have := HE.out
                unfold lsA at this
                rw [show m + 1 + x - 1 = m + x by omega, if_pos hw, ← HP.out, HDG.out, HM.out] at this
                exact this
              · have ev : (M : Int) % 10 + 48 = ((M % 10 + 48 : Nat) : Int) := by simp
                rw [ev]
                exact HD.out.set_d hw _
            case measure => simp [intOf]
          · have b2 : 800 ≤ (m : Int) + (x : Int) := by omega
            by_cases hz : M % 10 = 0
            · have hzI : (M : Int) % 10 = 0 := by omega
              go_wp2_with fail
              clear e2 e3 e4
              go_roundw
              case rel =>
                refine ⟨m, M / 10, _, _, d, t, by omega, rfl, rfl, rfl, by go_num, by go_num, by omega, fun i hi => HDD.out i (by omega), ?_, HD.out, hB⟩
                have := HE.out
                unfold lsA at this
                rw [show m + 1 + x - 1 = m + x by omega, if_neg hw, ← HP.out, HDG.out, HM.out, hz] at this
                simpa using this
              case measure => simp [intOf]
            · have hzI : ((M : Int) % 10 == 0) = false := by simp; omega
              have hzJ : ((M : Int) % 10 != 0) = true := by simp; omega
              go_wp2_with fail
              clear e2 e3 e4
              go_roundw
              case rel =>
                refine ⟨m, M / 10, _, _, d, true, by omega, rfl, rfl, rfl, by go_num, by go_num, by omega, fun i hi => HDD.out i (by omega), ?_, HD.out.set_tr true, hB.setCell hb _⟩
                have := HE.out
                unfold lsA at this
                rw [show m + 1 + x - 1 = m + x by omega, if_neg hw, ← HP.out, HDG.out, HM.out, decide_eq_true hz, Bool.or_true] at this
                exact this
              case measure => simp [intOf]
    · obtain rfl := hxx.1 rfl
      clear hxx
      go_wp2_with fail
      go_loopw [5, 6, 7, 8, 9] (fun r x6 n _ _ wr => ∃ (r0 n0 : Nat) (ri wi : Int) (d : Nat → Nat) (t : Bool), r0 ≤ D.nd ∧ wi = (r0 : Int) + (x : Int) ∧ ri = (r0 : Int) - 1 ∧ r = .int .i64 ri ∧ x6 = .int .i64 wi ∧ n = .int .u64 n0 ∧ n0 < P ∧ (∀ i, i < r0 → d i = D.d i) ∧ lsA k r0 n0 (r0 + x) d t = A ∧ DB wr g { D with d := d, tr := t } ∧ Below base w wr) (fun r _ _ _ _ _ => (intOf r + 1).toNat)
      case atStart => exact ⟨D.nd, 0, _, _, D.d, D.tr, Nat.le_refl _, rfl, rfl, rfl, rfl, rfl, by omega, fun _ _ => rfl, HA.out, hD0, below_drewN (Below.refl _ _) _⟩
      case round =>
        clear hD0
        obtain ⟨r0, n0, ri, wi, d, t, hr0, hwi, hri, rfl, rfl, rfl, hn0, hdd, he, hD, hB⟩ := hrel
        have HE := Lib.hid he
        have HD := Lib.hid hD
        have HDD := Lib.hid hdd
        clear he hD hdd
        cases r0 with
        | zero =>
          obtain rfl : ri = -1 := by omega
          obtain rfl : wi = (x : Int) := by omega
          clear hri hwi
          have e : (n0, d, t) = A := HE.out
          subst e
          have hnx : n0 < 10 ^ x := HL2.out
          obtain ⟨Bv, hBv⟩ : ∃ Bv, lsB x n0 d t = Bv := ⟨_, rfl⟩
          have HBV := Lib.hid hBv
          have HNX := Lib.hid hnx
          have hR2 := HR.out (n0, d, t) Bv HA.out hBv
          have HR2 := Lib.hid hR2
          have hnP : n0 < 2 ^ 60 := by omega
          clear hBv hnx hR2 HL2 HA HR HE
          go_wp2_with fail
          go_loopw [6, 7, 10, 11] (fun x6 n _ _ wx => ∃ (w2 n2 : Nat) (wi : Int) (d2 : Nat → Nat) (t2 : Bool), w2 ≤ x ∧ wi = (w2 : Int) ∧ x6 = .int .i64 wi ∧ n = .int .u64 n2 ∧ n2 < 2 ^ 60 ∧ n2 < 10 ^ w2 ∧ lsB w2 n2 d2 t2 = Bv ∧ DB wx g { D with d := d2, tr := t2 } ∧ Below base w wx) (fun x6 _ _ _ _ => (intOf x6).toNat)
          case atStart => exact ⟨x, n0, _, d, t, Nat.le_refl _, rfl, rfl, rfl, hnP, HNX.out, HBV.out, HD.out, hB⟩
          case round =>
            clear hB HD HDD
            obtain ⟨w2, n2, wi, d2, t2, hw2, hwi, rfl, rfl, hnP2, hn2, he2, hD2, hB2⟩ := hrel
            have HE2 := Lib.hid he2
            have HD2 := Lib.hid hD2
            have HN2 := Lib.hid hn2
            have c8 : wr.cell? ⟨g, 800, none⟩ = some (.int .i64 (D.nd : Nat)) := hD2.cell_nd
            have c9 : wr.cell? ⟨g, 801, none⟩ = some (.int .i64 D.dp) := hD2.cell_dp
            have c10 : wr.cell? ⟨g, 803, none⟩ = some (.bool t2) := hD2.cell_tr
            have f8 := hD2.free 800
            have f9 := hD2.free 801
            have f10 := hD2.free 803
            clear he2 hD2 hn2
            by_cases h0 : n2 = 0
            · subst h0
              subst hwi
              have e : (d2, t2) = Bv := by
                rw [← HE2.out]
                cases w2 with
                | zero => rfl
                | succ f => unfold lsB; rw [if_pos rfl]
              subst e
              go_upto_region 28 with fail
              have hDn := HD2.out.set_nd (D.nd + x)
              have hBn := hB2.setCell (p := ⟨g, 800, none⟩) hb (.int .i64 ((D.nd + x : Nat) : Int))
              have en : ((D.nd + x : Nat) : Int) = (D.nd : Int) + (x : Int) := by simp
              rw [en] at hDn hBn
              refine with_world' fun w5 hw5 => ?_
              rw [← hw5] at hDn hBn
              clear hw5
              have d1 : w5.cell? ⟨g, 800, none⟩ = some (.int .i64 ((D.nd : Int) + (x : Int))) := by rw [← en]; exact hDn.cell_nd
              have d2' : w5.cell? ⟨g, 801, none⟩ = some (.int .i64 D.dp) := hDn.cell_dp
              have d3 := hDn.free 800
              have d4 := hDn.free 801
              have HDN := Lib.hid hDn
              clear hDn en c8 c9 c10 f8 f9 f10
              by_cases h8 : 800 ≤ D.nd + x
              · have h8I : 800 ≤ (D.nd : Int) + (x : Int) := by omega
                go_wp2_with fail
                have hE1 := (HDN.out.set_nd 800).set_dp (D.dp + (x : Int))
                refine (trim_any (D := { D with d := d2, tr := t2, nd := 800, dp := D.dp + (x : Int) }) hE1 (Nat.le_refl _) hb).mono ?_
                rintro e w6 ⟨⟨v, rfl⟩, hD6, hB6⟩
                go_wp2_with fail
                go_end0
                refine ⟨⟨_, rfl⟩, ?_, ((hBn.setCell hb _).setCell hb _).trans hB6⟩
                rw [HR2.out, if_pos h8]
                exact hD6
              · have h8I : (D.nd : Int) + (x : Int) < 800 := by omega
                go_wp2_with fail
                have hE1 := HDN.out.set_dp (D.dp + (x : Int))
                refine (trim_any (D := { D with d := d2, tr := t2, nd := D.nd + x, dp := D.dp + (x : Int) }) hE1 (by show D.nd + x ≤ 800; omega) hb).mono ?_
                rintro e w6 ⟨⟨v, rfl⟩, hD6, hB6⟩
                go_wp2_with fail
                go_end0
                refine ⟨⟨_, rfl⟩, ?_, (hBn.setCell hb _).trans hB6⟩
                rw [HR2.out, if_neg h8]
                exact hD6
            · obtain ⟨f, rfl⟩ : ∃ f, w2 = f + 1 := by
                refine ⟨w2 - 1, ?_⟩
                rcases Nat.eq_zero_or_pos w2 with h | h
                · have := HN2.out; rw [h] at this; simp at this; omega
                · omega
              obtain rfl : wi = (f : Int) + 1 := by omega
              clear hwi
              have f3 := HD2.out.free f
              have e4 : (n2 : Int) - 10 * ((n2 : Int) / 10) = (n2 : Int) % 10 := by omega
              have m1 : (n2 : Int) % 10 ≤ 9 := by omega
              have m2 : 0 ≤ (n2 : Int) % 10 := by omega
              have hb8 : f < 800 := by omega
              have b2 : (f : Int) < 800 := by omega
              have c3 : wr.cell? ⟨g, f, none⟩ = some (.int .u8 (d2 f : Nat)) := HD2.out.cell_d hb8
              have hnI : ((n2 : Int) == 0) = false := by simp; omega
              have hpI : 0 < (n2 : Int) := by omega
              go_wp2_with fail
              clear e4
              go_roundw
              case rel =>
                refine ⟨f, n2 / 10, _, upd d2 f (n2 % 10 + 48), t2, by omega, rfl, by go_num, by go_num, by omega, ?_, ?_, ?_, hB2.setCell hb _⟩
                · have := HN2.out
                  rw [Nat.pow_succ] at this
                  omega
                · have := HE2.out
                  unfold lsB at this
                  rw [if_neg h0, if_pos hb8] at this
                  exact this
                · have ev : (n2 : Int) % 10 + 48 = ((n2 % 10 + 48 : Nat) : Int) := by simp
                  rw [ev]
                  exact HD2.out.set_d hb8 _
              case measure => simp [intOf]
        | succ m =>
          obtain rfl : ri = (m : Int) := by omega
          obtain rfl : wi = (m : Int) + (x : Int) + 1 := by omega
          clear hri hwi
          have hdg := h'.dig m (by omega)
          have c3 : wr.cell? ⟨g, m, none⟩ = some (.int .u8 (d m : Nat)) := HD.out.cell_d (by omega)
          have c4 : wr.cell? ⟨g, 803, none⟩ = some (.bool t) := HD.out.cell_tr
          have f3 := HD.out.free (m + x)
          have f4 := HD.out.free 803
          rw [HDD.out m (by omega)] at c3
          have b1 : (m : Int) < 800 := by omega
          obtain ⟨M, hM⟩ : ∃ M, n0 + dg D.d m * P = M := ⟨_, rfl⟩
          have hM1 : dg D.d m * P ≤ 9 * P := Nat.mul_le_mul_right _ (by unfold dg; omega)
          have e1 : ((D.d m : Int) - 48) * (P : Int) = ((dg D.d m * P : Nat) : Int) := by
            rw [Int.natCast_mul]
            unfold dg
            congr 1
            omega
          have e2 : IntKind.u64.wrap (((D.d m : Int) - 48) * (P : Int)) = (M : Int) - (n0 : Int) := by
            rw [e1, IntWalk.u64_in _ (by omega)]
            omega
          have hMb : M < 10 * P := by omega
          have hMn : n0 ≤ M := by omega
          have e3 : (n0 : Int) + ((M : Int) - (n0 : Int)) = (M : Int) := by omega
          have e4 : (M : Int) - 10 * ((M : Int) / 10) = (M : Int) % 10 := by omega
          have m1 : (M : Int) % 10 ≤ 9 := by omega
          have m2 : 0 ≤ (M : Int) % 10 := by omega
          have HM := Lib.hid hM
          have HDG : Hid (dg d m = dg D.d m) := Lib.hid (by unfold dg; rw [HDD.out m (by omega)])
          clear hM hM1 e1
          by_cases hw : m + x < 800
          · have c5 : wr.cell? ⟨g, m + x, none⟩ = some (.int .u8 (d (m + x) : Nat)) := HD.out.cell_d hw
            have b2 : (m : Int) + (x : Int) < 800 := by omega
            go_wp2_with fail
            clear e2 e3 e4
            go_roundw
            case rel =>
              refine ⟨m, M / 10, _, _, upd d (m + x) (M % 10 + 48), t, by omega, rfl, rfl, rfl, by go_num, by go_num, by omega, ?_, ?_, ?_, hB.setCell hb _⟩
              · intro i hi
                rw [upd_ne (by omega)]
                exact HDD.out i (by omega)
              · have := HE.out
                unfold lsA at this
                rw [show m + 1 + x - 1 = m + x by omega, if_pos hw, ← HP.out, HDG.out, HM.out] at this
                exact this
              · have ev : (M : Int) % 10 + 48 = ((M % 10 + 48 : Nat) : Int) := by simp
                rw [ev]
                exact HD.out.set_d hw _
            case measure => simp [intOf]
          · have b2 : 800 ≤ (m : Int) + (x : Int) := by omega
            by_cases hz : M % 10 = 0
            · have hzI : (M : Int) % 10 = 0 := by omega
              go_wp2_with fail
              clear e2 e3 e4
              go_roundw
              case rel =>
                refine ⟨m, M / 10, _, _, d, t, by omega, rfl, rfl, rfl, by go_num, by go_num, by omega, fun i hi => HDD.out i (by omega), ?_, HD.out, hB⟩
                have := HE.out
                unfold lsA at this
                rw [show m + 1 + x - 1 = m + x by omega, if_neg hw, ← HP.out, HDG.out, HM.out, hz] at this
                simpa using this
              case measure => simp [intOf]
            · have hzI : ((M : Int) % 10 == 0) = false := by simp; omega
              have hzJ : ((M : Int) % 10 != 0) = true := by simp; omega
              go_wp2_with fail
              clear e2 e3 e4
              go_roundw
              case rel =>
                refine ⟨m, M / 10, _, _, d, true, by omega, rfl, rfl, rfl, by go_num, by go_num, by omega, fun i hi => HDD.out i (by omega), ?_, HD.out.set_tr true, hB.setCell hb _⟩
                have := HE.out
                unfold lsA at this
                rw [show m + 1 + x - 1 = m + x by omega, if_neg hw, ← HP.out, HDG.out, HM.out, decide_eq_true hz, Bool.or_true] at this
                exact this
              case measure => simp [intOf]
end Go.Proofs.YtnhdedoobagbbaaGreatDoor
