/- Gm: what is used of them. -/
import Derived.Test.YtkoghgnjjfnamaaGreatDoorGk
namespace Go.Proofs.YtkoghgnjjfnamaaGreatDoor
set_option maxRecDepth 100000
set_option maxHeartbeats 1000000
open Go.RowKit
def ChG (B : Nat) (w : World) : Prop := 14 < B ∧ ∃ b o c : Nat, b < B ∧ w.cell? ⟨14, 0, none⟩ = some (.slice (some ⟨b, o, none⟩) 61 c) ∧
 ∀ k, k ≤ 60 → w.cell? ⟨b, o + k * 2, none⟩ = some (.int .i64 ((cheat k).1 : Nat)) ∧ w.cell? ⟨b, o + k * 2 + 1, none⟩ = some (.string ⟨(cheat k).2.toArray⟩)
theorem ChG.keeps {B B' : Nat} {w w' : World} (hB : B ≤ B') (hb : Below B' w w') (h : ChG B w) : ChG B w' := by
 obtain ⟨h1, b, o, c, h2, h3, h4⟩ := h; refine ⟨h1, b, o, c, h2, ?_, fun k hk => ⟨?_, ?_⟩⟩
 · rw [hb.cell (show (14 : Nat) < B' by omega)]; exact h3
 · rw [hb.cell (show b < B' by omega)]; exact (h4 k hk).1
 · rw [hb.cell (show b < B' by omega)]; exact (h4 k hk).2
theorem cheat_small {k : Nat} (h : k ≤ 60) : (cheat k).1 ≤ 20 ∧ (cheat k).2.length ≤ 60 := by
 have : ∀ k : Fin 61, decide ((cheat k.val).1 ≤ 20 ∧ (cheat k.val).2.length ≤ 60) = true := by decide +kernel
 simpa using this ⟨k, by omega⟩
theorem leftShift_any {w : World} {g base : Nat} {D : Dc} (hG : ChG base w) (h : DB w g D) (h' : OkD D) (hp : 0 < D.nd) (hb : base ≤ g) (hd1 : -1000000000000 ≤ D.dp) (hd2 : D.dp ≤ 1000000000000) {k : Nat} (h1 : 1 ≤ k) (h2 : k ≤ 60) :
 Calls Tryz.prog 179 #[.pointer (some ⟨g, 0, none⟩), .int .u64 k] w fun e w' => (∃ v, e = .returned v) ∧ DB w' g (lsP k D) ∧ Below base w w' := by
 obtain ⟨_, b, o, c, hbb, q1, q2⟩ := hG; obtain ⟨q3, q4⟩ := q2 k h2; have hes := lsA_end h' hp h1 h2; have HLE := Lib.hid hes; obtain ⟨δ, hδ⟩ : ∃ δ, (cheat k).1 = δ := ⟨_, rfl⟩; have hδ1 := (cheat_ok h1 h2).2.2.1; have hδ2 := (cheat_small h2).1; have hlen := (cheat_small h2).2; rw [hδ] at q3 hδ1 hδ2; obtain ⟨r, hr⟩ : ∃ r, pfxB D.d D.nd 0 (cheat k).2 = r := ⟨_, rfl⟩; have hx : dlt k D = if r = true then δ - 1 else δ := by unfold dlt; rw [hr, hδ]
 have HX := Lib.hid hx; have HPF : Hid (∀ n, Calls Tryz.prog 199 #[.slice (some ⟨g, 0, none⟩) D.nd 800, .string ⟨(cheat k).2.toArray⟩] (w.drewN n) fun e w' => e = .returned (.bool r) ∧ ∃ m, w' = w.drewN m) := Lib.hid fun n => by
  have := prefix_any (h.drewN n) h'.le ⟨(cheat k).2.toArray⟩ (by show (cheat k).2.toArray.size ≤ 1000; simp; omega); rw [show (⟨(cheat k).2.toArray⟩ : ByteArray).data.toList = (cheat k).2 from rfl, hr] at this; exact this.mono fun _ _ ⟨he, m, hm⟩ => ⟨he, n + m, by rw [← World.drewN_drewN]; exact hm⟩
 have c1 := h.cell_nd; have hle := h'.le; have hkI : (k : Int) < 61 := by omega
 have hnI : (D.nd : Int) ≤ 800 := by omega
 have hn0 : (0 : Int) ≤ (D.nd : Int) := by omega
 clear q2 hes hδ hlen hx hr; generalize (⟨(cheat k).2.toArray⟩ : ByteArray) = ct at *; go_enter Tryz.func179, Tryz.ntmps179; go_upto_region 1 with fail
 go_cut [30] from 17 to 30 (fun v wx => v = .bool r ∧ ∃ n, wx = w.drewN n)
 case first =>
  go_quiet ((go_at_call 199; exact HPF.out _))
  go_wp2_with fail; go_meet; exact ⟨rfl, _, rfl⟩
 case rest =>
  obtain ⟨rfl, nw, rfl⟩ := hcut; obtain ⟨x, hx⟩ : ∃ x, dlt k D = x := ⟨_, rfl⟩; obtain ⟨P, hP⟩ : ∃ P : Nat, P = 2 ^ k := ⟨_, rfl⟩; have hPI : (2 : Int) ^ k = (P : Int) := by rw [hP]; simp
  have hP0 : 2 ≤ P := by rw [hP]; exact Nat.le_trans (by decide) (Nat.pow_le_pow_right (by decide) h1)
  have hP1 : P ≤ 2 ^ 60 := by rw [hP]; exact Nat.pow_le_pow_right (by decide) h2
  have hxl : x ≤ 20 := by
   rw [← hx, HX.out]; split <;> omega
  have hxx : (r = true → δ = x + 1) ∧ (r = false → δ = x) := by
   rw [← hx, HX.out]; cases r <;> simp <;> omega
  have HP := Lib.hid hP; have HDX := Lib.hid hx; have hr' : ∀ A B, lsA k D.nd 0 (D.nd + x) D.d D.tr = A → lsB x A.1 A.2.1 A.2.2 = B → lsP k D = trimD { D with d := B.1, nd := if 800 ≤ D.nd + x then 800 else D.nd + x, dp := D.dp + x, tr := B.2 } := by
   intro A B hA hB; unfold lsP; simp only [hx, hA, hB]
  have HR := Lib.hid hr'; have hle2 := HLE.out.1; rw [hx] at hle2; have HL2 := Lib.hid hle2; have hD0 := h.drewN nw; have c2 := h.cell_dp; clear hP hx hr' hle2 HX HLE HPF; obtain ⟨A, hA⟩ : ∃ A, lsA k D.nd 0 (D.nd + x) D.d D.tr = A := ⟨_, rfl⟩; have HA := Lib.hid hA; rw [hA] at HL2; clear hA; cases r
  · obtain rfl : x = δ := (hxx.2 rfl).symm
    clear hxx
    go_wp2_with fail; go_loopw [5, 6, 7, 8, 9] (fun r x6 n _ _ wr => ∃ (r0 n0 : Nat) (ri wi : Int) (d : Nat → Nat) (t : Bool), r0 ≤ D.nd ∧ wi = (r0 : Int) + (x : Int) ∧ ri = (r0 : Int) - 1 ∧ r = .int .i64 ri ∧ x6 = .int .i64 wi ∧ n = .int .u64 n0 ∧ n0 < P ∧ (∀ i, i < r0 → d i = D.d i) ∧ lsA k r0 n0 (r0 + x) d t = A ∧ DB wr g { D with d := d, tr := t } ∧ Below base w wr) (fun r _ _ _ _ _ => (intOf r + 1).toNat)
    case atStart => exact ⟨D.nd, 0, _, _, D.d, D.tr, Nat.le_refl _, rfl, rfl, rfl, rfl, rfl, by omega, fun _ _ => rfl, HA.out, hD0, below_drewN (Below.refl _ _) _⟩
    case round =>
     clear hD0; obtain ⟨r0, n0, ri, wi, d, t, hr0, hwi, hri, rfl, rfl, rfl, hn0, hdd, he, hD, hB⟩ := hrel; have HE := Lib.hid he; have HD := Lib.hid hD; have HDD := Lib.hid hdd; clear he hD hdd; cases r0 with
     | zero =>
       obtain rfl : ri = -1 := by omega
       obtain rfl : wi = (x : Int) := by omega
       clear hri hwi; have e : (n0, d, t) = A := HE.out; subst e; have hnx : n0 < 10 ^ x := HL2.out; obtain ⟨Bv, hBv⟩ : ∃ Bv, lsB x n0 d t = Bv := ⟨_, rfl⟩; have HBV := Lib.hid hBv; have HNX := Lib.hid hnx; have hR2 := HR.out (n0, d, t) Bv HA.out hBv; have HR2 := Lib.hid hR2; have hnP : n0 < 2 ^ 60 := by omega
       clear hBv hnx hR2 HL2 HA HR HE
       go_wp2_with fail; go_loopw [6, 7, 10, 11] (fun x6 n _ _ wx => ∃ (w2 n2 : Nat) (wi : Int) (d2 : Nat → Nat) (t2 : Bool), w2 ≤ x ∧ wi = (w2 : Int) ∧ x6 = .int .i64 wi ∧ n = .int .u64 n2 ∧ n2 < 2 ^ 60 ∧ n2 < 10 ^ w2 ∧ lsB w2 n2 d2 t2 = Bv ∧ DB wx g { D with d := d2, tr := t2 } ∧ Below base w wx) (fun x6 _ _ _ _ => (intOf x6).toNat)
       case atStart => exact ⟨x, n0, _, d, t, Nat.le_refl _, rfl, rfl, rfl, hnP, HNX.out, HBV.out, HD.out, hB⟩
       case round =>
        clear hB HD HDD; obtain ⟨w2, n2, wi, d2, t2, hw2, hwi, rfl, rfl, hnP2, hn2, he2, hD2, hB2⟩ := hrel; have HE2 := Lib.hid he2; have HD2 := Lib.hid hD2; have HN2 := Lib.hid hn2; have c8 : wr.cell? ⟨g, 800, none⟩ = some (.int .i64 (D.nd : Nat)) := hD2.cell_nd; have c9 : wr.cell? ⟨g, 801, none⟩ = some (.int .i64 D.dp) := hD2.cell_dp; have c10 : wr.cell? ⟨g, 803, none⟩ = some (.bool t2) := hD2.cell_tr; have f8 := hD2.free 800; have f9 := hD2.free 801; have f10 := hD2.free 803; clear he2 hD2 hn2; by_cases h0 : n2 = 0
        · subst h0
          subst hwi; have e : (d2, t2) = Bv := by
           rw [← HE2.out]; cases w2 with
           | zero => rfl
           | succ f => unfold lsB; rw [if_pos rfl]
          subst e; go_upto_region 28 with fail
          have hDn := HD2.out.set_nd (D.nd + x); have hBn := hB2.setCell (p := ⟨g, 800, none⟩) hb (.int .i64 ((D.nd + x : Nat) : Int)); have en : ((D.nd + x : Nat) : Int) = (D.nd : Int) + (x : Int) := by simp
          rw [en] at hDn hBn; refine with_world' fun w5 hw5 => ?_
          rw [← hw5] at hDn hBn; clear hw5; have d1 : w5.cell? ⟨g, 800, none⟩ = some (.int .i64 ((D.nd : Int) + (x : Int))) := by rw [← en]; exact hDn.cell_nd
          have d2' : w5.cell? ⟨g, 801, none⟩ = some (.int .i64 D.dp) := hDn.cell_dp; have d3 := hDn.free 800; have d4 := hDn.free 801; have HDN := Lib.hid hDn; clear hDn en c8 c9 c10 f8 f9 f10; by_cases h8 : 800 ≤ D.nd + x
          · have h8I : 800 ≤ (D.nd : Int) + (x : Int) := by omega
            go_wp2_with fail; have hE1 := (HDN.out.set_nd 800).set_dp (D.dp + (x : Int)); refine (trim_any (D := { D with d := d2, tr := t2, nd := 800, dp := D.dp + (x : Int) }) hE1 (Nat.le_refl _) hb).mono ?_; rintro e w6 ⟨⟨v, rfl⟩, hD6, hB6⟩
            go_wp2_with fail; go_end0; refine ⟨⟨_, rfl⟩, ?_, ((hBn.setCell hb _).setCell hb _).trans hB6⟩; rw [HR2.out, if_pos h8]; exact hD6
          · have h8I : (D.nd : Int) + (x : Int) < 800 := by omega
            go_wp2_with fail; have hE1 := HDN.out.set_dp (D.dp + (x : Int)); refine (trim_any (D := { D with d := d2, tr := t2, nd := D.nd + x, dp := D.dp + (x : Int) }) hE1 (by show D.nd + x ≤ 800; omega) hb).mono ?_; rintro e w6 ⟨⟨v, rfl⟩, hD6, hB6⟩
            go_wp2_with fail; go_end0; refine ⟨⟨_, rfl⟩, ?_, (hBn.setCell hb _).trans hB6⟩; rw [HR2.out, if_neg h8]; exact hD6
        · obtain ⟨f, rfl⟩ : ∃ f, w2 = f + 1 := by
           refine ⟨w2 - 1, ?_⟩; rcases Nat.eq_zero_or_pos w2 with h | h
           · have := HN2.out; rw [h] at this; simp at this; omega
           · omega
          obtain rfl : wi = (f : Int) + 1 := by omega
          clear hwi; have f3 := HD2.out.free f; have e4 : (n2 : Int) - 10 * ((n2 : Int) / 10) = (n2 : Int) % 10 := by omega
          have m1 : (n2 : Int) % 10 ≤ 9 := by omega
          have m2 : 0 ≤ (n2 : Int) % 10 := by omega
          have hb8 : f < 800 := by omega
          have b2 : (f : Int) < 800 := by omega
          have c3 : wr.cell? ⟨g, f, none⟩ = some (.int .u8 (d2 f : Nat)) := HD2.out.cell_d hb8; have hnI : ((n2 : Int) == 0) = false := by simp; omega
          have hpI : 0 < (n2 : Int) := by omega
          go_wp2_with fail; clear e4; go_roundw
          case rel =>
           refine ⟨f, n2 / 10, _, upd d2 f (n2 % 10 + 48), t2, by omega, rfl, by go_num, by go_num, by omega, ?_, ?_, ?_, hB2.setCell hb _⟩
           · have := HN2.out
             rw [Nat.pow_succ] at this; omega
           · have := HE2.out
             unfold lsB at this; rw [if_neg h0, if_pos hb8] at this; exact this
           · have ev : (n2 : Int) % 10 + 48 = ((n2 % 10 + 48 : Nat) : Int) := by simp
             rw [ev]; exact HD2.out.set_d hb8 _
          case measure => simp [intOf]
     | succ m =>
       obtain rfl : ri = (m : Int) := by omega
       obtain rfl : wi = (m : Int) + (x : Int) + 1 := by omega
       clear hri hwi; have hdg := h'.dig m (by omega); have c3 : wr.cell? ⟨g, m, none⟩ = some (.int .u8 (d m : Nat)) := HD.out.cell_d (by omega); have c4 : wr.cell? ⟨g, 803, none⟩ = some (.bool t) := HD.out.cell_tr; have f3 := HD.out.free (m + x); have f4 := HD.out.free 803; rw [HDD.out m (by omega)] at c3; have b1 : (m : Int) < 800 := by omega
       obtain ⟨M, hM⟩ : ∃ M, n0 + dg D.d m * P = M := ⟨_, rfl⟩; have hM1 : dg D.d m * P ≤ 9 * P := Nat.mul_le_mul_right _ (by unfold dg; omega); have e1 : ((D.d m : Int) - 48) * (P : Int) = ((dg D.d m * P : Nat) : Int) := by
        rw [Int.natCast_mul]; unfold dg; congr 1
        omega
       have e2 : IntKind.u64.wrap (((D.d m : Int) - 48) * (P : Int)) = (M : Int) - (n0 : Int) := by
        rw [e1, IntWalk.u64_in _ (by omega)]; omega
       have hMb : M < 10 * P := by omega
       have hMn : n0 ≤ M := by omega
       have e3 : (n0 : Int) + ((M : Int) - (n0 : Int)) = (M : Int) := by omega
       have e4 : (M : Int) - 10 * ((M : Int) / 10) = (M : Int) % 10 := by omega
       have m1 : (M : Int) % 10 ≤ 9 := by omega
       have m2 : 0 ≤ (M : Int) % 10 := by omega
       have HM := Lib.hid hM; have HDG : Hid (dg d m = dg D.d m) := Lib.hid (by unfold dg; rw [HDD.out m (by omega)]); clear hM hM1 e1; by_cases hw : m + x < 800
       · have c5 : wr.cell? ⟨g, m + x, none⟩ = some (.int .u8 (d (m + x) : Nat)) := HD.out.cell_d hw
         have b2 : (m : Int) + (x : Int) < 800 := by omega
         go_wp2_with fail; clear e2 e3 e4; go_roundw
         case rel =>
          refine ⟨m, M / 10, _, _, upd d (m + x) (M % 10 + 48), t, by omega, rfl, rfl, rfl, by go_num, by go_num, by omega, ?_, ?_, ?_, hB.setCell hb _⟩
          · intro i hi
            rw [upd_ne (by omega)]; exact HDD.out i (by omega)
          · have := HE.out
            unfold lsA at this; rw [show m + 1 + x - 1 = m + x by omega, if_pos hw, ← HP.out, HDG.out, HM.out] at this; exact this
          · have ev : (M : Int) % 10 + 48 = ((M % 10 + 48 : Nat) : Int) := by simp
            rw [ev]; exact HD.out.set_d hw _
         case measure => simp [intOf]
       · have b2 : 800 ≤ (m : Int) + (x : Int) := by omega
         by_cases hz : M % 10 = 0
         · have hzI : (M : Int) % 10 = 0 := by omega
           go_wp2_with fail; clear e2 e3 e4; go_roundw
           case rel =>
            refine ⟨m, M / 10, _, _, d, t, by omega, rfl, rfl, rfl, by go_num, by go_num, by omega, fun i hi => HDD.out i (by omega), ?_, HD.out, hB⟩
            have := HE.out; unfold lsA at this; rw [show m + 1 + x - 1 = m + x by omega, if_neg hw, ← HP.out, HDG.out, HM.out, hz] at this; simpa using this
           case measure => simp [intOf]
         · have hzI : ((M : Int) % 10 == 0) = false := by simp; omega
           have hzJ : ((M : Int) % 10 != 0) = true := by simp; omega
           go_wp2_with fail; clear e2 e3 e4; go_roundw
           case rel =>
            refine ⟨m, M / 10, _, _, d, true, by omega, rfl, rfl, rfl, by go_num, by go_num, by omega, fun i hi => HDD.out i (by omega), ?_, HD.out.set_tr true, hB.setCell hb _⟩
            have := HE.out; unfold lsA at this; rw [show m + 1 + x - 1 = m + x by omega, if_neg hw, ← HP.out, HDG.out, HM.out, decide_eq_true hz, Bool.or_true] at this; exact this
           case measure => simp [intOf]
  · obtain rfl := hxx.1 rfl
    clear hxx
    go_wp2_with fail; go_loopw [5, 6, 7, 8, 9] (fun r x6 n _ _ wr => ∃ (r0 n0 : Nat) (ri wi : Int) (d : Nat → Nat) (t : Bool), r0 ≤ D.nd ∧ wi = (r0 : Int) + (x : Int) ∧ ri = (r0 : Int) - 1 ∧ r = .int .i64 ri ∧ x6 = .int .i64 wi ∧ n = .int .u64 n0 ∧ n0 < P ∧ (∀ i, i < r0 → d i = D.d i) ∧ lsA k r0 n0 (r0 + x) d t = A ∧ DB wr g { D with d := d, tr := t } ∧ Below base w wr) (fun r _ _ _ _ _ => (intOf r + 1).toNat)
    case atStart => exact ⟨D.nd, 0, _, _, D.d, D.tr, Nat.le_refl _, rfl, rfl, rfl, rfl, rfl, by omega, fun _ _ => rfl, HA.out, hD0, below_drewN (Below.refl _ _) _⟩
    case round =>
     clear hD0; obtain ⟨r0, n0, ri, wi, d, t, hr0, hwi, hri, rfl, rfl, rfl, hn0, hdd, he, hD, hB⟩ := hrel; have HE := Lib.hid he; have HD := Lib.hid hD; have HDD := Lib.hid hdd; clear he hD hdd; cases r0 with
     | zero =>
       obtain rfl : ri = -1 := by omega
       obtain rfl : wi = (x : Int) := by omega
       clear hri hwi; have e : (n0, d, t) = A := HE.out; subst e; have hnx : n0 < 10 ^ x := HL2.out; obtain ⟨Bv, hBv⟩ : ∃ Bv, lsB x n0 d t = Bv := ⟨_, rfl⟩; have HBV := Lib.hid hBv; have HNX := Lib.hid hnx; have hR2 := HR.out (n0, d, t) Bv HA.out hBv; have HR2 := Lib.hid hR2; have hnP : n0 < 2 ^ 60 := by omega
       clear hBv hnx hR2 HL2 HA HR HE
       go_wp2_with fail; go_loopw [6, 7, 10, 11] (fun x6 n _ _ wx => ∃ (w2 n2 : Nat) (wi : Int) (d2 : Nat → Nat) (t2 : Bool), w2 ≤ x ∧ wi = (w2 : Int) ∧ x6 = .int .i64 wi ∧ n = .int .u64 n2 ∧ n2 < 2 ^ 60 ∧ n2 < 10 ^ w2 ∧ lsB w2 n2 d2 t2 = Bv ∧ DB wx g { D with d := d2, tr := t2 } ∧ Below base w wx) (fun x6 _ _ _ _ => (intOf x6).toNat)
       case atStart => exact ⟨x, n0, _, d, t, Nat.le_refl _, rfl, rfl, rfl, hnP, HNX.out, HBV.out, HD.out, hB⟩
       case round =>
        clear hB HD HDD; obtain ⟨w2, n2, wi, d2, t2, hw2, hwi, rfl, rfl, hnP2, hn2, he2, hD2, hB2⟩ := hrel; have HE2 := Lib.hid he2; have HD2 := Lib.hid hD2; have HN2 := Lib.hid hn2; have c8 : wr.cell? ⟨g, 800, none⟩ = some (.int .i64 (D.nd : Nat)) := hD2.cell_nd; have c9 : wr.cell? ⟨g, 801, none⟩ = some (.int .i64 D.dp) := hD2.cell_dp; have c10 : wr.cell? ⟨g, 803, none⟩ = some (.bool t2) := hD2.cell_tr; have f8 := hD2.free 800; have f9 := hD2.free 801; have f10 := hD2.free 803; clear he2 hD2 hn2; by_cases h0 : n2 = 0
        · subst h0
          subst hwi; have e : (d2, t2) = Bv := by
           rw [← HE2.out]; cases w2 with
           | zero => rfl
           | succ f => unfold lsB; rw [if_pos rfl]
          subst e; go_upto_region 28 with fail
          have hDn := HD2.out.set_nd (D.nd + x); have hBn := hB2.setCell (p := ⟨g, 800, none⟩) hb (.int .i64 ((D.nd + x : Nat) : Int)); have en : ((D.nd + x : Nat) : Int) = (D.nd : Int) + (x : Int) := by simp
          rw [en] at hDn hBn; refine with_world' fun w5 hw5 => ?_
          rw [← hw5] at hDn hBn; clear hw5; have d1 : w5.cell? ⟨g, 800, none⟩ = some (.int .i64 ((D.nd : Int) + (x : Int))) := by rw [← en]; exact hDn.cell_nd
          have d2' : w5.cell? ⟨g, 801, none⟩ = some (.int .i64 D.dp) := hDn.cell_dp; have d3 := hDn.free 800; have d4 := hDn.free 801; have HDN := Lib.hid hDn; clear hDn en c8 c9 c10 f8 f9 f10; by_cases h8 : 800 ≤ D.nd + x
          · have h8I : 800 ≤ (D.nd : Int) + (x : Int) := by omega
            go_wp2_with fail; have hE1 := (HDN.out.set_nd 800).set_dp (D.dp + (x : Int)); refine (trim_any (D := { D with d := d2, tr := t2, nd := 800, dp := D.dp + (x : Int) }) hE1 (Nat.le_refl _) hb).mono ?_; rintro e w6 ⟨⟨v, rfl⟩, hD6, hB6⟩
            go_wp2_with fail; go_end0; refine ⟨⟨_, rfl⟩, ?_, ((hBn.setCell hb _).setCell hb _).trans hB6⟩; rw [HR2.out, if_pos h8]; exact hD6
          · have h8I : (D.nd : Int) + (x : Int) < 800 := by omega
            go_wp2_with fail; have hE1 := HDN.out.set_dp (D.dp + (x : Int)); refine (trim_any (D := { D with d := d2, tr := t2, nd := D.nd + x, dp := D.dp + (x : Int) }) hE1 (by show D.nd + x ≤ 800; omega) hb).mono ?_; rintro e w6 ⟨⟨v, rfl⟩, hD6, hB6⟩
            go_wp2_with fail; go_end0; refine ⟨⟨_, rfl⟩, ?_, (hBn.setCell hb _).trans hB6⟩; rw [HR2.out, if_neg h8]; exact hD6
        · obtain ⟨f, rfl⟩ : ∃ f, w2 = f + 1 := by
           refine ⟨w2 - 1, ?_⟩; rcases Nat.eq_zero_or_pos w2 with h | h
           · have := HN2.out; rw [h] at this; simp at this; omega
           · omega
          obtain rfl : wi = (f : Int) + 1 := by omega
          clear hwi; have f3 := HD2.out.free f; have e4 : (n2 : Int) - 10 * ((n2 : Int) / 10) = (n2 : Int) % 10 := by omega
          have m1 : (n2 : Int) % 10 ≤ 9 := by omega
          have m2 : 0 ≤ (n2 : Int) % 10 := by omega
          have hb8 : f < 800 := by omega
          have b2 : (f : Int) < 800 := by omega
          have c3 : wr.cell? ⟨g, f, none⟩ = some (.int .u8 (d2 f : Nat)) := HD2.out.cell_d hb8; have hnI : ((n2 : Int) == 0) = false := by simp; omega
          have hpI : 0 < (n2 : Int) := by omega
          go_wp2_with fail; clear e4; go_roundw
          case rel =>
           refine ⟨f, n2 / 10, _, upd d2 f (n2 % 10 + 48), t2, by omega, rfl, by go_num, by go_num, by omega, ?_, ?_, ?_, hB2.setCell hb _⟩
           · have := HN2.out
             rw [Nat.pow_succ] at this; omega
           · have := HE2.out
             unfold lsB at this; rw [if_neg h0, if_pos hb8] at this; exact this
           · have ev : (n2 : Int) % 10 + 48 = ((n2 % 10 + 48 : Nat) : Int) := by simp
             rw [ev]; exact HD2.out.set_d hb8 _
          case measure => simp [intOf]
     | succ m =>
       obtain rfl : ri = (m : Int) := by omega
       obtain rfl : wi = (m : Int) + (x : Int) + 1 := by omega
       clear hri hwi; have hdg := h'.dig m (by omega); have c3 : wr.cell? ⟨g, m, none⟩ = some (.int .u8 (d m : Nat)) := HD.out.cell_d (by omega); have c4 : wr.cell? ⟨g, 803, none⟩ = some (.bool t) := HD.out.cell_tr; have f3 := HD.out.free (m + x); have f4 := HD.out.free 803; rw [HDD.out m (by omega)] at c3; have b1 : (m : Int) < 800 := by omega
       obtain ⟨M, hM⟩ : ∃ M, n0 + dg D.d m * P = M := ⟨_, rfl⟩; have hM1 : dg D.d m * P ≤ 9 * P := Nat.mul_le_mul_right _ (by unfold dg; omega); have e1 : ((D.d m : Int) - 48) * (P : Int) = ((dg D.d m * P : Nat) : Int) := by
        rw [Int.natCast_mul]; unfold dg; congr 1
        omega
       have e2 : IntKind.u64.wrap (((D.d m : Int) - 48) * (P : Int)) = (M : Int) - (n0 : Int) := by
        rw [e1, IntWalk.u64_in _ (by omega)]; omega
       have hMb : M < 10 * P := by omega
       have hMn : n0 ≤ M := by omega
       have e3 : (n0 : Int) + ((M : Int) - (n0 : Int)) = (M : Int) := by omega
       have e4 : (M : Int) - 10 * ((M : Int) / 10) = (M : Int) % 10 := by omega
       have m1 : (M : Int) % 10 ≤ 9 := by omega
       have m2 : 0 ≤ (M : Int) % 10 := by omega
       have HM := Lib.hid hM; have HDG : Hid (dg d m = dg D.d m) := Lib.hid (by unfold dg; rw [HDD.out m (by omega)]); clear hM hM1 e1; by_cases hw : m + x < 800
       · have c5 : wr.cell? ⟨g, m + x, none⟩ = some (.int .u8 (d (m + x) : Nat)) := HD.out.cell_d hw
         have b2 : (m : Int) + (x : Int) < 800 := by omega
         go_wp2_with fail; clear e2 e3 e4; go_roundw
         case rel =>
          refine ⟨m, M / 10, _, _, upd d (m + x) (M % 10 + 48), t, by omega, rfl, rfl, rfl, by go_num, by go_num, by omega, ?_, ?_, ?_, hB.setCell hb _⟩
          · intro i hi
            rw [upd_ne (by omega)]; exact HDD.out i (by omega)
          · have := HE.out
            unfold lsA at this; rw [show m + 1 + x - 1 = m + x by omega, if_pos hw, ← HP.out, HDG.out, HM.out] at this; exact this
          · have ev : (M : Int) % 10 + 48 = ((M % 10 + 48 : Nat) : Int) := by simp
            rw [ev]; exact HD.out.set_d hw _
         case measure => simp [intOf]
       · have b2 : 800 ≤ (m : Int) + (x : Int) := by omega
         by_cases hz : M % 10 = 0
         · have hzI : (M : Int) % 10 = 0 := by omega
           go_wp2_with fail; clear e2 e3 e4; go_roundw
           case rel =>
            refine ⟨m, M / 10, _, _, d, t, by omega, rfl, rfl, rfl, by go_num, by go_num, by omega, fun i hi => HDD.out i (by omega), ?_, HD.out, hB⟩
            have := HE.out; unfold lsA at this; rw [show m + 1 + x - 1 = m + x by omega, if_neg hw, ← HP.out, HDG.out, HM.out, hz] at this; simpa using this
           case measure => simp [intOf]
         · have hzI : ((M : Int) % 10 == 0) = false := by simp; omega
           have hzJ : ((M : Int) % 10 != 0) = true := by simp; omega
           go_wp2_with fail; clear e2 e3 e4; go_roundw
           case rel =>
            refine ⟨m, M / 10, _, _, d, true, by omega, rfl, rfl, rfl, by go_num, by go_num, by omega, fun i hi => HDD.out i (by omega), ?_, HD.out.set_tr true, hB.setCell hb _⟩
            have := HE.out; unfold lsA at this; rw [show m + 1 + x - 1 = m + x by omega, if_neg hw, ← HP.out, HDG.out, HM.out, decide_eq_true hz, Bool.or_true] at this; exact this
           case measure => simp [intOf]
theorem rsP_dp {D : Dc} (h : OkD D) (hp : 0 < D.nd) {k : Nat} (hk : 1 ≤ k) :
 (rsP k D).dp = D.dp - (((rsA D.d k D.nd 0 0).2 : Int) - 1) := by
 obtain ⟨_, h2, _⟩ := rsP_spec h hp hk; have e : ∀ D' : Dc, 0 < (trimD D').nd → (trimD D').dp = D'.dp := by
  intro D' h'; have h'' : 0 < trimN D'.d D'.nd := h'; show (if trimN D'.d D'.nd = 0 then 0 else D'.dp) = D'.dp; rw [if_neg (by omega)]
 unfold rsP at h2 ⊢; rw [e _ h2]
theorem rsP_dp_lo {D : Dc} (h : OkD D) (hp : 0 < D.nd) {k : Nat} (hk : 1 ≤ k) : D.dp - (800 + k) ≤ (rsP k D).dp ∧ (rsP k D).dp ≤ D.dp := by
 have hA := rsA_spec h.dig (k := k) D.nd 0 0 (by omega) (Or.inr ⟨rfl, hp, h.lead hp⟩) (by have := two_pow_pos k; omega); have hF := rsA_first h hp hk; have hle := h.le; rw [rsP_dp h hp hk]; omega
theorem rsP_dp_hi {D : Dc} (h : OkD D) (hp : 0 < D.nd) {k : Nat} (hk : 4 ≤ k) : (rsP k D).dp < D.dp := by
 have hF := rsA_first h hp (k := k) (by omega); rw [rsP_dp h hp (by omega)]; rcases hF with ⟨h1, h2⟩ | h2
 · exfalso
   have hA := rsA_spec h.dig (k := k) D.nd 0 0 (by omega) (Or.inr ⟨rfl, hp, h.lead hp⟩) (by have := two_pow_pos k; omega); have hd := (h.dig.dg (i := 0) hp).1; have : 2 ^ 4 ≤ 2 ^ k := Nat.pow_le_pow_right (by decide) hk; omega
 · omega
theorem lsP_dp {D : Dc} (h : OkD D) (hp : 0 < D.nd) {k : Nat} (h1 : 1 ≤ k) (h2 : k ≤ 60) : (lsP k D).dp = D.dp + (dlt k D : Nat) := by
 obtain ⟨_, h3, _⟩ := lsP_spec h hp h1 h2; have e : ∀ D' : Dc, 0 < (trimD D').nd → (trimD D').dp = D'.dp := by
  intro D' h'; have h'' : 0 < trimN D'.d D'.nd := h'; show (if trimN D'.d D'.nd = 0 then 0 else D'.dp) = D'.dp; rw [if_neg (by omega)]
 unfold lsP at h3 ⊢; rw [e _ h3]
theorem lsP_dp_hi {D : Dc} (h : OkD D) (hp : 0 < D.nd) {k : Nat} (h1 : 1 ≤ k) (h2 : k ≤ 60) : D.dp ≤ (lsP k D).dp ∧ (lsP k D).dp ≤ D.dp + 60 := by
 rw [lsP_dp h hp h1 h2]
 have := dlt_le h1 h2 D; omega
theorem rsP_neg (k : Nat) (D : Dc) : (rsP k D).neg = D.neg := rfl
theorem lsP_neg (k : Nat) (D : Dc) : (lsP k D).neg = D.neg := rfl
theorem shR_neg : ∀ (m : Nat) (D : Dc), (shR m D).neg = D.neg := by
 intro m; induction m using Nat.strongRecOn with
 | ind m ih =>
   intro D; rw [shR]; split
   · rw [ih (m - 60) (by omega), rsP_neg]
   · exact rsP_neg _ _
theorem shL_neg : ∀ (m : Nat) (D : Dc), (shL m D).neg = D.neg := by
 intro m; induction m using Nat.strongRecOn with
 | ind m ih =>
   intro D; rw [shL]; split
   · rw [ih (m - 60) (by omega), lsP_neg]
   · exact lsP_neg _ _
theorem shP_neg (k : Int) (D : Dc) : (shP k D).neg = D.neg := by
 unfold shP; split
 · rfl
 · split
   · exact shL_neg _ _
   · split
     · exact shR_neg _ _
     · rfl
theorem shR_dp : ∀ (m : Nat) {D : Dc}, 1 ≤ m → OkD D → 0 < D.nd → D.dp - 860 * ((m : Int) + 1) ≤ (shR m D).dp ∧ (shR m D).dp ≤ D.dp := by
 intro m; induction m using Nat.strongRecOn with
 | ind m ih =>
   intro D hm h hp; rw [shR]; split
   · obtain ⟨h1, h2, _⟩ := rsP_spec h hp (k := 60) (by decide)
     have h3 := rsP_dp_lo h hp (k := 60) (by decide)
     have := ih (m - 60) (by omega) (by omega) h1 h2; omega
   · have := rsP_dp_lo h hp hm
     omega
theorem shL_dp : ∀ (m : Nat) {D : Dc}, 1 ≤ m → OkD D → 0 < D.nd → D.dp ≤ (shL m D).dp ∧ (shL m D).dp ≤ D.dp + 60 * ((m : Int) + 1) := by
 intro m; induction m using Nat.strongRecOn with
 | ind m ih =>
   intro D hm h hp; rw [shL]; split
   · obtain ⟨h1, h2, _⟩ := lsP_spec h hp (k := 60) (by decide) (by decide)
     have h3 := lsP_dp_hi h hp (k := 60) (by decide) (by decide)
     have := ih (m - 60) (by omega) (by omega) h1 h2; omega
   · have := lsP_dp_hi h hp hm (by omega)
     omega
theorem shP_dp (k : Int) {D : Dc} (h : OkD D) (hp : 0 < D.nd) : D.dp - 860 * (k.natAbs + 1) ≤ (shP k D).dp ∧ (shP k D).dp ≤ D.dp + 60 * (k.natAbs + 1) := by
 unfold shP; rw [if_neg (by omega)]; split
 · have := shL_dp k.toNat (by omega) h hp
   omega
 · split
   · have := shR_dp (-k).toNat (by omega) h hp
     omega
   · omega
def phi (D : Dc) : Nat := if D.dp ≤ 0 then 0 else if D.dp = 1 then 3 * (D.d 0 - 48) else 27 * D.dp.toNat
theorem pwt_one : pwt 1 = 3 := rfl
theorem pwt_more {i : Nat} (h : 2 ≤ i) : 4 ≤ pwt i := by
 rcases Nat.lt_or_ge i 9 with h' | h'
 · have : ∀ i : Fin 9, 2 ≤ i.val → 4 ≤ pwt i.val := by decide
   exact this ⟨i, h'⟩ h
 · unfold pwt
   rw [List.getElem?_eq_none (by simpa using h')]; decide
theorem phi_step {D : Dc} (h : OkD D) (hp : 0 < D.nd) (hd : 0 < D.dp) : phi (rsP (pwt D.dp.toNat) D) + pwt D.dp.toNat ≤ phi D := by
 obtain ⟨h1, h2, h3⟩ := rsP_spec h hp (pwt_le D.dp.toNat).1; have h4 := (h1.dig 0 h2).2; have h5 := (h1.dig 0 h2).1; have h6 := (pwt_le D.dp.toNat).2; have h9 := (h.dig 0 hp).1; have h10 := h.lead hp; by_cases e : D.dp = 1
 · have e1 : D.dp.toNat = 1 := by omega
   have e2 : phi D = 3 * (D.d 0 - 48) := by
    simp [phi, e]
   rw [e2]; rw [e1, pwt_one] at h1 h2 h3 h4 h5 ⊢; generalize rsP 3 D = R at *; unfold phi; split
   · omega
   · split <;> omega
 · have h7 := rsP_dp_hi h hp (pwt_more (i := D.dp.toNat) (by omega))
   generalize rsP (pwt D.dp.toNat) D = R at *; generalize pwt D.dp.toNat = q at *; have e2 : phi D = 27 * D.dp.toNat := by
    simp [phi, e]
    omega
   rw [e2]; unfold phi; split
   · omega
   · split <;> omega
theorem shL_more {m : Nat} {D : Dc} (h : 60 < m) : shL m D = shL (m - 60) (lsP 60 D) := by rw [shL, if_pos h]
theorem shL_last {m : Nat} {D : Dc} (h : ¬ 60 < m) : shL m D = lsP m D := by rw [shL, if_neg h]
theorem shR_more {m : Nat} {D : Dc} (h : 60 < m) : shR m D = shR (m - 60) (rsP 60 D) := by rw [shR, if_pos h]
theorem shR_last {m : Nat} {D : Dc} (h : ¬ 60 < m) : shR m D = rsP m D := by rw [shR, if_neg h]
theorem shift_any {w : World} {g base : Nat} {D : Dc} (hG : ChG base w) (h : DB w g D) (h' : OkD D) (hp : 0 < D.nd) (hb : base ≤ g) (hd1 : -1000000000 ≤ D.dp) (hd2 : D.dp ≤ 1000000000) {k : Int} (h1 : -1000000 ≤ k) (h2 : k ≤ 1000000) :
 Calls Tryz.prog 140 #[.pointer (some ⟨g, 0, none⟩), .int .i64 k] w fun e w' => (∃ v, e = .returned v) ∧ DB w' g (shP k D) ∧ Below base w w' := by
 have c1 := h.cell_nd; have hnz : ((D.nd : Int) == 0) = false := by simp; omega
 obtain ⟨S, hS⟩ : ∃ S, shP k D = S := ⟨_, rfl⟩; have HS := Lib.hid hS; rw [hS]; clear hS; by_cases hk : 0 < k
 · obtain ⟨m, rfl⟩ : ∃ m : Nat, k = (m : Int) := ⟨k.toNat, by omega⟩
   have e : shL m D = S := by
    rw [← HS.out]; unfold shP; rw [if_neg (by omega), if_pos hk]; rfl
   have HE := Lib.hid e; clear e HS; have hkN : 0 < m := by omega
   go_enter Tryz.func140, Tryz.ntmps140
   go_wp2_with fail; go_loopw [1] (fun x wr => ∃ (m2 : Nat) (D2 : Dc), x = .int .i64 m2 ∧ 1 ≤ m2 ∧ m2 ≤ m ∧ OkD D2 ∧ 0 < D2.nd ∧ D.dp ≤ D2.dp ∧ D2.dp + 60 * m2 ≤ D.dp + 60 * m ∧ shL m2 D2 = S ∧ DB wr g D2 ∧ Below base w wr) (fun x _ => (intOf x).toNat)
   case atStart => exact ⟨m, D, rfl, by omega, by omega, h', hp, by omega, by omega, HE.out, h, Below.refl _ _⟩
   case round =>
    obtain ⟨m2, D2, rfl, hm1, hm2, ok2, hp2, hl, hh, he, hD, hB⟩ := hrel; have HE2 := Lib.hid he; have hG2 := hG.keeps (Nat.le_refl _) hB; clear he; by_cases hlt : 60 < m2
    · go_wp2_with fail
      refine (leftShift_any hG2 hD ok2 hp2 hb (by omega) (by omega) (k := 60) (by decide) (by decide)).mono ?_; rintro e w3 ⟨⟨v, rfl⟩, hD3, hB3⟩; obtain ⟨o1, o2, _⟩ := lsP_spec ok2 hp2 (k := 60) (by decide) (by decide); have o3 := lsP_dp_hi ok2 hp2 (k := 60) (by decide) (by decide); have HD := Lib.hid hD3; clear hD3
      go_wp2_with fail; go_roundw
      case rel =>
       refine ⟨m2 - 60, lsP 60 D2, by go_num, by omega, by omega, o1, o2, by omega, by omega, ?_, HD.out, hB.trans hB3⟩; rw [← shL_more hlt]; exact HE2.out
      case measure => simp [intOf]; omega
    · go_wp2_with fail
      refine (leftShift_any hG2 hD ok2 hp2 hb (by omega) (by omega) (k := m2) (by omega) (by omega)).mono ?_; rintro e w3 ⟨⟨v, rfl⟩, hD3, hB3⟩; rw [← shL_last hlt, HE2.out] at hD3
      go_wp2_with fail; go_end0; exact ⟨⟨_, rfl⟩, hD3, hB.trans hB3⟩
 · by_cases hk2 : k < 0
   · obtain ⟨m, rfl⟩ : ∃ m : Nat, k = -(m : Int) := ⟨(-k).toNat, by omega⟩
     have e : shR m D = S := by
      rw [← HS.out]; unfold shP; rw [if_neg (by omega), if_neg hk, if_pos hk2]; congr 1
      omega
     have HE := Lib.hid e; clear e HS; have hkN : 0 < m := by omega
     go_enter Tryz.func140, Tryz.ntmps140
     go_wp2_with fail; go_loopw [1] (fun x wr => ∃ (m2 : Nat) (D2 : Dc), x = .int .i64 (-(m2 : Int)) ∧ 1 ≤ m2 ∧ m2 ≤ m ∧ OkD D2 ∧ 0 < D2.nd ∧ D2.dp ≤ D.dp ∧ D.dp - 860 * (m - m2) ≤ D2.dp ∧ shR m2 D2 = S ∧ DB wr g D2 ∧ Below base w wr) (fun x _ => (-(intOf x)).toNat)
     case atStart => exact ⟨m, D, rfl, by omega, by omega, h', hp, by omega, by omega, HE.out, h, Below.refl _ _⟩
     case round =>
      obtain ⟨m2, D2, rfl, hm1, hm2, ok2, hp2, hl, hh, he, hD, hB⟩ := hrel; have HE2 := Lib.hid he; clear he; by_cases hlt : 60 < m2
      · go_wp2_with fail
        refine (rightShift_any hD ok2 hp2 hb (by omega) (by omega) (k := 60) (by decide) (by decide)).mono ?_; rintro e w3 ⟨⟨v, rfl⟩, hD3, hB3⟩; obtain ⟨o1, o2, _⟩ := rsP_spec ok2 hp2 (k := 60) (by decide); have o3 := rsP_dp_lo ok2 hp2 (k := 60) (by decide); have HD := Lib.hid hD3; clear hD3
        go_wp2_with fail; go_roundw
        case rel =>
         refine ⟨m2 - 60, rsP 60 D2, by go_num, by omega, by omega, o1, o2, by omega, by omega, ?_, HD.out, hB.trans hB3⟩; rw [← shR_more hlt]; exact HE2.out
        case measure => simp [intOf]; omega
      · go_wp2_with fail
        refine (rightShift_any hD ok2 hp2 hb (by omega) (by omega) (k := m2) (by omega) (by omega)).mono ?_; rintro e w3 ⟨⟨v, rfl⟩, hD3, hB3⟩; rw [← shR_last hlt, HE2.out] at hD3
        go_wp2_with fail; go_end0; exact ⟨⟨_, rfl⟩, hD3, hB.trans hB3⟩
   · have e : D = S := by
      rw [← HS.out]; unfold shP; rw [if_neg (by omega), if_neg hk, if_neg hk2]
     subst e; go_enter Tryz.func140, Tryz.ntmps140
     go_wp2_with fail; go_end0; exact ⟨⟨_, rfl⟩, h, Below.refl _ _⟩
theorem rounded_any {w : World} {g : Nat} {D : Dc} (h : DB w g D) (h' : OkD D) (hd1 : -1000000000000 ≤ D.dp) (hd2 : D.dp ≤ 1000000000000) :
 Calls Tryz.prog 193 #[.pointer (some ⟨g, 0, none⟩)] w fun e w' => e = .returned (.int .u64 (riP D : Nat)) ∧ ∃ n, w' = w.drewN n := by
 obtain ⟨S, hS⟩ : ∃ S, riP D = S := ⟨_, rfl⟩; have HS := Lib.hid hS; rw [hS]; clear hS; have c1 := h.cell_nd; have c2 := h.cell_dp; by_cases hbig : 20 < D.dp
 · have e : S = 18446744073709551615 := by
    rw [← HS.out]; unfold riP; rw [if_pos hbig]
   subst e; clear HS; go_enter Tryz.func193, Tryz.ntmps193
   go_wp2_with fail; go_ret; exact ⟨rfl, 0, rfl⟩
 · have e : (riB (D.dp.toNat - min D.dp.toNat D.nd) (riA D.d (min D.dp.toNat D.nd)) + if ruB D D.dp = true then 1 else 0) % 18446744073709551616 = S := by
    rw [← HS.out]; unfold riP; rw [if_neg hbig]
   have HE := Lib.hid e; have hle := h'.le; have HR : Hid (∀ n, Calls Tryz.prog 181 #[.pointer (some ⟨g, 0, none⟩), .int .i64 D.dp] (w.drewN n) fun e w' => e = .returned (.bool (ruB D D.dp)) ∧ ∃ m, w' = w.drewN m) := Lib.hid fun n =>
    (roundUp_any (h.drewN n) h'.le h'.dig D.dp (by omega) (by omega)).mono fun _ _ ⟨he, m, hm⟩ => ⟨he, n + m, by rw [← World.drewN_drewN]; exact hm⟩
   clear e HS; go_enter Tryz.func193, Tryz.ntmps193
   go_wp2_with fail; go_loopw [3, 4] (fun i n wr => ∃ k : Nat, k ≤ min D.dp.toNat D.nd ∧ i = .int .i64 k ∧ n = .int .u64 (riA D.d k : Nat) ∧ ∃ m, wr = w.drewN m) (fun i _ _ => D.nd - (intOf i).toNat)
   case atStart => exact ⟨0, by omega, rfl, rfl, 0, rfl⟩
   case round =>
    obtain ⟨k, hk, rfl, rfl, m, rfl⟩ := hrel; by_cases hlt : k < min D.dp.toNat D.nd
    · have c3 := h.cell_d (i := k) (by omega)
      have hdg := h'.dig k (by omega); have b1 : (k : Int) < 800 := by omega
      have b2 : (k : Int) < D.dp := by omega
      have b3 : (k : Int) < (D.nd : Int) := by omega
      have a4 : IntKind.u8.wrap ((D.d k : Int) - 48) = ((dg D.d k : Nat) : Int) := by
       unfold dg; rw [IntWalk.u8_in _ (by omega)]; omega
      have HN : Hid (IntKind.u64.wrap (IntKind.u64.wrap ((riA D.d k : Nat) * 10 : Int) + IntKind.u64.wrap (dg D.d k : Nat)) = ((riA D.d (k + 1) : Nat) : Int)) := Lib.hid (by
       show _ = (((riA D.d k * 10 + dg D.d k) % 18446744073709551616 : Nat) : Int); simp [IntKind.wrap, IntKind.bits, IntKind.signed]
       )
      go_wp2_with fail; go_roundw
      case rel => exact ⟨k + 1, by omega, by go_num, congrArg (Value.int .u64) HN.out, _, rfl⟩
      case measure => simp [intOf]; omega
    · have hkm : k = min D.dp.toNat D.nd := by omega
      have HK := Lib.hid hkm; by_cases hb1 : (k : Int) < D.dp
      · have hb2 : (D.nd : Int) ≤ (k : Int) := by omega
        clear hkm hlt
        go_wp2_with fail; go_loopw [3, 4] (fun i n wr => ∃ j : Nat, k ≤ j ∧ j ≤ max k D.dp.toNat ∧ i = .int .i64 j ∧ n = .int .u64 (riB (j - k) (riA D.d k) : Nat) ∧ ∃ m, wr = w.drewN m) (fun i _ _ => D.dp.toNat - (intOf i).toNat)
        case atStart => exact ⟨k, by omega, by omega, rfl, by rw [Nat.sub_self]; rfl, _, rfl⟩
        case round =>
         obtain ⟨j, hj1, hj2, rfl, rfl, m2, rfl⟩ := hrel; by_cases hlt : j < D.dp.toNat
         · first
            | (exfalso; omega)
            | (
             have b2 : (j : Int) < D.dp := by omega
             have HN : Hid (IntKind.u64.wrap ((riB (j - k) (riA D.d k) : Nat) * 10 : Int) = ((riB (j + 1 - k) (riA D.d k) : Nat) : Int)) := Lib.hid (by
              rw [show j + 1 - k = (j - k) + 1 by omega, riB_succ]; simp [IntKind.wrap, IntKind.bits, IntKind.signed])
             go_wp2_with fail; go_roundw
             case rel => exact ⟨j + 1, by omega, by omega, by go_num, congrArg (Value.int .u64) HN.out, _, rfl⟩
             case measure => simp [intOf]; omega)
         · have hjd : j = max k D.dp.toNat := by omega
           have HX : Hid (riB (j - k) (riA D.d k) = riB (D.dp.toNat - min D.dp.toNat D.nd) (riA D.d (min D.dp.toNat D.nd))) := Lib.hid (by
            have := HK.out; rw [← this]; congr 1
            omega)
           obtain ⟨N, hN⟩ : ∃ N, riB (j - k) (riA D.d k) = N := ⟨_, rfl⟩; rw [hN] at HX ⊢; have HNlt : N < 18446744073709551616 := by rw [← hN]; exact riB_lt _ (riA_lt _ _)
           clear hN hjd; obtain ⟨rb, hrb⟩ : ∃ rb, ruB D D.dp = rb := ⟨_, rfl⟩; rw [hrb] at HR; have HE2 : Hid ((N + if rb = true then 1 else 0) % 18446744073709551616 = S) := Lib.hid (by
            have := HE.out; rw [← HX.out, hrb] at this; exact this)
           clear hrb HE HX
           go_wp2_with fail; refine (HR.out _).mono ?_; rintro e w3 ⟨rfl, m3, rfl⟩; cases rb
           · go_wp2_with fail
             go_ret; refine ⟨?_, _, rfl⟩
             have := HE2.out; simp at this; rw [← this]; exact congrArg (fun x => Ending.returned (Value.int .u64 x)) (by omega)
           · go_wp2_with fail
             go_ret; refine ⟨?_, _, rfl⟩
             have := HE2.out; simp at this; rw [← this]; exact congrArg (fun x => Ending.returned (Value.int .u64 x)) (by simp [IntKind.wrap, IntKind.bits, IntKind.signed])
      · clear hkm hlt
        go_wp2_with fail; go_loopw [3, 4] (fun i n wr => ∃ j : Nat, k ≤ j ∧ j ≤ max k D.dp.toNat ∧ i = .int .i64 j ∧ n = .int .u64 (riB (j - k) (riA D.d k) : Nat) ∧ ∃ m, wr = w.drewN m) (fun i _ _ => D.dp.toNat - (intOf i).toNat)
        case atStart => exact ⟨k, by omega, by omega, rfl, by rw [Nat.sub_self]; rfl, _, rfl⟩
        case round =>
         obtain ⟨j, hj1, hj2, rfl, rfl, m2, rfl⟩ := hrel; by_cases hlt : j < D.dp.toNat
         · first
            | (exfalso; omega)
            | (
             have b2 : (j : Int) < D.dp := by omega
             have HN : Hid (IntKind.u64.wrap ((riB (j - k) (riA D.d k) : Nat) * 10 : Int) = ((riB (j + 1 - k) (riA D.d k) : Nat) : Int)) := Lib.hid (by
              rw [show j + 1 - k = (j - k) + 1 by omega, riB_succ]; simp [IntKind.wrap, IntKind.bits, IntKind.signed])
             go_wp2_with fail; go_roundw
             case rel => exact ⟨j + 1, by omega, by omega, by go_num, congrArg (Value.int .u64) HN.out, _, rfl⟩
             case measure => simp [intOf]; omega)
         · have hjd : j = max k D.dp.toNat := by omega
           have HX : Hid (riB (j - k) (riA D.d k) = riB (D.dp.toNat - min D.dp.toNat D.nd) (riA D.d (min D.dp.toNat D.nd))) := Lib.hid (by
            have := HK.out; rw [← this]; congr 1
            omega)
           obtain ⟨N, hN⟩ : ∃ N, riB (j - k) (riA D.d k) = N := ⟨_, rfl⟩; rw [hN] at HX ⊢; have HNlt : N < 18446744073709551616 := by rw [← hN]; exact riB_lt _ (riA_lt _ _)
           clear hN hjd; obtain ⟨rb, hrb⟩ : ∃ rb, ruB D D.dp = rb := ⟨_, rfl⟩; rw [hrb] at HR; have HE2 : Hid ((N + if rb = true then 1 else 0) % 18446744073709551616 = S) := Lib.hid (by
            have := HE.out; rw [← HX.out, hrb] at this; exact this)
           clear hrb HE HX
           go_wp2_with fail; refine (HR.out _).mono ?_; rintro e w3 ⟨rfl, m3, rfl⟩; cases rb
           · go_wp2_with fail
             go_ret; refine ⟨?_, _, rfl⟩
             have := HE2.out; simp at this; rw [← this]; exact congrArg (fun x => Ending.returned (Value.int .u64 x)) (by omega)
           · go_wp2_with fail
             go_ret; refine ⟨?_, _, rfl⟩
             have := HE2.out; simp at this; rw [← this]; exact congrArg (fun x => Ending.returned (Value.int .u64 x)) (by simp [IntKind.wrap, IntKind.bits, IntKind.signed])
end Go.Proofs.YtkoghgnjjfnamaaGreatDoor
