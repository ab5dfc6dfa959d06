/- A decimal's shift to the right. -/
import Derived.Test.YtnhdedoobagbbaaGreatDoorFltU
import Derived.Deep.CutBlock
import Derived.Deep.DeepCutAuto
import Derived.LoopN
import Derived.Outline
namespace Go.Proofs.YtnhdedoobagbbaaGreatDoor
open Go.RowKit

theorem u64_and_mask (n k : Nat) (hk : k ≤ 60) (hn : n < 2 ^ 64) : bits .and .u64 (n : Int) (((2 ^ k : Nat) : Int) - 1) = ((n % 2 ^ k : Nat) : Int) := by
  have hp := two_pow_pos k
  have hp2 : 2 ^ k ≤ 2 ^ 60 := Nat.pow_le_pow_right (by decide) hk
  have e : (((2 ^ k : Nat) : Int) - 1) = ((2 ^ k - 1 : Nat) : Int) := by omega
  rw [e]
  have key : (BitVec.ofInt 64 (n : Int) &&& BitVec.ofInt 64 ((2 ^ k - 1 : Nat) : Int)).toNat = n % 2 ^ k := by
    rw [BitVec.toNat_and, BitVec.toNat_ofInt, BitVec.toNat_ofInt]
    have e1 : ((n : Int) % ((2 ^ 64 : Nat) : Int)).toNat = n := by omega
    have e2 : (((2 ^ k - 1 : Nat) : Int) % ((2 ^ 64 : Nat) : Int)).toNat = 2 ^ k - 1 := by omega
    rw [e1, e2, Nat.and_two_pow_sub_one_eq_mod]
  show IntKind.u64.wrap ((BitVec.ofInt 64 (n : Int) &&& BitVec.ofInt 64 ((2 ^ k - 1 : Nat) : Int)).toNat : Nat) = _
  rw [key]
  have : n % 2 ^ k < 2 ^ k := Nat.mod_lt _ hp
  exact IntWalk.u64_in _ (by omega)
theorem div_le_int {n P m : Nat} (h : n / P ≤ m) : (n : Int) / (P : Int) ≤ (m : Int) := by
  have e : (n : Int) / (P : Int) = ((n / P : Nat) : Int) := by simp
  rw [e]
  omega
theorem with_world' {P : Program} {c : Code} {Q : Exit → Act → World → Prop} {a : Act} {w : World} (h : ∀ w0 : World, w0 = w → c.wp P Q a w0) : c.wp P Q a w := h w rfl
set_option maxHeartbeats 1000000 in
set_option maxRecDepth 100000 in
theorem rightShift_any {w : World} {g base : Nat} {D : Dc} (h : DB w g D) (h' : OkD D) (hp : 0 < D.nd) (hb : base ≤ g) (hd1 : -1000000000000 ≤ D.dp) (hd2 : D.dp ≤ 1000000000000) {k : Nat} (h1 : 1 ≤ k) (h2 : k ≤ 60) :
    Calls Tryz.prog 96 #[.pointer (some ⟨g, 0, none⟩), .int .u64 k] w fun e w' => (∃ v, e = .returned v) ∧ DB w' g (rsP k D) ∧ Below base w w' := by
  obtain ⟨A, hA⟩ : ∃ A, rsA D.d k D.nd 0 0 = A := ⟨_, rfl⟩
  have hsp := rsA_spec h'.dig (k := k) D.nd 0 0 (by omega) (Or.inr ⟨rfl, hp, h'.lead hp⟩) (by have := two_pow_pos k; omega)
  rw [hA] at hsp
  have HA := Lib.hid hA
  have HSP := Lib.hid hsp
  clear hA hsp
  obtain ⟨P, hP⟩ : ∃ P : Nat, P = 2 ^ k := ⟨_, rfl⟩
  have hPI : (2 : Int) ^ k = (P : Int) := by rw [hP]; simp
  have hP0 : 2 ≤ P := by rw [hP]; exact Nat.le_trans (by decide) (Nat.pow_le_pow_right (by decide) h1)
  have hP1 : P ≤ 2 ^ 60 := by rw [hP]; exact Nat.pow_le_pow_right (by decide) h2
  have HP := Lib.hid hP
  clear hP
  go_enter Tryz.func96, Tryz.ntmps96
  go_upto_block 0 with fail
  go_cut [4, 6] from 12 to 48 (fun r n wx => r = .int .i64 (A.2 : Nat) ∧ n = .int .u64 (A.1 : Nat) ∧ wx = w)
  case first =>
    go_wp2_with fail
    go_loopw [4, 6] (fun r n wr => ∃ f r0 n0 : Nat, r0 + f = D.nd ∧ r = .int .i64 r0 ∧ n = .int .u64 n0 ∧ n0 < 10 * P ∧ (0 < n0 ∨ (r0 = 0 ∧ 0 < f ∧ 49 ≤ D.d 0)) ∧ rsA D.d k f n0 r0 = A ∧ wr = w) (fun r _ _ => D.nd - (intOf r).toNat)
    case atStart => exact ⟨D.nd, 0, 0, by omega, rfl, rfl, by omega, Or.inr ⟨rfl, hp, h'.lead hp⟩, HA.out, rfl⟩
    case round =>
      obtain ⟨f, r0, n0, hf, rfl, rfl, hn, hn0, he, rfl⟩ := hrel
      have HE := Lib.hid he
      clear he
      have c1 := h.cell_nd
      by_cases hz : n0 / P = 0
      · have hzb : ((n0 : Int) / (P : Int) == 0) = true := by rw [beq_iff_eq]; omega
        cases f with
        | zero =>
          have hrn : r0 = D.nd := by omega
          have hz0 : ((n0 : Int) == 0) = false := by simp; omega
          have hn1 : 0 < n0 := by omega
          have hle := h'.le
          clear hn0 hf
          go_wp2_with fail
          clear hzb
          go_loopw [4, 6] (fun r n wx => ∃ f2 r2 n2 : Nat, r = .int .i64 r2 ∧ n = .int .u64 n2 ∧ 0 < n2 ∧ n2 < 10 * P ∧ P ≤ n2 * 2 ^ f2 ∧ r2 + f2 = D.nd + k ∧ rsB k f2 n2 r2 = A ∧ wx = wr) (fun _ n _ => 10 * P - (intOf n).toNat)
          case atStart =>
            exact ⟨k, r0, n0, rfl, rfl, hn1, hn, by rw [HP.out]; exact Nat.le_mul_of_pos_left _ hn1, by omega, HE.out, rfl⟩
          case round =>
            obtain ⟨f2, r2, n2, rfl, rfl, hn2, hn3, hf2, hrf, he2, rfl⟩ := hrel
            have HE2 := Lib.hid he2
            have HF2 := Lib.hid hf2
            clear he2 hf2
            by_cases hz2 : n2 / P = 0
            · have hzb2 : ((n2 : Int) / (P : Int) == 0) = true := by rw [beq_iff_eq]; omega
              have hlt2 : n2 < P := by
                rcases Nat.lt_or_ge n2 P with h | h
                · exact h
                · have := Nat.div_pos h (by omega)
                  omega
              cases f2 with
              | zero => exfalso; have := HF2.out; simp at this; omega
              | succ f2 =>
                go_wp2_with fail
                go_roundw
                case rel =>
                  refine ⟨f2, r2 + 1, n2 * 10, by go_num, by go_num, by omega, by omega, ?_, by omega, ?_, by trivial⟩
                  · have := HF2.out
                    rw [Nat.pow_succ] at this
                    have e : n2 * 10 * 2 ^ f2 = 5 * (n2 * (2 ^ f2 * 2)) := by
                      rw [Nat.mul_comm (2 ^ f2) 2, ← Nat.mul_assoc n2 2, Nat.mul_comm (n2 * 10), Nat.mul_comm (n2 * 2)]
                      have : n2 * 10 = 5 * (n2 * 2) := by omega
                      rw [this, ← Nat.mul_assoc, ← Nat.mul_assoc, Nat.mul_comm (2 ^ f2) 5, Nat.mul_assoc]
                      exact Nat.mul_assoc _ _ _
                    omega
                  · have := HE2.out
                    unfold rsB at this
                    rw [if_pos (by rw [← HP.out]; exact hz2)] at this
                    exact this
                case measure => simp [intOf]; omega
            · have hzb2 : ((n2 : Int) / (P : Int) == 0) = false := by rw [beq_eq_false_iff_ne]; omega
              have e : (n2, r2) = A := by
                rw [← HE2.out]
                cases f2 with
                | zero => rfl
                | succ f2 =>
                  unfold rsB
                  rw [if_neg (by rw [← HP.out]; exact hz2)]
              subst e
              go_wp2_with fail
              go_meet
              exact ⟨rfl, rfl, rfl⟩
        | succ f =>
          have c2 := h.cell_d (i := r0) (by have := h'.le; omega)
          have hdg := h'.dig r0 (by omega)
          have b1 : (r0 : Int) < 800 := by have := h'.le; omega
          have hn1 : 0 < n0 ∨ (r0 = 0 ∧ 49 ≤ D.d 0) := by omega
          have hlt2 : n0 < P := by
            rcases Nat.lt_or_ge n0 P with h | h
            · exact h
            · have := Nat.div_pos h (by omega)
              omega
          have HN := Lib.hid hn1
          clear hn0 hn1
          go_wp2_with fail
          go_roundw
          case rel =>
            refine ⟨f, r0 + 1, n0 * 10 + dg D.d r0, by omega, by go_num, ?_, ?_, ?_, ?_, by trivial⟩
            · unfold dg; go_num
            · unfold dg; omega
            · left
              rcases HN.out with h | ⟨h, h'⟩
              · omega
              · subst h; unfold dg; omega
            · have := HE.out
              unfold rsA at this
              rw [if_pos (by rw [← HP.out]; exact hz)] at this
              exact this
          case measure => simp [intOf]; omega
      · have hzb : ((n0 : Int) / (P : Int) == 0) = false := by rw [beq_eq_false_iff_ne]; omega
        have e : (n0, r0) = A := by
          rw [← HE.out]
          cases f with
          | zero =>
            unfold rsA
            cases k with
            | zero => omega
            | succ k =>
              unfold rsB
              rw [if_neg (by rw [← HP.out]; exact hz)]
          | succ f =>
            unfold rsA
            rw [if_neg (by rw [← HP.out]; exact hz)]
        subst e
        go_wp2_with fail
        go_meet
        exact ⟨rfl, rfl, rfl⟩
  case rest =>
    obtain ⟨rfl, rfl, rfl⟩ := hcut
    have hA2 := HSP.out.2.2.2
    have hA1 := HSP.out.2.1
    rw [← HP.out] at hA1
    have hle := h'.le
    have c1 := h.cell_dp
    have f1 := h.free 801
    go_upto_region 14 with fail
    have hD1 := h.set_dp (D.dp - ((A.2 : Int) - 1))
    have hB1 := (Below.refl base wc).setCell (p := ⟨g, 801, none⟩) hb (.int .i64 (D.dp - ((A.2 : Int) - 1)))
    refine with_world' fun w1 hw1 => ?_
    rw [← hw1] at hD1 hB1
    clear hw1
    have HM : Hid (∀ n : Nat, n < 2 ^ 64 → bits .and .u64 (n : Int) ((P : Int) - 1) = ((n % P : Nat) : Int)) := Lib.hid (fun n hn => by rw [HP.out]; exact u64_and_mask n k h2 hn)
    obtain ⟨dp', hdp⟩ : ∃ x, D.dp - ((A.2 : Int) - 1) = x := ⟨_, rfl⟩
    rw [hdp] at hD1
    obtain ⟨C, hC⟩ : ∃ C, rsC k (D.nd - A.2) A.1 A.2 0 D.d = C := ⟨_, rfl⟩
    have HC := Lib.hid hC
    have HDP := Lib.hid hdp
    clear hC hdp c1 f1 hd1 hd2
    go_wp2_with fail
    go_loopw [4, 5, 6, 9, 10] (fun r x n _ _ wr => ∃ (f r0 w0 n0 : Nat) (d : Nat → Nat), f = D.nd - r0 ∧ r0 ≤ 1000 ∧ r = .int .i64 r0 ∧ x = .int .i64 w0 ∧ n = .int .u64 n0 ∧ w0 ≤ r0 ∧ w0 ≤ D.nd ∧ n0 < 10 * P ∧ Dig d D.nd ∧ rsC k f n0 r0 w0 d = C ∧ DB wr g { D with d := d, dp := dp' } ∧ Below base wc wr) (fun r _ _ _ _ _ => 1000 - (intOf r).toNat)
    case atStart => exact ⟨D.nd - A.2, A.2, 0, A.1, D.d, rfl, by omega, rfl, rfl, rfl, by omega, by omega, hA1, h'.dig, HC.out, hD1, hB1⟩
    case round =>
      obtain ⟨f, r0, w0, n0, d, hf, hr1, rfl, rfl, rfl, hw0, hw1, hn0, hdig, he, hD, hB⟩ := hrel
      have HE := Lib.hid he
      have c1 : wr.cell? ⟨g, 800, none⟩ = some (.int .i64 (D.nd : Nat)) := hD.cell_nd
      clear he
      by_cases hlt : r0 < D.nd
      · obtain ⟨f', rfl⟩ : ∃ f', f = f' + 1 := ⟨f - 1, by omega⟩
        have hm := HM.out n0 (by omega)
        have hml : n0 % P < P := Nat.mod_lt _ (by omega)
        have hq : n0 / P ≤ 9 := Nat.le_of_lt_succ (Nat.div_lt_of_lt_mul (by omega))
        have hdg := hdig r0 hlt
        have c2 : wr.cell? ⟨g, r0, none⟩ = some (.int .u8 (d r0 : Nat)) := hD.cell_d (by omega)
        have c3 : wr.cell? ⟨g, w0, none⟩ = some (.int .u8 (d w0 : Nat)) := hD.cell_d (by omega)
        have f3 := hD.free w0
        have b1 : (r0 : Int) < 800 := by omega
        have b2 : (w0 : Int) < 800 := by omega
        have q1 := div_le_int hq
        have q2 : 0 ≤ (n0 : Int) / (P : Int) := Int.ediv_nonneg (by omega) (by omega)
        have HD := Lib.hid hD
        go_wp2_with fail
        have ev : (n0 : Int) / (P : Int) + 48 = ((n0 / P + 48 : Nat) : Int) := by simp
        have em : (n0 : Int) % (P : Int) = ((n0 % P : Nat) : Int) := by simp
        go_roundw
        case rel =>
          refine ⟨f', r0 + 1, w0 + 1, n0 % P * 10 + dg d r0, upd d w0 (n0 / P + 48), by omega, by omega, by go_num, by go_num, ?_, by omega, by omega, ?_, hdig.upd hq, ?_, ?_, ?_⟩
          · rw [em]
            unfold dg
            exact congrArg (Value.int .u64) (by omega)
          · unfold dg; omega
          · have := HE.out
            unfold rsC at this
            rw [← HP.out] at this
            exact this
          · rw [ev]
            exact HD.out.set_d (by omega) _
          · exact hB.setCell hb _
        case measure => simp [intOf]; omega
      · have e : f = 0 := by omega
        subst e
        have e : (n0, w0, d) = C := HE.out
        subst e
        clear hf HE
        obtain ⟨E, hE⟩ : ∃ E, rsE k (k + 1) n0 w0 d D.tr = E := ⟨_, rfl⟩
        have HE := Lib.hid hE
        have hr' : rsP k D = trimD { D with d := E.2.1, nd := E.1, dp := dp', tr := E.2.2 } := by
          unfold rsP
          simp only [HA.out, HDP.out]
          rw [show rsC k (D.nd - A.2) A.1 A.2 0 D.d = (n0, w0, d) from HC.out]
          simp only [hE]
        have HR := Lib.hid hr'
        have hes := rsE_spec (k := k) (k + 1) n0 w0 d D.tr (hdig.mono (by omega)) (by omega) (by rw [← HP.out]; exact hn0)
        rw [hE] at hes
        have HES := Lib.hid hes
        clear hes hE hr' HC
        have hdw : Dig d w0 := hdig.mono (by omega)
        clear hdig
        go_wp2_with fail
        clear c1
        go_loopg [5, 6, 11] (k + 1) (fun f x n _ wx => ∃ (w2 n2 : Nat) (d2 : Nat → Nat) (t2 : Bool), f ≤ k + 1 ∧ x = .int .i64 w2 ∧ n = .int .u64 n2 ∧ w2 ≤ 800 ∧ n2 < 10 * P ∧ Dig d2 w2 ∧ 2 ^ (k + 1 - f) ∣ n2 ∧ (f = 0 → n2 = 0) ∧ rsE k f n2 w2 d2 t2 = E ∧ DB wx g { D with d := d2, dp := dp', tr := t2 } ∧ Below base wc wx)
        case atStart => exact ⟨w0, n0, d, D.tr, Nat.le_refl _, rfl, rfl, by omega, hn0, hdw, by simp, by omega, HE.out, hD, hB⟩
        case round =>
          clear hD hB w1 hB1 hD1
          obtain ⟨w2, n2, d2, t2, hf, rfl, rfl, hw2, hn2, hdig, hdv, hf0, he, hD, hB⟩ := hrel
          have HE2 := Lib.hid he
          have HD := Lib.hid hD
          have f3 := hD.free w2
          have f4 := hD.free 803
          have f5 := hD.free 800
          have c4 : wr.cell? ⟨g, 803, none⟩ = some (.bool t2) := hD.cell_tr
          have c5 : wr.cell? ⟨g, 800, none⟩ = some (.int .i64 (D.nd : Nat)) := hD.cell_nd
          clear he hD
          by_cases h0 : n2 = 0
          · subst h0
            have e : (w2, d2, t2) = E := by
              rw [← HE2.out]
              cases gk with
              | zero => rfl
              | succ f => unfold rsE; rw [if_pos rfl]
            subst e
            clear hf0 hdv
            go_wp2_with fail
            have hDn := HD.out.set_nd w2
            refine (trim_any (D := { D with d := d2, dp := dp', tr := t2, nd := w2 }) hDn hw2 hb).mono ?_
            rintro e w3 ⟨⟨v, rfl⟩, hD3, hB3⟩
            go_wp2_with fail
            go_end0
            refine ⟨⟨_, rfl⟩, ?_, ?_⟩
            · rw [HR.out]
              exact hD3
            · exact (hB.setCell hb _).trans hB3
          · obtain ⟨f, rfl⟩ : ∃ f, gk = f + 1 := ⟨gk - 1, by omega⟩
            have hm := HM.out n2 (by omega)
            have hml : n2 % P < P := Nat.mod_lt _ (by omega)
            have hq : n2 / P ≤ 9 := Nat.le_of_lt_succ (Nat.div_lt_of_lt_mul (by omega))
            have q1 := div_le_int hq
            have q2 : 0 ≤ (n2 : Int) / (P : Int) := Int.ediv_nonneg (by omega) (by omega)
            have ev : (n2 : Int) / (P : Int) + 48 = ((n2 / P + 48 : Nat) : Int) := by simp
            have em : (n2 : Int) % (P : Int) = ((n2 % P : Nat) : Int) := by simp
            have hdv2 : 2 ^ (k + 1 - f) ∣ n2 % P * 10 := by
              rw [show k + 1 - f = (k + 1 - (f + 1)) + 1 by omega, Nat.pow_succ]
              refine Nat.mul_dvd_mul ?_ (by decide)
              rw [HP.out]
              exact (Nat.dvd_mod_iff (Nat.pow_dvd_pow 2 (by omega))).2 hdv
            have hz2 : f = 0 → n2 % P * 10 = 0 := by
              intro hf
              subst hf
              rw [show k + 1 - (0 + 1) = k by omega, ← HP.out] at hdv
              rw [Nat.mod_eq_zero_of_dvd hdv]
            have HV := Lib.hid ev
            have HEM := Lib.hid em
            have HF := Lib.hid (⟨hdv2, hz2⟩ : _ ∧ _)
            clear ev em hdv2 hz2 hdv hf0
            have hnI : ((n2 : Int) == 0) = false := by simp; omega
            by_cases hw : w2 < 800
            · have b2 : (w2 : Int) < 800 := by omega
              have c3 : wr.cell? ⟨g, w2, none⟩ = some (.int .u8 (d2 w2 : Nat)) := HD.out.cell_d hw
              go_wp2_with fail
              go_roundg f
              case rel =>
                refine ⟨w2 + 1, n2 % P * 10, upd d2 w2 (n2 / P + 48), t2, by omega, by go_num, ?_, by omega, by omega, hdig.upd_next hq, HF.out.1, HF.out.2, ?_, ?_, ?_⟩
                · rw [HEM.out]
                  exact congrArg (Value.int .u64) (by omega)
                · have := HE2.out
                  unfold rsE at this
                  rw [if_neg h0, if_pos hw, ← HP.out] at this
                  exact this
                · rw [HV.out]
                  exact HD.out.set_d hw _
                · exact hB.setCell hb _
              case measure => omega
            · have hwI : w2 = 800 := by omega
              subst hwI
              by_cases hd0 : n2 / P = 0
              · have q3 : (n2 : Int) / (P : Int) = 0 := by
                  have e : (n2 : Int) / (P : Int) = ((n2 / P : Nat) : Int) := by simp
                  rw [e, hd0]
                  rfl
                go_wp2_with fail
                go_roundg f
                case rel =>
                  refine ⟨800, n2 % P * 10, d2, t2, by omega, rfl, ?_, by omega, by omega, hdig, HF.out.1, HF.out.2, ?_, HD.out, hB⟩
                  · rw [HEM.out]
                    exact congrArg (Value.int .u64) (by omega)
                  · have := HE2.out
                    unfold rsE at this
                    rw [if_neg h0, if_neg (by omega), ← HP.out, hd0] at this
                    simpa using this
                case measure => omega
              · have q3 : 0 < (n2 : Int) / (P : Int) := by
                  have e : (n2 : Int) / (P : Int) = ((n2 / P : Nat) : Int) := by simp
                  rw [e]; omega
                go_wp2_with fail
                go_roundg f
                case rel =>
                  refine ⟨800, n2 % P * 10, d2, true, by omega, rfl, ?_, by omega, by omega, hdig, HF.out.1, HF.out.2, ?_, HD.out.set_tr true, hB.setCell hb _⟩
                  · rw [HEM.out]
                    exact congrArg (Value.int .u64) (by omega)
                  · have := HE2.out
                    unfold rsE at this
                    rw [if_neg h0, if_neg (by omega), ← HP.out] at this
                    rw [decide_eq_true (Nat.pos_of_ne_zero hd0), Bool.or_true] at this
                    exact this
                case measure => omega
end Go.Proofs.YtnhdedoobagbbaaGreatDoor
