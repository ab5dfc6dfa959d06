/- Gk: what is used of them. -/
import Derived.Test.YtkoghgnjjfnamaaGreatDoorGj
import Derived.BigQuiet
import Derived.Deep.QuietTactic
import Derived.Deep.LoopGhost
import Derived.BigFrame
import Derived.IntWalk
import Derived.RegionTactic
import Derived.Deep.CutBlock
import Derived.Deep.DeepCutAuto
import Derived.LoopN
import Derived.Outline
namespace Go.Proofs.YtkoghgnjjfnamaaGreatDoor
set_option maxRecDepth 100000
set_option maxHeartbeats 1000000
open Go.RowKit
theorem i64_nat {n : Nat} (h : n ≤ 1000000) : IntKind.i64.wrap (n : Int) = (n : Int) := IntWalk.i64_in _ (by omega)
theorem trim_any {w : World} {g base : Nat} {D : Dc} (h : DB w g D) (hs : D.nd ≤ 800) (hb : base ≤ g) :
 Calls Tryz.prog 178 #[.pointer (some ⟨g, 0, none⟩)] w fun e w' => (∃ v, e = .returned v) ∧ DB w' g (trimD D) ∧ Below base w w' := by
 go_enter Tryz.func178, Tryz.ntmps178
 go_wp2_with fail; go_loopg [2] D.nd (fun k _ wr => k ≤ D.nd ∧ DB wr g { D with nd := k } ∧ trimN D.d k = trimN D.d D.nd ∧ Below base w wr)
 case atStart => exact ⟨Nat.le_refl _, h, rfl, Below.refl _ _⟩
 case round =>
  obtain ⟨hk, hD, ht, hB⟩ := hrel; have HT := Lib.hid ht; clear ht; have f0 := hD.free 800; have f1 := hD.free 801; cases gk with
  | zero =>
    have c1 : wr.cell? ⟨g, 800, none⟩ = some (.int .i64 0) := hD.cell_nd; have c2 : wr.cell? ⟨g, 801, none⟩ = some (.int .i64 D.dp) := hD.cell_dp; have e : trimD D = { D with nd := 0, dp := 0 } := by
     unfold trimD; rw [← HT.out]; rfl
    have HE := Lib.hid e; clear e
    go_wp2_with fail; go_quiet (fail)
    go_wp2_with fail; go_end0; rw [HE.out]; exact ⟨⟨_, rfl⟩, DB.set_dp (D := { D with nd := 0 }) (hD.drewN _) 0, (below_drewN hB _).setCell hb _⟩
  | succ m =>
    have c1 : wr.cell? ⟨g, 800, none⟩ = some (.int .i64 ((m : Int) + 1)) := hD.cell_nd; have c2 : wr.cell? ⟨g, m, none⟩ = some (.int .u8 (D.d m : Nat)) := hD.cell_d (by omega); have a1 := i64_nat (n := m) (by omega); by_cases hd : D.d m = 48
    · rw [hd] at c2
      have e : trimN D.d m = trimN D.d (m + 1) := by
       show _ = if D.d m = 48 then _ else _
       rw [if_pos hd]
      have HE := Lib.hid (e.trans HT.out); have HD := Lib.hid hD; clear e hd
      go_wp2_with fail; go_quiet (fail)
      go_wp2_with fail; go_roundg m
      case measure => omega
      case rel => exact ⟨by omega, DB.set_nd (D := { D with nd := m + 1 }) (HD.out.drewN _) m, HE.out, (below_drewN hB _).setCell hb _⟩
    · have hdb : (((D.d m : Nat) : Int) == 48) = false := by simp; omega
      have e : trimD D = { D with nd := m + 1 } := by
       unfold trimD; rw [← HT.out]; have : trimN D.d (m + 1) = m + 1 := by
        show (if D.d m = 48 then _ else _) = _; rw [if_neg hd]
       rw [this]; rfl
      have HE := Lib.hid e; clear e hd
      go_wp2_with fail; go_quiet (fail)
      go_wp2_with fail; go_end0; rw [HE.out]; exact ⟨⟨_, rfl⟩, hD.drewN _, below_drewN hB _⟩
theorem drop_at {s : ByteArray} {k : Nat} (h : k < s.size) : s.data.toList.drop k = s[k] :: s.data.toList.drop (k + 1) := by
 rw [List.drop_eq_getElem_cons (by simpa using h)]; rfl
theorem prefix_any {w : World} {g : Nat} {D : Dc} (h : DB w g D) (hs : D.nd ≤ 800) (s : ByteArray) (hz : s.size ≤ 1000) :
 Calls Tryz.prog 199 #[.slice (some ⟨g, 0, none⟩) D.nd 800, .string s] w fun e w' => e = .returned (.bool (pfxB D.d D.nd 0 s.data.toList)) ∧ ∃ n, w' = w.drewN n := by
 obtain ⟨r, hr⟩ : ∃ r, pfxB D.d D.nd 0 s.data.toList = r := ⟨_, rfl⟩; have HR := Lib.hid hr; rw [hr]; clear hr; go_enter Tryz.func199, Tryz.ntmps199
 go_wp2_with fail; go_loopw [5] (fun i wr => ∃ k : Nat, k ≤ s.size ∧ i = .int .i64 k ∧ pfxB D.d D.nd k (s.data.toList.drop k) = r ∧ ∃ n, wr = w.drewN n) (fun i _ => s.size - (intOf i).toNat)
 case atStart => exact ⟨0, by omega, rfl, HR.out, 0, rfl⟩
 case round =>
  obtain ⟨k, hk, rfl, hp, n, rfl⟩ := hrel; have HP := Lib.hid hp; clear hp; by_cases hlt : k < s.size
  · have hd := drop_at hlt
    by_cases hn : D.nd ≤ k
    · have e : r = true := by
       have := HP.out; rw [hd] at this; simp only [pfxB, if_pos hn] at this; exact this.symm
      subst e; clear hd HR HP
      go_wp2_with fail; go_ret; exact ⟨rfl, _, rfl⟩
    · have c1 := h.cell_d (i := k) (by omega)
      have b1 : (k : Int) < (D.nd : Int) := by omega
      have b2 : (k : Int) < (s.size : Int) := by omega
      have b3 : (0 : Int) ≤ (k : Int) := by omega
      by_cases he : D.d k = s[k].toNat
      · have e : pfxB D.d D.nd (k + 1) (s.data.toList.drop (k + 1)) = r := by
         have := HP.out; rw [hd] at this; simp only [pfxB, if_neg hn] at this; rw [if_neg (by omega)] at this; exact this
        have HE := Lib.hid e; rw [he] at c1; clear hd HP HR e he
        go_wp2_with fail; go_quiet (fail)
        go_wp2_with fail; go_roundw
        case rel => exact ⟨k + 1, by omega, by go_num, HE.out, _, rfl⟩
        case measure => simp [intOf]; omega
      · have e : r = decide (D.d k < s[k].toNat) := by
         have := HP.out; rw [hd] at this; simp only [pfxB, if_neg hn] at this; rw [if_pos he] at this; exact this.symm
        have hb1 : ((D.d k : Int) == (s[k].toNat : Int)) = false := by simp; omega
        have hb2 : ((D.d k : Int) != (s[k].toNat : Int)) = true := by simp; omega
        have HE := Lib.hid e; clear hd HP HR e he
        go_wp2_with fail; go_quiet (fail)
        go_wp2_with fail; go_quiet (fail)
        go_wp2_with fail; go_ret; refine ⟨?_, _, by rw [World.drewN_drewN, World.drewN_drewN]⟩; rw [HE.out]; simp
  · have e : r = false := by
     have := HP.out; rw [List.drop_of_length_le (by simp; omega)] at this; exact this.symm
    subst e; clear HP HR
    go_wp2_with fail; go_ret; exact ⟨rfl, _, rfl⟩
theorem roundUp_any {w : World} {g : Nat} {D : Dc} (h : DB w g D) (hs : D.nd ≤ 800) (hg : Dig D.d D.nd) (nd : Int) (h1 : -1000000000000 ≤ nd) (h2 : nd ≤ 100000) :
 Calls Tryz.prog 181 #[.pointer (some ⟨g, 0, none⟩), .int .i64 nd] w fun e w' => e = .returned (.bool (ruB D nd)) ∧ ∃ n, w' = w.drewN n := by
 have c1 := h.cell_nd; have c2 := h.cell_tr; obtain ⟨r, hr⟩ : ∃ r, ruB D nd = r := ⟨_, rfl⟩; have HR := Lib.hid hr; rw [hr]; clear hr; by_cases ho : nd < 0 ∨ (D.nd : Int) ≤ nd
 · have e : r = false := by rw [← HR.out]; unfold ruB; rw [if_pos ho]
   subst e; clear HR; by_cases h0 : nd < 0
   · go_enter Tryz.func181, Tryz.ntmps181
     go_wp2_with fail; go_ret; exact ⟨rfl, 0, rfl⟩
   · go_enter Tryz.func181, Tryz.ntmps181
     go_wp2_with fail; go_ret; exact ⟨rfl, 0, rfl⟩
 · obtain ⟨m, rfl⟩ : ∃ m : Nat, nd = (m : Int) := ⟨nd.toNat, by omega⟩
   have hm : m < D.nd := by omega
   have c3 := h.cell_d (i := m) (by omega); have hdg := hg m hm; have b1 : (m : Int) < 800 := by omega
   have b3 : (0 : Int) ≤ (m : Int) := by omega
   have b4 : (m : Int) < (D.nd : Int) := by omega
   have HO : Hid (¬ ((m : Int) < 0 ∨ (D.nd : Int) ≤ (m : Int))) := Lib.hid ho; clear ho h1 h2; by_cases h5 : D.d m = 53
   · by_cases h6 : m + 1 = D.nd
     · have e : r = (D.tr || (decide (0 < m) && decide ((D.d (m - 1) - 48) % 2 ≠ 0))) := by
        rw [← HR.out]; unfold ruB; rw [if_neg HO.out, if_pos ⟨by simpa using h5, by simpa using h6⟩]; simp
       have HE := Lib.hid e; have x6 : ((m : Int) + 1 == (D.nd : Int)) = true := by simp; omega
       rw [h5] at c3; clear HR e h5; obtain ⟨b, hb⟩ : ∃ b, D.tr = b := ⟨_, rfl⟩; rw [hb] at HE c2; clear hb; cases b with
       | true =>
         go_enter Tryz.func181, Tryz.ntmps181
         go_wp2_with fail; go_ret; exact ⟨by rw [HE.out]; rfl, 0, rfl⟩
       | false =>
         cases m with
         | zero =>
           go_enter Tryz.func181, Tryz.ntmps181
           go_wp2_with fail; go_ret; exact ⟨by rw [HE.out]; rfl, 0, rfl⟩
         | succ m =>
           have c4 := h.cell_d (i := m) (by omega); have hd4 := hg m (by omega); have a4 : IntKind.u8.wrap ((D.d m : Int) - 48) = ((D.d m - 48 : Nat) : Int) := by
            rw [IntWalk.u8_in _ (by omega)]; omega
           have HE2 : Hid (r = decide ((D.d m - 48) % 2 ≠ 0)) := Lib.hid (HE.out.trans (by simp)); clear HE; generalize D.d m = q at *; go_enter Tryz.func181, Tryz.ntmps181
           go_wp2_with fail; go_ret; refine ⟨?_, 0, rfl⟩; exact ret_bool (a := (((q - 48 : Nat) : Int) % 2 != 0)) (by
            rw [HE2.out, Bool.eq_iff_iff]; simp
            omega)
     · have x6 : ((m : Int) + 1 == (D.nd : Int)) = false := by simp; omega
       have e : r = true := by
        rw [← HR.out]; unfold ruB; rw [if_neg HO.out, if_neg (by intro hh; exact h6 (by simpa using hh.2))]; simp [h5]
       subst e; rw [h5] at c3; clear HR; go_enter Tryz.func181, Tryz.ntmps181
       go_wp2_with fail; go_ret; exact ⟨rfl, 0, rfl⟩
   · have e : r = decide (53 ≤ D.d m) := by
      rw [← HR.out]; unfold ruB; rw [if_neg HO.out, if_neg (by intro hh; exact h5 (by simpa using hh.1))]; simp
     have x5 : ((D.d m : Int) == 53) = false := by simp; omega
     have HE := Lib.hid e; clear HR e; go_enter Tryz.func181, Tryz.ntmps181
     go_wp2_with fail; go_ret; refine ⟨?_, 0, rfl⟩; rw [HE.out]; simp
     omega
theorem u64_and_mask (n k : Nat) (hk : k ≤ 60) (hn : n < 2 ^ 64) : bits .and .u64 (n : Int) (((2 ^ k : Nat) : Int) - 1) = ((n % 2 ^ k : Nat) : Int) := by
 have hp := two_pow_pos k; have hp2 : 2 ^ k ≤ 2 ^ 60 := Nat.pow_le_pow_right (by decide) hk; have e : (((2 ^ k : Nat) : Int) - 1) = ((2 ^ k - 1 : Nat) : Int) := by omega
 rw [e]; have key : (BitVec.ofInt 64 (n : Int) &&& BitVec.ofInt 64 ((2 ^ k - 1 : Nat) : Int)).toNat = n % 2 ^ k := by
  rw [BitVec.toNat_and, BitVec.toNat_ofInt, BitVec.toNat_ofInt]; have e1 : ((n : Int) % ((2 ^ 64 : Nat) : Int)).toNat = n := by omega
  have e2 : (((2 ^ k - 1 : Nat) : Int) % ((2 ^ 64 : Nat) : Int)).toNat = 2 ^ k - 1 := by omega
  rw [e1, e2, Nat.and_two_pow_sub_one_eq_mod]
 show IntKind.u64.wrap ((BitVec.ofInt 64 (n : Int) &&& BitVec.ofInt 64 ((2 ^ k - 1 : Nat) : Int)).toNat : Nat) = _; rw [key]; have : n % 2 ^ k < 2 ^ k := Nat.mod_lt _ hp; exact IntWalk.u64_in _ (by omega)
theorem div_le_int {n P m : Nat} (h : n / P ≤ m) : (n : Int) / (P : Int) ≤ (m : Int) := by
 have e : (n : Int) / (P : Int) = ((n / P : Nat) : Int) := by simp
 rw [e]; omega
theorem with_world' {P : Program} {c : Code} {Q : Exit → Act → World → Prop} {a : Act} {w : World} (h : ∀ w0 : World, w0 = w → c.wp P Q a w0) : c.wp P Q a w := h w rfl
theorem rightShift_any {w : World} {g base : Nat} {D : Dc} (h : DB w g D) (h' : OkD D) (hp : 0 < D.nd) (hb : base ≤ g) (hd1 : -1000000000000 ≤ D.dp) (hd2 : D.dp ≤ 1000000000000) {k : Nat} (h1 : 1 ≤ k) (h2 : k ≤ 60) :
 Calls Tryz.prog 180 #[.pointer (some ⟨g, 0, none⟩), .int .u64 k] w fun e w' => (∃ v, e = .returned v) ∧ DB w' g (rsP k D) ∧ Below base w w' := by
 obtain ⟨A, hA⟩ : ∃ A, rsA D.d k D.nd 0 0 = A := ⟨_, rfl⟩; have hsp := rsA_spec h'.dig (k := k) D.nd 0 0 (by omega) (Or.inr ⟨rfl, hp, h'.lead hp⟩) (by have := two_pow_pos k; omega); rw [hA] at hsp; have HA := Lib.hid hA; have HSP := Lib.hid hsp; clear hA hsp; obtain ⟨P, hP⟩ : ∃ P : Nat, P = 2 ^ k := ⟨_, rfl⟩; have hPI : (2 : Int) ^ k = (P : Int) := by rw [hP]; simp
 have hP0 : 2 ≤ P := by rw [hP]; exact Nat.le_trans (by decide) (Nat.pow_le_pow_right (by decide) h1)
 have hP1 : P ≤ 2 ^ 60 := by rw [hP]; exact Nat.pow_le_pow_right (by decide) h2
 have HP := Lib.hid hP; clear hP; go_enter Tryz.func180, Tryz.ntmps180; go_upto_block 0 with fail
 go_cut [4, 6] from 12 to 48 (fun r n wx => r = .int .i64 (A.2 : Nat) ∧ n = .int .u64 (A.1 : Nat) ∧ wx = w)
 case first =>
  go_wp2_with fail; go_loopw [4, 6] (fun r n wr => ∃ f r0 n0 : Nat, r0 + f = D.nd ∧ r = .int .i64 r0 ∧ n = .int .u64 n0 ∧ n0 < 10 * P ∧ (0 < n0 ∨ (r0 = 0 ∧ 0 < f ∧ 49 ≤ D.d 0)) ∧ rsA D.d k f n0 r0 = A ∧ wr = w) (fun r _ _ => D.nd - (intOf r).toNat)
  case atStart => exact ⟨D.nd, 0, 0, by omega, rfl, rfl, by omega, Or.inr ⟨rfl, hp, h'.lead hp⟩, HA.out, rfl⟩
  case round =>
   obtain ⟨f, r0, n0, hf, rfl, rfl, hn, hn0, he, rfl⟩ := hrel; have HE := Lib.hid he; clear he; have c1 := h.cell_nd; by_cases hz : n0 / P = 0
   · have hzb : ((n0 : Int) / (P : Int) == 0) = true := by rw [beq_iff_eq]; omega
     cases f with
     | zero =>
       have hrn : r0 = D.nd := by omega
       have hz0 : ((n0 : Int) == 0) = false := by simp; omega
       have hn1 : 0 < n0 := by omega
       have hle := h'.le; clear hn0 hf
       go_wp2_with fail; clear hzb; go_loopw [4, 6] (fun r n wx => ∃ f2 r2 n2 : Nat, r = .int .i64 r2 ∧ n = .int .u64 n2 ∧ 0 < n2 ∧ n2 < 10 * P ∧ P ≤ n2 * 2 ^ f2 ∧ r2 + f2 = D.nd + k ∧ rsB k f2 n2 r2 = A ∧ wx = wr) (fun _ n _ => 10 * P - (intOf n).toNat)
       case atStart =>
        exact ⟨k, r0, n0, rfl, rfl, hn1, hn, by rw [HP.out]; exact Nat.le_mul_of_pos_left _ hn1, by omega, HE.out, rfl⟩
       case round =>
        obtain ⟨f2, r2, n2, rfl, rfl, hn2, hn3, hf2, hrf, he2, rfl⟩ := hrel; have HE2 := Lib.hid he2; have HF2 := Lib.hid hf2; clear he2 hf2; by_cases hz2 : n2 / P = 0
        · have hzb2 : ((n2 : Int) / (P : Int) == 0) = true := by rw [beq_iff_eq]; omega
          have hlt2 : n2 < P := by
           rcases Nat.lt_or_ge n2 P with h | h
           · exact h
           · have := Nat.div_pos h (by omega)
             omega
          cases f2 with
          | zero => exfalso; have := HF2.out; simp at this; omega
          | succ f2 =>
            go_wp2_with fail; go_roundw
            case rel =>
             refine ⟨f2, r2 + 1, n2 * 10, by go_num, by go_num, by omega, by omega, ?_, by omega, ?_, by trivial⟩
             · have := HF2.out
               rw [Nat.pow_succ] at this; have e : n2 * 10 * 2 ^ f2 = 5 * (n2 * (2 ^ f2 * 2)) := by
                rw [Nat.mul_comm (2 ^ f2) 2, ← Nat.mul_assoc n2 2, Nat.mul_comm (n2 * 10), Nat.mul_comm (n2 * 2)]; have : n2 * 10 = 5 * (n2 * 2) := by omega
                rw [this, ← Nat.mul_assoc, ← Nat.mul_assoc, Nat.mul_comm (2 ^ f2) 5, Nat.mul_assoc]; exact Nat.mul_assoc _ _ _
               omega
             · have := HE2.out
               unfold rsB at this; rw [if_pos (by rw [← HP.out]; exact hz2)] at this; exact this
            case measure => simp [intOf]; omega
        · have hzb2 : ((n2 : Int) / (P : Int) == 0) = false := by rw [beq_eq_false_iff_ne]; omega
          have e : (n2, r2) = A := by
           rw [← HE2.out]; cases f2 with
           | zero => rfl
           | succ f2 =>
             unfold rsB; rw [if_neg (by rw [← HP.out]; exact hz2)]
          subst e
          go_wp2_with fail; go_meet; exact ⟨rfl, rfl, rfl⟩
     | succ f =>
       have c2 := h.cell_d (i := r0) (by have := h'.le; omega); have hdg := h'.dig r0 (by omega); have b1 : (r0 : Int) < 800 := by have := h'.le; omega
       have hn1 : 0 < n0 ∨ (r0 = 0 ∧ 49 ≤ D.d 0) := by omega
       have hlt2 : n0 < P := by
        rcases Nat.lt_or_ge n0 P with h | h
        · exact h
        · have := Nat.div_pos h (by omega)
          omega
       have HN := Lib.hid hn1; clear hn0 hn1
       go_wp2_with fail; go_roundw
       case rel =>
        refine ⟨f, r0 + 1, n0 * 10 + dg D.d r0, by omega, by go_num, ?_, ?_, ?_, ?_, by trivial⟩
        · unfold dg; go_num
        · unfold dg; omega
        · left
          rcases HN.out with h | ⟨h, h'⟩
          · omega
          · subst h; unfold dg; omega
        · have := HE.out
          unfold rsA at this; rw [if_pos (by rw [← HP.out]; exact hz)] at this; exact this
       case measure => simp [intOf]; omega
   · have hzb : ((n0 : Int) / (P : Int) == 0) = false := by rw [beq_eq_false_iff_ne]; omega
     have e : (n0, r0) = A := by
      rw [← HE.out]; cases f with
      | zero =>
        unfold rsA; cases k with
        | zero => omega
        | succ k =>
          unfold rsB; rw [if_neg (by rw [← HP.out]; exact hz)]
      | succ f =>
        unfold rsA; rw [if_neg (by rw [← HP.out]; exact hz)]
     subst e
     go_wp2_with fail; go_meet; exact ⟨rfl, rfl, rfl⟩
 case rest =>
  obtain ⟨rfl, rfl, rfl⟩ := hcut; have hA2 := HSP.out.2.2.2; have hA1 := HSP.out.2.1; rw [← HP.out] at hA1; have hle := h'.le; have c1 := h.cell_dp; have f1 := h.free 801; go_upto_region 14 with fail
  have hD1 := h.set_dp (D.dp - ((A.2 : Int) - 1)); have hB1 := (Below.refl base wc).setCell (p := ⟨g, 801, none⟩) hb (.int .i64 (D.dp - ((A.2 : Int) - 1))); refine with_world' fun w1 hw1 => ?_
  rw [← hw1] at hD1 hB1; clear hw1; have HM : Hid (∀ n : Nat, n < 2 ^ 64 → bits .and .u64 (n : Int) ((P : Int) - 1) = ((n % P : Nat) : Int)) := Lib.hid (fun n hn => by rw [HP.out]; exact u64_and_mask n k h2 hn); obtain ⟨dp', hdp⟩ : ∃ x, D.dp - ((A.2 : Int) - 1) = x := ⟨_, rfl⟩; rw [hdp] at hD1; obtain ⟨C, hC⟩ : ∃ C, rsC k (D.nd - A.2) A.1 A.2 0 D.d = C := ⟨_, rfl⟩; have HC := Lib.hid hC; have HDP := Lib.hid hdp; clear hC hdp c1 f1 hd1 hd2
  go_wp2_with fail; go_loopw [4, 5, 6, 9, 10] (fun r x n _ _ wr => ∃ (f r0 w0 n0 : Nat) (d : Nat → Nat), f = D.nd - r0 ∧ r0 ≤ 1000 ∧ r = .int .i64 r0 ∧ x = .int .i64 w0 ∧ n = .int .u64 n0 ∧ w0 ≤ r0 ∧ w0 ≤ D.nd ∧ n0 < 10 * P ∧ Dig d D.nd ∧ rsC k f n0 r0 w0 d = C ∧ DB wr g { D with d := d, dp := dp' } ∧ Below base wc wr) (fun r _ _ _ _ _ => 1000 - (intOf r).toNat)
  case atStart => exact ⟨D.nd - A.2, A.2, 0, A.1, D.d, rfl, by omega, rfl, rfl, rfl, by omega, by omega, hA1, h'.dig, HC.out, hD1, hB1⟩
  case round =>
   obtain ⟨f, r0, w0, n0, d, hf, hr1, rfl, rfl, rfl, hw0, hw1, hn0, hdig, he, hD, hB⟩ := hrel; have HE := Lib.hid he; have c1 : wr.cell? ⟨g, 800, none⟩ = some (.int .i64 (D.nd : Nat)) := hD.cell_nd; clear he; by_cases hlt : r0 < D.nd
   · obtain ⟨f', rfl⟩ : ∃ f', f = f' + 1 := ⟨f - 1, by omega⟩
     have hm := HM.out n0 (by omega); have hml : n0 % P < P := Nat.mod_lt _ (by omega); have hq : n0 / P ≤ 9 := Nat.le_of_lt_succ (Nat.div_lt_of_lt_mul (by omega)); have hdg := hdig r0 hlt; have c2 : wr.cell? ⟨g, r0, none⟩ = some (.int .u8 (d r0 : Nat)) := hD.cell_d (by omega); have c3 : wr.cell? ⟨g, w0, none⟩ = some (.int .u8 (d w0 : Nat)) := hD.cell_d (by omega); have f3 := hD.free w0; have b1 : (r0 : Int) < 800 := by omega
     have b2 : (w0 : Int) < 800 := by omega
     have q1 := div_le_int hq; have q2 : 0 ≤ (n0 : Int) / (P : Int) := Int.ediv_nonneg (by omega) (by omega); have HD := Lib.hid hD
     go_wp2_with fail; have ev : (n0 : Int) / (P : Int) + 48 = ((n0 / P + 48 : Nat) : Int) := by simp
     have em : (n0 : Int) % (P : Int) = ((n0 % P : Nat) : Int) := by simp
     go_roundw
     case rel =>
      refine ⟨f', r0 + 1, w0 + 1, n0 % P * 10 + dg d r0, upd d w0 (n0 / P + 48), by omega, by omega, by go_num, by go_num, ?_, by omega, by omega, ?_, hdig.upd hq, ?_, ?_, ?_⟩
      · rw [em]
        unfold dg; exact congrArg (Value.int .u64) (by omega)
      · unfold dg; omega
      · have := HE.out
        unfold rsC at this; rw [← HP.out] at this; exact this
      · rw [ev]
        exact HD.out.set_d (by omega) _
      · exact hB.setCell hb _
     case measure => simp [intOf]; omega
   · have e : f = 0 := by omega
     subst e; have e : (n0, w0, d) = C := HE.out; subst e; clear hf HE; obtain ⟨E, hE⟩ : ∃ E, rsE k (k + 1) n0 w0 d D.tr = E := ⟨_, rfl⟩; have HE := Lib.hid hE; have hr' : rsP k D = trimD { D with d := E.2.1, nd := E.1, dp := dp', tr := E.2.2 } := by
      unfold rsP; simp only [HA.out, HDP.out]; rw [show rsC k (D.nd - A.2) A.1 A.2 0 D.d = (n0, w0, d) from HC.out]; simp only [hE]
     have HR := Lib.hid hr'; have hes := rsE_spec (k := k) (k + 1) n0 w0 d D.tr (hdig.mono (by omega)) (by omega) (by rw [← HP.out]; exact hn0); rw [hE] at hes; have HES := Lib.hid hes; clear hes hE hr' HC; have hdw : Dig d w0 := hdig.mono (by omega); clear hdig
     go_wp2_with fail; clear c1; go_loopg [5, 6, 11] (k + 1) (fun f x n _ wx => ∃ (w2 n2 : Nat) (d2 : Nat → Nat) (t2 : Bool), f ≤ k + 1 ∧ x = .int .i64 w2 ∧ n = .int .u64 n2 ∧ w2 ≤ 800 ∧ n2 < 10 * P ∧ Dig d2 w2 ∧ 2 ^ (k + 1 - f) ∣ n2 ∧ (f = 0 → n2 = 0) ∧ rsE k f n2 w2 d2 t2 = E ∧ DB wx g { D with d := d2, dp := dp', tr := t2 } ∧ Below base wc wx)
     case atStart => exact ⟨w0, n0, d, D.tr, Nat.le_refl _, rfl, rfl, by omega, hn0, hdw, by simp, by omega, HE.out, hD, hB⟩
     case round =>
      clear hD hB w1 hB1 hD1; obtain ⟨w2, n2, d2, t2, hf, rfl, rfl, hw2, hn2, hdig, hdv, hf0, he, hD, hB⟩ := hrel; have HE2 := Lib.hid he; have HD := Lib.hid hD; have f3 := hD.free w2; have f4 := hD.free 803; have f5 := hD.free 800; have c4 : wr.cell? ⟨g, 803, none⟩ = some (.bool t2) := hD.cell_tr; have c5 : wr.cell? ⟨g, 800, none⟩ = some (.int .i64 (D.nd : Nat)) := hD.cell_nd; clear he hD; by_cases h0 : n2 = 0
      · subst h0
        have e : (w2, d2, t2) = E := by
         rw [← HE2.out]; cases gk with
         | zero => rfl
         | succ f => unfold rsE; rw [if_pos rfl]
        subst e; clear hf0 hdv
        go_wp2_with fail; have hDn := HD.out.set_nd w2; refine (trim_any (D := { D with d := d2, dp := dp', tr := t2, nd := w2 }) hDn hw2 hb).mono ?_; rintro e w3 ⟨⟨v, rfl⟩, hD3, hB3⟩
        go_wp2_with fail; go_end0; refine ⟨⟨_, rfl⟩, ?_, ?_⟩
        · rw [HR.out]
          exact hD3
        · exact (hB.setCell hb _).trans hB3
      · obtain ⟨f, rfl⟩ : ∃ f, gk = f + 1 := ⟨gk - 1, by omega⟩
        have hm := HM.out n2 (by omega); have hml : n2 % P < P := Nat.mod_lt _ (by omega); have hq : n2 / P ≤ 9 := Nat.le_of_lt_succ (Nat.div_lt_of_lt_mul (by omega)); have q1 := div_le_int hq; have q2 : 0 ≤ (n2 : Int) / (P : Int) := Int.ediv_nonneg (by omega) (by omega); have ev : (n2 : Int) / (P : Int) + 48 = ((n2 / P + 48 : Nat) : Int) := by simp
        have em : (n2 : Int) % (P : Int) = ((n2 % P : Nat) : Int) := by simp
        have hdv2 : 2 ^ (k + 1 - f) ∣ n2 % P * 10 := by
         rw [show k + 1 - f = (k + 1 - (f + 1)) + 1 by omega, Nat.pow_succ]; refine Nat.mul_dvd_mul ?_ (by decide); rw [HP.out]; exact (Nat.dvd_mod_iff (Nat.pow_dvd_pow 2 (by omega))).2 hdv
        have hz2 : f = 0 → n2 % P * 10 = 0 := by
         intro hf; subst hf; rw [show k + 1 - (0 + 1) = k by omega, ← HP.out] at hdv; rw [Nat.mod_eq_zero_of_dvd hdv]
        have HV := Lib.hid ev; have HEM := Lib.hid em; have HF := Lib.hid (⟨hdv2, hz2⟩ : _ ∧ _); clear ev em hdv2 hz2 hdv hf0; have hnI : ((n2 : Int) == 0) = false := by simp; omega
        by_cases hw : w2 < 800
        · have b2 : (w2 : Int) < 800 := by omega
          have c3 : wr.cell? ⟨g, w2, none⟩ = some (.int .u8 (d2 w2 : Nat)) := HD.out.cell_d hw
          go_wp2_with fail; go_roundg f
          case rel =>
           refine ⟨w2 + 1, n2 % P * 10, upd d2 w2 (n2 / P + 48), t2, by omega, by go_num, ?_, by omega, by omega, hdig.upd_next hq, HF.out.1, HF.out.2, ?_, ?_, ?_⟩
           · rw [HEM.out]
             exact congrArg (Value.int .u64) (by omega)
           · have := HE2.out
             unfold rsE at this; rw [if_neg h0, if_pos hw, ← HP.out] at this; exact this
           · rw [HV.out]
             exact HD.out.set_d hw _
           · exact hB.setCell hb _
          case measure => omega
        · have hwI : w2 = 800 := by omega
          subst hwI; by_cases hd0 : n2 / P = 0
          · have q3 : (n2 : Int) / (P : Int) = 0 := by
             have e : (n2 : Int) / (P : Int) = ((n2 / P : Nat) : Int) := by simp
             rw [e, hd0]; rfl
            go_wp2_with fail; go_roundg f
            case rel =>
             refine ⟨800, n2 % P * 10, d2, t2, by omega, rfl, ?_, by omega, by omega, hdig, HF.out.1, HF.out.2, ?_, HD.out, hB⟩
             · rw [HEM.out]
               exact congrArg (Value.int .u64) (by omega)
             · have := HE2.out
               unfold rsE at this; rw [if_neg h0, if_neg (by omega), ← HP.out, hd0] at this; simpa using this
            case measure => omega
          · have q3 : 0 < (n2 : Int) / (P : Int) := by
             have e : (n2 : Int) / (P : Int) = ((n2 / P : Nat) : Int) := by simp
             rw [e]; omega
            go_wp2_with fail; go_roundg f
            case rel =>
             refine ⟨800, n2 % P * 10, d2, true, by omega, rfl, ?_, by omega, by omega, hdig, HF.out.1, HF.out.2, ?_, HD.out.set_tr true, hB.setCell hb _⟩
             · rw [HEM.out]
               exact congrArg (Value.int .u64) (by omega)
             · have := HE2.out
               unfold rsE at this; rw [if_neg h0, if_neg (by omega), ← HP.out] at this; rw [decide_eq_true (Nat.pos_of_ne_zero hd0), Bool.or_true] at this; exact this
            case measure => omega
end Go.Proofs.YtkoghgnjjfnamaaGreatDoor
