/- Gr: what is used of them. -/
import Derived.Recover
import Derived.Test.YtkoghgnjjfnamaaGreatDoorGq
import Derived.Defers
import Derived.RegionTactic
import Derived.ChangeAlike
namespace Go.Proofs.YtkoghgnjjfnamaaGreatDoor
set_option maxRecDepth 100000
set_option maxHeartbeats 8000000
open Go.RowKit Go.Shelf
theorem grown_then {a b c : World} {r : Option Nat} {B : Nat} (h : a.grownBy b r) (k : Below B b c) (hB : a.heap.size ≤ B) : a.grownBy c r :=
 ⟨k.os.trans h.os, k.tape.trans h.tape, k.output.trans h.output, Nat.le_trans h.size k.size, fun i hi hn => (k.block i (by omega)).trans (h.block i hi hn)⟩
theorem flat_any {A B : Nat} : ∀ (m : Nat) (t : T) (q : Nat → Prop) (w : World) (b : Nat) (v : Value) (ls : List NV), cnt t ≤ m → TR (fun k => A ≤ k ∧ k < B) w b t → ND q A B w v ls → (∀ k, w.heap.size ≤ k → q k) → B ≤ w.heap.size → ls.length + cnt t ≤ 20000 →
 Calls Tryz.prog 17 #[ptr b, v] w fun e w' => FlatPost q A B w v (flatP t (ls.map NV.nd)) e w' := by
 intro m; induction m with
 | zero => intro t q w b v ls hm; have := cnt_pos t; omega
 | succ m ih =>
   intro t q w b v ls hm ht hnd hq hB hlen; cases ht with
   | @mk b kind text int flt names place ks vn vk is hb h hn hk hl hks =>
     obtain ⟨RES, hRES⟩ : ∃ R, flatP (.mk kind text int flt names place ks) (ls.map NV.nd) = R := ⟨_, rfl⟩; rw [hRES]; obtain ⟨RK, hRK⟩ : ∃ R, flatK ks (ls.map NV.nd) [] = R := ⟨_, rfl⟩; have hR2 : RK.1 ++ [⟨kind, text, int, flt, names, RK.2, place⟩] = RES := by rw [← hRES, ← hRK]; rfl
     have HRES := Lib.hid hR2; have HRK := Lib.hid hRK; have hcnt : cntK ks + 1 ≤ m + 1 := hm; have hcl : ls.length + (cntK ks + 1) ≤ 20000 := hlen; have HM := Lib.hid hcnt; have HCL := Lib.hid hcl; obtain ⟨ka, kc, hsk⟩ := hk.shape; simp at hsk; subst hsk; obtain ⟨na, nc, hsn⟩ := hn.shape; simp at hsn; subst hsn; obtain ⟨L, hL⟩ : ∃ L, is.length = L := ⟨_, rfl⟩; obtain ⟨NN, hNN⟩ : ∃ L, names.length = L := ⟨_, rfl⟩; change w.heap[b]? = some (.cells #[.int .i64 kind, .string text, .int .i64 int, .float .f64 flt, .slice na names.length nc, .slice none 0 0, .int .i64 (place : Int), .slice ka is.length kc] 85 (0, 0)) at h; rw [hL, hNN] at h; rw [hNN] at hn; rw [hL] at hk; have c0 := block_cell (i := 0) h rfl; have c1 := block_cell (i := 1) h rfl; have c2 := block_cell (i := 2) h rfl; have c3 := block_cell (i := 3) h rfl; have c4 := block_cell (i := 4) h rfl; have c5 := block_cell (i := 5) h rfl; have c6 := block_cell (i := 6) h rfl; have hsf := store_f64; have HL := Lib.hid hL; have HNN := Lib.hid hNN; have HN := Lib.hid hn; have HK := Lib.hid hk; have HKL := Lib.hid hl; have HKS := Lib.hid hks; have HND := Lib.hid hnd; have HQ := Lib.hid hq; have hnt := block_new w (.cells #[.int .i64 kind, .string text, .int .i64 int, .float .f64 flt, .slice na NN nc, .slice none 0 0, .int .i64 (place : Int)] 36) rfl; clear hRES hRK hR2 hcnt hcl hL hNN hn hk hl hks hnd hq hlen hm; have hbl := block_lt h; have hbe1 : Below w.heap.size w (w.alloc (.cells #[.int .i64 kind, .string text, .int .i64 int, .float .f64 flt, .slice na NN nc, .slice none 0 0, .int .i64 (place : Int)] 36)) := (Below.refl _ _).alloc (Nat.le_refl _) _; have hs1 : w.heap.size + 1 ≤ (w.alloc (.cells #[.int .i64 kind, .string text, .int .i64 int, .float .f64 flt, .slice na NN nc, .slice none 0 0, .int .i64 (place : Int)] 36)).heap.size := by simp
     have h1 := block_below h hbe1; unfold ptr; go_enter Tryz.func17, Tryz.ntmps17; go_upto_region 2 with fail
     obtain ⟨nb, hnb⟩ : ∃ nb, w.heap.size = nb := ⟨_, rfl⟩; rw [hnb] at hnt hs1; rw [hnb]; generalize (w.alloc (.cells #[.int .i64 kind, .string text, .int .i64 int, .float .f64 flt, .slice na NN nc, .slice none 0 0, .int .i64 (place : Int)] 36)) = w1 at *; have HNB := Lib.hid hnb; have HBE := Lib.hid hbe1; have HNT := Lib.hid hnt; have HT1 := Lib.hid h1; have hBn : B ≤ nb := by omega
     have c7 := block_cell (i := 7) h1 rfl; clear c0 c1 c2 c3 c4 c5 c6 hnb hbe1 hnt h1 h
     go_wp2_with fail; have HSZ := Lib.hid hs1; have hLm : L ≤ 20000 := by
      have h1 := HCL.out; have h2 := len_cntK ks; have h3 := HKL.out; have h4 := HL.out; omega
     go_loopw [1, 7, 17] (fun v1 _ v17 wr => ∃ (i : Nat) (ls' : List NV) (isd : List Nat) (vr : Value), v17 = .int .i64 (i : Int) ∧ i ≤ L ∧ isd.length = i ∧ wr.heap[nb]? = some (.cells #[.int .i64 kind, .string text, .int .i64 int, .float .f64 flt, .slice na NN nc, vr, .int .i64 (place : Int)] 36 (0, 0)) ∧ wr.ownsRow (nb + 1) 3 1 vr isd.length (isd.map num) ∧
      ND (fun k => q k ∧ k ≠ nb ∧ some k ≠ vr.ownBlock) A B wr v1 ls' ∧ nb + 1 ≤ wr.heap.size ∧ w.grownBy wr v.ownBlock ∧ (∀ g, v1.ownBlock = some g → v.ownBlock = some g ∨ nb ≤ g) ∧ ls'.length + cntK (ks.drop i) + 1 ≤ 20000 ∧ Hid (flatK (ks.drop i) (ls'.map NV.nd) isd = RK)) (fun _ _ v17 _ => L - (intOf v17).toNat)
     case atStart =>
      exact ⟨0, ls, [], _, rfl, by omega, rfl, HNT.out, World.ownsRow_nil _ _ _ _, (HND.out.mono (fun k hk _ hl => ⟨hk, by have := HNB.out; omega, by simp [Value.ownBlock]⟩)).keep (fun k hk _ => HBE.out.block k hk), hs1, grown_below HBE.out, fun g hg => Or.inl hg, HCL.out, HRK.out⟩
     case round =>
      clear hs1; obtain ⟨i, ls', isd, vr, rfl, hiL, his, hnode, hkr, hnd, hnz, hg, hvb, hln, HRJ⟩ := hrel; obtain ⟨ra, rc, hsr⟩ := own_shape hkr; subst hsr; obtain ⟨va, vc, hsv⟩ := own_shape hnd.own; subst hsv; rw [his] at hkr hnode hnd; have HTW : Keeps (fun k => A ≤ k ∧ k < B) w wr := fun k hk hl => hg.block k hl (fun e => by have := (HND.out.own.lt k e.symm).1; omega)
      obtain ⟨M0, hM0⟩ : ∃ M, ls'.length = M := ⟨_, rfl⟩; rw [hM0]; have HIS := Lib.hid his; have HM0 := Lib.hid hM0; have HTK := Lib.hid HTW; have HKR := Lib.hid hkr; have HNO := Lib.hid hnode; have HN2 := Lib.hid hnd; have HG := Lib.hid hg; have HVB := Lib.hid hvb; have HLN := Lib.hid hln; clear hkr hnd hg hvb HTW his hM0; by_cases hlt : (i : Int) < (L : Int)
      · obtain ⟨y, hy⟩ : ∃ y, is[i]? = some y := ⟨_, List.getElem?_eq_getElem (by have := HL.out; omega)⟩
        obtain ⟨t2, ht2⟩ : ∃ t, ks[i]? = some t := ⟨_, List.getElem?_eq_getElem (by have := HL.out; have := HKL.out; omega)⟩; obtain ⟨kg, hka, hkgB, hcell⟩ := (HK.out.keep HTK.out).cell rfl (j := i) (u := ptr y) (by rw [List.getElem?_map, hy]; rfl); subst hka; have htr := (HKS.out i y t2 hy ht2).keep HTK.out; have hc3 := cntK_get ks i t2 ht2; have hcle := cntK_le ks i; have hgo := flatK_get ks i t2 (ls'.map NV.nd) isd ht2; have hcl9 := HLN.out; have hm9 := HM.out; have HC := Lib.hid (ih t2 (fun k => q k ∧ k ≠ nb ∧ some k ≠ (Value.slice ra i rc).ownBlock) wr y (.slice va ls'.length vc) ls' (by omega) htr HN2.out (fun k hk => ⟨HQ.out k (by have := HNB.out; omega), by omega, fun e => by have := (HKR.out.lt k e.symm).2; omega⟩) (by omega) (by omega)); rw [HM0.out] at HC; have HGO := Lib.hid (hgo.symm.trans HRJ.out); have hi0 : (0 : Int) ≤ (i : Int) := by omega
        have HLN3 := Lib.hid (show ls'.length + (cnt t2 + cntK (ks.drop (i + 1))) + 1 ≤ 20000 by omega); unfold ptr at hcell HC; clear hy ht2 htr hc3 hcle hgo hcl9 hm9
        go_wp2_with fail; refine HC.out.mono ?_; rintro e w2 ⟨v2, ls2, rfl, hnd2, hmap2, hg2, hv2⟩; obtain ⟨va2, vc2, hsv2⟩ := own_shape hnd2.own; subst hsv2; obtain ⟨M2, hM2⟩ : ∃ M, ls2.length = M := ⟨_, rfl⟩; rw [hM2] at hnd2 hv2; rw [hM2]; have hml : ls2.length = ls'.length + cnt t2 := by
         have h1 := flatP_len t2 (ls'.map NV.nd); rw [← hmap2] at h1; simpa using h1
        have hcp := cnt_pos t2; obtain ⟨N2, hN2⟩ : ∃ N, M2 = N + 1 := ⟨M2 - 1, by omega⟩; have hl9 := HLN3.out; have hwr : IntKind.i64.wrap ((M2 : Int) - 1) = (N2 : Int) := by rw [IntWalk.i64_in _ (by omega)]; omega
        have hnode2 := block_grown HNO.out hg2 (fun e => (HN2.out.blk nb (by rw [HM0.out]; exact e.symm)).2.1 rfl); have hkr2 : w2.ownsRow (nb + 1) 3 1 (.slice ra i rc) i (isd.map num) := own_blk HKR.out (fun gg hgg hl => hg2.block gg hl (fun e => (HN2.out.blk gg (by rw [HM0.out]; exact e.symm)).2.2 hgg.symm)); have n5 := block_cell (i := 5) hnode2 rfl; have nf5 := block_free (i := 5) hnode2; have hz2 := hg2.size; have hw1 : IntKind.i64.wrap ((i : Int) + 1) = (i : Int) + 1 := IntWalk.i64_in _ (by omega); have HN5 := Lib.hid hnode2; have HK5 := Lib.hid hkr2; have HD5 := Lib.hid hnd2; have HG5 := Lib.hid hg2; have HV5 := Lib.hid hv2; have HM5 := Lib.hid hmap2; have HML := Lib.hid hml; have HMM := Lib.hid hM2; have HNN2 := Lib.hid hN2; clear hnode2 hkr2 hnd2 hg2 hv2 hmap2 hml hM2 hN2 hcp hl9
        go_wp2_with (
         at_builtin
         refine append_num rfl _ _ rfl (nb + 1) (.slice ra i rc) i (isd.map num) (by rfl) (own_below HK5.out ((Below.refl _ _).alloc (Nat.le_refl _) _)) _ _ (N2 : Int) (by rfl) (block_new _ _ (by rfl)) (by omega) (by simp; omega) ?_; intro v' w' hown' hg' hv'; have hN' := hg'.block nb (by simp; omega) (fun e => by have := (HK5.out.lt nb e.symm).1; omega); have hN'' := hN'.trans (block_alloc HN5.out _); have c5' := block_cell (i := 5) hN'' rfl; have f5' := block_free (i := 5) hN''; obtain ⟨ra', rc', rfl⟩ := own_shape hown'; clear hN')
        have hbw : Below nb w2 w' := Below.grown ((Below.refl nb w2).alloc (by omega) (.cells #[.int .i64 (N2 : Int)] 3)) hg' (by simp; omega) (fun k hk => by have := (HK5.out.lt k hk).1; omega); have hbf := hbw.setCell (p := ⟨nb, 5, none⟩) (Nat.le_refl _) (.slice ra' (i + 1) rc'); have hkp : ∀ k, k < w2.heap.size → k ≠ nb → some k ≠ (Value.slice ra i rc).ownBlock → (w'.setCell ⟨nb, 5, none⟩ (.slice ra' (i + 1) rc')).heap[k]? = w2.heap[k]? := fun k hk hkn hko =>
         (Below.heap_setCell _ _ _ _ hkn).trans ((hg'.block k (by simp; omega) hko).trans (Below.heap_alloc _ _ _ hk))
        have hsF : nb + 1 ≤ (w'.setCell ⟨nb, 5, none⟩ (.slice ra' (i + 1) rc')).heap.size := by
         have h1 := hg'.size; simp at h1; simp [World.setCell]
         omega
        have hN2m : N2 = M2 - 1 := by have := HNN2.out; omega
        have hfl : (flatP t2 (ls'.map NV.nd)).length - 1 = N2 := by rw [← HM5.out, List.length_map, HMM.out, hN2m]
        refine ⟨⟨i + 1, ls2, isd ++ [N2], .slice ra' (i + 1) rc', by simp, by omega, by simp [HIS.out], block_set (i := 5) hN'' _, ?_, ?_, hsF, ?_, fun gg hgg => ?_, ?_, ?_⟩, ?_⟩
        · have h1 := own_set (b := nb) (i := 5) hown' (.slice ra' (i + 1) rc') (fun e => by have := (hown'.lt nb e).1; omega)
          simpa [HIS.out, num] using h1
        · refine (HD5.out.mono (q' := fun k => (q k ∧ k ≠ nb ∧ some k ≠ (Value.slice ra' (i + 1) rc').ownBlock) ∧ some k ≠ (Value.slice ra i rc).ownBlock) (fun k hk _ hl => ⟨⟨hk.1, hk.2.1, ?_⟩, hk.2.2⟩)).keep (fun k hk hkk => ?_) |>.mono (fun k hk _ _ => hk.1)
          · rcases hv' with h1 | h1
            · rw [h1]; exact hk.2.2
            · rw [h1]; simp; omega
          · rcases hkk with hkk | ⟨⟨⟨_, hkk, _⟩, hkr⟩, _⟩
            · exact hkp k hk (by omega) (fun e => by have := (HK5.out.lt k e.symm).1; omega)
            · exact hkp k hk hkk hkr
        · have h2 := HNB.out
          have h1 := grown_trans2 HG.out HG5.out (fun gg hgg => by rw [h2]; exact HVB.out gg (by rw [HM0.out]; exact hgg)); exact grown_then h1 hbf (by omega)
        · have h2 := HNB.out
          have h3 := HG.out.size; rcases HV5.out gg hgg with h1 | h1
          · exact HVB.out gg (by rw [HM0.out]; exact h1)
          · right; omega
        · have h1 := HLN3.out
          have h2 := HML.out; omega
        · have h1 := HGO.out
          rw [hfl] at h1; rw [HM5.out]; exact h1
        · simp only [intOf]
          omega
      · have hiL' : i = L := by omega
        subst hiL'; have hdr : ks.drop i = [] := List.drop_eq_nil_of_le (by have := HL.out; have := HKL.out; omega); have hRK : (ls'.map NV.nd, isd) = RK := by
         have h1 := HRJ.out; rw [hdr] at h1; exact h1
        have hRE : ls'.map NV.nd ++ [⟨kind, text, int, flt, names, isd, place⟩] = RES := by rw [← HRES.out, ← hRK]
        have HRE := Lib.hid hRE; have hnl := HNO.out; have m0 := block_cell (i := 0) hnl rfl; have m1 := block_cell (i := 1) hnl rfl; have m2 := block_cell (i := 2) hnl rfl; have m3 := block_cell (i := 3) hnl rfl; have m4 := block_cell (i := 4) hnl rfl; have m5 := block_cell (i := 5) hnl rfl; have m6 := block_cell (i := 6) hnl rfl; have hc9 := HLN.out; have hM9 := HM0.out; have hMl : M0 + 1 ≤ 1000000000 := by omega
        have hBw : B ≤ wr.heap.size := by omega
        clear hdr hRK hRE hnl hc9 hM9
        go_wp2_with (
         at_builtin
         refine append_node rfl _ _ rfl B (.slice va M0 vc) M0 (ls'.flatMap NV.cells) (by rfl) (own_below (HM0.out ▸ HN2.out.own) ((Below.refl _ _).alloc (Nat.le_refl _) _)) _ _ _ _ _ _ _ _ _ (by rfl) (block_new _ _ (by rfl)) (by rfl) (by rfl) (by rfl) (by rfl) (by rfl) (by rfl) (by rfl) hMl (by simp; omega) ?_; intro v' w' hown' hg' hv')
        go_ret; have h2 := HNB.out; have hgz := HG.out.size; have hal : Below wr.heap.size wr (wr.alloc (.cells #[.int .i64 kind, .string text, .int .i64 int, .float .f64 flt, .slice na NN nc, .slice ra i rc, .int .i64 (place : Int)] 36)) := (Below.refl _ _).alloc (Nat.le_refl _) _; refine ⟨v', ls' ++ [⟨⟨kind, text, int, flt, names, isd, place⟩, .slice na NN nc, .slice ra i rc⟩], rfl, ?_, ?_, ?_, fun gg hgg => ?_⟩
        · refine ND.app ((HN2.out.mono (q' := q) (fun k hk _ _ => hk.1)).keep (fun k hk _ => hal.block k hk)) ?_ ?_ ?_ ?_ (by rw [HM0.out]; exact hg') ?_ (HQ.out _ (by simp; omega))
          · exact (HN.out.keep HTK.out).keep (Below.keeps hal)
          · have h3 := own_below (own_mono HKR.out (show B ≤ nb + 1 by omega)) hal
            simpa [HIS.out] using h3
          · intro gg hgg
            refine ⟨HQ.out gg (by have := (HKR.out.lt gg hgg).1; omega), fun e => (HN2.out.blk gg (by rw [HM0.out]; rw [HM0.out] at e; exact e)).2.2 hgg.symm, fun y hy e => ?_⟩; obtain ⟨j, hj⟩ := List.mem_iff_getElem?.1 hy; exact (HN2.out.kq j y gg hj e).1.2.2 hgg.symm
          · rw [HM0.out]
            exact hown'
          · rw [HM0.out]
            exact hv'
        · rw [List.map_append]
          exact HRE.out
        · refine grown_trans2 (grown_trans2 HG.out (grown_below hal) (r' := none) (fun g h => by cases h)) hg' (fun gg hgg => ?_)
          rw [h2]; exact HVB.out gg (by rw [HM0.out]; exact hgg)
        · rcases hv' with h1 | h1
          · rw [h2]
            exact HVB.out gg (by rw [HM0.out]; rw [h1] at hgg; exact hgg)
          · rw [h1] at hgg
            cases hgg; right
            simp
            omega
theorem catch_idle (p1 p2 : Addr) (w : World) : CallsD Tryz.prog 13 #[.pointer (some p1), .pointer (some p2)] .returning w fun e u' w' =>
 e = .returned (.tuple #[]) ∧ u' = .returning ∧ w' = w := by
 refine callsD_of_wpS Tryz.func13 rfl fun c₀ cs hu => ?_
 apply wpS_seq
 apply wpS_region
 simp [wpOpsS, go_sem, recoverD, hu, Tryz.ntmps13, Exit.thenS]
 refine wpS_of_wp ?_
 go_wp2_with fail; cases c₀; simp_all [bodyPostS, results, Tryz.results13]
theorem ta_stop (p er : Int) (w : World) : (Instr.typeAssert (.iface 46 (.agg #[.int .i64 p, .int .i64 er])) 20 46 true).run Tryz.prog w = .ok (.tuple #[.agg #[.int .i64 p, .int .i64 er], .bool true]) w := by
 simp [Instr.typeAssert, run_underlying Tryz.underlying46]
theorem catch_stop (b1 b2 : Nat) (u1 u2 : Value) (p er : Int) (w : World) (h1 : w.heap[b1]? = some (.cells #[u1] 23 (0, 0))) (h2 : w.heap[b2]? = some (.cells #[u2] 25 (0, 0))) (hne : b1 ≠ b2) :
 CallsD Tryz.prog 13 #[.pointer (some ⟨b1, 0, none⟩), .pointer (some ⟨b2, 0, none⟩)] (.panicking (stopV p er)) w fun e u' w' =>
  e = .returned (.tuple #[]) ∧ u' = .panicking [{ v := .iface 46 (.agg #[.int .i64 p, .int .i64 er]), recovered := true }] ∧
  w' = ((w.setCell ⟨b1, 0, none⟩ (.slice none 0 0)).setCell ⟨b2, 0, none⟩ (.iface 47 (.pointer (some ⟨w.heap.size, 0, none⟩)))).alloc (.cells #[.int .i64 p, .int .i64 er] 46) := by
 have hl1 := block_lt h1; have hta := ta_stop; have hl2 := block_lt h2; have c1 := block_cell (i := 0) h1 rfl; have c2 := block_cell (i := 0) h2 rfl; have f1 := block_free (i := 0) h1; have f2 := block_free (i := 0) h2; refine callsD_of_wpS Tryz.func13 rfl fun c₀ cs hu => ?_
 apply wpS_seq
 apply wpS_region
 simp [wpOpsS, go_sem, recoverD, hu, Tryz.ntmps13, Exit.thenS, stopV]
 refine wpS_of_wp ?_
 go_wp2_with fail; cases c₀; simp_all [bodyPostS, results, Tryz.results13]
def parseE (t : T) (us : List Tok) : Except Er (List Nd) := match us with
 | u :: _ => if u.kind = 0 then (if 1000 < (flatP t []).length then .error (0, 8) else .ok (flatP t [])) else .error (wrongP us)
 | [] => .error (wrongP us)
theorem parseE_cons (t : T) (u : Tok) (us : List Tok) : parseE t (u :: us) = if u.kind = 0 then (if 1000 < (flatP t []).length then .error (0, 8) else .ok (flatP t [])) else .error (wrongP (u :: us)) := rfl
def parseR (r : Res T) : Except Er (List Nd) := match r with | .error e => .error e | .ok (t, us) => parseE t us
def parseL (r : Except (Nat × Int) (List Tok)) : Except Er (List Nd) := match r with | .error e => .error e | .ok ts => parseR ((Lv 32).top ts)
theorem parseP_is (pf : ByteArray → Nat) (s : ByteArray) : parseP pf s = parseL (lexP pf s) := by
 unfold parseP parseL; cases lexP pf s with
 | error e => rfl
 | ok ts =>
   show (match (Lv 32).top ts with | .error e => _ | .ok (t, us) => _) = parseR ((Lv 32).top ts); unfold parseR; cases (Lv 32).top ts <;> rfl
theorem results_parse {tmps : Array Value} {b1 b2 : Nat} {w : World} {u1 u2 : Value} (h1 : tmps[2]? = some (.pointer (some ⟨b1, 0, none⟩))) (h2 : tmps[3]? = some (.pointer (some ⟨b2, 0, none⟩)))
 (c1 : w.cell? ⟨b1, 0, none⟩ = some u1) (c2 : w.cell? ⟨b2, 0, none⟩ = some u2) :
 (results Tryz.f8 tmps).run Tryz.prog w = .ok (.tuple #[u1, u2]) w := by
 simp [results, Tryz.results8, go_sem, h1, h2, c1, c2]
abbrev doorD (b1 : Nat) : List Deferred := [{ target := .fn (.func 13) #[.pointer (some ⟨b1, 0, none⟩), .pointer (some ⟨b1 + 1, 0, none⟩)], args := #[] }]
theorem door_stop {w w6 : World} {b1 p : Nat} {er : Int} {tmps : Array Value} {u1 u2 : Value} (h1 : tmps[2]? = some (.pointer (some ⟨b1, 0, none⟩))) (h2 : tmps[3]? = some (.pointer (some ⟨b1 + 1, 0, none⟩)))
 (q1 : w6.heap[b1]? = some (.cells #[u1] 23 (0, 0))) (q2 : w6.heap[b1 + 1]? = some (.cells #[u2] 25 (0, 0))) (hbw6 : Below w.heap.size w w6) (hb1 : w.heap.size = b1) :
 Leaves Tryz.prog Tryz.f8 tmps (fun e w' => ParsePost w (.error (p, er)) e w') (doorD b1) (.panicking (stopV p er)) w6 := by
 refine leaves_cons (f := 13) (args := #[.pointer (some ⟨b1, 0, none⟩), .pointer (some ⟨b1 + 1, 0, none⟩)]) (by simp) (by simp [go_sem]) ?_; refine (catch_stop b1 (b1 + 1) _ _ (p : Int) er w6 q1 q2 (by omega)).mono ?_; rintro e u' w7 ⟨rfl, rfl, rfl⟩; have r1 := block_alloc (block_setCell (a := ⟨b1 + 1, 0, none⟩) (block_set (i := 0) q1 (.slice none 0 0)) (show b1 ≠ b1 + 1 by omega) (.iface 47 (.pointer (some ⟨w6.heap.size, 0, none⟩)))) (.cells #[.int .i64 (p : Int), .int .i64 er] 46); have r2 := block_alloc (block_set (i := 0) (block_setCell (a := ⟨b1, 0, none⟩) q2 (show b1 + 1 ≠ b1 by omega) (.slice none 0 0)) (.iface 47 (.pointer (some ⟨w6.heap.size, 0, none⟩)))) (.cells #[.int .i64 (p : Int), .int .i64 er] 46); have hz6 := hbw6.size; have hbw7 := ((hbw6.setCell (p := ⟨b1, 0, none⟩) (by simp; omega) (.slice none 0 0)).setCell (p := ⟨b1 + 1, 0, none⟩) (by simp; omega) (.iface 47 (.pointer (some ⟨w6.heap.size, 0, none⟩)))).alloc (by simp [World.setCell]; omega) (.cells #[.int .i64 (p : Int), .int .i64 er] 46); have e1 := block_cell (i := 0) r1 rfl; have e2 := block_cell (i := 0) r2 rfl; exact ⟨_, results_parse h1 h2 e1 e2, ⟨_, rfl, w6.heap.size, _, rfl, block_new _ _ (by simp [World.setCell])⟩, hbw7⟩
theorem door_idle {w6 : World} {b1 : Nat} {R : Ending → World → Prop} {tmps : Array Value} {u1 u2 : Value} (h1 : tmps[2]? = some (.pointer (some ⟨b1, 0, none⟩))) (h2 : tmps[3]? = some (.pointer (some ⟨b1 + 1, 0, none⟩)))
 (q1 : w6.heap[b1]? = some (.cells #[u1] 23 (0, 0))) (q2 : w6.heap[b1 + 1]? = some (.cells #[u2] 25 (0, 0))) (hR : R (.returned (.tuple #[u1, u2])) w6) :
 Leaves Tryz.prog Tryz.f8 tmps R (doorD b1) .returning w6 := by
 refine leaves_cons (f := 13) (args := #[.pointer (some ⟨b1, 0, none⟩), .pointer (some ⟨b1 + 1, 0, none⟩)]) (by simp) (by simp [go_sem]) ?_; refine (catch_idle ⟨b1, 0, none⟩ ⟨b1 + 1, 0, none⟩ w6).mono ?_; rintro e u' w7 ⟨rfl, rfl, rfl⟩; have e1 := block_cell (i := 0) q1 rfl; have e2 := block_cell (i := 0) q2 rfl; exact ⟨_, results_parse h1 h2 e1 e2, hR⟩
theorem Parse_any {NG : Nat} {w : World} (hG : GP NG w) (s : ByteArray) : Calls Tryz.prog 8 #[.string s] w fun e w' => ParsePost w (parseP pfA s) e w' := by
 rw [parseP_is]; obtain ⟨RL, hRL⟩ : ∃ R, lexP pfA s = R := ⟨_, rfl⟩; rw [hRL]; have HRL := Lib.hid hRL; obtain ⟨RF, hRF⟩ : ∃ R, parseL RL = R := ⟨_, rfl⟩; rw [hRF]; have HRF := Lib.hid hRF; clear hRF; have HG := Lib.hid hG; clear hRL; have hNG := hG.1.2; clear hG; have hmf : ∀ (fn : Fn) (first cap : Array Value) (w : World), (Instr.makeFunc fn first cap).run Tryz.prog w = .ok (.func fn first cap) w := fun _ _ _ _ => rfl
 have hbe : Below w.heap.size w ((w.alloc (.cells #[.slice none 0 0] 23)).alloc (.cells #[.nilIface] 25)) := ((Below.refl _ _).alloc (Nat.le_refl _) _).alloc (by simp) _; have hs2 : ((w.alloc (.cells #[.slice none 0 0] 23)).alloc (.cells #[.nilIface] 25)).heap.size = w.heap.size + 2 := by simp
 have n1 : ((w.alloc (.cells #[.slice none 0 0] 23)).alloc (.cells #[.nilIface] 25)).heap[w.heap.size]? = some (.cells #[.slice none 0 0] 23 (0, 0)) := block_alloc (block_new _ _ rfl) _; have n2 : ((w.alloc (.cells #[.slice none 0 0] 23)).alloc (.cells #[.nilIface] 25)).heap[w.heap.size + 1]? = some (.cells #[.nilIface] 25 (0, 0)) := block_new _ _ (by simp); have HAL := Lib.hid (HRL.out ▸ All_pf (s := s) (HG.out.keeps hNG hbe).1); go_enter_defers Tryz.func8, Tryz.ntmps8; go_upto_region 1 with fail
 obtain ⟨b1, hb1⟩ : ∃ b, w.heap.size = b := ⟨_, rfl⟩; rw [hb1] at n1 n2 hs2; rw [hb1]; generalize ((w.alloc (.cells #[.slice none 0 0] 23)).alloc (.cells #[.nilIface] 25)) = w2 at *; have HB1 := Lib.hid hb1; have HBE := Lib.hid hbe; have HN1 := Lib.hid n1; have HN2 := Lib.hid n2; have HS2 := Lib.hid hs2; clear hb1 hbe n1 n2 hs2
 go_wp2_with fail; cases RL with
 | error er =>
   obtain ⟨p, er⟩ := er; refine HAL.out.mono ?_; rintro e w3 ⟨⟨v, rfl, hft⟩, hb3⟩; obtain ⟨f, rfl, hf⟩ := hft; have m1 := block_below HN1.out hb3; have m2 := block_below HN2.out hb3; have c1 := block_cell (i := 0) m1 rfl; have c2 := block_cell (i := 0) m2 rfl; have f1 := block_free (i := 0) m1; have f2 := block_free (i := 0) m2
   go_wp2_with fail; have o1 := block_setCell (a := ⟨b1 + 1, 0, none⟩) m1 (show b1 ≠ b1 + 1 by omega) (.iface 47 (.pointer (some ⟨f, 0, none⟩))); have o2 := block_set (i := 0) m2 (.iface 47 (.pointer (some ⟨f, 0, none⟩))); have hlt := block_lt hf; have hfl := block_setCell (a := ⟨b1 + 1, 0, none⟩) hf (show f ≠ b1 + 1 from fun e => by subst e; rw [m2] at hf; cases hf) (.iface 47 (.pointer (some ⟨f, 0, none⟩))); have hbb : Below w.heap.size w (w3.setCell ⟨b1 + 1, 0, none⟩ (.iface 47 (.pointer (some ⟨f, 0, none⟩)))) := (HBE.out.trans (hb3.mono (by have := HB1.out; have := HS2.out; omega))).setCell (by have := HB1.out; simp; omega) _; have d1 := block_cell (i := 0) o1 rfl; have d2 := block_cell (i := 0) o2 rfl; have g1 := block_free (i := 0) o1; have g2 := block_free (i := 0) o2; generalize (w3.setCell ⟨b1 + 1, 0, none⟩ (.iface 47 (.pointer (some ⟨f, 0, none⟩)))) = w4 at *; clear c1 c2 f1 f2; have hRR : RF = .error (p, er) := HRF.out.symm; subst hRR; go_region
   go_wp2_with fail; have q1 := block_setCell (a := ⟨b1 + 1, 0, none⟩) (block_set (i := 0) o1 (.slice none 0 0)) (show b1 ≠ b1 + 1 by omega) (.iface 47 (.pointer (some ⟨f, 0, none⟩))); have q2 := block_set (i := 0) (block_setCell (a := ⟨b1, 0, none⟩) o2 (show b1 + 1 ≠ b1 by omega) (.slice none 0 0)) (.iface 47 (.pointer (some ⟨f, 0, none⟩))); have hffl := block_setCell (a := ⟨b1 + 1, 0, none⟩) (block_setCell (a := ⟨b1, 0, none⟩) hfl (show f ≠ b1 from fun e => by subst e; rw [m1] at hf; cases hf) (.slice none 0 0)) (show f ≠ b1 + 1 from fun e => by subst e; rw [m2] at hf; cases hf) (.iface 47 (.pointer (some ⟨f, 0, none⟩))); have hbf := ((hbb.setCell (p := ⟨b1, 0, none⟩) (by have := HB1.out; simp; omega) (.slice none 0 0)).setCell (p := ⟨b1 + 1, 0, none⟩) (by have := HB1.out; simp; omega) (.iface 47 (.pointer (some ⟨f, 0, none⟩)))).drew; refine ⟨.tuple #[.slice none 0 0, .iface 47 (.pointer (some ⟨f, 0, none⟩))], ?_, ?_⟩
   · have e1 := block_cell (i := 0) q1 rfl
     have e2 := block_cell (i := 0) q2 rfl; exact results_parse (by rfl) (by rfl) (by simpa using e1) (by simpa using e2)
   · exact ⟨⟨_, rfl, f, _, rfl, hffl⟩, hbf⟩
 | ok ts =>
   obtain ⟨hgood, hlen⟩ := lexP_good HRL.out; refine HAL.out.mono ?_; rintro e w3 ⟨⟨out, rfl, hown⟩, hb3⟩; have m1 := block_below HN1.out hb3; have m2 := block_below HN2.out hb3; obtain ⟨hll, h | ⟨g, cap, cur, rfl, hbg, hh, hle, hmx, hsz, htk⟩⟩ := hown
   · exact absurd (List.eq_nil_of_length_eq_zero h.2) hgood.ne
   have htb : TB w3 g 0 ts := ⟨cur, hh, fun j u hj => by
    rw [Nat.zero_add]; rw [← htk, List.getElem?_take] at hj; split at hj
    · simpa using hj
    · cases hj⟩
   have c1 := block_cell (i := 0) m1 rfl; have c2 := block_cell (i := 0) m2 rfl; have f1 := block_free (i := 0) m1; have f2 := block_free (i := 0) m2; have HGD := Lib.hid hgood; have HLN := Lib.hid hlen; have HTB := Lib.hid htb; have HB3 := Lib.hid hb3; have HM1 := Lib.hid m1; have HM2 := Lib.hid m2; have HLE := Lib.hid hle; have HMX := Lib.hid hmx; have hs3 := hb3.size; have hs2 := HS2.out; have hb1w := HB1.out; clear hgood hlen htb hb3 m1 m2 hle hmx hh htk hsz hll; go_upto_region 5 with fail
   have o1 := block_setCell (a := ⟨b1 + 1, 0, none⟩) HM1.out (show b1 ≠ b1 + 1 by omega) .nilIface; have o2 := block_set (i := 0) HM2.out .nilIface; have hz4 : w3.heap.size ≤ (w3.setCell ⟨b1 + 1, 0, none⟩ .nilIface).heap.size := by simp [World.setCell]
   have hbb : Below w.heap.size w (w3.setCell ⟨b1 + 1, 0, none⟩ .nilIface) := (HBE.out.trans (HB3.out.mono (by omega))).setCell (by simp; omega) _; have htb : TB (w3.setCell ⟨b1 + 1, 0, none⟩ .nilIface) g 0 ts := by
    obtain ⟨cur2, h4, h5⟩ := HTB.out; exact ⟨cur2, block_setCell h4 (by simp; omega) _, h5⟩
   have hgl : g < w3.heap.size := by
    obtain ⟨cur2, h4, h5⟩ := HTB.out; exact block_lt h4
   generalize (w3.setCell ⟨b1 + 1, 0, none⟩ .nilIface) = w4 at *; clear c1 c2 f1 f2; have hps : PS (w4.alloc (.cells #[.slice (some ⟨g, 0, none⟩) ts.length cap, .int .i64 0] 50)) w4.heap.size g 32 ts := by
    have hga := (HG.out.keeps hNG hbb); obtain ⟨⟨_, hnn⟩, ⟨m, hm⟩, hml⟩ := hga; obtain ⟨cur2, h4, h5⟩ := htb; exact ⟨⟨0, cap, block_new _ _ rfl, HLE.out, HMX.out, cur2, block_alloc h4 _, h5⟩, HGD.out, by have := HLN.out; omega, by omega, by omega, ⟨m, by rw [Below.cell ((Below.refl _ _).alloc (Nat.le_refl _) _) (by simp; omega)]; exact hm⟩, by omega⟩
   have p1 := block_alloc o1 (.cells #[.slice (some ⟨g, 0, none⟩) ts.length cap, .int .i64 0] 50); have p2 := block_alloc o2 (.cells #[.slice (some ⟨g, 0, none⟩) ts.length cap, .int .i64 0] 50); have hb5 := hbb.alloc (by omega) (.cells #[.slice (some ⟨g, 0, none⟩) ts.length cap, .int .i64 0] 50); have hbl1 := block_lt o1; have hbl2 := block_lt o2; have hz5 : (w4.alloc (.cells #[.slice (some ⟨g, 0, none⟩) ts.length cap, .int .i64 0] 50)).heap.size = w4.heap.size + 1 := by simp
   obtain ⟨pb, hpb⟩ : ∃ pb, w4.heap.size = pb := ⟨_, rfl⟩; go_upto_region 6 with fail
   rw [hpb] at hps hbl1 hbl2 hz5; generalize (w4.alloc (.cells #[.slice (some ⟨g, 0, none⟩) ts.length cap, .int .i64 0] 50)) = w5 at *; have HB5 := Lib.hid hb5; have HP1 := Lib.hid p1; have HP2 := Lib.hid p2; have HZ5 := Lib.hid hz5; have HPS := Lib.hid hps; have hpbz : w.heap.size + 2 ≤ pb := by omega
   have HBW := Lib.hid hb1w; obtain ⟨RT, hRT⟩ : ∃ R, (Lv 32).top ts = R := ⟨_, rfl⟩; have HC := Lib.hid (hRT ▸ reads pb g 32 w5 ts hps); have HSZ := Lib.hid (hRT ▸ (Lv_sz 32).top ts); have HLV := Lib.hid hRT; have HRR := Lib.hid (show RF = parseR RT by rw [← HRF.out, ← hRT]; rfl); clear o1 o2 hz4 hbb htb hgl hb5 hz5 p1 p2 hps hpb hRT hb1w hs2 hs3
   go_wp2_with fail; cases RT with
   | error er =>
     obtain ⟨p, er⟩ := er; have hRR : RF = .error (p, er) := HRR.out; subst hRR; refine HC.out.mono ?_; rintro e w6 ⟨rfl, hb6⟩; have q1 := hb6.get (block_lt HP1.out) (by omega) HP1.out; have q2 := hb6.get (block_lt HP2.out) (by omega) HP2.out; have hbw6 : Below w.heap.size w w6 := HB5.out.trans (hb6.below (by have := HZ5.out; omega) (by omega)); exact door_stop (by rfl) (by rfl) q1 q2 hbw6 HBW.out
   | ok r =>
     obtain ⟨t, us⟩ := r; have hszt := Lv_sz 32 |>.top ts t us (by have := HLV.out; exact this)
     have hln := HLN.out; have hct : cnt t ≤ 20000 := by omega
     refine HC.out.mono ?_; rintro e w6 ⟨⟨x, rfl, htr⟩, hp6, hb6⟩; obtain ⟨u, vs, rfl⟩ := hp6.split; have hf0 := fld0; have hz6 := hb6.size; have q1 := hb6.get (block_lt HP1.out) (by omega) HP1.out; have q2 := hb6.get (block_lt HP2.out) (by omega) HP2.out; have hbw6 : Below w.heap.size w w6 := HB5.out.trans (hb6.below (by have := HZ5.out; omega) (by omega)); have hrr : RF = parseE t (u :: vs) := HRR.out; have HRE := Lib.hid hrr; have HTR := Lib.hid htr; have HP6 := Lib.hid hp6; have HBW6 := Lib.hid hbw6; have HQ1 := Lib.hid q1; have HQ2 := Lib.hid q2; clear htr hp6 hbw6 q1 q2 hb6 hszt hln hrr; unfold ptr
     go_wp2_with fail; refine (next_any HP6.out).mono ?_; rintro e w7 ⟨rfl, hb7⟩; have HQ17 := Lib.hid (block_below HQ1.out hb7); have HQ27 := Lib.hid (block_below HQ2.out hb7); have HP7 := Lib.hid (HP6.out.below hb7 HP6.out.lt); have HTR7 := Lib.hid (HTR.out.keep (Below.keeps hb7)); have hz7 := hb7.size; have HB7 := Lib.hid (HBW6.out.trans (hb7.mono (by have := HBW6.out.size; omega))); clear hb7; by_cases hk : u.kind = 0
     · have hrx : RF = if 1000 < (flatP t []).length then .error (0, 8) else .ok (flatP t []) := by
        rw [HRE.out, parseE_cons, if_pos hk]
       have HRX := Lib.hid hrx; have hb7z := HB7.out.size; have HFL := Lib.hid (flat_any (A := pb + 1) (B := w7.heap.size) (cnt t) t (fun _ => True) w7 x (.slice none 0 0) [] (Nat.le_refl _) (HTR7.out.mono (fun k hk hl => ⟨by have := HZ5.out; omega, hl⟩)) (ND.nil _ _ _ _) (fun _ _ => trivial) (Nat.le_refl _) (by simpa using hct)); unfold ptr at HFL; clear hrx
       go_wp2_with fail; refine HFL.out.mono ?_; rintro e w8 ⟨v8, ls8, rfl, hnd8, hmap8, hg8, hv8⟩; obtain ⟨va, vc, hsv⟩ := own_shape hnd8.own; subst hsv; obtain ⟨N, hN⟩ : ∃ N, (flatP t []).length = N := ⟨_, rfl⟩; have hl8 : ls8.length = N := by rw [← hN]; have := congrArg List.length hmap8; simpa using this
       rw [hl8] at hnd8 hv8; rw [hl8]; have hm1 := block_grown HQ17.out hg8 (by simp [Value.ownBlock]); have hm2 := block_grown HQ27.out hg8 (by simp [Value.ownBlock]); have c1 := block_cell (i := 0) hm1 rfl; have f1 := block_free (i := 0) hm1; have c2 := block_cell (i := 0) hm2 rfl; have f2 := block_free (i := 0) hm2; have HM1' := Lib.hid hm1; have HM2' := Lib.hid hm2; have HND8 := Lib.hid hnd8; have HMAP := Lib.hid hmap8; have HG8 := Lib.hid hg8; have HV8 := Lib.hid hv8; have HL8 := Lib.hid hl8; have HNN := Lib.hid hN; have hz8 := hg8.size; have hbl1 := block_lt hm1; have hbl2 := block_lt hm2; clear hm1 hm2 hnd8 hmap8 hg8 hv8 hl8 hN; by_cases hbig : 1000 < N
       · have hrf : RF = .error (0, 8) := by rw [HRX.out, HNN.out, if_pos hbig]
         subst hrf; have hbz : (1000 : Int) < (N : Int) := by omega
         have hfv : (Value.iface 47 (.pointer (some ⟨w8.heap.size, 0, none⟩))).oneCell' = true := rfl; have r1 := block_alloc (block_setCell (a := ⟨b1 + 1, 0, none⟩) (block_set (i := 0) (block_set (i := 0) HM1'.out (.slice va N vc)) (.slice none 0 0)) (show b1 ≠ b1 + 1 by omega) (.iface 47 (.pointer (some ⟨w8.heap.size, 0, none⟩)))) (.cells #[.int .i64 0, .int .i64 8] 44); have r2 := block_alloc (block_set (i := 0) (block_setCell (a := ⟨b1, 0, none⟩) (block_setCell (a := ⟨b1, 0, none⟩) HM2'.out (show b1 + 1 ≠ b1 by omega) (.slice va N vc)) (show b1 + 1 ≠ b1 by omega) (.slice none 0 0)) (.iface 47 (.pointer (some ⟨w8.heap.size, 0, none⟩)))) (.cells #[.int .i64 0, .int .i64 8] 44); have hb9 : Below w.heap.size w ((((w8.setCell ⟨b1, 0, none⟩ (.slice va N vc)).setCell ⟨b1, 0, none⟩ (.slice none 0 0)).setCell ⟨b1 + 1, 0, none⟩ (.iface 47 (.pointer (some ⟨w8.heap.size, 0, none⟩)))).alloc (.cells #[.int .i64 0, .int .i64 8] 44)) := by
          have h0 : Below w.heap.size w w8 := HB7.out.trans ⟨HG8.out.os, HG8.out.tape, HG8.out.output, HG8.out.size, fun k hk => HG8.out.block k (by omega) (by simp [Value.ownBlock])⟩; exact (((h0.setCell (p := ⟨b1, 0, none⟩) (by have := HBW.out; simp; omega) _).setCell (p := ⟨b1, 0, none⟩) (by have := HBW.out; simp; omega) _).setCell (p := ⟨b1 + 1, 0, none⟩) (by have := HBW.out; simp; omega) _).alloc (by have := HBW.out; simp [World.setCell]; omega) _
         have hfe : FE ((((w8.setCell ⟨b1, 0, none⟩ (.slice va N vc)).setCell ⟨b1, 0, none⟩ (.slice none 0 0)).setCell ⟨b1 + 1, 0, none⟩ (.iface 47 (.pointer (some ⟨w8.heap.size, 0, none⟩)))).alloc (.cells #[.int .i64 0, .int .i64 8] 44)) (.pointer (some ⟨w8.heap.size, 0, none⟩)) 0 8 :=
          ⟨w8.heap.size, _, rfl, block_new _ _ (by simp [World.setCell])⟩
         go_wp2_with fail; exact door_idle (by rfl) (by rfl) r1 r2 ⟨⟨_, rfl, hfe⟩, hb9⟩
       · have hrf : RF = .ok (flatP t []) := by rw [HRX.out, HNN.out, if_neg hbig]
         subst hrf; have hbz : ¬ (1000 : Int) < (N : Int) := by omega
         have r1 := block_setCell (a := ⟨b1 + 1, 0, none⟩) (block_set (i := 0) (block_set (i := 0) HM1'.out (.slice va N vc)) (.slice va N vc)) (show b1 ≠ b1 + 1 by omega) .nilIface; have r2 := block_set (i := 0) (block_setCell (a := ⟨b1, 0, none⟩) (block_setCell (a := ⟨b1, 0, none⟩) HM2'.out (show b1 + 1 ≠ b1 by omega) (.slice va N vc)) (show b1 + 1 ≠ b1 by omega) (.slice va N vc)) .nilIface; have hnd9 : ND (fun _ => True) (pb + 1) w7.heap.size (((w8.setCell ⟨b1, 0, none⟩ (.slice va N vc)).setCell ⟨b1, 0, none⟩ (.slice va N vc)).setCell ⟨b1 + 1, 0, none⟩ .nilIface) (.slice va N vc) ls8 :=
          HND8.out.keep (fun k hk hkk => by
           have h1 : k ≠ b1 ∧ k ≠ b1 + 1 := by have := HBW.out; have := HZ5.out; omega
           rw [Below.heap_setCell _ _ _ _ h1.2, Below.heap_setCell _ _ _ _ h1.1, Below.heap_setCell _ _ _ _ h1.1])
         have hb9 : Below w.heap.size w (((w8.setCell ⟨b1, 0, none⟩ (.slice va N vc)).setCell ⟨b1, 0, none⟩ (.slice va N vc)).setCell ⟨b1 + 1, 0, none⟩ .nilIface) := by
          have h0 : Below w.heap.size w w8 := HB7.out.trans ⟨HG8.out.os, HG8.out.tape, HG8.out.output, HG8.out.size, fun k hk => HG8.out.block k (by omega) (by simp [Value.ownBlock])⟩; exact ((h0.setCell (p := ⟨b1, 0, none⟩) (by have := HBW.out; simp; omega) _).setCell (p := ⟨b1, 0, none⟩) (by have := HBW.out; simp; omega) _).setCell (p := ⟨b1 + 1, 0, none⟩) (by have := HBW.out; simp; omega) _
         go_wp2_with fail; exact door_idle (by rfl) (by rfl) r1 r2 ⟨⟨_, _, _, _, rfl, hnd9, by simpa using HMAP.out, by omega, by have := HZ5.out; omega⟩, hb9⟩
     · have hrx : RF = .error (wrongP (u :: vs)) := by
        rw [HRE.out, parseE_cons, if_neg hk]
       obtain ⟨wp, we, hwr⟩ : ∃ p e, wrongP (u :: vs) = (p, e) := ⟨_, _, rfl⟩; rw [hwr] at hrx; subst hrx; have HWR := Lib.hid (hwr ▸ wrong_any HP7.out); clear hwr
       go_wp2_with fail; refine HWR.out.mono ?_; rintro e w8 ⟨rfl, hb8⟩; exact door_stop (by rfl) (by rfl) (block_below HQ17.out hb8) (block_below HQ27.out hb8) (HB7.out.trans (hb8.mono HB7.out.size)) HBW.out
end Go.Proofs.YtkoghgnjjfnamaaGreatDoor
