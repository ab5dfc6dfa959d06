/- FltZ: what is used of them. -/
import Derived.Test.YtkoghgnjjfnamaaGreatDoorFltX
import Derived.Test.YtkoghgnjjfnamaaGreatDoorLocal
namespace Go.Proofs.YtkoghgnjjfnamaaGreatDoor
set_option maxRecDepth 100000
set_option maxHeartbeats 1000000
open Go.RowKit
theorem bool2_f' (w : World) : Calls Tryz.prog 161 #[.bool false] w fun e w' => e = .returned (.int .u64 0) ∧ w = w' := (bool2_any false w).mono fun _ _ h => h
def pfW (m : Nat) (x : Int) (tr : Bool) (D : Dc) : Nat :=
 if m = 0 then 0 else if 310 < x then 9218868437227405312 else if x < -345 then 0 else if tr = false then (match exR m x with | some f => f | none => pf64 m x) else if (FloatKind.f64.format.order (pf64 m x) (pf64 (m + 1) x) == some .eq) = true then pf64 m x else (fbP D).1.toNat
structure FG (B : Nat) (w : World) : Prop where
 opt0 : 5 < B
 opt : w.cell? ⟨5, 0, none⟩ = some (.bool true)
 fb : FbG B w
 p10 : P10G B w
 pw : PwG B w
theorem FG.keeps {B B' : Nat} {w w' : World} (hB : B ≤ B') (hb : Below B' w w') (h : FG B w) : FG B w' where
 opt0 := h.opt0
 opt := by rw [hb.cell (show (5 : Nat) < B' by have := h.opt0; omega)]; exact h.opt
 fb := h.fb.keeps hB hb
 p10 := h.p10.keeps hB hb
 pw := h.pw.keeps hB hb
def ErrR (v : Value) : Prop := v = .nilIface ∨ v = .iface 142 (.int .i64 1)
theorem pf64E_is (d : Nat) (p : Int) : ErrR (pf64E d p) := by
 unfold pf64E packE ErrR; split
 · exact Or.inl rfl
 · split
   · exact Or.inl rfl
   · split
     · exact Or.inr rfl
     · exact Or.inl rfl
theorem FbG.mono {B B' : Nat} {w : World} (hB : B ≤ B') (h : FbG B w) : FbG B' w where
 ch := by
  obtain ⟨h1, b, o, c, h2, h3⟩ := h.ch; exact ⟨by omega, b, o, c, by omega, h3⟩
 inf := Nat.lt_of_lt_of_le h.inf hB
 mant := h.mant
 ebits := h.ebits
 bias := h.bias
 tab := Nat.lt_of_lt_of_le h.tab hB
 pow := by
  obtain ⟨b, o, c, h1, h2, h3⟩ := h.pow; exact ⟨b, o, c, by omega, h2, h3⟩
theorem zeros_is : Tryz.zeroCells190 = Array.replicate 800 (.int .u8 0) ++ #[.int .i64 0, .int .i64 0, .bool false, .bool false] := by kernel_rfl
theorem zeros_DB (w : World) : DB (w.alloc (.cells Tryz.zeroCells190 190)) w.heap.size D0 := by
 refine ⟨Tryz.zeroCells190, block_new _ _ rfl, ?_⟩; rw [zeros_is]; refine ⟨by simp, fun i hi => ?_, ?_, ?_, ?_, ?_⟩
 · rw [Array.getElem?_append_left (by simpa using hi)]
   rw [Array.getElem?_eq_getElem (by simpa using hi)]; simp [D0]
 all_goals
  rw [Array.getElem?_append_right (by simp)]; simp [D0]
attribute [local go_sem] run_frombits
theorem atof64_any {B : Nat} {w : World} (hG : FG B w) (hB : B ≤ w.heap.size) {t : ByteArray} {p q r : Nat} {s : Int} (hS : Shp t p q) (hT : Tl t q r s) :
 Calls Tryz.prog 126 #[.string t] w fun e w' => (∃ er, ErrR er ∧ e = .returned (.tuple #[.float .f64 (pfW (rfAt t q).m (rfX t q r s) (rfAt t q).tr (dsP t q r s)), .int .i64 t.size, er])) ∧ Below w.heap.size w w' := by
 have hsz := hS.small; have hpos := hS.pos; have hlt := hS.lt; have hle := hS.le; obtain ⟨z0, z1, z2⟩ := hS.digit (i := 0) (by omega) (by omega); have HSP := Lib.hid (special_any z0 (by omega) z1 z2); have HRF := Lib.hid (fun w => readFloat_any (w := w) hS hT); have ok := rfAt_ok hS q (Nat.le_refl _); have hm := m_small ok.m_lt ok.m_le; have hX : -200000 ≤ rfX t q r s ∧ rfX t q r s ≤ 200000 := by
  have h1 := ok.dp_lo; have h2 := ok.dp_hi; have h3 := ok.m_le; unfold rfX; split
  · omega
  · rcases hT with ⟨e1, e2, e3⟩ | ⟨_, _, ⟨_, e3, e4⟩ | ⟨_, e3, _, e4⟩ | ⟨_, e3, _, e4⟩⟩
    · subst e3; omega
    · have := rfE_small e4 t.size (Nat.le_of_lt e4.1) (Nat.le_refl _)
      subst e3; omega
    · have := rfE_small e4 t.size (Nat.le_of_lt e4.1) (Nat.le_refl _)
      subst e3; omega
    · have := rfE_small e4 t.size (Nat.le_of_lt e4.1) (Nat.le_refl _)
      subst e3; omega
 have HSET := Lib.hid (fun (w : World) (g base : Nat) (h : DB w g D0) (hb : base ≤ g) => set_any h hb hS hT); have HD := Lib.hid (dsP_ok hS hT); obtain ⟨M, hM⟩ : ∃ M, (rfAt t q).m = M := ⟨_, rfl⟩; obtain ⟨TR, hTR⟩ : ∃ TR, (rfAt t q).tr = TR := ⟨_, rfl⟩; rw [hM] at hm HRF ⊢; rw [hTR] at HRF ⊢; clear ok hM hTR hS hT hpos hlt hle z1 z2; generalize rfX t q r s = X at *; generalize dsP t q r s = D at *; obtain ⟨F, hF⟩ : ∃ F, pfW M X TR D = F := ⟨_, rfl⟩; have HF := Lib.hid hF; rw [hF]; clear hF; have o1 := hG.opt; have b0 : bits .or .u64 0 0 = 0 := by decide
 have b1 : bits .or .u64 0 9218868437227405312 = 9218868437227405312 := by decide
 have HG := Lib.hid hG; have HX2 := Lib.hid hX; clear hG; by_cases hm0 : M = 0
 · subst hm0
   have HE : Hid (F = 0) := Lib.hid (by rw [← HF.out]; unfold pfW; rw [if_pos rfl]); clear HF hX; go_enter Tryz.func126, Tryz.ntmps126
   go_wp2_with fail; refine (HSP.out _).mono ?_; rintro e w2 ⟨rfl, rfl⟩
   go_wp2_with fail; refine (HRF.out _).mono ?_; rintro e w2 ⟨rfl, n1, rfl⟩; have o2 : (w.drewN n1).cell? ⟨5, 0, none⟩ = some (.bool true) := o1
   go_wp2_with fail; refine (bool2_f' _).mono ?_; rintro e w3 ⟨rfl, rfl⟩
   go_wp2_with fail; go_ret3; rw [HE.out]; exact ⟨⟨_, Or.inl rfl, rfl⟩, below_drewN (Below.refl _ _) _⟩
 · have hmz : ((M : Int) == 0) = false := by simp; omega
   by_cases hx1 : 310 < X
   · have HE : Hid (F = 9218868437227405312) := Lib.hid (by rw [← HF.out]; unfold pfW; rw [if_neg hm0, if_pos hx1])
     clear HF; go_enter Tryz.func126, Tryz.ntmps126
     go_wp2_with fail; refine (HSP.out _).mono ?_; rintro e w2 ⟨rfl, rfl⟩
     go_wp2_with fail; refine (HRF.out _).mono ?_; rintro e w2 ⟨rfl, n1, rfl⟩; have o2 : (w.drewN n1).cell? ⟨5, 0, none⟩ = some (.bool true) := o1
     go_wp2_with fail; refine (bool2_f' _).mono ?_; rintro e w3 ⟨rfl, rfl⟩
     go_wp2_with fail; go_ret3; rw [HE.out]; exact ⟨⟨_, Or.inr rfl, rfl⟩, below_drewN (Below.refl _ _) _⟩
   · by_cases hx2 : X < -345
     · have HE : Hid (F = 0) := Lib.hid (by rw [← HF.out]; unfold pfW; rw [if_neg hm0, if_neg hx1, if_pos hx2])
       clear HF; go_enter Tryz.func126, Tryz.ntmps126
       go_wp2_with fail; refine (HSP.out _).mono ?_; rintro e w2 ⟨rfl, rfl⟩
       go_wp2_with fail; refine (HRF.out _).mono ?_; rintro e w2 ⟨rfl, n1, rfl⟩; have o2 : (w.drewN n1).cell? ⟨5, 0, none⟩ = some (.bool true) := o1
       go_wp2_with fail; refine (bool2_f' _).mono ?_; rintro e w3 ⟨rfl, rfl⟩
       go_wp2_with fail; go_ret3; rw [HE.out]; exact ⟨⟨_, Or.inl rfl, rfl⟩, below_drewN (Below.refl _ _) _⟩
     · have HP1 := Lib.hid (fun (w' : World) (hb : Below w.heap.size w w') => parse64_any (d := M) (p := X) (HG.out.pw.keeps hB hb) (Nat.le_trans hB hb.size) (by omega) (by omega) (by omega))
       cases TR
       · have HE : Hid ((match exR M X with | some f => f | none => pf64 M X) = F) := Lib.hid (by rw [← HF.out]; unfold pfW; rw [if_neg hm0, if_neg hx1, if_neg hx2, if_pos rfl])
         have HEX := Lib.hid (fun n => exact_any (w := w.drewN n) (HG.out.p10.keeps hB (below_drewN (Below.refl _ _) n)) HG.out.fb.mant (m := M) (by omega) (e := X) (by omega) (by omega)); clear HF; go_enter Tryz.func126, Tryz.ntmps126
         go_wp2_with fail; refine (HSP.out _).mono ?_; rintro e w2 ⟨rfl, rfl⟩
         go_wp2_with fail; refine (HRF.out _).mono ?_; rintro e w2 ⟨rfl, n1, rfl⟩; have o2 : (w.drewN n1).cell? ⟨5, 0, none⟩ = some (.bool true) := o1
         go_wp2_with fail; refine (bool2_f' _).mono ?_; rintro e w3 ⟨rfl, rfl⟩
         go_wp2_with fail; refine (HEX.out _).mono ?_; intro e w4 h4; obtain ⟨o, ho⟩ : ∃ o, exR M X = o := ⟨_, rfl⟩; have HE2 := HE.out; rw [ho] at h4 HE2; obtain ⟨h4, rfl⟩ := h4; cases o with
         | some f =>
           simp only at h4 HE2; subst h4 HE2
           go_wp2_with fail; go_ret3; exact ⟨⟨_, Or.inl rfl, rfl⟩, below_drewN (Below.refl _ _) _⟩
         | none =>
           obtain ⟨y, rfl⟩ := h4; have HE3 := Lib.hid HE2; clear HE2 ho HE
           go_wp2_with fail; refine (HP1.out _ (below_drewN (Below.refl _ _) _)).mono ?_; rintro e w5 ⟨rfl, hb5⟩
           go_wp2_with fail; go_ret3; rw [HE3.out]; exact ⟨⟨_, pf64E_is _ _, rfl⟩, (below_drewN (Below.refl _ _) _).trans hb5⟩
       · have HP2 := Lib.hid (fun (w' : World) (hb : Below w.heap.size w w') => parse64_any (d := M + 1) (p := X) (HG.out.pw.keeps hB hb) (Nat.le_trans hB hb.size) (by omega) (by omega) (by omega))
         have hcast : ((M + 1 : Nat) : Int) = (M : Int) + 1 := by omega
         rw [hcast] at HP2; clear hcast; by_cases ho : (FloatKind.f64.format.order (pf64 M X) (pf64 (M + 1) X) == some .eq) = true
         · have HE : Hid (F = pf64 M X) := Lib.hid (by rw [← HF.out]; unfold pfW; rw [if_neg hm0, if_neg hx1, if_neg hx2, if_neg (by simp), if_pos ho])
           have HER := Lib.hid (pf64E_is M X); clear HF; go_enter Tryz.func126, Tryz.ntmps126
           go_wp2_with fail; refine (HSP.out _).mono ?_; rintro e w2 ⟨rfl, rfl⟩
           go_wp2_with fail; refine (HRF.out _).mono ?_; rintro e w2 ⟨rfl, n1, rfl⟩; have o2 : (w.drewN n1).cell? ⟨5, 0, none⟩ = some (.bool true) := o1
           go_wp2_with fail; refine (bool2_f' _).mono ?_; rintro e w3 ⟨rfl, rfl⟩
           go_wp2_with fail; refine (HP1.out _ (below_drewN (Below.refl _ _) _)).mono ?_; rintro e w5 ⟨rfl, hb5⟩; have hB5 : Below w.heap.size w w5 := (below_drewN (Below.refl _ _) _).trans hb5
           go_wp2_with fail; refine (HP2.out _ hB5).mono ?_; rintro e w6 ⟨rfl, hb6⟩
           go_wp2_with fail; go_ret3; rw [HE.out]; exact ⟨⟨_, HER.out, rfl⟩, hB5.trans (hb6.mono hB5.size)⟩
         · have ho' : (FloatKind.f64.format.order (pf64 M X) (pf64 (M + 1) X) == some .eq) = false := by simpa using ho
           have HE : Hid (F = (fbP D).1.toNat) := Lib.hid (by rw [← HF.out]; unfold pfW; rw [if_neg hm0, if_neg hx1, if_neg hx2, if_neg (by simp), if_neg ho]); clear HF ho; go_enter Tryz.func126, Tryz.ntmps126
           go_wp2_with fail; refine (HSP.out _).mono ?_; rintro e w2 ⟨rfl, rfl⟩
           go_wp2_with fail; refine (HRF.out _).mono ?_; rintro e w2 ⟨rfl, n1, rfl⟩; have o2 : (w.drewN n1).cell? ⟨5, 0, none⟩ = some (.bool true) := o1
           go_wp2_with fail; refine (bool2_f' _).mono ?_; rintro e w3 ⟨rfl, rfl⟩
           go_wp2_with fail; refine (HP1.out _ (below_drewN (Below.refl _ _) _)).mono ?_; rintro e w5 ⟨rfl, hb5⟩; have hB5 : Below w.heap.size w w5 := (below_drewN (Below.refl _ _) _).trans hb5
           go_wp2_with fail; refine (HP2.out _ hB5).mono ?_; rintro e w6 ⟨rfl, hb6⟩; have hB6 : Below w.heap.size w w6 := hB5.trans (hb6.mono hB5.size); have hex : t.extract 0 t.size = t := by apply ByteArray.ext; simp
           go_wp2_with fail; refine (HSET.out _ _ w6.heap.size (zeros_DB w6) (Nat.le_refl _)).mono ?_; rintro e w7 ⟨rfl, hD7, hb7⟩; have hB7 : Below w.heap.size w w7 := hB6.trans (((Below.refl _ _).alloc (Nat.le_refl _) _ |>.trans hb7).mono hB6.size); obtain ⟨k1, k2, _, _⟩ := HD.out; have HFB := Lib.hid (floatBits_any ((HG.out.fb.keeps hB hB7).mono (Nat.le_trans hB hB6.size)) hD7 k1 (Nat.le_refl _) k2); obtain ⟨R, hR⟩ : ∃ R, fbP D = R := ⟨_, rfl⟩; rw [hR] at HFB HE; clear hR; clear HSET HSP HRF HP1 HP2
           go_wp2_with fail; refine HFB.out.mono ?_; rintro e w8 ⟨rfl, hb8⟩; have hB8 : Below w.heap.size w w8 := hB7.trans (hb8.mono hB6.size); cases hr2 : R.2
           · go_wp2_with fail
             go_ret3; rw [HE.out]; exact ⟨⟨_, Or.inl rfl, rfl⟩, hB8⟩
           · go_wp2_with fail
             go_ret3; rw [HE.out]; exact ⟨⟨_, Or.inr rfl, rfl⟩, hB8⟩
theorem prefix_any' {B : Nat} {w : World} (hG : FG B w) (hB : B ≤ w.heap.size) {t : ByteArray} {p q r : Nat} {s : Int} (hS : Shp t p q) (hT : Tl t q r s) :
 Calls Tryz.prog 101 #[.string t, .int .i64 64] w fun e w' => (∃ er, ErrR er ∧ e = .returned (.tuple #[.float .f64 (pfW (rfAt t q).m (rfX t q r s) (rfAt t q).tr (dsP t q r s)), .int .i64 t.size, er])) ∧ Below w.heap.size w w' := by
 have H := Lib.hid (atof64_any hG hB hS hT); clear hS hT; generalize pfW (rfAt t q).m (rfX t q r s) (rfAt t q).tr (dsP t q r s) = F at *; go_enter Tryz.func101, Tryz.ntmps101
 go_wp2_with fail; refine H.out.mono ?_; rintro e w2 ⟨⟨er, he, rfl⟩, hb⟩
 go_wp2_with fail; go_ret3; exact ⟨⟨er, he, rfl⟩, hb⟩
theorem parseIn_any {B : Nat} {w : World} (hG : FG B w) (hB : B ≤ w.heap.size) {t : ByteArray} {p q r : Nat} {s : Int} (hS : Shp t p q) (hT : Tl t q r s) :
 Calls Tryz.prog 75 #[.string t, .int .i64 64] w fun e w' => (∃ er, ErrR er ∧ e = .returned (.tuple #[.float .f64 (pfW (rfAt t q).m (rfX t q r s) (rfAt t q).tr (dsP t q r s)), er])) ∧ Below w.heap.size w w' := by
 have H := Lib.hid (prefix_any' hG hB hS hT); clear hS hT; generalize pfW (rfAt t q).m (rfX t q r s) (rfAt t q).tr (dsP t q r s) = F at *; have hz : ((t.size : Int) != (t.size : Int)) = false := by simp
 go_enter Tryz.func75, Tryz.ntmps75
 go_wp2_with fail; refine H.out.mono ?_; rintro e w2 ⟨⟨er, he, rfl⟩, hb⟩
 go_wp2_with fail; go_ret2; exact ⟨⟨er, he, rfl⟩, hb⟩
theorem parseFloat_any {B : Nat} {w : World} (hG : FG B w) (hB : B ≤ w.heap.size) {ev : Value} (hR : w.cell? ⟨3, 0, none⟩ = some ev) (hR1 : 3 < B) (hev : ev = .nilIface ∨ ∃ te pe, ev = .iface te pe)
 {t : ByteArray} {p q r : Nat} {s : Int} (hS : Shp t p q) (hT : Tl t q r s) :
 Calls Tryz.prog 53 #[.string t, .int .i64 64] w fun e w' => (∃ er, e = .returned (.tuple #[.float .f64 (pfW (rfAt t q).m (rfX t q r s) (rfAt t q).tr (dsP t q r s)), er])) ∧ Below w.heap.size w w' := by
 have H := Lib.hid (parseIn_any hG hB hS hT); have hsz := hS.small; clear hS hT; generalize pfW (rfAt t q).m (rfX t q r s) (rfAt t q).tr (dsP t q r s) = F at *; go_enter Tryz.func53, Tryz.ntmps53
 go_wp2_with fail; refine H.out.mono ?_; rintro e w2 ⟨⟨er, he, rfl⟩, hb⟩; rcases he with rfl | rfl
 · go_wp2_with fail
   go_ret2; exact ⟨⟨_, rfl⟩, hb⟩
 · have hR2 : w2.cell? ⟨3, 0, none⟩ = some ev := by
    rw [hb.cell (show (3 : Nat) < w.heap.size by omega)]; exact hR
   have HT := Lib.hid (Tryz.strconv_toError_range ⟨#[80, 97, 114, 115, 101, 70, 108, 111, 97, 116]⟩ t 0 64 ev w2 (by omega) hR2 hev); clear hR2 hR
   go_wp2_with fail; refine HT.out.mono ?_; rintro e w3 ⟨N, rfl, _, _, hb3⟩
   go_wp2_with fail; go_ret2; exact ⟨⟨_, rfl⟩, hb.trans (hb3.mono hb.size)⟩
end Go.Proofs.YtkoghgnjjfnamaaGreatDoor
