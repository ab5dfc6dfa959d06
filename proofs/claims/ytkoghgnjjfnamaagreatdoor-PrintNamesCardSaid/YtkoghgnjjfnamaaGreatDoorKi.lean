/- PrintN, RightN, ShownN: what is used of them. -/
import Derived.Test.YtkoghgnjjfnamaaGreatDoorNodeN
import Derived.Test.YtkoghgnjjfnamaaGreatDoorRightV
import Derived.Test.YtkoghgnjjfnamaaGreatDoorShapeW
set_option linter.unusedSectionVars false
set_option linter.unusedSimpArgs false
set_option linter.unusedVariables false
namespace Go.Proofs.YtkoghgnjjfnamaaGreatDoor
set_option maxRecDepth 100000
set_option maxHeartbeats 2000000
open Go.RowKit Go.Shelf
def printR (t : T) : ByteArray := match parseP pfA ⟨(prX t).toArray⟩ with | .ok _ => ⟨(prX t).toArray⟩ | .error _ => ⟨#[]⟩
theorem Print_no {w : World} {v : Value} (h : Calls Tryz.prog 11 #[v] w fun e w' => e = .returned (.bool false) ∧ Below w.heap.size w w') :
 Calls Tryz.prog 9 #[v] w fun e w' => e = .returned (.string ⟨#[]⟩) ∧ Below w.heap.size w w' := by
 have HR := Lib.hid h; clear h; go_enter Tryz.func9, Tryz.ntmps9
 go_wp2_with fail; refine HR.out.mono ?_; rintro e w1 ⟨rfl, hb1⟩
 go_wp2_with fail; go_ret; exact ⟨rfl, hb1⟩
theorem Print_gen {NG : Nat} {w : World} (hG : GP NG w) {fb c m : Nat} {t : T} (h : Calls Tryz.prog 11 #[.slice (some ⟨fb, 0, none⟩) (m + 1) c] w fun e w' => e = .returned (.bool true) ∧ Below w.heap.size w w')
 (hnd : ∀ (w' : World), Below w.heap.size w w' → ∀ g, w'.heap.size ≤ g → NodeC g w' (.slice (some ⟨fb, 0, none⟩) (m + 1) c) t m) (hm9 : m ≤ 999) (hS1 : (prX t).length ≤ 140737488355328) (hne : prX t ≠ []) :
 Calls Tryz.prog 9 #[.slice (some ⟨fb, 0, none⟩) (m + 1) c] w fun e w' => e = .returned (.string (printR t)) ∧ Below w.heap.size w w' := by
 have HR := Lib.hid h; have HND := Lib.hid hnd; have HP := Lib.hid (fun (w' : World) (hb : Below w.heap.size w w') => Parse_any (hG.below hb) ⟨(prX t).toArray⟩); have hmw : IntKind.i64.wrap (((m + 1 : Nat) : Int) - 1) = (m : Int) := by rw [IntWalk.i64_in _ (by omega)]; omega
 have hmw2 : IntKind.i64.wrap (m : Int) = (m : Int) := IntWalk.i64_in _ (by omega); obtain ⟨R, hR⟩ : ∃ R, parseP pfA ⟨(prX t).toArray⟩ = R := ⟨_, rfl⟩; unfold printR; rw [hR] at HP ⊢; clear hG h hnd hR; go_enter Tryz.func9, Tryz.ntmps9
 go_wp2_with fail; refine HR.out.mono ?_; rintro e w1 ⟨rfl, hb1⟩; have HB1 := Lib.hid hb1; clear hb1
 go_wp2_with fail; refine (HND.out w1 HB1.out w1.heap.size (Nat.le_refl _) _ [] ((Below.refl _ _).alloc (Nat.le_refl _) _) (WR.new _ _ _ rfl) (by simpa using hS1)).mono ?_; rintro e w2 ⟨rfl, hw2, hk2⟩; rw [List.nil_append] at hw2; have hb2 : Below w1.heap.size w1 w2 := ((Below.refl w1.heap.size w1).alloc (Nat.le_refl _) _).trans hk2.below; have HB2 := Lib.hid (HB1.out.next hb2); have hz2 := hb2.size; clear hk2 hb2
 go_wp2_with fail; refine (strW_any hw2 hne).mono ?_; rintro e w3 ⟨rfl, hb3⟩; have HB3 := Lib.hid (HB2.out.trans (hb3.mono HB1.out.size)); clear hb3 hw2
 go_wp2_with fail; cases R with
 | ok l =>
   refine (HP.out w3 HB3.out).mono ?_; rintro e w4 ⟨⟨out, ls2, A, B, rfl, hnd, hmap, hA, hAB⟩, hb4⟩; obtain ⟨a2, cap2, rfl⟩ := own_shape hnd.own; have HB4 := Lib.hid (HB3.out.next hb4); clear hnd hmap hb4 hA hAB
   go_wp2_with fail; go_ret; exact ⟨rfl, HB4.out⟩
 | error er =>
   obtain ⟨p, er⟩ := er; refine (HP.out w3 HB3.out).mono ?_; rintro e w4 ⟨⟨v, rfl, _⟩, hb4⟩; have HB4 := Lib.hid (HB3.out.next hb4); clear hb4
   go_wp2_with fail; go_ret; exact ⟨rfl, HB4.out⟩
open Go.RowKit
def GoodM (x : Nd) (i : Nat) : Prop :=
 OkN (QR fun _ => False) x.kind x.text x.int x.flt x.names x.kids.length ∧ kP x.kind ∧ x.names.length ≤ 1000 ∧ (∀ s ∈ x.names, s.size ≤ 1024) ∧ x.kids.length ≤ 1000 ∧ x.kids.Pairwise (· < ·) ∧ ∀ k ∈ x.kids, k < i
theorem shape_good {NG : Nat} {w : World} (hG : GP NG w) {x : Nd} {i : Nat} (h : GoodM x i) (a1 a2 : Option Addr) (c1 c2 : Nat) (p : Int) :
 Calls Tryz.prog 21 #[.agg #[.int .i64 x.kind, .string x.text, .int .i64 x.int, .float .f64 x.flt, .slice a1 x.names.length c1, .slice a2 x.kids.length c2, .int .i64 p]] w fun e w' => e = .returned (.bool true) ∧ Below w.heap.size w w' := by
 obtain ⟨h1, h2, _⟩ := h; have h0 := okN_flt h1; rw [h0] at h1 ⊢; exact shape_any hG h2 h1 a1 a2 c1 c2 p
theorem Right_exN {NG : Nat} {w : World} (hG : GP NG w) {pn : Nat → Prop} {pk : Nat → Nat → Prop} {fb c : Nat} {ls : List NV} (HN : NRd pn pk w fb 0 ls) {t : T} (hls : ls.map NV.nd = nodes t 0) (hex : EXr (QR fun _ => False) t) (hlen : ls.length ≤ 1000)
 (hgood : ∀ (i : Nat) (x : Nd), (nodes t 0)[i]? = some x → GoodM x i) :
 Calls Tryz.prog 11 #[.slice (some ⟨fb, 0, none⟩) ls.length c] w fun e w' => e = .returned (.bool true) ∧ Below w.heap.size w w' := by
 obtain ⟨l0, r, hr, hrk, _⟩ := root_of t 0; have hll : ls.length = (nodes t 0).length := by rw [← hls, List.length_map]
 have hpos : 0 < ls.length := by rw [hll, hr]; simp
 have hgood : ∀ (i : Nat) (x : NV), ls[i]? = some x → GoodM x.nd i := fun i x hx => hgood i x.nd (by rw [← hls, List.getElem?_map, hx]; rfl)
 have hil : ∀ (i : Nat) (x : NV), ls[i]? = some x → i < ls.length := fun i x hx => (List.getElem?_eq_some_iff.1 hx).1
 have hN : ∀ (i : Nat) (x : NV), ls[i]? = some x → NodeOK (fun _ => true) (fun _ => true) (nodes t 0) (begT' t 0) x.nd i := fun i x hx =>
  right_ex (nm := fun _ => true) (fB := fun _ => true) (fo := fun _ => False) (fun _ _ => rfl) (fun _ _ => rfl) rfl hex i x.nd (by rw [← hls, List.getElem?_map, hx]; rfl)
 obtain ⟨bl, hbl⟩ := begT_last t 0; have hblen := begT_len t 0; have key := Right_full (c := c) HN hpos hlen (B := ls.length) (Nat.le_refl _) (begs := begT' t 0) (by rw [hblen, hll]) ?_ (fun i x hx => ?_) (fun i x hx _ => (hN i x hx).2.1) (fun x hx => absurd (hil _ x hx) (Nat.lt_irrefl _)) (fun i x hx _ => ?_) (fun _ => ?_) (fun _ i x hx hi => ?_)
 · simpa using key
 · intro i x hx _ a1 a2 c1 c2 w' hb
   exact shape_good (hG.below hb) (hgood i x hx) a1 a2 c1 c2 (x.nd.place : Int)
 · obtain ⟨_, _, h3, h4, _⟩ := hgood i x hx
   exact ⟨by omega, fun s hs => Nat.le_trans (h4 s hs) (by unfold maxLen; omega)⟩
 · obtain ⟨_, _, _, _, h5, h6, h7⟩ := hgood i x hx
   rw [hls]; exact ⟨(hN i x hx).2.2, h5, h6.imp (fun h => Nat.ne_of_lt h), h7⟩
 · rw [hll, ← hblen, hbl, List.length_append, List.length_cons, List.length_nil, Nat.zero_add, Nat.add_sub_cancel, List.getD_eq_getElem?_getD, List.getElem?_append_right (Nat.le_refl _), Nat.sub_self]
   rfl
 · have h1 : (nodes t 0)[i]? = some x.nd := by rw [← hls, List.getElem?_map, hx]; rfl
   rw [hr] at h1 hll; rw [List.length_append, List.length_cons, List.length_nil] at hll; obtain rfl : i = l0.length := by omega
   rw [List.getElem?_append_right (Nat.le_refl _), Nat.sub_self] at h1; cases h1; rw [hrk]; exact hex.2
theorem good_pr {t : T} (hex : EXr (QR fun _ => False) t) (hok : PrOK t) : ∀ (i : Nat) (x : Nd), (nodes t 0)[i]? = some x → GoodM x i := fun i x hx => by
 obtain ⟨h1, h2, h3, h4, h5, h6⟩ := nodes_in t 0 hex.1 hok i x hx; rw [Nat.zero_add] at h6; exact ⟨h1, h2, by rw [h3]; simp, (by rw [h3]; intro s hs; cases hs), by omega, h4, h6⟩
section
variable {NG : Nat} {pn : Nat → Prop} {pk : Nat → Nat → Prop} {w0 : World} {fb g c : Nat} {ls : List NV} (hG : GP NG w0) (HN : NRd pn pk w0 fb 0 ls) (hg : w0.heap.size ≤ g) (hl : ls.length ≤ 1000)
include hG HN hg hl
mutual
theorem node_allN : ∀ (t : T) (i : Nat), SubT (ls.map NV.nd) t i → PrOK t → KidI g w0 fb c ls t i
 | .mk k tx n f ns p ks, i, hs, ho => by
   obtain ⟨is, hi, hk⟩ := subT_mk.1 hs; obtain ⟨hns, hc, hks⟩ := prOK_mk.1 ho; subst hns; rw [List.getElem?_map] at hi; obtain ⟨x, hx, hxn⟩ := Option.map_eq_some_iff.1 hi; have hkids := nodes_allN ks is hk hks; rcases hc with ⟨rfl, rfl⟩ | ⟨rfl, hnm, hl1, h8⟩ | ⟨rfl, hts, hl2⟩
   · have := subK_nil.1 hk
     subst this; exact ⟨Or.inr (Or.inl rfl), ⟨x, hx, by rw [hxn]; rfl, by rw [hxn]; rfl⟩, node_name HN hg hl hx hxn⟩
   · match ks, hl1 with
     | [t0], _ =>
       obtain ⟨i0, js, rfl, hs0, hj⟩ := subK_cons.1 hk
       have := subK_nil.1 hj; subst this; exact ⟨Or.inr (Or.inr (Or.inr (Or.inl rfl))), ⟨x, hx, by rw [hxn]; rfl, by rw [hxn]; rfl⟩, node_selA hG HN hg hl hx hxn (nm_pl (nm_of_is hnm)) (h8 t0 (by simp)) (hkids 0 t0 i0 rfl rfl)⟩
   · match ks, hl2 with
     | [t0, t1], _ =>
       obtain ⟨i0, js, rfl, hs0, hj⟩ := subK_cons.1 hk; obtain ⟨i1, js, rfl, hs1, hj⟩ := subK_cons.1 hj
       have := subK_nil.1 hj; subst this; exact ⟨Or.inr (Or.inr (Or.inr (Or.inr (Or.inr rfl)))), ⟨x, hx, by rw [hxn]; rfl, by rw [hxn]; rfl⟩, node_bin HN hg hl hx hxn hts (hkids 0 t0 i0 rfl rfl) (hkids 1 t1 i1 rfl rfl)⟩
theorem nodes_allN : ∀ (ks : List T) (is : List Nat), SubK (ls.map NV.nd) ks is → PrOKs ks → ∀ (j : Nat) (t : T) (i : Nat), ks[j]? = some t → is[j]? = some i → KidI g w0 fb c ls t i
 | [], is, _, _, j, t, i, h, _ => by simp at h
 | t :: ks, is, hs, ho, j, u, i, h, hi => by
   obtain ⟨i0, js, rfl, hs0, hj⟩ := subK_cons.1 hs; obtain ⟨h1, h2⟩ := prOKs_cons.1 ho; cases j with
   | zero =>
     cases h; cases hi; exact node_allN t _ hs0 h1
   | succ j => exact nodes_allN ks js hj h2 j u i h hi
end
end
theorem nm_oneN (c : UInt8) (h : letterB c = true) (hk : kwB ⟨#[c]⟩ = false) : nmQ ⟨#[c]⟩ := ⟨c, [], rfl, h, (fun x hx => by cases hx), (by simp), hk⟩
theorem ex_nameN {b : ByteArray} (h : nmQ b) (p : Nat) : EXr (QR fun _ => False) (nameN b p) ∧ PrOK (nameN b p) := by
 unfold nameN; exact ⟨ex_nil (.nam h) (by decide), prOK_mk.2 ⟨rfl, Or.inl ⟨rfl, rfl⟩, by simp [PrOKs]⟩⟩
theorem ex_signN {sg : ByteArray} (hs : sgB sg) (hz : sg.size ≤ 1024) {a b : T} (p : Nat) (ha : EXr (QR fun _ => False) a ∧ PrOK a) (hb : EXr (QR fun _ => False) b ∧ PrOK b) : EXr (QR fun _ => False) (.mk 18 sg 0 0 [] p [a, b]) ∧ PrOK (.mk 18 sg 0 0 [] p [a, b]) :=
 ⟨ex_two (.bin hs) (by decide) ha.1 hb.1, prOK_mk.2 ⟨rfl, Or.inr (Or.inr ⟨rfl, hz, rfl⟩), prOKs_cons.2 ⟨ha.2, prOKs_cons.2 ⟨hb.2, by simp [PrOKs]⟩⟩⟩⟩
def shw13N : ByteArray := ⟨#[40, 97, 43, 98, 41, 42, 99, 46, 100, 43, 43, 101]⟩
def sh13N : T := .mk 18 ⟨#[42]⟩ 0 0 [] 5 [.mk 18 ⟨#[43]⟩ 0 0 [] 2 [nameN ⟨#[97]⟩ 1, nameN ⟨#[98]⟩ 3], .mk 18 ⟨#[43, 43]⟩ 0 0 [] 9 [.mk 8 ⟨#[100]⟩ 0 0 [] 7 [nameN ⟨#[99]⟩ 6], nameN ⟨#[101]⟩ 11]]
theorem shw13N_parse : parseP pfA shw13N = .ok (nodes sh13N 0) := by kernel_rfl
def shw13pN : ByteArray := ⟨#[40, 97, 32, 43, 32, 98, 41, 32, 42, 32, 99, 46, 100, 32, 43, 43, 32, 101]⟩
theorem sh13N_pr : prX sh13N = shw13pN.data.toList := by kernel_rfl
theorem sh13N_printR : printR sh13N = shw13pN := by
 have e : (⟨(prX sh13N).toArray⟩ : ByteArray) = shw13pN := by rw [sh13N_pr]
 have h : parseP pfA shw13pN = .ok (nodes (.mk 18 ⟨#[42]⟩ 0 0 [] 8 [.mk 18 ⟨#[43]⟩ 0 0 [] 3 [nameN ⟨#[97]⟩ 1, nameN ⟨#[98]⟩ 5], .mk 18 ⟨#[43, 43]⟩ 0 0 [] 14 [.mk 8 ⟨#[100]⟩ 0 0 [] 11 [nameN ⟨#[99]⟩ 10], nameN ⟨#[101]⟩ 17]]) 0) := by kernel_rfl
 unfold printR; rw [e, h]
theorem sh13N_ok : EXr (QR fun _ => False) sh13N ∧ PrOK sh13N :=
 have nd : nmQ ⟨#[100]⟩ := nm_oneN 100 (by decide) (by kernel_rfl); have nc : nmQ ⟨#[99]⟩ := nm_oneN 99 (by decide) (by kernel_rfl)
 ex_signN ⟨⟨#[42]⟩, by simp [sgAll], rfl⟩ (by decide) 5 (ex_signN ⟨⟨#[43]⟩, by simp [sgAll], rfl⟩ (by decide) 2 (ex_nameN (nm_oneN 97 (by decide) (by kernel_rfl)) 1) (ex_nameN (nm_oneN 98 (by decide) (by kernel_rfl)) 3))
  (ex_signN ⟨⟨#[43, 43]⟩, by simp [sgAll], rfl⟩ (by decide) 9 ⟨ex_one (.sel (nm_pl nd) (Or.inl rfl)) (by decide) (ex_nameN nc 6).1, prOK_mk.2 ⟨rfl, Or.inr (Or.inl ⟨rfl, isNm_of nd, rfl, fun t ht => by
   rw [List.mem_singleton.1 ht]
   decide⟩), prOKs_cons.2 ⟨(ex_nameN nc 6).2, by simp [PrOKs]⟩⟩⟩ (ex_nameN (nm_oneN 101 (by decide) (by kernel_rfl)) 11))
theorem sh13N_len : (nodes sh13N 0).length = 8 := by kernel_rfl
theorem shown13N {NG : Nat} {w : World} (hG : GP NG w) : Calls Tryz.prog 7 #[] w fun e w' => e = .returned (.bool true) ∧ Below w.heap.size w w' := by
 have HALL := Lib.hid (show Calls _ _ _ w fun e w' => ParsePost w (.ok (nodes sh13N 0)) e w' by have := Parse_any hG shw13N; rwa [shw13N_parse] at this); have HGB := Lib.hid (fun (w' : World) (hb : Below w.heap.size w w') => hG.below hb); clear hG; go_enter Tryz.func7, Tryz.ntmps7
 go_wp2_with fail; refine HALL.out.mono ?_; rintro e w2 ⟨⟨out, ls, A, B, rfl, hnd, hmap, hA, hAB⟩, hb⟩; have hlen : ls.length = 8 := by rw [← List.length_map (f := NV.nd), hmap]; exact sh13N_len
 obtain ⟨y, hy⟩ : ∃ y, ls[0]? = some y := ⟨ls[0]'(by omega), List.getElem?_eq_getElem _⟩; obtain ⟨fb, n, c, rfl, hn, _⟩ := hnd.at_ne hy; rw [hlen] at hn; subst hn; have hrd := hnd.rd; have HR : Hid (∀ w', Below w2.heap.size w2 w' → Calls Tryz.prog 11 #[.slice (some ⟨fb, 0, none⟩) 8 c] w' fun e w3 => e = .returned (.bool true) ∧ Below w'.heap.size w' w3) := Lib.hid fun w' hb' => by
  have := Right_exN (c := c) ((HGB.out w2 hb).below hb') (hrd.below hb') hmap sh13N_ok.1 (by omega) (good_pr sh13N_ok.1 sh13N_ok.2); rwa [hlen] at this
 have HP : Hid (∀ w', Below w2.heap.size w2 w' → Calls Tryz.prog 9 #[.slice (some ⟨fb, 0, none⟩) 8 c] w' fun e w3 => e = .returned (.string shw13pN) ∧ Below w'.heap.size w' w3) := Lib.hid fun w' hb' => by
  have h := Print_gen (m := 7) (c := c) (t := sh13N) ((HGB.out w2 hb).below hb') (HR.out w' hb') (fun w3 hb3 g hg => by
   have := (node_allN (c := c) (((HGB.out w2 hb).below hb').below hb3) ((hrd.below hb').below hb3) hg (by omega) sh13N 7 (by
    have := nodes_sub sh13N; rw [sh13N_len] at this; rw [hmap]; exact this) sh13N_ok.2).2.2
   rwa [hlen] at this) (by decide) (by rw [sh13N_pr]; decide +kernel) (by rw [sh13N_pr]; decide +kernel)
  rwa [sh13N_printR] at h
 have HB := Lib.hid hb; clear hnd hmap hA hAB hb hy hlen hrd
 go_wp2_with fail; refine (HR.out _ (Below.refl _ _)).mono ?_; rintro e w3 ⟨rfl, hb3⟩; have HB3 := Lib.hid hb3; clear hb3
 go_wp2_with fail; refine (HP.out w3 HB3.out).mono ?_; rintro e w4 ⟨rfl, hb4⟩
 go_wp2_with fail; go_ret; exact ⟨retB (a := shw13pN.toList == [40, 97, 32, 43, 32, 98, 41, 32, 42, 32, 99, 46, 100, 32, 43, 43, 32, 101]) (by kernel_rfl), (HB.out.next HB3.out).next hb4⟩
end Go.Proofs.YtkoghgnjjfnamaaGreatDoor
