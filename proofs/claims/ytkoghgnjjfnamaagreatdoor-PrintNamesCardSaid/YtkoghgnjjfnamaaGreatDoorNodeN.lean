/- NodeN: what is used of them. -/
import Derived.Test.YtkoghgnjjfnamaaGreatDoorNodeW
import Derived.Test.YtkoghgnjjfnamaaGreatDoorKh
set_option linter.unusedSectionVars false
set_option linter.unusedSimpArgs false
set_option linter.unusedVariables false
namespace Go.Proofs.YtkoghgnjjfnamaaGreatDoor
set_option maxRecDepth 100000
set_option maxHeartbeats 4000000
open Go.RowKit Go.Shelf
theorem fmtI_any (n : Nat) (hn : n < 100) (w : World) : Calls Tryz.prog 39 #[.int .i64 (n : Int), .int .i64 10] w fun e w' => e = .returned (.string ⟨(Lib.itoa (n : Int)).toArray⟩) ∧ w' = w := by
 have HF := Lib.hid (fun W => Tryz.internal_strconv_FormatInt_10_small n hn W); have e : Lib.itoa (n : Int) = Lib.decDigits n := by unfold Lib.itoa; rw [if_neg (by omega)]; rfl
 rw [e]; clear e; go_enter Tryz.func39, Tryz.ntmps39
 go_wp2_with fail; refine (HF.out _).mono ?_; rintro e w2 ⟨rfl, rfl⟩
 go_wp2_with fail; go_ret; exact ⟨rfl, rfl⟩
def prKX (ks : List T) : List PK := prK aB qB Lib.itoa (fun _ => []) ks
def bindOne (s : ByteArray) (t : T) : List UInt8 := aB s ++ [32, 61, 32] ++ prX t ++ [59, 32]
theorem binds_succ : ∀ (ns : List ByteArray) (ks : List T) (k : Nat) (s : ByteArray) (t : T), ns[k]? = some s → ks[k]? = some t → t.kind ≠ 19 → bindsW aB (ns.take (k + 1)) (prKX (ks.take (k + 1))) = bindsW aB (ns.take k) (prKX (ks.take k)) ++ bindOne s t
 | n :: ns, t0 :: ks, 0, s, t, hs, ht, h19 => by
   cases hs; cases ht; have h0 : ∀ r, ¬ r < 0 := fun r => Nat.not_lt_zero r
   simp [bindsW, prKX, prK, h19, partP, bindOne, prX]
 | n :: ns, t0 :: ks, k + 1, s, t, hs, ht, h19 => by
   have ih := binds_succ ns ks k s t (by simpa using hs) (by simpa using ht) h19; simp only [List.take_succ_cons]; have e : ∀ ks : List T, prKX (t0 :: ks) = ⟨prX t0, rowN t0.kind t0.text, t0.kind, t0.kids.length, t0.text⟩ :: prKX ks := fun ks => by simp [prKX, prK, prX]
   rw [e, e]; simp only [bindsW]; rw [ih]; simp only [List.append_assoc]
 | [], _, k, s, t, hs, _, _ => by simp at hs
 | _ :: _, [], k, s, t, _, ht, _ => by simp at ht
theorem binds_le {ns : List ByteArray} {ks : List T} (hl : ns.length = ks.length) : ∀ (d k : Nat), k + d = ks.length → (∀ t ∈ ks, t.kind ≠ 19) → (bindsW aB (ns.take k) (prKX (ks.take k))).length ≤ (bindsW aB ns (prKX ks)).length
 | 0, k, hk, _ => by rw [List.take_of_length_le (by omega), List.take_of_length_le (by omega)]; exact Nat.le_refl _
 | d + 1, k, hk, h19 => by
   have ih := binds_le hl d (k + 1) (by omega) h19; have h1 : k < ns.length := by omega
   have h2 : k < ks.length := by omega
   rw [binds_succ ns ks k ns[k] ks[k] (List.getElem?_eq_getElem h1) (List.getElem?_eq_getElem h2) (h19 _ (List.getElem_mem h2)), List.length_append] at ih; omega
section
variable {NG : Nat} {pn : Nat → Prop} {pk : Nat → Nat → Prop} {w0 : World} {fb g c : Nat} {ls : List NV} (hG : GP NG w0) (HN : NRd pn pk w0 fb 0 ls) (hg : w0.heap.size ≤ g) (hl : ls.length ≤ 1000)
include HN hg hl
theorem node_int {i : Nat} {x : NV} {n : Nat} {p : Nat} (hx : ls[i]? = some x) (hn : x.nd = ⟨1, ⟨#[]⟩, (n : Int), 0, [], [], p⟩) (h100 : n < 100) : NodeC g w0 (.slice (some ⟨fb, 0, none⟩) ls.length c) (.mk 1 ⟨#[]⟩ (n : Int) 0 [] p []) i := by
 intro w bs hbw hwr hlen; have hS := Lib.hid (say_str HN hg hl (c := c) ⟨(Lib.itoa (n : Int)).toArray⟩); have hpr : prX (.mk 1 ⟨#[]⟩ (n : Int) 0 [] p []) = strU ⟨(Lib.itoa (n : Int)).toArray⟩ := by simp [prX, prT, prK, asmP, strU]
 rw [hpr] at hlen ⊢; have hNR := HN.below hbw; obtain ⟨a1, c1, a2, c2, _, _, k0, k1, k2, k3, k4, k5, k6, _, _⟩ := hNR.seven hx; rw [hn] at k0 k1 k2 k3 k4 k5 k6; simp only [Nat.zero_add, List.length_nil] at k0 k1 k2 k3 k4 k5 k6; have hii : i < ls.length := (List.getElem?_eq_some_iff.1 hx).1; have hi1 : (i : Int) < (ls.length : Int) := by omega
 have hi0 : (0 : Int) ≤ (i : Int) := by omega
 have cg := hwr.f; have hgl := hwr.lt; have hsf := store_f64; have hfl := hNR.lt; have HBW := Lib.hid hbw; have HF := Lib.hid (fun W => fmtI_any n h100 W); clear hx hn hNR HN hbw hpr; go_enter Tryz.func18, Tryz.ntmps18
 go_wp2_with fail; refine (HF.out _).mono ?_; rintro e w2 ⟨rfl, rfl⟩
 go_wp2_with fail; refine (hS.out _ bs _ 1 ((HBW.out.alloc HBW.out.size _).alloc (by have := HBW.out.size; simp; omega) _) ((hwr.alloc _).alloc _) (pv_at (by simp) (by simp; omega) (by decide) rfl) (by simpa [Pt.tx] using hlen)).mono ?_; rintro e w2 ⟨rfl, hw2, hk2⟩; have hK : KW g w w2 := (((KW.refl g w).alloc (by omega) _).alloc (by simp; omega) _).trans hk2
 go_wp2_with fail; go_end0; exact ⟨rfl, by simpa [Pt.tx] using hw2, hK⟩
include hG
theorem binds_any {i : Nat} {x : NV} (hx : ls[i]? = some x) {a1 a2 : Option Addr} {c1 c2 : Nat} (hv1 : x.vn = .slice a1 x.nd.names.length c1) (hv2 : x.vk = .slice a2 x.nd.kids.length c2) {ks : List T} {m : Nat} (hl0 : ks.length = m) (hl1 : x.nd.names.length = m) (hl2 : x.nd.kids.length = m) (hm : m ≤ 1000)
 (hks : ∀ (j : Nat) (t : T) (k : Nat), ks[j]? = some t → x.nd.kids[j]? = some k → KidI g w0 fb c ls t k) (h19 : ∀ t ∈ ks, t.kind ≠ 19) (hpl : ∀ s ∈ x.nd.names, plQ s) (kd : Int) (tx : ByteArray) (n : Int) (f : Nat) (p : Int) :
 ∀ (w : World) (bs : List UInt8), Below w0.heap.size w0 w → WR g (.slice (some ⟨fb, 0, none⟩) ls.length c) bs w → bs.length + (bindsW aB x.nd.names (prKX ks)).length ≤ 140737488355328 →
   Calls Tryz.prog 42 #[.pointer (some ⟨g, 0, none⟩), .agg #[.int .i64 kd, .string tx, .int .i64 n, .float .f64 f, .slice a1 m c1, .slice a2 m c2, .int .i64 p]] w fun e w' => e = .returned (.tuple #[]) ∧ WR g (.slice (some ⟨fb, 0, none⟩) ls.length c) (bs ++ bindsW aB x.nd.names (prKX ks)) w' ∧ KW g w w' := by
 intro w bs hbw hwr hlen; have HL0 := Lib.hid hl0; have HL1 := Lib.hid hl1; have HL2 := Lib.hid hl2; have HV1 := Lib.hid hv1; have HV2 := Lib.hid hv2; have HKS := Lib.hid hks; have H19 := Lib.hid h19; have HPL := Lib.hid hpl; have HX := Lib.hid hx; have HNN := Lib.hid HN; have HGG := Lib.hid hG; have HBW := Lib.hid hbw; have hsf := store_f64; have hgw := hwr.lt; obtain ⟨Z, hZ⟩ : ∃ Z, w.heap.size = Z := ⟨_, rfl⟩; clear hl0 hl1 hl2 hv1 hv2 hks h19 hpl hx HN hG hbw; go_enter Tryz.func42, Tryz.ntmps42
 go_wp2_with fail
 try rw [hZ]
 go_loopw [9] (fun iv wr => ∃ k : Nat, k ≤ m ∧ iv = .int .i64 (k : Int) ∧ WR g (.slice (some ⟨fb, 0, none⟩) ls.length c) (bs ++ bindsW aB (x.nd.names.take k) (prKX (ks.take k))) wr ∧ KW g w wr ∧ wr.heap[Z]? = some (.cells #[.int .i64 kd, .string tx, .int .i64 n, .float .f64 f, .slice a1 m c1, .slice a2 m c2, .int .i64 p] 36 (0, 0))) (fun iv _ => m - (intOf iv).toNat)
 case atStart => exact ⟨0, Nat.zero_le _, rfl, by simpa [bindsW, prKX, prK] using hwr.alloc _, (KW.refl g w).alloc (by omega) _, block_new _ _ hZ.symm⟩
 case round =>
  obtain ⟨k, hk, rfl, hwk, hkk, hzk⟩ := hrel; have hbr : Below w0.heap.size w0 wr := HBW.out.trans (hkk.below.mono hg); have hglt := hwk.lt; by_cases hlt : k < m
  · obtain ⟨sx, hs⟩ : ∃ sx, x.nd.names[k]? = some sx := ⟨_, List.getElem?_eq_getElem (by rw [HL1.out]; exact hlt)⟩
    obtain ⟨ik, hik⟩ : ∃ ik, x.nd.kids[k]? = some ik := ⟨_, List.getElem?_eq_getElem (by rw [HL2.out]; exact hlt)⟩; obtain ⟨t, ht⟩ : ∃ t, ks[k]? = some t := ⟨_, List.getElem?_eq_getElem (by rw [HL0.out]; exact hlt)⟩; have ht19 := H19.out t (List.mem_of_getElem? ht); have hsu := binds_succ x.nd.names ks k sx t hs ht ht19; have hle := binds_le (ns := x.nd.names) (ks := ks) (by rw [HL1.out, HL0.out]) (m - (k + 1)) (k + 1) (by rw [HL0.out]; omega) H19.out; rw [hsu, List.length_append] at hle; have hkid := HKS.out k t ik ht hik; obtain ⟨y, hy, hyk, hyt⟩ := hkid.2.1; have hNR := HNN.out.below hbr; obtain ⟨b1, d1, b2, d2, q1, q2, _, _, _, _, _, _, _, hkc, hnc⟩ := hNR.seven HX.out; rw [HV1.out] at q1; rw [HV2.out] at q2; cases q1; cases q2; obtain ⟨nb, rfl, cs⟩ := hnc k sx hs; obtain ⟨kb, rfl, ck⟩ := hkc k ik hik; obtain ⟨_, _, _, _, _, _, m0, m1, m2, m3, m4, m5, m6, _, _⟩ := hNR.seven hy; simp only [Nat.zero_add] at m0 m1 m2 m3 m4 m5 m6; have hjj : ik < ls.length := (List.getElem?_eq_some_iff.1 hy).1; have hj1 : (ik : Int) < (ls.length : Int) := by omega
    have hj0 : (0 : Int) ≤ (ik : Int) := by omega
    have hy19 : (y.nd.kind == 19) = false := by rw [hyk]; simpa using ht19
    have z4 : wr.cell? ⟨Z, 4, none⟩ = _ := block_cell hzk rfl; have z5 : wr.cell? ⟨Z, 5, none⟩ = _ := block_cell hzk rfl; have cg := hwk.f; have hfl := hNR.lt; have hzl := block_lt hzk; have hkI : (k : Int) < (m : Int) := by omega
    have hk0 : (0 : Int) ≤ (k : Int) := by omega
    have hw1 : IntKind.i64.wrap ((k : Int) + 1) = (k : Int) + 1 := IntWalk.i64_in _ (by omega); have hpls := HPL.out sx (List.mem_of_getElem? hs); have HATT := Lib.hid (fun (W : World) (hb : Below wr.heap.size wr W) => wattr_any ((HGG.out.below hbr).below hb) sx hpls); have HSA := Lib.hid (show SayC g w0 (.slice (some ⟨fb, 0, none⟩) ls.length c) [.str (atS sx), .str ⟨#[32, 61, 32]⟩, .kid ik 0 t, .str ⟨#[59, 32]⟩] from say_gen HNN.out hg hl (by simp) (fun i' r' t' h => by
     simp only [List.mem_cons, Pt.kid.injEq, reduceCtorEq, List.not_mem_nil, or_false, false_or] at h; obtain ⟨rfl, rfl, rfl⟩ := h; exact ⟨hkid.1, by decide, hkid.2.1, hkid.2.2⟩) (fun _ s' => say_str HNN.out hg hl ⟨#[s']⟩))
    have hlen1 : (bs ++ bindsW aB (x.nd.names.take k) (prKX (ks.take k))).length + (bindOne sx t).length ≤ 140737488355328 := by rw [List.length_append]; omega
    generalize hB : bs ++ bindsW aB (x.nd.names.take k) (prKX (ks.take k)) = B at hwk hlen1; have HB : Hid (bs ++ bindsW aB (x.nd.names.take (k + 1)) (prKX (ks.take (k + 1))) = B ++ bindOne sx t) := Lib.hid (by rw [hsu, ← List.append_assoc, hB]); have hptx : ([.str (atS sx), .str ⟨#[32, 61, 32]⟩, .kid ik 0 t, .str ⟨#[59, 32]⟩] : List Pt).flatMap Pt.tx = bindOne sx t := by
     simp [Pt.tx, strU, bindOne, atS]
    have HPT := Lib.hid hptx; clear hs hik ht hsu hle hkid hy hyk hyt hNR hkc hnc hB hptx ht19 hpls
    go_wp2_with fail; go_region; go_upto_region 6 with fail
    refine with_world' fun w1 hw1 => ?_
    have hzB : w1.heap[Z]? = some (.cells #[.int .i64 kd, .string tx, .int .i64 n, .float .f64 f, .slice (some ⟨nb, 0, none⟩) m c1, .slice (some ⟨kb, 0, none⟩) m c2, .int .i64 p] 36 (0, 0)) := by rw [hw1]; exact hzk
    have hb1 : Below wr.heap.size wr w1 := by rw [hw1]; (repeat' first | (with_reducible first | exact Below.refl _ _ | assumption | refine below_drewN ?_ _ | refine Below.drew ?_ | refine Below.alloc ?_ ?_ _ | refine Below.setCell ?_ ?_ _) | omega | (simp; done) | (simp; omega))
    have z5 : w1.cell? ⟨Z, 5, none⟩ = _ := block_cell hzB rfl; have ck := cell_keeps hb1 ck; clear hw1 m0 m1 m2 m3 m4 m5 m6 cg z4 cs; refine with_frame fun a0 ha0 => ?_
    have e0 : a0.eval (.tmp 0) = .pointer (some ⟨g, 0, none⟩) := by rw [ha0]; rfl
    have e3 : a0.eval (.tmp 3) = .pointer (some ⟨Z, 0, none⟩) := by rw [ha0]; rfl
    have e4 : a0.eval (.tmp 4) = .int .i64 (k : Int) := by rw [ha0]; rfl
    have e5 : a0.eval (.tmp 5) = .string sx := by rw [ha0]; rfl
    have hsz0 : a0.tmps.size = 50 := by rw [ha0]; rfl
    have HA := Lib.hid ha0; clear ha0; have hD : ∀ d, (List.range' 34 14).contains d = true → d < a0.tmps.size := by
     intro d h; rw [hsz0]; have hm : d ∈ List.range' 34 14 := by simpa using h
     rw [List.mem_range'_1] at hm; omega
    refine wp_region_tabx (by kernel_rfl) 14 34 13 (fun jj => ([.pointer (some ⟨g, 0, none⟩), .string sx, .string (atS sx), .iface 9 (.string (atS sx)), .iface 9 (.string ⟨#[32, 61, 32]⟩), .pointer (some ⟨Z, 5, none⟩), .slice (some ⟨kb, 0, none⟩) m c2, .int .i64 (k : Int), .pointer (some ⟨kb, k, none⟩), .int .i64 (ik : Int), .agg #[.int .i64 (ik : Int), .int .i64 (0 : Int)], .iface 86 (.agg #[.int .i64 (ik : Int), .int .i64 (0 : Int)]), .iface 9 (.string ⟨#[59, 32]⟩), undef] : List Value).getD jj undef) (fun s w' => Below w1.heap.size w1 w' ∧ ∀ x, s = some x → ∃ q, x = .slice (some ⟨q, 0, none⟩) 4 4 ∧ w1.heap.size ≤ q ∧ w'.heap[q]? = some (.cells #[.iface 9 (.string (atS sx)), .iface 9 (.string ⟨#[32, 61, 32]⟩), .iface 86 (.agg #[.int .i64 (ik : Int), .int .i64 (0 : Int)]), .iface 9 (.string ⟨#[59, 32]⟩)] 20 (0, 0))) rfl (by kernel_rfl) (by kernel_rfl) (by omega) ⟨by (repeat' first | (with_reducible first | exact Below.refl _ _ | assumption | refine below_drewN ?_ _ | refine Below.drew ?_ | refine Below.alloc ?_ ?_ _ | refine Below.setCell ?_ ?_ _) | omega | (simp; done) | (simp; omega)), fun x h => by cases h⟩ ?_ ?_ ?_
    · intro i0 hi0 hne s v w0 hWW hbd hv
      obtain ⟨hW, hWx⟩ := hWW; have HWx := Lib.hid hWx; clear hWx; have z5 := cell_keeps hW z5; have ck := cell_keeps hW ck; have inn : ∀ d, (List.range' 34 14).contains d = true → (frameOf a0 (List.range' 34 14) v).tmps[d]?.getD undef = v d := fun d h => frameOf_in' h (hD d h)
      rcases (by omega : i0 = 0 ∨ i0 = 1 ∨ i0 = 2 ∨ i0 = 3 ∨ i0 = 4 ∨ i0 = 5 ∨ i0 = 6 ∨ i0 = 7 ∨ i0 = 8 ∨ i0 = 9 ∨ i0 = 10 ∨ i0 = 11 ∨ i0 = 12 ∨ i0 = 13) with rfl | rfl | rfl | rfl | rfl | rfl | rfl | rfl | rfl | rfl | rfl | rfl | rfl | rfl
      ·
       have E0 : (frameOf a0 (List.range' 34 14) v).tmps[0]?.getD undef = .pointer (some ⟨g, 0, none⟩) := (frameOf_out' rfl).trans e0; refine wpOp_value (v := .pointer (some ⟨g, 0, none⟩)) (w' := w0) rfl rfl (by go_simp) ?_; exact ⟨frameOf_put rfl, hW, HWx.out⟩
      ·
       have E5 : (frameOf a0 (List.range' 34 14) v).tmps[5]?.getD undef = .string sx := (frameOf_out' rfl).trans e5; refine wpOp_value (v := .string sx) (w' := w0) rfl rfl (by go_simp) ?_; exact ⟨frameOf_put rfl, hW, HWx.out⟩
      ·
       have x35 : v 35 = .string sx := (hv 1 (by kernel_rfl)).trans (if_neg (by decide)); have E35 := (inn 35 rfl).trans x35; refine wpOp_call (f := 43) (args := #[.string sx]) rfl rfl (by go_simp) (HATT.out w0 (hb1.trans (hW.mono hb1.size))) ?_; rintro e w' ⟨rfl, hB'⟩; exact ⟨_, rfl, frameOf_put rfl, hW.next hB', fun x hx => by obtain ⟨q, h1, h2, h3⟩ := HWx.out x hx; exact ⟨q, h1, h2, block_below h3 hB'⟩⟩
      ·
       have x36 : v 36 = .string (atS sx) := (hv 2 (by kernel_rfl)).trans (if_neg (by decide)); have E36 := (inn 36 rfl).trans x36; refine wpOp_value (v := .iface 9 (.string (atS sx))) (w' := w0) rfl rfl (by go_simp) ?_; exact ⟨frameOf_put rfl, hW, HWx.out⟩
      ·
       refine wpOp_value (v := .iface 9 (.string ⟨#[32, 61, 32]⟩)) (w' := w0) rfl rfl (by go_simp) ?_; exact ⟨frameOf_put rfl, hW, HWx.out⟩
      ·
       have E3 : (frameOf a0 (List.range' 34 14) v).tmps[3]?.getD undef = .pointer (some ⟨Z, 0, none⟩) := (frameOf_out' rfl).trans e3; refine wpOp_value (v := .pointer (some ⟨Z, 5, none⟩)) (w' := w0) rfl rfl (by go_simp) ?_; exact ⟨frameOf_put rfl, hW, HWx.out⟩
      ·
       have x39 : v 39 = .pointer (some ⟨Z, 5, none⟩) := (hv 5 (by kernel_rfl)).trans (if_neg (by decide)); have E39 := (inn 39 rfl).trans x39; refine wpOp_value (v := .slice (some ⟨kb, 0, none⟩) m c2) (w' := w0) rfl rfl (by go_simp) ?_; exact ⟨frameOf_put rfl, hW, HWx.out⟩
      ·
       have E4 : (frameOf a0 (List.range' 34 14) v).tmps[4]?.getD undef = .int .i64 (k : Int) := (frameOf_out' rfl).trans e4; refine wpOp_value (v := .int .i64 (k : Int)) (w' := w0) rfl rfl (by go_simp) ?_; exact ⟨frameOf_put rfl, hW, HWx.out⟩
      ·
       have x40 : v 40 = .slice (some ⟨kb, 0, none⟩) m c2 := (hv 6 (by kernel_rfl)).trans (if_neg (by decide)); have E40 := (inn 40 rfl).trans x40; have x41 : v 41 = .int .i64 (k : Int) := (hv 7 (by kernel_rfl)).trans (if_neg (by decide)); have E41 := (inn 41 rfl).trans x41; refine wpOp_value (v := .pointer (some ⟨kb, k, none⟩)) (w' := w0) rfl rfl (by go_simp) ?_; exact ⟨frameOf_put rfl, hW, HWx.out⟩
      ·
       have x42 : v 42 = .pointer (some ⟨kb, k, none⟩) := (hv 8 (by kernel_rfl)).trans (if_neg (by decide)); have E42 := (inn 42 rfl).trans x42; refine wpOp_value (v := .int .i64 (ik : Int)) (w' := w0) rfl rfl (by go_simp) ?_; exact ⟨frameOf_put rfl, hW, HWx.out⟩
      ·
       have x43 : v 43 = .int .i64 (ik : Int) := (hv 9 (by kernel_rfl)).trans (if_neg (by decide)); have E43 := (inn 43 rfl).trans x43; refine wpOp_value (v := .agg #[.int .i64 (ik : Int), .int .i64 (0 : Int)]) (w' := w0) rfl rfl (by go_simp) ?_; exact ⟨frameOf_put rfl, hW, HWx.out⟩
      ·
       have x44 : v 44 = .agg #[.int .i64 (ik : Int), .int .i64 (0 : Int)] := (hv 10 (by kernel_rfl)).trans (if_neg (by decide)); have E44 := (inn 44 rfl).trans x44; refine wpOp_value (v := .iface 86 (.agg #[.int .i64 (ik : Int), .int .i64 (0 : Int)])) (w' := w0) rfl rfl (by go_simp) ?_; exact ⟨frameOf_put rfl, hW, HWx.out⟩
      ·
       refine wpOp_value (v := .iface 9 (.string ⟨#[59, 32]⟩)) (w' := w0) rfl rfl (by go_simp) ?_; exact ⟨frameOf_put rfl, hW, HWx.out⟩
      ·
       exact absurd rfl hne
    · intro v w0 hWW hv
      obtain ⟨hW, hWx⟩ := hWW; have HWx := Lib.hid hWx; clear hWx; have z5 := cell_keeps hW z5; have ck := cell_keeps hW ck; have inn : ∀ d, (List.range' 34 14).contains d = true → (frameOf a0 (List.range' 34 14) v).tmps[d]?.getD undef = v d := fun d h => frameOf_in' h (hD d h)
      have x37 : v 37 = .iface 9 (.string (atS sx)) := hv 3 (by decide) (by kernel_rfl); have E37 := (inn 37 rfl).trans x37; have x38 : v 38 = .iface 9 (.string ⟨#[32, 61, 32]⟩) := hv 4 (by decide) (by kernel_rfl); have E38 := (inn 38 rfl).trans x38; have x45 : v 45 = .iface 86 (.agg #[.int .i64 (ik : Int), .int .i64 (0 : Int)]) := hv 11 (by decide) (by kernel_rfl); have E45 := (inn 45 rfl).trans x45; have x46 : v 46 = .iface 9 (.string ⟨#[59, 32]⟩) := hv 12 (by decide) (by kernel_rfl); have E46 := (inn 46 rfl).trans x46; refine wpOp_value (v := .slice (some ⟨w0.heap.size, 0, none⟩) 4 4) (w' := w0.alloc (.cells #[.iface 9 (.string (atS sx)), .iface 9 (.string ⟨#[32, 61, 32]⟩), .iface 86 (.agg #[.int .i64 (ik : Int), .int .i64 (0 : Int)]), .iface 9 (.string ⟨#[59, 32]⟩)] 20)) rfl rfl (by go_simp) ?_; exact ⟨_, frameOf_put rfl, hW.alloc hW.size _, fun x hx => ⟨w0.heap.size, (Option.some.inj hx).symm, hW.size, block_new _ _ rfl⟩⟩
    · intro x w0 hWW
      obtain ⟨hW, hWx⟩ := hWW; obtain ⟨q, rfl, hq1, hq2⟩ := hWx x rfl; clear hWx; have h0 := HA.out; subst h0; have hrg : List.range' 34 14 = [34, 35, 36, 37, 38, 39, 40, 41, 42, 43, 44, 45, 46, 47] := rfl; rw [hrg]; clear hrg; simp only [frameOf_cons, frameOf_nil, Act.put, List.setIfInBounds_toArray, List.set_cons_zero, List.set_cons_succ, Nat.reduceAdd, Nat.reduceEqDiff, if_true, if_false, reduceIte]; have hBW : Below wr.heap.size wr w0 := hb1.trans (hW.mono hb1.size); have hg0 : g < w0.heap.size := by have := hBW.size; omega
      have hgq : q ≠ g := by have := hb1.size; omega
      have hz2 := block_keeps hW hzB; have hlen2 := hlen1; rw [← HPT.out] at hlen2; refine wpOp_call (f := 38) (args := #[.pointer (some ⟨g, 0, none⟩), .slice (some ⟨q, 0, none⟩) 4 4]) rfl rfl (by go_simp) (HSA.out w0 B _ 4 (hbr.trans (hBW.mono hbr.size)) (hwk.keep hBW) ⟨q, _, 20, (0, 0), rfl, hgq, by decide, hq2, fun j p hj => ?_⟩ hlen2) ?_
      · match j, hj with
        | 0, hj => cases hj; rfl
        | 1, hj => cases hj; rfl
        | 2, hj => cases hj; rfl
        | 3, hj => cases hj; rfl
        | j + 4, hj => simp at hj
      rintro e w2 ⟨rfl, hw2, hk2⟩; have hK : KW g wr w2 := (KW.of_below (by omega) hBW).trans hk2; have hz3 := hk2.keep Z _ _ _ (by omega) (by decide) hz2; rw [HPT.out] at hw2; refine ⟨_, rfl, ?_⟩
      go_wp2_with fail; go_roundw
      case rel => exact ⟨k + 1, by omega, by go_num, by rw [HB.out]; exact hw2, hkk.trans hK, hz3⟩
      case measure => simp [intOf]; omega
  · obtain rfl : k = m := by omega
    go_wp2_with fail; go_end0; refine ⟨rfl, ?_, hkk⟩; rw [List.take_of_length_le (by rw [HL1.out]; exact Nat.le_refl _), List.take_of_length_le (by rw [HL0.out]; exact Nat.le_refl _)] at hwk; exact hwk
theorem node_set {i : Nat} {x : NV} {ns : List ByteArray} {is : List Nat} {p : Nat} {ks : List T} (hx : ls[i]? = some x) (hn : x.nd = ⟨6, ⟨#[]⟩, 0, 0, ns, is, p⟩) (hl1 : ns.length = ks.length) (hl2 : is.length = ks.length) (hm : ks.length ≤ 1000)
 (hks : ∀ (j : Nat) (t : T) (k : Nat), ks[j]? = some t → is[j]? = some k → KidI g w0 fb c ls t k) (h19 : ∀ t ∈ ks, t.kind ≠ 19) (hpl : ∀ s ∈ ns, plQ s) : NodeC g w0 (.slice (some ⟨fb, 0, none⟩) ls.length c) (.mk 6 ⟨#[]⟩ 0 0 ns p ks) i := by
 intro w bs hbw hwr hlen; have hS := Lib.hid (say_str HN hg hl (c := c) ⟨#[123, 32]⟩); have hS2 := Lib.hid (say_str HN hg hl (c := c) ⟨#[125]⟩); have hpr : prX (.mk 6 ⟨#[]⟩ 0 0 ns p ks) = [123, 32] ++ bindsW aB ns (prKX ks) ++ [125] := by simp [prX, prT, asmP, prKX]
 rw [hpr] at hlen ⊢; have hNR := HN.below hbw; obtain ⟨a1, c1, a2, c2, v1, v2, k0, k1, k2, k3, k4, k5, k6, _, _⟩ := hNR.seven hx; have HBI := Lib.hid (binds_any hG HN hg hl (c := c) hx v1 v2 (ks := ks) (m := ks.length) rfl (by rw [hn]; exact hl1) (by rw [hn]; exact hl2) hm (by rw [hn]; exact hks) h19 (by rw [hn]; exact hpl) 6 ⟨#[]⟩ 0 0 (p : Int)); rw [hn] at k0 k1 k2 k3 k4 k5 k6 HBI; simp only [Nat.zero_add, hl1, hl2] at k0 k1 k2 k3 k4 k5 k6; generalize ks.length = m at *; have hii : i < ls.length := (List.getElem?_eq_some_iff.1 hx).1; have hi1 : (i : Int) < (ls.length : Int) := by omega
 have hi0 : (0 : Int) ≤ (i : Int) := by omega
 have cg := hwr.f; have hgl := hwr.lt; have hsf := store_f64; have hfl := hNR.lt; have HBW := Lib.hid hbw; obtain ⟨Bd, hBd⟩ : ∃ Bd, bindsW aB ns (prKX ks) = Bd := ⟨_, rfl⟩; rw [hBd] at HBI hlen ⊢; have HLEN := Lib.hid hlen; clear hx hn hNR HN hbw hpr v1 v2 hl1 hl2 hks hBd hlen hG; obtain ⟨Z, hZ⟩ : ∃ Z, w.heap.size = Z := ⟨_, rfl⟩; have HZ := Lib.hid hZ; go_enter Tryz.func18, Tryz.ntmps18
 go_wp2_with fail
 try rw [hZ]
 refine (hS.out _ bs _ 1 ((HBW.out.alloc HBW.out.size _).alloc (by have := HBW.out.size; simp; omega) _) ((hwr.alloc _).alloc _) (pv_at (by simp; omega) (by simp; omega) (by decide) rfl) (by have := HLEN.out; simp [Pt.tx, strU] at this ⊢; omega)).mono ?_; rintro e w2 ⟨rfl, hw2, hk2⟩; have hz0 : ((w.alloc (.cells #[.int .i64 6, .string ⟨#[]⟩, .int .i64 0, .float .f64 0, .slice a1 m c1, .slice a2 m c2, .int .i64 (p : Int)] 36)).alloc (.cells #[.iface 9 (.string ⟨#[123, 32]⟩)] 20)).heap[Z]? = some (.cells #[.int .i64 6, .string ⟨#[]⟩, .int .i64 0, .float .f64 0, .slice a1 m c1, .slice a2 m c2, .int .i64 (p : Int)] 36 (0, 0)) := block_alloc (block_new _ _ hZ.symm) _; have hz2 := hk2.keep Z _ _ _ (by omega) (by decide) hz0; have hK : KW g w w2 := (((KW.refl g w).alloc (by omega) _).alloc (by simp; omega) _).trans hk2; have q0 := block_cell (i := 0) hz2 rfl; have q1 := block_cell (i := 1) hz2 rfl; have q2 := block_cell (i := 2) hz2 rfl; have q3 := block_cell (i := 3) hz2 rfl; have q4 := block_cell (i := 4) hz2 rfl; have q5 := block_cell (i := 5) hz2 rfl; have q6 := block_cell (i := 6) hz2 rfl; have hgl2 := hw2.lt; have hw2' : WR g (.slice (some ⟨fb, 0, none⟩) ls.length c) (bs ++ [123, 32]) w2 := by simpa [Pt.tx, strU] using hw2
 clear hz0 hk2 hw2 k0 k1 k2 k3 k4 k5 k6
 go_wp2_with fail; refine (HBI.out w2 (bs ++ [123, 32]) (HBW.out.trans (hK.below.mono hg)) hw2' (by have := HLEN.out; simp at this ⊢; omega)).mono ?_; rintro e w3 ⟨rfl, hw3, hk3⟩; have hK3 := hK.trans hk3; have hgl3 := hw3.lt; clear q0 q1 q2 q3 q4 q5 q6 hk3 hK hz2
 go_wp2_with fail; refine (hS2.out _ (bs ++ [123, 32] ++ Bd) _ 1 ((HBW.out.trans (hK3.below.mono hg)).alloc (by have := HBW.out.size; omega) _) (hw3.alloc _) (pv_at (by simp) (by omega) (by decide) rfl) (by have := HLEN.out; simp [Pt.tx, strU] at this ⊢; omega)).mono ?_; rintro e w4 ⟨rfl, hw4, hk4⟩; have hK4 : KW g w w4 := (hK3.alloc (by omega) _).trans hk4
 go_wp2_with fail; go_end0; exact ⟨rfl, by simpa [Pt.tx, strU] using hw4, hK4⟩
theorem node_selA {i i0 : Nat} {x : NV} {tx : ByteArray} {n : Int} {f p : Nat} {t0 : T} (hx : ls[i]? = some x) (hn : x.nd = ⟨8, tx, n, f, [], [i0], p⟩) (hpl : plQ tx) (h8 : t0.kind ≠ 8)
 (h0 : KidI g w0 fb c ls t0 i0) : NodeC g w0 (.slice (some ⟨fb, 0, none⟩) ls.length c) (.mk 8 tx n f [] p [t0]) i := by
 intro w bs hbw hwr hlen; have hS := Lib.hid (show SayC g w0 (.slice (some ⟨fb, 0, none⟩) ls.length c) [.kid i0 13 t0, .str ⟨#[46]⟩, .str (atS tx)] from say_gen HN hg hl (by simp) (fun i r t h => by
  simp only [List.mem_cons, Pt.kid.injEq, reduceCtorEq, List.not_mem_nil, or_false] at h; obtain ⟨rfl, rfl, rfl⟩ := h; exact ⟨h0.1, by decide, h0.2.1, h0.2.2⟩) (fun _ s => say_str HN hg hl ⟨#[s]⟩))
 have hpr : prX (.mk 8 tx n f [] p [t0]) = ([.kid i0 13 t0, .str ⟨#[46]⟩, .str (atS tx)] : List Pt).flatMap Pt.tx := by
  simp [prX, prT, prK, asmP, partP, Pt.tx, strU, h8, atS]
 rw [hpr] at hlen ⊢; have hNR := HN.below hbw; obtain ⟨y, hy, hyk, hyt⟩ := h0.2.1; obtain ⟨a1, c1, a2, c2, _, _, k0, k1, k2, k3, k4, k5, k6, hkc, _⟩ := hNR.seven hx; obtain ⟨b1, d1, b2, d2, _, _, m0, m1, m2, m3, m4, m5, m6, _, _⟩ := hNR.seven hy; rw [hn] at k0 k1 k2 k3 k4 k5 k6 hkc; obtain ⟨kb, rfl, ck0⟩ := hkc 0 i0 rfl; simp only [Nat.zero_add, List.length_nil, List.length_cons, Nat.reduceAdd] at k0 k1 k2 k3 k4 k5 k6 m0 m1 m2 m3 m4 m5 m6; have hii : i < ls.length := (List.getElem?_eq_some_iff.1 hx).1; have hi1 : (i : Int) < (ls.length : Int) := by omega
 have hi0 : (0 : Int) ≤ (i : Int) := by omega
 have hjj : i0 < ls.length := (List.getElem?_eq_some_iff.1 hy).1; have hj1 : (i0 : Int) < (ls.length : Int) := by omega
 have hj0 : (0 : Int) ≤ (i0 : Int) := by omega
 have hkbl : kb < w.heap.size := World.block_lt_of_cell? w _ ck0; have hy8 : (y.nd.kind == 8) = false := by rw [hyk]; simpa using h8
 have cg := hwr.f; have hgl := hwr.lt; have hsf := store_f64; have hfl := hNR.lt; have HBW := Lib.hid hbw; have HGB := Lib.hid (fun (W : World) (hb : Below w.heap.size w W) => wattr_any ((hG.below hbw).below hb) tx hpl); clear hx hn hNR HN hbw hpr hkc h0 hy hyk hyt h8 hpl hG; go_enter Tryz.func18, Tryz.ntmps18
 go_wp2_with fail; go_region; go_upto_region 36 with fail
 obtain ⟨Z, hZ⟩ : ∃ Z, w.heap.size = Z := ⟨_, rfl⟩; rw [hZ]; refine with_world' fun w1 hw1 => ?_
 have hzB : w1.heap[Z]? = some (.cells #[.int .i64 8, .string tx, .int .i64 n, .float .f64 f, .slice a1 0 c1, .slice (some ⟨kb, 0, none⟩) 1 c2, .int .i64 (p : Int)] 36 (0, 0)) := by rw [hw1]; exact block_alloc (block_new _ _ hZ.symm) _
 have hb1 : Below w.heap.size w w1 := by rw [hw1]; (repeat' first | (with_reducible first | exact Below.refl _ _ | assumption | refine below_drewN ?_ _ | refine Below.drew ?_ | refine Below.alloc ?_ ?_ _ | refine Below.setCell ?_ ?_ _) | omega | (simp; done) | (simp; omega))
 have ctx : w1.cell? ⟨Z, 1, none⟩ = some (.string tx) := block_cell hzB rfl; have ck0 := cell_keeps hb1 ck0; clear hw1 k0 k1 k2 k3 k4 k5 k6 cg m0 m1 m2 m3 m4 m5 m6; refine with_frame fun a0 ha0 => ?_
 have e0 : a0.eval (.tmp 0) = .pointer (some ⟨g, 0, none⟩) := by rw [ha0]; rfl
 have e4 : a0.eval (.tmp 4) = .pointer (some ⟨Z, 0, none⟩) := by rw [ha0]; rfl
 have e5 : a0.eval (.tmp 5) = .func (.func 37) #[] #[.pointer (some ⟨Z, 0, none⟩)] := by rw [ha0]; rfl
 have e7 : a0.eval (.tmp 7) = .int .i64 (13 : Int) := by rw [ha0]; rfl
 have hsz0 : a0.tmps.size = 296 := by rw [ha0]; rfl
 have HA := Lib.hid ha0; clear ha0; have hD : ∀ d, (List.range' 149 11).contains d = true → d < a0.tmps.size := by
  intro d h; rw [hsz0]; have hm : d ∈ List.range' 149 11 := by simpa using h
  rw [List.mem_range'_1] at hm; omega
 refine wp_region_tabx (by kernel_rfl) 11 149 10 (fun jj => ([.pointer (some ⟨g, 0, none⟩), .func (.func 37) #[] #[.pointer (some ⟨Z, 0, none⟩)], .int .i64 (13 : Int), .agg #[.int .i64 (i0 : Int), .int .i64 (13 : Int)], .iface 86 (.agg #[.int .i64 (i0 : Int), .int .i64 (13 : Int)]), .iface 9 (.string ⟨#[46]⟩), .pointer (some ⟨Z, 1, none⟩), .string tx, .string (atS tx), .iface 9 (.string (atS tx)), undef] : List Value).getD jj undef) (fun s w' => Below w1.heap.size w1 w' ∧ ∀ x, s = some x → ∃ q, x = .slice (some ⟨q, 0, none⟩) 3 3 ∧ w1.heap.size ≤ q ∧ w'.heap[q]? = some (.cells #[.iface 86 (.agg #[.int .i64 (i0 : Int), .int .i64 (13 : Int)]), .iface 9 (.string ⟨#[46]⟩), .iface 9 (.string (atS tx))] 20 (0, 0))) rfl (by kernel_rfl) (by kernel_rfl) (by omega) ⟨by (repeat' first | (with_reducible first | exact Below.refl _ _ | assumption | refine below_drewN ?_ _ | refine Below.drew ?_ | refine Below.alloc ?_ ?_ _ | refine Below.setCell ?_ ?_ _) | omega | (simp; done) | (simp; omega)), fun x h => by cases h⟩ ?_ ?_ ?_
 · intro i0 hi0 hne s v w0 hWW hbd hv
   obtain ⟨hW, hWx⟩ := hWW; have HWx := Lib.hid hWx; clear hWx; have ctx := cell_keeps hW ctx; have ck0 := cell_keeps hW ck0; have inn : ∀ d, (List.range' 149 11).contains d = true → (frameOf a0 (List.range' 149 11) v).tmps[d]?.getD undef = v d := fun d h => frameOf_in' h (hD d h)
   rcases (by omega : i0 = 0 ∨ i0 = 1 ∨ i0 = 2 ∨ i0 = 3 ∨ i0 = 4 ∨ i0 = 5 ∨ i0 = 6 ∨ i0 = 7 ∨ i0 = 8 ∨ i0 = 9 ∨ i0 = 10) with rfl | rfl | rfl | rfl | rfl | rfl | rfl | rfl | rfl | rfl | rfl
   ·
    have E0 : (frameOf a0 (List.range' 149 11) v).tmps[0]?.getD undef = .pointer (some ⟨g, 0, none⟩) := (frameOf_out' rfl).trans e0; refine wpOp_value (v := .pointer (some ⟨g, 0, none⟩)) (w' := w0) rfl rfl (by go_simp) ?_; exact ⟨frameOf_put rfl, hW, HWx.out⟩
   ·
    have E5 : (frameOf a0 (List.range' 149 11) v).tmps[5]?.getD undef = .func (.func 37) #[] #[.pointer (some ⟨Z, 0, none⟩)] := (frameOf_out' rfl).trans e5; refine wpOp_value (v := .func (.func 37) #[] #[.pointer (some ⟨Z, 0, none⟩)]) (w' := w0) rfl rfl (by go_simp) ?_; exact ⟨frameOf_put rfl, hW, HWx.out⟩
   ·
    have E7 : (frameOf a0 (List.range' 149 11) v).tmps[7]?.getD undef = .int .i64 (13 : Int) := (frameOf_out' rfl).trans e7; refine wpOp_value (v := .int .i64 (13 : Int)) (w' := w0) rfl rfl (by go_simp) ?_; exact ⟨frameOf_put rfl, hW, HWx.out⟩
   ·
    have x150 : v 150 = .func (.func 37) #[] #[.pointer (some ⟨Z, 0, none⟩)] := (hv 1 (by kernel_rfl)).trans (if_neg (by decide)); have E150 := (inn 150 rfl).trans x150; have x151 : v 151 = .int .i64 (13 : Int) := (hv 2 (by kernel_rfl)).trans (if_neg (by decide)); have E151 := (inn 151 rfl).trans x151; refine wpOp_call (f := 37) (args := #[.int .i64 (0 : Int), .int .i64 (13 : Int), .pointer (some ⟨Z, 0, none⟩)]) rfl rfl (by go_simp) (at_any (j := 0) _ (block_keeps hW hzB) (by decide) (by decide) ck0) ?_; rintro e w' ⟨rfl, hB'⟩; exact ⟨_, rfl, frameOf_put rfl, hW.next hB', fun x hx => by obtain ⟨q, h1, h2, h3⟩ := HWx.out x hx; exact ⟨q, h1, h2, block_below h3 hB'⟩⟩
   ·
    have x152 : v 152 = .agg #[.int .i64 (i0 : Int), .int .i64 (13 : Int)] := (hv 3 (by kernel_rfl)).trans (if_neg (by decide)); have E152 := (inn 152 rfl).trans x152; refine wpOp_value (v := .iface 86 (.agg #[.int .i64 (i0 : Int), .int .i64 (13 : Int)])) (w' := w0) rfl rfl (by go_simp) ?_; exact ⟨frameOf_put rfl, hW, HWx.out⟩
   ·
    refine wpOp_value (v := .iface 9 (.string ⟨#[46]⟩)) (w' := w0) rfl rfl (by go_simp) ?_; exact ⟨frameOf_put rfl, hW, HWx.out⟩
   ·
    have E4 : (frameOf a0 (List.range' 149 11) v).tmps[4]?.getD undef = .pointer (some ⟨Z, 0, none⟩) := (frameOf_out' rfl).trans e4; refine wpOp_value (v := .pointer (some ⟨Z, 1, none⟩)) (w' := w0) rfl rfl (by go_simp) ?_; exact ⟨frameOf_put rfl, hW, HWx.out⟩
   ·
    have x155 : v 155 = .pointer (some ⟨Z, 1, none⟩) := (hv 6 (by kernel_rfl)).trans (if_neg (by decide)); have E155 := (inn 155 rfl).trans x155; refine wpOp_value (v := .string tx) (w' := w0) rfl rfl (by go_simp) ?_; exact ⟨frameOf_put rfl, hW, HWx.out⟩
   ·
    have x156 : v 156 = .string tx := (hv 7 (by kernel_rfl)).trans (if_neg (by decide)); have E156 := (inn 156 rfl).trans x156; refine wpOp_call (f := 43) (args := #[.string tx]) rfl rfl (by go_simp) (HGB.out w0 (hb1.trans (hW.mono hb1.size))) ?_; rintro e w' ⟨rfl, hB'⟩; exact ⟨_, rfl, frameOf_put rfl, hW.next hB', fun x hx => by obtain ⟨q, h1, h2, h3⟩ := HWx.out x hx; exact ⟨q, h1, h2, block_below h3 hB'⟩⟩
   ·
    have x157 : v 157 = .string (atS tx) := (hv 8 (by kernel_rfl)).trans (if_neg (by decide)); have E157 := (inn 157 rfl).trans x157; refine wpOp_value (v := .iface 9 (.string (atS tx))) (w' := w0) rfl rfl (by go_simp) ?_; exact ⟨frameOf_put rfl, hW, HWx.out⟩
   ·
    exact absurd rfl hne
 · intro v w0 hWW hv
   obtain ⟨hW, hWx⟩ := hWW; have HWx := Lib.hid hWx; clear hWx; have ctx := cell_keeps hW ctx; have ck0 := cell_keeps hW ck0; have inn : ∀ d, (List.range' 149 11).contains d = true → (frameOf a0 (List.range' 149 11) v).tmps[d]?.getD undef = v d := fun d h => frameOf_in' h (hD d h)
   have x153 : v 153 = .iface 86 (.agg #[.int .i64 (i0 : Int), .int .i64 (13 : Int)]) := hv 4 (by decide) (by kernel_rfl); have E153 := (inn 153 rfl).trans x153; have x154 : v 154 = .iface 9 (.string ⟨#[46]⟩) := hv 5 (by decide) (by kernel_rfl); have E154 := (inn 154 rfl).trans x154; have x158 : v 158 = .iface 9 (.string (atS tx)) := hv 9 (by decide) (by kernel_rfl); have E158 := (inn 158 rfl).trans x158; refine wpOp_value (v := .slice (some ⟨w0.heap.size, 0, none⟩) 3 3) (w' := w0.alloc (.cells #[.iface 86 (.agg #[.int .i64 (i0 : Int), .int .i64 (13 : Int)]), .iface 9 (.string ⟨#[46]⟩), .iface 9 (.string (atS tx))] 20)) rfl rfl (by go_simp) ?_; exact ⟨_, frameOf_put rfl, hW.alloc hW.size _, fun x hx => ⟨w0.heap.size, (Option.some.inj hx).symm, hW.size, block_new _ _ rfl⟩⟩
 · intro x w0 hWW
   obtain ⟨hW, hWx⟩ := hWW; obtain ⟨q, rfl, hq1, hq2⟩ := hWx x rfl; clear hWx; have h0 := HA.out; subst h0; have hrg : List.range' 149 11 = [149, 150, 151, 152, 153, 154, 155, 156, 157, 158, 159] := rfl; rw [hrg]; clear hrg; simp only [frameOf_cons, frameOf_nil, Act.put, List.setIfInBounds_toArray, List.set_cons_zero, List.set_cons_succ, Nat.reduceAdd, Nat.reduceEqDiff, if_true, if_false, reduceIte]; have hBW : Below w.heap.size w w0 := hb1.trans (hW.mono hb1.size); have hg0 : g < w0.heap.size := by have := hBW.size; omega
   have hgq : q ≠ g := by have := hb1.size; omega
   have hz2 := block_keeps hW hzB; refine wpOp_call (f := 38) (args := #[.pointer (some ⟨g, 0, none⟩), .slice (some ⟨q, 0, none⟩) 3 3]) rfl rfl (by go_simp) (hS.out w0 bs _ 3 (HBW.out.trans (hBW.mono HBW.out.size)) (hwr.keep hBW) ⟨q, _, 20, (0, 0), rfl, hgq, by decide, hq2, fun j p hj => ?_⟩ hlen) ?_
   · match j, hj with
     | 0, hj => cases hj; rfl
     | 1, hj => cases hj; rfl
     | 2, hj => cases hj; rfl
     | j + 3, hj => simp at hj
   rintro e w2 ⟨rfl, hw2, hk2⟩; have hK : KW g w w2 := (KW.of_below (by omega) hBW).trans hk2; have hz3 := hk2.keep Z _ _ _ (by omega) (by decide) hz2; have hz5 : w2.cell? ⟨Z, 5, none⟩ = some (.slice (some ⟨kb, 0, none⟩) 1 c2) := block_cell hz3 rfl; refine ⟨_, rfl, ?_⟩
   go_wp2_with fail; go_end0; exact ⟨rfl, by simpa using hw2, hK⟩
theorem node_has {i i0 : Nat} {x : NV} {tx : ByteArray} {n : Int} {f p : Nat} {t0 : T} (hx : ls[i]? = some x) (hn : x.nd = ⟨9, tx, n, f, [], [i0], p⟩) (hpl : plQ tx)
 (h0 : KidI g w0 fb c ls t0 i0) : NodeC g w0 (.slice (some ⟨fb, 0, none⟩) ls.length c) (.mk 9 tx n f [] p [t0]) i := by
 intro w bs hbw hwr hlen; have hS := Lib.hid (show SayC g w0 (.slice (some ⟨fb, 0, none⟩) ls.length c) [.kid i0 12 t0, .str ⟨#[32, 63, 32]⟩, .str (atS tx)] from say_gen HN hg hl (by simp) (fun i r t h => by
  simp only [List.mem_cons, Pt.kid.injEq, reduceCtorEq, List.not_mem_nil, or_false] at h; obtain ⟨rfl, rfl, rfl⟩ := h; exact ⟨h0.1, by decide, h0.2.1, h0.2.2⟩) (fun _ s => say_str HN hg hl ⟨#[s]⟩))
 have hpr : prX (.mk 9 tx n f [] p [t0]) = ([.kid i0 12 t0, .str ⟨#[32, 63, 32]⟩, .str (atS tx)] : List Pt).flatMap Pt.tx := by
  simp [prX, prT, prK, asmP, partP, Pt.tx, strU, atS]
 rw [hpr] at hlen ⊢; have hNR := HN.below hbw; obtain ⟨a1, c1, a2, c2, _, _, k0, k1, k2, k3, k4, k5, k6, hkc, _⟩ := hNR.seven hx; rw [hn] at k0 k1 k2 k3 k4 k5 k6 hkc; obtain ⟨kb, rfl, ck0⟩ := hkc 0 i0 rfl; simp only [Nat.zero_add, List.length_nil, List.length_cons, Nat.reduceAdd] at k0 k1 k2 k3 k4 k5 k6; have hii : i < ls.length := (List.getElem?_eq_some_iff.1 hx).1; have hi1 : (i : Int) < (ls.length : Int) := by omega
 have hi0 : (0 : Int) ≤ (i : Int) := by omega
 have hkbl : kb < w.heap.size := World.block_lt_of_cell? w _ ck0; have cg := hwr.f; have hgl := hwr.lt; have hsf := store_f64; have hfl := hNR.lt; have HBW := Lib.hid hbw; have HGB := Lib.hid (fun (W : World) (hb : Below w.heap.size w W) => wattr_any ((hG.below hbw).below hb) tx hpl); clear hx hn hNR HN hbw hpr hkc h0 hpl hG; go_enter Tryz.func18, Tryz.ntmps18
 go_wp2_with fail; go_upto_region 40 with fail
 obtain ⟨Z, hZ⟩ : ∃ Z, w.heap.size = Z := ⟨_, rfl⟩; rw [hZ]; refine with_world' fun w1 hw1 => ?_
 have hzB : w1.heap[Z]? = some (.cells #[.int .i64 9, .string tx, .int .i64 n, .float .f64 f, .slice a1 0 c1, .slice (some ⟨kb, 0, none⟩) 1 c2, .int .i64 (p : Int)] 36 (0, 0)) := by rw [hw1]; exact block_new _ _ hZ.symm
 have hb1 : Below w.heap.size w w1 := by rw [hw1]; (repeat' first | (with_reducible first | exact Below.refl _ _ | assumption | refine below_drewN ?_ _ | refine Below.drew ?_ | refine Below.alloc ?_ ?_ _ | refine Below.setCell ?_ ?_ _) | omega | (simp; done) | (simp; omega))
 have ctx : w1.cell? ⟨Z, 1, none⟩ = some (.string tx) := block_cell hzB rfl; have ck0 := cell_keeps hb1 ck0; clear hw1 k0 k1 k2 k3 k4 k5 k6 cg; refine with_frame fun a0 ha0 => ?_
 have e0 : a0.eval (.tmp 0) = .pointer (some ⟨g, 0, none⟩) := by rw [ha0]; rfl
 have e4 : a0.eval (.tmp 4) = .pointer (some ⟨Z, 0, none⟩) := by rw [ha0]; rfl
 have e5 : a0.eval (.tmp 5) = .func (.func 37) #[] #[.pointer (some ⟨Z, 0, none⟩)] := by rw [ha0]; rfl
 have hsz0 : a0.tmps.size = 296 := by rw [ha0]; rfl
 have HA := Lib.hid ha0; clear ha0; have hD : ∀ d, (List.range' 174 10).contains d = true → d < a0.tmps.size := by
  intro d h; rw [hsz0]; have hm : d ∈ List.range' 174 10 := by simpa using h
  rw [List.mem_range'_1] at hm; omega
 refine wp_region_tabx (by kernel_rfl) 10 174 9 (fun jj => ([.pointer (some ⟨g, 0, none⟩), .func (.func 37) #[] #[.pointer (some ⟨Z, 0, none⟩)], .agg #[.int .i64 (i0 : Int), .int .i64 (12 : Int)], .iface 86 (.agg #[.int .i64 (i0 : Int), .int .i64 (12 : Int)]), .iface 9 (.string ⟨#[32, 63, 32]⟩), .pointer (some ⟨Z, 1, none⟩), .string tx, .string (atS tx), .iface 9 (.string (atS tx)), undef] : List Value).getD jj undef) (fun s w' => Below w1.heap.size w1 w' ∧ ∀ x, s = some x → ∃ q, x = .slice (some ⟨q, 0, none⟩) 3 3 ∧ w1.heap.size ≤ q ∧ w'.heap[q]? = some (.cells #[.iface 86 (.agg #[.int .i64 (i0 : Int), .int .i64 (12 : Int)]), .iface 9 (.string ⟨#[32, 63, 32]⟩), .iface 9 (.string (atS tx))] 20 (0, 0))) rfl (by kernel_rfl) (by kernel_rfl) (by omega) ⟨by (repeat' first | (with_reducible first | exact Below.refl _ _ | assumption | refine below_drewN ?_ _ | refine Below.drew ?_ | refine Below.alloc ?_ ?_ _ | refine Below.setCell ?_ ?_ _) | omega | (simp; done) | (simp; omega)), fun x h => by cases h⟩ ?_ ?_ ?_
 · intro i0 hi0 hne s v w0 hWW hbd hv
   obtain ⟨hW, hWx⟩ := hWW; have HWx := Lib.hid hWx; clear hWx; have ctx := cell_keeps hW ctx; have ck0 := cell_keeps hW ck0; have inn : ∀ d, (List.range' 174 10).contains d = true → (frameOf a0 (List.range' 174 10) v).tmps[d]?.getD undef = v d := fun d h => frameOf_in' h (hD d h)
   rcases (by omega : i0 = 0 ∨ i0 = 1 ∨ i0 = 2 ∨ i0 = 3 ∨ i0 = 4 ∨ i0 = 5 ∨ i0 = 6 ∨ i0 = 7 ∨ i0 = 8 ∨ i0 = 9) with rfl | rfl | rfl | rfl | rfl | rfl | rfl | rfl | rfl | rfl
   ·
    have E0 : (frameOf a0 (List.range' 174 10) v).tmps[0]?.getD undef = .pointer (some ⟨g, 0, none⟩) := (frameOf_out' rfl).trans e0; refine wpOp_value (v := .pointer (some ⟨g, 0, none⟩)) (w' := w0) rfl rfl (by go_simp) ?_; exact ⟨frameOf_put rfl, hW, HWx.out⟩
   ·
    have E5 : (frameOf a0 (List.range' 174 10) v).tmps[5]?.getD undef = .func (.func 37) #[] #[.pointer (some ⟨Z, 0, none⟩)] := (frameOf_out' rfl).trans e5; refine wpOp_value (v := .func (.func 37) #[] #[.pointer (some ⟨Z, 0, none⟩)]) (w' := w0) rfl rfl (by go_simp) ?_; exact ⟨frameOf_put rfl, hW, HWx.out⟩
   ·
    have x175 : v 175 = .func (.func 37) #[] #[.pointer (some ⟨Z, 0, none⟩)] := (hv 1 (by kernel_rfl)).trans (if_neg (by decide)); have E175 := (inn 175 rfl).trans x175; refine wpOp_call (f := 37) (args := #[.int .i64 (0 : Int), .int .i64 (12 : Int), .pointer (some ⟨Z, 0, none⟩)]) rfl rfl (by go_simp) (at_any (j := 0) _ (block_keeps hW hzB) (by decide) (by decide) ck0) ?_; rintro e w' ⟨rfl, hB'⟩; exact ⟨_, rfl, frameOf_put rfl, hW.next hB', fun x hx => by obtain ⟨q, h1, h2, h3⟩ := HWx.out x hx; exact ⟨q, h1, h2, block_below h3 hB'⟩⟩
   ·
    have x176 : v 176 = .agg #[.int .i64 (i0 : Int), .int .i64 (12 : Int)] := (hv 2 (by kernel_rfl)).trans (if_neg (by decide)); have E176 := (inn 176 rfl).trans x176; refine wpOp_value (v := .iface 86 (.agg #[.int .i64 (i0 : Int), .int .i64 (12 : Int)])) (w' := w0) rfl rfl (by go_simp) ?_; exact ⟨frameOf_put rfl, hW, HWx.out⟩
   ·
    refine wpOp_value (v := .iface 9 (.string ⟨#[32, 63, 32]⟩)) (w' := w0) rfl rfl (by go_simp) ?_; exact ⟨frameOf_put rfl, hW, HWx.out⟩
   ·
    have E4 : (frameOf a0 (List.range' 174 10) v).tmps[4]?.getD undef = .pointer (some ⟨Z, 0, none⟩) := (frameOf_out' rfl).trans e4; refine wpOp_value (v := .pointer (some ⟨Z, 1, none⟩)) (w' := w0) rfl rfl (by go_simp) ?_; exact ⟨frameOf_put rfl, hW, HWx.out⟩
   ·
    have x179 : v 179 = .pointer (some ⟨Z, 1, none⟩) := (hv 5 (by kernel_rfl)).trans (if_neg (by decide)); have E179 := (inn 179 rfl).trans x179; refine wpOp_value (v := .string tx) (w' := w0) rfl rfl (by go_simp) ?_; exact ⟨frameOf_put rfl, hW, HWx.out⟩
   ·
    have x180 : v 180 = .string tx := (hv 6 (by kernel_rfl)).trans (if_neg (by decide)); have E180 := (inn 180 rfl).trans x180; refine wpOp_call (f := 43) (args := #[.string tx]) rfl rfl (by go_simp) (HGB.out w0 (hb1.trans (hW.mono hb1.size))) ?_; rintro e w' ⟨rfl, hB'⟩; exact ⟨_, rfl, frameOf_put rfl, hW.next hB', fun x hx => by obtain ⟨q, h1, h2, h3⟩ := HWx.out x hx; exact ⟨q, h1, h2, block_below h3 hB'⟩⟩
   ·
    have x181 : v 181 = .string (atS tx) := (hv 7 (by kernel_rfl)).trans (if_neg (by decide)); have E181 := (inn 181 rfl).trans x181; refine wpOp_value (v := .iface 9 (.string (atS tx))) (w' := w0) rfl rfl (by go_simp) ?_; exact ⟨frameOf_put rfl, hW, HWx.out⟩
   ·
    exact absurd rfl hne
 · intro v w0 hWW hv
   obtain ⟨hW, hWx⟩ := hWW; have HWx := Lib.hid hWx; clear hWx; have ctx := cell_keeps hW ctx; have ck0 := cell_keeps hW ck0; have inn : ∀ d, (List.range' 174 10).contains d = true → (frameOf a0 (List.range' 174 10) v).tmps[d]?.getD undef = v d := fun d h => frameOf_in' h (hD d h)
   have x177 : v 177 = .iface 86 (.agg #[.int .i64 (i0 : Int), .int .i64 (12 : Int)]) := hv 3 (by decide) (by kernel_rfl); have E177 := (inn 177 rfl).trans x177; have x178 : v 178 = .iface 9 (.string ⟨#[32, 63, 32]⟩) := hv 4 (by decide) (by kernel_rfl); have E178 := (inn 178 rfl).trans x178; have x182 : v 182 = .iface 9 (.string (atS tx)) := hv 8 (by decide) (by kernel_rfl); have E182 := (inn 182 rfl).trans x182; refine wpOp_value (v := .slice (some ⟨w0.heap.size, 0, none⟩) 3 3) (w' := w0.alloc (.cells #[.iface 86 (.agg #[.int .i64 (i0 : Int), .int .i64 (12 : Int)]), .iface 9 (.string ⟨#[32, 63, 32]⟩), .iface 9 (.string (atS tx))] 20)) rfl rfl (by go_simp) ?_; exact ⟨_, frameOf_put rfl, hW.alloc hW.size _, fun x hx => ⟨w0.heap.size, (Option.some.inj hx).symm, hW.size, block_new _ _ rfl⟩⟩
 · intro x w0 hWW
   obtain ⟨hW, hWx⟩ := hWW; obtain ⟨q, rfl, hq1, hq2⟩ := hWx x rfl; clear hWx; have h0 := HA.out; subst h0; have hrg : List.range' 174 10 = [174, 175, 176, 177, 178, 179, 180, 181, 182, 183] := rfl; rw [hrg]; clear hrg; simp only [frameOf_cons, frameOf_nil, Act.put, List.setIfInBounds_toArray, List.set_cons_zero, List.set_cons_succ, Nat.reduceAdd, Nat.reduceEqDiff, if_true, if_false, reduceIte]; have hBW : Below w.heap.size w w0 := hb1.trans (hW.mono hb1.size); have hg0 : g < w0.heap.size := by have := hBW.size; omega
   have hgq : q ≠ g := by have := hb1.size; omega
   refine wpOp_call (f := 38) (args := #[.pointer (some ⟨g, 0, none⟩), .slice (some ⟨q, 0, none⟩) 3 3]) rfl rfl (by go_simp) (hS.out w0 bs _ 3 (HBW.out.trans (hBW.mono HBW.out.size)) (hwr.keep hBW) ⟨q, _, 20, (0, 0), rfl, hgq, by decide, hq2, fun j p hj => ?_⟩ hlen) ?_
   · match j, hj with
     | 0, hj => cases hj; rfl
     | 1, hj => cases hj; rfl
     | 2, hj => cases hj; rfl
     | j + 3, hj => simp at hj
   rintro e w2 ⟨rfl, hw2, hk2⟩; have hK : KW g w w2 := (KW.of_below (by omega) hBW).trans hk2; refine ⟨_, rfl, ?_⟩
   go_wp2_with fail; go_end0; exact ⟨rfl, by simpa using hw2, hK⟩
end
end Go.Proofs.YtkoghgnjjfnamaaGreatDoor
