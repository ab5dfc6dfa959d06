/- NodeW: what is used of them. -/
import Derived.Test.YtkoghgnjjfnamaaGreatDoorSayW
import Derived.Laws.Rows
set_option linter.unusedSectionVars false
set_option linter.unusedSimpArgs false
set_option linter.unusedVariables false
namespace Go.Proofs.YtkoghgnjjfnamaaGreatDoor
set_option maxRecDepth 100000
set_option maxHeartbeats 4000000
open Go.RowKit Go.Shelf
theorem at_any {w : World} {z : Nat} {c0 c1 c2 c3 c4 c6 : Value} {m c j i : Nat} {kb : Nat} (r : Int) (hz : w.heap[z]? = some (.cells #[c0, c1, c2, c3, c4, .slice (some ⟨kb, 0, none⟩) m c, c6] 36 (0, 0))) (hj : j < m) (hm : m ≤ 1000) (hk : w.cell? ⟨kb, j, none⟩ = some (.int .i64 (i : Int))) :
 Calls Tryz.prog 37 #[.int .i64 (j : Int), .int .i64 r, .pointer (some ⟨z, 0, none⟩)] w fun e w' => e = .returned (.agg #[.int .i64 (i : Int), .int .i64 r]) ∧ Below w.heap.size w w' := by
 have c5 : w.cell? ⟨z, 5, none⟩ = some (.slice (some ⟨kb, 0, none⟩) m c) := block_cell hz rfl; have hzl := block_lt hz; have hkl : kb < w.heap.size := World.block_lt_of_cell? w _ hk; have hjI : (j : Int) < (m : Int) := by omega
 have hj0 : (0 : Int) ≤ (j : Int) := by omega
 clear hz; go_enter Tryz.func37, Tryz.ntmps37
 go_wp2_with fail; refine bodyPost_ret (results_cell_row rfl _ _ w.heap.size 86 _ (0, 0) _ rfl (block_new _ _ rfl) Tryz.underlying86 rfl (by kernel_rfl)) rfl ?_; exact ⟨rfl, (by (repeat' first | (with_reducible first | exact Below.refl _ _ | assumption | refine below_drewN ?_ _ | refine Below.drew ?_ | refine Below.alloc ?_ ?_ _ | refine Below.setCell ?_ ?_ _) | omega | (simp; done) | (simp; omega)))⟩
theorem pv_at {g : Nat} {w : World} {ps : List Pt} {cs : Array Value} {ty : TypeId} {q : Nat} (hq : q = w.heap.size) (hg : g < w.heap.size) (hty : ty ≠ 5) (hcs : cs = (ps.map Pt.val).toArray) : PV g (w.alloc (.cells cs ty)) (some ⟨q, 0, none⟩) ps := by
 subst hq; exact pv_new hg hty hcs
theorem block_keeps {w w' : World} (hb : Below w.heap.size w w') {k : Nat} {o : Obj} (h : w.heap[k]? = some o) : w'.heap[k]? = some o := block_below h hb
theorem sgRow_le (s : ByteArray) : (sgRow s).2.1 ≤ 14 ∧ (sgRow s).2.2 ≤ 14 := by
 unfold sgRow
 repeat' split
 all_goals exact ⟨by decide, by decide⟩
section
variable {NG : Nat} {pn : Nat → Prop} {pk : Nat → Nat → Prop} {w0 : World} {fb g c : Nat} {ls : List NV} (hG : GP NG w0) (HN : NRd pn pk w0 fb 0 ls) (hg : w0.heap.size ≤ g) (hl : ls.length ≤ 1000)
include HN hg hl
theorem say_str (s : ByteArray) : SayC g w0 (.slice (some ⟨fb, 0, none⟩) ls.length c) [.str s] :=
 say_gen HN hg hl (by simp) (fun i r t h => by simp at h) (fun ⟨i, r, t, h⟩ => by simp at h)
theorem node_name {i : Nat} {x : NV} {tx : ByteArray} {n : Int} {f p : Nat} (hx : ls[i]? = some x) (hn : x.nd = ⟨4, tx, n, f, [], [], p⟩) : NodeC g w0 (.slice (some ⟨fb, 0, none⟩) ls.length c) (.mk 4 tx n f [] p []) i := by
 intro w bs hbw hwr hlen; have hS := Lib.hid (say_str HN hg hl (c := c) tx); have hpr : prX (.mk 4 tx n f [] p []) = strU tx := by simp [prX, prT, prK, asmP]
 rw [hpr] at hlen ⊢; have hNR := HN.below hbw; obtain ⟨a1, c1, a2, c2, _, _, k0, k1, k2, k3, k4, k5, k6, _, _⟩ := hNR.seven hx; rw [hn] at k0 k1 k2 k3 k4 k5 k6; simp only [Nat.zero_add, List.length_nil] at k0 k1 k2 k3 k4 k5 k6; have hii : i < ls.length := (List.getElem?_eq_some_iff.1 hx).1; have hi1 : (i : Int) < (ls.length : Int) := by omega
 have hi0 : (0 : Int) ≤ (i : Int) := by omega
 have cg := hwr.f; have hgl := hwr.lt; have hsf := store_f64; have hfl := hNR.lt; have HBW := Lib.hid hbw; clear hx hn hNR HN hbw hpr; go_enter Tryz.func18, Tryz.ntmps18
 go_wp2_with fail; refine (hS.out _ bs _ 1 ((HBW.out.alloc HBW.out.size _).alloc (by have := HBW.out.size; simp; omega) _) ((hwr.alloc _).alloc _) (pv_at (by simp) (by simp; omega) (by decide) rfl) (by simpa [Pt.tx] using hlen)).mono ?_; rintro e w2 ⟨rfl, hw2, hk2⟩; have hK : KW g w w2 := (((KW.refl g w).alloc (by omega) _).alloc (by simp; omega) _).trans hk2
 go_wp2_with fail; go_end0; exact ⟨rfl, by simpa [Pt.tx] using hw2, hK⟩
def KidI (g : Nat) (w0 : World) (fb c : Nat) (ls : List NV) (t : T) (i : Nat) : Prop :=
 kP t.kind ∧ (∃ x, ls[i]? = some x ∧ x.nd.kind = t.kind ∧ x.nd.text = t.text) ∧ NodeC g w0 (.slice (some ⟨fb, 0, none⟩) ls.length c) t i
theorem node_bin {i i0 i1 : Nat} {x : NV} {tx : ByteArray} {n : Int} {f p : Nat} {t0 t1 : T} (hx : ls[i]? = some x) (hn : x.nd = ⟨18, tx, n, f, [], [i0, i1], p⟩) (hts : tx.size ≤ 1024)
 (h0 : KidI g w0 fb c ls t0 i0) (h1 : KidI g w0 fb c ls t1 i1) : NodeC g w0 (.slice (some ⟨fb, 0, none⟩) ls.length c) (.mk 18 tx n f [] p [t0, t1]) i := by
 intro w bs hbw hwr hlen; obtain ⟨r0, lf, rt, hrow⟩ : ∃ r0 lf rt, sgRow tx = (r0, lf, rt) := ⟨_, _, _, rfl⟩; have hle := sgRow_le tx; rw [hrow] at hle; have hS := Lib.hid (show SayC g w0 (.slice (some ⟨fb, 0, none⟩) ls.length c) [.kid i0 lf t0, .str (⟨#[32]⟩ ++ tx ++ ⟨#[32]⟩), .kid i1 rt t1] from say_gen HN hg hl (by simp) (fun i r t h => by
  simp only [List.mem_cons, Pt.kid.injEq, reduceCtorEq, List.not_mem_nil, or_false, false_or] at h; rcases h with ⟨rfl, rfl, rfl⟩ | ⟨rfl, rfl, rfl⟩
  · exact ⟨h0.1, hle.1, h0.2.1, h0.2.2⟩
  · exact ⟨h1.1, hle.2, h1.2.1, h1.2.2⟩) (fun _ s => say_str HN hg hl ⟨#[s]⟩))
 have hpr : prX (.mk 18 tx n f [] p [t0, t1]) = ([.kid i0 lf t0, .str (⟨#[32]⟩ ++ tx ++ ⟨#[32]⟩), .kid i1 rt t1] : List Pt).flatMap Pt.tx := by
  simp [prX, prT, prK, asmP, partP, Pt.tx, strU, nw_app, hrow]
 rw [hpr] at hlen ⊢; have hNR := HN.below hbw; obtain ⟨a1, c1, a2, c2, _, _, k0, k1, k2, k3, k4, k5, k6, hkc, _⟩ := hNR.seven hx; rw [hn] at k0 k1 k2 k3 k4 k5 k6 hkc; obtain ⟨kb, rfl, ck0⟩ := hkc 0 i0 rfl; obtain ⟨kb2, hkb, ck1⟩ := hkc 1 i1 rfl; cases hkb; simp only [Nat.zero_add, List.length_nil, List.length_cons, Nat.reduceAdd] at k0 k1 k2 k3 k4 k5 k6; have hii : i < ls.length := (List.getElem?_eq_some_iff.1 hx).1; have hi1 : (i : Int) < (ls.length : Int) := by omega
 have hi0 : (0 : Int) ≤ (i : Int) := by omega
 have cg := hwr.f; have hgl := hwr.lt; have hsf := store_f64; have hfl := hNR.lt; have HBW := Lib.hid hbw; have HSg := Lib.hid (fun W => psign_any tx W); rw [hrow] at HSg; have hts1 : 1 + tx.size ≤ 9223372036854775807 := by omega
 have hts2 : 1 + tx.size ≤ 9223372036854775806 := by omega
 clear hx hn hNR HN hbw hpr hkc h0 h1 hrow hle; go_enter Tryz.func18, Tryz.ntmps18
 go_wp2_with fail; refine (HSg.out _).mono ?_; rintro e w2 ⟨rfl, rfl⟩; go_upto_region 57 with fail
 obtain ⟨Z, hZ⟩ : ∃ Z, w.heap.size = Z := ⟨_, rfl⟩; rw [hZ]; refine with_world' fun w1 hw1 => ?_
 have hzB : w1.heap[Z]? = some (.cells #[.int .i64 18, .string tx, .int .i64 n, .float .f64 f, .slice a1 0 c1, .slice (some ⟨kb, 0, none⟩) 2 c2, .int .i64 (p : Int)] 36 (0, 0)) := by rw [hw1]; exact block_new _ _ hZ.symm
 have hb1 : Below w.heap.size w w1 := by rw [hw1]; (repeat' first | (with_reducible first | exact Below.refl _ _ | assumption | refine below_drewN ?_ _ | refine Below.drew ?_ | refine Below.alloc ?_ ?_ _ | refine Below.setCell ?_ ?_ _) | omega | (simp; done) | (simp; omega))
 have ctx : w1.cell? ⟨Z, 1, none⟩ = some (.string tx) := block_cell hzB rfl; have ck0 := cell_keeps hb1 ck0; have ck1 := cell_keeps hb1 ck1; clear hw1 k0 k1 k2 k3 k4 k5 k6 cg; refine with_frame fun a0 ha0 => ?_
 have e0 : a0.eval (.tmp 0) = .pointer (some ⟨g, 0, none⟩) := by rw [ha0]; rfl
 have e4 : a0.eval (.tmp 4) = .pointer (some ⟨Z, 0, none⟩) := by rw [ha0]; rfl
 have e5 : a0.eval (.tmp 5) = .func (.func 37) #[] #[.pointer (some ⟨Z, 0, none⟩)] := by rw [ha0]; rfl
 have e10 : a0.eval (.tmp 10) = .int .i64 (lf : Int) := by rw [ha0]; rfl
 have e11 : a0.eval (.tmp 11) = .int .i64 (rt : Int) := by rw [ha0]; rfl
 have hsz0 : a0.tmps.size = 296 := by rw [ha0]; rfl
 have HA := Lib.hid ha0; clear ha0; have hD : ∀ d, (List.range' 280 15).contains d = true → d < a0.tmps.size := by
  intro d h; rw [hsz0]; have hm : d ∈ List.range' 280 15 := by simpa using h
  rw [List.mem_range'_1] at hm; omega
 refine wp_region_tabx (by kernel_rfl) 15 280 14 (fun jj => ([.pointer (some ⟨g, 0, none⟩), .func (.func 37) #[] #[.pointer (some ⟨Z, 0, none⟩)], .int .i64 (lf : Int), .agg #[.int .i64 (i0 : Int), .int .i64 (lf : Int)], .iface 86 (.agg #[.int .i64 (i0 : Int), .int .i64 (lf : Int)]), .pointer (some ⟨Z, 1, none⟩), .string tx, .string (⟨#[32]⟩ ++ tx), .string (⟨#[32]⟩ ++ tx ++ ⟨#[32]⟩), .iface 9 (.string (⟨#[32]⟩ ++ tx ++ ⟨#[32]⟩)), .func (.func 37) #[] #[.pointer (some ⟨Z, 0, none⟩)], .int .i64 (rt : Int), .agg #[.int .i64 (i1 : Int), .int .i64 (rt : Int)], .iface 86 (.agg #[.int .i64 (i1 : Int), .int .i64 (rt : Int)]), undef] : List Value).getD jj undef) (fun s w' => Below w1.heap.size w1 w' ∧ ∀ x, s = some x → ∃ q, x = .slice (some ⟨q, 0, none⟩) 3 3 ∧ w1.heap.size ≤ q ∧ w'.heap[q]? = some (.cells #[.iface 86 (.agg #[.int .i64 (i0 : Int), .int .i64 (lf : Int)]), .iface 9 (.string (⟨#[32]⟩ ++ tx ++ ⟨#[32]⟩)), .iface 86 (.agg #[.int .i64 (i1 : Int), .int .i64 (rt : Int)])] 20 (0, 0))) rfl (by kernel_rfl) (by kernel_rfl) (by omega) ⟨by (repeat' first | (with_reducible first | exact Below.refl _ _ | assumption | refine below_drewN ?_ _ | refine Below.drew ?_ | refine Below.alloc ?_ ?_ _ | refine Below.setCell ?_ ?_ _) | omega | (simp; done) | (simp; omega)), fun x h => by cases h⟩ ?_ ?_ ?_
 · intro i0 hi0 hne s v w0 hWW hbd hv
   obtain ⟨hW, hWx⟩ := hWW; have HWx := Lib.hid hWx; clear hWx; have ctx := cell_keeps hW ctx; have ck0 := cell_keeps hW ck0; have ck1 := cell_keeps hW ck1; have inn : ∀ d, (List.range' 280 15).contains d = true → (frameOf a0 (List.range' 280 15) v).tmps[d]?.getD undef = v d := fun d h => frameOf_in' h (hD d h)
   rcases (by omega : i0 = 0 ∨ i0 = 1 ∨ i0 = 2 ∨ i0 = 3 ∨ i0 = 4 ∨ i0 = 5 ∨ i0 = 6 ∨ i0 = 7 ∨ i0 = 8 ∨ i0 = 9 ∨ i0 = 10 ∨ i0 = 11 ∨ i0 = 12 ∨ i0 = 13 ∨ i0 = 14) with rfl | rfl | rfl | rfl | rfl | rfl | rfl | rfl | rfl | rfl | rfl | rfl | rfl | rfl | rfl
   ·
    have E0 : (frameOf a0 (List.range' 280 15) v).tmps[0]?.getD undef = .pointer (some ⟨g, 0, none⟩) := (frameOf_out' rfl).trans e0; refine wpOp_value (v := .pointer (some ⟨g, 0, none⟩)) (w' := w0) rfl rfl (by go_simp) ?_; exact ⟨frameOf_put rfl, hW, HWx.out⟩
   ·
    have E5 : (frameOf a0 (List.range' 280 15) v).tmps[5]?.getD undef = .func (.func 37) #[] #[.pointer (some ⟨Z, 0, none⟩)] := (frameOf_out' rfl).trans e5; refine wpOp_value (v := .func (.func 37) #[] #[.pointer (some ⟨Z, 0, none⟩)]) (w' := w0) rfl rfl (by go_simp) ?_; exact ⟨frameOf_put rfl, hW, HWx.out⟩
   ·
    have E10 : (frameOf a0 (List.range' 280 15) v).tmps[10]?.getD undef = .int .i64 (lf : Int) := (frameOf_out' rfl).trans e10; refine wpOp_value (v := .int .i64 (lf : Int)) (w' := w0) rfl rfl (by go_simp) ?_; exact ⟨frameOf_put rfl, hW, HWx.out⟩
   ·
    have x281 : v 281 = .func (.func 37) #[] #[.pointer (some ⟨Z, 0, none⟩)] := (hv 1 (by kernel_rfl)).trans (if_neg (by decide)); have E281 := (inn 281 rfl).trans x281; have x282 : v 282 = .int .i64 (lf : Int) := (hv 2 (by kernel_rfl)).trans (if_neg (by decide)); have E282 := (inn 282 rfl).trans x282; refine wpOp_call (f := 37) (args := #[.int .i64 (0 : Int), .int .i64 (lf : Int), .pointer (some ⟨Z, 0, none⟩)]) rfl rfl (by go_simp) (at_any (j := 0) _ (block_keeps hW hzB) (by decide) (by decide) ck0) ?_; rintro e w' ⟨rfl, hB'⟩; exact ⟨_, rfl, frameOf_put rfl, hW.next hB', fun x hx => by obtain ⟨q, h1, h2, h3⟩ := HWx.out x hx; exact ⟨q, h1, h2, block_below h3 hB'⟩⟩
   ·
    have x283 : v 283 = .agg #[.int .i64 (i0 : Int), .int .i64 (lf : Int)] := (hv 3 (by kernel_rfl)).trans (if_neg (by decide)); have E283 := (inn 283 rfl).trans x283; refine wpOp_value (v := .iface 86 (.agg #[.int .i64 (i0 : Int), .int .i64 (lf : Int)])) (w' := w0) rfl rfl (by go_simp) ?_; exact ⟨frameOf_put rfl, hW, HWx.out⟩
   ·
    have E4 : (frameOf a0 (List.range' 280 15) v).tmps[4]?.getD undef = .pointer (some ⟨Z, 0, none⟩) := (frameOf_out' rfl).trans e4; refine wpOp_value (v := .pointer (some ⟨Z, 1, none⟩)) (w' := w0) rfl rfl (by go_simp) ?_; exact ⟨frameOf_put rfl, hW, HWx.out⟩
   ·
    have x285 : v 285 = .pointer (some ⟨Z, 1, none⟩) := (hv 5 (by kernel_rfl)).trans (if_neg (by decide)); have E285 := (inn 285 rfl).trans x285; refine wpOp_value (v := .string tx) (w' := w0) rfl rfl (by go_simp) ?_; exact ⟨frameOf_put rfl, hW, HWx.out⟩
   ·
    have x286 : v 286 = .string tx := (hv 6 (by kernel_rfl)).trans (if_neg (by decide)); have E286 := (inn 286 rfl).trans x286; refine wpOp_value (v := .string (⟨#[32]⟩ ++ tx)) (w' := w0) rfl rfl (by go_simp) ?_; exact ⟨frameOf_put rfl, hW, HWx.out⟩
   ·
    have x287 : v 287 = .string (⟨#[32]⟩ ++ tx) := (hv 7 (by kernel_rfl)).trans (if_neg (by decide)); have E287 := (inn 287 rfl).trans x287; refine wpOp_value (v := .string (⟨#[32]⟩ ++ tx ++ ⟨#[32]⟩)) (w' := w0) rfl rfl (by go_simp) ?_; exact ⟨frameOf_put rfl, hW, HWx.out⟩
   ·
    have x288 : v 288 = .string (⟨#[32]⟩ ++ tx ++ ⟨#[32]⟩) := (hv 8 (by kernel_rfl)).trans (if_neg (by decide)); have E288 := (inn 288 rfl).trans x288; refine wpOp_value (v := .iface 9 (.string (⟨#[32]⟩ ++ tx ++ ⟨#[32]⟩))) (w' := w0) rfl rfl (by go_simp) ?_; exact ⟨frameOf_put rfl, hW, HWx.out⟩
   ·
    have E5 : (frameOf a0 (List.range' 280 15) v).tmps[5]?.getD undef = .func (.func 37) #[] #[.pointer (some ⟨Z, 0, none⟩)] := (frameOf_out' rfl).trans e5; refine wpOp_value (v := .func (.func 37) #[] #[.pointer (some ⟨Z, 0, none⟩)]) (w' := w0) rfl rfl (by go_simp) ?_; exact ⟨frameOf_put rfl, hW, HWx.out⟩
   ·
    have E11 : (frameOf a0 (List.range' 280 15) v).tmps[11]?.getD undef = .int .i64 (rt : Int) := (frameOf_out' rfl).trans e11; refine wpOp_value (v := .int .i64 (rt : Int)) (w' := w0) rfl rfl (by go_simp) ?_; exact ⟨frameOf_put rfl, hW, HWx.out⟩
   ·
    have x290 : v 290 = .func (.func 37) #[] #[.pointer (some ⟨Z, 0, none⟩)] := (hv 10 (by kernel_rfl)).trans (if_neg (by decide)); have E290 := (inn 290 rfl).trans x290; have x291 : v 291 = .int .i64 (rt : Int) := (hv 11 (by kernel_rfl)).trans (if_neg (by decide)); have E291 := (inn 291 rfl).trans x291; refine wpOp_call (f := 37) (args := #[.int .i64 (1 : Int), .int .i64 (rt : Int), .pointer (some ⟨Z, 0, none⟩)]) rfl rfl (by go_simp) (at_any (j := 1) _ (block_keeps hW hzB) (by decide) (by decide) ck1) ?_; rintro e w' ⟨rfl, hB'⟩; exact ⟨_, rfl, frameOf_put rfl, hW.next hB', fun x hx => by obtain ⟨q, h1, h2, h3⟩ := HWx.out x hx; exact ⟨q, h1, h2, block_below h3 hB'⟩⟩
   ·
    have x292 : v 292 = .agg #[.int .i64 (i1 : Int), .int .i64 (rt : Int)] := (hv 12 (by kernel_rfl)).trans (if_neg (by decide)); have E292 := (inn 292 rfl).trans x292; refine wpOp_value (v := .iface 86 (.agg #[.int .i64 (i1 : Int), .int .i64 (rt : Int)])) (w' := w0) rfl rfl (by go_simp) ?_; exact ⟨frameOf_put rfl, hW, HWx.out⟩
   ·
    exact absurd rfl hne
 · intro v w0 hWW hv
   obtain ⟨hW, hWx⟩ := hWW; have HWx := Lib.hid hWx; clear hWx; have ctx := cell_keeps hW ctx; have ck0 := cell_keeps hW ck0; have ck1 := cell_keeps hW ck1; have inn : ∀ d, (List.range' 280 15).contains d = true → (frameOf a0 (List.range' 280 15) v).tmps[d]?.getD undef = v d := fun d h => frameOf_in' h (hD d h)
   have x284 : v 284 = .iface 86 (.agg #[.int .i64 (i0 : Int), .int .i64 (lf : Int)]) := hv 4 (by decide) (by kernel_rfl); have E284 := (inn 284 rfl).trans x284; have x289 : v 289 = .iface 9 (.string (⟨#[32]⟩ ++ tx ++ ⟨#[32]⟩)) := hv 9 (by decide) (by kernel_rfl); have E289 := (inn 289 rfl).trans x289; have x293 : v 293 = .iface 86 (.agg #[.int .i64 (i1 : Int), .int .i64 (rt : Int)]) := hv 13 (by decide) (by kernel_rfl); have E293 := (inn 293 rfl).trans x293; refine wpOp_value (v := .slice (some ⟨w0.heap.size, 0, none⟩) 3 3) (w' := w0.alloc (.cells #[.iface 86 (.agg #[.int .i64 (i0 : Int), .int .i64 (lf : Int)]), .iface 9 (.string (⟨#[32]⟩ ++ tx ++ ⟨#[32]⟩)), .iface 86 (.agg #[.int .i64 (i1 : Int), .int .i64 (rt : Int)])] 20)) rfl rfl (by go_simp) ?_; exact ⟨_, frameOf_put rfl, hW.alloc hW.size _, fun x hx => ⟨w0.heap.size, (Option.some.inj hx).symm, hW.size, block_new _ _ rfl⟩⟩
 · intro x w0 hWW
   obtain ⟨hW, hWx⟩ := hWW; obtain ⟨q, rfl, hq1, hq2⟩ := hWx x rfl; clear hWx; have h0 := HA.out; subst h0; have hrg : List.range' 280 15 = [280, 281, 282, 283, 284, 285, 286, 287, 288, 289, 290, 291, 292, 293, 294] := rfl; rw [hrg]; clear hrg; simp only [frameOf_cons, frameOf_nil, Act.put, List.setIfInBounds_toArray, List.set_cons_zero, List.set_cons_succ, Nat.reduceAdd, Nat.reduceEqDiff, if_true, if_false, reduceIte]; have hBW : Below w.heap.size w w0 := hb1.trans (hW.mono hb1.size); have hg0 : g < w0.heap.size := by have := hBW.size; omega
   have hgq : q ≠ g := by have := hb1.size; omega
   refine wpOp_call (f := 38) (args := #[.pointer (some ⟨g, 0, none⟩), .slice (some ⟨q, 0, none⟩) 3 3]) rfl rfl (by go_simp) (hS.out w0 bs _ 3 (HBW.out.trans (hBW.mono HBW.out.size)) (hwr.keep hBW) ⟨q, _, 20, (0, 0), rfl, hgq, by decide, hq2, fun j p hj => ?_⟩ hlen) ?_
   · match j, hj with
     | 0, hj => cases hj; rfl
     | 1, hj => cases hj; rfl
     | 2, hj => cases hj; rfl
     | j + 3, hj => simp at hj
   rintro e w2 ⟨rfl, hw2, hk2⟩; have hK : KW g w w2 := (KW.of_below (by omega) hBW).trans hk2; refine ⟨_, rfl, ?_⟩
   go_wp2_with fail; go_end0; exact ⟨rfl, by simpa using hw2, hK⟩
include hG
end
end Go.Proofs.YtkoghgnjjfnamaaGreatDoor
