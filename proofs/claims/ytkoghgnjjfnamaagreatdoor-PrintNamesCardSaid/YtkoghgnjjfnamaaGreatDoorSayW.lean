/- SayW: what is used of them. -/
import Derived.Test.YtkoghgnjjfnamaaGreatDoorKe
set_option linter.unusedSectionVars false
set_option linter.unusedSimpArgs false
set_option linter.unusedVariables false
namespace Go.Proofs.YtkoghgnjjfnamaaGreatDoor
set_option maxRecDepth 100000
set_option maxHeartbeats 4000000
open Go.RowKit Go.Shelf
theorem as_ss (v : Value) (W : World) : (Instr.typeAssert (.iface 9 v) 20 9 true).run Tryz.prog W = .ok (.tuple #[v, .bool true]) W := by kernel_rfl
theorem as_ks (v : Value) (W : World) : (Instr.typeAssert (.iface 86 v) 20 9 true).run Tryz.prog W = .ok (.tuple #[.string ⟨#[]⟩, .bool false]) W := by kernel_rfl
theorem as_kk (v : Value) (W : World) : (Instr.typeAssert (.iface 86 v) 20 86 true).run Tryz.prog W = .ok (.tuple #[v, .bool true]) W := by kernel_rfl
attribute [local go_sem] as_ss as_ks as_kk
inductive Pt where
 | str (s : ByteArray)
 | kid (i r : Nat) (t : T)
def prX : T → List UInt8 := prT aB qB Lib.itoa (fun _ => [])
def Pt.val : Pt → Value
 | .str s => .iface 9 (.string s)
 | .kid i r _ => .iface 86 (.agg #[.int .i64 (i : Int), .int .i64 (r : Int)])
def Pt.tx : Pt → List UInt8
 | .str s => strU s
 | .kid _ r t => if rowN t.kind t.text < r then 40 :: (prX t ++ [41]) else prX t
def PV (g : Nat) (w : World) (a : Option Addr) (ps : List Pt) : Prop :=
 ∃ q cs ty fr, a = some ⟨q, 0, none⟩ ∧ q ≠ g ∧ ty ≠ 5 ∧ w.heap[q]? = some (.cells cs ty fr) ∧ ∀ (j : Nat) (p : Pt), ps[j]? = some p → cs[j]? = some p.val
theorem pv_new {g : Nat} {w : World} {ps : List Pt} {cs : Array Value} {ty : TypeId} (hg : g < w.heap.size) (hty : ty ≠ 5) (hcs : cs = (ps.map Pt.val).toArray) : PV g (w.alloc (.cells cs ty)) (some ⟨w.heap.size, 0, none⟩) ps :=
 ⟨_, cs, ty, (0, 0), rfl, by omega, hty, block_new _ _ rfl, fun j p hj => by subst hcs; rw [List.getElem?_toArray, List.getElem?_map, hj]; rfl⟩
def NodeC (g : Nat) (w0 : World) (fv : Value) (t : T) (i : Nat) : Prop :=
 ∀ (w : World) (bs : List UInt8), Below w0.heap.size w0 w → WR g fv bs w → bs.length + (prX t).length ≤ 140737488355328 →
   Calls Tryz.prog 18 #[.pointer (some ⟨g, 0, none⟩), .int .i64 (i : Int)] w fun e w' => e = .returned (.tuple #[]) ∧ WR g fv (bs ++ prX t) w' ∧ KW g w w'
def SayC (g : Nat) (w0 : World) (fv : Value) (ps : List Pt) : Prop :=
 ∀ (w : World) (bs : List UInt8) (a : Option Addr) (c : Nat), Below w0.heap.size w0 w → WR g fv bs w → PV g w a ps → bs.length + (ps.flatMap Pt.tx).length ≤ 140737488355328 →
   Calls Tryz.prog 38 #[.pointer (some ⟨g, 0, none⟩), .slice a ps.length c] w fun e w' => e = .returned (.tuple #[]) ∧ WR g fv (bs ++ ps.flatMap Pt.tx) w' ∧ KW g w w'
theorem flat_take (ps : List Pt) {k : Nat} {p : Pt} (h : ps[k]? = some p) : (ps.take (k + 1)).flatMap Pt.tx = (ps.take k).flatMap Pt.tx ++ p.tx := by
 rw [List.take_add_one, h]; simp
theorem flat_le (ps : List Pt) {k : Nat} {p : Pt} (h : ps[k]? = some p) : ((ps.take k).flatMap Pt.tx).length + p.tx.length ≤ (ps.flatMap Pt.tx).length := by
 have h1 := flat_take ps h; have h2 : ps.flatMap Pt.tx = (ps.take (k + 1)).flatMap Pt.tx ++ (ps.drop (k + 1)).flatMap Pt.tx := by rw [← List.flatMap_append, List.take_append_drop]
 rw [h2, h1]; simp only [List.length_append]; omega
theorem say_gen {pn : Nat → Prop} {pk : Nat → Nat → Prop} {w0 : World} {fb g c : Nat} {ls : List NV} (HN : NRd pn pk w0 fb 0 ls) (hg : w0.heap.size ≤ g) (hl : ls.length ≤ 1000) {ps : List Pt} (hpl : ps.length ≤ 1000)
 (hps : ∀ (i r : Nat) (t : T), Pt.kid i r t ∈ ps → kP t.kind ∧ r ≤ 14 ∧ (∃ x, ls[i]? = some x ∧ x.nd.kind = t.kind ∧ x.nd.text = t.text) ∧ NodeC g w0 (.slice (some ⟨fb, 0, none⟩) ls.length c) t i)
 (hsay : (∃ i r t, Pt.kid i r t ∈ ps) → ∀ s : UInt8, SayC g w0 (.slice (some ⟨fb, 0, none⟩) ls.length c) [.str ⟨#[s]⟩]) : SayC g w0 (.slice (some ⟨fb, 0, none⟩) ls.length c) ps := by
 intro w bs a cp hbw hwr hpv hlen; obtain ⟨q, cs, ty, fr, rfl, hqg, hty, hq, hcs⟩ := hpv; have HQ := Lib.hid hq; have HCS := Lib.hid hcs; have HPS := Lib.hid hps; have HSAY := Lib.hid hsay; have HLEN := Lib.hid hlen; have HN1 := Lib.hid HN; obtain ⟨m, hm⟩ : ∃ m, ps.length = m := ⟨_, rfl⟩; have HM := Lib.hid hm; have HL := Lib.hid hl; clear hq hcs hps hsay hlen HN hl; rw [hm] at hpl ⊢; clear hm; go_enter Tryz.func38, Tryz.ntmps38
 go_wp2_with fail; go_loopw [10] (fun iv wr => ∃ k : Nat, k ≤ m ∧ iv = .int .i64 (k : Int) ∧ WR g (.slice (some ⟨fb, 0, none⟩) ls.length c) (bs ++ (ps.take k).flatMap Pt.tx) wr ∧ KW g w wr) (fun iv _ => m - (intOf iv).toNat)
 case atStart => exact ⟨0, Nat.zero_le _, rfl, by simpa using hwr, KW.refl _ _⟩
 case round =>
  obtain ⟨k, hk, rfl, hwk, hkk⟩ := hrel; have hglt := hwk.lt; by_cases hlt : k < m
  · obtain ⟨p, hp⟩ : ∃ p, ps[k]? = some p := ⟨ps[k]'(by have := HM.out; omega), List.getElem?_eq_getElem _⟩
    have hcell : wr.cell? ⟨q, k, none⟩ = some p.val := block_cell (hkk.keep q cs ty fr hqg hty HQ.out) (HCS.out k p hp); have hmem : p ∈ ps := List.mem_of_getElem? hp; have hfl := flat_le ps hp; have hft := flat_take ps hp; have HLE := Lib.hid (show (bs ++ (ps.take k).flatMap Pt.tx).length + p.tx.length ≤ 140737488355328 by have := HLEN.out; rw [List.length_append]; omega); have HFT := Lib.hid hft; have hbr : Below w0.heap.size w0 wr := hbw.trans (hkk.below.mono hg); generalize hB : bs ++ (ps.take k).flatMap Pt.tx = B at hwk HLE; have HB := Lib.hid hB; clear hp hfl hft hB; cases p with
    | str s =>
      simp only [Pt.val] at hcell
      go_wp2_with fail; refine (writeS_any g _ B s _ hwk (by have := HLE.out; simpa [Pt.tx, strU] using this)).mono ?_; rintro e w2 ⟨⟨v, rfl⟩, hu, hk2⟩
      go_wp2_with fail; go_roundw
      case rel => exact ⟨k + 1, by omega, by go_num, (by rw [HFT.out, ← List.append_assoc, HB.out]; exact hu.wr), hkk.trans hk2⟩
      case measure => simp [intOf]; omega
    | kid i r t =>
      obtain ⟨hkP, hr14, ⟨x, hx, hxk, hxt⟩, hnode⟩ := HPS.out i r t hmem; have HX := Lib.hid (show kP x.nd.kind by rw [hxk]; exact hkP); have hii : i < ls.length := (List.getElem?_eq_some_iff.1 hx).1; have hi1 : (i : Int) < (ls.length : Int) := by omega
      have hi0 : (0 : Int) ≤ (i : Int) := by omega
      have HND := Lib.hid hnode; have hS1 := HSAY.out ⟨i, r, t, hmem⟩; have HS40 := Lib.hid (hS1 40); have HS41 := Lib.hid (hS1 41); have hrow : Hid (rowN t.kind t.text = rowN x.nd.kind x.nd.text) := by unfold Hid; rw [hxk, hxt]
      have hNR := HN1.out.below hbr; obtain ⟨a1, c1, a2, c2, _, _, k0, k1, k2, k3, k4, k5, k6, _, _⟩ := hNR.seven hx; simp only [Nat.zero_add] at k0 k1 k2 k3 k4 k5 k6; have hfb : fb < wr.heap.size := hNR.lt; have hfbl : fb < w0.heap.size := HN1.out.lt; simp only [Pt.val] at hcell; have HXK := Lib.hid hxk; have HXT := Lib.hid hxt; have hcg := hwk.f; clear hnode hkP hx hxk hxt hmem hS1 hNR; generalize hR : rowN x.nd.kind x.nd.text = rr at *; have HRR := Lib.hid hR; clear hR; by_cases hrl : rr < r
      · have hrI : ((rr : Nat) : Int) < (r : Int) := by omega
        go_upto_region 9 with fail
        obtain ⟨Z, hZ⟩ : ∃ Z, wr.heap.size = Z := ⟨_, rfl⟩; rw [hZ]; refine with_world' fun w1 hw1 => ?_
        have hZb : w1.heap[Z]? = some (.cells #[.int .i64 (i : Int), .int .i64 (r : Int)] 86 (0, 0)) := by rw [hw1]; exact block_new _ _ hZ.symm
        have hb1 : Below wr.heap.size wr w1 := by rw [hw1]; (repeat' first | (with_reducible first | exact Below.refl _ _ | assumption | refine below_drewN ?_ _ | refine Below.drew ?_ | refine Below.alloc ?_ ?_ _ | refine Below.setCell ?_ ?_ _) | omega | (simp; done) | (simp; omega))
        have cg : w1.cell? ⟨g, 0, none⟩ = some (.slice (some ⟨fb, 0, none⟩) ls.length c) := cell_keeps hb1 hcg; have cz0 : w1.cell? ⟨Z, 0, none⟩ = some (.int .i64 (i : Int)) := block_cell hZb rfl; have cz1 : w1.cell? ⟨Z, 1, none⟩ = some (.int .i64 (r : Int)) := block_cell hZb rfl; have k0 := cell_keeps hb1 k0; have k1 := cell_keeps hb1 k1; have k2 := cell_keeps hb1 k2; have k3 := cell_keeps hb1 k3; have k4 := cell_keeps hb1 k4; have k5 := cell_keeps hb1 k5; have k6 := cell_keeps hb1 k6; clear hw1; refine with_frame fun a0 ha0 => ?_
        have e0 : a0.eval (.tmp 0) = .pointer (some ⟨g, 0, none⟩) := by rw [ha0]; rfl
        have e7 : a0.eval (.tmp 7) = .pointer (some ⟨Z, 0, none⟩) := by rw [ha0]; rfl
        have hsz : a0.tmps.size = 55 := by rw [ha0]; rfl
        have HA := Lib.hid ha0; clear ha0; have hD : ∀ d, (List.range' 26 11).contains d = true → d < a0.tmps.size := by
         intro d h; rw [hsz]; have hm : d ∈ List.range' 26 11 := by simpa using h
         rw [List.mem_range'_1] at hm; omega
        refine wp_region_tab (by kernel_rfl) 11 26 (fun jj => ([.pointer (some ⟨g, 0, none⟩), .pointer (some ⟨g, 0, none⟩), .pointer (some ⟨g, 0, none⟩), .slice (some ⟨fb, 0, none⟩) ls.length c, .pointer (some ⟨Z, 0, none⟩), .int .i64 (i : Int), .pointer (some ⟨fb, i * 7, none⟩), .agg #[.int .i64 x.nd.kind, .string x.nd.text, .int .i64 x.nd.int, .float .f64 x.nd.flt, .slice a1 x.nd.names.length c1, .slice a2 x.nd.kids.length c2, .int .i64 (x.nd.place : Int)], .int .i64 (rr : Int), .pointer (some ⟨Z, 1, none⟩), .int .i64 (r : Int)] : List Value).getD jj undef) (fun w' => Below w1.heap.size w1 w') rfl (by kernel_rfl) (by kernel_rfl) (by (repeat' first | (with_reducible first | exact Below.refl _ _ | assumption | refine below_drewN ?_ _ | refine Below.drew ?_ | refine Below.alloc ?_ ?_ _ | refine Below.setCell ?_ ?_ _) | omega | (simp; done) | (simp; omega))) ?_ ?_
        · intro i0 hi0 v w0 hW hv
          have cg := cell_keeps hW cg; have cz0 := cell_keeps hW cz0; have cz1 := cell_keeps hW cz1; have k0 := cell_keeps hW k0; have k1 := cell_keeps hW k1; have k2 := cell_keeps hW k2; have k3 := cell_keeps hW k3; have k4 := cell_keeps hW k4; have k5 := cell_keeps hW k5; have k6 := cell_keeps hW k6; have inn : ∀ d, (List.range' 26 11).contains d = true → (frameOf a0 (List.range' 26 11) v).tmps[d]?.getD undef = v d := fun d h => frameOf_in' h (hD d h)
          rcases (by omega : i0 = 0 ∨ i0 = 1 ∨ i0 = 2 ∨ i0 = 3 ∨ i0 = 4 ∨ i0 = 5 ∨ i0 = 6 ∨ i0 = 7 ∨ i0 = 8 ∨ i0 = 9 ∨ i0 = 10) with rfl | rfl | rfl | rfl | rfl | rfl | rfl | rfl | rfl | rfl | rfl
          ·
           have E0 : (frameOf a0 (List.range' 26 11) v).tmps[0]?.getD undef = .pointer (some ⟨g, 0, none⟩) := (frameOf_out' rfl).trans e0; refine wpOp_value (v := .pointer (some ⟨g, 0, none⟩)) (w' := w0) rfl rfl (by go_simp) ?_; exact ⟨frameOf_put rfl, hW⟩
          ·
           have x26 : v 26 = .pointer (some ⟨g, 0, none⟩) := hv 0 (by kernel_rfl); have E26 := (inn 26 rfl).trans x26; refine wpOp_value (v := .pointer (some ⟨g, 0, none⟩)) (w' := w0) rfl rfl (by go_simp) ?_; exact ⟨frameOf_put rfl, hW⟩
          ·
           have x27 : v 27 = .pointer (some ⟨g, 0, none⟩) := hv 1 (by kernel_rfl); have E27 := (inn 27 rfl).trans x27; refine wpOp_value (v := .pointer (some ⟨g, 0, none⟩)) (w' := w0) rfl rfl (by go_simp) ?_; exact ⟨frameOf_put rfl, hW⟩
          ·
           have x28 : v 28 = .pointer (some ⟨g, 0, none⟩) := hv 2 (by kernel_rfl); have E28 := (inn 28 rfl).trans x28; refine wpOp_value (v := .slice (some ⟨fb, 0, none⟩) ls.length c) (w' := w0) rfl rfl (by go_simp) ?_; exact ⟨frameOf_put rfl, hW⟩
          ·
           have E7 : (frameOf a0 (List.range' 26 11) v).tmps[7]?.getD undef = .pointer (some ⟨Z, 0, none⟩) := (frameOf_out' rfl).trans e7; refine wpOp_value (v := .pointer (some ⟨Z, 0, none⟩)) (w' := w0) rfl rfl (by go_simp) ?_; exact ⟨frameOf_put rfl, hW⟩
          ·
           have x30 : v 30 = .pointer (some ⟨Z, 0, none⟩) := hv 4 (by kernel_rfl); have E30 := (inn 30 rfl).trans x30; refine wpOp_value (v := .int .i64 (i : Int)) (w' := w0) rfl rfl (by go_simp) ?_; exact ⟨frameOf_put rfl, hW⟩
          ·
           have x29 : v 29 = .slice (some ⟨fb, 0, none⟩) ls.length c := hv 3 (by kernel_rfl); have E29 := (inn 29 rfl).trans x29; have x31 : v 31 = .int .i64 (i : Int) := hv 5 (by kernel_rfl); have E31 := (inn 31 rfl).trans x31; refine wpOp_value (v := .pointer (some ⟨fb, i * 7, none⟩)) (w' := w0) rfl rfl (by go_simp) ?_; exact ⟨frameOf_put rfl, hW⟩
          ·
           have x32 : v 32 = .pointer (some ⟨fb, i * 7, none⟩) := hv 6 (by kernel_rfl); have E32 := (inn 32 rfl).trans x32; refine wpOp_value (v := .agg #[.int .i64 x.nd.kind, .string x.nd.text, .int .i64 x.nd.int, .float .f64 x.nd.flt, .slice a1 x.nd.names.length c1, .slice a2 x.nd.kids.length c2, .int .i64 (x.nd.place : Int)]) (w' := w0) rfl rfl (by go_simp) ?_; exact ⟨frameOf_put rfl, hW⟩
          ·
           have x33 : v 33 = .agg #[.int .i64 x.nd.kind, .string x.nd.text, .int .i64 x.nd.int, .float .f64 x.nd.flt, .slice a1 x.nd.names.length c1, .slice a2 x.nd.kids.length c2, .int .i64 (x.nd.place : Int)] := hv 7 (by kernel_rfl); have E33 := (inn 33 rfl).trans x33; refine wpOp_call (f := 65) (args := #[.agg #[.int .i64 x.nd.kind, .string x.nd.text, .int .i64 x.nd.int, .float .f64 x.nd.flt, .slice a1 x.nd.names.length c1, .slice a2 x.nd.kids.length c2, .int .i64 (x.nd.place : Int)]]) rfl rfl (by go_simp) (prow_any HX.out _ _ _ _ _ _ _) ?_; rintro e w' ⟨rfl, hB'⟩; rw [HRR.out]; exact ⟨_, rfl, frameOf_put rfl, hW.next hB'⟩
          ·
           have E7 : (frameOf a0 (List.range' 26 11) v).tmps[7]?.getD undef = .pointer (some ⟨Z, 0, none⟩) := (frameOf_out' rfl).trans e7; refine wpOp_value (v := .pointer (some ⟨Z, 1, none⟩)) (w' := w0) rfl rfl (by go_simp) ?_; exact ⟨frameOf_put rfl, hW⟩
          ·
           have x35 : v 35 = .pointer (some ⟨Z, 1, none⟩) := hv 9 (by kernel_rfl); have E35 := (inn 35 rfl).trans x35; refine wpOp_value (v := .int .i64 (r : Int)) (w' := w0) rfl rfl (by go_simp) ?_; exact ⟨frameOf_put rfl, hW⟩
        · intro w0 hW
          have h0 := HA.out; subst h0; have hrg : List.range' 26 11 = [26, 27, 28, 29, 30, 31, 32, 33, 34, 35, 36] := rfl; rw [hrg]; clear hrg; simp only [frameOf_cons, frameOf_nil, Act.put, List.setIfInBounds_toArray, List.set_cons_zero, List.set_cons_succ]; refine wpOp_value (v := .bool true) (w' := w0) rfl rfl (by go_simp) ?_; have hBW : Below wr.heap.size wr w0 := hb1.next hW; have hKW : KW g wr w0 := KW.of_below (by omega) hBW; have hwk1 := hwk.keep hBW; have hZ1 : w0.heap[Z]? = some (.cells #[.int .i64 (i : Int), .int .i64 (r : Int)] 86 (0, 0)) := by rw [hW.block Z (block_lt hZb)]; exact hZb
          have hzz := block_lt hZ1; have hg0 : g < w0.heap.size := hwk1.lt; have hgZ : Z ≠ g := by omega
          have htx : (Pt.kid i r t).tx = 40 :: (prX t ++ [41]) := by
           show (if rowN t.kind t.text < r then 40 :: (prX t ++ [41]) else prX t) = _; rw [if_pos (by rw [hrow.out]; exact hrl)]
          have hle := HLE.out; rw [htx] at hle; simp only [List.length_cons, List.length_append, List.length_nil] at hle; have HTX := Lib.hid htx; clear htx
          go_wp2_with fail; refine (HS40.out _ B _ 1 ((hbr.trans (hBW.mono (by omega))).alloc (by have := hbr.size; have := hBW.size; omega) _) (hwk1.alloc _) (pv_new hg0 (by decide) rfl) (by show B.length + 1 ≤ _; omega)).mono ?_; rintro e w3 ⟨rfl, hw3, hk3⟩; have hw3' : WR g (.slice (some ⟨fb, 0, none⟩) ls.length c) (B ++ [40]) w3 := hw3; have hZ3 := hk3.keep Z _ _ _ hgZ (by decide) (block_alloc hZ1 _); have hK3 : KW g wr w3 := (hKW.alloc (by omega) _).trans hk3; have cz3 : w3.cell? ⟨Z, 0, none⟩ = some (.int .i64 (i : Int)) := block_cell hZ3 rfl; have hz3 := block_lt hZ3; clear hw3 hk3 hZ1 hwk1 hKW
          go_wp2_with fail; refine (HND.out w3 (B ++ [40]) (hbr.trans (hK3.below.mono hg)) hw3' (by simp only [List.length_append, List.length_cons, List.length_nil]; omega)).mono ?_; rintro e w4 ⟨rfl, hw4, hk4⟩; have hK4 := hK3.trans hk4; have hg4 : g < w4.heap.size := hw4.lt; have hg4' : g ≤ w4.heap.size := by omega
          clear hk4 hK3 hw3' cz3 hZ3
          go_wp2_with fail; refine (HS41.out _ (B ++ [40] ++ prX t) _ 1 ((hbr.trans (hK4.below.mono hg)).alloc (by have := hbr.size; have := hK4.below.size; omega) _) (hw4.alloc _) (pv_new hg4 (by decide) rfl) (by show (B ++ [40] ++ prX t).length + 1 ≤ _; simp only [List.length_append, List.length_cons, List.length_nil]; omega)).mono ?_; rintro e w5 ⟨rfl, hw5, hk5⟩; have hw5' : WR g (.slice (some ⟨fb, 0, none⟩) ls.length c) (B ++ [40] ++ prX t ++ [41]) w5 := hw5; have hK5 : KW g wr w5 := (hK4.alloc hg4' _).trans hk5; clear hw5 hk5 hK4 hw4
          go_wp2_with fail; go_roundw
          case rel =>
           refine ⟨k + 1, by omega, by go_num, ?_, hkk.trans hK5⟩; rw [HFT.out, ← List.append_assoc, HB.out, HTX.out]; simpa using hw5'
          case measure => simp [intOf]; omega
      · have hrI : ¬ ((rr : Nat) : Int) < (r : Int) := by omega
        go_upto_region 9 with fail
        obtain ⟨Z, hZ⟩ : ∃ Z, wr.heap.size = Z := ⟨_, rfl⟩; rw [hZ]; refine with_world' fun w1 hw1 => ?_
        have hZb : w1.heap[Z]? = some (.cells #[.int .i64 (i : Int), .int .i64 (r : Int)] 86 (0, 0)) := by rw [hw1]; exact block_new _ _ hZ.symm
        have hb1 : Below wr.heap.size wr w1 := by rw [hw1]; (repeat' first | (with_reducible first | exact Below.refl _ _ | assumption | refine below_drewN ?_ _ | refine Below.drew ?_ | refine Below.alloc ?_ ?_ _ | refine Below.setCell ?_ ?_ _) | omega | (simp; done) | (simp; omega))
        have cg : w1.cell? ⟨g, 0, none⟩ = some (.slice (some ⟨fb, 0, none⟩) ls.length c) := cell_keeps hb1 hcg; have cz0 : w1.cell? ⟨Z, 0, none⟩ = some (.int .i64 (i : Int)) := block_cell hZb rfl; have cz1 : w1.cell? ⟨Z, 1, none⟩ = some (.int .i64 (r : Int)) := block_cell hZb rfl; have k0 := cell_keeps hb1 k0; have k1 := cell_keeps hb1 k1; have k2 := cell_keeps hb1 k2; have k3 := cell_keeps hb1 k3; have k4 := cell_keeps hb1 k4; have k5 := cell_keeps hb1 k5; have k6 := cell_keeps hb1 k6; clear hw1; refine with_frame fun a0 ha0 => ?_
        have e0 : a0.eval (.tmp 0) = .pointer (some ⟨g, 0, none⟩) := by rw [ha0]; rfl
        have e7 : a0.eval (.tmp 7) = .pointer (some ⟨Z, 0, none⟩) := by rw [ha0]; rfl
        have hsz : a0.tmps.size = 55 := by rw [ha0]; rfl
        have HA := Lib.hid ha0; clear ha0; have hD : ∀ d, (List.range' 26 11).contains d = true → d < a0.tmps.size := by
         intro d h; rw [hsz]; have hm : d ∈ List.range' 26 11 := by simpa using h
         rw [List.mem_range'_1] at hm; omega
        refine wp_region_tab (by kernel_rfl) 11 26 (fun jj => ([.pointer (some ⟨g, 0, none⟩), .pointer (some ⟨g, 0, none⟩), .pointer (some ⟨g, 0, none⟩), .slice (some ⟨fb, 0, none⟩) ls.length c, .pointer (some ⟨Z, 0, none⟩), .int .i64 (i : Int), .pointer (some ⟨fb, i * 7, none⟩), .agg #[.int .i64 x.nd.kind, .string x.nd.text, .int .i64 x.nd.int, .float .f64 x.nd.flt, .slice a1 x.nd.names.length c1, .slice a2 x.nd.kids.length c2, .int .i64 (x.nd.place : Int)], .int .i64 (rr : Int), .pointer (some ⟨Z, 1, none⟩), .int .i64 (r : Int)] : List Value).getD jj undef) (fun w' => Below w1.heap.size w1 w') rfl (by kernel_rfl) (by kernel_rfl) (by (repeat' first | (with_reducible first | exact Below.refl _ _ | assumption | refine below_drewN ?_ _ | refine Below.drew ?_ | refine Below.alloc ?_ ?_ _ | refine Below.setCell ?_ ?_ _) | omega | (simp; done) | (simp; omega))) ?_ ?_
        · intro i0 hi0 v w0 hW hv
          have cg := cell_keeps hW cg; have cz0 := cell_keeps hW cz0; have cz1 := cell_keeps hW cz1; have k0 := cell_keeps hW k0; have k1 := cell_keeps hW k1; have k2 := cell_keeps hW k2; have k3 := cell_keeps hW k3; have k4 := cell_keeps hW k4; have k5 := cell_keeps hW k5; have k6 := cell_keeps hW k6; have inn : ∀ d, (List.range' 26 11).contains d = true → (frameOf a0 (List.range' 26 11) v).tmps[d]?.getD undef = v d := fun d h => frameOf_in' h (hD d h)
          rcases (by omega : i0 = 0 ∨ i0 = 1 ∨ i0 = 2 ∨ i0 = 3 ∨ i0 = 4 ∨ i0 = 5 ∨ i0 = 6 ∨ i0 = 7 ∨ i0 = 8 ∨ i0 = 9 ∨ i0 = 10) with rfl | rfl | rfl | rfl | rfl | rfl | rfl | rfl | rfl | rfl | rfl
          ·
           have E0 : (frameOf a0 (List.range' 26 11) v).tmps[0]?.getD undef = .pointer (some ⟨g, 0, none⟩) := (frameOf_out' rfl).trans e0; refine wpOp_value (v := .pointer (some ⟨g, 0, none⟩)) (w' := w0) rfl rfl (by go_simp) ?_; exact ⟨frameOf_put rfl, hW⟩
          ·
           have x26 : v 26 = .pointer (some ⟨g, 0, none⟩) := hv 0 (by kernel_rfl); have E26 := (inn 26 rfl).trans x26; refine wpOp_value (v := .pointer (some ⟨g, 0, none⟩)) (w' := w0) rfl rfl (by go_simp) ?_; exact ⟨frameOf_put rfl, hW⟩
          ·
           have x27 : v 27 = .pointer (some ⟨g, 0, none⟩) := hv 1 (by kernel_rfl); have E27 := (inn 27 rfl).trans x27; refine wpOp_value (v := .pointer (some ⟨g, 0, none⟩)) (w' := w0) rfl rfl (by go_simp) ?_; exact ⟨frameOf_put rfl, hW⟩
          ·
           have x28 : v 28 = .pointer (some ⟨g, 0, none⟩) := hv 2 (by kernel_rfl); have E28 := (inn 28 rfl).trans x28; refine wpOp_value (v := .slice (some ⟨fb, 0, none⟩) ls.length c) (w' := w0) rfl rfl (by go_simp) ?_; exact ⟨frameOf_put rfl, hW⟩
          ·
           have E7 : (frameOf a0 (List.range' 26 11) v).tmps[7]?.getD undef = .pointer (some ⟨Z, 0, none⟩) := (frameOf_out' rfl).trans e7; refine wpOp_value (v := .pointer (some ⟨Z, 0, none⟩)) (w' := w0) rfl rfl (by go_simp) ?_; exact ⟨frameOf_put rfl, hW⟩
          ·
           have x30 : v 30 = .pointer (some ⟨Z, 0, none⟩) := hv 4 (by kernel_rfl); have E30 := (inn 30 rfl).trans x30; refine wpOp_value (v := .int .i64 (i : Int)) (w' := w0) rfl rfl (by go_simp) ?_; exact ⟨frameOf_put rfl, hW⟩
          ·
           have x29 : v 29 = .slice (some ⟨fb, 0, none⟩) ls.length c := hv 3 (by kernel_rfl); have E29 := (inn 29 rfl).trans x29; have x31 : v 31 = .int .i64 (i : Int) := hv 5 (by kernel_rfl); have E31 := (inn 31 rfl).trans x31; refine wpOp_value (v := .pointer (some ⟨fb, i * 7, none⟩)) (w' := w0) rfl rfl (by go_simp) ?_; exact ⟨frameOf_put rfl, hW⟩
          ·
           have x32 : v 32 = .pointer (some ⟨fb, i * 7, none⟩) := hv 6 (by kernel_rfl); have E32 := (inn 32 rfl).trans x32; refine wpOp_value (v := .agg #[.int .i64 x.nd.kind, .string x.nd.text, .int .i64 x.nd.int, .float .f64 x.nd.flt, .slice a1 x.nd.names.length c1, .slice a2 x.nd.kids.length c2, .int .i64 (x.nd.place : Int)]) (w' := w0) rfl rfl (by go_simp) ?_; exact ⟨frameOf_put rfl, hW⟩
          ·
           have x33 : v 33 = .agg #[.int .i64 x.nd.kind, .string x.nd.text, .int .i64 x.nd.int, .float .f64 x.nd.flt, .slice a1 x.nd.names.length c1, .slice a2 x.nd.kids.length c2, .int .i64 (x.nd.place : Int)] := hv 7 (by kernel_rfl); have E33 := (inn 33 rfl).trans x33; refine wpOp_call (f := 65) (args := #[.agg #[.int .i64 x.nd.kind, .string x.nd.text, .int .i64 x.nd.int, .float .f64 x.nd.flt, .slice a1 x.nd.names.length c1, .slice a2 x.nd.kids.length c2, .int .i64 (x.nd.place : Int)]]) rfl rfl (by go_simp) (prow_any HX.out _ _ _ _ _ _ _) ?_; rintro e w' ⟨rfl, hB'⟩; rw [HRR.out]; exact ⟨_, rfl, frameOf_put rfl, hW.next hB'⟩
          ·
           have E7 : (frameOf a0 (List.range' 26 11) v).tmps[7]?.getD undef = .pointer (some ⟨Z, 0, none⟩) := (frameOf_out' rfl).trans e7; refine wpOp_value (v := .pointer (some ⟨Z, 1, none⟩)) (w' := w0) rfl rfl (by go_simp) ?_; exact ⟨frameOf_put rfl, hW⟩
          ·
           have x35 : v 35 = .pointer (some ⟨Z, 1, none⟩) := hv 9 (by kernel_rfl); have E35 := (inn 35 rfl).trans x35; refine wpOp_value (v := .int .i64 (r : Int)) (w' := w0) rfl rfl (by go_simp) ?_; exact ⟨frameOf_put rfl, hW⟩
        · intro w0 hW
          have h0 := HA.out; subst h0; have hrg : List.range' 26 11 = [26, 27, 28, 29, 30, 31, 32, 33, 34, 35, 36] := rfl; rw [hrg]; clear hrg; simp only [frameOf_cons, frameOf_nil, Act.put, List.setIfInBounds_toArray, List.set_cons_zero, List.set_cons_succ]; refine wpOp_value (v := .bool false) (w' := w0) rfl rfl (by go_simp) ?_; have hBW : Below wr.heap.size wr w0 := hb1.next hW; have hKW : KW g wr w0 := KW.of_below (by omega) hBW; have hwk1 := hwk.keep hBW; have cz3 : w0.cell? ⟨Z, 0, none⟩ = some (.int .i64 (i : Int)) := cell_keeps hW cz0; have htx : (Pt.kid i r t).tx = prX t := by
           show (if rowN t.kind t.text < r then 40 :: (prX t ++ [41]) else prX t) = _; rw [if_neg (by rw [hrow.out]; exact hrl)]
          have hle := HLE.out; rw [htx] at hle; have HTX := Lib.hid htx; clear htx
          go_wp2_with fail; refine (HND.out w0 B (hbr.trans (hKW.below.mono hg)) hwk1 hle).mono ?_; rintro e w4 ⟨rfl, hw4, hk4⟩; have hK4 := hKW.trans hk4; clear hk4 hKW hwk1 cz3
          go_wp2_with fail; go_roundw
          case rel =>
           refine ⟨k + 1, by omega, by go_num, ?_, hkk.trans hK4⟩; rw [HFT.out, ← List.append_assoc, HB.out, HTX.out]; exact hw4
          case measure => simp [intOf]; omega
  · obtain rfl : k = m := by omega
    go_wp2_with fail; go_end0; refine ⟨rfl, ?_, hkk⟩
    have := HM.out; rw [List.take_of_length_le (by omega)] at hwk; exact hwk
end Go.Proofs.YtkoghgnjjfnamaaGreatDoor
