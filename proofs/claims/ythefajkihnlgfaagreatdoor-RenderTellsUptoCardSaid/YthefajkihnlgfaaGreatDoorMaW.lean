/- render.Manifest: the walk. -/
import Derived.Test.YthefajkihnlgfaaGreatDoorM40
import Derived.Test.YthefajkihnlgfaaGreatDoorM22
import Derived.Test.YthefajkihnlgfaaGreatDoorM34
import Derived.Test.YthefajkihnlgfaaGreatDoorM32
namespace Go.Proofs.YthefajkihnlgfaaGreatDoor
open Go.RowKit Go.Shelf
set_option linter.unusedSimpArgs false
set_option linter.unusedVariables false
attribute [local go_sem] store_flt
set_option maxHeartbeats 8000000 in
set_option maxRecDepth 100000 in
theorem man_any {B0 d : Nat} {v0 v1 v2 v3 : Value} {c : Cf} {w : World} (hG : RG B0 w) (h : CV d w v0 v1 v2 v3 c) (hlen : (manT d c).length ≤ 140000000000000) :
    Calls Tryz.prog 9 #[.agg #[v0, v1, v2, v3]] w fun e w' => e = .returned (.string ⟨(manT d c).toArray⟩) ∧ Below w.heap.size w w' := by
  obtain ⟨ss, fs, us, un⟩ := c
  have HT : Hid (manT d ⟨ss, fs, us, un⟩ = pre (manS d) ss ss.length ++ pre manF fs fs.length ++ pre manU us us.length ++ pre manN un un.length) := Lib.hid rfl
  rw [HT.out] at hlen
  simp only [List.length_append] at hlen
  generalize manT d ⟨ss, fs, us, un⟩ = R at *
  have hst : StL d w v0 ss := h.st
  have hfi : PL w v1 fs := h.fi
  have hus : SL w v2 us := h.us
  have hun : UL w v3 un := h.un
  obtain ⟨sa, sk, rfl, hps⟩ := hst
  obtain ⟨fa, fk, rfl, hpf⟩ := hfi
  obtain ⟨ua, uk, rfl, _, huz, hpu⟩ := hus
  obtain ⟨na, nk, rfl, hnz, hpn⟩ := hun
  have HS := Lib.hid hps
  have HF := Lib.hid hpf
  have HU := Lib.hid hpu
  have HN := Lib.hid hpn
  have HUZ : Hid (∀ s, s ∈ us → s.size ≤ 1048576) := Lib.hid h.usz
  have HNZ : Hid (∀ u, u ∈ un → u.name.size ≤ 1048576) := Lib.hid h.unz
  have HGG := Lib.hid hG
  have hl : ss.length ≤ 1048576 ∧ fs.length ≤ 1048576 ∧ us.length ≤ 1048576 ∧ un.length ≤ 1048576 := h.len
  obtain ⟨hl1, hl2, hl3, hl4⟩ := hl
  clear h hps hpf hpu hpn hG
  obtain ⟨n1, hn1⟩ : ∃ n, ss.length = n := ⟨_, rfl⟩
  obtain ⟨n2, hn2⟩ : ∃ n, fs.length = n := ⟨_, rfl⟩
  obtain ⟨n3, hn3⟩ : ∃ n, us.length = n := ⟨_, rfl⟩
  obtain ⟨n4, hn4⟩ : ∃ n, un.length = n := ⟨_, rfl⟩
  rw [hn1] at HT hlen hl1 ⊢
  rw [hn2] at HT hlen hl2 ⊢
  rw [hn3] at HT hlen hl3 huz ⊢
  rw [hn4] at HT hlen hl4 hnz ⊢
  have HN1 := Lib.hid hn1
  have HN2 := Lib.hid hn2
  have HN3 := Lib.hid hn3
  have HN4 := Lib.hid hn4
  have HLEN := Lib.hid hlen
  clear hn1 hn2 hn3 hn4 hlen
  have hI0 : IB (w.heap.size + 1) [] ((w.alloc (.cells #[.slice sa n1 sk, .slice fa n2 fk, .slice ua n3 uk, .slice na n4 nk] 27 (0, 0))).alloc (.cells #[.pointer none, .slice none 0 0] 54 (0, 0))) := by
    have := Lib.fresh_isBuilder 54 5 (w.alloc (.cells #[.slice sa n1 sk, .slice fa n2 fk, .slice ua n3 uk, .slice na n4 nk] 27 (0, 0)))
    simpa [IB, Lib.byteCells] using this
  have HI0 := Lib.hid hI0
  clear hI0
  go_enter Tryz.func9, Tryz.ntmps9
  go_wp2_with fail
  go_loopw [5, 15] (fun _ i wr => ∃ k : Nat, k ≤ n1 ∧ i = .int .i64 (k : Int) ∧ Hid (IB (w.heap.size + 1) (pre (manS d) ss k) wr) ∧ wr.heap[w.heap.size]? = some (.cells #[.slice sa n1 sk, .slice fa n2 fk, .slice ua n3 uk, .slice na n4 nk] 27 (0, 0)) ∧ Below w.heap.size w wr) (fun _ i _ => n1 - (intOf i).toNat)
  case atStart => exact ⟨0, Nat.zero_le _, rfl, HI0, block_alloc (block_new _ _ rfl) _, (by (repeat' (first | (with_reducible exact Below.refl _ _) | (with_reducible assumption) | (with_reducible refine below_drewN ?_ _) | (with_reducible refine Below.drew ?_) | (with_reducible refine Below.alloc ?_ ?_ _) | (with_reducible refine Below.setCell ?_ ?_ _) | omega | (simp; done) | (simp; omega))))⟩
  case round =>
    obtain ⟨k, hk, rfl, HIB, hcf, hb⟩ := hrel
    have hgl := HIB.out.lt
    by_cases hlt : k < n1
    · have hltI : (k : Int) < (n1 : Int) := by omega
      obtain ⟨s, hs⟩ := get_lt ss (k := k) (by have := HN1.out; omega)
      obtain ⟨hz1, hnum, hsh, b, off, r, f, rfl, k0, k1, k2, k3, k4, k5, k6, hv⟩ := HS.out k s hs
      have k0 := cell_keeps hb k0
      have k1 := cell_keeps hb k1
      have k2 := cell_keeps hb k2
      have k3 := cell_keeps hb k3
      have k4 := cell_keeps hb k4
      have k5 := cell_keeps hb k5
      have k6 := cell_keeps hb k6
      have HST := Lib.hid (pre_succ (f := manS d) hs)
      have hle := pre_le (f := manS d) (n := n1) hs hlt
      have hms : (manS d s).length = s.1.size + 3 + (shT d s.2).length + 1 := by
        unfold manS
        simp only [List.length_append, List.length_cons, List.length_nil]
        rw [show s.1.data.toList.length = s.1.size from Array.length_toList]
      have hll := HLEN.out
      obtain ⟨SH, hSH⟩ : ∃ SH : ByteArray, ⟨(shT d s.2).toArray⟩ = SH := ⟨_, rfl⟩
      have hSz : SH.size = (shT d s.2).length := by rw [← hSH, ba_len]
      have HSD : Hid (SH.data.toList = shT d s.2) := Lib.hid (by rw [← hSH])
      have HSH0 := Lib.hid (fun W (hW : Below w.heap.size w W) => Show_any (HGG.out.below hW) (hv.keeps hW) hnum (by omega))
      rw [hSH] at HSH0
      obtain ⟨ra1, rc1, fa1, fc1, rfl, rfl, _, _⟩ := hv.shape
      clear hs hv hnum hSH
      go_upto_region 5 with fail
      refine with_world fun we hwe => ?_
      have hbx : we.heap[wr.heap.size]? = some (.cells #[.string s.1, .int .i64 s.2.kind, .int .i64 s.2.int, .float .f64 s.2.flt, .string s.2.text, .slice ra1 s.2.names.length rc1, .slice fa1 s.2.items.length fc1] 49 (0, 0)) := by
        rw [hwe]
        exact block_new _ _ rfl
      have hBe : Below wr.heap.size wr we := by rw [hwe]; (repeat' (first | (with_reducible exact Below.refl _ _) | (with_reducible assumption) | (with_reducible refine below_drewN ?_ _) | (with_reducible refine Below.drew ?_) | (with_reducible refine Below.alloc ?_ ?_ _) | (with_reducible refine Below.setCell ?_ ?_ _) | omega | (simp; done) | (simp; omega)))
      have x0 := block_cell (i := 0) hbx rfl
      have x1 := block_cell (i := 1) hbx rfl
      have x2 := block_cell (i := 2) hbx rfl
      have x3 := block_cell (i := 3) hbx rfl
      have x4 := block_cell (i := 4) hbx rfl
      have x5 := block_cell (i := 5) hbx rfl
      have x6 := block_cell (i := 6) hbx rfl
      have HBE := Lib.hid hBe
      have HSH := Lib.hid (fun W (hW : Below we.heap.size we W) => HSH0.out W (hb.next (hBe.trans (hW.mono hBe.size))))
      have hPs : (((s.1 ++ ⟨#[32, 61, 32]⟩) ++ SH) ++ ⟨#[10]⟩ : ByteArray).size = s.1.size + 3 + SH.size + 1 := by
        rw [ByteArray.size_append, ByteArray.size_append, ByteArray.size_append]
        rfl
      have HWS := Lib.hid (fun W (hW : Below we.heap.size we W) => ws_any (HIB.out.below (hBe.trans (hW.mono hBe.size))) (((s.1 ++ ⟨#[32, 61, 32]⟩) ++ SH) ++ ⟨#[10]⟩) (by rw [hPs]; omega))
      have y1 : (⟨#[32, 61, 32]⟩ : ByteArray).size = 3 := rfl
      have y2 : (⟨#[10]⟩ : ByteArray).size = 1 := rfl
      clear hwe hbx hBe k0 k1 k2 k3 k4 k5 k6 HSH0 hPs hll hle hms
      refine with_frame fun a0 ha0 => ?_
      have e3 : a0.eval (.tmp 3) = .pointer (some ⟨w.heap.size + 1, 0, none⟩) := by rw [ha0]; rfl
      have e5 : a0.eval (.tmp 5) = .pointer (some ⟨wr.heap.size, 0, none⟩) := by rw [ha0]; rfl
      have hsz : a0.tmps.size = 68 := by rw [ha0]; rfl
      have HA := Lib.hid ha0
      clear ha0
      have hD : ∀ d, (List.range' 19 8).contains d = true → d < a0.tmps.size := by
        intro d h
        rw [hsz]
        have hm : d ∈ List.range' 19 8 := by simpa using h
        rw [List.mem_range'_1] at hm
        omega
      refine wp_region_tab (by kernel_rfl) 8 19 (fun jj => ([.pointer (some ⟨wr.heap.size, 0, none⟩), .string s.1, .string (s.1 ++ ⟨#[32, 61, 32]⟩), .pointer (some ⟨wr.heap.size, 1, none⟩), .agg #[.int .i64 s.2.kind, .int .i64 s.2.int, .float .f64 s.2.flt, .string s.2.text, .slice ra1 s.2.names.length rc1, .slice fa1 s.2.items.length fc1], .string SH, .string ((s.1 ++ ⟨#[32, 61, 32]⟩) ++ SH), .string (((s.1 ++ ⟨#[32, 61, 32]⟩) ++ SH) ++ ⟨#[10]⟩)] : List Value).getD jj undef) (fun w' => Below we.heap.size we w') rfl (by kernel_rfl) (by kernel_rfl) (by (repeat' (first | (with_reducible exact Below.refl _ _) | (with_reducible assumption) | (with_reducible refine below_drewN ?_ _) | (with_reducible refine Below.drew ?_) | (with_reducible refine Below.alloc ?_ ?_ _) | (with_reducible refine Below.setCell ?_ ?_ _) | omega | (simp; done) | (simp; omega)))) ?_ ?_
      · intro i0 hi0 v w0 hW hv
        have x0 := cell_keeps hW x0
        have x1 := cell_keeps hW x1
        have x2 := cell_keeps hW x2
        have x3 := cell_keeps hW x3
        have x4 := cell_keeps hW x4
        have x5 := cell_keeps hW x5
        have x6 := cell_keeps hW x6
        have inn : ∀ d, (List.range' 19 8).contains d = true → (frameOf a0 (List.range' 19 8) v).tmps[d]?.getD undef = v d := fun d h => frameOf_in' h (hD d h)
        rcases (by omega : i0 = 0 ∨ i0 = 1 ∨ i0 = 2 ∨ i0 = 3 ∨ i0 = 4 ∨ i0 = 5 ∨ i0 = 6 ∨ i0 = 7) with rfl | rfl | rfl | rfl | rfl | rfl | rfl | rfl
        · -- operation 0
          have E5 : (frameOf a0 (List.range' 19 8) v).tmps[5]?.getD undef = .pointer (some ⟨wr.heap.size, 0, none⟩) := (frameOf_out' rfl).trans e5
          refine wpOp_value (v := .pointer (some ⟨wr.heap.size, 0, none⟩)) (w' := w0) rfl rfl (by go_simp) ?_
          exact ⟨frameOf_put rfl, hW⟩
        · -- operation 1
          have x19 : v 19 = .pointer (some ⟨wr.heap.size, 0, none⟩) := hv 0 (by kernel_rfl)
          have E19 := (inn 19 rfl).trans x19
          refine wpOp_value (v := .string s.1) (w' := w0) rfl rfl (by go_simp) ?_
          exact ⟨frameOf_put rfl, hW⟩
        · -- operation 2
          have x20 : v 20 = .string s.1 := hv 1 (by kernel_rfl)
          have E20 := (inn 20 rfl).trans x20
          refine wpOp_value (v := .string (s.1 ++ ⟨#[32, 61, 32]⟩)) (w' := w0) rfl rfl (by go_simp; omega) ?_
          exact ⟨frameOf_put rfl, hW⟩
        · -- operation 3
          have E5 : (frameOf a0 (List.range' 19 8) v).tmps[5]?.getD undef = .pointer (some ⟨wr.heap.size, 0, none⟩) := (frameOf_out' rfl).trans e5
          refine wpOp_value (v := .pointer (some ⟨wr.heap.size, 1, none⟩)) (w' := w0) rfl rfl (by go_simp) ?_
          exact ⟨frameOf_put rfl, hW⟩
        · -- operation 4
          have x22 : v 22 = .pointer (some ⟨wr.heap.size, 1, none⟩) := hv 3 (by kernel_rfl)
          have E22 := (inn 22 rfl).trans x22
          refine wpOp_value (v := .agg #[.int .i64 s.2.kind, .int .i64 s.2.int, .float .f64 s.2.flt, .string s.2.text, .slice ra1 s.2.names.length rc1, .slice fa1 s.2.items.length fc1]) (w' := w0) rfl rfl (by go_simp) ?_
          exact ⟨frameOf_put rfl, hW⟩
        · -- operation 5
          have x23 : v 23 = .agg #[.int .i64 s.2.kind, .int .i64 s.2.int, .float .f64 s.2.flt, .string s.2.text, .slice ra1 s.2.names.length rc1, .slice fa1 s.2.items.length fc1] := hv 4 (by kernel_rfl)
          have E23 := (inn 23 rfl).trans x23
          refine wpOp_call (f := 15) rfl rfl (by go_simp) (HSH.out w0 hW) ?_
          rintro e w' ⟨rfl, hb'⟩
          exact ⟨_, rfl, frameOf_put rfl, hW.next hb'⟩
        · -- operation 6
          have x21 : v 21 = .string (s.1 ++ ⟨#[32, 61, 32]⟩) := hv 2 (by kernel_rfl)
          have E21 := (inn 21 rfl).trans x21
          have x24 : v 24 = .string SH := hv 5 (by kernel_rfl)
          have E24 := (inn 24 rfl).trans x24
          refine wpOp_value (v := .string ((s.1 ++ ⟨#[32, 61, 32]⟩) ++ SH)) (w' := w0) rfl rfl (by go_simp; omega) ?_
          exact ⟨frameOf_put rfl, hW⟩
        · -- operation 7
          have x25 : v 25 = .string ((s.1 ++ ⟨#[32, 61, 32]⟩) ++ SH) := hv 6 (by kernel_rfl)
          have E25 := (inn 25 rfl).trans x25
          refine wpOp_value (v := .string (((s.1 ++ ⟨#[32, 61, 32]⟩) ++ SH) ++ ⟨#[10]⟩)) (w' := w0) rfl rfl (by go_simp; omega) ?_
          exact ⟨frameOf_put rfl, hW⟩
      · intro w0 hW
        have h0 := HA.out
        subst h0
        have hrg : List.range' 19 8 = [19, 20, 21, 22, 23, 24, 25, 26] := rfl
        rw [hrg]
        clear hrg
        simp only [frameOf_cons, frameOf_nil, Act.put, List.setIfInBounds_toArray, List.set_cons_zero, List.set_cons_succ]
        refine wpOp_call (f := 14) rfl rfl (by go_simp) (HWS.out w0 hW) ?_
        rintro e w2 ⟨⟨v2, rfl⟩, hI2, hk2⟩
        refine ⟨v2, rfl, ?_⟩
        go_wp2_with fail
        go_roundw
        case rel =>
          have hw2 : Below w.heap.size w w2 := (hb.next (HBE.out.trans (hW.mono HBE.out.size))).trans (hk2.below.mono (by omega))
          refine ⟨k + 1, by omega, by go_num, Lib.hid ?_, ?_, hw2⟩
          · rw [HST.out]
            have e : ((s.1 ++ ⟨#[32, 61, 32]⟩ ++ SH) ++ ⟨#[10]⟩ : ByteArray).data.toList = manS d s := by
              unfold manS
              rw [nw_app, nw_app, nw_app, HSD.out]
            rw [← e]
            exact hI2
          · have h5 := block_below (block_below hcf HBE.out) hW
            exact (hk2.below.block w.heap.size (by omega)).trans h5
        case measure => simp [intOf]; omega
    · have hltI : ¬ ((k : Int) < (n1 : Int)) := by omega
      have hkn : k = n1 := by omega
      rw [hkn] at HIB
      clear hkn hlt
      have c1 := block_cell (i := 1) hcf rfl
      go_wp2_with fail
      go_loopw [7, 32] (fun _ i wr => ∃ k2 : Nat, k2 ≤ n2 ∧ i = .int .i64 (k2 : Int) ∧ Hid (IB (w.heap.size + 1) (pre (manS d) ss n1 ++ pre manF fs k2) wr) ∧ wr.heap[w.heap.size]? = some (.cells #[.slice sa n1 sk, .slice fa n2 fk, .slice ua n3 uk, .slice na n4 nk] 27 (0, 0)) ∧ Below w.heap.size w wr) (fun _ i _ => n2 - (intOf i).toNat)
      case atStart => exact ⟨0, Nat.zero_le _, rfl, Lib.hid (by rw [pre_zero, List.append_nil]; exact HIB.out), hcf, hb⟩
      case round =>
        clear HIB hcf hb c1 hgl hltI hk
        obtain ⟨k2, hk, rfl, HIB, hcf, hb⟩ := hrel
        have hgl := HIB.out.lt
        by_cases hlt : k2 < n2
        · have hltI : (k2 : Int) < (n2 : Int) := by omega
          obtain ⟨p, hp⟩ := get_lt fs (k := k2) (by have := HN2.out; omega)
          obtain ⟨hz1, hz2, b, off, rfl, j0, j1⟩ := HF.out k2 p hp
          have j0 := cell_keeps hb j0
          have j1 := cell_keeps hb j1
          have HST := Lib.hid (pre_succ (f := manF) hp)
          have hle := pre_le (f := manF) (n := n2) hp hlt
          have hms : (manF p).length = 5 + p.1.size + 1 := by
            unfold manF
            simp only [List.length_append, List.length_cons, List.length_nil]
            rw [show p.1.data.toList.length = p.1.size from Array.length_toList]
          have hll := HLEN.out
          have hPs : ((⟨#[102, 105, 108, 101, 32]⟩ ++ p.1) ++ ⟨#[10]⟩ : ByteArray).size = 5 + p.1.size + 1 := by
            rw [ByteArray.size_append, ByteArray.size_append]
            rfl
          have HWS := Lib.hid (fun W (hW : Below wr.heap.size wr W) => ws_any (HIB.out.below hW) ((⟨#[102, 105, 108, 101, 32]⟩ ++ p.1) ++ ⟨#[10]⟩) (by rw [hPs]; simp only [List.length_append]; omega))
          have y1 : (⟨#[102, 105, 108, 101, 32]⟩ : ByteArray).size = 5 := rfl
          have y2 : (⟨#[10]⟩ : ByteArray).size = 1 := rfl
          clear hp hPs hll hle hms
          go_wp2_with fail
          refine (HWS.out _ ((Below.refl _ _).alloc (Nat.le_refl _) _)).mono ?_
          rintro e w2 ⟨⟨v2, rfl⟩, hI2, hk2⟩
          have hw2 : Below w.heap.size w w2 := (hb.next ((Below.refl _ _).alloc (Nat.le_refl _) _)).trans (hk2.below.mono (by omega))
          have hc2 := (hk2.below.block w.heap.size (by omega)).trans (block_below hcf ((Below.refl _ _).alloc (Nat.le_refl _) _))
          go_wp2_with fail
          go_roundw
          case rel =>
            refine ⟨k2 + 1, by omega, by go_num, Lib.hid ?_, hc2, hw2⟩
            rw [HST.out, ← List.append_assoc]
            have e : ((⟨#[102, 105, 108, 101, 32]⟩ ++ p.1) ++ ⟨#[10]⟩ : ByteArray).data.toList = manF p := by
              unfold manF
              rw [nw_app, nw_app]
            rw [← e]
            exact hI2
          case measure => simp [intOf]; omega
        · have hltI : ¬ ((k2 : Int) < (n2 : Int)) := by omega
          have hkn : k2 = n2 := by omega
          rw [hkn] at HIB
          clear hkn hlt
          have c2 := block_cell (i := 2) hcf rfl
          go_wp2_with fail
          go_loopw [9, 45] (fun _ i wr => ∃ k3 : Nat, k3 ≤ n3 ∧ i = .int .i64 (k3 : Int) ∧ Hid (IB (w.heap.size + 1) (pre (manS d) ss n1 ++ pre manF fs n2 ++ pre manU us k3) wr) ∧ wr.heap[w.heap.size]? = some (.cells #[.slice sa n1 sk, .slice fa n2 fk, .slice ua n3 uk, .slice na n4 nk] 27 (0, 0)) ∧ Below w.heap.size w wr) (fun _ i _ => n3 - (intOf i).toNat)
          case atStart => exact ⟨0, Nat.zero_le _, rfl, Lib.hid (by rw [pre_zero, List.append_nil]; exact HIB.out), hcf, hb⟩
          case round =>
            clear HIB hcf hb c2 hgl hltI hk
            obtain ⟨k3, hk, rfl, HIB, hcf, hb⟩ := hrel
            have hgl := HIB.out.lt
            by_cases hlt : k3 < n3
            · have hltI : (k3 : Int) < (n3 : Int) := by omega
              obtain ⟨p, hp⟩ := get_lt us (k := k3) (by have := HN3.out; omega)
              obtain ⟨b, off, rfl, j0, _, _⟩ := HU.out k3 p hp
              have hz1 := HUZ.out p (List.mem_of_getElem? hp)
              have j0 := cell_keeps hb j0
              have HST := Lib.hid (pre_succ (f := manU) hp)
              have hle := pre_le (f := manU) (n := n3) hp hlt
              have hms : (manU p).length = 5 + p.size + 1 := by
                unfold manU
                simp only [List.length_append, List.length_cons, List.length_nil]
                rw [show p.data.toList.length = p.size from Array.length_toList]
              have hll := HLEN.out
              have hPs : ((⟨#[117, 115, 101, 114, 32]⟩ ++ p) ++ ⟨#[10]⟩ : ByteArray).size = 5 + p.size + 1 := by
                rw [ByteArray.size_append, ByteArray.size_append]
                rfl
              have HWS := Lib.hid (fun W (hW : Below wr.heap.size wr W) => ws_any (HIB.out.below hW) ((⟨#[117, 115, 101, 114, 32]⟩ ++ p) ++ ⟨#[10]⟩) (by rw [hPs]; simp only [List.length_append]; omega))
              have y1 : (⟨#[117, 115, 101, 114, 32]⟩ : ByteArray).size = 5 := rfl
              have y2 : (⟨#[10]⟩ : ByteArray).size = 1 := rfl
              clear hp hPs hll hle hms
              go_wp2_with fail
              refine (HWS.out _ (Below.refl _ _)).mono ?_
              rintro e w2 ⟨⟨v2, rfl⟩, hI2, hk2⟩
              have hw2 : Below w.heap.size w w2 := (hb.next (Below.refl _ _)).trans (hk2.below.mono (by omega))
              have hc2 := (hk2.below.block w.heap.size (by omega)).trans (block_below hcf (Below.refl _ _))
              go_wp2_with fail
              go_roundw
              case rel =>
                refine ⟨k3 + 1, by omega, by go_num, Lib.hid ?_, hc2, hw2⟩
                rw [HST.out, ← List.append_assoc]
                have e : ((⟨#[117, 115, 101, 114, 32]⟩ ++ p) ++ ⟨#[10]⟩ : ByteArray).data.toList = manU p := by
                  unfold manU
                  rw [nw_app, nw_app]
                rw [← e]
                exact hI2
              case measure => simp [intOf]; omega
            · have hltI : ¬ ((k3 : Int) < (n3 : Int)) := by omega
              have hkn : k3 = n3 := by omega
              rw [hkn] at HIB
              clear hkn hlt
              have c3 := block_cell (i := 3) hcf rfl
              go_wp2_with fail
              go_loopw [11, 57] (fun _ i wr => ∃ k4 : Nat, k4 ≤ n4 ∧ i = .int .i64 (k4 : Int) ∧ Hid (IB (w.heap.size + 1) (pre (manS d) ss n1 ++ pre manF fs n2 ++ pre manU us n3 ++ pre manN un k4) wr) ∧ wr.heap[w.heap.size]? = some (.cells #[.slice sa n1 sk, .slice fa n2 fk, .slice ua n3 uk, .slice na n4 nk] 27 (0, 0)) ∧ Below w.heap.size w wr) (fun _ i _ => n4 - (intOf i).toNat)
              case atStart => exact ⟨0, Nat.zero_le _, rfl, Lib.hid (by rw [pre_zero, List.append_nil]; exact HIB.out), hcf, hb⟩
              case round =>
                clear HIB hcf hb c3 hgl hltI hk
                obtain ⟨k4, hk, rfl, HIB, hcf, hb⟩ := hrel
                have hgl := HIB.out.lt
                by_cases hlt : k4 < n4
                · have hltI : (k4 : Int) < (n4 : Int) := by omega
                  obtain ⟨p, hp⟩ := get_lt un (k := k4) (by have := HN4.out; omega)
                  obtain ⟨b, off, rfl, hucp, _⟩ := HN.out k4 p hp
                  obtain ⟨j0, j1, _, _, r, f, j2, j3, hsr, hsf⟩ := hucp
                  obtain ⟨rb, rc, rfl, _⟩ := hsr
                  obtain ⟨fb, fc, rfl, _⟩ := hsf
                  have hz1 := HNZ.out p (List.mem_of_getElem? hp)
                  have j0 := cell_keeps hb j0
                  have j1 := cell_keeps hb j1
                  have j2 := cell_keeps hb j2
                  have j3 := cell_keeps hb j3
                  have HST := Lib.hid (pre_succ (f := manN) hp)
                  have hle := pre_le (f := manN) (n := n4) hp hlt
                  have hms : (manN p).length = 5 + p.name.size + 1 := by
                    unfold manN
                    simp only [List.length_append, List.length_cons, List.length_nil]
                    rw [show p.name.data.toList.length = p.name.size from Array.length_toList]
                  have hll := HLEN.out
                  have hPs : ((⟨#[117, 110, 105, 116, 32]⟩ ++ p.name) ++ ⟨#[10]⟩ : ByteArray).size = 5 + p.name.size + 1 := by
                    rw [ByteArray.size_append, ByteArray.size_append]
                    rfl
                  have HWS := Lib.hid (fun W (hW : Below wr.heap.size wr W) => ws_any (HIB.out.below hW) ((⟨#[117, 110, 105, 116, 32]⟩ ++ p.name) ++ ⟨#[10]⟩) (by rw [hPs]; simp only [List.length_append]; omega))
                  have y1 : (⟨#[117, 110, 105, 116, 32]⟩ : ByteArray).size = 5 := rfl
                  have y2 : (⟨#[10]⟩ : ByteArray).size = 1 := rfl
                  clear hp hPs hll hle hms
                  go_wp2_with fail
                  refine (HWS.out _ ((Below.refl _ _).alloc (Nat.le_refl _) _)).mono ?_
                  rintro e w2 ⟨⟨v2, rfl⟩, hI2, hk2⟩
                  have hw2 : Below w.heap.size w w2 := (hb.next ((Below.refl _ _).alloc (Nat.le_refl _) _)).trans (hk2.below.mono (by omega))
                  have hc2 := (hk2.below.block w.heap.size (by omega)).trans (block_below hcf ((Below.refl _ _).alloc (Nat.le_refl _) _))
                  go_wp2_with fail
                  go_roundw
                  case rel =>
                    refine ⟨k4 + 1, by omega, by go_num, Lib.hid ?_, hc2, hw2⟩
                    rw [HST.out, ← List.append_assoc]
                    have e : ((⟨#[117, 110, 105, 116, 32]⟩ ++ p.name) ++ ⟨#[10]⟩ : ByteArray).data.toList = manN p := by
                      unfold manN
                      rw [nw_app, nw_app]
                    rw [← e]
                    exact hI2
                  case measure => simp [intOf]; omega
                · have hltI : ¬ ((k4 : Int) < (n4 : Int)) := by omega
                  have hkn : k4 = n4 := by omega
                  rw [hkn] at HIB
                  clear hkn hlt
                  have hIR : IB (w.heap.size + 1) R wr := by
                    rw [HT.out]
                    exact HIB.out
                  go_wp2_with fail
                  refine (Tryz.Builder_String_any (w.heap.size + 1) (w.heap.size + 1) R wr hIR (Nat.le_of_lt hgl)).mono ?_
                  rintro e w3 ⟨rfl, hb3⟩
                  go_wp2_with fail
                  go_ret
                  exact ⟨rfl, hb.trans (hb3.mono (by omega))⟩
end Go.Proofs.YthefajkihnlgfaaGreatDoor

