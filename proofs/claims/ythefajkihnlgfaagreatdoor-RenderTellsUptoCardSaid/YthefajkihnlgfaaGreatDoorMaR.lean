/- bootjackref19.Manifest: the walk. -/
import Derived.Test.YthefajkihnlgfaaGreatDoorM40
import Derived.Test.YthefajkihnlgfaaGreatDoorM22
import Derived.Test.YthefajkihnlgfaaGreatDoorRsZ
import Derived.Test.YthefajkihnlgfaaGreatDoorM34
namespace Go.Proofs.YthefajkihnlgfaaGreatDoor
open Go.RowKit Go.Shelf
set_option linter.unusedSimpArgs false
set_option linter.unusedVariables false
attribute [local go_sem] store_flt
set_option maxHeartbeats 8000000 in
set_option maxRecDepth 100000 in
theorem rman_any {B0 d : Nat} {v0 v1 v2 v3 : Value} {c : Cf} {w : World} (hG : RG B0 w) (h : CV d w v0 v1 v2 v3 c) (hlen : (manT d c).length ≤ 140000000000000) :
    Calls Tryz.prog 10 #[.agg #[v0, v1, v2, v3]] w fun e w' => e = .returned (.string ⟨(manT d c).toArray⟩) ∧ Below w.heap.size w w' := by
  obtain ⟨ss, fs, us, un⟩ := c
  have HT : Hid (manT d ⟨ss, fs, us, un⟩ = pre (manS d) ss ss.length ++ pre manF fs fs.length ++ pre manU us us.length ++ pre manN un un.length) := Lib.hid rfl
  rw [HT.out] at hlen
  simp only [List.length_append] at hlen
  generalize manT d ⟨ss, fs, us, un⟩ = R at *
  have hst : StL d w v0 ss := h.st
  have hfi : PL w v1 fs := h.fi
  have hus : SL w v2 us := h.us
  have hun : UL w v3 un := h.un
  obtain ⟨sa, sk, rfl, hps⟩ := hst
  obtain ⟨fa, fk, rfl, hpf⟩ := hfi
  obtain ⟨ua, uk, rfl, _, huz, hpu⟩ := hus
  obtain ⟨na, nk, rfl, hnz, hpn⟩ := hun
  have HS := Lib.hid hps
  have HF := Lib.hid hpf
  have HU := Lib.hid hpu
  have HN := Lib.hid hpn
  have HUZ : Hid (∀ s, s ∈ us → s.size ≤ 1048576) := Lib.hid h.usz
  have HNZ : Hid (∀ u, u ∈ un → u.name.size ≤ 1048576) := Lib.hid h.unz
  have HGG := Lib.hid hG
  have hl : ss.length ≤ 1048576 ∧ fs.length ≤ 1048576 ∧ us.length ≤ 1048576 ∧ un.length ≤ 1048576 := h.len
  obtain ⟨hl1, hl2, hl3, hl4⟩ := hl
  clear h hps hpf hpu hpn hG
  obtain ⟨n1, hn1⟩ : ∃ n, ss.length = n := ⟨_, rfl⟩
  obtain ⟨n2, hn2⟩ : ∃ n, fs.length = n := ⟨_, rfl⟩
  obtain ⟨n3, hn3⟩ : ∃ n, us.length = n := ⟨_, rfl⟩
  obtain ⟨n4, hn4⟩ : ∃ n, un.length = n := ⟨_, rfl⟩
  rw [hn1] at HT hlen hl1 ⊢
  rw [hn2] at HT hlen hl2 ⊢
  rw [hn3] at HT hlen hl3 huz ⊢
  rw [hn4] at HT hlen hl4 hnz ⊢
  have HN1 := Lib.hid hn1
  have HN2 := Lib.hid hn2
  have HN3 := Lib.hid hn3
  have HN4 := Lib.hid hn4
  have HLEN := Lib.hid hlen
  clear hn1 hn2 hn3 hn4 hlen
  go_enter Tryz.func10, Tryz.ntmps10
  go_wp2_with fail
  go_loopw [3, 4] (fun s i wr => ∃ (k : Nat) (S : ByteArray), k ≤ n1 ∧ i = .int .i64 (k : Int) ∧ s = .string S ∧ Hid (S.data.toList = pre (manS d) ss k) ∧ wr.heap[w.heap.size]? = some (.cells #[.slice sa n1 sk, .slice fa n2 fk, .slice ua n3 uk, .slice na n4 nk] 27 (0, 0)) ∧ Below w.heap.size w wr) (fun _ i _ => n1 - (intOf i).toNat)
  case atStart => exact ⟨0, _, Nat.zero_le _, rfl, rfl, Lib.hid rfl, block_new _ _ rfl, (Below.refl _ _).alloc (Nat.le_refl _) _⟩
  case round =>
    obtain ⟨k, S, hk, rfl, rfl, HSS, hcf, hb⟩ := hrel
    have c0 := block_cell (i := 0) hcf rfl
    have hSz : S.size = (pre (manS d) ss k).length := by
      rw [← HSS.out]
      exact Array.length_toList.symm
    have hmono := pre_mono (manS d) ss hk
    have hll := HLEN.out
    by_cases hlt : k < n1
    · have hltI : (k : Int) < (n1 : Int) := by omega
      obtain ⟨s, hs⟩ := get_lt ss (k := k) (by have := HN1.out; omega)
      obtain ⟨hz1, hnum, hsh, b, off, r, f, rfl, k0, k1, k2, k3, k4, k5, k6, hv⟩ := HS.out k s hs
      have k0 := cell_keeps hb k0
      have k1 := cell_keeps hb k1
      have k2 := cell_keeps hb k2
      have k3 := cell_keeps hb k3
      have k4 := cell_keeps hb k4
      have k5 := cell_keeps hb k5
      have k6 := cell_keeps hb k6
      have HST := Lib.hid (pre_succ (f := manS d) hs)
      have hle := pre_le (f := manS d) (n := n1) hs hlt
      have hms : (manS d s).length = s.1.size + 3 + (shT d s.2).length + 1 := by
        unfold manS
        simp only [List.length_append, List.length_cons, List.length_nil]
        rw [show s.1.data.toList.length = s.1.size from Array.length_toList]
      obtain ⟨SH, hSH⟩ : ∃ SH : ByteArray, ⟨(shT d s.2).toArray⟩ = SH := ⟨_, rfl⟩
      have hSHz : SH.size = (shT d s.2).length := by rw [← hSH, ba_len]
      have HSD : Hid (SH.data.toList = shT d s.2) := Lib.hid (by rw [← hSH])
      have HSH := Lib.hid (fun W (hW : Below w.heap.size w W) => RShow_any (HGG.out.below hW) (hv.keeps hW) hnum (by omega))
      rw [hSH] at HSH
      obtain ⟨ra1, rc1, fa1, fc1, rfl, rfl, _, _⟩ := hv.shape
      have y0 : S.size + s.1.size + 3 + SH.size + 1 ≤ 140000000000000 := by omega
      have y1 : (⟨#[32, 61, 32]⟩ : ByteArray).size = 3 := rfl
      have y2 : (⟨#[10]⟩ : ByteArray).size = 1 := rfl
      clear hs hv hnum hSH hll hle hms hmono hSz hSHz
      go_upto_region 5 with fail
      refine with_frame fun a0 ha0 => ?_
      have e1 : a0.eval (.tmp 1) = .pointer (some ⟨w.heap.size, 0, none⟩) := by rw [ha0]; rfl
      have e3 : a0.eval (.tmp 3) = .string S := by rw [ha0]; rfl
      have e4 : a0.eval (.tmp 4) = .int .i64 (k : Int) := by rw [ha0]; rfl
      have hsz : a0.tmps.size = 84 := by rw [ha0]; rfl
      have HA := Lib.hid ha0
      clear ha0
      have hD : ∀ d, (List.range' 15 18).contains d = true → d < a0.tmps.size := by
        intro d h
        rw [hsz]
        have hm : d ∈ List.range' 15 18 := by simpa using h
        rw [List.mem_range'_1] at hm
        omega
      refine wp_region_tab (by kernel_rfl) 18 15 (fun jj => ([.string S, .pointer (some ⟨w.heap.size, 0, none⟩), .slice (some ⟨b, off, none⟩) n1 sk, .int .i64 (k : Int), .pointer (some ⟨b, off + k * 7, none⟩), .pointer (some ⟨b, off + k * 7, none⟩), .string s.1, .string (S ++ s.1), .string ((S ++ s.1) ++ ⟨#[32, 61, 32]⟩), .pointer (some ⟨w.heap.size, 0, none⟩), .slice (some ⟨b, off, none⟩) n1 sk, .int .i64 (k : Int), .pointer (some ⟨b, off + k * 7, none⟩), .pointer (some ⟨b, off + k * 7 + 1, none⟩), .agg #[.int .i64 s.2.kind, .int .i64 s.2.int, .float .f64 s.2.flt, .string s.2.text, .slice ra1 s.2.names.length rc1, .slice fa1 s.2.items.length fc1], .string SH, .string (((S ++ s.1) ++ ⟨#[32, 61, 32]⟩) ++ SH), .string ((((S ++ s.1) ++ ⟨#[32, 61, 32]⟩) ++ SH) ++ ⟨#[10]⟩)] : List Value).getD jj undef) (fun w' => Below wr.heap.size wr w') rfl (by kernel_rfl) (by kernel_rfl) (by (repeat' (first | (with_reducible exact Below.refl _ _) | (with_reducible assumption) | (with_reducible refine below_drewN ?_ _) | (with_reducible refine Below.drew ?_) | (with_reducible refine Below.alloc ?_ ?_ _) | (with_reducible refine Below.setCell ?_ ?_ _) | omega | (simp; done) | (simp; omega)))) ?_ ?_
      · intro i0 hi0 v w0 hW hv
        have c0 := cell_keeps hW c0
        have k0 := cell_keeps hW k0
        have k1 := cell_keeps hW k1
        have k2 := cell_keeps hW k2
        have k3 := cell_keeps hW k3
        have k4 := cell_keeps hW k4
        have k5 := cell_keeps hW k5
        have k6 := cell_keeps hW k6
        have inn : ∀ d, (List.range' 15 18).contains d = true → (frameOf a0 (List.range' 15 18) v).tmps[d]?.getD undef = v d := fun d h => frameOf_in' h (hD d h)
        rcases (by omega : i0 = 0 ∨ i0 = 1 ∨ i0 = 2 ∨ i0 = 3 ∨ i0 = 4 ∨ i0 = 5 ∨ i0 = 6 ∨ i0 = 7 ∨ i0 = 8 ∨ i0 = 9 ∨ i0 = 10 ∨ i0 = 11 ∨ i0 = 12 ∨ i0 = 13 ∨ i0 = 14 ∨ i0 = 15 ∨ i0 = 16 ∨ i0 = 17) with rfl | rfl | rfl | rfl | rfl | rfl | rfl | rfl | rfl | rfl | rfl | rfl | rfl | rfl | rfl | rfl | rfl | rfl
        · -- operation 0
          have E3 : (frameOf a0 (List.range' 15 18) v).tmps[3]?.getD undef = .string S := (frameOf_out' rfl).trans e3
          refine wpOp_value (v := .string S) (w' := w0) rfl rfl (by go_simp) ?_
          exact ⟨frameOf_put rfl, hW⟩
        · -- operation 1
          have E1 : (frameOf a0 (List.range' 15 18) v).tmps[1]?.getD undef = .pointer (some ⟨w.heap.size, 0, none⟩) := (frameOf_out' rfl).trans e1
          refine wpOp_value (v := .pointer (some ⟨w.heap.size, 0, none⟩)) (w' := w0) rfl rfl (by go_simp) ?_
          exact ⟨frameOf_put rfl, hW⟩
        · -- operation 2
          have x16 : v 16 = .pointer (some ⟨w.heap.size, 0, none⟩) := hv 1 (by kernel_rfl)
          have E16 := (inn 16 rfl).trans x16
          refine wpOp_value (v := .slice (some ⟨b, off, none⟩) n1 sk) (w' := w0) rfl rfl (by go_simp) ?_
          exact ⟨frameOf_put rfl, hW⟩
        · -- operation 3
          have E4 : (frameOf a0 (List.range' 15 18) v).tmps[4]?.getD undef = .int .i64 (k : Int) := (frameOf_out' rfl).trans e4
          refine wpOp_value (v := .int .i64 (k : Int)) (w' := w0) rfl rfl (by go_simp) ?_
          exact ⟨frameOf_put rfl, hW⟩
        · -- operation 4
          have x17 : v 17 = .slice (some ⟨b, off, none⟩) n1 sk := hv 2 (by kernel_rfl)
          have E17 := (inn 17 rfl).trans x17
          have x18 : v 18 = .int .i64 (k : Int) := hv 3 (by kernel_rfl)
          have E18 := (inn 18 rfl).trans x18
          refine wpOp_value (v := .pointer (some ⟨b, off + k * 7, none⟩)) (w' := w0) rfl rfl (by go_simp) ?_
          exact ⟨frameOf_put rfl, hW⟩
        · -- operation 5
          have x19 : v 19 = .pointer (some ⟨b, off + k * 7, none⟩) := hv 4 (by kernel_rfl)
          have E19 := (inn 19 rfl).trans x19
          refine wpOp_value (v := .pointer (some ⟨b, off + k * 7, none⟩)) (w' := w0) rfl rfl (by go_simp) ?_
          exact ⟨frameOf_put rfl, hW⟩
        · -- operation 6
          have x20 : v 20 = .pointer (some ⟨b, off + k * 7, none⟩) := hv 5 (by kernel_rfl)
          have E20 := (inn 20 rfl).trans x20
          refine wpOp_value (v := .string s.1) (w' := w0) rfl rfl (by go_simp) ?_
          exact ⟨frameOf_put rfl, hW⟩
        · -- operation 7
          have x15 : v 15 = .string S := hv 0 (by kernel_rfl)
          have E15 := (inn 15 rfl).trans x15
          have x21 : v 21 = .string s.1 := hv 6 (by kernel_rfl)
          have E21 := (inn 21 rfl).trans x21
          refine wpOp_value (v := .string (S ++ s.1)) (w' := w0) rfl rfl (by go_simp; omega) ?_
          exact ⟨frameOf_put rfl, hW⟩
        · -- operation 8
          have x22 : v 22 = .string (S ++ s.1) := hv 7 (by kernel_rfl)
          have E22 := (inn 22 rfl).trans x22
          refine wpOp_value (v := .string ((S ++ s.1) ++ ⟨#[32, 61, 32]⟩)) (w' := w0) rfl rfl (by go_simp; omega) ?_
          exact ⟨frameOf_put rfl, hW⟩
        · -- operation 9
          have E1 : (frameOf a0 (List.range' 15 18) v).tmps[1]?.getD undef = .pointer (some ⟨w.heap.size, 0, none⟩) := (frameOf_out' rfl).trans e1
          refine wpOp_value (v := .pointer (some ⟨w.heap.size, 0, none⟩)) (w' := w0) rfl rfl (by go_simp) ?_
          exact ⟨frameOf_put rfl, hW⟩
        · -- operation 10
          have x24 : v 24 = .pointer (some ⟨w.heap.size, 0, none⟩) := hv 9 (by kernel_rfl)
          have E24 := (inn 24 rfl).trans x24
          refine wpOp_value (v := .slice (some ⟨b, off, none⟩) n1 sk) (w' := w0) rfl rfl (by go_simp) ?_
          exact ⟨frameOf_put rfl, hW⟩
        · -- operation 11
          have E4 : (frameOf a0 (List.range' 15 18) v).tmps[4]?.getD undef = .int .i64 (k : Int) := (frameOf_out' rfl).trans e4
          refine wpOp_value (v := .int .i64 (k : Int)) (w' := w0) rfl rfl (by go_simp) ?_
          exact ⟨frameOf_put rfl, hW⟩
        · -- operation 12
          have x25 : v 25 = .slice (some ⟨b, off, none⟩) n1 sk := hv 10 (by kernel_rfl)
          have E25 := (inn 25 rfl).trans x25
          have x26 : v 26 = .int .i64 (k : Int) := hv 11 (by kernel_rfl)
          have E26 := (inn 26 rfl).trans x26
          refine wpOp_value (v := .pointer (some ⟨b, off + k * 7, none⟩)) (w' := w0) rfl rfl (by go_simp) ?_
          exact ⟨frameOf_put rfl, hW⟩
        · -- operation 13
          have x27 : v 27 = .pointer (some ⟨b, off + k * 7, none⟩) := hv 12 (by kernel_rfl)
          have E27 := (inn 27 rfl).trans x27
          refine wpOp_value (v := .pointer (some ⟨b, off + k * 7 + 1, none⟩)) (w' := w0) rfl rfl (by go_simp) ?_
          exact ⟨frameOf_put rfl, hW⟩
        · -- operation 14
          have x28 : v 28 = .pointer (some ⟨b, off + k * 7 + 1, none⟩) := hv 13 (by kernel_rfl)
          have E28 := (inn 28 rfl).trans x28
          refine wpOp_value (v := .agg #[.int .i64 s.2.kind, .int .i64 s.2.int, .float .f64 s.2.flt, .string s.2.text, .slice ra1 s.2.names.length rc1, .slice fa1 s.2.items.length fc1]) (w' := w0) rfl rfl (by go_simp) ?_
          exact ⟨frameOf_put rfl, hW⟩
        · -- operation 15
          have x29 : v 29 = .agg #[.int .i64 s.2.kind, .int .i64 s.2.int, .float .f64 s.2.flt, .string s.2.text, .slice ra1 s.2.names.length rc1, .slice fa1 s.2.items.length fc1] := hv 14 (by kernel_rfl)
          have E29 := (inn 29 rfl).trans x29
          refine wpOp_call (f := 17) rfl rfl (by go_simp) (HSH.out w0 (hb.next hW)) ?_
          rintro e w' ⟨rfl, hb'⟩
          exact ⟨_, rfl, frameOf_put rfl, hW.next hb'⟩
        · -- operation 16
          have x23 : v 23 = .string ((S ++ s.1) ++ ⟨#[32, 61, 32]⟩) := hv 8 (by kernel_rfl)
          have E23 := (inn 23 rfl).trans x23
          have x30 : v 30 = .string SH := hv 15 (by kernel_rfl)
          have E30 := (inn 30 rfl).trans x30
          refine wpOp_value (v := .string (((S ++ s.1) ++ ⟨#[32, 61, 32]⟩) ++ SH)) (w' := w0) rfl rfl (by go_simp; omega) ?_
          exact ⟨frameOf_put rfl, hW⟩
        · -- operation 17
          have x31 : v 31 = .string (((S ++ s.1) ++ ⟨#[32, 61, 32]⟩) ++ SH) := hv 16 (by kernel_rfl)
          have E31 := (inn 31 rfl).trans x31
          refine wpOp_value (v := .string ((((S ++ s.1) ++ ⟨#[32, 61, 32]⟩) ++ SH) ++ ⟨#[10]⟩)) (w' := w0) rfl rfl (by go_simp; omega) ?_
          exact ⟨frameOf_put rfl, hW⟩
      · intro w0 hW
        have h0 := HA.out
        subst h0
        have hrg : List.range' 15 18 = [15, 16, 17, 18, 19, 20, 21, 22, 23, 24, 25, 26, 27, 28, 29, 30, 31, 32] := rfl
        rw [hrg]
        clear hrg
        simp only [frameOf_cons, frameOf_nil, Act.put, List.setIfInBounds_toArray, List.set_cons_zero, List.set_cons_succ]
        refine wpOp_value (v := .string ((((S ++ s.1) ++ ⟨#[32, 61, 32]⟩) ++ SH) ++ ⟨#[10]⟩)) (w' := w0) rfl rfl (by go_simp) ?_
        go_wp2_with fail
        go_roundw
        case rel =>
          refine ⟨k + 1, _, by omega, by go_num, rfl, Lib.hid ?_, block_below hcf hW, hb.next hW⟩
          rw [nw_app, nw_app, nw_app, nw_app, HSS.out, HSD.out, HST.out]
          unfold manS
          simp
        case measure => simp [intOf]; omega
    · have hltI : ¬ ((k : Int) < (n1 : Int)) := by omega
      have hkn : k = n1 := by omega
      rw [hkn] at HSS
      clear hkn hlt hmono hSz hll
      go_wp2_with fail
      go_loopw [3, 5] (fun s i wr => ∃ (k2 : Nat) (S : ByteArray), k2 ≤ n2 ∧ i = .int .i64 (k2 : Int) ∧ s = .string S ∧ Hid (S.data.toList = pre (manS d) ss n1 ++ pre manF fs k2) ∧ wr.heap[w.heap.size]? = some (.cells #[.slice sa n1 sk, .slice fa n2 fk, .slice ua n3 uk, .slice na n4 nk] 27 (0, 0)) ∧ Below w.heap.size w wr) (fun _ i _ => n2 - (intOf i).toNat)
      case atStart => exact ⟨0, _, Nat.zero_le _, rfl, rfl, Lib.hid (by rw [pre_zero, List.append_nil]; exact HSS.out), hcf, hb⟩
      case round =>
        clear HSS hcf hb hltI hk c0
        obtain ⟨k2, S, hk, rfl, rfl, HSS, hcf, hb⟩ := hrel
        have c1 := block_cell (i := 1) hcf rfl
        have hSz : S.size = (pre (manS d) ss n1 ++ pre manF fs k2).length := by
          rw [← HSS.out]
          exact Array.length_toList.symm
        have hmono := pre_mono manF fs hk
        have hll := HLEN.out
        simp only [List.length_append] at hSz
        by_cases hlt : k2 < n2
        · have hltI : (k2 : Int) < (n2 : Int) := by omega
          obtain ⟨p, hp⟩ := get_lt fs (k := k2) (by have := HN2.out; omega)
          obtain ⟨hz1, hz2, b, off, rfl, j0, j1⟩ := HF.out k2 p hp
          have j0 := cell_keeps hb j0
          have HST := Lib.hid (pre_succ (f := manF) hp)
          have hle := pre_le (f := manF) (n := n2) hp hlt
          have hms : (manF p).length = 5 + p.1.size + 1 := by
            unfold manF
            simp only [List.length_append, List.length_cons, List.length_nil]
            rw [show p.1.data.toList.length = p.1.size from Array.length_toList]
          have y0 : S.size + 5 + p.1.size + 1 ≤ 140000000000000 := by omega
          have y1 : (⟨#[102, 105, 108, 101, 32]⟩ : ByteArray).size = 5 := rfl
          have y2 : (⟨#[10]⟩ : ByteArray).size = 1 := rfl
          clear hp hll hle hms hmono hSz
          go_wp2_with fail
          go_roundw
          case rel =>
            refine ⟨k2 + 1, _, by omega, by go_num, rfl, Lib.hid ?_, hcf, hb⟩
            rw [nw_app, nw_app, nw_app, HSS.out, HST.out]
            unfold manF
            simp
          case measure => simp [intOf]; omega
        · have hltI : ¬ ((k2 : Int) < (n2 : Int)) := by omega
          have hkn : k2 = n2 := by omega
          rw [hkn] at HSS
          clear hkn hlt hmono hSz hll
          go_wp2_with fail
          go_loopw [3, 6] (fun s i wr => ∃ (k3 : Nat) (S : ByteArray), k3 ≤ n3 ∧ i = .int .i64 (k3 : Int) ∧ s = .string S ∧ Hid (S.data.toList = pre (manS d) ss n1 ++ pre manF fs n2 ++ pre manU us k3) ∧ wr.heap[w.heap.size]? = some (.cells #[.slice sa n1 sk, .slice fa n2 fk, .slice ua n3 uk, .slice na n4 nk] 27 (0, 0)) ∧ Below w.heap.size w wr) (fun _ i _ => n3 - (intOf i).toNat)
          case atStart => exact ⟨0, _, Nat.zero_le _, rfl, rfl, Lib.hid (by rw [pre_zero, List.append_nil]; exact HSS.out), hcf, hb⟩
          case round =>
            clear HSS hcf hb hltI hk c1
            obtain ⟨k3, S, hk, rfl, rfl, HSS, hcf, hb⟩ := hrel
            have c2 := block_cell (i := 2) hcf rfl
            have hSz : S.size = (pre (manS d) ss n1 ++ pre manF fs n2 ++ pre manU us k3).length := by
              rw [← HSS.out]
              exact Array.length_toList.symm
            have hmono := pre_mono manU us hk
            have hll := HLEN.out
            simp only [List.length_append] at hSz
            by_cases hlt : k3 < n3
            · have hltI : (k3 : Int) < (n3 : Int) := by omega
              obtain ⟨p, hp⟩ := get_lt us (k := k3) (by have := HN3.out; omega)
              obtain ⟨b, off, rfl, j0, _, _⟩ := HU.out k3 p hp
              have j0 := cell_keeps hb j0
              have HST := Lib.hid (pre_succ (f := manU) hp)
              have hle := pre_le (f := manU) (n := n3) hp hlt
              have hms : (manU p).length = 5 + p.size + 1 := by
                unfold manU
                simp only [List.length_append, List.length_cons, List.length_nil]
                rw [show p.data.toList.length = p.size from Array.length_toList]
              have y0 : S.size + 5 + p.size + 1 ≤ 140000000000000 := by omega
              have y1 : (⟨#[117, 115, 101, 114, 32]⟩ : ByteArray).size = 5 := rfl
              have y2 : (⟨#[10]⟩ : ByteArray).size = 1 := rfl
              clear hp hll hle hms hmono hSz
              go_wp2_with fail
              go_roundw
              case rel =>
                refine ⟨k3 + 1, _, by omega, by go_num, rfl, Lib.hid ?_, hcf, hb⟩
                rw [nw_app, nw_app, nw_app, HSS.out, HST.out]
                unfold manU
                simp
              case measure => simp [intOf]; omega
            · have hltI : ¬ ((k3 : Int) < (n3 : Int)) := by omega
              have hkn : k3 = n3 := by omega
              rw [hkn] at HSS
              clear hkn hlt hmono hSz hll
              go_wp2_with fail
              go_loopw [3, 7] (fun s i wr => ∃ (k4 : Nat) (S : ByteArray), k4 ≤ n4 ∧ i = .int .i64 (k4 : Int) ∧ s = .string S ∧ Hid (S.data.toList = pre (manS d) ss n1 ++ pre manF fs n2 ++ pre manU us n3 ++ pre manN un k4) ∧ wr.heap[w.heap.size]? = some (.cells #[.slice sa n1 sk, .slice fa n2 fk, .slice ua n3 uk, .slice na n4 nk] 27 (0, 0)) ∧ Below w.heap.size w wr) (fun _ i _ => n4 - (intOf i).toNat)
              case atStart => exact ⟨0, _, Nat.zero_le _, rfl, rfl, Lib.hid (by rw [pre_zero, List.append_nil]; exact HSS.out), hcf, hb⟩
              case round =>
                clear HSS hcf hb hltI hk c2
                obtain ⟨k4, S, hk, rfl, rfl, HSS, hcf, hb⟩ := hrel
                have c3 := block_cell (i := 3) hcf rfl
                have hSz : S.size = (pre (manS d) ss n1 ++ pre manF fs n2 ++ pre manU us n3 ++ pre manN un k4).length := by
                  rw [← HSS.out]
                  exact Array.length_toList.symm
                have hmono := pre_mono manN un hk
                have hll := HLEN.out
                simp only [List.length_append] at hSz
                by_cases hlt : k4 < n4
                · have hltI : (k4 : Int) < (n4 : Int) := by omega
                  obtain ⟨p, hp⟩ := get_lt un (k := k4) (by have := HN4.out; omega)
                  obtain ⟨b, off, rfl, hucp, _⟩ := HN.out k4 p hp
                  obtain ⟨j0, j1, _, _, r, f, j2, j3, hsr, hsf⟩ := hucp
                  have j0 := cell_keeps hb j0
                  have HST := Lib.hid (pre_succ (f := manN) hp)
                  have hle := pre_le (f := manN) (n := n4) hp hlt
                  have hms : (manN p).length = 5 + p.name.size + 1 := by
                    unfold manN
                    simp only [List.length_append, List.length_cons, List.length_nil]
                    rw [show p.name.data.toList.length = p.name.size from Array.length_toList]
                  have y0 : S.size + 5 + p.name.size + 1 ≤ 140000000000000 := by omega
                  have y1 : (⟨#[117, 110, 105, 116, 32]⟩ : ByteArray).size = 5 := rfl
                  have y2 : (⟨#[10]⟩ : ByteArray).size = 1 := rfl
                  clear hp hll hle hms hmono hSz
                  go_wp2_with fail
                  go_roundw
                  case rel =>
                    refine ⟨k4 + 1, _, by omega, by go_num, rfl, Lib.hid ?_, hcf, hb⟩
                    rw [nw_app, nw_app, nw_app, HSS.out, HST.out]
                    unfold manN
                    simp
                  case measure => simp [intOf]; omega
                · have hltI : ¬ ((k4 : Int) < (n4 : Int)) := by omega
                  have hkn : k4 = n4 := by omega
                  rw [hkn] at HSS
                  have HE : Hid (S = ⟨R.toArray⟩) := Lib.hid (by
                    apply ba_ext
                    rw [HSS.out, HT.out])
                  clear hkn hlt hmono hSz hll
                  go_wp2_with fail
                  go_ret
                  exact ⟨by rw [← HE.out]; rfl, hb⟩
end Go.Proofs.YthefajkihnlgfaaGreatDoor

