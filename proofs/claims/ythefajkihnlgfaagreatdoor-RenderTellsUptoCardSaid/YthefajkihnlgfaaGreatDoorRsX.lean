/- bootjackref12.show at a right set: the walk. -/
import Derived.Test.YthefajkihnlgfaaGreatDoorM22
import Derived.Test.YthefajkihnlgfaaGreatDoorM41
import Derived.Deep.DeepCutAuto
namespace Go.Proofs.YthefajkihnlgfaaGreatDoor
open Go.RowKit Go.Shelf
set_option linter.unusedSimpArgs false
set_option linter.unusedVariables false
attribute [local go_sem] store_flt
set_option maxHeartbeats 4000000 in
set_option maxRecDepth 100000 in
theorem rshow_set {d : Nat} (ih : RShowAt d) (B0 m : Nat) (n : Int) (x : Nat) (t : ByteArray) (ns : List ByteArray) (is : List V) (r f : Value) (w : World) (hG : RG B0 w) (h : VI (d + 1) w (.mk 6 n x t ns is) r f)
    (hN : NumV (d + 1) (.mk 6 n x t ns is)) (hr : rightP (d + 1) m (.mk 6 n x t ns is) = true) (hlen : (showP (d + 1) (.mk 6 n x t ns is)).length ≤ 100000000000) :
    Calls Tryz.prog 23 #[.agg #[.int .i64 6, .int .i64 n, .float .f64 x, .string t, r, f]] w fun e w' =>
      e = .returned (.string ⟨(showP (d + 1) (.mk 6 n x t ns is)).toArray⟩) ∧ Below w.heap.size w w' := by
  have HS : Hid (showP (d + 1) (.mk 6 n x t ns is) = 123 :: (shS (showP d) (ns.zip is) is.length ++ [32, 125])) := Lib.hid rfl
  rw [HS.out] at hlen
  have hlen2 : (shS (showP d) (ns.zip is) is.length).length + 3 ≤ 100000000000 := by
    simp only [List.length_cons, List.length_append, List.length_nil] at hlen
    omega
  have HRI := Lib.hid (fun y (hy : y ∈ is) => right_items (v := .mk 6 n x t ns is) (Or.inr rfl) hr hy)
  have HNI := Lib.hid hN.2.2
  obtain ⟨hnl, hnsz, _⟩ := right_names (v := .mk 6 n x t ns is) rfl hr
  have hnames := h.names
  obtain ⟨ra, rc, a, cap, rfl, rfl, hbd, hts⟩ := h.shape
  have HI := Lib.hid (fun i y (hi : is[i]? = some y) => h.item (v := .mk 6 n x t ns is) hi)
  simp only [V.names, V.items, V.text] at hbd hts hnames hnl hnsz ⊢
  have HCN : Hid (∀ (i : Nat) (s : ByteArray), ns[i]? = some s → ∃ b off, ra = some ⟨b, off, none⟩ ∧ w.cell? ⟨b, off + i, none⟩ = some (.string s) ∧ s.size ≤ maxLen ∧ True) := by
    obtain ⟨_, _, hce, _, _, hcn⟩ := hnames
    cases hce
    exact Lib.hid hcn
  have HNL := Lib.hid hnl
  have HSZ := Lib.hid hnsz
  have HGG := Lib.hid hG
  have IH := Lib.hid ih
  have HL := Lib.hid hlen2
  generalize showP (d + 1) (.mk 6 n x t ns is) = R at *
  clear hG h hN hr hlen hlen2 ih hnames hnsz
  rw [hnl]
  clear hnl
  obtain ⟨ni, hni⟩ : ∃ ni, is.length = ni := ⟨_, rfl⟩
  rw [hni] at HS HL hbd ⊢
  have HNN := Lib.hid hni
  clear hni
  go_enter Tryz.func23, Tryz.ntmps23
  go_wp2_with fail
  go_loopw [5, 6] (fun s i wr => ∃ (k : Nat) (S : ByteArray), k ≤ ni ∧ i = .int .i64 (k : Int) ∧ s = .string S ∧ Hid (S.data.toList = 123 :: shS (showP d) (ns.zip is) k) ∧ wr.heap[w.heap.size]? = some (.cells #[.int .i64 6, .int .i64 n, .float .f64 x, .string t, .slice ra ni rc, .slice a ni cap] 47 (0, 0)) ∧ Below w.heap.size w wr) (fun _ i _ => ni - (intOf i).toNat)
  case atStart => exact ⟨0, _, Nat.zero_le _, rfl, rfl, Lib.hid rfl, block_new _ _ rfl, (Below.refl _ _).alloc (Nat.le_refl _) _⟩
  case round =>
    obtain ⟨k, S, hk, rfl, rfl, HSS, hbox, hb⟩ := hrel
    have c5 := block_cell (i := 5) hbox rfl
    have hmono := shS_mono (showP d) (ns.zip is) hk
    have hSz : S.size = (shS (showP d) (ns.zip is) k).length + 1 := by
      have e : S.data.toList.length = S.size := Array.length_toList
      rw [← e, HSS.out, List.length_cons]
    by_cases hlt : k < ni
    · have hltI : (k : Int) < (ni : Int) := by omega
      obtain ⟨y, hy⟩ := get_lt is (k := k) (by have := HNN.out; omega)
      obtain ⟨b', off, r', f', rfl, k1, k2, k3, k4, k5, k6, hv⟩ := HI.out k y hy
      have k1 := cell_keeps hb k1
      have k2 := cell_keeps hb k2
      have k3 := cell_keeps hb k3
      have k4 := cell_keeps hb k4
      have k5 := cell_keeps hb k5
      have k6 := cell_keeps hb k6
      have hym := List.mem_of_getElem? hy
      obtain ⟨m', hm', hry⟩ := HRI.out y hym
      obtain ⟨nm, hnm⟩ := get_lt ns (k := k) (by have := HNN.out; have := HNL.out; omega)
      obtain ⟨bn, on, hra, hcn, hns, _⟩ := HCN.out k nm hnm
      subst hra
      have hcn := cell_keeps hb hcn
      have hn1 := HSZ.out k nm hnm
      have hqn := qB_len nm
      have hzz : (ns.zip is)[k]? = some (nm, y) := List.getElem?_zip_eq_some.2 ⟨hnm, hy⟩
      have HQN := Lib.hid (fun W => quoteR_any nm (by omega) W)
      have c4 := block_cell (i := 4) hbox rfl
      have hle := shS_le (f := showP d) (n := ni) hzz hlt
      have HST := Lib.hid (shS_succ (f := showP d) hzz)
      have hLL := HL.out
      have HCY := Lib.hid (fun W (hW : Below wr.heap.size wr W) => IH.out B0 m' y r' f' W (HGG.out.below (hb.next hW)) (hv.keeps (hb.next hW)) (HNI.out y hym) hry (by omega))
      obtain ⟨Y, hY⟩ : ∃ Y : ByteArray, ⟨(showP d y).toArray⟩ = Y := ⟨_, rfl⟩
      have hYs : Y.size = (showP d y).length := by rw [← hY, ba_len]
      have HYD : Hid (Y.data.toList = showP d y) := Lib.hid (by rw [← hY])
      rw [hY] at HCY
      have hS1 : S.size ≤ 100000000000 := by omega
      have hY1 : Y.size ≤ 100000000000 := by omega
      obtain ⟨ra1, rc1, fa1, fc1, rfl, rfl, _, _⟩ := hv.shape
      obtain ⟨QB, hQB⟩ : ∃ QB : ByteArray, ⟨(qB nm).toArray⟩ = QB := ⟨_, rfl⟩
      have hQs : QB.size ≤ 3000 := by rw [← hQB, ba_len]; omega
      have HQD : Hid (QB.data.toList = qB nm) := Lib.hid (by rw [← hQB])
      rw [hQB] at HQN
      have z1 : (⟨#[32]⟩ : ByteArray).size = 1 := rfl
      have z2 : (⟨#[61]⟩ : ByteArray).size = 1 := rfl
      have z3 : (⟨#[59]⟩ : ByteArray).size = 1 := rfl
      clear hy hym hry hm' hle hLL hv hSz hYs hY hmono hzz hnm hQB hn1 hns
      go_upto_region 18 with fail
      refine with_frame fun a0 ha0 => ?_
      have e1 : a0.eval (.tmp 1) = .pointer (some ⟨w.heap.size, 0, none⟩) := by rw [ha0]; rfl
      have e5 : a0.eval (.tmp 5) = .string S := by rw [ha0]; rfl
      have e6 : a0.eval (.tmp 6) = .int .i64 (k : Int) := by rw [ha0]; rfl
      have hsz : a0.tmps.size = 73 := by rw [ha0]; rfl
      have HA := Lib.hid ha0
      clear ha0
      have hD : ∀ d, (List.range' 47 18).contains d = true → d < a0.tmps.size := by
        intro d h
        rw [hsz]
        have hm : d ∈ List.range' 47 18 := by simpa using h
        rw [List.mem_range'_1] at hm
        omega
      refine wp_region_tab (by kernel_rfl) 18 47 (fun jj => ([.string S, .string (S ++ ⟨#[32]⟩), .pointer (some ⟨w.heap.size, 4, none⟩), .slice (some ⟨bn, on, none⟩) ni rc, .int .i64 (k : Int), .pointer (some ⟨bn, on + k, none⟩), .string nm, .string QB, .string ((S ++ ⟨#[32]⟩) ++ QB), .string (((S ++ ⟨#[32]⟩) ++ QB) ++ ⟨#[61]⟩), .pointer (some ⟨w.heap.size, 5, none⟩), .slice (some ⟨b', off, none⟩) ni cap, .int .i64 (k : Int), .pointer (some ⟨b', off + k * 6, none⟩), .agg #[.int .i64 y.kind, .int .i64 y.int, .float .f64 y.flt, .string y.text, .slice ra1 y.names.length rc1, .slice fa1 y.items.length fc1], .string Y, .string ((((S ++ ⟨#[32]⟩) ++ QB) ++ ⟨#[61]⟩) ++ Y), .string (((((S ++ ⟨#[32]⟩) ++ QB) ++ ⟨#[61]⟩) ++ Y) ++ ⟨#[59]⟩)] : List Value).getD jj undef) (fun w' => Below wr.heap.size wr w') rfl (by kernel_rfl) (by kernel_rfl) (by (repeat' (first | (with_reducible exact Below.refl _ _) | (with_reducible assumption) | (with_reducible refine below_drewN ?_ _) | (with_reducible refine Below.drew ?_) | (with_reducible refine Below.alloc ?_ ?_ _) | (with_reducible refine Below.setCell ?_ ?_ _) | omega | (simp; done) | (simp; omega)))) ?_ ?_
      · intro i0 hi0 v w0 hW hv
        have c4 := cell_keeps hW c4
        have c5 := cell_keeps hW c5
        have hcn := cell_keeps hW hcn
        have k1 := cell_keeps hW k1
        have k2 := cell_keeps hW k2
        have k3 := cell_keeps hW k3
        have k4 := cell_keeps hW k4
        have k5 := cell_keeps hW k5
        have k6 := cell_keeps hW k6
        have inn : ∀ d, (List.range' 47 18).contains d = true → (frameOf a0 (List.range' 47 18) v).tmps[d]?.getD undef = v d := fun d h => frameOf_in' h (hD d h)
        rcases (by omega : i0 = 0 ∨ i0 = 1 ∨ i0 = 2 ∨ i0 = 3 ∨ i0 = 4 ∨ i0 = 5 ∨ i0 = 6 ∨ i0 = 7 ∨ i0 = 8 ∨ i0 = 9 ∨ i0 = 10 ∨ i0 = 11 ∨ i0 = 12 ∨ i0 = 13 ∨ i0 = 14 ∨ i0 = 15 ∨ i0 = 16 ∨ i0 = 17) with rfl | rfl | rfl | rfl | rfl | rfl | rfl | rfl | rfl | rfl | rfl | rfl | rfl | rfl | rfl | rfl | rfl | rfl
        · -- operation 0
          have E5 : (frameOf a0 (List.range' 47 18) v).tmps[5]?.getD undef = .string S := (frameOf_out' rfl).trans e5
          refine wpOp_value (v := .string S) (w' := w0) rfl rfl (by go_simp) ?_
          exact ⟨frameOf_put rfl, hW⟩
        · -- operation 1
          have x47 : v 47 = .string S := hv 0 (by kernel_rfl)
          have E47 := (inn 47 rfl).trans x47
          refine wpOp_value (v := .string (S ++ ⟨#[32]⟩)) (w' := w0) rfl rfl (by go_simp; omega) ?_
          exact ⟨frameOf_put rfl, hW⟩
        · -- operation 2
          have E1 : (frameOf a0 (List.range' 47 18) v).tmps[1]?.getD undef = .pointer (some ⟨w.heap.size, 0, none⟩) := (frameOf_out' rfl).trans e1
          refine wpOp_value (v := .pointer (some ⟨w.heap.size, 4, none⟩)) (w' := w0) rfl rfl (by go_simp) ?_
          exact ⟨frameOf_put rfl, hW⟩
        · -- operation 3
          have x49 : v 49 = .pointer (some ⟨w.heap.size, 4, none⟩) := hv 2 (by kernel_rfl)
          have E49 := (inn 49 rfl).trans x49
          refine wpOp_value (v := .slice (some ⟨bn, on, none⟩) ni rc) (w' := w0) rfl rfl (by go_simp) ?_
          exact ⟨frameOf_put rfl, hW⟩
        · -- operation 4
          have E6 : (frameOf a0 (List.range' 47 18) v).tmps[6]?.getD undef = .int .i64 (k : Int) := (frameOf_out' rfl).trans e6
          refine wpOp_value (v := .int .i64 (k : Int)) (w' := w0) rfl rfl (by go_simp) ?_
          exact ⟨frameOf_put rfl, hW⟩
        · -- operation 5
          have x50 : v 50 = .slice (some ⟨bn, on, none⟩) ni rc := hv 3 (by kernel_rfl)
          have E50 := (inn 50 rfl).trans x50
          have x51 : v 51 = .int .i64 (k : Int) := hv 4 (by kernel_rfl)
          have E51 := (inn 51 rfl).trans x51
          refine wpOp_value (v := .pointer (some ⟨bn, on + k, none⟩)) (w' := w0) rfl rfl (by go_simp) ?_
          exact ⟨frameOf_put rfl, hW⟩
        · -- operation 6
          have x52 : v 52 = .pointer (some ⟨bn, on + k, none⟩) := hv 5 (by kernel_rfl)
          have E52 := (inn 52 rfl).trans x52
          refine wpOp_value (v := .string nm) (w' := w0) rfl rfl (by go_simp) ?_
          exact ⟨frameOf_put rfl, hW⟩
        · -- operation 7
          have x53 : v 53 = .string nm := hv 6 (by kernel_rfl)
          have E53 := (inn 53 rfl).trans x53
          refine wpOp_call (f := 31) rfl rfl (by go_simp) (HQN.out w0) ?_
          rintro e w' ⟨rfl, hb'⟩
          exact ⟨_, rfl, frameOf_put rfl, hW.next hb'⟩
        · -- operation 8
          have x48 : v 48 = .string (S ++ ⟨#[32]⟩) := hv 1 (by kernel_rfl)
          have E48 := (inn 48 rfl).trans x48
          have x54 : v 54 = .string QB := hv 7 (by kernel_rfl)
          have E54 := (inn 54 rfl).trans x54
          refine wpOp_value (v := .string ((S ++ ⟨#[32]⟩) ++ QB)) (w' := w0) rfl rfl (by go_simp; omega) ?_
          exact ⟨frameOf_put rfl, hW⟩
        · -- operation 9
          have x55 : v 55 = .string ((S ++ ⟨#[32]⟩) ++ QB) := hv 8 (by kernel_rfl)
          have E55 := (inn 55 rfl).trans x55
          refine wpOp_value (v := .string (((S ++ ⟨#[32]⟩) ++ QB) ++ ⟨#[61]⟩)) (w' := w0) rfl rfl (by go_simp; omega) ?_
          exact ⟨frameOf_put rfl, hW⟩
        · -- operation 10
          have E1 : (frameOf a0 (List.range' 47 18) v).tmps[1]?.getD undef = .pointer (some ⟨w.heap.size, 0, none⟩) := (frameOf_out' rfl).trans e1
          refine wpOp_value (v := .pointer (some ⟨w.heap.size, 5, none⟩)) (w' := w0) rfl rfl (by go_simp) ?_
          exact ⟨frameOf_put rfl, hW⟩
        · -- operation 11
          have x57 : v 57 = .pointer (some ⟨w.heap.size, 5, none⟩) := hv 10 (by kernel_rfl)
          have E57 := (inn 57 rfl).trans x57
          refine wpOp_value (v := .slice (some ⟨b', off, none⟩) ni cap) (w' := w0) rfl rfl (by go_simp) ?_
          exact ⟨frameOf_put rfl, hW⟩
        · -- operation 12
          have E6 : (frameOf a0 (List.range' 47 18) v).tmps[6]?.getD undef = .int .i64 (k : Int) := (frameOf_out' rfl).trans e6
          refine wpOp_value (v := .int .i64 (k : Int)) (w' := w0) rfl rfl (by go_simp) ?_
          exact ⟨frameOf_put rfl, hW⟩
        · -- operation 13
          have x58 : v 58 = .slice (some ⟨b', off, none⟩) ni cap := hv 11 (by kernel_rfl)
          have E58 := (inn 58 rfl).trans x58
          have x59 : v 59 = .int .i64 (k : Int) := hv 12 (by kernel_rfl)
          have E59 := (inn 59 rfl).trans x59
          refine wpOp_value (v := .pointer (some ⟨b', off + k * 6, none⟩)) (w' := w0) rfl rfl (by go_simp) ?_
          exact ⟨frameOf_put rfl, hW⟩
        · -- operation 14
          have x60 : v 60 = .pointer (some ⟨b', off + k * 6, none⟩) := hv 13 (by kernel_rfl)
          have E60 := (inn 60 rfl).trans x60
          refine wpOp_value (v := .agg #[.int .i64 y.kind, .int .i64 y.int, .float .f64 y.flt, .string y.text, .slice ra1 y.names.length rc1, .slice fa1 y.items.length fc1]) (w' := w0) rfl rfl (by go_simp) ?_
          exact ⟨frameOf_put rfl, hW⟩
        · -- operation 15
          have x61 : v 61 = .agg #[.int .i64 y.kind, .int .i64 y.int, .float .f64 y.flt, .string y.text, .slice ra1 y.names.length rc1, .slice fa1 y.items.length fc1] := hv 14 (by kernel_rfl)
          have E61 := (inn 61 rfl).trans x61
          refine wpOp_call (f := 23) rfl rfl (by go_simp) (HCY.out w0 hW) ?_
          rintro e w' ⟨rfl, hb'⟩
          exact ⟨_, rfl, frameOf_put rfl, hW.next hb'⟩
        · -- operation 16
          have x56 : v 56 = .string (((S ++ ⟨#[32]⟩) ++ QB) ++ ⟨#[61]⟩) := hv 9 (by kernel_rfl)
          have E56 := (inn 56 rfl).trans x56
          have x62 : v 62 = .string Y := hv 15 (by kernel_rfl)
          have E62 := (inn 62 rfl).trans x62
          refine wpOp_value (v := .string ((((S ++ ⟨#[32]⟩) ++ QB) ++ ⟨#[61]⟩) ++ Y)) (w' := w0) rfl rfl (by go_simp; omega) ?_
          exact ⟨frameOf_put rfl, hW⟩
        · -- operation 17
          have x63 : v 63 = .string ((((S ++ ⟨#[32]⟩) ++ QB) ++ ⟨#[61]⟩) ++ Y) := hv 16 (by kernel_rfl)
          have E63 := (inn 63 rfl).trans x63
          refine wpOp_value (v := .string (((((S ++ ⟨#[32]⟩) ++ QB) ++ ⟨#[61]⟩) ++ Y) ++ ⟨#[59]⟩)) (w' := w0) rfl rfl (by go_simp; omega) ?_
          exact ⟨frameOf_put rfl, hW⟩
      · intro w0 hW
        have h0 := HA.out
        subst h0
        have hrg : List.range' 47 18 = [47, 48, 49, 50, 51, 52, 53, 54, 55, 56, 57, 58, 59, 60, 61, 62, 63, 64] := rfl
        rw [hrg]
        clear hrg
        simp only [frameOf_cons, frameOf_nil, Act.put, List.setIfInBounds_toArray, List.set_cons_zero, List.set_cons_succ]
        refine wpOp_value (v := .string (((((S ++ ⟨#[32]⟩) ++ QB) ++ ⟨#[61]⟩) ++ Y) ++ ⟨#[59]⟩)) (w' := w0) rfl rfl (by go_simp) ?_
        go_wp2_with fail
        go_roundw
        case rel =>
          refine ⟨k + 1, _, by omega, by go_num, rfl, Lib.hid ?_, block_below hbox hW, hb.next hW⟩
          rw [nw_app, nw_app, nw_app, nw_app, nw_app, HSS.out, HYD.out, HQD.out, HST.out]
          show 123 :: shS (showP d) (ns.zip is) k ++ [32] ++ qB nm ++ [61] ++ showP d y ++ [59] = _
          simp
        case measure => simp [intOf]; omega
    · have hltI : ¬ ((k : Int) < (ni : Int)) := by omega
      obtain rfl : k = ni := by omega
      have hLL := HL.out
      have hS1 : S.size ≤ 100000000000 := by omega
      have HE : Hid (S ++ ⟨#[32, 125]⟩ = ⟨R.toArray⟩) := Lib.hid (by
        apply ba_ext
        rw [nw_app, HSS.out, HS.out]
        show 123 :: shS (showP d) (ns.zip is) k ++ [32, 125] = _
        simp)
      clear hSz hLL hmono
      go_wp2_with fail
      go_ret
      exact ⟨by rw [← HE.out]; rfl, hb⟩
end Go.Proofs.YthefajkihnlgfaaGreatDoor

