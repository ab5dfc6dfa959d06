/- bootjackref11.Same of two expressions that are the same. -/
import Derived.Test.YtppljgallbmgcaaGreatDoorParNR
import Derived.Test.YtppljgallbmgcaaGreatDoorRegTab
import Derived.Test.YtppljgallbmgcaaGreatDoorGb
import Derived.BigQuiet
namespace Go.Proofs.YtppljgallbmgcaaGreatDoor
open Go.RowKit
set_option maxHeartbeats 8000000 in
set_option maxRecDepth 100000 in
theorem same_false {w : World} {g o c g' o' c' n : Nat} {ls ms : List NV}  (hn : n ≤ 9223372036854775807) (hl : ls.length = n) (hm : ms.length = n) {pn pn' : Nat → Prop} {pk pk' : Nat → Nat → Prop} (h1 : NRd pn pk w g o ls) (h2 : NRd pn' pk' w g' o' ms)
    (hbd : ∀ x ∈ ls, x.nd.names.length ≤ 9223372036854775807 ∧ x.nd.kids.length ≤ 9223372036854775807) (hs : ∀ (i : Nat) (x y : NV), ls[i]? = some x → ms[i]? = some y → SameN false x.nd y.nd) :
    Calls Tryz.prog 15 #[.slice (some ⟨g, o, none⟩) n c, .slice (some ⟨g', o', none⟩) n c', .bool false] w fun e w' => e = .returned (.bool true) ∧ Below w.heap.size w w' := by
  have H1 := Lib.hid h1
  have H2 := Lib.hid h2
  have HS := Lib.hid hs
  have HL := Lib.hid hl
  have HBD := Lib.hid hbd
  have HM := Lib.hid hm
  have hb64 := run_bits64
  have hsf := store_f64
  clear h1 h2 hs hl hm hbd
  go_enter Tryz.func15, Tryz.ntmps15
  go_wp2_with fail
  go_loopw [7] (fun i wr => ∃ k : Nat, k ≤ n ∧ i = .int .i64 (k : Int) ∧ Below w.heap.size w wr) (fun i _ => n - (intOf i).toNat)
  case atStart => exact ⟨0, Nat.zero_le _, rfl, Below.refl _ _⟩
  case round =>
    obtain ⟨k, hk, rfl, hb⟩ := hrel
    by_cases hlt : k < n
    · obtain ⟨x, hx⟩ : ∃ x, ls[k]? = some x := ⟨_, List.getElem?_eq_getElem (by have := HL.out; omega)⟩
      obtain ⟨y, hy⟩ : ∃ y, ms[k]? = some y := ⟨_, List.getElem?_eq_getElem (by have := HM.out; omega)⟩
      have hsn := HS.out k x y hx hy
      have hbd := HBD.out x (List.mem_of_getElem? hx)
      have r1 := H1.out.below hb
      have r2 := H2.out.below hb
      have n1 := r1.nam k x hx
      have n2 := r2.nam k y hy
      have k1 := r1.kid k x hx
      have k2 := r2.kid k y hy
      have cx := r1.cell hx
      have cy := r2.cell hy
      have hgl := r1.lt
      have hgl' := r2.lt
      clear hx hy r1 r2
      obtain ⟨⟨kd, tx, nn, fl, ns, ks, p1⟩, vn, vk⟩ := x
      obtain ⟨⟨kd', tx', nn', fl', ns', ks', p2⟩, vm, vj⟩ := y
      obtain ⟨e1, e2, e3, e4, e5, e6, e7⟩ := hsn
      simp only at e1 e2 e3 e4 e5 e6 n1 n2 k1 k2
      subst e1 e2 e3 e4 e5 e6
      have c0 := cx 0 _ rfl
      have c1 := cx 1 _ rfl
      have c2 := cx 2 _ rfl
      have c3 := cx 3 _ rfl
      have c4 := cx 4 _ rfl
      have c5 := cx 5 _ rfl
      have c6 := cx 6 _ rfl
      have d0 := cy 0 _ rfl
      have d1 := cy 1 _ rfl
      have d2 := cy 2 _ rfl
      have d3 := cy 3 _ rfl
      have d4 := cy 4 _ rfl
      have d5 := cy 5 _ rfl
      have d6 := cy 6 _ rfl
      simp only [Nat.add_zero] at c0 d0
      clear cx cy
      obtain ⟨nl, hnl⟩ : ∃ nl, ns.length = nl := ⟨_, rfl⟩
      obtain ⟨kl, hkl⟩ : ∃ kl, ks.length = kl := ⟨_, rfl⟩
      obtain ⟨a1, q1, hv1⟩ := n1.shape
      obtain ⟨a2, q2, hv2⟩ := n2.shape
      obtain ⟨a3, q3, hv3⟩ := k1.shape
      obtain ⟨a4, q4, hv4⟩ := k2.shape
      rw [List.length_map, hnl] at hv1 hv2
      rw [List.length_map, hkl] at hv3 hv4
      subst hv1 hv2 hv3 hv4
      have N1 := Lib.hid n1
      have N2 := Lib.hid n2
      have K1 := Lib.hid k1
      have K2 := Lib.hid k2
      simp only [hnl, hkl] at hbd
      obtain ⟨hbn, hbk⟩ := hbd
      have HNL := Lib.hid hnl
      have HKL := Lib.hid hkl
      have hkI : (k : Int) < (n : Int) := by omega
      have E7 := Lib.hid e7
      clear n1 n2 k1 k2 hnl hkl e7
      have hbl : Below w.heap.size w ((wr.alloc (.cells #[.int .i64 kd, .string tx, .int .i64 nn, .float .f64 fl, .slice a1 nl q1, .slice a3 kl q3, .int .i64 (p1 : Int)] 32)).alloc (.cells #[.int .i64 kd, .string tx, .int .i64 nn, .float .f64 fl, .slice a2 nl q2, .slice a4 kl q4, .int .i64 (p2 : Int)] 32)) :=
        (hb.alloc hb.size _).alloc (by have := hb.size; simp; omega) _
      have hbr : Below wr.heap.size wr ((wr.alloc (.cells #[.int .i64 kd, .string tx, .int .i64 nn, .float .f64 fl, .slice a1 nl q1, .slice a3 kl q3, .int .i64 (p1 : Int)] 32)).alloc (.cells #[.int .i64 kd, .string tx, .int .i64 nn, .float .f64 fl, .slice a2 nl q2, .slice a4 kl q4, .int .i64 (p2 : Int)] 32)) :=
        ((Below.refl _ _).alloc (Nat.le_refl _) _).alloc (by simp) _
      have m1 : ((wr.alloc (.cells #[.int .i64 kd, .string tx, .int .i64 nn, .float .f64 fl, .slice a1 nl q1, .slice a3 kl q3, .int .i64 (p1 : Int)] 32)).alloc (.cells #[.int .i64 kd, .string tx, .int .i64 nn, .float .f64 fl, .slice a2 nl q2, .slice a4 kl q4, .int .i64 (p2 : Int)] 32)).heap[wr.heap.size]? = some (.cells #[.int .i64 kd, .string tx, .int .i64 nn, .float .f64 fl, .slice a1 nl q1, .slice a3 kl q3, .int .i64 (p1 : Int)] 32 (0, 0)) := block_alloc (block_new _ _ rfl) _
      have m2 : ((wr.alloc (.cells #[.int .i64 kd, .string tx, .int .i64 nn, .float .f64 fl, .slice a1 nl q1, .slice a3 kl q3, .int .i64 (p1 : Int)] 32)).alloc (.cells #[.int .i64 kd, .string tx, .int .i64 nn, .float .f64 fl, .slice a2 nl q2, .slice a4 kl q4, .int .i64 (p2 : Int)] 32)).heap[wr.heap.size + 1]? = some (.cells #[.int .i64 kd, .string tx, .int .i64 nn, .float .f64 fl, .slice a2 nl q2, .slice a4 kl q4, .int .i64 (p2 : Int)] 32 (0, 0)) := block_new _ _ (by simp)
      have HBL := Lib.hid hbl
      have HBR := Lib.hid hbr
      have M1 := Lib.hid m1
      have M2 := Lib.hid m2
      clear hbl hbr m1 m2
      go_upto_region 8 with fail
      clear c0 c1 c2 c3 c4 c5 c6 d0 d1 d2 d3 d4 d5 d6
      generalize ((wr.alloc (.cells #[.int .i64 kd, .string tx, .int .i64 nn, .float .f64 fl, .slice a1 nl q1, .slice a3 kl q3, .int .i64 (p1 : Int)] 32)).alloc (.cells #[.int .i64 kd, .string tx, .int .i64 nn, .float .f64 fl, .slice a2 nl q2, .slice a4 kl q4, .int .i64 (p2 : Int)] 32)) = wa at *
      have N1a := Lib.hid (N1.out.keep (Below.keeps HBR.out))
      have N2a := Lib.hid (N2.out.keep (Below.keeps HBR.out))
      have K1a := Lib.hid (K1.out.keep (Below.keeps HBR.out))
      have K2a := Lib.hid (K2.out.keep (Below.keeps HBR.out))
      clear N1 N2 K1 K2 HBR
      obtain ⟨b1, hb1⟩ : ∃ b, wr.heap.size = b := ⟨_, rfl⟩
      obtain ⟨b2, hb2⟩ : ∃ b, wr.heap.size + 1 = b := ⟨_, rfl⟩
      rw [hb1] at M1
      rw [hb2] at M2
      rw [hb2, hb1]
      clear hb1 hb2 hb hgl hgl'
      have x0 := block_cell (i := 0) M1.out rfl
      have x1 := block_cell (i := 1) M1.out rfl
      have x2 := block_cell (i := 2) M1.out rfl
      have x3 := block_cell (i := 3) M1.out rfl
      have x4 := block_cell (i := 4) M1.out rfl
      have x5 := block_cell (i := 5) M1.out rfl
      have x6 := block_cell (i := 6) M1.out rfl
      have y0 := block_cell (i := 0) M2.out rfl
      have y1 := block_cell (i := 1) M2.out rfl
      have y2 := block_cell (i := 2) M2.out rfl
      have y3 := block_cell (i := 3) M2.out rfl
      have y4 := block_cell (i := 4) M2.out rfl
      have y5 := block_cell (i := 5) M2.out rfl
      have y6 := block_cell (i := 6) M2.out rfl
      go_cut [86] from 31 to 86 (fun v wx => v = .bool false ∧ Below wa.heap.size wa wx)
      case first =>
        refine with_frame fun a0 ha0 => ?_
        have e8 : a0.eval (.tmp 8) = .pointer (some ⟨b1, 0, none⟩) := by rw [ha0]; rfl
        have e9 : a0.eval (.tmp 9) = .pointer (some ⟨b2, 0, none⟩) := by rw [ha0]; rfl
        have e2 : a0.eval (.tmp 2) = .bool false := by rw [ha0]; rfl
        have hsz : a0.tmps.size = 123 := by rw [ha0]; rfl
        have HA := Lib.hid ha0
        clear ha0
        have hD : ∀ d, (List.range' 31 55).contains d = true → d < a0.tmps.size := by
          intro d h
          rw [hsz]
          have hm : d ∈ List.range' 31 55 := by simpa using h
          rw [List.mem_range'_1] at hm
          omega
        refine wp_region_tab (by kernel_rfl) 55 31 (fun jj => ([.pointer (some ⟨b1, 0, none⟩), .int .i64 kd, .pointer (some ⟨b2, 0, none⟩), .int .i64 kd, .bool false, .bool false, .pointer (some ⟨b1, 1, none⟩), .string tx, .pointer (some ⟨b2, 1, none⟩), .string tx, .bool false, .bool false, .bool false, .pointer (some ⟨b1, 2, none⟩), .int .i64 nn, .pointer (some ⟨b2, 2, none⟩), .int .i64 nn, .bool false, .bool false, .bool false, .pointer (some ⟨b1, 3, none⟩), .float .f64 fl, .int .u64 (fl : Int), .pointer (some ⟨b2, 3, none⟩), .float .f64 fl, .int .u64 (fl : Int), .bool false, .bool false, .bool false, .pointer (some ⟨b1, 4, none⟩), .slice a1 nl q1, .int .i64 (nl : Int), .pointer (some ⟨b2, 4, none⟩), .slice a2 nl q2, .int .i64 (nl : Int), .bool false, .bool false, .bool false, .pointer (some ⟨b1, 5, none⟩), .slice a3 kl q3, .int .i64 (kl : Int), .pointer (some ⟨b2, 5, none⟩), .slice a4 kl q4, .int .i64 (kl : Int), .bool false, .bool false, .bool false, .bool false, .bool false, undef, undef, undef, undef, undef, .bool false] : List Value).getD jj undef) (fun w' => Below wa.heap.size wa w') rfl (by kernel_rfl) (by kernel_rfl) (by (repeat' (first | (with_reducible exact Below.refl _ _) | (with_reducible assumption) | (with_reducible refine below_drewN ?_ _) | (with_reducible refine Below.drew ?_) | (with_reducible refine Below.alloc ?_ ?_ _) | (with_reducible refine Below.setCell ?_ ?_ _) | omega | (simp; done) | (simp; omega)))) ?_ ?_
        · intro i0 hi0 v w0 hW hv
          have x0 := cell_keeps hW x0
          have x1 := cell_keeps hW x1
          have x2 := cell_keeps hW x2
          have x3 := cell_keeps hW x3
          have x4 := cell_keeps hW x4
          have x5 := cell_keeps hW x5
          have x6 := cell_keeps hW x6
          have y0 := cell_keeps hW y0
          have y1 := cell_keeps hW y1
          have y2 := cell_keeps hW y2
          have y3 := cell_keeps hW y3
          have y4 := cell_keeps hW y4
          have y5 := cell_keeps hW y5
          have y6 := cell_keeps hW y6
          have inn : ∀ d, (List.range' 31 55).contains d = true → (frameOf a0 (List.range' 31 55) v).tmps[d]?.getD undef = v d := fun d h => frameOf_in' h (hD d h)
          rcases (by omega : i0 = 0 ∨ i0 = 1 ∨ i0 = 2 ∨ i0 = 3 ∨ i0 = 4 ∨ i0 = 5 ∨ i0 = 6 ∨ i0 = 7 ∨ i0 = 8 ∨ i0 = 9 ∨ i0 = 10 ∨ i0 = 11 ∨ i0 = 12 ∨ i0 = 13 ∨ i0 = 14 ∨ i0 = 15 ∨ i0 = 16 ∨ i0 = 17 ∨ i0 = 18 ∨ i0 = 19 ∨ i0 = 20 ∨ i0 = 21 ∨ i0 = 22 ∨ i0 = 23 ∨ i0 = 24 ∨ i0 = 25 ∨ i0 = 26 ∨ i0 = 27 ∨ i0 = 28 ∨ i0 = 29 ∨ i0 = 30 ∨ i0 = 31 ∨ i0 = 32 ∨ i0 = 33 ∨ i0 = 34 ∨ i0 = 35 ∨ i0 = 36 ∨ i0 = 37 ∨ i0 = 38 ∨ i0 = 39 ∨ i0 = 40 ∨ i0 = 41 ∨ i0 = 42 ∨ i0 = 43 ∨ i0 = 44 ∨ i0 = 45 ∨ i0 = 46 ∨ i0 = 47 ∨ i0 = 48 ∨ i0 = 49 ∨ i0 = 50 ∨ i0 = 51 ∨ i0 = 52 ∨ i0 = 53 ∨ i0 = 54) with rfl | rfl | rfl | rfl | rfl | rfl | rfl | rfl | rfl | rfl | rfl | rfl | rfl | rfl | rfl | rfl | rfl | rfl | rfl | rfl | rfl | rfl | rfl | rfl | rfl | rfl | rfl | rfl | rfl | rfl | rfl | rfl | rfl | rfl | rfl | rfl | rfl | rfl | rfl | rfl | rfl | rfl | rfl | rfl | rfl | rfl | rfl | rfl | rfl | rfl | rfl | rfl | rfl | rfl | rfl
          · -- operation 0
            have E8 : (frameOf a0 (List.range' 31 55) v).tmps[8]?.getD undef = .pointer (some ⟨b1, 0, none⟩) := (frameOf_out' rfl).trans e8
            refine wpOp_value (v := .pointer (some ⟨b1, 0, none⟩)) (w' := w0) rfl rfl (by go_simp) ?_
            exact ⟨frameOf_put rfl, hW⟩
          · -- operation 1
            have x31 : v 31 = .pointer (some ⟨b1, 0, none⟩) := hv 0 (by kernel_rfl)
            have E31 := (inn 31 rfl).trans x31
            refine wpOp_value (v := .int .i64 kd) (w' := w0) rfl rfl (by go_simp) ?_
            exact ⟨frameOf_put rfl, hW⟩
          · -- operation 2
            have E9 : (frameOf a0 (List.range' 31 55) v).tmps[9]?.getD undef = .pointer (some ⟨b2, 0, none⟩) := (frameOf_out' rfl).trans e9
            refine wpOp_value (v := .pointer (some ⟨b2, 0, none⟩)) (w' := w0) rfl rfl (by go_simp) ?_
            exact ⟨frameOf_put rfl, hW⟩
          · -- operation 3
            have x33 : v 33 = .pointer (some ⟨b2, 0, none⟩) := hv 2 (by kernel_rfl)
            have E33 := (inn 33 rfl).trans x33
            refine wpOp_value (v := .int .i64 kd) (w' := w0) rfl rfl (by go_simp) ?_
            exact ⟨frameOf_put rfl, hW⟩
          · -- operation 4
            have x32 : v 32 = .int .i64 kd := hv 1 (by kernel_rfl)
            have E32 := (inn 32 rfl).trans x32
            have x34 : v 34 = .int .i64 kd := hv 3 (by kernel_rfl)
            have E34 := (inn 34 rfl).trans x34
            refine wpOp_value (v := .bool false) (w' := w0) rfl rfl (by go_simp) ?_
            exact ⟨frameOf_put rfl, hW⟩
          · -- operation 5
            have x35 : v 35 = .bool false := hv 4 (by kernel_rfl)
            have E35 := (inn 35 rfl).trans x35
            refine wpOp_value (v := .bool false) (w' := w0) rfl rfl (by go_simp) ?_
            exact ⟨frameOf_put rfl, hW⟩
          · -- operation 6
            have E8 : (frameOf a0 (List.range' 31 55) v).tmps[8]?.getD undef = .pointer (some ⟨b1, 0, none⟩) := (frameOf_out' rfl).trans e8
            have x36 : v 36 = .bool false := hv 5 (by kernel_rfl)
            have E36 := (inn 36 rfl).trans x36
            refine wpOp_guard (v := .pointer (some ⟨b1, 1, none⟩)) (w' := w0) rfl rfl (yielded_at rfl rfl (by simp [frameOf, hsz]) E36) (by go_simp) ?_
            exact ⟨frameOf_put rfl, hW⟩
          · -- operation 7
            have x36 : v 36 = .bool false := hv 5 (by kernel_rfl)
            have E36 := (inn 36 rfl).trans x36
            have x37 : v 37 = .pointer (some ⟨b1, 1, none⟩) := hv 6 (by kernel_rfl)
            have E37 := (inn 37 rfl).trans x37
            refine wpOp_guard (v := .string tx) (w' := w0) rfl rfl (yielded_at rfl rfl (by simp [frameOf, hsz]) E36) (by go_simp) ?_
            exact ⟨frameOf_put rfl, hW⟩
          · -- operation 8
            have E9 : (frameOf a0 (List.range' 31 55) v).tmps[9]?.getD undef = .pointer (some ⟨b2, 0, none⟩) := (frameOf_out' rfl).trans e9
            have x36 : v 36 = .bool false := hv 5 (by kernel_rfl)
            have E36 := (inn 36 rfl).trans x36
            refine wpOp_guard (v := .pointer (some ⟨b2, 1, none⟩)) (w' := w0) rfl rfl (yielded_at rfl rfl (by simp [frameOf, hsz]) E36) (by go_simp) ?_
            exact ⟨frameOf_put rfl, hW⟩
          · -- operation 9
            have x36 : v 36 = .bool false := hv 5 (by kernel_rfl)
            have E36 := (inn 36 rfl).trans x36
            have x39 : v 39 = .pointer (some ⟨b2, 1, none⟩) := hv 8 (by kernel_rfl)
            have E39 := (inn 39 rfl).trans x39
            refine wpOp_guard (v := .string tx) (w' := w0) rfl rfl (yielded_at rfl rfl (by simp [frameOf, hsz]) E36) (by go_simp) ?_
            exact ⟨frameOf_put rfl, hW⟩
          · -- operation 10
            have x36 : v 36 = .bool false := hv 5 (by kernel_rfl)
            have E36 := (inn 36 rfl).trans x36
            have x38 : v 38 = .string tx := hv 7 (by kernel_rfl)
            have E38 := (inn 38 rfl).trans x38
            have x40 : v 40 = .string tx := hv 9 (by kernel_rfl)
            have E40 := (inn 40 rfl).trans x40
            refine wpOp_guard (v := .bool false) (w' := w0) rfl rfl (yielded_at rfl rfl (by simp [frameOf, hsz]) E36) (by go_simp) ?_
            exact ⟨frameOf_put rfl, hW⟩
          · -- operation 11
            have x36 : v 36 = .bool false := hv 5 (by kernel_rfl)
            have E36 := (inn 36 rfl).trans x36
            have x41 : v 41 = .bool false := hv 10 (by kernel_rfl)
            have E41 := (inn 41 rfl).trans x41
            refine wpOp_value (v := .bool false) (w' := w0) rfl rfl (by go_simp) ?_
            exact ⟨frameOf_put rfl, hW⟩
          · -- operation 12
            have x42 : v 42 = .bool false := hv 11 (by kernel_rfl)
            have E42 := (inn 42 rfl).trans x42
            refine wpOp_value (v := .bool false) (w' := w0) rfl rfl (by go_simp) ?_
            exact ⟨frameOf_put rfl, hW⟩
          · -- operation 13
            have E8 : (frameOf a0 (List.range' 31 55) v).tmps[8]?.getD undef = .pointer (some ⟨b1, 0, none⟩) := (frameOf_out' rfl).trans e8
            have x43 : v 43 = .bool false := hv 12 (by kernel_rfl)
            have E43 := (inn 43 rfl).trans x43
            refine wpOp_guard (v := .pointer (some ⟨b1, 2, none⟩)) (w' := w0) rfl rfl (yielded_at rfl rfl (by simp [frameOf, hsz]) E43) (by go_simp) ?_
            exact ⟨frameOf_put rfl, hW⟩
          · -- operation 14
            have x43 : v 43 = .bool false := hv 12 (by kernel_rfl)
            have E43 := (inn 43 rfl).trans x43
            have x44 : v 44 = .pointer (some ⟨b1, 2, none⟩) := hv 13 (by kernel_rfl)
            have E44 := (inn 44 rfl).trans x44
            refine wpOp_guard (v := .int .i64 nn) (w' := w0) rfl rfl (yielded_at rfl rfl (by simp [frameOf, hsz]) E43) (by go_simp) ?_
            exact ⟨frameOf_put rfl, hW⟩
          · -- operation 15
            have E9 : (frameOf a0 (List.range' 31 55) v).tmps[9]?.getD undef = .pointer (some ⟨b2, 0, none⟩) := (frameOf_out' rfl).trans e9
            have x43 : v 43 = .bool false := hv 12 (by kernel_rfl)
            have E43 := (inn 43 rfl).trans x43
            refine wpOp_guard (v := .pointer (some ⟨b2, 2, none⟩)) (w' := w0) rfl rfl (yielded_at rfl rfl (by simp [frameOf, hsz]) E43) (by go_simp) ?_
            exact ⟨frameOf_put rfl, hW⟩
          · -- operation 16
            have x43 : v 43 = .bool false := hv 12 (by kernel_rfl)
            have E43 := (inn 43 rfl).trans x43
            have x46 : v 46 = .pointer (some ⟨b2, 2, none⟩) := hv 15 (by kernel_rfl)
            have E46 := (inn 46 rfl).trans x46
            refine wpOp_guard (v := .int .i64 nn) (w' := w0) rfl rfl (yielded_at rfl rfl (by simp [frameOf, hsz]) E43) (by go_simp) ?_
            exact ⟨frameOf_put rfl, hW⟩
          · -- operation 17
            have x43 : v 43 = .bool false := hv 12 (by kernel_rfl)
            have E43 := (inn 43 rfl).trans x43
            have x45 : v 45 = .int .i64 nn := hv 14 (by kernel_rfl)
            have E45 := (inn 45 rfl).trans x45
            have x47 : v 47 = .int .i64 nn := hv 16 (by kernel_rfl)
            have E47 := (inn 47 rfl).trans x47
            refine wpOp_guard (v := .bool false) (w' := w0) rfl rfl (yielded_at rfl rfl (by simp [frameOf, hsz]) E43) (by go_simp) ?_
            exact ⟨frameOf_put rfl, hW⟩
          · -- operation 18
            have x43 : v 43 = .bool false := hv 12 (by kernel_rfl)
            have E43 := (inn 43 rfl).trans x43
            have x48 : v 48 = .bool false := hv 17 (by kernel_rfl)
            have E48 := (inn 48 rfl).trans x48
            refine wpOp_value (v := .bool false) (w' := w0) rfl rfl (by go_simp) ?_
            exact ⟨frameOf_put rfl, hW⟩
          · -- operation 19
            have x49 : v 49 = .bool false := hv 18 (by kernel_rfl)
            have E49 := (inn 49 rfl).trans x49
            refine wpOp_value (v := .bool false) (w' := w0) rfl rfl (by go_simp) ?_
            exact ⟨frameOf_put rfl, hW⟩
          · -- operation 20
            have E8 : (frameOf a0 (List.range' 31 55) v).tmps[8]?.getD undef = .pointer (some ⟨b1, 0, none⟩) := (frameOf_out' rfl).trans e8
            have x50 : v 50 = .bool false := hv 19 (by kernel_rfl)
            have E50 := (inn 50 rfl).trans x50
            refine wpOp_guard (v := .pointer (some ⟨b1, 3, none⟩)) (w' := w0) rfl rfl (yielded_at rfl rfl (by simp [frameOf, hsz]) E50) (by go_simp) ?_
            exact ⟨frameOf_put rfl, hW⟩
          · -- operation 21
            have x50 : v 50 = .bool false := hv 19 (by kernel_rfl)
            have E50 := (inn 50 rfl).trans x50
            have x51 : v 51 = .pointer (some ⟨b1, 3, none⟩) := hv 20 (by kernel_rfl)
            have E51 := (inn 51 rfl).trans x51
            refine wpOp_guard (v := .float .f64 fl) (w' := w0) rfl rfl (yielded_at rfl rfl (by simp [frameOf, hsz]) E50) (by go_simp) ?_
            exact ⟨frameOf_put rfl, hW⟩
          · -- operation 22
            have x50 : v 50 = .bool false := hv 19 (by kernel_rfl)
            have E50 := (inn 50 rfl).trans x50
            have x52 : v 52 = .float .f64 fl := hv 21 (by kernel_rfl)
            have E52 := (inn 52 rfl).trans x52
            refine wpOp_guard (v := .int .u64 (fl : Int)) (w' := w0) rfl rfl (yielded_at rfl rfl (by simp [frameOf, hsz]) E50) (by go_simp) ?_
            exact ⟨frameOf_put rfl, hW⟩
          · -- operation 23
            have E9 : (frameOf a0 (List.range' 31 55) v).tmps[9]?.getD undef = .pointer (some ⟨b2, 0, none⟩) := (frameOf_out' rfl).trans e9
            have x50 : v 50 = .bool false := hv 19 (by kernel_rfl)
            have E50 := (inn 50 rfl).trans x50
            refine wpOp_guard (v := .pointer (some ⟨b2, 3, none⟩)) (w' := w0) rfl rfl (yielded_at rfl rfl (by simp [frameOf, hsz]) E50) (by go_simp) ?_
            exact ⟨frameOf_put rfl, hW⟩
          · -- operation 24
            have x50 : v 50 = .bool false := hv 19 (by kernel_rfl)
            have E50 := (inn 50 rfl).trans x50
            have x54 : v 54 = .pointer (some ⟨b2, 3, none⟩) := hv 23 (by kernel_rfl)
            have E54 := (inn 54 rfl).trans x54
            refine wpOp_guard (v := .float .f64 fl) (w' := w0) rfl rfl (yielded_at rfl rfl (by simp [frameOf, hsz]) E50) (by go_simp) ?_
            exact ⟨frameOf_put rfl, hW⟩
          · -- operation 25
            have x50 : v 50 = .bool false := hv 19 (by kernel_rfl)
            have E50 := (inn 50 rfl).trans x50
            have x55 : v 55 = .float .f64 fl := hv 24 (by kernel_rfl)
            have E55 := (inn 55 rfl).trans x55
            refine wpOp_guard (v := .int .u64 (fl : Int)) (w' := w0) rfl rfl (yielded_at rfl rfl (by simp [frameOf, hsz]) E50) (by go_simp) ?_
            exact ⟨frameOf_put rfl, hW⟩
          · -- operation 26
            have x50 : v 50 = .bool false := hv 19 (by kernel_rfl)
            have E50 := (inn 50 rfl).trans x50
            have x53 : v 53 = .int .u64 (fl : Int) := hv 22 (by kernel_rfl)
            have E53 := (inn 53 rfl).trans x53
            have x56 : v 56 = .int .u64 (fl : Int) := hv 25 (by kernel_rfl)
            have E56 := (inn 56 rfl).trans x56
            refine wpOp_guard (v := .bool false) (w' := w0) rfl rfl (yielded_at rfl rfl (by simp [frameOf, hsz]) E50) (by go_simp) ?_
            exact ⟨frameOf_put rfl, hW⟩
          · -- operation 27
            have x50 : v 50 = .bool false := hv 19 (by kernel_rfl)
            have E50 := (inn 50 rfl).trans x50
            have x57 : v 57 = .bool false := hv 26 (by kernel_rfl)
            have E57 := (inn 57 rfl).trans x57
            refine wpOp_value (v := .bool false) (w' := w0) rfl rfl (by go_simp) ?_
            exact ⟨frameOf_put rfl, hW⟩
          · -- operation 28
            have x58 : v 58 = .bool false := hv 27 (by kernel_rfl)
            have E58 := (inn 58 rfl).trans x58
            refine wpOp_value (v := .bool false) (w' := w0) rfl rfl (by go_simp) ?_
            exact ⟨frameOf_put rfl, hW⟩
          · -- operation 29
            have E8 : (frameOf a0 (List.range' 31 55) v).tmps[8]?.getD undef = .pointer (some ⟨b1, 0, none⟩) := (frameOf_out' rfl).trans e8
            have x59 : v 59 = .bool false := hv 28 (by kernel_rfl)
            have E59 := (inn 59 rfl).trans x59
            refine wpOp_guard (v := .pointer (some ⟨b1, 4, none⟩)) (w' := w0) rfl rfl (yielded_at rfl rfl (by simp [frameOf, hsz]) E59) (by go_simp) ?_
            exact ⟨frameOf_put rfl, hW⟩
          · -- operation 30
            have x59 : v 59 = .bool false := hv 28 (by kernel_rfl)
            have E59 := (inn 59 rfl).trans x59
            have x60 : v 60 = .pointer (some ⟨b1, 4, none⟩) := hv 29 (by kernel_rfl)
            have E60 := (inn 60 rfl).trans x60
            refine wpOp_guard (v := .slice a1 nl q1) (w' := w0) rfl rfl (yielded_at rfl rfl (by simp [frameOf, hsz]) E59) (by go_simp) ?_
            exact ⟨frameOf_put rfl, hW⟩
          · -- operation 31
            have x59 : v 59 = .bool false := hv 28 (by kernel_rfl)
            have E59 := (inn 59 rfl).trans x59
            have x61 : v 61 = .slice a1 nl q1 := hv 30 (by kernel_rfl)
            have E61 := (inn 61 rfl).trans x61
            refine wpOp_guard (v := .int .i64 (nl : Int)) (w' := w0) rfl rfl (yielded_at rfl rfl (by simp [frameOf, hsz]) E59) (by go_simp) ?_
            exact ⟨frameOf_put rfl, hW⟩
          · -- operation 32
            have E9 : (frameOf a0 (List.range' 31 55) v).tmps[9]?.getD undef = .pointer (some ⟨b2, 0, none⟩) := (frameOf_out' rfl).trans e9
            have x59 : v 59 = .bool false := hv 28 (by kernel_rfl)
            have E59 := (inn 59 rfl).trans x59
            refine wpOp_guard (v := .pointer (some ⟨b2, 4, none⟩)) (w' := w0) rfl rfl (yielded_at rfl rfl (by simp [frameOf, hsz]) E59) (by go_simp) ?_
            exact ⟨frameOf_put rfl, hW⟩
          · -- operation 33
            have x59 : v 59 = .bool false := hv 28 (by kernel_rfl)
            have E59 := (inn 59 rfl).trans x59
            have x63 : v 63 = .pointer (some ⟨b2, 4, none⟩) := hv 32 (by kernel_rfl)
            have E63 := (inn 63 rfl).trans x63
            refine wpOp_guard (v := .slice a2 nl q2) (w' := w0) rfl rfl (yielded_at rfl rfl (by simp [frameOf, hsz]) E59) (by go_simp) ?_
            exact ⟨frameOf_put rfl, hW⟩
          · -- operation 34
            have x59 : v 59 = .bool false := hv 28 (by kernel_rfl)
            have E59 := (inn 59 rfl).trans x59
            have x64 : v 64 = .slice a2 nl q2 := hv 33 (by kernel_rfl)
            have E64 := (inn 64 rfl).trans x64
            refine wpOp_guard (v := .int .i64 (nl : Int)) (w' := w0) rfl rfl (yielded_at rfl rfl (by simp [frameOf, hsz]) E59) (by go_simp) ?_
            exact ⟨frameOf_put rfl, hW⟩
          · -- operation 35
            have x59 : v 59 = .bool false := hv 28 (by kernel_rfl)
            have E59 := (inn 59 rfl).trans x59
            have x62 : v 62 = .int .i64 (nl : Int) := hv 31 (by kernel_rfl)
            have E62 := (inn 62 rfl).trans x62
            have x65 : v 65 = .int .i64 (nl : Int) := hv 34 (by kernel_rfl)
            have E65 := (inn 65 rfl).trans x65
            refine wpOp_guard (v := .bool false) (w' := w0) rfl rfl (yielded_at rfl rfl (by simp [frameOf, hsz]) E59) (by go_simp) ?_
            exact ⟨frameOf_put rfl, hW⟩
          · -- operation 36
            have x59 : v 59 = .bool false := hv 28 (by kernel_rfl)
            have E59 := (inn 59 rfl).trans x59
            have x66 : v 66 = .bool false := hv 35 (by kernel_rfl)
            have E66 := (inn 66 rfl).trans x66
            refine wpOp_value (v := .bool false) (w' := w0) rfl rfl (by go_simp) ?_
            exact ⟨frameOf_put rfl, hW⟩
          · -- operation 37
            have x67 : v 67 = .bool false := hv 36 (by kernel_rfl)
            have E67 := (inn 67 rfl).trans x67
            refine wpOp_value (v := .bool false) (w' := w0) rfl rfl (by go_simp) ?_
            exact ⟨frameOf_put rfl, hW⟩
          · -- operation 38
            have E8 : (frameOf a0 (List.range' 31 55) v).tmps[8]?.getD undef = .pointer (some ⟨b1, 0, none⟩) := (frameOf_out' rfl).trans e8
            have x68 : v 68 = .bool false := hv 37 (by kernel_rfl)
            have E68 := (inn 68 rfl).trans x68
            refine wpOp_guard (v := .pointer (some ⟨b1, 5, none⟩)) (w' := w0) rfl rfl (yielded_at rfl rfl (by simp [frameOf, hsz]) E68) (by go_simp) ?_
            exact ⟨frameOf_put rfl, hW⟩
          · -- operation 39
            have x68 : v 68 = .bool false := hv 37 (by kernel_rfl)
            have E68 := (inn 68 rfl).trans x68
            have x69 : v 69 = .pointer (some ⟨b1, 5, none⟩) := hv 38 (by kernel_rfl)
            have E69 := (inn 69 rfl).trans x69
            refine wpOp_guard (v := .slice a3 kl q3) (w' := w0) rfl rfl (yielded_at rfl rfl (by simp [frameOf, hsz]) E68) (by go_simp) ?_
            exact ⟨frameOf_put rfl, hW⟩
          · -- operation 40
            have x68 : v 68 = .bool false := hv 37 (by kernel_rfl)
            have E68 := (inn 68 rfl).trans x68
            have x70 : v 70 = .slice a3 kl q3 := hv 39 (by kernel_rfl)
            have E70 := (inn 70 rfl).trans x70
            refine wpOp_guard (v := .int .i64 (kl : Int)) (w' := w0) rfl rfl (yielded_at rfl rfl (by simp [frameOf, hsz]) E68) (by go_simp) ?_
            exact ⟨frameOf_put rfl, hW⟩
          · -- operation 41
            have E9 : (frameOf a0 (List.range' 31 55) v).tmps[9]?.getD undef = .pointer (some ⟨b2, 0, none⟩) := (frameOf_out' rfl).trans e9
            have x68 : v 68 = .bool false := hv 37 (by kernel_rfl)
            have E68 := (inn 68 rfl).trans x68
            refine wpOp_guard (v := .pointer (some ⟨b2, 5, none⟩)) (w' := w0) rfl rfl (yielded_at rfl rfl (by simp [frameOf, hsz]) E68) (by go_simp) ?_
            exact ⟨frameOf_put rfl, hW⟩
          · -- operation 42
            have x68 : v 68 = .bool false := hv 37 (by kernel_rfl)
            have E68 := (inn 68 rfl).trans x68
            have x72 : v 72 = .pointer (some ⟨b2, 5, none⟩) := hv 41 (by kernel_rfl)
            have E72 := (inn 72 rfl).trans x72
            refine wpOp_guard (v := .slice a4 kl q4) (w' := w0) rfl rfl (yielded_at rfl rfl (by simp [frameOf, hsz]) E68) (by go_simp) ?_
            exact ⟨frameOf_put rfl, hW⟩
          · -- operation 43
            have x68 : v 68 = .bool false := hv 37 (by kernel_rfl)
            have E68 := (inn 68 rfl).trans x68
            have x73 : v 73 = .slice a4 kl q4 := hv 42 (by kernel_rfl)
            have E73 := (inn 73 rfl).trans x73
            refine wpOp_guard (v := .int .i64 (kl : Int)) (w' := w0) rfl rfl (yielded_at rfl rfl (by simp [frameOf, hsz]) E68) (by go_simp) ?_
            exact ⟨frameOf_put rfl, hW⟩
          · -- operation 44
            have x68 : v 68 = .bool false := hv 37 (by kernel_rfl)
            have E68 := (inn 68 rfl).trans x68
            have x71 : v 71 = .int .i64 (kl : Int) := hv 40 (by kernel_rfl)
            have E71 := (inn 71 rfl).trans x71
            have x74 : v 74 = .int .i64 (kl : Int) := hv 43 (by kernel_rfl)
            have E74 := (inn 74 rfl).trans x74
            refine wpOp_guard (v := .bool false) (w' := w0) rfl rfl (yielded_at rfl rfl (by simp [frameOf, hsz]) E68) (by go_simp) ?_
            exact ⟨frameOf_put rfl, hW⟩
          · -- operation 45
            have x68 : v 68 = .bool false := hv 37 (by kernel_rfl)
            have E68 := (inn 68 rfl).trans x68
            have x75 : v 75 = .bool false := hv 44 (by kernel_rfl)
            have E75 := (inn 75 rfl).trans x75
            refine wpOp_value (v := .bool false) (w' := w0) rfl rfl (by go_simp) ?_
            exact ⟨frameOf_put rfl, hW⟩
          · -- operation 46
            have x76 : v 76 = .bool false := hv 45 (by kernel_rfl)
            have E76 := (inn 76 rfl).trans x76
            refine wpOp_value (v := .bool false) (w' := w0) rfl rfl (by go_simp) ?_
            exact ⟨frameOf_put rfl, hW⟩
          · -- operation 47
            have E2 : (frameOf a0 (List.range' 31 55) v).tmps[2]?.getD undef = .bool false := (frameOf_out' rfl).trans e2
            have x77 : v 77 = .bool false := hv 46 (by kernel_rfl)
            have E77 := (inn 77 rfl).trans x77
            refine wpOp_guard (v := .bool false) (w' := w0) rfl rfl (yielded_at rfl rfl (by simp [frameOf, hsz]) E77) (by go_simp) ?_
            exact ⟨frameOf_put rfl, hW⟩
          · -- operation 48
            have x77 : v 77 = .bool false := hv 46 (by kernel_rfl)
            have E77 := (inn 77 rfl).trans x77
            have x78 : v 78 = .bool false := hv 47 (by kernel_rfl)
            have E78 := (inn 78 rfl).trans x78
            refine wpOp_guard (v := .bool false) (w' := w0) rfl rfl (yielded_at rfl rfl (by simp [frameOf, hsz]) E77) (by go_simp) ?_
            exact ⟨frameOf_put rfl, hW⟩
          · -- operation 49
            have E8 : (frameOf a0 (List.range' 31 55) v).tmps[8]?.getD undef = .pointer (some ⟨b1, 0, none⟩) := (frameOf_out' rfl).trans e8
            have x79 : v 79 = .bool false := hv 48 (by kernel_rfl)
            have E79 := (inn 79 rfl).trans x79
            refine wpOp_out rfl rfl (yielded_at rfl rfl (by simp [frameOf, hsz]) E79) (by decide) ?_
            exact ⟨frameOf_put rfl, hW⟩
          · -- operation 50
            have x79 : v 79 = .bool false := hv 48 (by kernel_rfl)
            have E79 := (inn 79 rfl).trans x79
            have x80 : v 80 = undef := hv 49 (by kernel_rfl)
            have E80 := (inn 80 rfl).trans x80
            refine wpOp_out rfl rfl (yielded_at rfl rfl (by simp [frameOf, hsz]) E79) (by decide) ?_
            exact ⟨frameOf_put rfl, hW⟩
          · -- operation 51
            have E9 : (frameOf a0 (List.range' 31 55) v).tmps[9]?.getD undef = .pointer (some ⟨b2, 0, none⟩) := (frameOf_out' rfl).trans e9
            have x79 : v 79 = .bool false := hv 48 (by kernel_rfl)
            have E79 := (inn 79 rfl).trans x79
            refine wpOp_out rfl rfl (yielded_at rfl rfl (by simp [frameOf, hsz]) E79) (by decide) ?_
            exact ⟨frameOf_put rfl, hW⟩
          · -- operation 52
            have x79 : v 79 = .bool false := hv 48 (by kernel_rfl)
            have E79 := (inn 79 rfl).trans x79
            have x82 : v 82 = undef := hv 51 (by kernel_rfl)
            have E82 := (inn 82 rfl).trans x82
            refine wpOp_out rfl rfl (yielded_at rfl rfl (by simp [frameOf, hsz]) E79) (by decide) ?_
            exact ⟨frameOf_put rfl, hW⟩
          · -- operation 53
            have x79 : v 79 = .bool false := hv 48 (by kernel_rfl)
            have E79 := (inn 79 rfl).trans x79
            have x81 : v 81 = undef := hv 50 (by kernel_rfl)
            have E81 := (inn 81 rfl).trans x81
            have x83 : v 83 = undef := hv 52 (by kernel_rfl)
            have E83 := (inn 83 rfl).trans x83
            refine wpOp_out rfl rfl (yielded_at rfl rfl (by simp [frameOf, hsz]) E79) (by decide) ?_
            exact ⟨frameOf_put rfl, hW⟩
          · -- operation 54
            have x77 : v 77 = .bool false := hv 46 (by kernel_rfl)
            have E77 := (inn 77 rfl).trans x77
            have x79 : v 79 = .bool false := hv 48 (by kernel_rfl)
            have E79 := (inn 79 rfl).trans x79
            have x84 : v 84 = undef := hv 53 (by kernel_rfl)
            have E84 := (inn 84 rfl).trans x84
            refine wpOp_guard (v := .bool false) (w' := w0) rfl rfl (yielded_at rfl rfl (by simp [frameOf, hsz]) E77) (by go_simp) ?_
            exact ⟨frameOf_put rfl, hW⟩
        · intro w0 hW
          have h0 := HA.out
          subst h0
          have hrg : List.range' 31 55 = [31, 32, 33, 34, 35, 36, 37, 38, 39, 40, 41, 42, 43, 44, 45, 46, 47, 48, 49, 50, 51, 52, 53, 54, 55, 56, 57, 58, 59, 60, 61, 62, 63, 64, 65, 66, 67, 68, 69, 70, 71, 72, 73, 74, 75, 76, 77, 78, 79, 80, 81, 82, 83, 84, 85] := rfl
          rw [hrg]
          clear hrg
          simp only [frameOf_cons, frameOf_nil, Act.put, List.setIfInBounds_toArray, List.set_cons_zero, List.set_cons_succ]
          refine wpOp_value (v := .bool false) (w' := w0) rfl rfl (by go_simp) ?_
          go_wp2_with fail
          go_meet
          exact ⟨rfl, hW⟩
      case rest =>
        obtain ⟨rfl, hbx⟩ := hcut
        have x4 := cell_keeps hbx x4
        have x5 := cell_keeps hbx x5
        have y4 := cell_keeps hbx y4
        have y5 := cell_keeps hbx y5
        have HBX := Lib.hid (HBL.out.trans (hbx.mono HBL.out.size))
        have N1b := Lib.hid (N1a.out.keep (Below.keeps hbx))
        have N2b := Lib.hid (N2a.out.keep (Below.keeps hbx))
        have K1b := Lib.hid (K1a.out.keep (Below.keeps hbx))
        have K2b := Lib.hid (K2a.out.keep (Below.keeps hbx))
        clear x0 x1 x2 x3 x6 y0 y1 y2 y3 y6 hbx N1a N2a K1a K2a HBL M1 M2
        go_wp2_with fail
        go_loopw [10] (fun i wq => ∃ j z : Nat, j ≤ nl ∧ i = .int .i64 (j : Int) ∧ wq = wc.drewN z) (fun i _ => nl - (intOf i).toNat)
        case atStart => exact ⟨0, 0, Nat.zero_le _, rfl, rfl⟩
        case round =>
          obtain ⟨j, z, hj, rfl, rfl⟩ := hrel
          by_cases hlj : j < nl
          · obtain ⟨s, hs⟩ : ∃ s, ns[j]? = some s := ⟨_, List.getElem?_eq_getElem (by have := HNL.out; omega)⟩
            obtain ⟨g1, h1, _, r1⟩ := N1b.out.cell rfl (j := j) (u := .string s) (by rw [List.getElem?_map, hs]; rfl)
            obtain ⟨g2, h2, _, r2⟩ := N2b.out.cell rfl (j := j) (u := .string s) (by rw [List.getElem?_map, hs]; rfl)
            subst h1 h2
            have hjI : (j : Int) < (nl : Int) := by omega
            clear hs
            go_wp2_with fail
            go_quiet (fail)
            go_wp2_with fail
            go_roundw
            case rel => exact ⟨j + 1, _, by omega, by go_num, rfl⟩
            case measure => simp [intOf]; omega
          · obtain rfl : j = nl := by omega
            go_wp2_with fail
            go_loopw [11] (fun i wq => ∃ j z : Nat, j ≤ kl ∧ i = .int .i64 (j : Int) ∧ wq = wc.drewN z) (fun i _ => kl - (intOf i).toNat)
            case atStart => exact ⟨0, z, Nat.zero_le _, rfl, rfl⟩
            case round =>
              obtain ⟨j2, z2, hj2, rfl, rfl⟩ := hrel
              by_cases hlj2 : j2 < kl
              · obtain ⟨s, hs⟩ : ∃ s, ks[j2]? = some s := ⟨_, List.getElem?_eq_getElem (by have := HKL.out; omega)⟩
                obtain ⟨g1, h1, _, r1⟩ := K1b.out.cell rfl (j := j2) (u := num s) (by rw [List.getElem?_map, hs]; rfl)
                obtain ⟨g2, h2, _, r2⟩ := K2b.out.cell rfl (j := j2) (u := num s) (by rw [List.getElem?_map, hs]; rfl)
                subst h1 h2
                unfold num at r1 r2
                have hjI : (j2 : Int) < (kl : Int) := by omega
                clear hs
                go_wp2_with fail
                go_quiet (fail)
                go_wp2_with fail
                go_roundw
                case rel => exact ⟨j2 + 1, _, by omega, by go_num, rfl⟩
                case measure => simp [intOf]; omega
              · obtain rfl : j2 = kl := by omega
                go_wp2_with fail
                go_roundw
                case rel => exact ⟨k + 1, by omega, by go_num, below_drewN HBX.out _⟩
                case measure => simp [intOf]; omega
    · obtain rfl : k = n := by omega
      go_wp2_with fail
      go_ret
      exact ⟨rfl, hb⟩
end Go.Proofs.YtppljgallbmgcaaGreatDoor
