/- The program's Diff: it answers out of a set that is closed and the greatest. -/
import Derived.Test.YtlhlbckmifgeeaaDiffE
import Derived.Test.YtlhlbckmifgeeaaRegTab
import Derived.Test.YtlhlbckmifgeeaaCopied
import Derived.StillTailTactics
import Derived.Deep.DeepCutAuto
import Derived.Laws.OwnMore
import Derived.Deep.RegionLaw
import Derived.Laws.EntriesVeiled
namespace Go.Proofs.Ytlhlbckmifgeeaa
open Go.RowKit Go.Shelf
attribute [local go_sem] Oper.semAt_some

set_option maxHeartbeats 4000000 in
set_option maxRecDepth 100000 in
theorem unitsDiff_any {v1 v2 : Value} {old fresh : List U} {w : World} (h1 : UL w v1 old) (h2 : UL w v2 fresh) (hsz1 : sizeU old ≤ 2000) (hsz2 : sizeU fresh ≤ 2000) :
    Calls Try.prog 15 #[v1, v2] w fun e w' => ∃ S, Mid old fresh S ∧ Closed old fresh S ∧ DAns w w' e old fresh S := by
  have h10 := h1
  have h20 := h2
  obtain ⟨a1, cap1, rfl, hm1, hc1⟩ := h10
  obtain ⟨a2, cap2, rfl, hm2, hc2⟩ := h20
  have hlo : old.length ≤ 2000 := by unfold sizeU at hsz1; omega
  have hln : fresh.length ≤ 2000 := by unfold sizeU at hsz2; omega
  have hmm := @run_makeMap Try.prog
  generalize hn1 : old.length = n1 at *
  generalize hn2 : fresh.length = n2 at *
  have HN1 := Lib.hid hn1
  have HN2 := Lib.hid hn2
  have HC1 := Lib.hid hc1
  have HC2 := Lib.hid hc2
  clear hn1 hn2 hc1 hc2 hsz1 hsz2
  refine (callsIn_wide (n := 3)).1 (callsIn_of_wp_marks Try.func15 rfl trivial (wpIn_wide.2 ?_) rfl)
  simp only [Try.ntmps15, List.size_toArray, List.length_cons, List.length_nil, Nat.reduceAdd, Nat.reduceSub, Array.replicate_succ, Array.replicate_zero, List.push_toArray, List.append_toArray, List.nil_append, List.cons_append]
  go_wp2_with fail
  simp only [Nat.add_assoc, Nat.reduceAdd]
  go_loopw [21] (fun i wr => ∃ k : Nat, k ≤ n2 ∧ i = .int .i64 k ∧ MF wr (w.heap.size + 3) k (FS (refS fresh (bits old fresh k))) ∧ Bx wr w.heap.size (.slice a1 n1 cap1) (.slice a2 n2 cap2) ∧ wr.heap[w.heap.size + 2]? = some (.cells #[.slice none 0 0] 30 (0, 0)) ∧ Below w.heap.size w wr ∧ w.heap.size + 5 ≤ wr.heap.size) (fun i _ => n2 - (intOf i).toNat)
  case atStart =>
    refine ⟨0, Nat.zero_le _, rfl, ?_, ⟨?_, ?_, ?_⟩, ?_, (by (repeat' (first | (with_reducible exact Below.refl _ _) | (with_reducible assumption) | (with_reducible refine below_drewN ?_ _) | (with_reducible refine Below.drew ?_) | (with_reducible refine Below.alloc ?_ ?_ _) | (with_reducible refine Below.setCell ?_ ?_ _) | omega | (simp; done) | (simp; omega)))), by simp⟩
    · rw [bits_zero]
      exact (MF.made _ (by simp)).kept (World.grownBy_alloc _ _ none) (by simp)
    · exact block_alloc (block_alloc (block_alloc (block_alloc (block_new _ _ rfl) _) _) _) _
    · exact block_alloc (block_alloc (block_alloc (block_new _ _ (by simp)) _) _) _
    · exact block_new _ _ (by simp)
    · exact block_alloc (block_alloc (block_new _ _ (by simp)) _) _
  case round =>
    clear hmm
    obtain ⟨k, hk, rfl, hM, hE, hS4, hb, hz⟩ := hrel
    by_cases hlt : k < n2
    · obtain ⟨u, hu⟩ := get_lt fresh (k := k) (by have := HN2.out; omega)
      obtain ⟨b, off, rfl, hcu, _⟩ := HC2.out k _ hu
      have hcu := UCP.keeps hb hcu
      obtain ⟨p0, p1, hsn, hss, r1, f1, p2, p3, hr, hf⟩ := hcu
      have hr' := hr
      have hf' := hf
      obtain ⟨ra, rc, rfl, _, _, _⟩ := hr'
      obtain ⟨fa, fc, rfl, _, _, _⟩ := hf'
      have co := block_cell (i := 0) hE.o rfl
      have cf := block_cell (i := 0) hE.f rfl
      have cm := block_cell (i := 0) hE.m rfl
      have hzo : w.heap.size < wr.heap.size := by omega
      have hz1 : w.heap.size + 1 < wr.heap.size := by omega
      have hz4 : w.heap.size + 4 < wr.heap.size := by omega
      have hkk : ((k : Int) == (k : Int)) = true := by simp
      have HU := Lib.hid hu
      clear hu
      generalize hq : findI old u.name = q
      generalize hp : findI fresh u.name = p
      have HQ := Lib.hid hq
      have HF := Lib.hid hp
      clear hq hp
      go_wp2_with fail
      refine (index_any (ULP.keeps (by (repeat' (first | (with_reducible exact Below.refl _ _) | (with_reducible assumption) | (with_reducible refine below_drewN ?_ _) | (with_reducible refine Below.drew ?_) | (with_reducible refine Below.alloc ?_ ?_ _) | (with_reducible refine Below.setCell ?_ ?_ _) | omega | (simp; done) | (simp; omega)))) h1) u.name).mono ?_
      rw [HQ.out]
      rintro e w1 ⟨rfl, hb1⟩
      obtain ⟨T, hT⟩ : ∃ T, wr.heap.size = T := ⟨_, rfl⟩
      have hu9 : w1.heap[T]? = some (.cells #[.string u.name, .string u.start, .slice ra u.req.length rc, .slice fa u.aft.length fc] 32 (0, 0)) := by
        rw [hb1.block T (by simp; omega)]
        exact block_new _ _ hT.symm
      have t0 := block_cell (i := 0) hu9 rfl
      have t1 := block_cell (i := 1) hu9 rfl
      have t2 := block_cell (i := 2) hu9 rfl
      have t3 := block_cell (i := 3) hu9 rfl
      have hb0 := hb1
      go_upto_region 6 with fail
      go_cut [47] from 30 to 47 (fun c wx => ∃ B : Bool, c = .bool B ∧ B = bit0 old fresh k ∧ Below w1.heap.size w1 wx)
      case first =>
        have hbn : Below w.heap.size w w1 := Below.next (by (repeat' (first | (with_reducible exact Below.refl _ _) | (with_reducible assumption) | (with_reducible refine below_drewN ?_ _) | (with_reducible refine Below.drew ?_) | (with_reducible refine Below.alloc ?_ ?_ _) | (with_reducible refine Below.setCell ?_ ?_ _) | omega | (simp; done) | (simp; omega)))) hb1
        have hb2 : Below wr.heap.size wr w1 := Below.next (by (repeat' (first | (with_reducible exact Below.refl _ _) | (with_reducible assumption) | (with_reducible refine below_drewN ?_ _) | (with_reducible refine Below.drew ?_) | (with_reducible refine Below.alloc ?_ ?_ _) | (with_reducible refine Below.setCell ?_ ?_ _) | omega | (simp; done) | (simp; omega)))) hb1
        have co : w1.cell? ⟨w.heap.size, 0, none⟩ = some (.slice a1 n1 cap1) := cell_keeps hb2 co
        have cf : w1.cell? ⟨w.heap.size + 1, 0, none⟩ = some (.slice (some ⟨b, off, none⟩) n2 cap2) := cell_keeps hb2 cf
        have hv1 : UV w1 (.agg #[.string u.name, .string u.start, .slice ra u.req.length rc, .slice fa u.aft.length fc]) u := by
          exact ⟨_, _, rfl, hsn, hss, hr.keeps hb2, hf.keeps hb2⟩
        clear hM hS4 hE p0 p1 p2 p3 hu9 hr hf cm
        by_cases hpk : p = (k : Int)
        · subst hpk
          rcases findI_cases old u.name with hq0 | ⟨i, hq0⟩
          · have : q = -1 := by rw [← HQ.out]; exact hq0
            subst this
            clear hq0
            refine with_frame fun a0 ha0 => ?_
            have e2 : a0.eval (.tmp 2) = .pointer (some ⟨w.heap.size, 0, none⟩) := by rw [ha0]; rfl
            have e3 : a0.eval (.tmp 3) = .pointer (some ⟨w.heap.size + 1, 0, none⟩) := by rw [ha0]; rfl
            have e8 : a0.eval (.tmp 8) = .int .i64 (k : Int) := by rw [ha0]; rfl
            have e9 : a0.eval (.tmp 9) = .pointer (some ⟨T, 0, none⟩) := by rw [ha0]; rfl
            have e10 : a0.eval (.tmp 10) = .int .i64 (-1) := by rw [ha0]; rfl
            have hsz : a0.tmps.size = 126 := by rw [ha0]; rfl
            have HA := Lib.hid ha0
            clear ha0
            have hD : ∀ d, (List.range' 30 17).contains d = true → d < a0.tmps.size := by
              intro d h
              rw [hsz]
              have hm : d ∈ List.range' 30 17 := by simpa using h
              rw [List.mem_range'_1] at hm
              omega
            refine wp_region_tab (by kernel_rfl) 17 30 (fun jj => ([.slice (some ⟨b, off, none⟩) n2 cap2, .pointer (some ⟨T, 0, none⟩), .string u.name, .int .i64 (k : Int), .int .i64 (k : Int), .bool true, .bool true, .int .i64 (-1), .bool false, .bool false, .bool false, undef, undef, undef, undef, undef, undef] : List Value).getD jj undef) (fun w' => Below w1.heap.size w1 w') rfl (by kernel_rfl) (by kernel_rfl) (by (repeat' (first | (with_reducible exact Below.refl _ _) | (with_reducible assumption) | (with_reducible refine below_drewN ?_ _) | (with_reducible refine Below.drew ?_) | (with_reducible refine Below.alloc ?_ ?_ _) | (with_reducible refine Below.setCell ?_ ?_ _) | omega | (simp; done) | (simp; omega)))) ?_ ?_
            · intro i0 hi v w0 hW hv
              have co := cell_keeps hW co
              have cf := cell_keeps hW cf
              have t0 := cell_keeps hW t0
              have inn : ∀ d, (List.range' 30 17).contains d = true → (frameOf a0 (List.range' 30 17) v).tmps[d]?.getD undef = v d := fun d h => frameOf_in' h (hD d h)
              rcases (by omega : i0 = 0 ∨ i0 = 1 ∨ i0 = 2 ∨ i0 = 3 ∨ i0 = 4 ∨ i0 = 5 ∨ i0 = 6 ∨ i0 = 7 ∨ i0 = 8 ∨ i0 = 9 ∨ i0 = 10 ∨ i0 = 11 ∨ i0 = 12 ∨ i0 = 13 ∨ i0 = 14 ∨ i0 = 15 ∨ i0 = 16) with rfl | rfl | rfl | rfl | rfl | rfl | rfl | rfl | rfl | rfl | rfl | rfl | rfl | rfl | rfl | rfl | rfl
              · -- operation 0
                have E3 : (frameOf a0 (List.range' 30 17) v).tmps[3]?.getD undef = .pointer (some ⟨w.heap.size + 1, 0, none⟩) := (frameOf_out' rfl).trans e3
                refine wpOp_value (v := .slice (some ⟨b, off, none⟩) n2 cap2) (w' := w0) rfl rfl (by go_simp) ?_
                exact ⟨frameOf_put rfl, hW⟩
              · -- operation 1
                have E9 : (frameOf a0 (List.range' 30 17) v).tmps[9]?.getD undef = .pointer (some ⟨T, 0, none⟩) := (frameOf_out' rfl).trans e9
                refine wpOp_value (v := .pointer (some ⟨T, 0, none⟩)) (w' := w0) rfl rfl (by go_simp) ?_
                exact ⟨frameOf_put rfl, hW⟩
              · -- operation 2
                have x31 : v 31 = .pointer (some ⟨T, 0, none⟩) := hv 1 (by kernel_rfl)
                have E31 := (inn 31 rfl).trans x31
                refine wpOp_value (v := .string u.name) (w' := w0) rfl rfl (by go_simp) ?_
                exact ⟨frameOf_put rfl, hW⟩
              · -- operation 3
                have x30 : v 30 = .slice (some ⟨b, off, none⟩) n2 cap2 := hv 0 (by kernel_rfl)
                have E30 := (inn 30 rfl).trans x30
                have x32 : v 32 = .string u.name := hv 2 (by kernel_rfl)
                have E32 := (inn 32 rfl).trans x32
                refine wpOp_call (f := 28) (args := #[.slice (some ⟨b, off, none⟩) n2 cap2, .string u.name]) rfl rfl (by go_simp) (index_any (ULP.keeps (hbn.next hW) h2) u.name) ?_
                rintro e w' ⟨rfl, hB'⟩
                rw [HF.out]
                exact ⟨_, rfl, frameOf_put rfl, hW.next hB'⟩
              · -- operation 4
                have E8 : (frameOf a0 (List.range' 30 17) v).tmps[8]?.getD undef = .int .i64 (k : Int) := (frameOf_out' rfl).trans e8
                refine wpOp_value (v := .int .i64 (k : Int)) (w' := w0) rfl rfl (by go_simp) ?_
                exact ⟨frameOf_put rfl, hW⟩
              · -- operation 5
                have x33 : v 33 = .int .i64 (k : Int) := hv 3 (by kernel_rfl)
                have E33 := (inn 33 rfl).trans x33
                have x34 : v 34 = .int .i64 (k : Int) := hv 4 (by kernel_rfl)
                have E34 := (inn 34 rfl).trans x34
                refine wpOp_value (v := .bool true) (w' := w0) rfl rfl (by go_simp) ?_
                exact ⟨frameOf_put rfl, hW⟩
              · -- operation 6
                have x35 : v 35 = .bool true := hv 5 (by kernel_rfl)
                have E35 := (inn 35 rfl).trans x35
                refine wpOp_value (v := .bool true) (w' := w0) rfl rfl (by go_simp) ?_
                exact ⟨frameOf_put rfl, hW⟩
              · -- operation 7
                have E10 : (frameOf a0 (List.range' 30 17) v).tmps[10]?.getD undef = .int .i64 (-1) := (frameOf_out' rfl).trans e10
                have x36 : v 36 = .bool true := hv 6 (by kernel_rfl)
                have E36 := (inn 36 rfl).trans x36
                refine wpOp_guard (v := .int .i64 (-1)) (w' := w0) rfl rfl (yielded_at rfl rfl (by simp [frameOf, hsz]) E36) (by go_simp) ?_
                exact ⟨frameOf_put rfl, hW⟩
              · -- operation 8
                have x36 : v 36 = .bool true := hv 6 (by kernel_rfl)
                have E36 := (inn 36 rfl).trans x36
                have x37 : v 37 = .int .i64 (-1) := hv 7 (by kernel_rfl)
                have E37 := (inn 37 rfl).trans x37
                refine wpOp_guard (v := .bool false) (w' := w0) rfl rfl (yielded_at rfl rfl (by simp [frameOf, hsz]) E36) (by go_simp) ?_
                exact ⟨frameOf_put rfl, hW⟩
              · -- operation 9
                have x36 : v 36 = .bool true := hv 6 (by kernel_rfl)
                have E36 := (inn 36 rfl).trans x36
                have x38 : v 38 = .bool false := hv 8 (by kernel_rfl)
                have E38 := (inn 38 rfl).trans x38
                refine wpOp_value (v := .bool false) (w' := w0) rfl rfl (by go_simp) ?_
                exact ⟨frameOf_put rfl, hW⟩
              · -- operation 10
                have x39 : v 39 = .bool false := hv 9 (by kernel_rfl)
                have E39 := (inn 39 rfl).trans x39
                refine wpOp_value (v := .bool false) (w' := w0) rfl rfl (by go_simp) ?_
                exact ⟨frameOf_put rfl, hW⟩
              · -- operation 11
                have E2 : (frameOf a0 (List.range' 30 17) v).tmps[2]?.getD undef = .pointer (some ⟨w.heap.size, 0, none⟩) := (frameOf_out' rfl).trans e2
                have x40 : v 40 = .bool false := hv 10 (by kernel_rfl)
                have E40 := (inn 40 rfl).trans x40
                refine wpOp_out rfl rfl (yielded_at rfl rfl (by simp [frameOf, hsz]) E40) (by decide) ?_
                exact ⟨frameOf_put rfl, hW⟩
              · -- operation 12
                have E10 : (frameOf a0 (List.range' 30 17) v).tmps[10]?.getD undef = .int .i64 (-1) := (frameOf_out' rfl).trans e10
                have x40 : v 40 = .bool false := hv 10 (by kernel_rfl)
                have E40 := (inn 40 rfl).trans x40
                refine wpOp_out rfl rfl (yielded_at rfl rfl (by simp [frameOf, hsz]) E40) (by decide) ?_
                exact ⟨frameOf_put rfl, hW⟩
              · -- operation 13
                have x40 : v 40 = .bool false := hv 10 (by kernel_rfl)
                have E40 := (inn 40 rfl).trans x40
                have x41 : v 41 = undef := hv 11 (by kernel_rfl)
                have E41 := (inn 41 rfl).trans x41
                have x42 : v 42 = undef := hv 12 (by kernel_rfl)
                have E42 := (inn 42 rfl).trans x42
                refine wpOp_out rfl rfl (yielded_at rfl rfl (by simp [frameOf, hsz]) E40) (by decide) ?_
                exact ⟨frameOf_put rfl, hW⟩
              · -- operation 14
                have x40 : v 40 = .bool false := hv 10 (by kernel_rfl)
                have E40 := (inn 40 rfl).trans x40
                have x43 : v 43 = undef := hv 13 (by kernel_rfl)
                have E43 := (inn 43 rfl).trans x43
                refine wpOp_out rfl rfl (yielded_at rfl rfl (by simp [frameOf, hsz]) E40) (by decide) ?_
                exact ⟨frameOf_put rfl, hW⟩
              · -- operation 15
                have E9 : (frameOf a0 (List.range' 30 17) v).tmps[9]?.getD undef = .pointer (some ⟨T, 0, none⟩) := (frameOf_out' rfl).trans e9
                have x40 : v 40 = .bool false := hv 10 (by kernel_rfl)
                have E40 := (inn 40 rfl).trans x40
                refine wpOp_out rfl rfl (yielded_at rfl rfl (by simp [frameOf, hsz]) E40) (by decide) ?_
                exact ⟨frameOf_put rfl, hW⟩
              · -- operation 16
                have x40 : v 40 = .bool false := hv 10 (by kernel_rfl)
                have E40 := (inn 40 rfl).trans x40
                have x44 : v 44 = undef := hv 14 (by kernel_rfl)
                have E44 := (inn 44 rfl).trans x44
                have x45 : v 45 = undef := hv 15 (by kernel_rfl)
                have E45 := (inn 45 rfl).trans x45
                refine wpOp_out rfl rfl (yielded_at rfl rfl (by simp [frameOf, hsz]) E40) (by decide) ?_
                exact ⟨frameOf_put rfl, hW⟩
            · intro w0 hW
              have h0 := HA.out
              subst h0
              have hrg : List.range' 30 17 = [30, 31, 32, 33, 34, 35, 36, 37, 38, 39, 40, 41, 42, 43, 44, 45, 46] := rfl
              rw [hrg]
              clear hrg
              simp only [frameOf_cons, frameOf_nil, Act.put, List.setIfInBounds_toArray, List.set_cons_zero, List.set_cons_succ]
              refine wpOp_value (v := .bool false) (w' := w0) rfl rfl (by go_simp) ?_
              go_wp2_with fail
              go_meet
              exact ⟨_, rfl, (bit0_no HU.out (Or.inr (by rw [HQ.out]; decide))).symm, hW⟩
          · have : q = (i : Int) := by rw [← HQ.out]; exact hq0
            subst this
            clear hq0
            obtain ⟨x, hx, _⟩ := findU_name (findI_eq.1 HQ.out)
            obtain ⟨b1, off1, rfl, hcx, _⟩ := HC1.out i _ hx
            have hil := HN1.out ▸ (List.getElem?_eq_some_iff.1 hx).1
            have hcx := UCP.keeps hbn hcx
            obtain ⟨r2, f2, hr2, hf2, hv2⟩ := hcx.value
            obtain ⟨s0, s1, _⟩ := hcx
            have HX := Lib.hid hx
            clear hx
            refine with_frame fun a0 ha0 => ?_
            have e2 : a0.eval (.tmp 2) = .pointer (some ⟨w.heap.size, 0, none⟩) := by rw [ha0]; rfl
            have e3 : a0.eval (.tmp 3) = .pointer (some ⟨w.heap.size + 1, 0, none⟩) := by rw [ha0]; rfl
            have e8 : a0.eval (.tmp 8) = .int .i64 (k : Int) := by rw [ha0]; rfl
            have e9 : a0.eval (.tmp 9) = .pointer (some ⟨T, 0, none⟩) := by rw [ha0]; rfl
            have e10 : a0.eval (.tmp 10) = .int .i64 (i : Int) := by rw [ha0]; rfl
            have hsz : a0.tmps.size = 126 := by rw [ha0]; rfl
            have HA := Lib.hid ha0
            clear ha0
            have hD : ∀ d, (List.range' 30 17).contains d = true → d < a0.tmps.size := by
              intro d h
              rw [hsz]
              have hm : d ∈ List.range' 30 17 := by simpa using h
              rw [List.mem_range'_1] at hm
              omega
            refine wp_region_tab (by kernel_rfl) 17 30 (fun jj => ([.slice (some ⟨b, off, none⟩) n2 cap2, .pointer (some ⟨T, 0, none⟩), .string u.name, .int .i64 (k : Int), .int .i64 (k : Int), .bool true, .bool true, .int .i64 (i : Int), .bool true, .bool true, .bool true, .slice (some ⟨b1, off1, none⟩) n1 cap1, .int .i64 (i : Int), .pointer (some ⟨b1, off1 + i * 4, none⟩), .agg #[.string x.name, .string x.start, r2, f2], .agg #[.string u.name, .string u.start, .slice ra u.req.length rc, .slice fa u.aft.length fc], .bool (sameU x u)] : List Value).getD jj undef) (fun w' => Below w1.heap.size w1 w') rfl (by kernel_rfl) (by kernel_rfl) (by (repeat' (first | (with_reducible exact Below.refl _ _) | (with_reducible assumption) | (with_reducible refine below_drewN ?_ _) | (with_reducible refine Below.drew ?_) | (with_reducible refine Below.alloc ?_ ?_ _) | (with_reducible refine Below.setCell ?_ ?_ _) | omega | (simp; done) | (simp; omega)))) ?_ ?_
            · intro i0 hi v w0 hW hv
              have co := cell_keeps hW co
              have cf := cell_keeps hW cf
              have t0 := cell_keeps hW t0
              have t1 := cell_keeps hW t1
              have t2 := cell_keeps hW t2
              have t3 := cell_keeps hW t3
              have s0 := cell_keeps hW s0
              have s1 := cell_keeps hW s1
              have hr2 := cell_keeps hW hr2
              have hf2 := cell_keeps hW hf2
              have inn : ∀ d, (List.range' 30 17).contains d = true → (frameOf a0 (List.range' 30 17) v).tmps[d]?.getD undef = v d := fun d h => frameOf_in' h (hD d h)
              rcases (by omega : i0 = 0 ∨ i0 = 1 ∨ i0 = 2 ∨ i0 = 3 ∨ i0 = 4 ∨ i0 = 5 ∨ i0 = 6 ∨ i0 = 7 ∨ i0 = 8 ∨ i0 = 9 ∨ i0 = 10 ∨ i0 = 11 ∨ i0 = 12 ∨ i0 = 13 ∨ i0 = 14 ∨ i0 = 15 ∨ i0 = 16) with rfl | rfl | rfl | rfl | rfl | rfl | rfl | rfl | rfl | rfl | rfl | rfl | rfl | rfl | rfl | rfl | rfl
              · -- operation 0
                have E3 : (frameOf a0 (List.range' 30 17) v).tmps[3]?.getD undef = .pointer (some ⟨w.heap.size + 1, 0, none⟩) := (frameOf_out' rfl).trans e3
                refine wpOp_value (v := .slice (some ⟨b, off, none⟩) n2 cap2) (w' := w0) rfl rfl (by go_simp) ?_
                exact ⟨frameOf_put rfl, hW⟩
              · -- operation 1
                have E9 : (frameOf a0 (List.range' 30 17) v).tmps[9]?.getD undef = .pointer (some ⟨T, 0, none⟩) := (frameOf_out' rfl).trans e9
                refine wpOp_value (v := .pointer (some ⟨T, 0, none⟩)) (w' := w0) rfl rfl (by go_simp) ?_
                exact ⟨frameOf_put rfl, hW⟩
              · -- operation 2
                have x31 : v 31 = .pointer (some ⟨T, 0, none⟩) := hv 1 (by kernel_rfl)
                have E31 := (inn 31 rfl).trans x31
                refine wpOp_value (v := .string u.name) (w' := w0) rfl rfl (by go_simp) ?_
                exact ⟨frameOf_put rfl, hW⟩
              · -- operation 3
                have x30 : v 30 = .slice (some ⟨b, off, none⟩) n2 cap2 := hv 0 (by kernel_rfl)
                have E30 := (inn 30 rfl).trans x30
                have x32 : v 32 = .string u.name := hv 2 (by kernel_rfl)
                have E32 := (inn 32 rfl).trans x32
                refine wpOp_call (f := 28) (args := #[.slice (some ⟨b, off, none⟩) n2 cap2, .string u.name]) rfl rfl (by go_simp) (index_any (ULP.keeps (hbn.next hW) h2) u.name) ?_
                rintro e w' ⟨rfl, hB'⟩
                rw [HF.out]
                exact ⟨_, rfl, frameOf_put rfl, hW.next hB'⟩
              · -- operation 4
                have E8 : (frameOf a0 (List.range' 30 17) v).tmps[8]?.getD undef = .int .i64 (k : Int) := (frameOf_out' rfl).trans e8
                refine wpOp_value (v := .int .i64 (k : Int)) (w' := w0) rfl rfl (by go_simp) ?_
                exact ⟨frameOf_put rfl, hW⟩
              · -- operation 5
                have x33 : v 33 = .int .i64 (k : Int) := hv 3 (by kernel_rfl)
                have E33 := (inn 33 rfl).trans x33
                have x34 : v 34 = .int .i64 (k : Int) := hv 4 (by kernel_rfl)
                have E34 := (inn 34 rfl).trans x34
                refine wpOp_value (v := .bool true) (w' := w0) rfl rfl (by go_simp) ?_
                exact ⟨frameOf_put rfl, hW⟩
              · -- operation 6
                have x35 : v 35 = .bool true := hv 5 (by kernel_rfl)
                have E35 := (inn 35 rfl).trans x35
                refine wpOp_value (v := .bool true) (w' := w0) rfl rfl (by go_simp) ?_
                exact ⟨frameOf_put rfl, hW⟩
              · -- operation 7
                have E10 : (frameOf a0 (List.range' 30 17) v).tmps[10]?.getD undef = .int .i64 (i : Int) := (frameOf_out' rfl).trans e10
                have x36 : v 36 = .bool true := hv 6 (by kernel_rfl)
                have E36 := (inn 36 rfl).trans x36
                refine wpOp_guard (v := .int .i64 (i : Int)) (w' := w0) rfl rfl (yielded_at rfl rfl (by simp [frameOf, hsz]) E36) (by go_simp) ?_
                exact ⟨frameOf_put rfl, hW⟩
              · -- operation 8
                have x36 : v 36 = .bool true := hv 6 (by kernel_rfl)
                have E36 := (inn 36 rfl).trans x36
                have x37 : v 37 = .int .i64 (i : Int) := hv 7 (by kernel_rfl)
                have E37 := (inn 37 rfl).trans x37
                refine wpOp_guard (v := .bool true) (w' := w0) rfl rfl (yielded_at rfl rfl (by simp [frameOf, hsz]) E36) (by go_simp) ?_
                exact ⟨frameOf_put rfl, hW⟩
              · -- operation 9
                have x36 : v 36 = .bool true := hv 6 (by kernel_rfl)
                have E36 := (inn 36 rfl).trans x36
                have x38 : v 38 = .bool true := hv 8 (by kernel_rfl)
                have E38 := (inn 38 rfl).trans x38
                refine wpOp_value (v := .bool true) (w' := w0) rfl rfl (by go_simp) ?_
                exact ⟨frameOf_put rfl, hW⟩
              · -- operation 10
                have x39 : v 39 = .bool true := hv 9 (by kernel_rfl)
                have E39 := (inn 39 rfl).trans x39
                refine wpOp_value (v := .bool true) (w' := w0) rfl rfl (by go_simp) ?_
                exact ⟨frameOf_put rfl, hW⟩
              · -- operation 11
                have E2 : (frameOf a0 (List.range' 30 17) v).tmps[2]?.getD undef = .pointer (some ⟨w.heap.size, 0, none⟩) := (frameOf_out' rfl).trans e2
                have x40 : v 40 = .bool true := hv 10 (by kernel_rfl)
                have E40 := (inn 40 rfl).trans x40
                refine wpOp_guard (v := .slice (some ⟨b1, off1, none⟩) n1 cap1) (w' := w0) rfl rfl (yielded_at rfl rfl (by simp [frameOf, hsz]) E40) (by go_simp) ?_
                exact ⟨frameOf_put rfl, hW⟩
              · -- operation 12
                have E10 : (frameOf a0 (List.range' 30 17) v).tmps[10]?.getD undef = .int .i64 (i : Int) := (frameOf_out' rfl).trans e10
                have x40 : v 40 = .bool true := hv 10 (by kernel_rfl)
                have E40 := (inn 40 rfl).trans x40
                refine wpOp_guard (v := .int .i64 (i : Int)) (w' := w0) rfl rfl (yielded_at rfl rfl (by simp [frameOf, hsz]) E40) (by go_simp) ?_
                exact ⟨frameOf_put rfl, hW⟩
              · -- operation 13
                have x40 : v 40 = .bool true := hv 10 (by kernel_rfl)
                have E40 := (inn 40 rfl).trans x40
                have x41 : v 41 = .slice (some ⟨b1, off1, none⟩) n1 cap1 := hv 11 (by kernel_rfl)
                have E41 := (inn 41 rfl).trans x41
                have x42 : v 42 = .int .i64 (i : Int) := hv 12 (by kernel_rfl)
                have E42 := (inn 42 rfl).trans x42
                refine wpOp_guard (v := .pointer (some ⟨b1, off1 + i * 4, none⟩)) (w' := w0) rfl rfl (yielded_at rfl rfl (by simp [frameOf, hsz]) E40) (by go_simp) ?_
                exact ⟨frameOf_put rfl, hW⟩
              · -- operation 14
                have x40 : v 40 = .bool true := hv 10 (by kernel_rfl)
                have E40 := (inn 40 rfl).trans x40
                have x43 : v 43 = .pointer (some ⟨b1, off1 + i * 4, none⟩) := hv 13 (by kernel_rfl)
                have E43 := (inn 43 rfl).trans x43
                refine wpOp_guard (v := .agg #[.string x.name, .string x.start, r2, f2]) (w' := w0) rfl rfl (yielded_at rfl rfl (by simp [frameOf, hsz]) E40) (by go_simp) ?_
                exact ⟨frameOf_put rfl, hW⟩
              · -- operation 15
                have E9 : (frameOf a0 (List.range' 30 17) v).tmps[9]?.getD undef = .pointer (some ⟨T, 0, none⟩) := (frameOf_out' rfl).trans e9
                have x40 : v 40 = .bool true := hv 10 (by kernel_rfl)
                have E40 := (inn 40 rfl).trans x40
                refine wpOp_guard (v := .agg #[.string u.name, .string u.start, .slice ra u.req.length rc, .slice fa u.aft.length fc]) (w' := w0) rfl rfl (yielded_at rfl rfl (by simp [frameOf, hsz]) E40) (by go_simp) ?_
                exact ⟨frameOf_put rfl, hW⟩
              · -- operation 16
                have x40 : v 40 = .bool true := hv 10 (by kernel_rfl)
                have E40 := (inn 40 rfl).trans x40
                have x44 : v 44 = .agg #[.string x.name, .string x.start, r2, f2] := hv 14 (by kernel_rfl)
                have E44 := (inn 44 rfl).trans x44
                have x45 : v 45 = .agg #[.string u.name, .string u.start, .slice ra u.req.length rc, .slice fa u.aft.length fc] := hv 15 (by kernel_rfl)
                have E45 := (inn 45 rfl).trans x45
                refine wpOp_guardcall (f := 29) (args := #[.agg #[.string x.name, .string x.start, r2, f2], .agg #[.string u.name, .string u.start, .slice ra u.req.length rc, .slice fa u.aft.length fc]]) rfl rfl (yielded_at rfl rfl (by simp [frameOf, hsz]) E40) (by go_simp) (sameP_any (UVP.keeps hW hv2) (UVP.keeps hW hv1)) ?_
                rintro e w' ⟨rfl, hB'⟩
                exact ⟨_, rfl, frameOf_put rfl, hW.next hB'⟩
            · intro w0 hW
              have h0 := HA.out
              subst h0
              have hrg : List.range' 30 17 = [30, 31, 32, 33, 34, 35, 36, 37, 38, 39, 40, 41, 42, 43, 44, 45, 46] := rfl
              rw [hrg]
              clear hrg
              simp only [frameOf_cons, frameOf_nil, Act.put, List.setIfInBounds_toArray, List.set_cons_zero, List.set_cons_succ]
              refine wpOp_value (v := .bool (sameU x u)) (w' := w0) rfl rfl (by go_simp) ?_
              go_wp2_with fail
              go_meet
              exact ⟨_, rfl, (bit0_yes HU.out HX.out HF.out HQ.out).symm, hW⟩
        · have hpkb : (p == (k : Int)) = false := by simp [hpk]
          refine with_frame fun a0 ha0 => ?_
          have e2 : a0.eval (.tmp 2) = .pointer (some ⟨w.heap.size, 0, none⟩) := by rw [ha0]; rfl
          have e3 : a0.eval (.tmp 3) = .pointer (some ⟨w.heap.size + 1, 0, none⟩) := by rw [ha0]; rfl
          have e8 : a0.eval (.tmp 8) = .int .i64 (k : Int) := by rw [ha0]; rfl
          have e9 : a0.eval (.tmp 9) = .pointer (some ⟨T, 0, none⟩) := by rw [ha0]; rfl
          have e10 : a0.eval (.tmp 10) = .int .i64 q := by rw [ha0]; rfl
          have hsz : a0.tmps.size = 126 := by rw [ha0]; rfl
          have HA := Lib.hid ha0
          clear ha0
          have hD : ∀ d, (List.range' 30 17).contains d = true → d < a0.tmps.size := by
            intro d h
            rw [hsz]
            have hm : d ∈ List.range' 30 17 := by simpa using h
            rw [List.mem_range'_1] at hm
            omega
          refine wp_region_tab (by kernel_rfl) 17 30 (fun jj => ([.slice (some ⟨b, off, none⟩) n2 cap2, .pointer (some ⟨T, 0, none⟩), .string u.name, .int .i64 p, .int .i64 (k : Int), .bool false, .bool false, undef, undef, .bool false, .bool false, undef, undef, undef, undef, undef, undef] : List Value).getD jj undef) (fun w' => Below w1.heap.size w1 w') rfl (by kernel_rfl) (by kernel_rfl) (by (repeat' (first | (with_reducible exact Below.refl _ _) | (with_reducible assumption) | (with_reducible refine below_drewN ?_ _) | (with_reducible refine Below.drew ?_) | (with_reducible refine Below.alloc ?_ ?_ _) | (with_reducible refine Below.setCell ?_ ?_ _) | omega | (simp; done) | (simp; omega)))) ?_ ?_
          · intro i0 hi v w0 hW hv
            have co := cell_keeps hW co
            have cf := cell_keeps hW cf
            have t0 := cell_keeps hW t0
            have inn : ∀ d, (List.range' 30 17).contains d = true → (frameOf a0 (List.range' 30 17) v).tmps[d]?.getD undef = v d := fun d h => frameOf_in' h (hD d h)
            rcases (by omega : i0 = 0 ∨ i0 = 1 ∨ i0 = 2 ∨ i0 = 3 ∨ i0 = 4 ∨ i0 = 5 ∨ i0 = 6 ∨ i0 = 7 ∨ i0 = 8 ∨ i0 = 9 ∨ i0 = 10 ∨ i0 = 11 ∨ i0 = 12 ∨ i0 = 13 ∨ i0 = 14 ∨ i0 = 15 ∨ i0 = 16) with rfl | rfl | rfl | rfl | rfl | rfl | rfl | rfl | rfl | rfl | rfl | rfl | rfl | rfl | rfl | rfl | rfl
            · -- operation 0
              have E3 : (frameOf a0 (List.range' 30 17) v).tmps[3]?.getD undef = .pointer (some ⟨w.heap.size + 1, 0, none⟩) := (frameOf_out' rfl).trans e3
              refine wpOp_value (v := .slice (some ⟨b, off, none⟩) n2 cap2) (w' := w0) rfl rfl (by go_simp) ?_
              exact ⟨frameOf_put rfl, hW⟩
            · -- operation 1
              have E9 : (frameOf a0 (List.range' 30 17) v).tmps[9]?.getD undef = .pointer (some ⟨T, 0, none⟩) := (frameOf_out' rfl).trans e9
              refine wpOp_value (v := .pointer (some ⟨T, 0, none⟩)) (w' := w0) rfl rfl (by go_simp) ?_
              exact ⟨frameOf_put rfl, hW⟩
            · -- operation 2
              have x31 : v 31 = .pointer (some ⟨T, 0, none⟩) := hv 1 (by kernel_rfl)
              have E31 := (inn 31 rfl).trans x31
              refine wpOp_value (v := .string u.name) (w' := w0) rfl rfl (by go_simp) ?_
              exact ⟨frameOf_put rfl, hW⟩
            · -- operation 3
              have x30 : v 30 = .slice (some ⟨b, off, none⟩) n2 cap2 := hv 0 (by kernel_rfl)
              have E30 := (inn 30 rfl).trans x30
              have x32 : v 32 = .string u.name := hv 2 (by kernel_rfl)
              have E32 := (inn 32 rfl).trans x32
              refine wpOp_call (f := 28) (args := #[.slice (some ⟨b, off, none⟩) n2 cap2, .string u.name]) rfl rfl (by go_simp) (index_any (ULP.keeps (hbn.next hW) h2) u.name) ?_
              rintro e w' ⟨rfl, hB'⟩
              rw [HF.out]
              exact ⟨_, rfl, frameOf_put rfl, hW.next hB'⟩
            · -- operation 4
              have E8 : (frameOf a0 (List.range' 30 17) v).tmps[8]?.getD undef = .int .i64 (k : Int) := (frameOf_out' rfl).trans e8
              refine wpOp_value (v := .int .i64 (k : Int)) (w' := w0) rfl rfl (by go_simp) ?_
              exact ⟨frameOf_put rfl, hW⟩
            · -- operation 5
              have x33 : v 33 = .int .i64 p := hv 3 (by kernel_rfl)
              have E33 := (inn 33 rfl).trans x33
              have x34 : v 34 = .int .i64 (k : Int) := hv 4 (by kernel_rfl)
              have E34 := (inn 34 rfl).trans x34
              refine wpOp_value (v := .bool false) (w' := w0) rfl rfl (by go_simp) ?_
              exact ⟨frameOf_put rfl, hW⟩
            · -- operation 6
              have x35 : v 35 = .bool false := hv 5 (by kernel_rfl)
              have E35 := (inn 35 rfl).trans x35
              refine wpOp_value (v := .bool false) (w' := w0) rfl rfl (by go_simp) ?_
              exact ⟨frameOf_put rfl, hW⟩
            · -- operation 7
              have E10 : (frameOf a0 (List.range' 30 17) v).tmps[10]?.getD undef = .int .i64 q := (frameOf_out' rfl).trans e10
              have x36 : v 36 = .bool false := hv 6 (by kernel_rfl)
              have E36 := (inn 36 rfl).trans x36
              refine wpOp_out rfl rfl (yielded_at rfl rfl (by simp [frameOf, hsz]) E36) (by decide) ?_
              exact ⟨frameOf_put rfl, hW⟩
            · -- operation 8
              have x36 : v 36 = .bool false := hv 6 (by kernel_rfl)
              have E36 := (inn 36 rfl).trans x36
              have x37 : v 37 = undef := hv 7 (by kernel_rfl)
              have E37 := (inn 37 rfl).trans x37
              refine wpOp_out rfl rfl (yielded_at rfl rfl (by simp [frameOf, hsz]) E36) (by decide) ?_
              exact ⟨frameOf_put rfl, hW⟩
            · -- operation 9
              have x36 : v 36 = .bool false := hv 6 (by kernel_rfl)
              have E36 := (inn 36 rfl).trans x36
              have x38 : v 38 = undef := hv 8 (by kernel_rfl)
              have E38 := (inn 38 rfl).trans x38
              refine wpOp_value (v := .bool false) (w' := w0) rfl rfl (by go_simp) ?_
              exact ⟨frameOf_put rfl, hW⟩
            · -- operation 10
              have x39 : v 39 = .bool false := hv 9 (by kernel_rfl)
              have E39 := (inn 39 rfl).trans x39
              refine wpOp_value (v := .bool false) (w' := w0) rfl rfl (by go_simp) ?_
              exact ⟨frameOf_put rfl, hW⟩
            · -- operation 11
              have E2 : (frameOf a0 (List.range' 30 17) v).tmps[2]?.getD undef = .pointer (some ⟨w.heap.size, 0, none⟩) := (frameOf_out' rfl).trans e2
              have x40 : v 40 = .bool false := hv 10 (by kernel_rfl)
              have E40 := (inn 40 rfl).trans x40
              refine wpOp_out rfl rfl (yielded_at rfl rfl (by simp [frameOf, hsz]) E40) (by decide) ?_
              exact ⟨frameOf_put rfl, hW⟩
            · -- operation 12
              have E10 : (frameOf a0 (List.range' 30 17) v).tmps[10]?.getD undef = .int .i64 q := (frameOf_out' rfl).trans e10
              have x40 : v 40 = .bool false := hv 10 (by kernel_rfl)
              have E40 := (inn 40 rfl).trans x40
              refine wpOp_out rfl rfl (yielded_at rfl rfl (by simp [frameOf, hsz]) E40) (by decide) ?_
              exact ⟨frameOf_put rfl, hW⟩
            · -- operation 13
              have x40 : v 40 = .bool false := hv 10 (by kernel_rfl)
              have E40 := (inn 40 rfl).trans x40
              have x41 : v 41 = undef := hv 11 (by kernel_rfl)
              have E41 := (inn 41 rfl).trans x41
              have x42 : v 42 = undef := hv 12 (by kernel_rfl)
              have E42 := (inn 42 rfl).trans x42
              refine wpOp_out rfl rfl (yielded_at rfl rfl (by simp [frameOf, hsz]) E40) (by decide) ?_
              exact ⟨frameOf_put rfl, hW⟩
            · -- operation 14
              have x40 : v 40 = .bool false := hv 10 (by kernel_rfl)
              have E40 := (inn 40 rfl).trans x40
              have x43 : v 43 = undef := hv 13 (by kernel_rfl)
              have E43 := (inn 43 rfl).trans x43
              refine wpOp_out rfl rfl (yielded_at rfl rfl (by simp [frameOf, hsz]) E40) (by decide) ?_
              exact ⟨frameOf_put rfl, hW⟩
            · -- operation 15
              have E9 : (frameOf a0 (List.range' 30 17) v).tmps[9]?.getD undef = .pointer (some ⟨T, 0, none⟩) := (frameOf_out' rfl).trans e9
              have x40 : v 40 = .bool false := hv 10 (by kernel_rfl)
              have E40 := (inn 40 rfl).trans x40
              refine wpOp_out rfl rfl (yielded_at rfl rfl (by simp [frameOf, hsz]) E40) (by decide) ?_
              exact ⟨frameOf_put rfl, hW⟩
            · -- operation 16
              have x40 : v 40 = .bool false := hv 10 (by kernel_rfl)
              have E40 := (inn 40 rfl).trans x40
              have x44 : v 44 = undef := hv 14 (by kernel_rfl)
              have E44 := (inn 44 rfl).trans x44
              have x45 : v 45 = undef := hv 15 (by kernel_rfl)
              have E45 := (inn 45 rfl).trans x45
              refine wpOp_out rfl rfl (yielded_at rfl rfl (by simp [frameOf, hsz]) E40) (by decide) ?_
              exact ⟨frameOf_put rfl, hW⟩
          · intro w0 hW
            have h0 := HA.out
            subst h0
            have hrg : List.range' 30 17 = [30, 31, 32, 33, 34, 35, 36, 37, 38, 39, 40, 41, 42, 43, 44, 45, 46] := rfl
            rw [hrg]
            clear hrg
            simp only [frameOf_cons, frameOf_nil, Act.put, List.setIfInBounds_toArray, List.set_cons_zero, List.set_cons_succ]
            refine wpOp_value (v := .bool false) (w' := w0) rfl rfl (by go_simp) ?_
            go_wp2_with fail
            go_meet
            exact ⟨_, rfl, (bit0_no HU.out (Or.inl (by rw [HF.out]; exact hpk))).symm, hW⟩
      case rest =>
        obtain ⟨B, rfl, hB, hb2⟩ := hcut
        have HB := Lib.hid hB
        clear hB
        have hb3 : Below wr.heap.size wr w1 := Below.next (by (repeat' (first | (with_reducible exact Below.refl _ _) | (with_reducible assumption) | (with_reducible refine below_drewN ?_ _) | (with_reducible refine Below.drew ?_) | (with_reducible refine Below.alloc ?_ ?_ _) | (with_reducible refine Below.setCell ?_ ?_ _) | omega | (simp; done) | (simp; omega)))) hb1
        have hb4 := hb3.next hb2
        have hE' := hE.below hb4
        have hM' := hM.below hb4
        have hS' : wc.heap[w.heap.size + 2]? = some (.cells #[.slice none 0 0] 30 (0, 0)) := by rw [hb4.block _ (by omega)]; exact hS4
        have hbx := hb.next hb4
        have hzx : w.heap.size + 5 ≤ wc.heap.size := by have := hb4.size; omega
        have t0' : wc.cell? ⟨T, 0, none⟩ = some (.string u.name) := cell_keeps hb2 t0
        have cm' : wc.cell? ⟨w.heap.size + 4, 0, none⟩ = some (.map (some (w.heap.size + 3))) := cell_keeps hb4 cm
        clear hM hS4 hE p0 p1 p2 p3 hu9 hr hf cm co cf t0 t1 t2 t3
        cases B
        · go_wp2_with fail
          go_roundw
          case rel => exact ⟨k + 1, by omega, by go_num, (by rw [bits_no HB.out.symm]; exact hM'.mono (by omega)), hE', hS', hbx, hzx⟩
          case measure => simp [intOf]; omega
        · have tok1 : True := trivial
          go_wp2_with (at_mapUpdate; have _t := tok1
                       refine at_store _ rfl _ _ _ _ _ rfl Try.underlying50 (w.heap.size + 3) k _ rfl hM' (by unfold maxLen; omega) u.name rfl hsn (.bool true) rfl ?_
                       intro w3 hM3 hg3 hz3
                       clear tok1)
          go_roundw
          case rel =>
            refine ⟨k + 1, by omega, by go_num, ?_, hE'.grown hg3 (fun j hj => by cases hj; exact Or.inl rfl), block_grown hS' hg3 (by simp), Below.grown hbx hg3 (by omega) (fun j hj => by cases hj; omega), by omega⟩
            rw [bits_yes HU.out HB.out.symm]
            exact hM3
          case measure => simp [intOf]; omega
    · obtain rfl : k = n2 := by omega
      have hM0 : MF wr (w.heap.size + 3) k (FS (S0 old fresh)) := by
        have := bits_S0 old fresh
        rw [HN2.out] at this
        rw [← this]
        exact hM
      have hFix := Lib.hid (show FixR w.heap.size w old fresh (.slice a1 n1 cap1) (.slice a2 k cap2) k true wr (S0 old fresh) from ⟨hM0, hE, hS4, Mid.start _ _, (fun h => by cases h), hb, hz⟩)
      clear hM hM0 hE hS4 hb hz
      go_wp2_with fail
      go_loopw [11] (fun m wq => ∃ mb : Bool, m = .bool mb ∧ ∃ S, Hid (FixR w.heap.size w old fresh (.slice a1 n1 cap1) (.slice a2 k cap2) k mb wq S)) (fun m wq => least (fun S => Hid (FixR w.heap.size w old fresh (.slice a1 n1 cap1) (.slice a2 k cap2) k (boolOf m) wq S)) (fun S => 2 * cntS fresh S + oneIf m))
      case atStart => exact ⟨true, rfl, _, hFix⟩
      case round =>
        clear hFix
        obtain ⟨mb, rfl, S', hS'⟩ := hrel
        have hsp := least_spec (R := fun S => Hid (FixR w.heap.size w old fresh (.slice a1 n1 cap1) (.slice a2 k cap2) k mb wr S)) (fun S => 2 * cntS fresh S + oneIf (.bool mb)) hS'
        clear hS'
        obtain ⟨S, ⟨hM, hE, hS4, HMid, HClo, hb, hz⟩, hmeas⟩ := hsp
        have HME := Lib.hid hmeas
        clear hmeas
        have cm := block_cell (i := 0) hE.m rfl
        cases mb
        · have HCl := Lib.hid (HClo.out rfl)
          clear HClo
          have co := block_cell (i := 0) hE.o rfl
          go_wp2_with fail
          refine ((callsIn_wide (n := 3)).1 (backward_in Fence.wide 3 trivial rfl a1 n1 cap1 wr)).mono ?_
          rintro e w1 ⟨rfl, rfl⟩
          go_wp2_with fail
          obtain ⟨b, off, hUC, hab⟩ : ∃ b off, (∀ x u, old[x]? = some u → UCP (fun _ => True) w b (off + x * 4) u) ∧ (n1 = 0 ∨ (a1 = some ⟨b, off, none⟩ ∧ b < w.heap.size)) := by
            by_cases h0 : n1 = 0
            · refine ⟨0, 0, fun x u h => ?_, .inl h0⟩
              have := (List.getElem?_eq_some_iff.1 h).1
              have := HN1.out
              omega
            · obtain ⟨u0, hu0⟩ := get_lt old (k := 0) (by have := HN1.out; omega)
              obtain ⟨b, off, ha, hcu, _⟩ := HC1.out 0 _ hu0
              refine ⟨b, off, fun x u h => ?_, .inr ⟨ha, World.block_lt_of_cell? w _ hcu.1⟩⟩
              obtain ⟨b', off', ha', hcu', _⟩ := HC1.out x _ h
              rw [ha] at ha'
              cases ha'
              exact hcu'
          have hbox := Boxed.new wr 22 (.slice a1 n1 cap1)
          have hb1 : Below w.heap.size w (wr.alloc (.cells #[.slice a1 n1 cap1] 22)) := hb.alloc (by omega) _
          have hE1 := hE.below (w' := wr.alloc (.cells #[.slice a1 n1 cap1] 22)) (by (repeat' (first | (with_reducible exact Below.refl _ _) | (with_reducible assumption) | (with_reducible refine below_drewN ?_ _) | (with_reducible refine Below.drew ?_) | (with_reducible refine Below.alloc ?_ ?_ _) | (with_reducible refine Below.setCell ?_ ?_ _) | omega | (simp; done) | (simp; omega))))
          have hM1 := hM.below (w' := wr.alloc (.cells #[.slice a1 n1 cap1] 22)) (by (repeat' (first | (with_reducible exact Below.refl _ _) | (with_reducible assumption) | (with_reducible refine below_drewN ?_ _) | (with_reducible refine Below.drew ?_) | (with_reducible refine Below.alloc ?_ ?_ _) | (with_reducible refine Below.setCell ?_ ?_ _) | omega | (simp; done) | (simp; omega))))
          have hS1 := block_alloc hS4 (.cells #[.slice a1 n1 cap1] 22)
          have hsz : (wr.alloc (.cells #[.slice a1 n1 cap1] 22)).heap.size = wr.heap.size + 1 := by simp
          obtain ⟨W1, hW1⟩ : ∃ W1, wr.alloc (.cells #[.slice a1 n1 cap1] 22) = W1 := ⟨_, rfl⟩
          obtain ⟨Bs, hBs⟩ : ∃ Bs, wr.heap.size = Bs := ⟨_, rfl⟩
          rw [hW1] at hbox hb1 hE1 hM1 hS1 hsz ⊢
          rw [hBs] at hbox hsz hz ⊢
          clear hW1 hBs hM hE hS4 hb co cm
          have hUCs : UCells w.heap.size W1 (.slice a1 n1 cap1) n1 (cU w old b off) := by
            rcases hab with rfl | ⟨rfl, hbl⟩
            · exact .inl ⟨_, _, rfl, rfl⟩
            · refine .inr ⟨b, off, cap1, rfl, hbl, fun j hj => ?_⟩
              obtain ⟨u, hu⟩ := get_lt old (k := j) (by have := HN1.out; omega)
              obtain ⟨q0, q1, q2, q3⟩ := cU_cells hu (hUC j u hu)
              exact ⟨cell_keeps hb1 q0, cell_keeps hb1 q1, cell_keeps hb1 q2, cell_keeps hb1 q3⟩
          have hI0 : StopI w.heap.size (Bs + 1) k w old S (.slice a1 n1 cap1) (.slice a2 k cap2) [] W1 := ⟨⟨.slice none 0 0, hS1, World.ownsRow_nil _ _ _ _⟩, hE1, hM1, hb1, by omega⟩
          refine with_frame fun a0 ha0 => ?_
          rw [← wpIn_wide (n := 3)]
          refine wpIn_rangeFunc_ownH (gf := 39) (lb := #[.pointer (some ⟨Bs, 0, none⟩)]) rfl (by decide) (by rw [ha0]; rfl) trivial (enters_of Try.func39 (by kernel_rfl) rfl)
            (backward_stops Fence.wide 2 trivial rfl (by decide) Bs w.heap.size (.slice a1 n1 cap1) n1 (cU w old b off) hm1 W1 (by omega) (by omega) hbox.cell hUCs)
            (fun h k => KB.trans h k) (KB.put (by omega) (by omega)) (Below.refl _ _) (fun _ => rfl)
            (StopI w.heap.size (Bs + 1) k w old S (.slice a1 n1 cap1) (.slice a2 k cap2)) (fun _ _ _ => False) (by rw [hsz]; exact StopI.own (Nat.le_refl _) (by omega)) (fun _ _ _ _ _ hs _ _ => hs) hI0
            (fun x a' W => ∃ Bq, Bs + 1 ≤ Bq ∧ W.heap[Bq]? = some (.cells #[cU w old b off x 0, cU w old b off x 1, cU w old b off x 2, cU w old b off x 3] 32 (0, 0)) ∧ a' = { tmps := ((((a0.tmps.setIfInBounds 73 (.int .i64 (x : Int))).setIfInBounds 74 (.agg #[cU w old b off x 0, cU w old b off x 1, cU w old b off x 2, cU w old b off x 3])).setIfInBounds 14 (.int .i64 (x : Int))).setIfInBounds 15 (.pointer (some ⟨Bq, 0, none⟩))), defers := [] })
            (fun x a' _ X Y row hs hg hr => by
              obtain ⟨Bq, q1, q2, q3⟩ := hs
              exact ⟨Bq, q1, block_grown q2 hg (fun e => by obtain ⟨_, o, ho, hc⟩ := hr _ e.symm; rw [q2] at ho; cases ho; cases hc), q3⟩) ?assign ?body ?done ?stop
          case assign =>
            rintro l pre x W K hI hK
            obtain ⟨nm, st, ra, rn, rc, fa, fn, fc, _, e0, e1, e2, e3⟩ := cU_shape hUC x
            rw [e0, e1, e2, e3] at hK
            subst ha0
            simp only [encU]
            rw [e0, e1, e2, e3]
            have HK := Lib.hid hK
            clear hK e0 e1 e2 e3
            gi_wp2
            have hWz : w.heap.size ≤ W.heap.size := hI.low.size
            have hWb := hI.big
            exact HK.out _ _ ((KeepsOthers.alloc _ _).from _) ⟨(Below.refl _ W).alloc hWz _, Below.heap_alloc _ _ _ (by omega)⟩ ((StopI.own (Nat.le_refl _) (by omega)).alloc _ hI) ⟨W.heap.size, hWb, block_new _ _ rfl, rfl⟩
          case body =>
            rintro l pre x a' W hl _ hI ⟨Bq, hBq, hcq, rfl⟩ hlt
            have hsl := stopR_len old S pre
            obtain ⟨nm, st, ra, rn, rc, fa, fn, fc, hnm, e0, e1, e2, e3⟩ := cU_shape hUC x
            rw [e0, e1, e2, e3] at hcq ⊢
            have HE0 := Lib.hid e0
            clear e0 e1 e2 e3
            subst ha0
            have q0 : W.cell? ⟨Bq, 0, none⟩ = some (.string nm) := block_cell (i := 0) hcq rfl
            have co : W.cell? ⟨w.heap.size, 0, none⟩ = some (.slice a1 n1 cap1) := block_cell (i := 0) hI.box.o rfl
            simp only [List.setIfInBounds_toArray, List.set_cons_zero, List.set_cons_succ]
            obtain ⟨sv, hsv, hos⟩ := hI.row
            obtain ⟨sa, sc, rfl⟩ := hos.shape
            have HOS := Lib.hid hos
            have HSV := Lib.hid hsv
            clear hos hsv
            have HUN : Hid (∀ u, old[x]? = some u → nm = u.name) := Lib.hid (fun u hu => by have h := HE0.out; rw [cU_name hu] at h; cases h; rfl)
            generalize hq : findI old nm = q
            have HQ := Lib.hid hq
            clear hq
            by_cases hqx : q = (x : Int)
            · subst hqx
              have hxx : ((x : Int) == (x : Int)) = true := by simp
              obtain ⟨u, hu, hun⟩ := findU_name (findI_eq.1 HQ.out)
              have hxl : x < n1 := by have := (List.getElem?_eq_some_iff.1 hu).1; have := HN1.out; omega
              have HU := Lib.hid hu
              have HNU := Lib.hid hun
              clear hu hun
              cases hS : S nm
              · have HSN := Lib.hid hS
                obtain ⟨i0, hi, hz0, hz1, hz2⟩ := info_parts infoS
                gi_wp2_with (first
                  | (refine ⟨trivial, ?_⟩; gi_at_call 28; refine (CallsIn.inRound l (callsIn_wide.2 (index_any (ULP.keeps hI.low h1) nm))).mono ?_; rw [HQ.out]; rintro e w' ⟨rfl, hb'⟩
                     have hI' := hI.below hI.low.size hb'
                     have cm' : w'.cell? ⟨w.heap.size + 4, 0, none⟩ = some (.map (some (w.heap.size + 3))) := block_cell (i := 0) hI'.box.m rfl
                     have q0' : w'.cell? ⟨Bq, 0, none⟩ = some (.string nm) := cell_keeps hb' q0
                     have hlk := hI'.map.look Try.underlying50 zeroBool hnm
                     rw [FS_look, hS] at hlk
                     have hsv' : Boxed w' (w.heap.size + 2) 30 (.slice sa (stopR old S pre).length sc) := HSV.out.kept (grown_of_below hb') (by simp)
                     have cs' := hsv'.cell
                     have fs' := hsv'.frozen
                     have hos' := OS.below HOS.out hb')
                  | (gi_at_builtin; refine wpListIn_append_own _ rfl _ _ 30 rfl (Bs + 1) 9 i0 _ 1 16 Try.underlying30 hi hz0 hz1 hz2 rfl (by decide) _ _ _ rfl (World.ownsRow.alloc hos' _) ⟨w'.heap.size, 0, none⟩ 1 1 [.string nm] rfl rfl (cell_one_new _ _ _) (by simp [Value.oneCell']) (by unfold maxLen; omega) (by omega) (by have := hI'.big; simp; omega) ?_
                     intro v' w3 hown' hgrow _
                     obtain ⟨g', cap', rfl⟩ := ownsRow_succ hown'
                     obtain ⟨hv1, hI3, hk3, hb3, hB3⟩ := hI'.push (pre' := pre ++ [x]) (by omega) (by rw [stopR_yes HU.out ⟨by rw [HNU.out]; exact HQ.out, by rw [HNU.out]; exact HSN.out⟩, HNU.out]) hsv' hos' hown' hgrow
                     have cs3 := hv1.cell
                     have fs3 := hv1.frozen))
                exact ⟨(KeepsFrom.of_grownBy (grown_of_below hb') (by simp)).trans (by rw [hsz]; exact hk3), ⟨(hb'.mono hI.low.size).trans hb3, (hB3 Bs (by omega) (by omega)).trans (hb'.block _ (by have := hI.big; omega))⟩, hI3⟩
              · have HSN := Lib.hid hS
                gi_wp2_with (refine ⟨trivial, ?_⟩; gi_at_call 28; refine (CallsIn.inRound l (callsIn_wide.2 (index_any (ULP.keeps hI.low h1) nm))).mono ?_; rw [HQ.out]; rintro e w' ⟨rfl, hb'⟩
                             have hI' := hI.below hI.low.size hb'
                             have cm' : w'.cell? ⟨w.heap.size + 4, 0, none⟩ = some (.map (some (w.heap.size + 3))) := block_cell (i := 0) hI'.box.m rfl
                             have q0' : w'.cell? ⟨Bq, 0, none⟩ = some (.string nm) := cell_keeps hb' q0
                             have hlk := hI'.map.look Try.underlying50 zeroBool hnm
                             rw [FS_look, hS] at hlk)
                refine ⟨KeepsFrom.of_grownBy (grown_of_below hb') (by simp), ⟨hb'.mono hI.low.size, hb'.block _ (by have := hI.big; omega)⟩, hI'.same (stopR_no HU.out (fun h => ?_))⟩
                rw [HNU.out, HSN.out] at h
                cases h.2
            · have hqb : (q == (x : Int)) = false := by simp [hqx]
              gi_wp2_with (refine ⟨trivial, ?_⟩; gi_at_call 28; refine (CallsIn.inRound l (callsIn_wide.2 (index_any (ULP.keeps hI.low h1) nm))).mono ?_; rw [HQ.out]; rintro e w' ⟨rfl, hb'⟩)
              refine ⟨KeepsFrom.of_grownBy (grown_of_below hb') (by simp), ⟨hb'.mono hI.low.size, hb'.block _ (by have := hI.big; omega)⟩, (hI.below hI.low.size hb').same ?_⟩
              cases hu : old[x]? with
              | none => exact stopR_none hu
              | some u => exact stopR_no hu (fun h => hqx (by rw [← HQ.out, HUN.out u hu]; exact h.1))
          case stop =>
            rintro D c pre W _ _ h _
            exact h.elim
          case done =>
            rintro D ys W hD rfl hI hK
            subst ha0
            obtain ⟨sv, hsv, hos⟩ := hI.row
            rw [stopR_all] at hos
            obtain ⟨sa, sc, rfl⟩ := hos.shape
            have cf : W.cell? ⟨w.heap.size + 1, 0, none⟩ = some (.slice a2 k cap2) := block_cell (i := 0) hI.box.f rfl
            go_wp2_with fail
            go_loopw [5, 6, 95] (fun tk ts i wq => ∃ (k6 : Nat), k6 ≤ k ∧ i = .int .i64 (k6 : Int) ∧ Two W.heap.size wq tk ts (keepP fresh S k6) (startP fresh S k6) ∧ Below W.heap.size W wq) (fun _ _ i _ => k - (intOf i).toNat)
            case atStart => exact ⟨0, Nat.zero_le _, rfl, Two.nil _ _, Below.refl _ _⟩
            case round =>
              obtain ⟨k6, hk6, rfl, h2t, hb6⟩ := hrel
              have hIq := hI.below hI.low.size hb6
              have hbq := hIq.low
              obtain ⟨tka, tkc, rfl⟩ := h2t.keep.shape
              obtain ⟨tsa, tsc, rfl⟩ := h2t.start.shape
              by_cases hlt : k6 < k
              · obtain ⟨u, hu⟩ := get_lt fresh (k := k6) (by have := HN2.out; omega)
                obtain ⟨b2, off2, rfl, hcu, _⟩ := HC2.out k6 _ hu
                have hcu := UCP.keeps hbq hcu
                obtain ⟨p0, p1, hsn, hss, r1, f1, p2, p3, hr, hf⟩ := hcu
                obtain ⟨ra, rc, rfl, _, _, _⟩ := hr
                obtain ⟨fa, fc, rfl, _, _, _⟩ := hf
                have cfq : wr.cell? ⟨w.heap.size + 1, 0, none⟩ = some (.slice (some ⟨b2, off2, none⟩) k cap2) := block_cell (i := 0) hIq.box.f rfl
                have hzb := hIq.big
                have hz1 : w.heap.size + 1 < wr.heap.size := by omega
                have hz4 : w.heap.size + 4 < wr.heap.size := by omega
                have hkl := keepP_len fresh S k6
                have hsl := startP_len fresh S k6
                have HU := Lib.hid hu
                generalize hp : findI fresh u.name = p
                have HF := Lib.hid hp
                clear hu hp
                go_wp2_with fail
                refine (index_any (ULP.keeps (by (repeat' (first | (with_reducible exact Below.refl _ _) | (with_reducible assumption) | (with_reducible refine below_drewN ?_ _) | (with_reducible refine Below.drew ?_) | (with_reducible refine Below.alloc ?_ ?_ _) | (with_reducible refine Below.setCell ?_ ?_ _) | omega | (simp; done) | (simp; omega)))) h2) u.name).mono ?_
                rw [HF.out]
                rintro e w1 ⟨rfl, hb1⟩
                obtain ⟨T, hT⟩ : ∃ T, wr.heap.size = T := ⟨_, rfl⟩
                have hu9 : w1.heap[T]? = some (.cells #[.string u.name, .string u.start, .slice ra u.req.length rc, .slice fa u.aft.length fc] 32 (0, 0)) := by
                  rw [hb1.block T (by simp; omega)]
                  exact block_new _ _ hT.symm
                have t0 : w1.cell? ⟨T, 0, none⟩ = some (.string u.name) := block_cell (i := 0) hu9 rfl
                have hb2 : Below wr.heap.size wr w1 := Below.next (by (repeat' (first | (with_reducible exact Below.refl _ _) | (with_reducible assumption) | (with_reducible refine below_drewN ?_ _) | (with_reducible refine Below.drew ?_) | (with_reducible refine Below.alloc ?_ ?_ _) | (with_reducible refine Below.setCell ?_ ?_ _) | omega | (simp; done) | (simp; omega)))) hb1
                have hbW := hb6.next hb2
                have h2u := h2t.below hb2
                have hI1 := hIq.below hIq.low.size hb2
                have cm1 : w1.cell? ⟨w.heap.size + 4, 0, none⟩ = some (.map (some (w.heap.size + 3))) := block_cell (i := 0) hI1.box.m rfl
                have hlk := hI1.map.look Try.underlying50 zeroBool hsn
                rw [FS_look] at hlk
                clear p0 p1 p2 p3 hu9
                by_cases hpk : p = (k6 : Int)
                · subst hpk
                  have hkk : ((k6 : Int) != (k6 : Int)) = false := by simp
                  generalize hSn : S u.name = B at *
                  have HSN := Lib.hid hSn
                  clear hSn
                  cases B
                  · skip
                    go_wp2_with (at_builtin
                                 refine append_str rfl _ _ rfl W.heap.size (.slice tsa (startP fresh S k6).length tsc) (startP fresh S k6).length _ rfl (World.ownsRow.alloc h2u.start _) w1.heap.size _ u.name rfl (block_cell (block_new _ _ rfl) rfl) (by omega) (by have := hbW.size; simp; omega) ?_
                                 intro v4 w4 hown4 hg4 hl4)
                    go_roundw
                    case rel =>
                      have hb4 : Below W.heap.size W w4 := Below.grown (w := w1.alloc _) (hbW.alloc hbW.size _) hg4 (by have := hbW.size; simp; omega) (fun j hj => by have := OS.lows h2u.start j hj; omega)
                      have e := both_start HU.out HF.out HSN.out
                      refine ⟨k6 + 1, by omega, by go_num, ?_, hb4⟩
                      rw [e.1, e.2]
                      exact (((h2u.below ((Below.refl _ _).alloc (Nat.le_refl _) _)).swap.push hown4 hg4 hl4)).swap
                    case measure => simp [intOf]; omega
                  · skip
                    go_wp2_with (at_builtin
                                 refine append_str rfl _ _ rfl W.heap.size (.slice tka (keepP fresh S k6).length tkc) (keepP fresh S k6).length _ rfl (World.ownsRow.alloc h2u.keep _) w1.heap.size _ u.name rfl (block_cell (block_new _ _ rfl) rfl) (by omega) (by have := hbW.size; simp; omega) ?_
                                 intro v4 w4 hown4 hg4 hl4)
                    go_roundw
                    case rel =>
                      have hb4 : Below W.heap.size W w4 := Below.grown (w := w1.alloc _) (hbW.alloc hbW.size _) hg4 (by have := hbW.size; simp; omega) (fun j hj => by have := OS.lows h2u.keep j hj; omega)
                      have e := both_keep HU.out HF.out HSN.out
                      refine ⟨k6 + 1, by omega, by go_num, ?_, hb4⟩
                      rw [e.1, e.2]
                      exact (h2u.below ((Below.refl _ _).alloc (Nat.le_refl _) _)).push hown4 hg4 hl4
                    case measure => simp [intOf]; omega
                · have hpkb : (p != (k6 : Int)) = true := by simp [hpk]
                  go_wp2_with fail
                  go_roundw
                  case rel =>
                    have e := both_no (S := S) HU.out (by rw [HF.out]; exact hpk)
                    refine ⟨k6 + 1, by omega, by go_num, ?_, hbW⟩
                    rw [e.1, e.2]
                    exact h2u
                  case measure => simp [intOf]; omega
              · obtain rfl : k6 = k := by omega
                have hsv' : Boxed wr (w.heap.size + 2) 30 (.slice sa (stopP old S n1).length sc) := hsv.kept (grown_of_below hb6) (by simp)
                have hos' := OS.below hos hb6
                have cs := hsv'.cell
                have fs := hsv'.frozen
                have hK' : wr.heap[D]? = some (.deferred (some [])) := (hb6.block D (Array.getElem?_eq_some_iff.1 hK).1).trans hK
                go_wp2_with fail
                have hDb : D ≠ w.heap.size + 2 := by omega
                have hKf : (wr.setCell ⟨w.heap.size + 2, 0, none⟩ (.slice sa (stopP old S n1).length sc)).heap[D]? = some (.deferred (some [])) := (Below.heap_setCell _ _ _ _ hDb).trans hK'
                have hgp := grownBy_putObj' (wr.setCell ⟨w.heap.size + 2, 0, none⟩ (.slice sa (stopP old S n1).length sc)) D (.deferred none)
                have hsvf := (hsv'.set (.slice sa (stopP old S n1).length sc)).kept hgp (by simp; omega)
                have hosf : OS (Bs + 1) (wr.setCell ⟨w.heap.size + 2, 0, none⟩ (.slice sa (stopP old S n1).length sc)) (.slice sa (stopP old S n1).length sc) (stopP old S n1) := OS.set hos' (by simp; omega) _
                have hWb := hI.big
                have hkf := OS.set h2t.keep (a := ⟨w.heap.size + 2, 0, none⟩) (by simp; omega) (.slice sa (stopP old S n1).length sc)
                have htf := OS.set h2t.start (a := ⟨w.heap.size + 2, 0, none⟩) (by simp; omega) (.slice sa (stopP old S n1).length sc)
                have r1 : OS (Bs + 1) _ _ _ := ownsRow_putObj hosf (.deferred none) hKf rfl
                have r2 : OS W.heap.size _ _ _ := ownsRow_putObj hkf (.deferred none) hKf rfl
                have r3 : OS W.heap.size _ _ _ := ownsRow_putObj htf (.deferred none) hKf rfl
                have hbf : Below w.heap.size w ((wr.setCell ⟨w.heap.size + 2, 0, none⟩ (.slice sa (stopP old S n1).length sc)).putObj D (.deferred none)) :=
                  (hbq.setCell (p := ⟨w.heap.size + 2, 0, none⟩) (by simp) (.slice sa (stopP old S n1).length sc)).grown hgp (by have := hbq.size; simp; omega) (fun j hj => by cases hj; omega)
                have cz := hsvf.cell
                refine ⟨by simp, .inl ⟨_, _, rfl, run_takeDeferred hKf, ?_⟩⟩
                refine ⟨_, results_ctt rfl rfl cz, S, HMid.out, HCl.out, _, _, _, rfl, ?_, ?_, ?_, hbf⟩
                · rw [HN1.out]
                  refine (OS.slp r1 ?_ ?_).any
                  · have := stopP_len old S n1; omega
                  · intro s hs
                    obtain ⟨j, u, _, hu, rfl, _⟩ := stopP_mem hs
                    obtain ⟨_, _, _, hcu, _⟩ := HC1.out j _ hu
                    exact hcu.2.2.1
                · rw [HN2.out]
                  refine (OS.slp r2 ?_ ?_).any
                  · have := keepP_len fresh S k6; omega
                  · intro s hs
                    obtain ⟨j, u, _, hu, rfl, _⟩ := keepP_mem hs
                    obtain ⟨_, _, _, hcu, _⟩ := HC2.out j _ hu
                    exact hcu.2.2.1
                · rw [HN2.out]
                  refine (OS.slp r3 ?_ ?_).any
                  · have := startP_len fresh S k6; omega
                  · intro s hs
                    obtain ⟨j, u, _, hu, rfl, _⟩ := startP_mem hs
                    obtain ⟨_, _, _, hcu, _⟩ := HC2.out j _ hu
                    exact hcu.2.2.1
        · clear HClo
          have tok1 : True := trivial
          go_wp2_with (at_range; have _t := tok1
                       refine at_ranged _ rfl _ _ _ rfl Try.underlying50 (w.heap.size + 3) k _ rfl hM ?_
                       intro w1 cnt1 hR1 hg1 hz1
                       clear tok1)
          go_frame
          have hb1 : Below w.heap.size w w1 := hb.grown hg1 (by omega) (by simp)
          have hE1 := hE.grown hg1 (fun j hj => by cases hj)
          have hS1 := block_grown hS4 hg1 (by simp)
          obtain ⟨r, hr⟩ : ∃ r, r = wr.heap.size := ⟨_, rfl⟩
          rw [← hr] at hR1 ⊢
          have hrz : w.heap.size + 5 ≤ r := by omega
          have hwz : r + 1 ≤ w1.heap.size := by omega
          clear hr hg1 hM hE hS4 hz1 cm hb hz
          go_loopw [11] (fun m wq => ∃ (m2 : Bool) (S2 : NSet) (left : ByteArray → Bool) (cnt : Nat), m = .bool m2 ∧ MR wq (w.heap.size + 3) r k (FS S2) left cnt ∧ Bx wq w.heap.size (.slice a1 n1 cap1) (.slice a2 k cap2) ∧ wq.heap[w.heap.size + 2]? = some (.cells #[.slice none 0 0] 30 (0, 0)) ∧ Hid (Mid old fresh S2) ∧ Hid (m2 = false → ∀ s, S2 s = true → left s = true ∨ badB old fresh S2 s = false) ∧ Hid (cntS fresh S2 + oneIf (.bool m2) ≤ cntS fresh S) ∧ Below w.heap.size w wq ∧ r + 1 ≤ wq.heap.size) (fun _ wq => wq.rangeLeft (w.heap.size + 3) r)
          case atStart => exact ⟨false, S, _, _, rfl, hR1, hE1, hS1, HMid, (fun _ s hs => Or.inl (by unfold FS; rw [hs]; rfl)), Nat.le_refl _, hb1, hwz⟩
          case round =>
            clear hR1 hE1 hS1 hb1 hwz HMid
            obtain ⟨m2, S2, left, cnt, rfl, hMR, hE, hS4, HMid, HO, HC, hb, hz⟩ := hrel
            go_wp2_with (at_next; refine at_nexted _ rfl _ rfl (w.heap.size + 3) r k _ left cnt rfl hMR ?_ ?_)
            · intro hl0
              have HL := Lib.hid hl0
              clear hl0
              go_wp2_with fail
              go_roundw
              case rel => exact ⟨m2, rfl, S2, hMR.owns, hE, hS4, HMid, (fun h s hs => (HO.out h s hs).elim (fun h => by rw [HL.out s] at h; cases h) id), hb, by omega⟩
              case measure =>
                have hle := least_le (R := fun S => Hid (FixR w.heap.size w old fresh (.slice a1 n1 cap1) (.slice a2 k cap2) k m2 wr S)) (fun S => 2 * cntS fresh S + oneIf (.bool m2)) (S := S2) ⟨hMR.owns, hE, hS4, HMid, (fun h s hs => (HO.out h s hs).elim (fun h => by rw [HL.out s] at h; cases h) id), hb, by omega⟩
                refine Nat.lt_of_le_of_lt hle ?_
                have h1 := HME.out
                have h2 := HC.out
                show _ < least _ _
                simp only [boolOf]
                rw [← h1]
                cases m2 <;> simp [oneIf] at h2 ⊢ <;> omega
            · intro s v w3 cnt3 hss hls hFs hMR3 hlt3 hg3 hz3 hen
              obtain ⟨hSs, rfl⟩ := FS_some hFs
              obtain ⟨i, _, u, _, hfu, _, hu, _, _⟩ := S0_in (HMid.out.sub s hSs)
              have HSS := Lib.hid hSs
              have HFU := Lib.hid hfu
              have HFI := Lib.hid (findI_eq.2 hfu)
              have HU := Lib.hid hu
              have HLS := Lib.hid hls
              have hb3 : Below w.heap.size w w3 := hb.grown hg3 (by omega) (fun j hj => by cases hj; omega)
              have hE3 := hE.grown hg3 (fun j hj => by cases hj; omega)
              have hS3 := block_grown hS4 hg3 (by simp; omega)
              have cf := block_cell (i := 0) hE3.f rfl
              have cm := block_cell (i := 0) hE3.m rfl
              obtain ⟨b, off, rfl, hcu, _⟩ := HC2.out i _ hu
              have hcu := UCP.keeps hb3 hcu
              obtain ⟨_, _, _, _, r1, f1, p2, p3, hr4, _⟩ := hcu
              have hr' := hr4
              obtain ⟨ra, rc, rfl, _, _, _⟩ := hr'
              have hik : i < k := by have := findU_inb hfu; rw [HN2.out] at this; exact this
              have hikI : (i : Int) < (k : Int) := by omega
              have hi0 : (0 : Int) ≤ (i : Int) := by omega
              have hEnv : DEnv w3 (w.heap.size + 4) w.heap.size (w.heap.size + 1) (w.heap.size + 3) k S2 (.slice a1 n1 cap1) (.slice (some ⟨b, off, none⟩) k cap2) old fresh :=
                ⟨cm, hMR3.owns, block_cell (i := 0) hE3.o rfl, cf, h1.keeps hb3, h2.keeps hb3⟩
              clear hSs hfu hu hls hFs hE hS4
              go_upto_region 16 with fail
              go_cut [68] from 60 to 68 (fun c wx => ∃ B : Bool, c = .bool B ∧ Hid (B = badB old fresh S2 s) ∧ Below w3.heap.size w3 wx)
              case first =>
                refine with_frame fun a0 ha0 => ?_
                have hb4 := hb3
                have cf : w3.cell? ⟨w.heap.size + 1, 0, none⟩ = some (.slice (some ⟨b, off, none⟩) k cap2) := cf
                have e3 : a0.eval (.tmp 3) = .pointer (some ⟨w.heap.size + 1, 0, none⟩) := by rw [ha0]; rfl
                have e12 : a0.eval (.tmp 12) = .string s := by rw [ha0]; rfl
                have e13 : a0.eval (.tmp 13) = .func (.func 30) #[] #[.pointer (some ⟨w.heap.size + 4, 0, none⟩), .pointer (some ⟨w.heap.size, 0, none⟩), .pointer (some ⟨w.heap.size + 1, 0, none⟩)] := by rw [ha0]; rfl
                have hsz : a0.tmps.size = 126 := by rw [ha0]; rfl
                have HA := Lib.hid ha0
                clear ha0
                have hD : ∀ d, (List.range' 60 8).contains d = true → d < a0.tmps.size := by
                  intro d h
                  rw [hsz]
                  have hm : d ∈ List.range' 60 8 := by simpa using h
                  rw [List.mem_range'_1] at hm
                  omega
                refine wp_region_tab (by kernel_rfl) 8 60 (fun jj => ([.slice (some ⟨b, off, none⟩) k cap2, .slice (some ⟨b, off, none⟩) k cap2, .string s, .int .i64 (i : Int), .pointer (some ⟨b, off + i * 4, none⟩), .pointer (some ⟨b, off + i * 4 + 2, none⟩), .slice ra u.req.length rc, .func (.func 30) #[] #[.pointer (some ⟨w.heap.size + 4, 0, none⟩), .pointer (some ⟨w.heap.size, 0, none⟩), .pointer (some ⟨w.heap.size + 1, 0, none⟩)]] : List Value).getD jj undef) (fun w' => Below w3.heap.size w3 w') rfl (by kernel_rfl) (by kernel_rfl) (by (repeat' (first | (with_reducible exact Below.refl _ _) | (with_reducible assumption) | (with_reducible refine below_drewN ?_ _) | (with_reducible refine Below.drew ?_) | (with_reducible refine Below.alloc ?_ ?_ _) | (with_reducible refine Below.setCell ?_ ?_ _) | omega | (simp; done) | (simp; omega)))) ?_ ?_
                · intro i0 hi v w0 hW hv
                  have cf := cell_keeps hW cf
                  have p2 := cell_keeps hW p2
                  have inn : ∀ d, (List.range' 60 8).contains d = true → (frameOf a0 (List.range' 60 8) v).tmps[d]?.getD undef = v d := fun d h => frameOf_in' h (hD d h)
                  rcases (by omega : i0 = 0 ∨ i0 = 1 ∨ i0 = 2 ∨ i0 = 3 ∨ i0 = 4 ∨ i0 = 5 ∨ i0 = 6 ∨ i0 = 7) with rfl | rfl | rfl | rfl | rfl | rfl | rfl | rfl
                  · -- operation 0
                    have E3 : (frameOf a0 (List.range' 60 8) v).tmps[3]?.getD undef = .pointer (some ⟨w.heap.size + 1, 0, none⟩) := (frameOf_out' rfl).trans e3
                    refine wpOp_value (v := .slice (some ⟨b, off, none⟩) k cap2) (w' := w0) rfl rfl (by go_simp) ?_
                    exact ⟨frameOf_put rfl, hW⟩
                  · -- operation 1
                    have E3 : (frameOf a0 (List.range' 60 8) v).tmps[3]?.getD undef = .pointer (some ⟨w.heap.size + 1, 0, none⟩) := (frameOf_out' rfl).trans e3
                    refine wpOp_value (v := .slice (some ⟨b, off, none⟩) k cap2) (w' := w0) rfl rfl (by go_simp) ?_
                    exact ⟨frameOf_put rfl, hW⟩
                  · -- operation 2
                    have E12 : (frameOf a0 (List.range' 60 8) v).tmps[12]?.getD undef = .string s := (frameOf_out' rfl).trans e12
                    refine wpOp_value (v := .string s) (w' := w0) rfl rfl (by go_simp) ?_
                    exact ⟨frameOf_put rfl, hW⟩
                  · -- operation 3
                    have x61 : v 61 = .slice (some ⟨b, off, none⟩) k cap2 := hv 1 (by kernel_rfl)
                    have E61 := (inn 61 rfl).trans x61
                    have x62 : v 62 = .string s := hv 2 (by kernel_rfl)
                    have E62 := (inn 62 rfl).trans x62
                    refine wpOp_call (f := 28) (args := #[.slice (some ⟨b, off, none⟩) k cap2, .string s]) rfl rfl (by go_simp) (index_any (ULP.keeps (hb4.next hW) h2) s) ?_
                    rintro e w' ⟨rfl, hB'⟩
                    rw [HFI.out]
                    exact ⟨_, rfl, frameOf_put rfl, hW.next hB'⟩
                  · -- operation 4
                    have x60 : v 60 = .slice (some ⟨b, off, none⟩) k cap2 := hv 0 (by kernel_rfl)
                    have E60 := (inn 60 rfl).trans x60
                    have x63 : v 63 = .int .i64 (i : Int) := hv 3 (by kernel_rfl)
                    have E63 := (inn 63 rfl).trans x63
                    refine wpOp_value (v := .pointer (some ⟨b, off + i * 4, none⟩)) (w' := w0) rfl rfl (by go_simp) ?_
                    exact ⟨frameOf_put rfl, hW⟩
                  · -- operation 5
                    have x64 : v 64 = .pointer (some ⟨b, off + i * 4, none⟩) := hv 4 (by kernel_rfl)
                    have E64 := (inn 64 rfl).trans x64
                    refine wpOp_value (v := .pointer (some ⟨b, off + i * 4 + 2, none⟩)) (w' := w0) rfl rfl (by go_simp) ?_
                    exact ⟨frameOf_put rfl, hW⟩
                  · -- operation 6
                    have x65 : v 65 = .pointer (some ⟨b, off + i * 4 + 2, none⟩) := hv 5 (by kernel_rfl)
                    have E65 := (inn 65 rfl).trans x65
                    refine wpOp_value (v := .slice ra u.req.length rc) (w' := w0) rfl rfl (by go_simp) ?_
                    exact ⟨frameOf_put rfl, hW⟩
                  · -- operation 7
                    have E13 : (frameOf a0 (List.range' 60 8) v).tmps[13]?.getD undef = .func (.func 30) #[] #[.pointer (some ⟨w.heap.size + 4, 0, none⟩), .pointer (some ⟨w.heap.size, 0, none⟩), .pointer (some ⟨w.heap.size + 1, 0, none⟩)] := (frameOf_out' rfl).trans e13
                    refine wpOp_value (v := .func (.func 30) #[] #[.pointer (some ⟨w.heap.size + 4, 0, none⟩), .pointer (some ⟨w.heap.size, 0, none⟩), .pointer (some ⟨w.heap.size + 1, 0, none⟩)]) (w' := w0) rfl rfl (by go_simp) ?_
                    exact ⟨frameOf_put rfl, hW⟩
                · intro w0 hW
                  have h0 := HA.out
                  subst h0
                  have hrg : List.range' 60 8 = [60, 61, 62, 63, 64, 65, 66, 67] := rfl
                  rw [hrg]
                  clear hrg
                  simp only [frameOf_cons, frameOf_nil, Act.put, List.setIfInBounds_toArray, List.set_cons_zero, List.set_cons_succ]
                  refine wpOp_call (f := 22) (args := #[.slice ra u.req.length rc, .func (.func 30) #[] #[.pointer (some ⟨w.heap.size + 4, 0, none⟩), .pointer (some ⟨w.heap.size, 0, none⟩), .pointer (some ⟨w.heap.size + 1, 0, none⟩)]]) rfl rfl (by go_simp) (containsFunc_any entersD1 (SLP.keeps hW hr4) (gone_pred (DEnv.keeps hW hEnv) hr4.size)) ?_
                  rintro e w' ⟨rfl, hB'⟩
                  refine ⟨_, rfl, ?_⟩
                  go_wp2_with fail
                  go_meet
                  exact ⟨_, rfl, Lib.hid (badB_at HFU.out HU.out).symm, hW.next hB'⟩
              case rest =>
                obtain ⟨B, rfl, HB, hbc⟩ := hcut
                have hMRc := hMR3.below hbc
                have hEc := hE3.below hbc
                have hSc : wc.heap[w.heap.size + 2]? = some (.cells #[.slice none 0 0] 30 (0, 0)) := by rw [hbc.block _ (by have := hg3.size; omega)]; exact hS3
                have hb5 := hb3.next hbc
                have hzc : r + 1 ≤ wc.heap.size := by have := hbc.size; have := hg3.size; omega
                have cm' : wc.cell? ⟨w.heap.size + 4, 0, none⟩ = some (.map (some (w.heap.size + 3))) := cell_keeps hbc cm
                clear hMR3 hE3 hS3 hEnv p2 p3 hr4 cf cm
                cases B
                · go_wp2_with fail
                  go_roundw
                  case rel =>
                    refine ⟨m2, S2, _, cnt3, rfl, hMRc, hEc, hSc, HMid, ?_, HC, hb5, hzc⟩
                    intro h x hx
                    by_cases e : x = s
                    · subst e; exact Or.inr HB.out.symm
                    · rcases HO.out h x hx with h1 | h1
                      · exact Or.inl (by simp [h1, e])
                      · exact Or.inr h1
                  case measure =>
                    rw [hMRc.left_eq, hMR.left_eq]
                    exact hlt3
                · have tok1 : True := trivial
                  go_wp2_with (at_delete; have _t := tok1
                               refine at_dropped _ rfl _ _ _ _ rfl Try.underlying50 (w.heap.size + 3) r k _ _ _ rfl hMRc s rfl hss ?_
                               intro w5 cnt5 hMR5 hle5 hg5 hz5
                               clear tok1)
                  go_roundw
                  case rel =>
                    refine ⟨true, delS S2 s, _, cnt5, rfl, (by rw [FS_del]; exact hMR5), hEc.grown hg5 (fun j hj => by cases hj; exact Or.inl rfl), block_grown hSc hg5 (by simp), HMid.out.del HB.out.symm, (fun h => by cases h), ?_, Below.grown hb5 hg5 (by omega) (fun j hj => by cases hj; omega), by omega⟩
                    have h1 := cntS_del HSS.out HFU.out
                    have h2 := HC.out
                    unfold Hid
                    simp only [oneIf] at h2 ⊢
                    omega
                  case measure =>
                    rw [hMR5.left_eq, hMR.left_eq]
                    omega
end Go.Proofs.Ytlhlbckmifgeeaa
