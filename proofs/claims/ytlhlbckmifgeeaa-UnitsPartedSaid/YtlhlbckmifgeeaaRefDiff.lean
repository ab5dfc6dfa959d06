/- The reference's Diff: it answers out of a set that is closed and the greatest. -/
import Derived.Test.YtlhlbckmifgeeaaRefOrd
import Derived.Test.YtlhlbckmifgeeaaDiffT
import Derived.Test.YtlhlbckmifgeeaaRegTab
namespace Go.Proofs.Ytlhlbckmifgeeaa
open Go.RowKit

theorem BB.drew' {w : World} {g : Nat} {bs : List Bool} (h : BB w g bs) : BB w.drew g bs := h
def isT : Value → Bool | .bool b => b | _ => false
def cntW (w : World) (g : Nat) : Nat := match w.heap[g]? with | some (.cells c _ _) => c.toList.countP isT | _ => 0
theorem BB.cnt {w : World} {g : Nat} {bs : List Bool} (h : BB w g bs) : cntW w g = cntB bs := by
  unfold cntW cntB
  rw [h]
  simp only
  clear h
  induction bs with
  | nil => rfl
  | cons b r ih => simp [List.countP_cons, isT] at ih ⊢; rw [ih]; cases b <;> rfl
theorem bit_step {old fresh : List U} {bs : List Bool} {k : Nat} {x : Bool} (h : ∀ j, j < k → bs[j]? = some (bit0 old fresh j)) (hk : k < bs.length) (hx : bit0 old fresh k = x) : ∀ j, j < k + 1 → (bs.set k x)[j]? = some (bit0 old fresh j) := by
  intro j hj
  by_cases e : k = j
  · subst e; simp [hk, hx]
  · rw [List.getElem?_set_ne e]; exact h j (by omega)
set_option maxHeartbeats 8000000 in
set_option maxRecDepth 100000 in
theorem refDiff_any {v1 v2 : Value} {old fresh : List U} {w : World} (h1 : UL w v1 old) (h2 : UL w v2 fresh) (hsz : sizeU fresh ≤ 2000) :
    Calls Try.prog 16 #[v1, v2] w fun e w' => ∃ S, Mid old fresh S ∧ Closed old fresh S ∧ DAns w w' e old fresh S := by
  have h10 := h1
  have h20 := h2
  obtain ⟨a1, cap1, rfl, hm1, hc1⟩ := h10
  obtain ⟨a2, cap2, rfl, hm2, hc2⟩ := h20
  have hln : fresh.length ≤ 2000 := by unfold sizeU at hsz; omega
  have hmk := fun (W : World) => make_bools fresh.length hln W
  generalize hn1 : old.length = n1 at *
  generalize hn2 : fresh.length = n2 at *
  have HN1 := Lib.hid hn1
  have HN2 := Lib.hid hn2
  have HC1 := Lib.hid hc1
  have HC2 := Lib.hid hc2
  clear hn1 hn2 hc1 hc2 hsz
  go_enter Try.func16, Try.ntmps16
  go_wp2_with fail
  go_loopw [8] (fun i wr => ∃ (k : Nat) (bs : List Bool), k ≤ n2 ∧ i = .int .i64 k ∧ BB wr w.heap.size bs ∧ Hid (bs.length = n2) ∧ Hid (∀ j, j < k → bs[j]? = some (bit0 old fresh j)) ∧ Below w.heap.size w wr) (fun i _ => n2 - (intOf i).toNat)
  case atStart => exact ⟨0, List.replicate n2 false, Nat.zero_le _, rfl, (by have := block_new w (.cells ((List.replicate n2 false).map Value.bool).toArray 4) rfl; simpa [BB] using this), List.length_replicate, fun _ hj => absurd hj (Nat.not_lt_zero _), (by (repeat' (first | (with_reducible exact Below.refl _ _) | (with_reducible assumption) | (with_reducible refine below_drewN ?_ _) | (with_reducible refine Below.drew ?_) | (with_reducible refine Below.alloc ?_ ?_ _) | (with_reducible refine Below.setCell ?_ ?_ _) | omega | (simp; done) | (simp; omega))))⟩
  case round =>
    clear hmk
    obtain ⟨k, bs, hk, rfl, hbb, hbl, hbt, hb⟩ := hrel
    by_cases hlt : k < n2
    · obtain ⟨u, hu⟩ := get_lt fresh (k := k) (by have := HN2.out; omega)
      obtain ⟨b, off, rfl, hcu, _⟩ := HC2.out k _ hu
      have hcu := UCP.keeps hb hcu
      obtain ⟨r1, f1, hr1, hf1, hv1⟩ := hcu.value
      obtain ⟨p0, p1, p2, p3, _⟩ := hcu
      obtain ⟨x0, hx0⟩ := get_lt bs (k := k) (by have := hbl.out; omega)
      have hkk : ((k : Int) == (k : Int)) = true := by simp
      have HU := Lib.hid hu
      clear hu
      generalize hq : findI old u.name = q
      generalize hf : findI fresh u.name = p
      have HQ := Lib.hid hq
      have HF := Lib.hid hf
      clear hq hf
      go_wp2_with fail
      refine (find_any (ULP.keeps ?_ h1)).mono ?_
      rotate_left 1
      rw [HQ.out]
      rintro e w1 ⟨rfl, rfl⟩
      go_wp2_with fail
      by_cases hpk : p = (k : Int)
      · subst hpk
        rcases findI_cases old u.name with hq0 | ⟨i, hq0⟩
        · have : q = -1 := by rw [← HQ.out]; exact hq0
          subst this
          clear hq0
          refine with_frame fun a0 ha0 => ?_
          have e0 : a0.eval (.tmp 0) = .slice a1 n1 cap1 := by rw [ha0]; rfl
          have e1 : a0.eval (.tmp 1) = .slice (some ⟨b, off, none⟩) n2 cap2 := by rw [ha0]; rfl
          have e7 : a0.eval (.tmp 7) = .slice (some ⟨w.heap.size, 0, none⟩) n2 n2 := by rw [ha0]; rfl
          have e8 : a0.eval (.tmp 8) = .int .i64 (k : Int) := by rw [ha0]; rfl
          have e9 : a0.eval (.tmp 9) = .int .i64 (-1) := by rw [ha0]; rfl
          have hsz : a0.tmps.size = 209 := by rw [ha0]; rfl
          have HA := Lib.hid ha0
          clear ha0
          have hD : ∀ d, (List.range' 37 27).contains d = true → d < a0.tmps.size := by
            intro d h
            rw [hsz]
            have hm : d ∈ List.range' 37 27 := by simpa using h
            rw [List.mem_range'_1] at hm
            omega
          refine wp_region_tab (by kernel_rfl) 27 37 (fun jj => ([.slice (some ⟨w.heap.size, 0, none⟩) n2 n2, .int .i64 (k : Int), .slice (some ⟨b, off, none⟩) n2 cap2, .slice (some ⟨b, off, none⟩) n2 cap2, .int .i64 (k : Int), .pointer (some ⟨b, off + k * 4, none⟩), .pointer (some ⟨b, off + k * 4, none⟩), .string u.name, .int .i64 (k : Int), .int .i64 (k : Int), .bool true, .bool true, .int .i64 (-1), .bool false, .bool false, .bool false, undef, undef, undef, undef, undef, undef, undef, undef, undef, .bool false, .pointer (some ⟨w.heap.size, k, none⟩)] : List Value).getD jj undef) (fun w' => Below wr.heap.size wr w') rfl (by kernel_rfl) (by kernel_rfl) (by (repeat' (first | (with_reducible exact Below.refl _ _) | (with_reducible assumption) | (with_reducible refine below_drewN ?_ _) | (with_reducible refine Below.drew ?_) | (with_reducible refine Below.alloc ?_ ?_ _) | (with_reducible refine Below.setCell ?_ ?_ _) | omega | (simp; done) | (simp; omega)))) ?_ ?_
          · intro i0 hi v w0 hW hv
            have p0 := cell_keeps hW p0
            have p1 := cell_keeps hW p1
            have hr1 := cell_keeps hW hr1
            have hf1 := cell_keeps hW hf1
            have inn : ∀ d, (List.range' 37 27).contains d = true → (frameOf a0 (List.range' 37 27) v).tmps[d]?.getD undef = v d := fun d h => frameOf_in' h (hD d h)
            rcases (by omega : i0 = 0 ∨ i0 = 1 ∨ i0 = 2 ∨ i0 = 3 ∨ i0 = 4 ∨ i0 = 5 ∨ i0 = 6 ∨ i0 = 7 ∨ i0 = 8 ∨ i0 = 9 ∨ i0 = 10 ∨ i0 = 11 ∨ i0 = 12 ∨ i0 = 13 ∨ i0 = 14 ∨ i0 = 15 ∨ i0 = 16 ∨ i0 = 17 ∨ i0 = 18 ∨ i0 = 19 ∨ i0 = 20 ∨ i0 = 21 ∨ i0 = 22 ∨ i0 = 23 ∨ i0 = 24 ∨ i0 = 25 ∨ i0 = 26) with rfl | rfl | rfl | rfl | rfl | rfl | rfl | rfl | rfl | rfl | rfl | rfl | rfl | rfl | rfl | rfl | rfl | rfl | rfl | rfl | rfl | rfl | rfl | rfl | rfl | rfl | rfl
            · -- operation 0
              have E7 : (frameOf a0 (List.range' 37 27) v).tmps[7]?.getD undef = .slice (some ⟨w.heap.size, 0, none⟩) n2 n2 := (frameOf_out' rfl).trans e7
              refine wpOp_value (v := .slice (some ⟨w.heap.size, 0, none⟩) n2 n2) (w' := w0) rfl rfl (by go_simp) ?_
              exact ⟨frameOf_put rfl, hW⟩
            · -- operation 1
              have E8 : (frameOf a0 (List.range' 37 27) v).tmps[8]?.getD undef = .int .i64 (k : Int) := (frameOf_out' rfl).trans e8
              refine wpOp_value (v := .int .i64 (k : Int)) (w' := w0) rfl rfl (by go_simp) ?_
              exact ⟨frameOf_put rfl, hW⟩
            · -- operation 2
              have E1 : (frameOf a0 (List.range' 37 27) v).tmps[1]?.getD undef = .slice (some ⟨b, off, none⟩) n2 cap2 := (frameOf_out' rfl).trans e1
              refine wpOp_value (v := .slice (some ⟨b, off, none⟩) n2 cap2) (w' := w0) rfl rfl (by go_simp) ?_
              exact ⟨frameOf_put rfl, hW⟩
            · -- operation 3
              have E1 : (frameOf a0 (List.range' 37 27) v).tmps[1]?.getD undef = .slice (some ⟨b, off, none⟩) n2 cap2 := (frameOf_out' rfl).trans e1
              refine wpOp_value (v := .slice (some ⟨b, off, none⟩) n2 cap2) (w' := w0) rfl rfl (by go_simp) ?_
              exact ⟨frameOf_put rfl, hW⟩
            · -- operation 4
              have E8 : (frameOf a0 (List.range' 37 27) v).tmps[8]?.getD undef = .int .i64 (k : Int) := (frameOf_out' rfl).trans e8
              refine wpOp_value (v := .int .i64 (k : Int)) (w' := w0) rfl rfl (by go_simp) ?_
              exact ⟨frameOf_put rfl, hW⟩
            · -- operation 5
              have x40 : v 40 = .slice (some ⟨b, off, none⟩) n2 cap2 := hv 3 (by kernel_rfl)
              have E40 := (inn 40 rfl).trans x40
              have x41 : v 41 = .int .i64 (k : Int) := hv 4 (by kernel_rfl)
              have E41 := (inn 41 rfl).trans x41
              refine wpOp_value (v := .pointer (some ⟨b, off + k * 4, none⟩)) (w' := w0) rfl rfl (by go_simp) ?_
              exact ⟨frameOf_put rfl, hW⟩
            · -- operation 6
              have x42 : v 42 = .pointer (some ⟨b, off + k * 4, none⟩) := hv 5 (by kernel_rfl)
              have E42 := (inn 42 rfl).trans x42
              refine wpOp_value (v := .pointer (some ⟨b, off + k * 4, none⟩)) (w' := w0) rfl rfl (by go_simp) ?_
              exact ⟨frameOf_put rfl, hW⟩
            · -- operation 7
              have x43 : v 43 = .pointer (some ⟨b, off + k * 4, none⟩) := hv 6 (by kernel_rfl)
              have E43 := (inn 43 rfl).trans x43
              refine wpOp_value (v := .string u.name) (w' := w0) rfl rfl (by go_simp) ?_
              exact ⟨frameOf_put rfl, hW⟩
            · -- operation 8
              have x39 : v 39 = .slice (some ⟨b, off, none⟩) n2 cap2 := hv 2 (by kernel_rfl)
              have E39 := (inn 39 rfl).trans x39
              have x44 : v 44 = .string u.name := hv 7 (by kernel_rfl)
              have E44 := (inn 44 rfl).trans x44
              refine wpOp_call (f := 14) (args := #[.slice (some ⟨b, off, none⟩) n2 cap2, .string u.name]) rfl rfl (by go_simp) (find_any (ULP.keeps (hb.next hW) h2)) ?_
              rintro e w' ⟨rfl, rfl⟩
              rw [HF.out]
              exact ⟨_, rfl, frameOf_put rfl, hW⟩
            · -- operation 9
              have E8 : (frameOf a0 (List.range' 37 27) v).tmps[8]?.getD undef = .int .i64 (k : Int) := (frameOf_out' rfl).trans e8
              refine wpOp_value (v := .int .i64 (k : Int)) (w' := w0) rfl rfl (by go_simp) ?_
              exact ⟨frameOf_put rfl, hW⟩
            · -- operation 10
              have x45 : v 45 = .int .i64 (k : Int) := hv 8 (by kernel_rfl)
              have E45 := (inn 45 rfl).trans x45
              have x46 : v 46 = .int .i64 (k : Int) := hv 9 (by kernel_rfl)
              have E46 := (inn 46 rfl).trans x46
              refine wpOp_value (v := .bool true) (w' := w0) rfl rfl (by go_simp) ?_
              exact ⟨frameOf_put rfl, hW⟩
            · -- operation 11
              have x47 : v 47 = .bool true := hv 10 (by kernel_rfl)
              have E47 := (inn 47 rfl).trans x47
              refine wpOp_value (v := .bool true) (w' := w0) rfl rfl (by go_simp) ?_
              exact ⟨frameOf_put rfl, hW⟩
            · -- operation 12
              have E9 : (frameOf a0 (List.range' 37 27) v).tmps[9]?.getD undef = .int .i64 (-1) := (frameOf_out' rfl).trans e9
              have x48 : v 48 = .bool true := hv 11 (by kernel_rfl)
              have E48 := (inn 48 rfl).trans x48
              refine wpOp_guard (v := .int .i64 (-1)) (w' := w0) rfl rfl (yielded_at rfl rfl (by simp [frameOf, hsz]) E48) (by go_simp) ?_
              exact ⟨frameOf_put rfl, hW⟩
            · -- operation 13
              have x48 : v 48 = .bool true := hv 11 (by kernel_rfl)
              have E48 := (inn 48 rfl).trans x48
              have x49 : v 49 = .int .i64 (-1) := hv 12 (by kernel_rfl)
              have E49 := (inn 49 rfl).trans x49
              refine wpOp_guard (v := .bool false) (w' := w0) rfl rfl (yielded_at rfl rfl (by simp [frameOf, hsz]) E48) (by go_simp) ?_
              exact ⟨frameOf_put rfl, hW⟩
            · -- operation 14
              have x48 : v 48 = .bool true := hv 11 (by kernel_rfl)
              have E48 := (inn 48 rfl).trans x48
              have x50 : v 50 = .bool false := hv 13 (by kernel_rfl)
              have E50 := (inn 50 rfl).trans x50
              refine wpOp_value (v := .bool false) (w' := w0) rfl rfl (by go_simp) ?_
              exact ⟨frameOf_put rfl, hW⟩
            · -- operation 15
              have x51 : v 51 = .bool false := hv 14 (by kernel_rfl)
              have E51 := (inn 51 rfl).trans x51
              refine wpOp_value (v := .bool false) (w' := w0) rfl rfl (by go_simp) ?_
              exact ⟨frameOf_put rfl, hW⟩
            · -- operation 16
              have E0 : (frameOf a0 (List.range' 37 27) v).tmps[0]?.getD undef = .slice a1 n1 cap1 := (frameOf_out' rfl).trans e0
              have x52 : v 52 = .bool false := hv 15 (by kernel_rfl)
              have E52 := (inn 52 rfl).trans x52
              refine wpOp_out rfl rfl (yielded_at rfl rfl (by simp [frameOf, hsz]) E52) (by decide) ?_
              exact ⟨frameOf_put rfl, hW⟩
            · -- operation 17
              have E9 : (frameOf a0 (List.range' 37 27) v).tmps[9]?.getD undef = .int .i64 (-1) := (frameOf_out' rfl).trans e9
              have x52 : v 52 = .bool false := hv 15 (by kernel_rfl)
              have E52 := (inn 52 rfl).trans x52
              refine wpOp_out rfl rfl (yielded_at rfl rfl (by simp [frameOf, hsz]) E52) (by decide) ?_
              exact ⟨frameOf_put rfl, hW⟩
            · -- operation 18
              have x52 : v 52 = .bool false := hv 15 (by kernel_rfl)
              have E52 := (inn 52 rfl).trans x52
              have x53 : v 53 = undef := hv 16 (by kernel_rfl)
              have E53 := (inn 53 rfl).trans x53
              have x54 : v 54 = undef := hv 17 (by kernel_rfl)
              have E54 := (inn 54 rfl).trans x54
              refine wpOp_out rfl rfl (yielded_at rfl rfl (by simp [frameOf, hsz]) E52) (by decide) ?_
              exact ⟨frameOf_put rfl, hW⟩
            · -- operation 19
              have x52 : v 52 = .bool false := hv 15 (by kernel_rfl)
              have E52 := (inn 52 rfl).trans x52
              have x55 : v 55 = undef := hv 18 (by kernel_rfl)
              have E55 := (inn 55 rfl).trans x55
              refine wpOp_out rfl rfl (yielded_at rfl rfl (by simp [frameOf, hsz]) E52) (by decide) ?_
              exact ⟨frameOf_put rfl, hW⟩
            · -- operation 20
              have E1 : (frameOf a0 (List.range' 37 27) v).tmps[1]?.getD undef = .slice (some ⟨b, off, none⟩) n2 cap2 := (frameOf_out' rfl).trans e1
              have x52 : v 52 = .bool false := hv 15 (by kernel_rfl)
              have E52 := (inn 52 rfl).trans x52
              refine wpOp_out rfl rfl (yielded_at rfl rfl (by simp [frameOf, hsz]) E52) (by decide) ?_
              exact ⟨frameOf_put rfl, hW⟩
            · -- operation 21
              have E8 : (frameOf a0 (List.range' 37 27) v).tmps[8]?.getD undef = .int .i64 (k : Int) := (frameOf_out' rfl).trans e8
              have x52 : v 52 = .bool false := hv 15 (by kernel_rfl)
              have E52 := (inn 52 rfl).trans x52
              refine wpOp_out rfl rfl (yielded_at rfl rfl (by simp [frameOf, hsz]) E52) (by decide) ?_
              exact ⟨frameOf_put rfl, hW⟩
            · -- operation 22
              have x52 : v 52 = .bool false := hv 15 (by kernel_rfl)
              have E52 := (inn 52 rfl).trans x52
              have x57 : v 57 = undef := hv 20 (by kernel_rfl)
              have E57 := (inn 57 rfl).trans x57
              have x58 : v 58 = undef := hv 21 (by kernel_rfl)
              have E58 := (inn 58 rfl).trans x58
              refine wpOp_out rfl rfl (yielded_at rfl rfl (by simp [frameOf, hsz]) E52) (by decide) ?_
              exact ⟨frameOf_put rfl, hW⟩
            · -- operation 23
              have x52 : v 52 = .bool false := hv 15 (by kernel_rfl)
              have E52 := (inn 52 rfl).trans x52
              have x59 : v 59 = undef := hv 22 (by kernel_rfl)
              have E59 := (inn 59 rfl).trans x59
              refine wpOp_out rfl rfl (yielded_at rfl rfl (by simp [frameOf, hsz]) E52) (by decide) ?_
              exact ⟨frameOf_put rfl, hW⟩
            · -- operation 24
              have x52 : v 52 = .bool false := hv 15 (by kernel_rfl)
              have E52 := (inn 52 rfl).trans x52
              have x56 : v 56 = undef := hv 19 (by kernel_rfl)
              have E56 := (inn 56 rfl).trans x56
              have x60 : v 60 = undef := hv 23 (by kernel_rfl)
              have E60 := (inn 60 rfl).trans x60
              refine wpOp_out rfl rfl (yielded_at rfl rfl (by simp [frameOf, hsz]) E52) (by decide) ?_
              exact ⟨frameOf_put rfl, hW⟩
            · -- operation 25
              have x52 : v 52 = .bool false := hv 15 (by kernel_rfl)
              have E52 := (inn 52 rfl).trans x52
              have x61 : v 61 = undef := hv 24 (by kernel_rfl)
              have E61 := (inn 61 rfl).trans x61
              refine wpOp_value (v := .bool false) (w' := w0) rfl rfl (by go_simp) ?_
              exact ⟨frameOf_put rfl, hW⟩
            · -- operation 26
              have x37 : v 37 = .slice (some ⟨w.heap.size, 0, none⟩) n2 n2 := hv 0 (by kernel_rfl)
              have E37 := (inn 37 rfl).trans x37
              have x38 : v 38 = .int .i64 (k : Int) := hv 1 (by kernel_rfl)
              have E38 := (inn 38 rfl).trans x38
              refine wpOp_value (v := .pointer (some ⟨w.heap.size, k, none⟩)) (w' := w0) rfl rfl (by go_simp) ?_
              exact ⟨frameOf_put rfl, hW⟩
          · intro w0 hW
            have hbb0 := hbb.below hW
            have hcell0 := hbb0.cell hx0
            have hfree := hbb0.free (i := k)
            have hBB := hb.next hW
            have HBB0 := Lib.hid hbb0
            have HBB := Lib.hid hBB
            clear hbb hb hbb0 hBB p0 p1 hr1 hf1 hW hx0
            have h0 := HA.out
            subst h0
            have hrg : List.range' 37 27 = [37, 38, 39, 40, 41, 42, 43, 44, 45, 46, 47, 48, 49, 50, 51, 52, 53, 54, 55, 56, 57, 58, 59, 60, 61, 62, 63] := rfl
            rw [hrg]
            clear hrg
            simp only [frameOf_cons, frameOf_nil, Act.put, List.setIfInBounds_toArray, List.set_cons_zero, List.set_cons_succ]
            refine wpOp_skip (w' := w0.setCell ⟨w.heap.size, k, none⟩ (.bool false)) rfl rfl rfl (by go_simp) ?_
            go_wp2_with fail
            go_roundw
            case rel => exact ⟨k + 1, bs.set k false, by omega, by go_num, HBB0.out.set _, (by have := hbl.out; unfold Hid; simpa using this), Lib.hid (bit_step hbt.out (by have := hbl.out; omega) (bit0_no HU.out (Or.inr (by rw [HQ.out]; decide)))), HBB.out.setCell (p := ⟨w.heap.size, k, none⟩) (Nat.le_refl _) _⟩
            case measure => simp [intOf]; omega
        · have : q = (i : Int) := by rw [← HQ.out]; exact hq0
          subst this
          clear hq0
          obtain ⟨x, hx, _⟩ := findU_name (findI_eq.1 HQ.out)
          obtain ⟨b1, off1, rfl, hcx, _⟩ := HC1.out i _ hx
          have hil := HN1.out ▸ (List.getElem?_eq_some_iff.1 hx).1
          have hcx := UCP.keeps hb hcx
          obtain ⟨r2, f2, hr2, hf2, hv2⟩ := hcx.value
          obtain ⟨s0, s1, _⟩ := hcx
          have HX := Lib.hid hx
          clear hx
          refine with_frame fun a0 ha0 => ?_
          have e0 : a0.eval (.tmp 0) = .slice (some ⟨b1, off1, none⟩) n1 cap1 := by rw [ha0]; rfl
          have e1 : a0.eval (.tmp 1) = .slice (some ⟨b, off, none⟩) n2 cap2 := by rw [ha0]; rfl
          have e7 : a0.eval (.tmp 7) = .slice (some ⟨w.heap.size, 0, none⟩) n2 n2 := by rw [ha0]; rfl
          have e8 : a0.eval (.tmp 8) = .int .i64 (k : Int) := by rw [ha0]; rfl
          have e9 : a0.eval (.tmp 9) = .int .i64 (i : Int) := by rw [ha0]; rfl
          have hsz : a0.tmps.size = 209 := by rw [ha0]; rfl
          have HA := Lib.hid ha0
          clear ha0
          have hD : ∀ d, (List.range' 37 27).contains d = true → d < a0.tmps.size := by
            intro d h
            rw [hsz]
            have hm : d ∈ List.range' 37 27 := by simpa using h
            rw [List.mem_range'_1] at hm
            omega
          refine wp_region_tab (by kernel_rfl) 27 37 (fun jj => ([.slice (some ⟨w.heap.size, 0, none⟩) n2 n2, .int .i64 (k : Int), .slice (some ⟨b, off, none⟩) n2 cap2, .slice (some ⟨b, off, none⟩) n2 cap2, .int .i64 (k : Int), .pointer (some ⟨b, off + k * 4, none⟩), .pointer (some ⟨b, off + k * 4, none⟩), .string u.name, .int .i64 (k : Int), .int .i64 (k : Int), .bool true, .bool true, .int .i64 (i : Int), .bool true, .bool true, .bool true, .slice (some ⟨b1, off1, none⟩) n1 cap1, .int .i64 (i : Int), .pointer (some ⟨b1, off1 + i * 4, none⟩), .agg #[.string x.name, .string x.start, r2, f2], .slice (some ⟨b, off, none⟩) n2 cap2, .int .i64 (k : Int), .pointer (some ⟨b, off + k * 4, none⟩), .agg #[.string u.name, .string u.start, r1, f1], .bool (sameU x u), .bool (sameU x u), .pointer (some ⟨w.heap.size, k, none⟩)] : List Value).getD jj undef) (fun w' => Below wr.heap.size wr w') rfl (by kernel_rfl) (by kernel_rfl) (by (repeat' (first | (with_reducible exact Below.refl _ _) | (with_reducible assumption) | (with_reducible refine below_drewN ?_ _) | (with_reducible refine Below.drew ?_) | (with_reducible refine Below.alloc ?_ ?_ _) | (with_reducible refine Below.setCell ?_ ?_ _) | omega | (simp; done) | (simp; omega)))) ?_ ?_
          · intro i0 hi v w0 hW hv
            have p0 := cell_keeps hW p0
            have p1 := cell_keeps hW p1
            have hr1 := cell_keeps hW hr1
            have hf1 := cell_keeps hW hf1
            have s0 := cell_keeps hW s0
            have s1 := cell_keeps hW s1
            have hr2 := cell_keeps hW hr2
            have hf2 := cell_keeps hW hf2
            have inn : ∀ d, (List.range' 37 27).contains d = true → (frameOf a0 (List.range' 37 27) v).tmps[d]?.getD undef = v d := fun d h => frameOf_in' h (hD d h)
            rcases (by omega : i0 = 0 ∨ i0 = 1 ∨ i0 = 2 ∨ i0 = 3 ∨ i0 = 4 ∨ i0 = 5 ∨ i0 = 6 ∨ i0 = 7 ∨ i0 = 8 ∨ i0 = 9 ∨ i0 = 10 ∨ i0 = 11 ∨ i0 = 12 ∨ i0 = 13 ∨ i0 = 14 ∨ i0 = 15 ∨ i0 = 16 ∨ i0 = 17 ∨ i0 = 18 ∨ i0 = 19 ∨ i0 = 20 ∨ i0 = 21 ∨ i0 = 22 ∨ i0 = 23 ∨ i0 = 24 ∨ i0 = 25 ∨ i0 = 26) with rfl | rfl | rfl | rfl | rfl | rfl | rfl | rfl | rfl | rfl | rfl | rfl | rfl | rfl | rfl | rfl | rfl | rfl | rfl | rfl | rfl | rfl | rfl | rfl | rfl | rfl | rfl
            · -- operation 0
              have E7 : (frameOf a0 (List.range' 37 27) v).tmps[7]?.getD undef = .slice (some ⟨w.heap.size, 0, none⟩) n2 n2 := (frameOf_out' rfl).trans e7
              refine wpOp_value (v := .slice (some ⟨w.heap.size, 0, none⟩) n2 n2) (w' := w0) rfl rfl (by go_simp) ?_
              exact ⟨frameOf_put rfl, hW⟩
            · -- operation 1
              have E8 : (frameOf a0 (List.range' 37 27) v).tmps[8]?.getD undef = .int .i64 (k : Int) := (frameOf_out' rfl).trans e8
              refine wpOp_value (v := .int .i64 (k : Int)) (w' := w0) rfl rfl (by go_simp) ?_
              exact ⟨frameOf_put rfl, hW⟩
            · -- operation 2
              have E1 : (frameOf a0 (List.range' 37 27) v).tmps[1]?.getD undef = .slice (some ⟨b, off, none⟩) n2 cap2 := (frameOf_out' rfl).trans e1
              refine wpOp_value (v := .slice (some ⟨b, off, none⟩) n2 cap2) (w' := w0) rfl rfl (by go_simp) ?_
              exact ⟨frameOf_put rfl, hW⟩
            · -- operation 3
              have E1 : (frameOf a0 (List.range' 37 27) v).tmps[1]?.getD undef = .slice (some ⟨b, off, none⟩) n2 cap2 := (frameOf_out' rfl).trans e1
              refine wpOp_value (v := .slice (some ⟨b, off, none⟩) n2 cap2) (w' := w0) rfl rfl (by go_simp) ?_
              exact ⟨frameOf_put rfl, hW⟩
            · -- operation 4
              have E8 : (frameOf a0 (List.range' 37 27) v).tmps[8]?.getD undef = .int .i64 (k : Int) := (frameOf_out' rfl).trans e8
              refine wpOp_value (v := .int .i64 (k : Int)) (w' := w0) rfl rfl (by go_simp) ?_
              exact ⟨frameOf_put rfl, hW⟩
            · -- operation 5
              have x40 : v 40 = .slice (some ⟨b, off, none⟩) n2 cap2 := hv 3 (by kernel_rfl)
              have E40 := (inn 40 rfl).trans x40
              have x41 : v 41 = .int .i64 (k : Int) := hv 4 (by kernel_rfl)
              have E41 := (inn 41 rfl).trans x41
              refine wpOp_value (v := .pointer (some ⟨b, off + k * 4, none⟩)) (w' := w0) rfl rfl (by go_simp) ?_
              exact ⟨frameOf_put rfl, hW⟩
            · -- operation 6
              have x42 : v 42 = .pointer (some ⟨b, off + k * 4, none⟩) := hv 5 (by kernel_rfl)
              have E42 := (inn 42 rfl).trans x42
              refine wpOp_value (v := .pointer (some ⟨b, off + k * 4, none⟩)) (w' := w0) rfl rfl (by go_simp) ?_
              exact ⟨frameOf_put rfl, hW⟩
            · -- operation 7
              have x43 : v 43 = .pointer (some ⟨b, off + k * 4, none⟩) := hv 6 (by kernel_rfl)
              have E43 := (inn 43 rfl).trans x43
              refine wpOp_value (v := .string u.name) (w' := w0) rfl rfl (by go_simp) ?_
              exact ⟨frameOf_put rfl, hW⟩
            · -- operation 8
              have x39 : v 39 = .slice (some ⟨b, off, none⟩) n2 cap2 := hv 2 (by kernel_rfl)
              have E39 := (inn 39 rfl).trans x39
              have x44 : v 44 = .string u.name := hv 7 (by kernel_rfl)
              have E44 := (inn 44 rfl).trans x44
              refine wpOp_call (f := 14) (args := #[.slice (some ⟨b, off, none⟩) n2 cap2, .string u.name]) rfl rfl (by go_simp) (find_any (ULP.keeps (hb.next hW) h2)) ?_
              rintro e w' ⟨rfl, rfl⟩
              rw [HF.out]
              exact ⟨_, rfl, frameOf_put rfl, hW⟩
            · -- operation 9
              have E8 : (frameOf a0 (List.range' 37 27) v).tmps[8]?.getD undef = .int .i64 (k : Int) := (frameOf_out' rfl).trans e8
              refine wpOp_value (v := .int .i64 (k : Int)) (w' := w0) rfl rfl (by go_simp) ?_
              exact ⟨frameOf_put rfl, hW⟩
            · -- operation 10
              have x45 : v 45 = .int .i64 (k : Int) := hv 8 (by kernel_rfl)
              have E45 := (inn 45 rfl).trans x45
              have x46 : v 46 = .int .i64 (k : Int) := hv 9 (by kernel_rfl)
              have E46 := (inn 46 rfl).trans x46
              refine wpOp_value (v := .bool true) (w' := w0) rfl rfl (by go_simp) ?_
              exact ⟨frameOf_put rfl, hW⟩
            · -- operation 11
              have x47 : v 47 = .bool true := hv 10 (by kernel_rfl)
              have E47 := (inn 47 rfl).trans x47
              refine wpOp_value (v := .bool true) (w' := w0) rfl rfl (by go_simp) ?_
              exact ⟨frameOf_put rfl, hW⟩
            · -- operation 12
              have E9 : (frameOf a0 (List.range' 37 27) v).tmps[9]?.getD undef = .int .i64 (i : Int) := (frameOf_out' rfl).trans e9
              have x48 : v 48 = .bool true := hv 11 (by kernel_rfl)
              have E48 := (inn 48 rfl).trans x48
              refine wpOp_guard (v := .int .i64 (i : Int)) (w' := w0) rfl rfl (yielded_at rfl rfl (by simp [frameOf, hsz]) E48) (by go_simp) ?_
              exact ⟨frameOf_put rfl, hW⟩
            · -- operation 13
              have x48 : v 48 = .bool true := hv 11 (by kernel_rfl)
              have E48 := (inn 48 rfl).trans x48
              have x49 : v 49 = .int .i64 (i : Int) := hv 12 (by kernel_rfl)
              have E49 := (inn 49 rfl).trans x49
              refine wpOp_guard (v := .bool true) (w' := w0) rfl rfl (yielded_at rfl rfl (by simp [frameOf, hsz]) E48) (by go_simp) ?_
              exact ⟨frameOf_put rfl, hW⟩
            · -- operation 14
              have x48 : v 48 = .bool true := hv 11 (by kernel_rfl)
              have E48 := (inn 48 rfl).trans x48
              have x50 : v 50 = .bool true := hv 13 (by kernel_rfl)
              have E50 := (inn 50 rfl).trans x50
              refine wpOp_value (v := .bool true) (w' := w0) rfl rfl (by go_simp) ?_
              exact ⟨frameOf_put rfl, hW⟩
            · -- operation 15
              have x51 : v 51 = .bool true := hv 14 (by kernel_rfl)
              have E51 := (inn 51 rfl).trans x51
              refine wpOp_value (v := .bool true) (w' := w0) rfl rfl (by go_simp) ?_
              exact ⟨frameOf_put rfl, hW⟩
            · -- operation 16
              have E0 : (frameOf a0 (List.range' 37 27) v).tmps[0]?.getD undef = .slice (some ⟨b1, off1, none⟩) n1 cap1 := (frameOf_out' rfl).trans e0
              have x52 : v 52 = .bool true := hv 15 (by kernel_rfl)
              have E52 := (inn 52 rfl).trans x52
              refine wpOp_guard (v := .slice (some ⟨b1, off1, none⟩) n1 cap1) (w' := w0) rfl rfl (yielded_at rfl rfl (by simp [frameOf, hsz]) E52) (by go_simp) ?_
              exact ⟨frameOf_put rfl, hW⟩
            · -- operation 17
              have E9 : (frameOf a0 (List.range' 37 27) v).tmps[9]?.getD undef = .int .i64 (i : Int) := (frameOf_out' rfl).trans e9
              have x52 : v 52 = .bool true := hv 15 (by kernel_rfl)
              have E52 := (inn 52 rfl).trans x52
              refine wpOp_guard (v := .int .i64 (i : Int)) (w' := w0) rfl rfl (yielded_at rfl rfl (by simp [frameOf, hsz]) E52) (by go_simp) ?_
              exact ⟨frameOf_put rfl, hW⟩
            · -- operation 18
              have x52 : v 52 = .bool true := hv 15 (by kernel_rfl)
              have E52 := (inn 52 rfl).trans x52
              have x53 : v 53 = .slice (some ⟨b1, off1, none⟩) n1 cap1 := hv 16 (by kernel_rfl)
              have E53 := (inn 53 rfl).trans x53
              have x54 : v 54 = .int .i64 (i : Int) := hv 17 (by kernel_rfl)
              have E54 := (inn 54 rfl).trans x54
              refine wpOp_guard (v := .pointer (some ⟨b1, off1 + i * 4, none⟩)) (w' := w0) rfl rfl (yielded_at rfl rfl (by simp [frameOf, hsz]) E52) (by go_simp) ?_
              exact ⟨frameOf_put rfl, hW⟩
            · -- operation 19
              have x52 : v 52 = .bool true := hv 15 (by kernel_rfl)
              have E52 := (inn 52 rfl).trans x52
              have x55 : v 55 = .pointer (some ⟨b1, off1 + i * 4, none⟩) := hv 18 (by kernel_rfl)
              have E55 := (inn 55 rfl).trans x55
              refine wpOp_guard (v := .agg #[.string x.name, .string x.start, r2, f2]) (w' := w0) rfl rfl (yielded_at rfl rfl (by simp [frameOf, hsz]) E52) (by go_simp) ?_
              exact ⟨frameOf_put rfl, hW⟩
            · -- operation 20
              have E1 : (frameOf a0 (List.range' 37 27) v).tmps[1]?.getD undef = .slice (some ⟨b, off, none⟩) n2 cap2 := (frameOf_out' rfl).trans e1
              have x52 : v 52 = .bool true := hv 15 (by kernel_rfl)
              have E52 := (inn 52 rfl).trans x52
              refine wpOp_guard (v := .slice (some ⟨b, off, none⟩) n2 cap2) (w' := w0) rfl rfl (yielded_at rfl rfl (by simp [frameOf, hsz]) E52) (by go_simp) ?_
              exact ⟨frameOf_put rfl, hW⟩
            · -- operation 21
              have E8 : (frameOf a0 (List.range' 37 27) v).tmps[8]?.getD undef = .int .i64 (k : Int) := (frameOf_out' rfl).trans e8
              have x52 : v 52 = .bool true := hv 15 (by kernel_rfl)
              have E52 := (inn 52 rfl).trans x52
              refine wpOp_guard (v := .int .i64 (k : Int)) (w' := w0) rfl rfl (yielded_at rfl rfl (by simp [frameOf, hsz]) E52) (by go_simp) ?_
              exact ⟨frameOf_put rfl, hW⟩
            · -- operation 22
              have x52 : v 52 = .bool true := hv 15 (by kernel_rfl)
              have E52 := (inn 52 rfl).trans x52
              have x57 : v 57 = .slice (some ⟨b, off, none⟩) n2 cap2 := hv 20 (by kernel_rfl)
              have E57 := (inn 57 rfl).trans x57
              have x58 : v 58 = .int .i64 (k : Int) := hv 21 (by kernel_rfl)
              have E58 := (inn 58 rfl).trans x58
              refine wpOp_guard (v := .pointer (some ⟨b, off + k * 4, none⟩)) (w' := w0) rfl rfl (yielded_at rfl rfl (by simp [frameOf, hsz]) E52) (by go_simp) ?_
              exact ⟨frameOf_put rfl, hW⟩
            · -- operation 23
              have x52 : v 52 = .bool true := hv 15 (by kernel_rfl)
              have E52 := (inn 52 rfl).trans x52
              have x59 : v 59 = .pointer (some ⟨b, off + k * 4, none⟩) := hv 22 (by kernel_rfl)
              have E59 := (inn 59 rfl).trans x59
              refine wpOp_guard (v := .agg #[.string u.name, .string u.start, r1, f1]) (w' := w0) rfl rfl (yielded_at rfl rfl (by simp [frameOf, hsz]) E52) (by go_simp) ?_
              exact ⟨frameOf_put rfl, hW⟩
            · -- operation 24
              have x52 : v 52 = .bool true := hv 15 (by kernel_rfl)
              have E52 := (inn 52 rfl).trans x52
              have x56 : v 56 = .agg #[.string x.name, .string x.start, r2, f2] := hv 19 (by kernel_rfl)
              have E56 := (inn 56 rfl).trans x56
              have x60 : v 60 = .agg #[.string u.name, .string u.start, r1, f1] := hv 23 (by kernel_rfl)
              have E60 := (inn 60 rfl).trans x60
              refine wpOp_guardcall (f := 18) (args := #[.agg #[.string x.name, .string x.start, r2, f2], .agg #[.string u.name, .string u.start, r1, f1]]) rfl rfl (yielded_at rfl rfl (by simp [frameOf, hsz]) E52) (by go_simp) (same_any (UVP.keeps hW hv2) (UVP.keeps hW hv1)) ?_
              rintro e w' ⟨rfl, hB'⟩
              exact ⟨_, rfl, frameOf_put rfl, hW.next hB'⟩
            · -- operation 25
              have x52 : v 52 = .bool true := hv 15 (by kernel_rfl)
              have E52 := (inn 52 rfl).trans x52
              have x61 : v 61 = .bool (sameU x u) := hv 24 (by kernel_rfl)
              have E61 := (inn 61 rfl).trans x61
              refine wpOp_value (v := .bool (sameU x u)) (w' := w0) rfl rfl (by go_simp) ?_
              exact ⟨frameOf_put rfl, hW⟩
            · -- operation 26
              have x37 : v 37 = .slice (some ⟨w.heap.size, 0, none⟩) n2 n2 := hv 0 (by kernel_rfl)
              have E37 := (inn 37 rfl).trans x37
              have x38 : v 38 = .int .i64 (k : Int) := hv 1 (by kernel_rfl)
              have E38 := (inn 38 rfl).trans x38
              refine wpOp_value (v := .pointer (some ⟨w.heap.size, k, none⟩)) (w' := w0) rfl rfl (by go_simp) ?_
              exact ⟨frameOf_put rfl, hW⟩
          · intro w0 hW
            have hbb0 := hbb.below hW
            have hcell0 := hbb0.cell hx0
            have hfree := hbb0.free (i := k)
            have hBB := hb.next hW
            have HBB0 := Lib.hid hbb0
            have HBB := Lib.hid hBB
            clear hbb hb hbb0 hBB p0 p1 hr1 hf1 hW hx0
            have h0 := HA.out
            subst h0
            have hrg : List.range' 37 27 = [37, 38, 39, 40, 41, 42, 43, 44, 45, 46, 47, 48, 49, 50, 51, 52, 53, 54, 55, 56, 57, 58, 59, 60, 61, 62, 63] := rfl
            rw [hrg]
            clear hrg
            simp only [frameOf_cons, frameOf_nil, Act.put, List.setIfInBounds_toArray, List.set_cons_zero, List.set_cons_succ]
            refine wpOp_skip (w' := w0.setCell ⟨w.heap.size, k, none⟩ (.bool (sameU x u))) rfl rfl rfl (by go_simp) ?_
            go_wp2_with fail
            go_roundw
            case rel => exact ⟨k + 1, bs.set k (sameU x u), by omega, by go_num, HBB0.out.set _, (by have := hbl.out; unfold Hid; simpa using this), Lib.hid (bit_step hbt.out (by have := hbl.out; omega) (bit0_yes HU.out HX.out HF.out HQ.out)), HBB.out.setCell (p := ⟨w.heap.size, k, none⟩) (Nat.le_refl _) _⟩
            case measure => simp [intOf]; omega
      · have hpkb : (p == (k : Int)) = false := by simp [hpk]
        refine with_frame fun a0 ha0 => ?_
        have e0 : a0.eval (.tmp 0) = .slice a1 n1 cap1 := by rw [ha0]; rfl
        have e1 : a0.eval (.tmp 1) = .slice (some ⟨b, off, none⟩) n2 cap2 := by rw [ha0]; rfl
        have e7 : a0.eval (.tmp 7) = .slice (some ⟨w.heap.size, 0, none⟩) n2 n2 := by rw [ha0]; rfl
        have e8 : a0.eval (.tmp 8) = .int .i64 (k : Int) := by rw [ha0]; rfl
        have e9 : a0.eval (.tmp 9) = .int .i64 q := by rw [ha0]; rfl
        have hsz : a0.tmps.size = 209 := by rw [ha0]; rfl
        have HA := Lib.hid ha0
        clear ha0
        have hD : ∀ d, (List.range' 37 27).contains d = true → d < a0.tmps.size := by
          intro d h
          rw [hsz]
          have hm : d ∈ List.range' 37 27 := by simpa using h
          rw [List.mem_range'_1] at hm
          omega
        refine wp_region_tab (by kernel_rfl) 27 37 (fun jj => ([.slice (some ⟨w.heap.size, 0, none⟩) n2 n2, .int .i64 (k : Int), .slice (some ⟨b, off, none⟩) n2 cap2, .slice (some ⟨b, off, none⟩) n2 cap2, .int .i64 (k : Int), .pointer (some ⟨b, off + k * 4, none⟩), .pointer (some ⟨b, off + k * 4, none⟩), .string u.name, .int .i64 p, .int .i64 (k : Int), .bool false, .bool false, undef, undef, .bool false, .bool false, undef, undef, undef, undef, undef, undef, undef, undef, undef, .bool false, .pointer (some ⟨w.heap.size, k, none⟩)] : List Value).getD jj undef) (fun w' => Below wr.heap.size wr w') rfl (by kernel_rfl) (by kernel_rfl) (by (repeat' (first | (with_reducible exact Below.refl _ _) | (with_reducible assumption) | (with_reducible refine below_drewN ?_ _) | (with_reducible refine Below.drew ?_) | (with_reducible refine Below.alloc ?_ ?_ _) | (with_reducible refine Below.setCell ?_ ?_ _) | omega | (simp; done) | (simp; omega)))) ?_ ?_
        · intro i0 hi v w0 hW hv
          have p0 := cell_keeps hW p0
          have p1 := cell_keeps hW p1
          have hr1 := cell_keeps hW hr1
          have hf1 := cell_keeps hW hf1
          have inn : ∀ d, (List.range' 37 27).contains d = true → (frameOf a0 (List.range' 37 27) v).tmps[d]?.getD undef = v d := fun d h => frameOf_in' h (hD d h)
          rcases (by omega : i0 = 0 ∨ i0 = 1 ∨ i0 = 2 ∨ i0 = 3 ∨ i0 = 4 ∨ i0 = 5 ∨ i0 = 6 ∨ i0 = 7 ∨ i0 = 8 ∨ i0 = 9 ∨ i0 = 10 ∨ i0 = 11 ∨ i0 = 12 ∨ i0 = 13 ∨ i0 = 14 ∨ i0 = 15 ∨ i0 = 16 ∨ i0 = 17 ∨ i0 = 18 ∨ i0 = 19 ∨ i0 = 20 ∨ i0 = 21 ∨ i0 = 22 ∨ i0 = 23 ∨ i0 = 24 ∨ i0 = 25 ∨ i0 = 26) with rfl | rfl | rfl | rfl | rfl | rfl | rfl | rfl | rfl | rfl | rfl | rfl | rfl | rfl | rfl | rfl | rfl | rfl | rfl | rfl | rfl | rfl | rfl | rfl | rfl | rfl | rfl
          · -- operation 0
            have E7 : (frameOf a0 (List.range' 37 27) v).tmps[7]?.getD undef = .slice (some ⟨w.heap.size, 0, none⟩) n2 n2 := (frameOf_out' rfl).trans e7
            refine wpOp_value (v := .slice (some ⟨w.heap.size, 0, none⟩) n2 n2) (w' := w0) rfl rfl (by go_simp) ?_
            exact ⟨frameOf_put rfl, hW⟩
          · -- operation 1
            have E8 : (frameOf a0 (List.range' 37 27) v).tmps[8]?.getD undef = .int .i64 (k : Int) := (frameOf_out' rfl).trans e8
            refine wpOp_value (v := .int .i64 (k : Int)) (w' := w0) rfl rfl (by go_simp) ?_
            exact ⟨frameOf_put rfl, hW⟩
          · -- operation 2
            have E1 : (frameOf a0 (List.range' 37 27) v).tmps[1]?.getD undef = .slice (some ⟨b, off, none⟩) n2 cap2 := (frameOf_out' rfl).trans e1
            refine wpOp_value (v := .slice (some ⟨b, off, none⟩) n2 cap2) (w' := w0) rfl rfl (by go_simp) ?_
            exact ⟨frameOf_put rfl, hW⟩
          · -- operation 3
            have E1 : (frameOf a0 (List.range' 37 27) v).tmps[1]?.getD undef = .slice (some ⟨b, off, none⟩) n2 cap2 := (frameOf_out' rfl).trans e1
            refine wpOp_value (v := .slice (some ⟨b, off, none⟩) n2 cap2) (w' := w0) rfl rfl (by go_simp) ?_
            exact ⟨frameOf_put rfl, hW⟩
          · -- operation 4
            have E8 : (frameOf a0 (List.range' 37 27) v).tmps[8]?.getD undef = .int .i64 (k : Int) := (frameOf_out' rfl).trans e8
            refine wpOp_value (v := .int .i64 (k : Int)) (w' := w0) rfl rfl (by go_simp) ?_
            exact ⟨frameOf_put rfl, hW⟩
          · -- operation 5
            have x40 : v 40 = .slice (some ⟨b, off, none⟩) n2 cap2 := hv 3 (by kernel_rfl)
            have E40 := (inn 40 rfl).trans x40
            have x41 : v 41 = .int .i64 (k : Int) := hv 4 (by kernel_rfl)
            have E41 := (inn 41 rfl).trans x41
            refine wpOp_value (v := .pointer (some ⟨b, off + k * 4, none⟩)) (w' := w0) rfl rfl (by go_simp) ?_
            exact ⟨frameOf_put rfl, hW⟩
          · -- operation 6
            have x42 : v 42 = .pointer (some ⟨b, off + k * 4, none⟩) := hv 5 (by kernel_rfl)
            have E42 := (inn 42 rfl).trans x42
            refine wpOp_value (v := .pointer (some ⟨b, off + k * 4, none⟩)) (w' := w0) rfl rfl (by go_simp) ?_
            exact ⟨frameOf_put rfl, hW⟩
          · -- operation 7
            have x43 : v 43 = .pointer (some ⟨b, off + k * 4, none⟩) := hv 6 (by kernel_rfl)
            have E43 := (inn 43 rfl).trans x43
            refine wpOp_value (v := .string u.name) (w' := w0) rfl rfl (by go_simp) ?_
            exact ⟨frameOf_put rfl, hW⟩
          · -- operation 8
            have x39 : v 39 = .slice (some ⟨b, off, none⟩) n2 cap2 := hv 2 (by kernel_rfl)
            have E39 := (inn 39 rfl).trans x39
            have x44 : v 44 = .string u.name := hv 7 (by kernel_rfl)
            have E44 := (inn 44 rfl).trans x44
            refine wpOp_call (f := 14) (args := #[.slice (some ⟨b, off, none⟩) n2 cap2, .string u.name]) rfl rfl (by go_simp) (find_any (ULP.keeps (hb.next hW) h2)) ?_
            rintro e w' ⟨rfl, rfl⟩
            rw [HF.out]
            exact ⟨_, rfl, frameOf_put rfl, hW⟩
          · -- operation 9
            have E8 : (frameOf a0 (List.range' 37 27) v).tmps[8]?.getD undef = .int .i64 (k : Int) := (frameOf_out' rfl).trans e8
            refine wpOp_value (v := .int .i64 (k : Int)) (w' := w0) rfl rfl (by go_simp) ?_
            exact ⟨frameOf_put rfl, hW⟩
          · -- operation 10
            have x45 : v 45 = .int .i64 p := hv 8 (by kernel_rfl)
            have E45 := (inn 45 rfl).trans x45
            have x46 : v 46 = .int .i64 (k : Int) := hv 9 (by kernel_rfl)
            have E46 := (inn 46 rfl).trans x46
            refine wpOp_value (v := .bool false) (w' := w0) rfl rfl (by go_simp) ?_
            exact ⟨frameOf_put rfl, hW⟩
          · -- operation 11
            have x47 : v 47 = .bool false := hv 10 (by kernel_rfl)
            have E47 := (inn 47 rfl).trans x47
            refine wpOp_value (v := .bool false) (w' := w0) rfl rfl (by go_simp) ?_
            exact ⟨frameOf_put rfl, hW⟩
          · -- operation 12
            have E9 : (frameOf a0 (List.range' 37 27) v).tmps[9]?.getD undef = .int .i64 q := (frameOf_out' rfl).trans e9
            have x48 : v 48 = .bool false := hv 11 (by kernel_rfl)
            have E48 := (inn 48 rfl).trans x48
            refine wpOp_out rfl rfl (yielded_at rfl rfl (by simp [frameOf, hsz]) E48) (by decide) ?_
            exact ⟨frameOf_put rfl, hW⟩
          · -- operation 13
            have x48 : v 48 = .bool false := hv 11 (by kernel_rfl)
            have E48 := (inn 48 rfl).trans x48
            have x49 : v 49 = undef := hv 12 (by kernel_rfl)
            have E49 := (inn 49 rfl).trans x49
            refine wpOp_out rfl rfl (yielded_at rfl rfl (by simp [frameOf, hsz]) E48) (by decide) ?_
            exact ⟨frameOf_put rfl, hW⟩
          · -- operation 14
            have x48 : v 48 = .bool false := hv 11 (by kernel_rfl)
            have E48 := (inn 48 rfl).trans x48
            have x50 : v 50 = undef := hv 13 (by kernel_rfl)
            have E50 := (inn 50 rfl).trans x50
            refine wpOp_value (v := .bool false) (w' := w0) rfl rfl (by go_simp) ?_
            exact ⟨frameOf_put rfl, hW⟩
          · -- operation 15
            have x51 : v 51 = .bool false := hv 14 (by kernel_rfl)
            have E51 := (inn 51 rfl).trans x51
            refine wpOp_value (v := .bool false) (w' := w0) rfl rfl (by go_simp) ?_
            exact ⟨frameOf_put rfl, hW⟩
          · -- operation 16
            have E0 : (frameOf a0 (List.range' 37 27) v).tmps[0]?.getD undef = .slice a1 n1 cap1 := (frameOf_out' rfl).trans e0
            have x52 : v 52 = .bool false := hv 15 (by kernel_rfl)
            have E52 := (inn 52 rfl).trans x52
            refine wpOp_out rfl rfl (yielded_at rfl rfl (by simp [frameOf, hsz]) E52) (by decide) ?_
            exact ⟨frameOf_put rfl, hW⟩
          · -- operation 17
            have E9 : (frameOf a0 (List.range' 37 27) v).tmps[9]?.getD undef = .int .i64 q := (frameOf_out' rfl).trans e9
            have x52 : v 52 = .bool false := hv 15 (by kernel_rfl)
            have E52 := (inn 52 rfl).trans x52
            refine wpOp_out rfl rfl (yielded_at rfl rfl (by simp [frameOf, hsz]) E52) (by decide) ?_
            exact ⟨frameOf_put rfl, hW⟩
          · -- operation 18
            have x52 : v 52 = .bool false := hv 15 (by kernel_rfl)
            have E52 := (inn 52 rfl).trans x52
            have x53 : v 53 = undef := hv 16 (by kernel_rfl)
            have E53 := (inn 53 rfl).trans x53
            have x54 : v 54 = undef := hv 17 (by kernel_rfl)
            have E54 := (inn 54 rfl).trans x54
            refine wpOp_out rfl rfl (yielded_at rfl rfl (by simp [frameOf, hsz]) E52) (by decide) ?_
            exact ⟨frameOf_put rfl, hW⟩
          · -- operation 19
            have x52 : v 52 = .bool false := hv 15 (by kernel_rfl)
            have E52 := (inn 52 rfl).trans x52
            have x55 : v 55 = undef := hv 18 (by kernel_rfl)
            have E55 := (inn 55 rfl).trans x55
            refine wpOp_out rfl rfl (yielded_at rfl rfl (by simp [frameOf, hsz]) E52) (by decide) ?_
            exact ⟨frameOf_put rfl, hW⟩
          · -- operation 20
            have E1 : (frameOf a0 (List.range' 37 27) v).tmps[1]?.getD undef = .slice (some ⟨b, off, none⟩) n2 cap2 := (frameOf_out' rfl).trans e1
            have x52 : v 52 = .bool false := hv 15 (by kernel_rfl)
            have E52 := (inn 52 rfl).trans x52
            refine wpOp_out rfl rfl (yielded_at rfl rfl (by simp [frameOf, hsz]) E52) (by decide) ?_
            exact ⟨frameOf_put rfl, hW⟩
          · -- operation 21
            have E8 : (frameOf a0 (List.range' 37 27) v).tmps[8]?.getD undef = .int .i64 (k : Int) := (frameOf_out' rfl).trans e8
            have x52 : v 52 = .bool false := hv 15 (by kernel_rfl)
            have E52 := (inn 52 rfl).trans x52
            refine wpOp_out rfl rfl (yielded_at rfl rfl (by simp [frameOf, hsz]) E52) (by decide) ?_
            exact ⟨frameOf_put rfl, hW⟩
          · -- operation 22
            have x52 : v 52 = .bool false := hv 15 (by kernel_rfl)
            have E52 := (inn 52 rfl).trans x52
            have x57 : v 57 = undef := hv 20 (by kernel_rfl)
            have E57 := (inn 57 rfl).trans x57
            have x58 : v 58 = undef := hv 21 (by kernel_rfl)
            have E58 := (inn 58 rfl).trans x58
            refine wpOp_out rfl rfl (yielded_at rfl rfl (by simp [frameOf, hsz]) E52) (by decide) ?_
            exact ⟨frameOf_put rfl, hW⟩
          · -- operation 23
            have x52 : v 52 = .bool false := hv 15 (by kernel_rfl)
            have E52 := (inn 52 rfl).trans x52
            have x59 : v 59 = undef := hv 22 (by kernel_rfl)
            have E59 := (inn 59 rfl).trans x59
            refine wpOp_out rfl rfl (yielded_at rfl rfl (by simp [frameOf, hsz]) E52) (by decide) ?_
            exact ⟨frameOf_put rfl, hW⟩
          · -- operation 24
            have x52 : v 52 = .bool false := hv 15 (by kernel_rfl)
            have E52 := (inn 52 rfl).trans x52
            have x56 : v 56 = undef := hv 19 (by kernel_rfl)
            have E56 := (inn 56 rfl).trans x56
            have x60 : v 60 = undef := hv 23 (by kernel_rfl)
            have E60 := (inn 60 rfl).trans x60
            refine wpOp_out rfl rfl (yielded_at rfl rfl (by simp [frameOf, hsz]) E52) (by decide) ?_
            exact ⟨frameOf_put rfl, hW⟩
          · -- operation 25
            have x52 : v 52 = .bool false := hv 15 (by kernel_rfl)
            have E52 := (inn 52 rfl).trans x52
            have x61 : v 61 = undef := hv 24 (by kernel_rfl)
            have E61 := (inn 61 rfl).trans x61
            refine wpOp_value (v := .bool false) (w' := w0) rfl rfl (by go_simp) ?_
            exact ⟨frameOf_put rfl, hW⟩
          · -- operation 26
            have x37 : v 37 = .slice (some ⟨w.heap.size, 0, none⟩) n2 n2 := hv 0 (by kernel_rfl)
            have E37 := (inn 37 rfl).trans x37
            have x38 : v 38 = .int .i64 (k : Int) := hv 1 (by kernel_rfl)
            have E38 := (inn 38 rfl).trans x38
            refine wpOp_value (v := .pointer (some ⟨w.heap.size, k, none⟩)) (w' := w0) rfl rfl (by go_simp) ?_
            exact ⟨frameOf_put rfl, hW⟩
        · intro w0 hW
          have hbb0 := hbb.below hW
          have hcell0 := hbb0.cell hx0
          have hfree := hbb0.free (i := k)
          have hBB := hb.next hW
          have HBB0 := Lib.hid hbb0
          have HBB := Lib.hid hBB
          clear hbb hb hbb0 hBB p0 p1 hr1 hf1 hW hx0
          have h0 := HA.out
          subst h0
          have hrg : List.range' 37 27 = [37, 38, 39, 40, 41, 42, 43, 44, 45, 46, 47, 48, 49, 50, 51, 52, 53, 54, 55, 56, 57, 58, 59, 60, 61, 62, 63] := rfl
          rw [hrg]
          clear hrg
          simp only [frameOf_cons, frameOf_nil, Act.put, List.setIfInBounds_toArray, List.set_cons_zero, List.set_cons_succ]
          refine wpOp_skip (w' := w0.setCell ⟨w.heap.size, k, none⟩ (.bool false)) rfl rfl rfl (by go_simp) ?_
          go_wp2_with fail
          go_roundw
          case rel => exact ⟨k + 1, bs.set k false, by omega, by go_num, HBB0.out.set _, (by have := hbl.out; unfold Hid; simpa using this), Lib.hid (bit_step hbt.out (by have := hbl.out; omega) (bit0_no HU.out (Or.inl (by rw [HF.out]; exact hpk)))), HBB.out.setCell (p := ⟨w.heap.size, k, none⟩) (Nat.le_refl _) _⟩
          case measure => simp [intOf]; omega
      · (repeat' (first | (with_reducible exact Below.refl _ _) | (with_reducible assumption) | (with_reducible refine below_drewN ?_ _) | (with_reducible refine Below.drew ?_) | (with_reducible refine Below.alloc ?_ ?_ _) | (with_reducible refine Below.setCell ?_ ?_ _) | omega | (simp; done) | (simp; omega)))
    · obtain rfl : k = n2 := by omega
      have hst := refS_start (old := old) (fresh := fresh) (bs := bs) (by rw [HN2.out]; exact hbt.out)
      have HM := Lib.hid (show Mid old fresh (refS fresh bs) by rw [hst.1]; exact Mid.start old fresh)
      have HF := Lib.hid hst.2
      clear hst hbt
      go_wp2_with fail
      go_loopw [10] (fun m wq => ∃ (mb : Bool) (bs1 : List Bool), m = .bool mb ∧ BB wq w.heap.size bs1 ∧ Hid (bs1.length = k) ∧ Hid (Mid old fresh (refS fresh bs1)) ∧ Hid (FirstB fresh bs1) ∧ Hid (mb = false → Closed old fresh (refS fresh bs1)) ∧ Below w.heap.size w wq) (fun m wq => 2 * cntW wq w.heap.size + oneIf m)
      case atStart => exact ⟨true, bs, rfl, hbb, hbl, HM, HF, (fun h => by cases h), hb⟩
      case round =>
        clear hbb hbl HM HF hb
        obtain ⟨mb, bs1, rfl, hbb, hbl, HM, HF, HCl, hb⟩ := hrel
        cases mb
        · have HClo := Lib.hid (HCl.out rfl)
          clear HCl
          obtain ⟨S, hS⟩ : ∃ S, refS fresh bs1 = S := ⟨_, rfl⟩
          have HS := Lib.hid hS
          rw [hS] at HM HClo
          clear hS HF
          have hz1 : w.heap.size + 1 ≤ wr.heap.size := hbb.lt
          go_wp2_with fail
          go_loopw [15, 18] (fun t i wq => ∃ (k5 : Nat) (ss : List ByteArray), k5 ≤ n1 ∧ i = .int .i64 ((k5 : Int) - 1) ∧ OS (w.heap.size + 1) wq t ss ∧ BB wq w.heap.size bs1 ∧ Hid (ss ++ stopP old S k5 = stopP old S n1) ∧ Below w.heap.size w wq ∧ w.heap.size + 1 ≤ wq.heap.size) (fun _ i _ => (intOf i + 1).toNat)
          case atStart => exact ⟨n1, [], Nat.le_refl _, rfl, World.ownsRow_nil _ _ _ _, hbb, rfl, hb, hz1⟩
          case round =>
            clear hbb hb hz1
            obtain ⟨k5, ss, hk5, rfl, hos, hbb, HSS, hb, hz1⟩ := hrel
            obtain ⟨ta, tc, rfl⟩ := hos.shape
            cases k5 with
            | zero =>
              have hz0 : ((0 : Nat) : Int) - 1 = -1 := rfl
              rw [hz0]
              clear hz0
              have hss : ss = stopP old S n1 := by have := HSS.out; simpa [stopP] using this
              have HSS := Lib.hid hss
              clear hss
              obtain ⟨w5, hw5⟩ : ∃ w5, w5 = wr := ⟨_, rfl⟩
              subst hw5
              go_wp2_with fail
              go_loopw [16, 17, 20] (fun tk ts i wq => ∃ (k6 : Nat), k6 ≤ k ∧ i = .int .i64 (k6 : Int) ∧ Two w5.heap.size wq tk ts (keepP fresh S k6) (startP fresh S k6) ∧ Below w5.heap.size w5 wq) (fun _ _ i _ => k - (intOf i).toNat)
              case atStart => exact ⟨0, Nat.zero_le _, rfl, Two.nil _ _, Below.refl _ _⟩
              case round =>
                obtain ⟨k6, hk6, rfl, h2t, hb6⟩ := hrel
                have hbq := hb.next hb6
                have hbbq := hbb.below hb6
                obtain ⟨tka, tkc, rfl⟩ := h2t.keep.shape
                obtain ⟨tsa, tsc, rfl⟩ := h2t.start.shape
                by_cases hlt : k6 < k
                · obtain ⟨u, hu⟩ := get_lt fresh (k := k6) (by have := HN2.out; omega)
                  obtain ⟨b, off, rfl, hcu, _⟩ := HC2.out k6 _ hu
                  have hcu := UCP.keeps hbq hcu
                  obtain ⟨p0, p1, hsn, hss, _⟩ := hcu
                  obtain ⟨y, hy⟩ := get_lt bs1 (k := k6) (by have := hbl.out; omega)
                  have hcy := hbbq.cell hy
                  have hkl := keepP_len fresh S k6
                  have hsl := startP_len fresh S k6
                  have HU := Lib.hid hu
                  have HY := Lib.hid hy
                  generalize hp : findI fresh u.name = p
                  have HF := Lib.hid hp
                  clear hu hy hp
                  go_wp2_with fail
                  refine (find_any (ULP.keeps hbq h2)).mono ?_
                  rw [HF.out]
                  rintro e w1 ⟨rfl, rfl⟩
                  by_cases hpk : p = (k6 : Int)
                  · subst hpk
                    have hkk : ((k6 : Int) != (k6 : Int)) = false := by simp
                    have HY2 : Hid (S u.name = y) := by rw [← HS.out]; exact Lib.hid (refS_at HF.out HY.out)
                    cases y
                    · skip
                      go_wp2_with (at_builtin
                                   refine append_str rfl _ _ rfl w5.heap.size (.slice tsa (startP fresh S k6).length tsc) (startP fresh S k6).length _ rfl (World.ownsRow.alloc h2t.start _) wr.heap.size _ u.name rfl (block_cell (block_new _ _ rfl) rfl) (by omega) (by have := hb6.size; simp; omega) ?_
                                   intro v4 w4 hown4 hg4 hl4)
                      go_roundw
                      case rel =>
                        have hb4 : Below w5.heap.size w5 w4 := Below.grown (w := wr.alloc _) (hb6.alloc hb6.size _) hg4 (by have := hb6.size; simp; omega) (fun j hj => by have := OS.lows h2t.start j hj; omega)
                        have e := both_start HU.out HF.out HY2.out
                        refine ⟨k6 + 1, by omega, by go_num, ?_, hb4⟩
                        rw [e.1, e.2]
                        exact (((h2t.below ((Below.refl _ _).alloc (Nat.le_refl _) _)).swap.push hown4 hg4 hl4)).swap
                      case measure => simp [intOf]; omega
                    · skip
                      go_wp2_with (at_builtin
                                   refine append_str rfl _ _ rfl w5.heap.size (.slice tka (keepP fresh S k6).length tkc) (keepP fresh S k6).length _ rfl (World.ownsRow.alloc h2t.keep _) wr.heap.size _ u.name rfl (block_cell (block_new _ _ rfl) rfl) (by omega) (by have := hb6.size; simp; omega) ?_
                                   intro v4 w4 hown4 hg4 hl4)
                      go_roundw
                      case rel =>
                        have hb4 : Below w5.heap.size w5 w4 := Below.grown (w := wr.alloc _) (hb6.alloc hb6.size _) hg4 (by have := hb6.size; simp; omega) (fun j hj => by have := OS.lows h2t.keep j hj; omega)
                        have e := both_keep HU.out HF.out HY2.out
                        refine ⟨k6 + 1, by omega, by go_num, ?_, hb4⟩
                        rw [e.1, e.2]
                        exact (h2t.below ((Below.refl _ _).alloc (Nat.le_refl _) _)).push hown4 hg4 hl4
                      case measure => simp [intOf]; omega
                  · have hpkb : (p != (k6 : Int)) = true := by simp [hpk]
                    go_wp2_with fail
                    go_roundw
                    case rel =>
                      have e := both_no (S := S) HU.out (by rw [HF.out]; exact hpk)
                      refine ⟨k6 + 1, by omega, by go_num, ?_, hb6⟩
                      rw [e.1, e.2]
                      exact h2t
                    case measure => simp [intOf]; omega
                · obtain rfl : k6 = k := by omega
                  have hos' := OS.below hos hb6
                  have hdone : ∀ v1 v2 v3, v1 = Value.slice ta ss.length tc → v2 = Value.slice tka (keepP fresh S k6).length tkc → v3 = Value.slice tsa (startP fresh S k6).length tsc → DAns w wr (.returned (.tuple #[v1, v2, v3])) old fresh S := by
                    rintro v1 v2 v3 rfl rfl rfl
                    refine ⟨_, _, _, rfl, ?_, ?_, ?_, hbq⟩
                    · rw [HN1.out, ← HSS.out]
                      refine (OS.slp hos' ?_ ?_).any
                      · rw [HSS.out]; have := stopP_len old S n1; omega
                      · rw [HSS.out]
                        intro s hs
                        obtain ⟨j, u, _, hu, rfl, _⟩ := stopP_mem hs
                        obtain ⟨_, _, _, hcu, _⟩ := HC1.out j _ hu
                        exact hcu.2.2.1
                    · rw [HN2.out]
                      refine (OS.slp h2t.keep ?_ ?_).any
                      · have := keepP_len fresh S k6; omega
                      · intro s hs
                        obtain ⟨j, u, _, hu, rfl, _⟩ := keepP_mem hs
                        obtain ⟨_, _, _, hcu, _⟩ := HC2.out j _ hu
                        exact hcu.2.2.1
                    · rw [HN2.out]
                      refine (OS.slp h2t.start ?_ ?_).any
                      · have := startP_len fresh S k6; omega
                      · intro s hs
                        obtain ⟨j, u, _, hu, rfl, _⟩ := startP_mem hs
                        obtain ⟨_, _, _, hcu, _⟩ := HC2.out j _ hu
                        exact hcu.2.2.1
                  have HD := Lib.hid hdone
                  clear hdone
                  go_wp2_with fail
                  go_ret3
                  exact ⟨S, HM.out, HClo.out, HD.out _ _ _ rfl rfl rfl⟩
            | succ j =>
              obtain ⟨x, hx⟩ := get_lt old (k := j) (by have := HN1.out; omega)
              obtain ⟨b, off, rfl, hcx, _⟩ := HC1.out j _ hx
              have hcx := UCP.keeps hb hcx
              obtain ⟨p0, p1, hxn, _, _⟩ := hcx
              have HX := Lib.hid hx
              have hj1 : (j : Int) < (n1 : Int) := by omega
              have hj0 : (0 : Int) ≤ (j : Int) := by omega
              have hje : ((j + 1 : Nat) : Int) - 1 = (j : Int) := by omega
              have hssl : ss.length ≤ 1759218604390 := by
                have h := HSS.out
                have h3 := stopP_len old S n1
                rw [← h, List.length_append] at h3
                have := HN1.out
                omega
              have hjj : ((j : Int) == (j : Int)) = true := by simp
              rw [hje]
              generalize hq : findI old x.name = q
              have HQ := Lib.hid hq
              clear hx hq hje
              by_cases hqj : q = (j : Int)
              · subst hqj
                rcases findI_cases fresh x.name with hp | ⟨i, hp⟩
                · have HP := Lib.hid hp
                  clear hp
                  go_wp2_with fail
                  refine (find_any (ULP.keeps hb h2)).mono ?_
                  rw [HP.out]
                  rintro e w1 ⟨rfl, rfl⟩
                  go_wp2_with fail
                  refine (find_any (ULP.keeps hb h1)).mono ?_
                  rw [HQ.out]
                  rintro e w1 ⟨rfl, rfl⟩
                  go_wp2_with (at_builtin
                               refine append_str rfl _ _ rfl (w.heap.size + 1) (.slice ta ss.length tc) ss.length _ rfl (World.ownsRow.alloc hos _) wr.heap.size _ x.name rfl (block_cell (block_new _ _ rfl) rfl) (by omega) (by simp; omega) ?_
                               intro v4 w4 hown4 hg4 hl4)
                  go_roundw
                  case rel =>
                    have hb4 : Below w.heap.size w w4 := Below.grown (w := wr.alloc _) (hb.alloc (by omega) _) hg4 (by simp; omega) (fun j hj => by have := hos.lows j hj; omega)
                    have hz4 := hg4.size
                    simp at hz4
                    exact ⟨j, ss ++ [x.name], by omega, by go_num, OS.snoc hown4, block_grown (block_alloc hbb _) hg4 (hos.low (by omega)), (by have h := HSS.out; rw [stop_yes HX.out HQ.out (by rw [← HS.out]; exact refS_no HP.out)] at h; unfold Hid; rw [List.append_assoc]; exact h), hb4, by omega⟩
                  case measure => simp [intOf]
                · have HP := Lib.hid hp
                  have hin : i < k := by have := findU_inb (findI_eq.1 hp); rw [HN2.out] at this; exact this
                  obtain ⟨y, hy⟩ := get_lt bs1 (k := i) (by have := hbl.out; omega)
                  have hcy := hbb.cell hy
                  have hi0 : (0 : Int) ≤ (i : Int) := by omega
                  have hin0 : decide ((i : Int) < 0) = false := decide_eq_false (by omega)
                  have hinI : (i : Int) < (k : Int) := by omega
                  have HY := Lib.hid hy
                  clear hp hy
                  cases y
                  · skip
                    go_wp2_with fail
                    refine (find_any (ULP.keeps hb h2)).mono ?_
                    rw [HP.out]
                    rintro e w1 ⟨rfl, rfl⟩
                    go_wp2_with fail
                    refine (find_any (ULP.keeps hb h1)).mono ?_
                    rw [HQ.out]
                    rintro e w1 ⟨rfl, rfl⟩
                    go_wp2_with (at_builtin
                                 refine append_str rfl _ _ rfl (w.heap.size + 1) (.slice ta ss.length tc) ss.length _ rfl (World.ownsRow.alloc hos _) wr.heap.size _ x.name rfl (block_cell (block_new _ _ rfl) rfl) (by omega) (by simp; omega) ?_
                                 intro v4 w4 hown4 hg4 hl4)
                    go_roundw
                    case rel =>
                      have hb4 : Below w.heap.size w w4 := Below.grown (w := wr.alloc _) (hb.alloc (by omega) _) hg4 (by simp; omega) (fun j hj => by have := hos.lows j hj; omega)
                      have hz4 := hg4.size
                      simp at hz4
                      exact ⟨j, ss ++ [x.name], by omega, by go_num, OS.snoc hown4, block_grown (block_alloc hbb _) hg4 (hos.low (by omega)), (by have h := HSS.out; rw [stop_yes HX.out HQ.out (by rw [← HS.out]; exact refS_at HP.out HY.out)] at h; unfold Hid; rw [List.append_assoc]; exact h), hb4, by omega⟩
                    case measure => simp [intOf]
                  · skip
                    go_wp2_with fail
                    refine (find_any (ULP.keeps hb h2)).mono ?_
                    rw [HP.out]
                    rintro e w1 ⟨rfl, rfl⟩
                    go_wp2_with fail
                    refine (find_any (ULP.keeps hb h1)).mono ?_
                    rw [HQ.out]
                    rintro e w1 ⟨rfl, rfl⟩
                    go_wp2_with fail
                    go_roundw
                    case rel => exact ⟨j, ss, by omega, by go_num, hos, hbb, (by have h := HSS.out; rw [stop_no HX.out (Or.inr (by rw [← HS.out]; exact refS_at HP.out HY.out))] at h; exact h), hb, hz1⟩
                    case measure => simp [intOf]
              · have hqjb : (q == (j : Int)) = false := by simp [hqj]
                generalize hp : findI fresh x.name = p
                have HP := Lib.hid hp
                clear hp
                go_wp2_with fail
                refine (find_any (ULP.keeps hb h2)).mono ?_
                rw [HP.out]
                rintro e w1 ⟨rfl, rfl⟩
                go_wp2_with fail
                refine (find_any (ULP.keeps hb h1)).mono ?_
                rw [HQ.out]
                rintro e w1 ⟨rfl, rfl⟩
                go_wp2_with fail
                go_roundw
                case rel => exact ⟨j, ss, by omega, by go_num, hos, hbb, (by have h := HSS.out; rw [stop_no HX.out (Or.inl (by rw [HQ.out]; exact hqj))] at h; exact h), hb, hz1⟩
                case measure => simp [intOf]
        · clear HCl
          have hcn := hbb.cnt
          go_wp2_with fail
          go_loopw [10, 11] (fun m i wq => ∃ (m2 : Bool) (k2 : Nat) (bs2 : List Bool), k2 ≤ k ∧ m = .bool m2 ∧ i = .int .i64 k2 ∧ BB wq w.heap.size bs2 ∧ Hid (bs2.length = k) ∧ Hid (Mid old fresh (refS fresh bs2)) ∧ Hid (FirstB fresh bs2) ∧ Hid (m2 = false → Ok old fresh bs2 k2) ∧ Hid (cntB bs2 + oneIf (.bool m2) ≤ cntB bs1) ∧ Below w.heap.size w wq) (fun _ i _ => k - (intOf i).toNat)
          case atStart => exact ⟨false, 0, bs1, Nat.zero_le _, rfl, rfl, hbb, hbl, HM, HF, (fun _ => Ok.zero _ _ _), Nat.le_refl _, hb⟩
          case round =>
            clear hbb hb hbl HM HF
            obtain ⟨m2, k2, bs2, hk2, rfl, rfl, hbb, hbl, HM, HF, HO, HC, hb⟩ := hrel
            by_cases hlt : k2 < k
            · obtain ⟨u, hu⟩ := get_lt fresh (k := k2) (by have := HN2.out; omega)
              obtain ⟨b, off, rfl, hcu, _⟩ := HC2.out k2 _ hu
              obtain ⟨p0, p1, hsn, hss, r, f, p2, p3, hr, hf⟩ := hcu
              obtain ⟨ra, rc, rfl, _, hrl, hrc⟩ := hr
              have HRC := Lib.hid hrc
              have HU := Lib.hid hu
              have HP2 := Lib.hid p2
              clear hu hrc p0 p1 hsn hss p3 hf p2
              go_wp2_with fail
              go_loopw [10, 12] (fun m i wq => ∃ (m3 : Bool) (kk : Nat) (bs3 : List Bool), kk ≤ u.req.length ∧ m = .bool m3 ∧ i = .int .i64 kk ∧ BB wq w.heap.size bs3 ∧ Hid (bs3.length = k) ∧ Hid (Mid old fresh (refS fresh bs3)) ∧ Hid (FirstB fresh bs3) ∧ Hid (m3 = false → Ok old fresh bs3 k2 ∧ OkIn old fresh bs3 u kk) ∧ Hid (cntB bs3 + oneIf (.bool m3) ≤ cntB bs1) ∧ Below w.heap.size w wq) (fun _ i _ => u.req.length - (intOf i).toNat)
              case atStart => exact ⟨m2, 0, bs2, Nat.zero_le _, rfl, rfl, hbb, hbl, HM, HF, (fun h => ⟨HO.out h, OkIn.zero _ _ _ _⟩), HC, hb⟩
              case round =>
                clear hbb hb hbl HM HF HO HC
                obtain ⟨m3, kk, bs3, hkk, rfl, rfl, hbb, hbl, HM, HF, HO, HC, hb⟩ := hrel
                obtain ⟨x, hx⟩ := get_lt bs3 (k := k2) (by have := hbl.out; omega)
                have hcx := hbb.cell hx
                have hfree := hbb.free (i := k2)
                have p2 := cell_keeps hb HP2.out
                have HX := Lib.hid hx
                clear hx
                by_cases hlt2 : kk < u.req.length
                · cases x
                  · go_wp2_with fail
                    go_roundw
                    case rel => exact ⟨m3, k2 + 1, bs3, by omega, rfl, by go_num, hbb, hbl, HM, HF, (fun h => (HO.out h).1.step HU.out (Or.inl HX.out)), HC, hb⟩
                    case measure => simp [intOf]; omega
                  · obtain ⟨s, hs⟩ := get_lt u.req hlt2
                    obtain ⟨b2, off2, rfl, hcell2, _, _⟩ := HRC.out kk s hs
                    have hcell2 := cell_keeps hb hcell2
                    have HS := Lib.hid hs
                    clear hs
                    rcases findI_cases fresh s with hfa | ⟨i, hfa⟩
                    · have HFA := Lib.hid hfa
                      clear hfa
                      rcases findI_cases old s with hfb | ⟨j, hfb⟩
                      · have HFB := Lib.hid hfb
                        clear hfb
                        go_wp2_with fail
                        refine (find_any (ULP.keeps hb h2)).mono ?_
                        rw [HFA.out]
                        rintro e w1 ⟨rfl, rfl⟩
                        go_wp2_with fail
                        refine (find_any (ULP.keeps hb h1)).mono ?_
                        rw [HFB.out]
                        rintro e w1 ⟨rfl, rfl⟩
                        go_wp2_with fail
                        go_roundw
                        case rel => exact ⟨m3, kk + 1, bs3, by omega, rfl, by go_num, hbb, hbl, HM, HF, (fun h => ⟨(HO.out h).1, (HO.out h).2.step HS.out (refGone_no1 HFA.out HFB.out)⟩), HC, hb⟩
                        case measure => simp [intOf]; omega
                      · have HFB := Lib.hid hfb
                        clear hfb
                        have hj0 : (0 : Int) ≤ (j : Int) := by omega
                        go_wp2_with fail
                        refine (find_any (ULP.keeps hb h2)).mono ?_
                        rw [HFA.out]
                        rintro e w1 ⟨rfl, rfl⟩
                        go_wp2_with fail
                        refine (find_any (ULP.keeps hb h1)).mono ?_
                        rw [HFB.out]
                        rintro e w1 ⟨rfl, rfl⟩
                        go_wp2_with fail
                        go_roundw
                        case rel =>
                          obtain ⟨g1, g2, g3⟩ := ref_step HM.out HF.out HU.out HX.out HS.out (refGone_yes1 HFA.out HFB.out)
                          exact ⟨true, kk + 1, bs3.set k2 false, by omega, rfl, by go_num, hbb.set false, (by have := hbl.out; unfold Hid; simpa using this), g1, g2, (fun h => by cases h), (by have := HC.out; unfold Hid; simp only [oneIf] at this ⊢; omega), hb.setCell (p := ⟨w.heap.size, k2, none⟩) (Nat.le_refl _) _⟩
                        case measure => simp [intOf]; omega
                    · have HFA := Lib.hid hfa
                      have hin : i < k := by have := findU_inb (findI_eq.1 hfa); rw [HN2.out] at this; exact this
                      obtain ⟨y, hy⟩ := get_lt bs3 (k := i) (by have := hbl.out; omega)
                      have hcy := hbb.cell hy
                      have HY := Lib.hid hy
                      have hi0 : (0 : Int) ≤ (i : Int) := by omega
                      have hin0 : decide ((i : Int) < 0) = false := decide_eq_false (by omega)
                      have hinI : (i : Int) < (k : Int) := by omega
                      generalize hfb : findI old s = fb
                      have HFB := Lib.hid hfb
                      clear hfa hy hfb
                      cases y
                      · go_wp2_with fail
                        refine (find_any (ULP.keeps hb h2)).mono ?_
                        rw [HFA.out]
                        rintro e w1 ⟨rfl, rfl⟩
                        go_wp2_with fail
                        refine (find_any (ULP.keeps hb h1)).mono ?_
                        rw [HFB.out]
                        rintro e w1 ⟨rfl, rfl⟩
                        go_wp2_with fail
                        go_roundw
                        case rel =>
                          obtain ⟨g1, g2, g3⟩ := ref_step HM.out HF.out HU.out HX.out HS.out (by rw [refGone_at HFA.out HY.out]; rfl)
                          exact ⟨true, kk + 1, bs3.set k2 false, by omega, rfl, by go_num, hbb.set false, (by have := hbl.out; unfold Hid; simpa using this), g1, g2, (fun h => by cases h), (by have := HC.out; unfold Hid; simp only [oneIf] at this ⊢; omega), hb.setCell (p := ⟨w.heap.size, k2, none⟩) (Nat.le_refl _) _⟩
                        case measure => simp [intOf]; omega
                      · go_wp2_with fail
                        refine (find_any (ULP.keeps hb h2)).mono ?_
                        rw [HFA.out]
                        rintro e w1 ⟨rfl, rfl⟩
                        go_wp2_with fail
                        refine (find_any (ULP.keeps hb h1)).mono ?_
                        rw [HFB.out]
                        rintro e w1 ⟨rfl, rfl⟩
                        go_wp2_with fail
                        go_roundw
                        case rel => exact ⟨m3, kk + 1, bs3, by omega, rfl, by go_num, hbb, hbl, HM, HF, (fun h => ⟨(HO.out h).1, (HO.out h).2.step HS.out (by rw [refGone_at HFA.out HY.out]; rfl)⟩), HC, hb⟩
                        case measure => simp [intOf]; omega
                · have hkl : u.req.length = kk := by omega
                  have HKL := Lib.hid hkl
                  clear hkl
                  go_wp2_with fail
                  go_roundw
                  case rel => exact ⟨m3, k2 + 1, bs3, by omega, rfl, by go_num, hbb, hbl, HM, HF, (fun h => (HO.out h).1.step HU.out (Or.inr (by rw [HKL.out]; exact (HO.out h).2))), HC, hb⟩
                  case measure => simp [intOf]; omega
            · obtain rfl : k2 = k := by omega
              go_wp2_with fail
              go_roundw
              case rel => exact ⟨m2, bs2, rfl, hbb, hbl, HM, HF, (fun h => (HO.out h).closed HN2.out), hb⟩
              case measure =>
                have := HC.out
                simp only [hbb.cnt, hcn, oneIf] at this ⊢
                cases m2 <;> simp at this ⊢ <;> omega
end Go.Proofs.Ytlhlbckmifgeeaa
