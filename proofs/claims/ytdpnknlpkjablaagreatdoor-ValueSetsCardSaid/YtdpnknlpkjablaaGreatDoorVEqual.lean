/- Whether two values are equal: any two. -/
import Derived.Test.YtdpnknlpkjablaaGreatDoorVSame
namespace Go.Proofs.YtdpnknlpkjablaaGreatDoor
open Go.RowKit Go.Shelf
attribute [local go_sem] run_bits64 run_frombits64 store_flt

def numB (a : V) : Bool := decide (a.kind = 2) || decide (a.kind = 3)
set_option maxHeartbeats 1000000 in
set_option maxRecDepth 100000 in
theorem floatV_any {d : Nat} {v : V} {r f : Value} {w : World} (h : VI d w v r f) : Calls Tryz.prog 50 #[.agg #[.int .i64 v.kind, .int .i64 v.int, .float .f64 v.flt, .string v.text, r, f]] w fun e w' => e = .returned (.tuple #[.float .f64 (flV v), .bool (numB v)]) ∧ Below w.heap.size w w' := by
  obtain ⟨ra, rc, a, cap, rfl, rfl, _, _⟩ := h.shape
  clear h
  have HF : Hid (flV v = if v.kind = 2 then floatOfInt .f64 v.int else v.flt) := Lib.hid rfl
  have HN : Hid (numB v = (decide (v.kind = 2) || decide (v.kind = 3))) := Lib.hid rfl
  generalize flV v = F at *
  generalize numB v = N at *
  by_cases h2 : v.kind = 2
  · have h2b : (v.kind == 2) = true := by simp [h2]
    have HF2 : Hid (F = floatOfInt .f64 v.int) := Lib.hid (by rw [HF.out, if_pos h2])
    have HN2 : Hid (N = true) := Lib.hid (by rw [HN.out]; simp [h2])
    clear h2 HF HN
    go_enter Tryz.func50, Tryz.ntmps50
    go_wp2_with fail
    go_ret2
    exact ⟨by rw [HF2.out, HN2.out]; rfl, (by (repeat' (first | (with_reducible exact Below.refl _ _) | (with_reducible assumption) | (with_reducible refine below_drewN ?_ _) | (with_reducible refine Below.drew ?_) | (with_reducible refine Below.alloc ?_ ?_ _) | (with_reducible refine Below.setCell ?_ ?_ _) | omega | (simp; done) | (simp; omega))))⟩
  · have h2b : (v.kind == 2) = false := by simp [h2]
    have HF2 : Hid (F = v.flt) := Lib.hid (by rw [HF.out, if_neg h2])
    have HN2 : Hid (N = decide (v.kind = 3)) := Lib.hid (by rw [HN.out]; simp [h2])
    clear HF HN h2
    by_cases h3 : v.kind = 3
    · have h3b : (v.kind == 3) = true := by simp [h3]
      have HN3 : Hid (N = true) := Lib.hid (by rw [HN2.out]; simp [h3])
      clear h3 HN2
      go_enter Tryz.func50, Tryz.ntmps50
      go_wp2_with fail
      go_quiet (fail)
      go_wp2_with fail
      go_ret2
      exact ⟨by rw [HF2.out, HN3.out]; rfl, (by (repeat' (first | (with_reducible exact Below.refl _ _) | (with_reducible assumption) | (with_reducible refine below_drewN ?_ _) | (with_reducible refine Below.drew ?_) | (with_reducible refine Below.alloc ?_ ?_ _) | (with_reducible refine Below.setCell ?_ ?_ _) | omega | (simp; done) | (simp; omega))))⟩
    · have h3b : (v.kind == 3) = false := by simp [h3]
      have HN3 : Hid (N = false) := Lib.hid (by rw [HN2.out]; simp [h3])
      clear h3 HN2
      go_enter Tryz.func50, Tryz.ntmps50
      go_wp2_with fail
      go_quiet (fail)
      go_wp2_with fail
      go_ret2
      exact ⟨by rw [HF2.out, HN3.out]; rfl, (by (repeat' (first | (with_reducible exact Below.refl _ _) | (with_reducible assumption) | (with_reducible refine below_drewN ?_ _) | (with_reducible refine Below.drew ?_) | (with_reducible refine Below.alloc ?_ ?_ _) | (with_reducible refine Below.setCell ?_ ?_ _) | omega | (simp; done) | (simp; omega))))⟩
set_option maxHeartbeats 1000000 in
set_option maxRecDepth 100000 in
theorem floatsV_any {d : Nat} {a b : V} {r f r' f' : Value} {w : World} (h1 : VI d w a r f) (h2 : VI d w b r' f') :
    Calls Tryz.prog 26 #[.agg #[.int .i64 a.kind, .int .i64 a.int, .float .f64 a.flt, .string a.text, r, f], .agg #[.int .i64 b.kind, .int .i64 b.int, .float .f64 b.flt, .string b.text, r', f']] w fun e w' => e = .returned (.tuple #[.float .f64 (flV a), .float .f64 (flV b), .bool (numB a && numB b)]) ∧ Below w.heap.size w w' := by
  obtain ⟨ra, rc, fa, fc, rfl, rfl, _, _⟩ := h1.shape
  obtain ⟨ra', rc', fa', fc', rfl, rfl, _, _⟩ := h2.shape
  have H1 := Lib.hid (fun W (hW : Below w.heap.size w W) => floatV_any (h1.keeps hW))
  have H2 := Lib.hid (fun W (hW : Below w.heap.size w W) => floatV_any (h2.keeps hW))
  clear h1 h2
  generalize flV a = A at *
  generalize flV b = B at *
  generalize numB a = N at *
  generalize numB b = M at *
  go_enter Tryz.func26, Tryz.ntmps26
  go_wp2_with fail
  refine (H1.out _ (by (repeat' (first | (with_reducible exact Below.refl _ _) | (with_reducible assumption) | (with_reducible refine below_drewN ?_ _) | (with_reducible refine Below.drew ?_) | (with_reducible refine Below.alloc ?_ ?_ _) | (with_reducible refine Below.setCell ?_ ?_ _) | omega | (simp; done) | (simp; omega))))).mono ?_
  rintro e w2 ⟨rfl, hb⟩
  have hb0 : Below w.heap.size w w2 := Below.next (by (repeat' (first | (with_reducible exact Below.refl _ _) | (with_reducible assumption) | (with_reducible refine below_drewN ?_ _) | (with_reducible refine Below.drew ?_) | (with_reducible refine Below.alloc ?_ ?_ _) | (with_reducible refine Below.setCell ?_ ?_ _) | omega | (simp; done) | (simp; omega)))) hb
  have hr : w2.heap[w.heap.size + 1]? = _ := block_below (block_new _ _ (by simp)) hb
  have q0 := block_cell hr (i := 0) rfl
  have q1 := block_cell hr (i := 1) rfl
  have q2 := block_cell hr (i := 2) rfl
  have q3 := block_cell hr (i := 3) rfl
  have q4 := block_cell hr (i := 4) rfl
  have q5 := block_cell hr (i := 5) rfl
  clear hr hb
  go_wp2_with fail
  refine (H2.out _ hb0).mono ?_
  rintro e w3 ⟨rfl, hb3⟩
  cases N
  · go_wp2_with fail
    go_ret3
    exact ⟨rfl, hb0.next hb3⟩
  · go_wp2_with fail
    go_ret3
    exact ⟨by simp, hb0.next hb3⟩
def condF (a b : V) : Bool := numB a && numB b && (decide (a.kind = 3) || decide (b.kind = 3))
theorem equalP_flt {d : Nat} {a b : V} (h : condF a b = true) : equalP (d + 1) a b = (eqF (flV a) (flV b), 0) := by
  unfold condF numB at h
  simp only [Bool.and_eq_true, Bool.or_eq_true, decide_eq_true_eq] at h
  unfold equalP
  rw [if_pos ⟨h.1.1, h.1.2, h.2⟩]
theorem equalP_else {d : Nat} {a b : V} (h : condF a b = false) : equalP (d + 1) a b =
    if a.kind ≠ b.kind then (false, 0) else if a.kind = 7 then (false, 11) else if a.kind = 5 ∨ a.kind = 6 then (if a.items.length ≠ b.items.length ∨ a.names ≠ b.names then (false, 0) else itemsE (equalP d) a.items b.items) else (sameP (d + 1) a b, 0) := by
  show (if _ then _ else _) = _
  rw [if_neg]
  rintro ⟨h1, h2, h3⟩
  unfold condF numB at h
  simp only [Bool.and_eq_false_iff, Bool.or_eq_false_iff, decide_eq_false_iff_not] at h
  omega
end Go.Proofs.YtdpnknlpkjablaaGreatDoor
