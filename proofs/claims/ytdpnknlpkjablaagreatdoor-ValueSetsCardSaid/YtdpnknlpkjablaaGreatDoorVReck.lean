/- Lists put one behind the other, as Reckon does it. -/
import Derived.Test.YtdpnknlpkjablaaGreatDoorVCat
import Derived.Test.YtdpnknlpkjablaaGreatDoorVRight
import Derived.Test.YtdpnknlpkjablaaGreatDoorVEq2
import Derived.Test.YtdpnknlpkjablaaGreatDoorRStr
import Derived.Test.YtdpnknlpkjablaaGreatDoorLess
namespace Go.Proofs.YtdpnknlpkjablaaGreatDoor
open Go.RowKit
attribute [local go_sem] run_bits64 run_frombits64 store_flt

set_option maxHeartbeats 2000000 in
set_option maxRecDepth 100000 in
theorem bounded_list (a : Option Addr) (n cap : Nat) (hn : n ≤ 256) (w : World) : Calls Tryz.prog 27 #[.agg #[.int .i64 5, .int .i64 0, .float .f64 0, .string ⟨#[]⟩, .slice none 0 0, .slice a n cap]] w fun e w' => e = .returned (.tuple #[.agg #[.int .i64 5, .int .i64 0, .float .f64 0, .string ⟨#[]⟩, .slice none 0 0, .slice a n cap], .int .i64 0]) ∧ Below w.heap.size w w' := by
  have hle : decide ((256 : Int) < (n : Int)) = false := by simp; omega
  go_enter Tryz.func27, Tryz.ntmps27
  go_wp2_with fail
  refine bodyPost_ret (results_row_tmp rfl _ _ (w.heap.size + 1) _ _ (0, 0) rfl (block_new _ _ (by simp)) rfl) rfl ?_
  exact ⟨rfl, (by (repeat' (first | (with_reducible exact Below.refl _ _) | (with_reducible assumption) | (with_reducible refine below_drewN ?_ _) | (with_reducible refine Below.drew ?_) | (with_reducible refine Below.alloc ?_ ?_ _) | (with_reducible refine Below.setCell ?_ ?_ _) | omega | (simp; done) | (simp; omega))))⟩
set_option maxHeartbeats 2000000 in
set_option maxRecDepth 100000 in
theorem bounded_toolong (a : Option Addr) (n cap : Nat) (hn : 256 < n) (w : World) : Calls Tryz.prog 27 #[.agg #[.int .i64 5, .int .i64 0, .float .f64 0, .string ⟨#[]⟩, .slice none 0 0, .slice a n cap]] w fun e w' => e = .returned (.tuple #[(.agg #[.int .i64 0, .int .i64 0, .float .f64 0, .string ⟨#[]⟩, .slice none 0 0, .slice none 0 0]), .int .i64 20]) ∧ Below w.heap.size w w' := by
  have hle : decide ((256 : Int) < (n : Int)) = true := by simp; omega
  go_enter Tryz.func27, Tryz.ntmps27
  go_wp2_with fail
  refine bodyPost_ret (results_row_tmp rfl _ _ (w.heap.size + 1) _ _ (0, 0) rfl (block_new _ _ (by simp)) rfl) rfl ?_
  exact ⟨rfl, (by (repeat' (first | (with_reducible exact Below.refl _ _) | (with_reducible assumption) | (with_reducible refine below_drewN ?_ _) | (with_reducible refine Below.drew ?_) | (with_reducible refine Below.alloc ?_ ?_ _) | (with_reducible refine Below.setCell ?_ ?_ _) | omega | (simp; done) | (simp; omega))))⟩
theorem right_list {d : Nat} {v : V} (hk : v.kind = 5) (h : rightP (d + 1) 32 v = true) : v.items.length ≤ 256 := by
  unfold rightP at h
  rw [if_pos (Or.inl hk)] at h
  simp only [Bool.and_eq_true, decide_eq_true_eq] at h
  exact h.1.1.2
/-- What '++' tells of two lists. -/
def CatPost (d : Nat) (w : World) (a b : V) (e : Ending) (w' : World) : Prop :=
  (a.items.length + b.items.length ≤ 256 → ∃ f3, e = .returned (.tuple #[.agg #[.int .i64 5, .int .i64 0, .float .f64 0, .string ⟨#[]⟩, .slice none 0 0, f3], .int .i64 0]) ∧ VLs d w' f3 (a.items ++ b.items)) ∧
  (256 < a.items.length + b.items.length → e = .returned (.tuple #[(.agg #[.int .i64 0, .int .i64 0, .float .f64 0, .string ⟨#[]⟩, .slice none 0 0, .slice none 0 0]), .int .i64 20])) ∧ Below w.heap.size w w'
set_option maxHeartbeats 4000000 in
set_option maxRecDepth 100000 in
theorem reckon_cat {d : Nat} {a b : V} {r f r' f' : Value} {w : World} (h1 : VI (d + 1) w a r f) (h2 : VI (d + 1) w b r' f') (ka : a.kind = 5) (kb : b.kind = 5) (ga : rightP (d + 1) 32 a = true) (gb : rightP (d + 1) 32 b = true) :
    Calls Tryz.prog 10 #[.string ⟨#[43, 43]⟩, .agg #[.int .i64 a.kind, .int .i64 a.int, .float .f64 a.flt, .string a.text, r, f], .agg #[.int .i64 b.kind, .int .i64 b.int, .float .f64 b.flt, .string b.text, r', f']] w fun e w' => CatPost d w a b e w' := by
  have hla := right_list ka ga
  have hlb := right_list kb gb
  have HL1 := Lib.hid h1.list
  have HL2 := Lib.hid h2.list
  have HRA := Lib.hid (fun W (hW : Below w.heap.size w W) => Right_any (h1.keeps hW))
  have HRB := Lib.hid (fun W (hW : Below w.heap.size w W) => Right_any (h2.keeps hW))
  rw [ga] at HRA
  rw [gb] at HRB
  have HFL := Lib.hid (fun W (hW : Below w.heap.size w W) => floatsV_any (h1.keeps hW) (h2.keeps hW))
  have hnum : (numB a && numB b) = false := by simp [numB, ka]
  rw [hnum] at HFL
  have HP := Lib.hid (fun e w' (h : CatPost d w a b e w') => h)
  generalize flV a = A at *
  generalize flV b = B at *
  obtain ⟨ra, rc, fa, fc, rfl, rfl, hbd1, _⟩ := h1.shape
  obtain ⟨ra', rc', fa', fc', rfl, rfl, hbd2, _⟩ := h2.shape
  clear h1 h2 ga gb hnum
  obtain ⟨k1, n1, x1, t1, ns1, is1⟩ := a
  obtain ⟨k2, n2, x2, t2, ns2, is2⟩ := b
  have e1 : k1 = 5 := ka
  have e2 : k2 = 5 := kb
  subst e1
  subst e2
  simp only [V.kind, V.int, V.flt, V.text, V.names, V.items] at hla hlb hbd1 hbd2 HL1 HL2 HRA HRB HFL ⊢
  clear ka kb HP
  have hR := R3.new w #[.int .i64 5, .int .i64 n1, .float .f64 x1, .string t1, .slice ra ns1.length rc, .slice fa is1.length fc] #[.int .i64 5, .int .i64 n2, .float .f64 x2, .string t2, .slice ra' ns2.length rc', .slice fa' is2.length fc'] #[.int .i64 0, .int .i64 0, .float .f64 0, .string ⟨#[]⟩, .slice none 0 0, .slice none 0 0]
  have hB : Below w.heap.size w (((w.alloc (.cells #[.int .i64 5, .int .i64 n1, .float .f64 x1, .string t1, .slice ra ns1.length rc, .slice fa is1.length fc] 27 (0, 0))).alloc (.cells #[.int .i64 5, .int .i64 n2, .float .f64 x2, .string t2, .slice ra' ns2.length rc', .slice fa' is2.length fc'] 27 (0, 0))).alloc (.cells #[.int .i64 0, .int .i64 0, .float .f64 0, .string ⟨#[]⟩, .slice none 0 0, .slice none 0 0] 27 (0, 0))) := (by (repeat' (first | (with_reducible exact Below.refl _ _) | (with_reducible assumption) | (with_reducible refine below_drewN ?_ _) | (with_reducible refine Below.drew ?_) | (with_reducible refine Below.alloc ?_ ?_ _) | (with_reducible refine Below.setCell ?_ ?_ _) | omega | (simp; done) | (simp; omega))))
  generalize hl1 : is1.length = l1 at *
  generalize hl2 : is2.length = l2 at *
  have HN1 := Lib.hid hl1
  have HN2 := Lib.hid hl2
  clear hl1 hl2
  go_enter Tryz.func10, Tryz.ntmps10
  go_wp2_with fail
  generalize hW : ((w.alloc (.cells #[.int .i64 5, .int .i64 n1, .float .f64 x1, .string t1, .slice ra ns1.length rc, .slice fa l1 fc] 27 (0, 0))).alloc (.cells #[.int .i64 5, .int .i64 n2, .float .f64 x2, .string t2, .slice ra' ns2.length rc', .slice fa' l2 fc'] 27 (0, 0))).alloc (.cells #[.int .i64 0, .int .i64 0, .float .f64 0, .string ⟨#[]⟩, .slice none 0 0, .slice none 0 0] 27 (0, 0)) = W at *
  clear hW
  refine (HRA.out _ hB).mono ?_
  rintro e w1 ⟨rfl, hb1⟩
  have hR1 := hR.below hb1
  have hB1 := hB.next hb1
  clear hR hB hb1
  have b0 := block_cell hR1.rb (i := 0) rfl
  have b1 := block_cell hR1.rb (i := 1) rfl
  have b2 := block_cell hR1.rb (i := 2) rfl
  have b3 := block_cell hR1.rb (i := 3) rfl
  have b4 := block_cell hR1.rb (i := 4) rfl
  have b5 := block_cell hR1.rb (i := 5) rfl
  go_wp2_with fail
  refine (HRB.out _ hB1).mono ?_
  rintro e w2 ⟨rfl, hb2⟩
  have hR2 := hR1.below hb2
  have hB2 := hB1.next hb2
  clear b0 b1 b2 b3 b4 b5 hR1 hB1 hb2
  go_wp2_with fail
  refine (contains_cat (g := w2.heap.size) ?_).mono ?_
  · exact ⟨by simp, by simp, by simp, by simp, by simp, by simp⟩
  rintro e w3 ⟨rfl, rfl⟩
  have hb3 := (Below.refl w2.heap.size w2).alloc (Nat.le_refl _) (.cells #[.string ⟨#[43]⟩, .string ⟨#[45]⟩, .string ⟨#[42]⟩, .string ⟨#[47]⟩, .string ⟨#[43, 43]⟩, .string ⟨#[47, 47]⟩] 9 (0, 0))
  have hR3 := hR2.below hb3
  have hB3 := hB2.next hb3
  obtain ⟨w3, hw3⟩ : ∃ w3, w2.alloc (.cells #[.string ⟨#[43]⟩, .string ⟨#[45]⟩, .string ⟨#[42]⟩, .string ⟨#[47]⟩, .string ⟨#[43, 43]⟩, .string ⟨#[47, 47]⟩] 9 (0, 0)) = w3 := ⟨_, rfl⟩
  rw [hw3] at hR3 hB3 ⊢
  clear hb3 hw3 hR2 hB2
  have a0 := block_cell hR3.ra (i := 0) rfl
  have a1 := block_cell hR3.ra (i := 1) rfl
  have a2 := block_cell hR3.ra (i := 2) rfl
  have a3 := block_cell hR3.ra (i := 3) rfl
  have a4 := block_cell hR3.ra (i := 4) rfl
  have a5 := block_cell hR3.ra (i := 5) rfl
  have b0 := block_cell hR3.rb (i := 0) rfl
  have b1 := block_cell hR3.rb (i := 1) rfl
  have b2 := block_cell hR3.rb (i := 2) rfl
  have b3 := block_cell hR3.rb (i := 3) rfl
  have b4 := block_cell hR3.rb (i := 4) rfl
  have b5 := block_cell hR3.rb (i := 5) rfl
  go_wp2_with fail
  refine (HFL.out _ hB3).mono ?_
  rintro e w4 ⟨rfl, hb4⟩
  have hR4 := hR3.below hb4
  have hB4 := hB3.next hb4
  have hlt := hR4.lt
  clear a0 b0 a1 b1 a2 b2 a3 b3 a4 b4 a5 b5 hR3 hB3 hb4
  have a0 := block_cell hR4.ra (i := 0) rfl
  have a5 := block_cell hR4.ra (i := 5) rfl
  have b0 := block_cell hR4.rb (i := 0) rfl
  have b5 := block_cell hR4.rb (i := 5) rfl
  go_wp2_with fail
  have hb4a := (Below.refl w4.heap.size w4).alloc (Nat.le_refl _) (.cells #[.slice fa l1 fc, .slice fa' l2 fc'] 25 (0, 0))
  have hB5 := hB4.next hb4a
  have hR5 := hR4.below hb4a
  have hl1000 : is1.length ≤ 1000 := by have := HN1.out; omega
  have hl2000 : is2.length ≤ 1000 := by have := HN2.out; omega
  refine (concat_any (g := w4.heap.size) (by simp) (by simp) w hB5 HL1.out HL2.out hl1000 hl2000).mono ?_
  rintro e w6 ⟨v, cs, rfl, hv, hvf, hb6⟩
  have hR6 := hR5.below hb6
  have hB6 := hB5.next hb6
  have hbase : w.heap.size + 3 ≤ (w4.alloc (.cells #[.slice fa l1 fc, .slice fa' l2 fc'] 25 (0, 0))).heap.size := by have := hR4.lt; simp; omega
  have hv := own_mono hv hbase
  obtain ⟨va, vc, rfl⟩ := own_shape hv
  have HV := Lib.hid hv
  have HVF := Lib.hid hvf
  have hsum : (is1 ++ is2).length = l1 + l2 := by rw [List.length_append, HN1.out, HN2.out]
  rw [hsum] at HV ⊢
  clear hv hvf hl1000 hl2000 hb4a hR4 hR5 hB4 hB5 a0 a5 b0 b5 hlt
  have hlt := hR6.lt
  go_wp2_with fail
  by_cases hle : l1 + l2 ≤ 256
  · refine (bounded_list va (l1 + l2) vc hle _).mono ?_
    rintro e w7 ⟨rfl, hb7⟩
    have hR7 := hR6.below hb7
    have hB7 := hB6.next hb7
    have HV7 := Lib.hid (own_below HV.out hb7)
    have z0 := block_cell hR7.rz (i := 0) rfl
    have z1 := block_cell hR7.rz (i := 1) rfl
    have z2 := block_cell hR7.rz (i := 2) rfl
    have z3 := block_cell hR7.rz (i := 3) rfl
    have z4 := block_cell hR7.rz (i := 4) rfl
    have z5 := block_cell hR7.rz (i := 5) rfl
    have f0 := block_free (i := 0) hR7.rz
    have f1 := block_free (i := 1) hR7.rz
    have f2 := block_free (i := 2) hR7.rz
    have f3 := block_free (i := 3) hR7.rz
    have f4 := block_free (i := 4) hR7.rz
    have f5 := block_free (i := 5) hR7.rz
    go_wp2_with fail
    refine bodyPost_ret (results_row_tmp rfl _ _ (w.heap.size + 2) _ _ (0, 0) rfl (hR7.set _ _ _ _ _ _) rfl) rfl ?_
    have hlow : ∀ (W : World) (i : Nat) (u : Value), W.ownsRow (w.heap.size + 3) 27 6 (.slice va (l1 + l2) vc) (l1 + l2) cs → (W.setCell ⟨w.heap.size + 2, i, none⟩ u).ownsRow (w.heap.size + 3) 27 6 (.slice va (l1 + l2) vc) (l1 + l2) cs := fun W i u h => ownsRow_setCell_below h (by simp) u
    have hfin := hlow _ 5 (.slice va (l1 + l2) vc) (hlow _ 4 (.slice none 0 0) (hlow _ 3 (.string ⟨#[]⟩) (hlow _ 2 (.float .f64 0) (hlow _ 1 (.int .i64 0) (hlow _ 0 (.int .i64 5) HV7.out)))))
    have hBF : Below w.heap.size w ((((((w7.setCell ⟨w.heap.size + 2, 0, none⟩ (.int .i64 5)).setCell ⟨w.heap.size + 2, 1, none⟩ (.int .i64 0)).setCell ⟨w.heap.size + 2, 2, none⟩ (.float .f64 0)).setCell ⟨w.heap.size + 2, 3, none⟩ (.string ⟨#[]⟩)).setCell ⟨w.heap.size + 2, 4, none⟩ (.slice none 0 0)).setCell ⟨w.heap.size + 2, 5, none⟩ (.slice va (l1 + l2) vc)) := by (repeat' (first | (with_reducible exact Below.refl _ _) | (with_reducible assumption) | (with_reducible refine below_drewN ?_ _) | (with_reducible refine Below.drew ?_) | (with_reducible refine Below.alloc ?_ ?_ _) | (with_reducible refine Below.setCell ?_ ?_ _) | omega | (simp; done) | (simp; omega)))
    refine ⟨fun _ => ⟨_, rfl, ?_⟩, fun h => ?_, hBF⟩
    · have hl : (is1 ++ is2).length = l1 + l2 := by rw [List.length_append, HN1.out, HN2.out]
      exact VLs.of_own hfin (HVF.out.keeps hBF) hl.symm (by show (is1 ++ is2).length ≤ _; rw [hl]; omega)
    · simp only [V.items] at h
      have := HN1.out
      have := HN2.out
      omega
  · refine (bounded_toolong va (l1 + l2) vc (by omega) _).mono ?_
    rintro e w7 ⟨rfl, hb7⟩
    have hR7 := hR6.below hb7
    have hB7 := hB6.next hb7
    have z0 := block_cell hR7.rz (i := 0) rfl
    have z1 := block_cell hR7.rz (i := 1) rfl
    have z2 := block_cell hR7.rz (i := 2) rfl
    have z3 := block_cell hR7.rz (i := 3) rfl
    have z4 := block_cell hR7.rz (i := 4) rfl
    have z5 := block_cell hR7.rz (i := 5) rfl
    have f0 := block_free (i := 0) hR7.rz
    have f1 := block_free (i := 1) hR7.rz
    have f2 := block_free (i := 2) hR7.rz
    have f3 := block_free (i := 3) hR7.rz
    have f4 := block_free (i := 4) hR7.rz
    have f5 := block_free (i := 5) hR7.rz
    go_wp2_with fail
    refine bodyPost_ret (results_row_tmp rfl _ _ (w.heap.size + 2) _ _ (0, 0) rfl (hR7.set _ _ _ _ _ _) rfl) rfl ?_
    refine ⟨fun h => ?_, fun _ => rfl, ?_⟩
    · simp only [V.items] at h
      have := HN1.out
      have := HN2.out
      omega
    · (repeat' (first | (with_reducible exact Below.refl _ _) | (with_reducible assumption) | (with_reducible refine below_drewN ?_ _) | (with_reducible refine Below.drew ?_) | (with_reducible refine Below.alloc ?_ ?_ _) | (with_reducible refine Below.setCell ?_ ?_ _) | omega | (simp; done) | (simp; omega)))
set_option maxHeartbeats 2000000 in
set_option maxRecDepth 100000 in
theorem EqualV_any {d : Nat} {a b : V} {r f r' f' : Value} {w : World} (h1 : VI d w a r f) (h2 : VI d w b r' f') (ga : rightP d 32 a = true) (gb : rightP d 32 b = true) :
    Calls Tryz.prog 16 #[.agg #[.int .i64 a.kind, .int .i64 a.int, .float .f64 a.flt, .string a.text, r, f], .agg #[.int .i64 b.kind, .int .i64 b.int, .float .f64 b.flt, .string b.text, r', f']] w fun e w' => e = .returned (.tuple #[.bool (equalP d a b).1, .int .i64 (equalP d a b).2]) ∧ Below w.heap.size w w' := by
  obtain ⟨ra, rc, fa, fc, rfl, rfl, _, _⟩ := h1.shape
  obtain ⟨ra', rc', fa', fc', rfl, rfl, _, _⟩ := h2.shape
  have HRA := Lib.hid (fun W (hW : Below w.heap.size w W) => Right_any (h1.keeps hW))
  have HRB := Lib.hid (fun W (hW : Below w.heap.size w W) => Right_any (h2.keeps hW))
  rw [ga] at HRA
  rw [gb] at HRB
  have HEQ := Lib.hid (fun W (hW : Below w.heap.size w W) => equalAny d (h1.keeps hW) (h2.keeps hW))
  generalize equalP d a b = q at *
  obtain ⟨q1, q2⟩ := q
  clear h1 h2 ga gb
  generalize a.names.length = an at *
  generalize a.items.length = ai at *
  generalize b.names.length = bn at *
  generalize b.items.length = bi at *
  have hR := R2.new w #[.int .i64 a.kind, .int .i64 a.int, .float .f64 a.flt, .string a.text, .slice ra an rc, .slice fa ai fc] #[.int .i64 b.kind, .int .i64 b.int, .float .f64 b.flt, .string b.text, .slice ra' bn rc', .slice fa' bi fc']
  have hB := R2.base w #[.int .i64 a.kind, .int .i64 a.int, .float .f64 a.flt, .string a.text, .slice ra an rc, .slice fa ai fc] #[.int .i64 b.kind, .int .i64 b.int, .float .f64 b.flt, .string b.text, .slice ra' bn rc', .slice fa' bi fc']
  go_enter Tryz.func16, Tryz.ntmps16
  go_wp2_with fail
  refine (HRA.out _ hB).mono ?_
  rintro e w1 ⟨rfl, hb1⟩
  have hR1 := hR.below hb1
  have hB1 := hB.next hb1
  clear hR hB
  have b0 := block_cell hR1.rb (i := 0) rfl
  have b1 := block_cell hR1.rb (i := 1) rfl
  have b2 := block_cell hR1.rb (i := 2) rfl
  have b3 := block_cell hR1.rb (i := 3) rfl
  have b4 := block_cell hR1.rb (i := 4) rfl
  have b5 := block_cell hR1.rb (i := 5) rfl
  go_wp2_with fail
  refine (HRB.out _ hB1).mono ?_
  rintro e w2 ⟨rfl, hb2⟩
  have hR2 := hR1.below hb2
  have hB2 := hB1.next hb2
  have a0 := block_cell hR2.ra (i := 0) rfl
  have a1 := block_cell hR2.ra (i := 1) rfl
  have a2 := block_cell hR2.ra (i := 2) rfl
  have a3 := block_cell hR2.ra (i := 3) rfl
  have a4 := block_cell hR2.ra (i := 4) rfl
  have a5 := block_cell hR2.ra (i := 5) rfl
  have b0 := block_cell hR2.rb (i := 0) rfl
  have b1 := block_cell hR2.rb (i := 1) rfl
  have b2 := block_cell hR2.rb (i := 2) rfl
  have b3 := block_cell hR2.rb (i := 3) rfl
  have b4 := block_cell hR2.rb (i := 4) rfl
  have b5 := block_cell hR2.rb (i := 5) rfl
  go_wp2_with fail
  refine (HEQ.out _ hB2).mono ?_
  rintro e w3 ⟨rfl, hb3⟩
  go_wp2_with fail
  go_ret2
  exact ⟨rfl, hB2.next hb3⟩
end Go.Proofs.YtdpnknlpkjablaaGreatDoor
