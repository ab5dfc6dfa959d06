/- A set put over another, as Reckon does it. -/
import Derived.Test.YtdpnknlpkjablaaGreatDoorVReck
import Derived.Test.YtdpnknlpkjablaaGreatDoorVUpd
namespace Go.Proofs.YtdpnknlpkjablaaGreatDoor
open Go.RowKit
attribute [local go_sem] run_bits64 run_frombits64 store_flt

set_option maxHeartbeats 2000000 in
set_option maxRecDepth 100000 in
theorem bounded_set (r : Value) (a : Option Addr) (ra : Option Addr) (rn rc n cap : Nat) (hn : n ≤ 256) (hr : r = .slice ra rn rc) (w : World) : Calls Tryz.prog 27 #[.agg #[.int .i64 6, .int .i64 0, .float .f64 0, .string ⟨#[]⟩, r, .slice a n cap]] w fun e w' => e = .returned (.tuple #[.agg #[.int .i64 6, .int .i64 0, .float .f64 0, .string ⟨#[]⟩, r, .slice a n cap], .int .i64 0]) ∧ Below w.heap.size w w' := by
  subst hr
  have hle : decide ((256 : Int) < (n : Int)) = false := by simp; omega
  go_enter Tryz.func27, Tryz.ntmps27
  go_wp2_with fail
  refine bodyPost_ret (results_row_tmp rfl _ _ (w.heap.size + 1) _ _ (0, 0) rfl (block_new _ _ (by simp)) rfl) rfl ?_
  exact ⟨rfl, (by (repeat' (first | (with_reducible exact Below.refl _ _) | (with_reducible assumption) | (with_reducible refine below_drewN ?_ _) | (with_reducible refine Below.drew ?_) | (with_reducible refine Below.alloc ?_ ?_ _) | (with_reducible refine Below.setCell ?_ ?_ _) | omega | (simp; done) | (simp; omega))))⟩
set_option maxHeartbeats 2000000 in
set_option maxRecDepth 100000 in
theorem bounded_set_long (r : Value) (a : Option Addr) (ra : Option Addr) (rn rc n cap : Nat) (hn : 256 < n) (hr : r = .slice ra rn rc) (w : World) : Calls Tryz.prog 27 #[.agg #[.int .i64 6, .int .i64 0, .float .f64 0, .string ⟨#[]⟩, r, .slice a n cap]] w fun e w' => e = .returned (.tuple #[(.agg #[.int .i64 0, .int .i64 0, .float .f64 0, .string ⟨#[]⟩, .slice none 0 0, .slice none 0 0]), .int .i64 20]) ∧ Below w.heap.size w w' := by
  subst hr
  have hle : decide ((256 : Int) < (n : Int)) = true := by simp; omega
  go_enter Tryz.func27, Tryz.ntmps27
  go_wp2_with fail
  refine bodyPost_ret (results_row_tmp rfl _ _ (w.heap.size + 1) _ _ (0, 0) rfl (block_new _ _ (by simp)) rfl) rfl ?_
  exact ⟨rfl, (by (repeat' (first | (with_reducible exact Below.refl _ _) | (with_reducible assumption) | (with_reducible refine below_drewN ?_ _) | (with_reducible refine Below.drew ?_) | (with_reducible refine Below.alloc ?_ ?_ _) | (with_reducible refine Below.setCell ?_ ?_ _) | omega | (simp; done) | (simp; omega))))⟩
theorem right_set {d deep : Nat} {v : V} (hk : v.kind = 6) (h : rightP (d + 1) deep v = true) : v.int = 0 ∧ v.flt = 0 ∧ v.text.size = 0 ∧ v.names.length = v.items.length ∧ v.items.length ≤ 256 ∧ namesP v.names = true ∧ ∀ x ∈ v.items, rightP d (deep - 1) x = true := by
  unfold rightP at h
  rw [if_pos (Or.inr hk), if_neg (by omega)] at h
  simp only [Bool.and_eq_true, decide_eq_true_eq, List.all_eq_true] at h
  obtain ⟨⟨⟨⟨⟨⟨⟨h1, h2⟩, h3⟩, h4⟩, h5⟩, h6⟩, h7⟩, h8⟩ := h
  exact ⟨h1, h2, h3, h4, h6, h7, h8⟩
/-- What '//' tells of two sets. -/
def UpdPost (d : Nat) (w : World) (a b : V) (e : Ending) (w' : World) : Prop :=
  (∃ L xs, UpP (overP a b) L xs ∧ (xs.length ≤ 256 → ∃ r3 f3, e = .returned (.tuple #[.agg #[.int .i64 6, .int .i64 0, .float .f64 0, .string ⟨#[]⟩, r3, f3], .int .i64 0]) ∧ VI (d + 1) w' (.mk 6 0 0 ⟨#[]⟩ L xs) r3 f3) ∧
  (256 < xs.length → e = .returned (.tuple #[(.agg #[.int .i64 0, .int .i64 0, .float .f64 0, .string ⟨#[]⟩, .slice none 0 0, .slice none 0 0]), .int .i64 20]))) ∧ Below w.heap.size w w'
set_option maxHeartbeats 4000000 in
set_option maxRecDepth 100000 in
theorem reckon_upd {d : Nat} {a b : V} {r f r' f' : Value} {w : World} (h1 : VI (d + 1) w a r f) (h2 : VI (d + 1) w b r' f') (ka : a.kind = 6) (kb : b.kind = 6) (ga : rightP (d + 1) 32 a = true) (gb : rightP (d + 1) 32 b = true) :
    Calls Tryz.prog 10 #[.string ⟨#[47, 47]⟩, .agg #[.int .i64 a.kind, .int .i64 a.int, .float .f64 a.flt, .string a.text, r, f], .agg #[.int .i64 b.kind, .int .i64 b.int, .float .f64 b.flt, .string b.text, r', f']] w fun e w' => UpdPost d w a b e w' := by
  obtain ⟨-, -, -, na, la, -, -⟩ := right_set ka ga
  obtain ⟨-, -, -, nb, lb, -, -⟩ := right_set kb gb
  have HRA := Lib.hid (fun W (hW : Below w.heap.size w W) => Right_any (h1.keeps hW))
  have HRB := Lib.hid (fun W (hW : Below w.heap.size w W) => Right_any (h2.keeps hW))
  rw [ga] at HRA
  rw [gb] at HRB
  have HFL := Lib.hid (fun W (hW : Below w.heap.size w W) => floatsV_any (h1.keeps hW) (h2.keeps hW))
  have HUP := Lib.hid (fun W (hW : Below w.heap.size w W) => update_any hW h1 h2 na nb la lb)
  have hnum : (numB a && numB b) = false := by simp [numB, ka]
  rw [hnum] at HFL
  generalize flV a = A at *
  generalize flV b = B at *
  obtain ⟨ra, rc, fa, fc, rfl, rfl, hbd1, _⟩ := h1.shape
  obtain ⟨ra', rc', fa', fc', rfl, rfl, hbd2, _⟩ := h2.shape
  clear h1 h2 ga gb hnum
  have HP := Lib.hid (show ∀ e w', UpdPost d w a b e w' = UpdPost d w a b e w' from fun _ _ => rfl)
  rw [ka] at HRA HFL HUP ⊢
  rw [kb] at HRB HFL HUP ⊢
  generalize hPP : UpdPost d w a b = PP at *
  have HPP := Lib.hid hPP
  clear hPP HP ka kb na nb la lb
  generalize a.names.length = an at *
  generalize a.items.length = l1 at *
  generalize b.names.length = bn at *
  generalize b.items.length = l2 at *
  have hR := R3.new w #[.int .i64 6, .int .i64 a.int, .float .f64 a.flt, .string a.text, .slice ra an rc, .slice fa l1 fc] #[.int .i64 6, .int .i64 b.int, .float .f64 b.flt, .string b.text, .slice ra' bn rc', .slice fa' l2 fc'] #[.int .i64 0, .int .i64 0, .float .f64 0, .string ⟨#[]⟩, .slice none 0 0, .slice none 0 0]
  have hB : Below w.heap.size w (((w.alloc (.cells #[.int .i64 6, .int .i64 a.int, .float .f64 a.flt, .string a.text, .slice ra an rc, .slice fa l1 fc] 27 (0, 0))).alloc (.cells #[.int .i64 6, .int .i64 b.int, .float .f64 b.flt, .string b.text, .slice ra' bn rc', .slice fa' l2 fc'] 27 (0, 0))).alloc (.cells #[.int .i64 0, .int .i64 0, .float .f64 0, .string ⟨#[]⟩, .slice none 0 0, .slice none 0 0] 27 (0, 0))) := (by (repeat' (first | (with_reducible exact Below.refl _ _) | (with_reducible assumption) | (with_reducible refine below_drewN ?_ _) | (with_reducible refine Below.drew ?_) | (with_reducible refine Below.alloc ?_ ?_ _) | (with_reducible refine Below.setCell ?_ ?_ _) | omega | (simp; done) | (simp; omega))))
  go_enter Tryz.func10, Tryz.ntmps10
  go_wp2_with fail
  generalize hW : ((w.alloc (.cells #[.int .i64 6, .int .i64 a.int, .float .f64 a.flt, .string a.text, .slice ra an rc, .slice fa l1 fc] 27 (0, 0))).alloc (.cells #[.int .i64 6, .int .i64 b.int, .float .f64 b.flt, .string b.text, .slice ra' bn rc', .slice fa' l2 fc'] 27 (0, 0))).alloc (.cells #[.int .i64 0, .int .i64 0, .float .f64 0, .string ⟨#[]⟩, .slice none 0 0, .slice none 0 0] 27 (0, 0)) = W at *
  clear hW
  refine (HRA.out _ hB).mono ?_
  rintro e w1 ⟨rfl, hb1⟩
  have hR1 := hR.below hb1
  have hB1 := hB.next hb1
  clear hR hB hb1
  have b0 := block_cell hR1.rb (i := 0) rfl
  have b1 := block_cell hR1.rb (i := 1) rfl
  have b2 := block_cell hR1.rb (i := 2) rfl
  have b3 := block_cell hR1.rb (i := 3) rfl
  have b4 := block_cell hR1.rb (i := 4) rfl
  have b5 := block_cell hR1.rb (i := 5) rfl
  go_wp2_with fail
  refine (HRB.out _ hB1).mono ?_
  rintro e w2 ⟨rfl, hb2⟩
  have hR2 := hR1.below hb2
  have hB2 := hB1.next hb2
  clear b0 b1 b2 b3 b4 b5 hR1 hB1 hb2
  go_wp2_with fail
  refine (contains_upd (g := w2.heap.size) ?_).mono ?_
  · exact ⟨by simp, by simp, by simp, by simp, by simp, by simp⟩
  rintro e w3 ⟨rfl, rfl⟩
  have hb3 := (Below.refl w2.heap.size w2).alloc (Nat.le_refl _) (.cells #[.string ⟨#[43]⟩, .string ⟨#[45]⟩, .string ⟨#[42]⟩, .string ⟨#[47]⟩, .string ⟨#[43, 43]⟩, .string ⟨#[47, 47]⟩] 9 (0, 0))
  have hR3 := hR2.below hb3
  have hB3 := hB2.next hb3
  obtain ⟨w3, hw3⟩ : ∃ w3, w2.alloc (.cells #[.string ⟨#[43]⟩, .string ⟨#[45]⟩, .string ⟨#[42]⟩, .string ⟨#[47]⟩, .string ⟨#[43, 43]⟩, .string ⟨#[47, 47]⟩] 9 (0, 0)) = w3 := ⟨_, rfl⟩
  rw [hw3] at hR3 hB3 ⊢
  clear hb3 hw3 hR2 hB2
  have a0 := block_cell hR3.ra (i := 0) rfl
  have a1 := block_cell hR3.ra (i := 1) rfl
  have a2 := block_cell hR3.ra (i := 2) rfl
  have a3 := block_cell hR3.ra (i := 3) rfl
  have a4 := block_cell hR3.ra (i := 4) rfl
  have a5 := block_cell hR3.ra (i := 5) rfl
  have b0 := block_cell hR3.rb (i := 0) rfl
  have b1 := block_cell hR3.rb (i := 1) rfl
  have b2 := block_cell hR3.rb (i := 2) rfl
  have b3 := block_cell hR3.rb (i := 3) rfl
  have b4 := block_cell hR3.rb (i := 4) rfl
  have b5 := block_cell hR3.rb (i := 5) rfl
  go_wp2_with fail
  refine (HFL.out _ hB3).mono ?_
  rintro e w4 ⟨rfl, hb4⟩
  have hR4 := hR3.below hb4
  have hB4 := hB3.next hb4
  clear a0 b0 a1 b1 a2 b2 a3 b3 a4 b4 a5 b5 hR3 hB3 hb4
  have a0 := block_cell hR4.ra (i := 0) rfl
  have a1 := block_cell hR4.ra (i := 1) rfl
  have a2 := block_cell hR4.ra (i := 2) rfl
  have a3 := block_cell hR4.ra (i := 3) rfl
  have a4 := block_cell hR4.ra (i := 4) rfl
  have a5 := block_cell hR4.ra (i := 5) rfl
  have b0 := block_cell hR4.rb (i := 0) rfl
  have b1 := block_cell hR4.rb (i := 1) rfl
  have b2 := block_cell hR4.rb (i := 2) rfl
  have b3 := block_cell hR4.rb (i := 3) rfl
  have b4 := block_cell hR4.rb (i := 4) rfl
  have b5 := block_cell hR4.rb (i := 5) rfl
  go_wp2_with fail
  refine (HUP.out _ hB4).mono ?_
  rintro e w6 ⟨L, xs, r3, f3, rfl, hL, ⟨cs, hown, hfl⟩, hx512, hup, hb6⟩
  have hR6 := hR4.below hb6
  have hB6 := hB4.next hb6
  have hR4l := hR4.lt
  obtain ⟨va, vc, rfl⟩ := own_shape hown
  have hLs := hL
  obtain ⟨na, nc, rfl, -, -, -⟩ := hLs
  have HL := Lib.hid (hL.mono (p' := fun b => w.heap.size + 3 ≤ b) fun b hb => by omega)
  have HX := Lib.hid (own_mono hown (show w.heap.size + 3 ≤ _ by omega))
  have HF := Lib.hid hfl
  have HU := Lib.hid hup
  clear hL hown hfl hup hR4 hB4 a0 b0 a1 b1 a2 b2 a3 b3 a4 b4 a5 b5 HRA HRB HFL HUP hR4l
  generalize hl3 : xs.length = l3 at *
  have HL3 := Lib.hid hl3
  clear hl3
  go_wp2_with fail
  by_cases hle : l3 ≤ 256
  · refine (bounded_set _ va _ _ _ l3 vc hle rfl _).mono ?_
    rintro e w7 ⟨rfl, hb7⟩
    have hR7 := hR6.below hb7
    have hB7 := hB6.next hb7
    have HL7 := Lib.hid (HL.out.keeps hb7)
    have HX7 := Lib.hid (own_below HX.out hb7)
    have z0 := block_cell hR7.rz (i := 0) rfl
    have z1 := block_cell hR7.rz (i := 1) rfl
    have z2 := block_cell hR7.rz (i := 2) rfl
    have z3 := block_cell hR7.rz (i := 3) rfl
    have z4 := block_cell hR7.rz (i := 4) rfl
    have z5 := block_cell hR7.rz (i := 5) rfl
    have f0 := block_free (i := 0) hR7.rz
    have f1 := block_free (i := 1) hR7.rz
    have f2 := block_free (i := 2) hR7.rz
    have f3 := block_free (i := 3) hR7.rz
    have f4 := block_free (i := 4) hR7.rz
    have f5 := block_free (i := 5) hR7.rz
    go_wp2_with fail
    refine bodyPost_ret (results_row_tmp rfl _ _ (w.heap.size + 2) _ _ (0, 0) rfl (hR7.set _ _ _ _ _ _) rfl) rfl ?_
    have hlow : ∀ (W : World) (i : Nat) (u : Value), W.ownsRow (w.heap.size + 3) 27 6 (.slice va l3 vc) l3 cs → (W.setCell ⟨w.heap.size + 2, i, none⟩ u).ownsRow (w.heap.size + 3) 27 6 (.slice va l3 vc) l3 cs := fun W i u h => ownsRow_setCell_below h (by simp) u
    have hkp : ∀ (W : World) (i : Nat) (v : Value), SLP (fun b => w.heap.size + 3 ≤ b) W (.slice na L.length nc) L → SLP (fun b => w.heap.size + 3 ≤ b) (W.setCell ⟨w.heap.size + 2, i, none⟩ v) (.slice na L.length nc) L := fun W i v h => h.kept fun g hg hlt => by
      obtain ⟨o, ho⟩ : ∃ o, W.heap[g]? = some o := ⟨_, Array.getElem?_eq_getElem hlt⟩
      rw [ho]
      exact block_setCell ho (by simp; omega) _
    have hfin := hlow _ 5 (.slice va l3 vc) (hlow _ 4 (.slice na L.length nc) (hlow _ 3 (.string ⟨#[]⟩) (hlow _ 2 (.float .f64 0) (hlow _ 1 (.int .i64 0) (hlow _ 0 (.int .i64 6) HX7.out)))))
    have hBF : Below w.heap.size w ((((((w7.setCell ⟨w.heap.size + 2, 0, none⟩ (.int .i64 6)).setCell ⟨w.heap.size + 2, 1, none⟩ (.int .i64 0)).setCell ⟨w.heap.size + 2, 2, none⟩ (.float .f64 0)).setCell ⟨w.heap.size + 2, 3, none⟩ (.string ⟨#[]⟩)).setCell ⟨w.heap.size + 2, 4, none⟩ (.slice na L.length nc)).setCell ⟨w.heap.size + 2, 5, none⟩ (.slice va l3 vc)) := by (repeat' (first | (with_reducible exact Below.refl _ _) | (with_reducible assumption) | (with_reducible refine below_drewN ?_ _) | (with_reducible refine Below.drew ?_) | (with_reducible refine Below.alloc ?_ ?_ _) | (with_reducible refine Below.setCell ?_ ?_ _) | omega | (simp; done) | (simp; omega)))
    rw [← HPP.out]
    refine ⟨⟨L, xs, HU.out, fun _ => ⟨_, _, rfl, (show (0 : Nat) ≤ maxLen from Nat.zero_le _), (hkp _ 5 _ (hkp _ 4 _ (hkp _ 3 _ (hkp _ 2 _ (hkp _ 1 _ (hkp _ 0 _ HL7.out)))))).any, VLs.of_own hfin (HF.out.keeps hBF) HL3.out.symm (by show xs.length ≤ _; have := HL3.out; omega)⟩, fun h => ?_⟩, hBF⟩
    have := HL3.out
    omega
  · refine (bounded_set_long _ va _ _ _ l3 vc (by omega) rfl _).mono ?_
    rintro e w7 ⟨rfl, hb7⟩
    have hR7 := hR6.below hb7
    have hB7 := hB6.next hb7
    have z0 := block_cell hR7.rz (i := 0) rfl
    have z1 := block_cell hR7.rz (i := 1) rfl
    have z2 := block_cell hR7.rz (i := 2) rfl
    have z3 := block_cell hR7.rz (i := 3) rfl
    have z4 := block_cell hR7.rz (i := 4) rfl
    have z5 := block_cell hR7.rz (i := 5) rfl
    have f0 := block_free (i := 0) hR7.rz
    have f1 := block_free (i := 1) hR7.rz
    have f2 := block_free (i := 2) hR7.rz
    have f3 := block_free (i := 3) hR7.rz
    have f4 := block_free (i := 4) hR7.rz
    have f5 := block_free (i := 5) hR7.rz
    go_wp2_with fail
    refine bodyPost_ret (results_row_tmp rfl _ _ (w.heap.size + 2) _ _ (0, 0) rfl (hR7.set _ _ _ _ _ _) rfl) rfl ?_
    rw [← HPP.out]
    refine ⟨⟨L, xs, HU.out, fun h => ?_, fun _ => rfl⟩, ?_⟩
    · have := HL3.out
      omega
    · (repeat' (first | (with_reducible exact Below.refl _ _) | (with_reducible assumption) | (with_reducible refine below_drewN ?_ _) | (with_reducible refine Below.drew ?_) | (with_reducible refine Below.alloc ?_ ?_ _) | (with_reducible refine Below.setCell ?_ ?_ _) | omega | (simp; done) | (simp; omega)))
end Go.Proofs.YtdpnknlpkjablaaGreatDoor
