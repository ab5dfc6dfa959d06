/- ValueInts: the walk. -/
import Derived.Test.YtdpnknlpkjablaaGreatDoorShownV
import Derived.Test.YtdpnknlpkjablaaGreatDoorIntsR
import Derived.Deep.QuietTactic
import Derived.BigQuiet
import Derived.Deep.DeepCutAuto
namespace Go.Proofs.YtdpnknlpkjablaaGreatDoor
open Go.RowKit Go.Shelf
attribute [local go_sem] store_flt

theorem set6' {W : World} {g : Nat} {T : TypeId} {c : Array Value} (h : W.heap[g]? = some (.cells c T (0, 0))) (v0 v1 v2 v3 v4 v5 : Value) :
    ((((((W.setCell ⟨g, 0, none⟩ v0).setCell ⟨g, 1, none⟩ v1).setCell ⟨g, 2, none⟩ v2).setCell ⟨g, 3, none⟩ v3).setCell ⟨g, 4, none⟩ v4).setCell ⟨g, 5, none⟩ v5).heap[g]? =
      some (.cells ((((((c.setIfInBounds 0 v0).setIfInBounds 1 v1).setIfInBounds 2 v2).setIfInBounds 3 v3).setIfInBounds 4 v4).setIfInBounds 5 v5) T (0, 0)) :=
  block_set (block_set (block_set (block_set (block_set (block_set h _) _) _) _) _) _
theorem keep6' {W : World} {g g' : Nat} {o : Obj} (h : W.heap[g']? = some o) (hne : g' ≠ g) (v0 v1 v2 v3 v4 v5 : Value) :
    ((((((W.setCell ⟨g, 0, none⟩ v0).setCell ⟨g, 1, none⟩ v1).setCell ⟨g, 2, none⟩ v2).setCell ⟨g, 3, none⟩ v3).setCell ⟨g, 4, none⟩ v4).setCell ⟨g, 5, none⟩ v5).heap[g']? = some o :=
  block_setCell (block_setCell (block_setCell (block_setCell (block_setCell (block_setCell h hne _) hne _) hne _) hne _) hne _) hne _
theorem below6' {w W : World} {B g : Nat} (h : Below B w W) (hg : B ≤ g) (v0 v1 v2 v3 v4 v5 : Value) :
    Below B w ((((((W.setCell ⟨g, 0, none⟩ v0).setCell ⟨g, 1, none⟩ v1).setCell ⟨g, 2, none⟩ v2).setCell ⟨g, 3, none⟩ v3).setCell ⟨g, 4, none⟩ v4).setCell ⟨g, 5, none⟩ v5) :=
  (((((h.setCell hg _).setCell hg _).setCell hg _).setCell hg _).setCell hg _).setCell hg _
theorem with_world {P : Program} {c : Code} {Q : Exit → Act → World → Prop} {a : Act} {w : World} (h : ∀ w0 : World, w0 = w → c.wp P Q a w0) : c.wp P Q a w := h w rfl
theorem block_drew {w : World} {g : Nat} {o : Obj} (h : w.heap[g]? = some o) : w.drew.heap[g]? = some o := h
theorem tE_comm (a b : Int) : tK b a = tK a b ∧ tN b a = tN a b ∧ tE b a = tE a b := by
  unfold tK tN tE
  rw [(times_comm b a).2, (times_comm b a).1]
  exact ⟨rfl, rfl, rfl⟩
theorem back_w {a b q r : Int} (ha : I64 a) (h : q * b + r = a) : wrap64 (wrap64 (q * b) + r) = a := by
  unfold wrap64
  unfold I64 at ha
  generalize q * b = m at h ⊢
  omega
theorem back_all {a b : Int} (ha : I64 a) (hb : I64 b) (h0 : b ≠ 0) (h1 : ¬ (a = -9223372036854775808 ∧ b = -1)) : (wrap64 (wrap64 (wrap64 (a.tdiv b) * b) + a.tmod b) == a) = true := by
  obtain ⟨h2, h3⟩ := quot_back ha hb h0 h1
  have h4 : wrap64 (a.tdiv b) = a.tdiv b := by unfold wrap64; unfold I64 at h2; omega
  rw [h4, beq_iff_eq]
  exact back_w ha h3
set_option maxHeartbeats 3000000 in
set_option maxRecDepth 100000 in
theorem ints_fits {w : World} (hG : PG w) (a b : Int) (ha : I64 a) (hb : I64 b) (hp : plusB a b = true) : Calls Tryz.prog 3 #[.int .i64 a, .int .i64 b] w fun e w' => e = .returned (.bool true) ∧ Below w.heap.size w w' := by
  have HPM := Lib.hid hp
  have HA := Lib.hid ha
  have HB := Lib.hid hb
  have HP1 := Lib.hid (reckon_plus a b hp)
  have HP2 := Lib.hid (fun W => (reckon_plus b a ((plus_comm b a hb ha).trans hp) W).mono (R' := fun e w' => e = .returned (.tuple #[(.agg #[.int .i64 2, .int .i64 (wrap64 (a + b)), .float .f64 0, .string ⟨#[]⟩, .slice none 0 0, .slice none 0 0]), .int .i64 0]) ∧ Below W.heap.size W w') fun e w' h => ⟨h.1.trans (by rw [Int.add_comm b a]), h.2⟩)
  have HM := Lib.hid (fun W => (reckon_minus (wrap64 (a + b)) b (minus_back ha hb hp).2 W).mono (R' := fun e w' => e = .returned (.tuple #[(.agg #[.int .i64 2, .int .i64 (a), .float .f64 0, .string ⟨#[]⟩, .slice none 0 0, .slice none 0 0]), .int .i64 0]) ∧ Below W.heap.size W w') fun e w' h => ⟨h.1.trans (by rw [(minus_back ha hb hp).1]), h.2⟩)
  generalize wrap64 (a + b) = n at *
  clear hp ha hb
  have hB0 := Below.refl w.heap.size w
  go_enter Tryz.func3, Tryz.ntmps3
  go_wp2_with fail
  refine (shown_any hG).mono ?_
  rintro e w1 ⟨rfl, hb1⟩
  have hB1 := hB0.trans (hb1.mono hB0.size)
  clear hb1 hB0
  go_wp2_with fail
  refine (whole_any a _).mono ?_
  rintro e w2 ⟨rfl, hb2⟩
  have hB2 := hB1.trans (hb2.mono hB1.size)
  clear hb2 hB1
  go_wp2_with fail
  refine (whole_any b _).mono ?_
  rintro e w3 ⟨rfl, hb3⟩
  have hB3 := hB2.trans (hb3.mono hB2.size)
  clear hb3 hB2
  go_wp2_with fail
  refine (HP1.out _).mono ?_
  rintro e w4 ⟨rfl, hb4⟩
  have hB4 := hB3.trans (hb4.mono hB3.size)
  clear hb4 hB3
  have zX4 := hB4.size
  have hB4a := hB4.alloc hB4.size (.cells #[.int .i64 2, .int .i64 n, .float .f64 0, .string ⟨#[]⟩, .slice none 0 0, .slice none 0 0] 27 (0, 0))
  have rX4a := block_new w4 (.cells #[.int .i64 2, .int .i64 n, .float .f64 0, .string ⟨#[]⟩, .slice none 0 0, .slice none 0 0] 27 (0, 0)) rfl
  go_wp2_with fail
  refine (whole_any b _).mono ?_
  rintro e w5 ⟨rfl, hb5⟩
  have hB5 := hB4a.trans (hb5.mono hB4a.size)
  have rX5 := block_below rX4a hb5
  clear hb5 hB4a rX4a
  go_wp2_with fail
  refine (whole_any a _).mono ?_
  rintro e w6 ⟨rfl, hb6⟩
  have hB6 := hB5.trans (hb6.mono hB5.size)
  have rX6 := block_below rX5 hb6
  clear hb6 hB5 rX5
  go_wp2_with fail
  refine (HP2.out _).mono ?_
  rintro e w7 ⟨rfl, hb7⟩
  have hB7 := hB6.trans (hb7.mono hB6.size)
  have rX7 := block_below rX6 hb7
  clear hb7 hB6 rX6
  have zY7 := hB7.size
  have hB7a := hB7.alloc hB7.size (.cells #[.int .i64 2, .int .i64 n, .float .f64 0, .string ⟨#[]⟩, .slice none 0 0, .slice none 0 0] 27 (0, 0))
  have rX7a := block_alloc rX7 (.cells #[.int .i64 2, .int .i64 n, .float .f64 0, .string ⟨#[]⟩, .slice none 0 0, .slice none 0 0] 27 (0, 0))
  have rY7a := block_new w7 (.cells #[.int .i64 2, .int .i64 n, .float .f64 0, .string ⟨#[]⟩, .slice none 0 0, .slice none 0 0] 27 (0, 0)) rfl
  have qX11 := block_cell (i := 1) rX7a rfl
  have qY21 := block_cell (i := 1) rY7a rfl
  go_wp2_with fail
  have nXYY : w7.heap.size ≠ w4.heap.size := by have := block_lt rX7; omega
  have nXYX : w4.heap.size ≠ w7.heap.size := Ne.symm nXYY
  go_cut [10, 11] from 46 to 52 (fun vz ve wx => ∃ gz, vz = .pointer (some ⟨gz, 0, none⟩) ∧ ve = .int .i64 0 ∧ wx.heap[gz]? = some (.cells (cellsV 2 a) 27 (0, 0)) ∧ Below w.heap.size w wx ∧ wx.heap[w4.heap.size]? = some (.cells (cellsV 2 n) 27 (0, 0)) ∧ wx.heap[w7.heap.size]? = some (.cells (cellsV 2 n) 27 (0, 0)))
  case first =>
    clear nXYX nXYY
    refine with_frame fun a0 ha0 => ?_
    have e6 : a0.eval (.tmp 6) = .pointer (some ⟨w4.heap.size, 0, none⟩) := by rw [ha0]; rfl
    have e1 : a0.eval (.tmp 1) = .int .i64 b := by rw [ha0]; rfl
    have hsz : a0.tmps.size = 129 := by rw [ha0]; rfl
    have HA0 := Lib.hid ha0
    clear ha0
    have hD : ∀ d, D7.contains d = true → d < a0.tmps.size := by
      intro d h
      rw [hsz]
      simp [D7] at h
      omega
    have RX0 : Hid (_ ∧ _) := Lib.hid (⟨block_drew rX7a, block_drew rY7a⟩ : _ ∧ _)
    have RB0 := Lib.hid hB7a
    clear rX7 rX7a rY7a qX11 qY21 hB7 hB7a HP1 HP2 HPM HA HB
    refine wp_region_inv (by kernel_rfl) (I7 a0 w w4.heap.size w7.heap.size a b n) (by kernel_rfl) ⟨_, (frameOf_self a0 D7).symm, RB0.out.drew, RX0.out.1, RX0.out.2, (fun i _ _ _ h => by cases h), (fun h => by cases h), (fun _ => rfl)⟩ ?_ ?_
    · intro i hi L A W hL hd hI
      obtain ⟨v, rfl, hbl, hX, hY, hv, hG, h78⟩ := hI
      have hi' : i < 10 := hi
      have inn : ∀ d, D7.contains d = true → (frameOf a0 D7 v).tmps[d]?.getD undef = v d := fun d h => frameOf_in' h (hD d h)
      have E6 : (frameOf a0 D7 v).tmps[6]?.getD undef = .pointer (some ⟨w4.heap.size, 0, none⟩) := (frameOf_out' rfl).trans e6
      have E1 : (frameOf a0 D7 v).tmps[1]?.getD undef = .int .i64 b := (frameOf_out' rfl).trans e1
      clear e6 e1 hi hD hsz
      rcases (by omega : i = 0 ∨ i = 1 ∨ i = 2 ∨ i = 3 ∨ i = 4 ∨ i = 5 ∨ i = 6 ∨ i = 7 ∨ i = 8 ∨ i = 9) with rfl | rfl | rfl | rfl | rfl | rfl | rfl | rfl | rfl | rfl
      · have hX' : W.heap[w4.heap.size]? = some (.cells #[.int .i64 2, .int .i64 n, .float .f64 0, .string ⟨#[]⟩, .slice none 0 0, .slice none 0 0] 27 (0, 0)) := hX
        have c0 := block_cell (i := 0) hX' rfl
        have c1 := block_cell (i := 1) hX' rfl
        have c2 := block_cell (i := 2) hX' rfl
        have c3 := block_cell (i := 3) hX' rfl
        have c4 := block_cell (i := 4) hX' rfl
        have c5 := block_cell (i := 5) hX' rfl
        refine wpOp_value (v := (.agg #[.int .i64 2, .int .i64 (n), .float .f64 0, .string ⟨#[]⟩, .slice none 0 0, .slice none 0 0])) (w' := W) rfl rfl (by go_simp) ?_
        exact I7.put hX hY hv hG h78 (i := 0) (by omega) (by omega) (by omega) hbl (fun _ _ h => h) rfl
      · refine wpOp_value (v := .int .i64 b) (w' := W) rfl rfl (by go_simp) ?_
        exact I7.put hX hY hv hG h78 (i := 1) (by omega) (by omega) (by omega) hbl (fun _ _ h => h) rfl
      · have x48 : v 48 = .int .i64 b := hv 1 (by omega) (by omega) (by omega) (hd 1 (by kernel_rfl))
        have E48 := (inn 48 rfl).trans x48
        clear x48
        refine wpOp_call (f := 11) (args := #[.int .i64 b]) rfl rfl (by go_simp) (whole_any b W) ?_
        rintro e w' ⟨rfl, hb'⟩
        exact ⟨_, rfl, I7.put hX hY hv hG h78 (i := 2) (by omega) (by omega) (by omega) (hbl.trans (hb'.mono hbl.size)) (below_keep hb') rfl⟩
      · have x47 : v 47 = (.agg #[.int .i64 2, .int .i64 (n), .float .f64 0, .string ⟨#[]⟩, .slice none 0 0, .slice none 0 0]) := hv 0 (by omega) (by omega) (by omega) (hd 0 (by kernel_rfl))
        have E47 := (inn 47 rfl).trans x47
        have x49 : v 49 = (.agg #[.int .i64 2, .int .i64 (b), .float .f64 0, .string ⟨#[]⟩, .slice none 0 0, .slice none 0 0]) := hv 2 (by omega) (by omega) (by omega) (hd 2 (by kernel_rfl))
        have E49 := (inn 49 rfl).trans x49
        clear x47 x49
        refine wpOp_call (f := 10) (args := #[.string ⟨#[45]⟩, (.agg #[.int .i64 2, .int .i64 (n), .float .f64 0, .string ⟨#[]⟩, .slice none 0 0, .slice none 0 0]), (.agg #[.int .i64 2, .int .i64 (b), .float .f64 0, .string ⟨#[]⟩, .slice none 0 0, .slice none 0 0])]) rfl rfl (by go_simp) (HM.out W) ?_
        rintro e w' ⟨rfl, hb'⟩
        exact ⟨_, rfl, I7.put hX hY hv hG h78 (i := 3) (by omega) (by omega) (by omega) (hbl.trans (hb'.mono hbl.size)) (below_keep hb') rfl⟩
      · have x50 : v 50 = .tuple #[(.agg #[.int .i64 2, .int .i64 (a), .float .f64 0, .string ⟨#[]⟩, .slice none 0 0, .slice none 0 0]), .int .i64 0] := hv 3 (by omega) (by omega) (by omega) (hd 3 (by kernel_rfl))
        have E50 := (inn 50 rfl).trans x50
        clear x50
        refine wpOp_value (v := .tuple #[(.agg #[.int .i64 2, .int .i64 (a), .float .f64 0, .string ⟨#[]⟩, .slice none 0 0, .slice none 0 0]), .int .i64 0]) (w' := W) rfl rfl (by go_simp) ?_
        exact I7.put hX hY hv hG h78 (i := 4) (by omega) (by omega) (by omega) hbl (fun _ _ h => h) rfl
      · have x46 : v 46 = .tuple #[(.agg #[.int .i64 2, .int .i64 (a), .float .f64 0, .string ⟨#[]⟩, .slice none 0 0, .slice none 0 0]), .int .i64 0] := hv 4 (by omega) (by omega) (by omega) (hd 4 (by kernel_rfl))
        have E46 := (inn 46 rfl).trans x46
        clear x46
        refine wpOp_value (v := (.agg #[.int .i64 2, .int .i64 (a), .float .f64 0, .string ⟨#[]⟩, .slice none 0 0, .slice none 0 0])) (w' := W) rfl rfl (by go_simp) ?_
        exact I7.put hX hY hv hG h78 (i := 5) (by omega) (by omega) (by omega) hbl (fun _ _ h => h) rfl
      · have x46 : v 46 = .tuple #[(.agg #[.int .i64 2, .int .i64 (a), .float .f64 0, .string ⟨#[]⟩, .slice none 0 0, .slice none 0 0]), .int .i64 0] := hv 4 (by omega) (by omega) (by omega) (hd 4 (by kernel_rfl))
        have E46 := (inn 46 rfl).trans x46
        clear x46
        refine wpOp_value (v := .int .i64 0) (w' := W) rfl rfl (by go_simp) ?_
        exact I7.put hX hY hv hG h78 (i := 6) (by omega) (by omega) (by omega) hbl (fun _ _ h => h) rfl
      · -- the new number's own cells
        have h8 : L 8 = false := h78 hL
        have hlX := block_lt hX
        have hlY := block_lt hY
        have hzb := hbl.size
        refine wpOp_value (v := .pointer (some ⟨W.heap.size, 0, none⟩)) (w' := W.alloc (.cells (cellsV 0 0) 27)) rfl rfl (by unfold cellsV; go_simp) ?_
        refine ⟨_, frameOf_put (d := 10) rfl, hbl.alloc hbl.size _, block_alloc hX _, block_alloc hY _, (fun j hj hj7 hj8 hLj => ?_), (fun _ => ⟨W.heap.size, if_pos rfl, by omega, by omega, hzb, ?_⟩), (fun h => by simp at h)⟩
        · have e : (j == 7) = false := by simp; omega
          simp only [e, Bool.or_false] at hLj
          have hne : ¬ slot7 j = 10 := fun e => hj7 (slot7_inj (j := 7) hj (by decide) hj8 (by decide) e)
          rw [if_neg hne]
          exact hv j hj hj7 hj8 hLj
        · have e8 : (L 8 || (8 : Nat) == 7) = false := by rw [h8]; rfl
          show _ = some (Obj.cells (if (L 8 || (8 : Nat) == 7) = true then cellsV 2 a else cellsV 0 0) 27 (0, 0))
          rw [e8]
          exact block_new _ _ rfl
      · have h7 : L 7 = true := hd 7 (by kernel_rfl)
        obtain ⟨g, x10, hgX, hgY, hgz, hgc⟩ := hG h7
        have x51 : v 51 = (.agg #[.int .i64 2, .int .i64 (a), .float .f64 0, .string ⟨#[]⟩, .slice none 0 0, .slice none 0 0]) := hv 5 (by omega) (by omega) (by omega) (hd 5 (by kernel_rfl))
        have E51 := (inn 51 rfl).trans x51
        have E10 := (inn 10 rfl).trans x10
        rw [hL] at hgc
        have hgc' : W.heap[g]? = some (.cells #[.int .i64 0, .int .i64 0, .float .f64 0, .string ⟨#[]⟩, .slice none 0 0, .slice none 0 0] 27 (0, 0)) := hgc
        have c0 := block_cell (i := 0) hgc' rfl
        have c1 := block_cell (i := 1) hgc' rfl
        have c2 := block_cell (i := 2) hgc' rfl
        have c3 := block_cell (i := 3) hgc' rfl
        have c4 := block_cell (i := 4) hgc' rfl
        have c5 := block_cell (i := 5) hgc' rfl
        have f0 := block_free (i := 0) hgc'
        have f1 := block_free (i := 1) hgc'
        have f2 := block_free (i := 2) hgc'
        have f3 := block_free (i := 3) hgc'
        have f4 := block_free (i := 4) hgc'
        have f5 := block_free (i := 5) hgc'
        have V := (fun (v0 v1 v2 v3 v4 v5 : Value) => keep6' (o := .cells (cellsV 2 n) 27 (0, 0)) hX (Ne.symm hgX) v0 v1 v2 v3 v4 v5)
        have V' := (fun (v0 v1 v2 v3 v4 v5 : Value) => keep6' (o := .cells (cellsV 2 n) 27 (0, 0)) hY (Ne.symm hgY) v0 v1 v2 v3 v4 v5)
        have VV := Lib.hid V
        have VV' := Lib.hid V'
        have VX := Lib.hid x10
        have VG := Lib.hid hgc'
        clear V V' hgc hgc' x10 x51
        refine wpOp_skip (w' := ((((((W.setCell ⟨g, 0, none⟩ (.int .i64 2)).setCell ⟨g, 1, none⟩ (.int .i64 a)).setCell ⟨g, 2, none⟩ (.float .f64 0)).setCell ⟨g, 3, none⟩ (.string ⟨#[]⟩)).setCell ⟨g, 4, none⟩ (.slice none 0 0)).setCell ⟨g, 5, none⟩ (.slice none 0 0))) rfl rfl rfl (by go_simp) ?_
        refine ⟨v, rfl, below6' hbl hgz _ _ _ _ _ _, VV.out _ _ _ _ _ _, VV'.out _ _ _ _ _ _, (fun j hj hj7 hj8 hLj => ?_), (fun _ => ⟨g, VX.out, hgX, hgY, hgz, ?_⟩), (fun h => by simp [h7] at h)⟩
        · have e : (j == 8) = false := by simp; omega
          simp only [e, Bool.or_false] at hLj
          exact hv j hj hj7 hj8 hLj
        · have e8 : (L 8 || (8 : Nat) == 8) = true := by simp
          show _ = some (Obj.cells (if (L 8 || (8 : Nat) == 8) = true then cellsV 2 a else cellsV 0 0) 27 (0, 0))
          rw [e8]
          exact set6' VG.out _ _ _ _ _ _
      · have x52 : v 52 = .int .i64 0 := hv 6 (by omega) (by omega) (by omega) (hd 6 (by kernel_rfl))
        have E52 := (inn 52 rfl).trans x52
        clear x52
        refine wpOp_value (v := .int .i64 0) (w' := W) rfl rfl (by go_simp) ?_
        exact I7.put hX hY hv hG h78 (i := 9) (by omega) (by omega) (by omega) hbl (fun _ _ h => h) rfl
    · intro L A W hall ⟨v, e, hbl, hX, hY, hv, hG, _⟩
      subst e
      have h0 := HA0.out
      subst h0
      have x11 : v 11 = .int .i64 0 := hv 9 (by omega) (by omega) (by omega) (hall 9 (by decide))
      obtain ⟨g, x10, _, _, _, hgc⟩ := hG (hall 7 (by decide))
      rw [hall 8 (by decide)] at hgc
      unfold D7
      simp only [frameOf_cons, frameOf_nil, Act.put, List.setIfInBounds_toArray, List.set_cons_zero, List.set_cons_succ]
      go_wp2_with fail
      go_meet
      exact ⟨g, rfl, rfl, hgc, hbl, hX, hY⟩
  case rest =>
    obtain ⟨gz, rfl, rfl, hZ0, hBc, hX0, hY0⟩ := hcut
    have rXc : wc.heap[w4.heap.size]? = some (.cells #[.int .i64 2, .int .i64 n, .float .f64 0, .string ⟨#[]⟩, .slice none 0 0, .slice none 0 0] 27 (0, 0)) := hX0
    have rYc : wc.heap[w7.heap.size]? = some (.cells #[.int .i64 2, .int .i64 n, .float .f64 0, .string ⟨#[]⟩, .slice none 0 0, .slice none 0 0] 27 (0, 0)) := hY0
    have rZc : wc.heap[gz]? = some (.cells #[.int .i64 2, .int .i64 a, .float .f64 0, .string ⟨#[]⟩, .slice none 0 0, .slice none 0 0] 27 (0, 0)) := hZ0
    have qZ1 := block_cell (i := 1) rZc rfl
    clear hX0 hY0 hZ0 hB7a hB7 rX7 rX7a rY7a qX11 qY21 HP1 HP2 HPM HM
    go_wp2_with fail
    clear rZc qZ1
    have HT1 := Lib.hid (fun W => reckon_times_u a b HA.out HB.out W)
    have HT2 := Lib.hid (fun W => (reckon_times_u b a HB.out HA.out W).mono (R' := fun e w' => e = .returned (.tuple #[.agg #[.int .i64 (tK a b), .int .i64 (tN a b), .float .f64 0, .string ⟨#[]⟩, .slice none 0 0, .slice none 0 0], .int .i64 (tE a b)]) ∧ Below W.heap.size W w') fun e w' h => ⟨h.1.trans (by rw [(tE_comm a b).1, (tE_comm a b).2.1, (tE_comm a b).2.2]), h.2⟩)
    have HE : Hid (tE a b = 0 ∨ tE a b = 16) := Lib.hid (by unfold tE; split; exact Or.inl rfl; exact Or.inr rfl)
    generalize tK a b = tk at HT1 HT2
    generalize tN a b = tn at HT1 HT2
    generalize tE a b = te at HT1 HT2 HE
    refine (whole_any _ _).mono ?_
    rintro e w8 ⟨rfl, hb8⟩
    have hB8 := hBc.trans (hb8.mono hBc.size)
    have rX8 := block_below rXc hb8
    have rY8 := block_below rYc hb8
    clear hb8 hBc rXc rYc
    go_wp2_with fail
    refine (whole_any _ _).mono ?_
    rintro e w9 ⟨rfl, hb9⟩
    have hB9 := hB8.trans (hb9.mono hB8.size)
    have rX9 := block_below rX8 hb9
    have rY9 := block_below rY8 hb9
    clear hb9 hB8 rX8 rY8
    go_wp2_with fail
    refine (HT1.out _).mono ?_
    rintro e w10 ⟨rfl, hb10⟩
    have hB10 := hB9.trans (hb10.mono hB9.size)
    have rX10 := block_below rX9 hb10
    have rY10 := block_below rY9 hb10
    clear hb10 hB9 rX9 rY9
    have qX30 := block_cell (i := 0) rX10 rfl
    have fX30 := block_free (i := 0) rX10
    have qX31 := block_cell (i := 1) rX10 rfl
    have fX31 := block_free (i := 1) rX10
    have qX32 := block_cell (i := 2) rX10 rfl
    have fX32 := block_free (i := 2) rX10
    have qX33 := block_cell (i := 3) rX10 rfl
    have fX33 := block_free (i := 3) rX10
    have qX34 := block_cell (i := 4) rX10 rfl
    have fX34 := block_free (i := 4) rX10
    have qX35 := block_cell (i := 5) rX10 rfl
    have fX35 := block_free (i := 5) rX10
    go_upto_region 11 with fail
    have rX11 := set6' rX10 (.int .i64 tk) (.int .i64 tn) (.float .f64 0) (.string ⟨#[]⟩) (.slice none 0 0) (.slice none 0 0)
    have rY11 := keep6' rY10 (g := w4.heap.size) nXYY (.int .i64 tk) (.int .i64 tn) (.float .f64 0) (.string ⟨#[]⟩) (.slice none 0 0) (.slice none 0 0)
    have hB11 := below6' hB10 zX4 (.int .i64 tk) (.int .i64 tn) (.float .f64 0) (.string ⟨#[]⟩) (.slice none 0 0) (.slice none 0 0)
    refine with_world fun w12 hw12 => ?_
    rw [← hw12] at hB11 rX11 rY11
    clear hw12
    go_wp2_with fail
    refine (whole_any _ _).mono ?_
    rintro e w13 ⟨rfl, hb13⟩
    have hB13 := hB11.trans (hb13.mono hB11.size)
    have rX13 := block_below rX11 hb13
    have rY13 := block_below rY11 hb13
    clear hb13 hB11 qX30 fX30 qX31 fX31 qX32 fX32 qX33 fX33 qX34 fX34 qX35 fX35 rX11 rY11
    go_wp2_with fail
    refine (whole_any _ _).mono ?_
    rintro e w14 ⟨rfl, hb14⟩
    have hB14 := hB13.trans (hb14.mono hB13.size)
    have rX14 := block_below rX13 hb14
    have rY14 := block_below rY13 hb14
    clear hb14 hB13 rX13 rY13
    go_wp2_with fail
    refine (HT2.out _).mono ?_
    rintro e w15 ⟨rfl, hb15⟩
    have hB15 := hB14.trans (hb15.mono hB14.size)
    have rX15 := block_below rX14 hb15
    have rY15 := block_below rY14 hb15
    clear hb15 hB14 rX14 rY14
    have qY40 := block_cell (i := 0) rY15 rfl
    have fY40 := block_free (i := 0) rY15
    have qY41 := block_cell (i := 1) rY15 rfl
    have fY41 := block_free (i := 1) rY15
    have qY42 := block_cell (i := 2) rY15 rfl
    have fY42 := block_free (i := 2) rY15
    have qY43 := block_cell (i := 3) rY15 rfl
    have fY43 := block_free (i := 3) rY15
    have qY44 := block_cell (i := 4) rY15 rfl
    have fY44 := block_free (i := 4) rY15
    have qY45 := block_cell (i := 5) rY15 rfl
    have fY45 := block_free (i := 5) rY15
    go_upto_region 12 with fail
    have rX16 := keep6' rX15 (g := w7.heap.size) nXYX (.int .i64 tk) (.int .i64 tn) (.float .f64 0) (.string ⟨#[]⟩) (.slice none 0 0) (.slice none 0 0)
    have rY16 := set6' rY15 (.int .i64 tk) (.int .i64 tn) (.float .f64 0) (.string ⟨#[]⟩) (.slice none 0 0) (.slice none 0 0)
    have hB16 := below6' hB15 zY7 (.int .i64 tk) (.int .i64 tn) (.float .f64 0) (.string ⟨#[]⟩) (.slice none 0 0) (.slice none 0 0)
    refine with_world fun w17 hw17 => ?_
    rw [← hw17] at hB16 rX16 rY16
    clear hw17
    have qX51 := block_cell (i := 1) rX16 rfl
    have qY61 := block_cell (i := 1) rY16 rfl
    rcases HE.out with rfl | rfl
    · clear HE
      go_wp2_with fail
      rcases (by omega : b = 0 ∨ (b ≠ 0 ∧ (a = -9223372036854775808 ∧ b = -1)) ∨ (b ≠ 0 ∧ ¬ (a = -9223372036854775808 ∧ b = -1))) with hb0 | ⟨hb0, hq⟩ | ⟨hb0, hq⟩
      · -- zero
        subst hb0
        refine (whole_any _ _).mono ?_
        rintro e w18 ⟨rfl, hb18⟩
        have hB18 := hB16.trans (hb18.mono hB16.size)
        have rX18 := block_below rX16 hb18
        have rY18 := block_below rY16 hb18
        clear hb18 hB16 qY40 fY40 qY41 fY41 qY42 fY42 qY43 fY43 qY44 fY44 qY45 fY45 qX51 qY61 rX16 rY16
        go_wp2_with fail
        refine (whole_any _ _).mono ?_
        rintro e w19 ⟨rfl, hb19⟩
        have hB19 := hB18.trans (hb19.mono hB18.size)
        have rX19 := block_below rX18 hb19
        have rY19 := block_below rY18 hb19
        clear hb19 hB18 rX18 rY18
        go_wp2_with fail
        refine (reckon_quo_zero a _).mono ?_
        rintro e w20 ⟨rfl, hb20⟩
        have hB20 := hB19.trans (hb20.mono hB19.size)
        have rX20 := block_below rX19 hb20
        have rY20 := block_below rY19 hb20
        clear hb20 hB19 rX19 rY19
        have zZ20 := hB20.size
        have hB20a := hB20.alloc hB20.size (.cells #[.int .i64 0, .int .i64 0, .float .f64 0, .string ⟨#[]⟩, .slice none 0 0, .slice none 0 0] 27 (0, 0))
        have rX20a := block_alloc rX20 (.cells #[.int .i64 0, .int .i64 0, .float .f64 0, .string ⟨#[]⟩, .slice none 0 0, .slice none 0 0] 27 (0, 0))
        have rY20a := block_alloc rY20 (.cells #[.int .i64 0, .int .i64 0, .float .f64 0, .string ⟨#[]⟩, .slice none 0 0, .slice none 0 0] 27 (0, 0))
        have rZ20a := block_new w20 (.cells #[.int .i64 0, .int .i64 0, .float .f64 0, .string ⟨#[]⟩, .slice none 0 0, .slice none 0 0] 27 (0, 0)) rfl
        have qZ71 := block_cell (i := 1) rZ20a rfl
        go_wp2_with fail
        go_ret
        exact ⟨rfl, hB20a⟩
      · -- over
        obtain ⟨rfl, rfl⟩ := hq
        refine (whole_any _ _).mono ?_
        rintro e w18 ⟨rfl, hb18⟩
        have hB18 := hB16.trans (hb18.mono hB16.size)
        have rX18 := block_below rX16 hb18
        have rY18 := block_below rY16 hb18
        clear hb18 hB16 qY40 fY40 qY41 fY41 qY42 fY42 qY43 fY43 qY44 fY44 qY45 fY45 qX51 qY61 rX16 rY16
        go_wp2_with fail
        refine (whole_any _ _).mono ?_
        rintro e w19 ⟨rfl, hb19⟩
        have hB19 := hB18.trans (hb19.mono hB18.size)
        have rX19 := block_below rX18 hb19
        have rY19 := block_below rY18 hb19
        clear hb19 hB18 rX18 rY18
        go_wp2_with fail
        refine (reckon_quo_over _).mono ?_
        rintro e w20 ⟨rfl, hb20⟩
        have hB20 := hB19.trans (hb20.mono hB19.size)
        have rX20 := block_below rX19 hb20
        have rY20 := block_below rY19 hb20
        clear hb20 hB19 rX19 rY19
        have zZ20 := hB20.size
        have hB20a := hB20.alloc hB20.size (.cells #[.int .i64 0, .int .i64 0, .float .f64 0, .string ⟨#[]⟩, .slice none 0 0, .slice none 0 0] 27 (0, 0))
        have rX20a := block_alloc rX20 (.cells #[.int .i64 0, .int .i64 0, .float .f64 0, .string ⟨#[]⟩, .slice none 0 0, .slice none 0 0] 27 (0, 0))
        have rY20a := block_alloc rY20 (.cells #[.int .i64 0, .int .i64 0, .float .f64 0, .string ⟨#[]⟩, .slice none 0 0, .slice none 0 0] 27 (0, 0))
        have rZ20a := block_new w20 (.cells #[.int .i64 0, .int .i64 0, .float .f64 0, .string ⟨#[]⟩, .slice none 0 0, .slice none 0 0] 27 (0, 0)) rfl
        have qZ71 := block_cell (i := 1) rZ20a rfl
        go_wp2_with fail
        go_ret
        exact ⟨rfl, hB20a⟩
      · -- norm
        have hbm : ((a == -9223372036854775808) = true ∧ (b == -1) = false) ∨ (a == -9223372036854775808) = false := by
          by_cases hm : a = -9223372036854775808
          · exact Or.inl ⟨by simp [hm], by simp; intro h; exact hq ⟨hm, h⟩⟩
          · exact Or.inr (by simp [hm])
        have HQ := Lib.hid (fun W => reckon_quo a b hb0 hq W)
        have HV := Lib.hid (quot_back HA.out HB.out hb0 hq)
        refine (whole_any _ _).mono ?_
        rintro e w18 ⟨rfl, hb18⟩
        have hB18 := hB16.trans (hb18.mono hB16.size)
        have rX18 := block_below rX16 hb18
        have rY18 := block_below rY16 hb18
        clear hb18 hB16 qY40 fY40 qY41 fY41 qY42 fY42 qY43 fY43 qY44 fY44 qY45 fY45 qX51 qY61 rX16 rY16
        go_wp2_with fail
        refine (whole_any _ _).mono ?_
        rintro e w19 ⟨rfl, hb19⟩
        have hB19 := hB18.trans (hb19.mono hB18.size)
        have rX19 := block_below rX18 hb19
        have rY19 := block_below rY18 hb19
        clear hb19 hB18 rX18 rY18
        go_wp2_with fail
        refine (HQ.out _).mono ?_
        rintro e w20 ⟨rfl, hb20⟩
        have hB20 := hB19.trans (hb20.mono hB19.size)
        have rX20 := block_below rX19 hb20
        have rY20 := block_below rY19 hb20
        clear hb20 hB19 rX19 rY19
        have zZ20 := hB20.size
        have hB20a := hB20.alloc hB20.size (.cells #[.int .i64 2, .int .i64 (wrap64 (a.tdiv b)), .float .f64 0, .string ⟨#[]⟩, .slice none 0 0, .slice none 0 0] 27 (0, 0))
        have rX20a := block_alloc rX20 (.cells #[.int .i64 2, .int .i64 (wrap64 (a.tdiv b)), .float .f64 0, .string ⟨#[]⟩, .slice none 0 0, .slice none 0 0] 27 (0, 0))
        have rY20a := block_alloc rY20 (.cells #[.int .i64 2, .int .i64 (wrap64 (a.tdiv b)), .float .f64 0, .string ⟨#[]⟩, .slice none 0 0, .slice none 0 0] 27 (0, 0))
        have rZ20a := block_new w20 (.cells #[.int .i64 2, .int .i64 (wrap64 (a.tdiv b)), .float .f64 0, .string ⟨#[]⟩, .slice none 0 0, .slice none 0 0] 27 (0, 0)) rfl
        have qZ71 := block_cell (i := 1) rZ20a rfl
        rcases hbm with ⟨hm, hb1⟩ | hm
        all_goals
          go_wp2_with fail
          go_quiet (fail)
          go_wp2_with fail
          go_ret
          exact ⟨by rw [show (wrap64 (wrap64 (wrap64 (a.tdiv b) * b) + a.tmod b) == a) = true from back_all HA.out HB.out hb0 hq]; rfl, below_drewN hB20a _⟩
    · clear HE
      go_wp2_with fail
      rcases (by omega : b = 0 ∨ (b ≠ 0 ∧ (a = -9223372036854775808 ∧ b = -1)) ∨ (b ≠ 0 ∧ ¬ (a = -9223372036854775808 ∧ b = -1))) with hb0 | ⟨hb0, hq⟩ | ⟨hb0, hq⟩
      · -- zero
        subst hb0
        refine (whole_any _ _).mono ?_
        rintro e w18 ⟨rfl, hb18⟩
        have hB18 := hB16.trans (hb18.mono hB16.size)
        have rX18 := block_below rX16 hb18
        have rY18 := block_below rY16 hb18
        clear hb18 hB16 qY40 fY40 qY41 fY41 qY42 fY42 qY43 fY43 qY44 fY44 qY45 fY45 qX51 qY61 rX16 rY16
        go_wp2_with fail
        refine (whole_any _ _).mono ?_
        rintro e w19 ⟨rfl, hb19⟩
        have hB19 := hB18.trans (hb19.mono hB18.size)
        have rX19 := block_below rX18 hb19
        have rY19 := block_below rY18 hb19
        clear hb19 hB18 rX18 rY18
        go_wp2_with fail
        refine (reckon_quo_zero a _).mono ?_
        rintro e w20 ⟨rfl, hb20⟩
        have hB20 := hB19.trans (hb20.mono hB19.size)
        have rX20 := block_below rX19 hb20
        have rY20 := block_below rY19 hb20
        clear hb20 hB19 rX19 rY19
        have zZ20 := hB20.size
        have hB20a := hB20.alloc hB20.size (.cells #[.int .i64 0, .int .i64 0, .float .f64 0, .string ⟨#[]⟩, .slice none 0 0, .slice none 0 0] 27 (0, 0))
        have rX20a := block_alloc rX20 (.cells #[.int .i64 0, .int .i64 0, .float .f64 0, .string ⟨#[]⟩, .slice none 0 0, .slice none 0 0] 27 (0, 0))
        have rY20a := block_alloc rY20 (.cells #[.int .i64 0, .int .i64 0, .float .f64 0, .string ⟨#[]⟩, .slice none 0 0, .slice none 0 0] 27 (0, 0))
        have rZ20a := block_new w20 (.cells #[.int .i64 0, .int .i64 0, .float .f64 0, .string ⟨#[]⟩, .slice none 0 0, .slice none 0 0] 27 (0, 0)) rfl
        have qZ71 := block_cell (i := 1) rZ20a rfl
        go_wp2_with fail
        go_ret
        exact ⟨rfl, hB20a⟩
      · -- over
        obtain ⟨rfl, rfl⟩ := hq
        refine (whole_any _ _).mono ?_
        rintro e w18 ⟨rfl, hb18⟩
        have hB18 := hB16.trans (hb18.mono hB16.size)
        have rX18 := block_below rX16 hb18
        have rY18 := block_below rY16 hb18
        clear hb18 hB16 qY40 fY40 qY41 fY41 qY42 fY42 qY43 fY43 qY44 fY44 qY45 fY45 qX51 qY61 rX16 rY16
        go_wp2_with fail
        refine (whole_any _ _).mono ?_
        rintro e w19 ⟨rfl, hb19⟩
        have hB19 := hB18.trans (hb19.mono hB18.size)
        have rX19 := block_below rX18 hb19
        have rY19 := block_below rY18 hb19
        clear hb19 hB18 rX18 rY18
        go_wp2_with fail
        refine (reckon_quo_over _).mono ?_
        rintro e w20 ⟨rfl, hb20⟩
        have hB20 := hB19.trans (hb20.mono hB19.size)
        have rX20 := block_below rX19 hb20
        have rY20 := block_below rY19 hb20
        clear hb20 hB19 rX19 rY19
        have zZ20 := hB20.size
        have hB20a := hB20.alloc hB20.size (.cells #[.int .i64 0, .int .i64 0, .float .f64 0, .string ⟨#[]⟩, .slice none 0 0, .slice none 0 0] 27 (0, 0))
        have rX20a := block_alloc rX20 (.cells #[.int .i64 0, .int .i64 0, .float .f64 0, .string ⟨#[]⟩, .slice none 0 0, .slice none 0 0] 27 (0, 0))
        have rY20a := block_alloc rY20 (.cells #[.int .i64 0, .int .i64 0, .float .f64 0, .string ⟨#[]⟩, .slice none 0 0, .slice none 0 0] 27 (0, 0))
        have rZ20a := block_new w20 (.cells #[.int .i64 0, .int .i64 0, .float .f64 0, .string ⟨#[]⟩, .slice none 0 0, .slice none 0 0] 27 (0, 0)) rfl
        have qZ71 := block_cell (i := 1) rZ20a rfl
        go_wp2_with fail
        go_ret
        exact ⟨rfl, hB20a⟩
      · -- norm
        have hbm : ((a == -9223372036854775808) = true ∧ (b == -1) = false) ∨ (a == -9223372036854775808) = false := by
          by_cases hm : a = -9223372036854775808
          · exact Or.inl ⟨by simp [hm], by simp; intro h; exact hq ⟨hm, h⟩⟩
          · exact Or.inr (by simp [hm])
        have HQ := Lib.hid (fun W => reckon_quo a b hb0 hq W)
        have HV := Lib.hid (quot_back HA.out HB.out hb0 hq)
        refine (whole_any _ _).mono ?_
        rintro e w18 ⟨rfl, hb18⟩
        have hB18 := hB16.trans (hb18.mono hB16.size)
        have rX18 := block_below rX16 hb18
        have rY18 := block_below rY16 hb18
        clear hb18 hB16 qY40 fY40 qY41 fY41 qY42 fY42 qY43 fY43 qY44 fY44 qY45 fY45 qX51 qY61 rX16 rY16
        go_wp2_with fail
        refine (whole_any _ _).mono ?_
        rintro e w19 ⟨rfl, hb19⟩
        have hB19 := hB18.trans (hb19.mono hB18.size)
        have rX19 := block_below rX18 hb19
        have rY19 := block_below rY18 hb19
        clear hb19 hB18 rX18 rY18
        go_wp2_with fail
        refine (HQ.out _).mono ?_
        rintro e w20 ⟨rfl, hb20⟩
        have hB20 := hB19.trans (hb20.mono hB19.size)
        have rX20 := block_below rX19 hb20
        have rY20 := block_below rY19 hb20
        clear hb20 hB19 rX19 rY19
        have zZ20 := hB20.size
        have hB20a := hB20.alloc hB20.size (.cells #[.int .i64 2, .int .i64 (wrap64 (a.tdiv b)), .float .f64 0, .string ⟨#[]⟩, .slice none 0 0, .slice none 0 0] 27 (0, 0))
        have rX20a := block_alloc rX20 (.cells #[.int .i64 2, .int .i64 (wrap64 (a.tdiv b)), .float .f64 0, .string ⟨#[]⟩, .slice none 0 0, .slice none 0 0] 27 (0, 0))
        have rY20a := block_alloc rY20 (.cells #[.int .i64 2, .int .i64 (wrap64 (a.tdiv b)), .float .f64 0, .string ⟨#[]⟩, .slice none 0 0, .slice none 0 0] 27 (0, 0))
        have rZ20a := block_new w20 (.cells #[.int .i64 2, .int .i64 (wrap64 (a.tdiv b)), .float .f64 0, .string ⟨#[]⟩, .slice none 0 0, .slice none 0 0] 27 (0, 0)) rfl
        have qZ71 := block_cell (i := 1) rZ20a rfl
        rcases hbm with ⟨hm, hb1⟩ | hm
        all_goals
          go_wp2_with fail
          go_quiet (fail)
          go_wp2_with fail
          go_ret
          exact ⟨by rw [show (wrap64 (wrap64 (wrap64 (a.tdiv b) * b) + a.tmod b) == a) = true from back_all HA.out HB.out hb0 hq]; rfl, below_drewN hB20a _⟩
set_option maxHeartbeats 3000000 in
set_option maxRecDepth 100000 in
theorem ints_over {w : World} (hG : PG w) (a b : Int) (ha : I64 a) (hb : I64 b) (hp : plusB a b = false) : Calls Tryz.prog 3 #[.int .i64 a, .int .i64 b] w fun e w' => e = .returned (.bool true) ∧ Below w.heap.size w w' := by
  have HA := Lib.hid ha
  have HB := Lib.hid hb
  have HP1 := Lib.hid (reckon_plus_over a b hp)
  have HP2 := Lib.hid (reckon_plus_over b a ((plus_comm b a hb ha).trans hp))
  clear hp ha hb
  have hB0 := Below.refl w.heap.size w
  go_enter Tryz.func3, Tryz.ntmps3
  go_wp2_with fail
  refine (shown_any hG).mono ?_
  rintro e w1 ⟨rfl, hb1⟩
  have hB1 := hB0.trans (hb1.mono hB0.size)
  clear hb1 hB0
  go_wp2_with fail
  refine (whole_any a _).mono ?_
  rintro e w2 ⟨rfl, hb2⟩
  have hB2 := hB1.trans (hb2.mono hB1.size)
  clear hb2 hB1
  go_wp2_with fail
  refine (whole_any b _).mono ?_
  rintro e w3 ⟨rfl, hb3⟩
  have hB3 := hB2.trans (hb3.mono hB2.size)
  clear hb3 hB2
  go_wp2_with fail
  refine (HP1.out _).mono ?_
  rintro e w4 ⟨rfl, hb4⟩
  have hB4 := hB3.trans (hb4.mono hB3.size)
  clear hb4 hB3
  have zX4 := hB4.size
  have hB4a := hB4.alloc hB4.size (.cells #[.int .i64 0, .int .i64 0, .float .f64 0, .string ⟨#[]⟩, .slice none 0 0, .slice none 0 0] 27 (0, 0))
  have rX4a := block_new w4 (.cells #[.int .i64 0, .int .i64 0, .float .f64 0, .string ⟨#[]⟩, .slice none 0 0, .slice none 0 0] 27 (0, 0)) rfl
  go_wp2_with fail
  refine (whole_any b _).mono ?_
  rintro e w5 ⟨rfl, hb5⟩
  have hB5 := hB4a.trans (hb5.mono hB4a.size)
  have rX5 := block_below rX4a hb5
  clear hb5 hB4a rX4a
  go_wp2_with fail
  refine (whole_any a _).mono ?_
  rintro e w6 ⟨rfl, hb6⟩
  have hB6 := hB5.trans (hb6.mono hB5.size)
  have rX6 := block_below rX5 hb6
  clear hb6 hB5 rX5
  go_wp2_with fail
  refine (HP2.out _).mono ?_
  rintro e w7 ⟨rfl, hb7⟩
  have hB7 := hB6.trans (hb7.mono hB6.size)
  have rX7 := block_below rX6 hb7
  clear hb7 hB6 rX6
  have zY7 := hB7.size
  have hB7a := hB7.alloc hB7.size (.cells #[.int .i64 0, .int .i64 0, .float .f64 0, .string ⟨#[]⟩, .slice none 0 0, .slice none 0 0] 27 (0, 0))
  have rX7a := block_alloc rX7 (.cells #[.int .i64 0, .int .i64 0, .float .f64 0, .string ⟨#[]⟩, .slice none 0 0, .slice none 0 0] 27 (0, 0))
  have rY7a := block_new w7 (.cells #[.int .i64 0, .int .i64 0, .float .f64 0, .string ⟨#[]⟩, .slice none 0 0, .slice none 0 0] 27 (0, 0)) rfl
  have qX11 := block_cell (i := 1) rX7a rfl
  have qY21 := block_cell (i := 1) rY7a rfl
  go_wp2_with fail
  have nXYY : w7.heap.size ≠ w4.heap.size := by have := block_lt rX7; omega
  have nXYX : w4.heap.size ≠ w7.heap.size := Ne.symm nXYY
  clear rX7 hB7
  have HT1 := Lib.hid (fun W => reckon_times_u a b HA.out HB.out W)
  have HT2 := Lib.hid (fun W => (reckon_times_u b a HB.out HA.out W).mono (R' := fun e w' => e = .returned (.tuple #[.agg #[.int .i64 (tK a b), .int .i64 (tN a b), .float .f64 0, .string ⟨#[]⟩, .slice none 0 0, .slice none 0 0], .int .i64 (tE a b)]) ∧ Below W.heap.size W w') fun e w' h => ⟨h.1.trans (by rw [(tE_comm a b).1, (tE_comm a b).2.1, (tE_comm a b).2.2]), h.2⟩)
  have HE : Hid (tE a b = 0 ∨ tE a b = 16) := Lib.hid (by unfold tE; split; exact Or.inl rfl; exact Or.inr rfl)
  generalize tK a b = tk at HT1 HT2
  generalize tN a b = tn at HT1 HT2
  generalize tE a b = te at HT1 HT2 HE
  refine (whole_any _ _).mono ?_
  rintro e w8 ⟨rfl, hb8⟩
  have hB8 := hB7a.trans (hb8.mono hB7a.size)
  have rX8 := block_below rX7a hb8
  have rY8 := block_below rY7a hb8
  clear hb8 hB7a qX11 qY21 rX7a rY7a
  go_wp2_with fail
  refine (whole_any _ _).mono ?_
  rintro e w9 ⟨rfl, hb9⟩
  have hB9 := hB8.trans (hb9.mono hB8.size)
  have rX9 := block_below rX8 hb9
  have rY9 := block_below rY8 hb9
  clear hb9 hB8 rX8 rY8
  go_wp2_with fail
  refine (HT1.out _).mono ?_
  rintro e w10 ⟨rfl, hb10⟩
  have hB10 := hB9.trans (hb10.mono hB9.size)
  have rX10 := block_below rX9 hb10
  have rY10 := block_below rY9 hb10
  clear hb10 hB9 rX9 rY9
  have qX30 := block_cell (i := 0) rX10 rfl
  have fX30 := block_free (i := 0) rX10
  have qX31 := block_cell (i := 1) rX10 rfl
  have fX31 := block_free (i := 1) rX10
  have qX32 := block_cell (i := 2) rX10 rfl
  have fX32 := block_free (i := 2) rX10
  have qX33 := block_cell (i := 3) rX10 rfl
  have fX33 := block_free (i := 3) rX10
  have qX34 := block_cell (i := 4) rX10 rfl
  have fX34 := block_free (i := 4) rX10
  have qX35 := block_cell (i := 5) rX10 rfl
  have fX35 := block_free (i := 5) rX10
  go_upto_region 11 with fail
  have rX11 := set6' rX10 (.int .i64 tk) (.int .i64 tn) (.float .f64 0) (.string ⟨#[]⟩) (.slice none 0 0) (.slice none 0 0)
  have rY11 := keep6' rY10 (g := w4.heap.size) nXYY (.int .i64 tk) (.int .i64 tn) (.float .f64 0) (.string ⟨#[]⟩) (.slice none 0 0) (.slice none 0 0)
  have hB11 := below6' hB10 zX4 (.int .i64 tk) (.int .i64 tn) (.float .f64 0) (.string ⟨#[]⟩) (.slice none 0 0) (.slice none 0 0)
  refine with_world fun w12 hw12 => ?_
  rw [← hw12] at hB11 rX11 rY11
  clear hw12
  go_wp2_with fail
  refine (whole_any _ _).mono ?_
  rintro e w13 ⟨rfl, hb13⟩
  have hB13 := hB11.trans (hb13.mono hB11.size)
  have rX13 := block_below rX11 hb13
  have rY13 := block_below rY11 hb13
  clear hb13 hB11 qX30 fX30 qX31 fX31 qX32 fX32 qX33 fX33 qX34 fX34 qX35 fX35 rX11 rY11
  go_wp2_with fail
  refine (whole_any _ _).mono ?_
  rintro e w14 ⟨rfl, hb14⟩
  have hB14 := hB13.trans (hb14.mono hB13.size)
  have rX14 := block_below rX13 hb14
  have rY14 := block_below rY13 hb14
  clear hb14 hB13 rX13 rY13
  go_wp2_with fail
  refine (HT2.out _).mono ?_
  rintro e w15 ⟨rfl, hb15⟩
  have hB15 := hB14.trans (hb15.mono hB14.size)
  have rX15 := block_below rX14 hb15
  have rY15 := block_below rY14 hb15
  clear hb15 hB14 rX14 rY14
  have qY40 := block_cell (i := 0) rY15 rfl
  have fY40 := block_free (i := 0) rY15
  have qY41 := block_cell (i := 1) rY15 rfl
  have fY41 := block_free (i := 1) rY15
  have qY42 := block_cell (i := 2) rY15 rfl
  have fY42 := block_free (i := 2) rY15
  have qY43 := block_cell (i := 3) rY15 rfl
  have fY43 := block_free (i := 3) rY15
  have qY44 := block_cell (i := 4) rY15 rfl
  have fY44 := block_free (i := 4) rY15
  have qY45 := block_cell (i := 5) rY15 rfl
  have fY45 := block_free (i := 5) rY15
  go_upto_region 12 with fail
  have rX16 := keep6' rX15 (g := w7.heap.size) nXYX (.int .i64 tk) (.int .i64 tn) (.float .f64 0) (.string ⟨#[]⟩) (.slice none 0 0) (.slice none 0 0)
  have rY16 := set6' rY15 (.int .i64 tk) (.int .i64 tn) (.float .f64 0) (.string ⟨#[]⟩) (.slice none 0 0) (.slice none 0 0)
  have hB16 := below6' hB15 zY7 (.int .i64 tk) (.int .i64 tn) (.float .f64 0) (.string ⟨#[]⟩) (.slice none 0 0) (.slice none 0 0)
  refine with_world fun w17 hw17 => ?_
  rw [← hw17] at hB16 rX16 rY16
  clear hw17
  have qX51 := block_cell (i := 1) rX16 rfl
  have qY61 := block_cell (i := 1) rY16 rfl
  rcases HE.out with rfl | rfl
  · clear HE
    go_wp2_with fail
    rcases (by omega : b = 0 ∨ (b ≠ 0 ∧ (a = -9223372036854775808 ∧ b = -1)) ∨ (b ≠ 0 ∧ ¬ (a = -9223372036854775808 ∧ b = -1))) with hb0 | ⟨hb0, hq⟩ | ⟨hb0, hq⟩
    · -- zero
      subst hb0
      refine (whole_any _ _).mono ?_
      rintro e w18 ⟨rfl, hb18⟩
      have hB18 := hB16.trans (hb18.mono hB16.size)
      have rX18 := block_below rX16 hb18
      have rY18 := block_below rY16 hb18
      clear hb18 hB16 qY40 fY40 qY41 fY41 qY42 fY42 qY43 fY43 qY44 fY44 qY45 fY45 qX51 qY61 rX16 rY16
      go_wp2_with fail
      refine (whole_any _ _).mono ?_
      rintro e w19 ⟨rfl, hb19⟩
      have hB19 := hB18.trans (hb19.mono hB18.size)
      have rX19 := block_below rX18 hb19
      have rY19 := block_below rY18 hb19
      clear hb19 hB18 rX18 rY18
      go_wp2_with fail
      refine (reckon_quo_zero a _).mono ?_
      rintro e w20 ⟨rfl, hb20⟩
      have hB20 := hB19.trans (hb20.mono hB19.size)
      have rX20 := block_below rX19 hb20
      have rY20 := block_below rY19 hb20
      clear hb20 hB19 rX19 rY19
      have zZ20 := hB20.size
      have hB20a := hB20.alloc hB20.size (.cells #[.int .i64 0, .int .i64 0, .float .f64 0, .string ⟨#[]⟩, .slice none 0 0, .slice none 0 0] 27 (0, 0))
      have rX20a := block_alloc rX20 (.cells #[.int .i64 0, .int .i64 0, .float .f64 0, .string ⟨#[]⟩, .slice none 0 0, .slice none 0 0] 27 (0, 0))
      have rY20a := block_alloc rY20 (.cells #[.int .i64 0, .int .i64 0, .float .f64 0, .string ⟨#[]⟩, .slice none 0 0, .slice none 0 0] 27 (0, 0))
      have rZ20a := block_new w20 (.cells #[.int .i64 0, .int .i64 0, .float .f64 0, .string ⟨#[]⟩, .slice none 0 0, .slice none 0 0] 27 (0, 0)) rfl
      have qZ71 := block_cell (i := 1) rZ20a rfl
      go_wp2_with fail
      go_ret
      exact ⟨rfl, hB20a⟩
    · -- over
      obtain ⟨rfl, rfl⟩ := hq
      refine (whole_any _ _).mono ?_
      rintro e w18 ⟨rfl, hb18⟩
      have hB18 := hB16.trans (hb18.mono hB16.size)
      have rX18 := block_below rX16 hb18
      have rY18 := block_below rY16 hb18
      clear hb18 hB16 qY40 fY40 qY41 fY41 qY42 fY42 qY43 fY43 qY44 fY44 qY45 fY45 qX51 qY61 rX16 rY16
      go_wp2_with fail
      refine (whole_any _ _).mono ?_
      rintro e w19 ⟨rfl, hb19⟩
      have hB19 := hB18.trans (hb19.mono hB18.size)
      have rX19 := block_below rX18 hb19
      have rY19 := block_below rY18 hb19
      clear hb19 hB18 rX18 rY18
      go_wp2_with fail
      refine (reckon_quo_over _).mono ?_
      rintro e w20 ⟨rfl, hb20⟩
      have hB20 := hB19.trans (hb20.mono hB19.size)
      have rX20 := block_below rX19 hb20
      have rY20 := block_below rY19 hb20
      clear hb20 hB19 rX19 rY19
      have zZ20 := hB20.size
      have hB20a := hB20.alloc hB20.size (.cells #[.int .i64 0, .int .i64 0, .float .f64 0, .string ⟨#[]⟩, .slice none 0 0, .slice none 0 0] 27 (0, 0))
      have rX20a := block_alloc rX20 (.cells #[.int .i64 0, .int .i64 0, .float .f64 0, .string ⟨#[]⟩, .slice none 0 0, .slice none 0 0] 27 (0, 0))
      have rY20a := block_alloc rY20 (.cells #[.int .i64 0, .int .i64 0, .float .f64 0, .string ⟨#[]⟩, .slice none 0 0, .slice none 0 0] 27 (0, 0))
      have rZ20a := block_new w20 (.cells #[.int .i64 0, .int .i64 0, .float .f64 0, .string ⟨#[]⟩, .slice none 0 0, .slice none 0 0] 27 (0, 0)) rfl
      have qZ71 := block_cell (i := 1) rZ20a rfl
      go_wp2_with fail
      go_ret
      exact ⟨rfl, hB20a⟩
    · -- norm
      have hbm : ((a == -9223372036854775808) = true ∧ (b == -1) = false) ∨ (a == -9223372036854775808) = false := by
        by_cases hm : a = -9223372036854775808
        · exact Or.inl ⟨by simp [hm], by simp; intro h; exact hq ⟨hm, h⟩⟩
        · exact Or.inr (by simp [hm])
      have HQ := Lib.hid (fun W => reckon_quo a b hb0 hq W)
      have HV := Lib.hid (quot_back HA.out HB.out hb0 hq)
      refine (whole_any _ _).mono ?_
      rintro e w18 ⟨rfl, hb18⟩
      have hB18 := hB16.trans (hb18.mono hB16.size)
      have rX18 := block_below rX16 hb18
      have rY18 := block_below rY16 hb18
      clear hb18 hB16 qY40 fY40 qY41 fY41 qY42 fY42 qY43 fY43 qY44 fY44 qY45 fY45 qX51 qY61 rX16 rY16
      go_wp2_with fail
      refine (whole_any _ _).mono ?_
      rintro e w19 ⟨rfl, hb19⟩
      have hB19 := hB18.trans (hb19.mono hB18.size)
      have rX19 := block_below rX18 hb19
      have rY19 := block_below rY18 hb19
      clear hb19 hB18 rX18 rY18
      go_wp2_with fail
      refine (HQ.out _).mono ?_
      rintro e w20 ⟨rfl, hb20⟩
      have hB20 := hB19.trans (hb20.mono hB19.size)
      have rX20 := block_below rX19 hb20
      have rY20 := block_below rY19 hb20
      clear hb20 hB19 rX19 rY19
      have zZ20 := hB20.size
      have hB20a := hB20.alloc hB20.size (.cells #[.int .i64 2, .int .i64 (wrap64 (a.tdiv b)), .float .f64 0, .string ⟨#[]⟩, .slice none 0 0, .slice none 0 0] 27 (0, 0))
      have rX20a := block_alloc rX20 (.cells #[.int .i64 2, .int .i64 (wrap64 (a.tdiv b)), .float .f64 0, .string ⟨#[]⟩, .slice none 0 0, .slice none 0 0] 27 (0, 0))
      have rY20a := block_alloc rY20 (.cells #[.int .i64 2, .int .i64 (wrap64 (a.tdiv b)), .float .f64 0, .string ⟨#[]⟩, .slice none 0 0, .slice none 0 0] 27 (0, 0))
      have rZ20a := block_new w20 (.cells #[.int .i64 2, .int .i64 (wrap64 (a.tdiv b)), .float .f64 0, .string ⟨#[]⟩, .slice none 0 0, .slice none 0 0] 27 (0, 0)) rfl
      have qZ71 := block_cell (i := 1) rZ20a rfl
      rcases hbm with ⟨hm, hb1⟩ | hm
      all_goals
        go_wp2_with fail
        go_quiet (fail)
        go_wp2_with fail
        go_ret
        exact ⟨by rw [show (wrap64 (wrap64 (wrap64 (a.tdiv b) * b) + a.tmod b) == a) = true from back_all HA.out HB.out hb0 hq]; rfl, below_drewN hB20a _⟩
  · clear HE
    go_wp2_with fail
    rcases (by omega : b = 0 ∨ (b ≠ 0 ∧ (a = -9223372036854775808 ∧ b = -1)) ∨ (b ≠ 0 ∧ ¬ (a = -9223372036854775808 ∧ b = -1))) with hb0 | ⟨hb0, hq⟩ | ⟨hb0, hq⟩
    · -- zero
      subst hb0
      refine (whole_any _ _).mono ?_
      rintro e w18 ⟨rfl, hb18⟩
      have hB18 := hB16.trans (hb18.mono hB16.size)
      have rX18 := block_below rX16 hb18
      have rY18 := block_below rY16 hb18
      clear hb18 hB16 qY40 fY40 qY41 fY41 qY42 fY42 qY43 fY43 qY44 fY44 qY45 fY45 qX51 qY61 rX16 rY16
      go_wp2_with fail
      refine (whole_any _ _).mono ?_
      rintro e w19 ⟨rfl, hb19⟩
      have hB19 := hB18.trans (hb19.mono hB18.size)
      have rX19 := block_below rX18 hb19
      have rY19 := block_below rY18 hb19
      clear hb19 hB18 rX18 rY18
      go_wp2_with fail
      refine (reckon_quo_zero a _).mono ?_
      rintro e w20 ⟨rfl, hb20⟩
      have hB20 := hB19.trans (hb20.mono hB19.size)
      have rX20 := block_below rX19 hb20
      have rY20 := block_below rY19 hb20
      clear hb20 hB19 rX19 rY19
      have zZ20 := hB20.size
      have hB20a := hB20.alloc hB20.size (.cells #[.int .i64 0, .int .i64 0, .float .f64 0, .string ⟨#[]⟩, .slice none 0 0, .slice none 0 0] 27 (0, 0))
      have rX20a := block_alloc rX20 (.cells #[.int .i64 0, .int .i64 0, .float .f64 0, .string ⟨#[]⟩, .slice none 0 0, .slice none 0 0] 27 (0, 0))
      have rY20a := block_alloc rY20 (.cells #[.int .i64 0, .int .i64 0, .float .f64 0, .string ⟨#[]⟩, .slice none 0 0, .slice none 0 0] 27 (0, 0))
      have rZ20a := block_new w20 (.cells #[.int .i64 0, .int .i64 0, .float .f64 0, .string ⟨#[]⟩, .slice none 0 0, .slice none 0 0] 27 (0, 0)) rfl
      have qZ71 := block_cell (i := 1) rZ20a rfl
      go_wp2_with fail
      go_ret
      exact ⟨rfl, hB20a⟩
    · -- over
      obtain ⟨rfl, rfl⟩ := hq
      refine (whole_any _ _).mono ?_
      rintro e w18 ⟨rfl, hb18⟩
      have hB18 := hB16.trans (hb18.mono hB16.size)
      have rX18 := block_below rX16 hb18
      have rY18 := block_below rY16 hb18
      clear hb18 hB16 qY40 fY40 qY41 fY41 qY42 fY42 qY43 fY43 qY44 fY44 qY45 fY45 qX51 qY61 rX16 rY16
      go_wp2_with fail
      refine (whole_any _ _).mono ?_
      rintro e w19 ⟨rfl, hb19⟩
      have hB19 := hB18.trans (hb19.mono hB18.size)
      have rX19 := block_below rX18 hb19
      have rY19 := block_below rY18 hb19
      clear hb19 hB18 rX18 rY18
      go_wp2_with fail
      refine (reckon_quo_over _).mono ?_
      rintro e w20 ⟨rfl, hb20⟩
      have hB20 := hB19.trans (hb20.mono hB19.size)
      have rX20 := block_below rX19 hb20
      have rY20 := block_below rY19 hb20
      clear hb20 hB19 rX19 rY19
      have zZ20 := hB20.size
      have hB20a := hB20.alloc hB20.size (.cells #[.int .i64 0, .int .i64 0, .float .f64 0, .string ⟨#[]⟩, .slice none 0 0, .slice none 0 0] 27 (0, 0))
      have rX20a := block_alloc rX20 (.cells #[.int .i64 0, .int .i64 0, .float .f64 0, .string ⟨#[]⟩, .slice none 0 0, .slice none 0 0] 27 (0, 0))
      have rY20a := block_alloc rY20 (.cells #[.int .i64 0, .int .i64 0, .float .f64 0, .string ⟨#[]⟩, .slice none 0 0, .slice none 0 0] 27 (0, 0))
      have rZ20a := block_new w20 (.cells #[.int .i64 0, .int .i64 0, .float .f64 0, .string ⟨#[]⟩, .slice none 0 0, .slice none 0 0] 27 (0, 0)) rfl
      have qZ71 := block_cell (i := 1) rZ20a rfl
      go_wp2_with fail
      go_ret
      exact ⟨rfl, hB20a⟩
    · -- norm
      have hbm : ((a == -9223372036854775808) = true ∧ (b == -1) = false) ∨ (a == -9223372036854775808) = false := by
        by_cases hm : a = -9223372036854775808
        · exact Or.inl ⟨by simp [hm], by simp; intro h; exact hq ⟨hm, h⟩⟩
        · exact Or.inr (by simp [hm])
      have HQ := Lib.hid (fun W => reckon_quo a b hb0 hq W)
      have HV := Lib.hid (quot_back HA.out HB.out hb0 hq)
      refine (whole_any _ _).mono ?_
      rintro e w18 ⟨rfl, hb18⟩
      have hB18 := hB16.trans (hb18.mono hB16.size)
      have rX18 := block_below rX16 hb18
      have rY18 := block_below rY16 hb18
      clear hb18 hB16 qY40 fY40 qY41 fY41 qY42 fY42 qY43 fY43 qY44 fY44 qY45 fY45 qX51 qY61 rX16 rY16
      go_wp2_with fail
      refine (whole_any _ _).mono ?_
      rintro e w19 ⟨rfl, hb19⟩
      have hB19 := hB18.trans (hb19.mono hB18.size)
      have rX19 := block_below rX18 hb19
      have rY19 := block_below rY18 hb19
      clear hb19 hB18 rX18 rY18
      go_wp2_with fail
      refine (HQ.out _).mono ?_
      rintro e w20 ⟨rfl, hb20⟩
      have hB20 := hB19.trans (hb20.mono hB19.size)
      have rX20 := block_below rX19 hb20
      have rY20 := block_below rY19 hb20
      clear hb20 hB19 rX19 rY19
      have zZ20 := hB20.size
      have hB20a := hB20.alloc hB20.size (.cells #[.int .i64 2, .int .i64 (wrap64 (a.tdiv b)), .float .f64 0, .string ⟨#[]⟩, .slice none 0 0, .slice none 0 0] 27 (0, 0))
      have rX20a := block_alloc rX20 (.cells #[.int .i64 2, .int .i64 (wrap64 (a.tdiv b)), .float .f64 0, .string ⟨#[]⟩, .slice none 0 0, .slice none 0 0] 27 (0, 0))
      have rY20a := block_alloc rY20 (.cells #[.int .i64 2, .int .i64 (wrap64 (a.tdiv b)), .float .f64 0, .string ⟨#[]⟩, .slice none 0 0, .slice none 0 0] 27 (0, 0))
      have rZ20a := block_new w20 (.cells #[.int .i64 2, .int .i64 (wrap64 (a.tdiv b)), .float .f64 0, .string ⟨#[]⟩, .slice none 0 0, .slice none 0 0] 27 (0, 0)) rfl
      have qZ71 := block_cell (i := 1) rZ20a rfl
      rcases hbm with ⟨hm, hb1⟩ | hm
      all_goals
        go_wp2_with fail
        go_quiet (fail)
        go_wp2_with fail
        go_ret
        exact ⟨by rw [show (wrap64 (wrap64 (wrap64 (a.tdiv b) * b) + a.tmod b) == a) = true from back_all HA.out HB.out hb0 hq]; rfl, below_drewN hB20a _⟩
theorem ints_law {w : World} (hG : PG w) (a b : Int) (ha : I64 a) (hb : I64 b) : Calls Tryz.prog 3 #[.int .i64 a, .int .i64 b] w fun e w' => e = .returned (.bool true) ∧ Below w.heap.size w w' := by
  cases h : plusB a b with
  | true => exact ints_fits hG a b ha hb h
  | false => exact ints_over hG a b ha hb h
end Go.Proofs.YtdpnknlpkjablaaGreatDoor
