/- ValueOrders: the walk. -/
import Derived.Test.YtdpnknlpkjablaaGreatDoorShownV
import Derived.Test.YtdpnknlpkjablaaGreatDoorOrdP
import Derived.Deep.DeepCutAuto
import Derived.LoopN
namespace Go.Proofs.YtdpnknlpkjablaaGreatDoor
open Go.RowKit Go.Shelf
attribute [local go_sem] store_flt run_bits64 run_frombits64

theorem with_world {P : Program} {c : Code} {Q : Exit → Act → World → Prop} {a : Act} {w : World} (h : ∀ w0 : World, w0 = w → c.wp P Q a w0) : c.wp P Q a w := h w rfl
theorem keep6 {W : World} {g g' : Nat} {o : Obj} (h : W.heap[g']? = some o) (hne : g' ≠ g) (i0 i1 i2 i3 i4 i5 : Nat) (v0 v1 v2 v3 v4 v5 : Value) :
    ((((((W.setCell ⟨g, i0, none⟩ v0).setCell ⟨g, i1, none⟩ v1).setCell ⟨g, i2, none⟩ v2).setCell ⟨g, i3, none⟩ v3).setCell ⟨g, i4, none⟩ v4).setCell ⟨g, i5, none⟩ v5).heap[g']? = some o :=
  block_setCell (block_setCell (block_setCell (block_setCell (block_setCell (block_setCell h hne _) hne _) hne _) hne _) hne _) hne _
theorem below6 {w W : World} {B g : Nat} (h : Below B w W) (hg : B ≤ g) (i0 i1 i2 i3 i4 i5 : Nat) (v0 v1 v2 v3 v4 v5 : Value) :
    Below B w ((((((W.setCell ⟨g, i0, none⟩ v0).setCell ⟨g, i1, none⟩ v1).setCell ⟨g, i2, none⟩ v2).setCell ⟨g, i3, none⟩ v3).setCell ⟨g, i4, none⟩ v4).setCell ⟨g, i5, none⟩ v5) :=
  (((((h.setCell hg _).setCell hg _).setCell hg _).setCell hg _).setCell hg _).setCell hg _
theorem set6 {W : World} {g : Nat} {T : TypeId} {c : Array Value} (h : W.heap[g]? = some (.cells c T (0, 0))) (i0 i1 i2 i3 i4 i5 : Nat) (v0 v1 v2 v3 v4 v5 : Value) :
    ((((((W.setCell ⟨g, i0, none⟩ v0).setCell ⟨g, i1, none⟩ v1).setCell ⟨g, i2, none⟩ v2).setCell ⟨g, i3, none⟩ v3).setCell ⟨g, i4, none⟩ v4).setCell ⟨g, i5, none⟩ v5).heap[g]? =
      some (.cells ((((((c.setIfInBounds i0 v0).setIfInBounds i1 v1).setIfInBounds i2 v2).setIfInBounds i3 v3).setIfInBounds i4 v4).setIfInBounds i5 v5) T (0, 0)) :=
  block_set (block_set (block_set (block_set (block_set (block_set h _) _) _) _) _) _
/-- The float of a raw int. -/
def rawF (n : Int) : Nat := (IntKind.u64.wrap n).toNat
def Entry (bit : Int) (x : Int) (k n : Int) (b : Nat) : Prop := (bit = 1 ∧ k = 3 ∧ n = 0 ∧ b = rawF x) ∨ (bit = 0 ∧ k = 2 ∧ n = x ∧ b = 0)
theorem entry_of (bit x : Int) (h : bit = 0 ∨ bit = 1) : ∃ (k n : Int) (b : Nat), Entry bit x k n b := by
  rcases h with h | h
  · exact ⟨2, x, 0, Or.inr ⟨h, rfl, rfl, rfl⟩⟩
  · exact ⟨3, 0, rawF x, Or.inl ⟨h, rfl, rfl, rfl⟩⟩
theorem Entry.num {bit x k n : Int} {b : Nat} (h : Entry bit x k n b) : Num k n b := by
  rcases h with ⟨_, h1, h2, _⟩ | ⟨_, h1, _, h3⟩
  · exact Or.inr ⟨h1, h2⟩
  · exact Or.inl ⟨h1, h3⟩
def OAt (w : World) (L : Nat) (a b c : Int) (C : Array Value) (wr : World) : Prop :=
  wr.heap[L]? = some (.cells C 39 (0, 0)) ∧ wr.heap[L + 1]? = some (.cells #[.int .i64 a, .int .i64 b, .int .i64 c] 40 (0, 0)) ∧ Below w.heap.size w wr
def ORel (w : World) (L : Nat) (a b c k0 n0 : Int) (b0 : Nat) (k1 n1 : Int) (b1 : Nat) (k2 n2 : Int) (b2 : Nat) (i : Value) (wr : World) : Prop :=
  (i = .int .i64 0 ∧ OAt w L a b c #[.int .i64 0, .int .i64 0, .float .f64 0, .string ⟨#[]⟩, .slice none 0 0, .slice none 0 0, .int .i64 0, .int .i64 0, .float .f64 0, .string ⟨#[]⟩, .slice none 0 0, .slice none 0 0, .int .i64 0, .int .i64 0, .float .f64 0, .string ⟨#[]⟩, .slice none 0 0, .slice none 0 0] wr) ∨
  (i = .int .i64 1 ∧ OAt w L a b c #[.int .i64 k0, .int .i64 n0, .float .f64 b0, .string ⟨#[]⟩, .slice none 0 0, .slice none 0 0, .int .i64 0, .int .i64 0, .float .f64 0, .string ⟨#[]⟩, .slice none 0 0, .slice none 0 0, .int .i64 0, .int .i64 0, .float .f64 0, .string ⟨#[]⟩, .slice none 0 0, .slice none 0 0] wr) ∨
  (i = .int .i64 2 ∧ OAt w L a b c #[.int .i64 k0, .int .i64 n0, .float .f64 b0, .string ⟨#[]⟩, .slice none 0 0, .slice none 0 0, .int .i64 k1, .int .i64 n1, .float .f64 b1, .string ⟨#[]⟩, .slice none 0 0, .slice none 0 0, .int .i64 0, .int .i64 0, .float .f64 0, .string ⟨#[]⟩, .slice none 0 0, .slice none 0 0] wr) ∨
  (i = .int .i64 3 ∧ OAt w L a b c #[.int .i64 k0, .int .i64 n0, .float .f64 b0, .string ⟨#[]⟩, .slice none 0 0, .slice none 0 0, .int .i64 k1, .int .i64 n1, .float .f64 b1, .string ⟨#[]⟩, .slice none 0 0, .slice none 0 0, .int .i64 k2, .int .i64 n2, .float .f64 b2, .string ⟨#[]⟩, .slice none 0 0, .slice none 0 0] wr)
set_option maxHeartbeats 4000000 in
set_option maxRecDepth 100000 in
theorem orders_law {w : World} (hG : PG w) (kinds a b c : Int) : Calls Tryz.prog 6 #[.int .i64 kinds, .int .i64 a, .int .i64 b, .int .i64 c] w fun e w' => e = .returned (.bool true) ∧ Below w.heap.size w w' := by
  obtain ⟨k0, n0, b0, E0⟩ := entry_of (kinds % 2) a (by omega)
  obtain ⟨k1, n1, b1, E1⟩ := entry_of (kinds / 2 % 2) b (by omega)
  obtain ⟨k2, n2, b2, E2⟩ := entry_of (kinds / 4 % 2) c (by omega)
  go_enter Tryz.func6, Tryz.ntmps6
  go_wp2_with fail
  refine (shown_any hG).mono ?_
  rintro e w1 ⟨rfl, hb1⟩
  have hz1 := hb1.size
  go_wp2_with fail
  go_loopw [12] (fun i wr => ORel w w1.heap.size a b c k0 n0 b0 k1 n1 b1 k2 n2 b2 i wr) (fun i _ => (3 - intOf i).toNat)
  case atStart =>
    exact Or.inl ⟨rfl, block_alloc (block_new w1 (.cells #[.int .i64 0, .int .i64 0, .float .f64 0, .string ⟨#[]⟩, .slice none 0 0, .slice none 0 0, .int .i64 0, .int .i64 0, .float .f64 0, .string ⟨#[]⟩, .slice none 0 0, .slice none 0 0, .int .i64 0, .int .i64 0, .float .f64 0, .string ⟨#[]⟩, .slice none 0 0, .slice none 0 0] 39 (0, 0)) rfl) (.cells #[.int .i64 a, .int .i64 b, .int .i64 c] 40 (0, 0)),
      block_new (w1.alloc (.cells #[.int .i64 0, .int .i64 0, .float .f64 0, .string ⟨#[]⟩, .slice none 0 0, .slice none 0 0, .int .i64 0, .int .i64 0, .float .f64 0, .string ⟨#[]⟩, .slice none 0 0, .slice none 0 0, .int .i64 0, .int .i64 0, .float .f64 0, .string ⟨#[]⟩, .slice none 0 0, .slice none 0 0] 39 (0, 0))) (.cells #[.int .i64 a, .int .i64 b, .int .i64 c] 40 (0, 0)) (World.size_alloc _ _).symm,
      (hb1.alloc hb1.size _).alloc (by simp; omega) _⟩
  case round =>
    have hne : w1.heap.size + 1 ≠ w1.heap.size := by omega
    rcases hrel with ⟨rfl, hL, hR, hB⟩ | ⟨rfl, hL, hR, hB⟩ | ⟨rfl, hL, hR, hB⟩ | ⟨rfl, hL, hR, hB⟩
    · rcases E0 with ⟨hbit, rfl, rfl, rfl⟩ | ⟨hbit, rfl, rfl, rfl⟩
      · have ha : bits .and .i64 kinds 1 = 1 := (i64_and1 _).trans hbit
        have r0 := block_cell (i := 0) hR rfl
        go_wp2_with fail
        refine (whole_any a _).mono ?_
        rintro e w2 ⟨rfl, hb2⟩
        have rL2 := block_below hL hb2
        have rR2 := block_below hR hb2
        have hB2 := Below.trans hB (hb2.mono hB.size)
        clear hb2 hL hR hB r0
        have c20 := block_cell (i := 0) rL2 rfl
        have f20 := block_free (i := 0) rL2
        have c21 := block_cell (i := 1) rL2 rfl
        have f21 := block_free (i := 1) rL2
        have c22 := block_cell (i := 2) rL2 rfl
        have f22 := block_free (i := 2) rL2
        have c23 := block_cell (i := 3) rL2 rfl
        have f23 := block_free (i := 3) rL2
        have c24 := block_cell (i := 4) rL2 rfl
        have f24 := block_free (i := 4) rL2
        have c25 := block_cell (i := 5) rL2 rfl
        have f25 := block_free (i := 5) rL2
        go_upto_region 8 with fail
        have sL2 := set6 rL2 0 1 2 3 4 5 (.int .i64 2) (.int .i64 a) (.float .f64 0) (.string ⟨#[]⟩) (.slice none 0 0) (.slice none 0 0)
        simp only [List.setIfInBounds_toArray, List.set_cons_zero, List.set_cons_succ] at sL2
        have sR2 := keep6 rR2 hne 0 1 2 3 4 5 (.int .i64 2) (.int .i64 a) (.float .f64 0) (.string ⟨#[]⟩) (.slice none 0 0) (.slice none 0 0)
        have sB2 := below6 hB2 hz1 0 1 2 3 4 5 (.int .i64 2) (.int .i64 a) (.float .f64 0) (.string ⟨#[]⟩) (.slice none 0 0) (.slice none 0 0)
        refine with_world fun v2 hv2 => ?_
        rw [← hv2] at sL2 sR2 sB2
        clear hv2 rL2 rR2 hB2 c20 f20 c21 f21 c22 f22 c23 f23 c24 f24 c25 f25
        have d2 := block_cell (i := 0) sR2 rfl
        go_wp2_with fail
        refine (real_any (rawF a) _).mono ?_
        rintro e w3 ⟨rfl, hb3⟩
        have rL3 := block_below sL2 hb3
        have rR3 := block_below sR2 hb3
        have hB3 := Below.trans sB2 (hb3.mono sB2.size)
        clear hb3 sL2 sR2 sB2 d2
        have c30 := block_cell (i := 0) rL3 rfl
        have f30 := block_free (i := 0) rL3
        have c31 := block_cell (i := 1) rL3 rfl
        have f31 := block_free (i := 1) rL3
        have c32 := block_cell (i := 2) rL3 rfl
        have f32 := block_free (i := 2) rL3
        have c33 := block_cell (i := 3) rL3 rfl
        have f33 := block_free (i := 3) rL3
        have c34 := block_cell (i := 4) rL3 rfl
        have f34 := block_free (i := 4) rL3
        have c35 := block_cell (i := 5) rL3 rfl
        have f35 := block_free (i := 5) rL3
        go_upto_region 6 with fail
        have sL3 := set6 rL3 0 1 2 3 4 5 (.int .i64 3) (.int .i64 0) (.float .f64 (rawF a)) (.string ⟨#[]⟩) (.slice none 0 0) (.slice none 0 0)
        simp only [List.setIfInBounds_toArray, List.set_cons_zero, List.set_cons_succ] at sL3
        have sR3 := keep6 rR3 hne 0 1 2 3 4 5 (.int .i64 3) (.int .i64 0) (.float .f64 (rawF a)) (.string ⟨#[]⟩) (.slice none 0 0) (.slice none 0 0)
        have sB3 := below6 hB3 hz1 0 1 2 3 4 5 (.int .i64 3) (.int .i64 0) (.float .f64 (rawF a)) (.string ⟨#[]⟩) (.slice none 0 0) (.slice none 0 0)
        refine with_world fun v3 hv3 => ?_
        rw [← hv3] at sL3 sR3 sB3
        clear hv3 rL3 rR3 hB3 c30 f30 c31 f31 c32 f32 c33 f33 c34 f34 c35 f35
        have d3 := block_cell (i := 0) sR3 rfl
        go_wp2_with fail
        go_roundw
        case rel => exact Or.inr (Or.inl ⟨rfl, sL3, sR3, sB3⟩)
        case measure => simp [intOf]
      · have ha : bits .and .i64 kinds 1 = 0 := (i64_and1 _).trans hbit
        have r0 := block_cell (i := 0) hR rfl
        go_wp2_with fail
        refine (whole_any n0 _).mono ?_
        rintro e w2 ⟨rfl, hb2⟩
        have rL2 := block_below hL hb2
        have rR2 := block_below hR hb2
        have hB2 := Below.trans hB (hb2.mono hB.size)
        clear hb2 hL hR hB r0
        have c20 := block_cell (i := 0) rL2 rfl
        have f20 := block_free (i := 0) rL2
        have c21 := block_cell (i := 1) rL2 rfl
        have f21 := block_free (i := 1) rL2
        have c22 := block_cell (i := 2) rL2 rfl
        have f22 := block_free (i := 2) rL2
        have c23 := block_cell (i := 3) rL2 rfl
        have f23 := block_free (i := 3) rL2
        have c24 := block_cell (i := 4) rL2 rfl
        have f24 := block_free (i := 4) rL2
        have c25 := block_cell (i := 5) rL2 rfl
        have f25 := block_free (i := 5) rL2
        go_upto_region 8 with fail
        have sL2 := set6 rL2 0 1 2 3 4 5 (.int .i64 2) (.int .i64 n0) (.float .f64 0) (.string ⟨#[]⟩) (.slice none 0 0) (.slice none 0 0)
        simp only [List.setIfInBounds_toArray, List.set_cons_zero, List.set_cons_succ] at sL2
        have sR2 := keep6 rR2 hne 0 1 2 3 4 5 (.int .i64 2) (.int .i64 n0) (.float .f64 0) (.string ⟨#[]⟩) (.slice none 0 0) (.slice none 0 0)
        have sB2 := below6 hB2 hz1 0 1 2 3 4 5 (.int .i64 2) (.int .i64 n0) (.float .f64 0) (.string ⟨#[]⟩) (.slice none 0 0) (.slice none 0 0)
        refine with_world fun v2 hv2 => ?_
        rw [← hv2] at sL2 sR2 sB2
        clear hv2 rL2 rR2 hB2 c20 f20 c21 f21 c22 f22 c23 f23 c24 f24 c25 f25
        have d2 := block_cell (i := 0) sR2 rfl
        go_wp2_with fail
        go_roundw
        case rel => exact Or.inr (Or.inl ⟨rfl, sL2, sR2, sB2⟩)
        case measure => simp [intOf]
    · rcases E1 with ⟨hbit, rfl, rfl, rfl⟩ | ⟨hbit, rfl, rfl, rfl⟩
      · have ha : bits .and .i64 (kinds / 2) 1 = 1 := (i64_and1 _).trans hbit
        have r1 := block_cell (i := 1) hR rfl
        go_wp2_with fail
        refine (whole_any b _).mono ?_
        rintro e w2 ⟨rfl, hb2⟩
        have rL2 := block_below hL hb2
        have rR2 := block_below hR hb2
        have hB2 := Below.trans hB (hb2.mono hB.size)
        clear hb2 hL hR hB r1
        have c20 := block_cell (i := 6) rL2 rfl
        have f20 := block_free (i := 6) rL2
        have c21 := block_cell (i := 7) rL2 rfl
        have f21 := block_free (i := 7) rL2
        have c22 := block_cell (i := 8) rL2 rfl
        have f22 := block_free (i := 8) rL2
        have c23 := block_cell (i := 9) rL2 rfl
        have f23 := block_free (i := 9) rL2
        have c24 := block_cell (i := 10) rL2 rfl
        have f24 := block_free (i := 10) rL2
        have c25 := block_cell (i := 11) rL2 rfl
        have f25 := block_free (i := 11) rL2
        go_upto_region 8 with fail
        have sL2 := set6 rL2 6 7 8 9 10 11 (.int .i64 2) (.int .i64 b) (.float .f64 0) (.string ⟨#[]⟩) (.slice none 0 0) (.slice none 0 0)
        simp only [List.setIfInBounds_toArray, List.set_cons_zero, List.set_cons_succ] at sL2
        have sR2 := keep6 rR2 hne 6 7 8 9 10 11 (.int .i64 2) (.int .i64 b) (.float .f64 0) (.string ⟨#[]⟩) (.slice none 0 0) (.slice none 0 0)
        have sB2 := below6 hB2 hz1 6 7 8 9 10 11 (.int .i64 2) (.int .i64 b) (.float .f64 0) (.string ⟨#[]⟩) (.slice none 0 0) (.slice none 0 0)
        refine with_world fun v2 hv2 => ?_
        rw [← hv2] at sL2 sR2 sB2
        clear hv2 rL2 rR2 hB2 c20 f20 c21 f21 c22 f22 c23 f23 c24 f24 c25 f25
        have d2 := block_cell (i := 1) sR2 rfl
        go_wp2_with fail
        refine (real_any (rawF b) _).mono ?_
        rintro e w3 ⟨rfl, hb3⟩
        have rL3 := block_below sL2 hb3
        have rR3 := block_below sR2 hb3
        have hB3 := Below.trans sB2 (hb3.mono sB2.size)
        clear hb3 sL2 sR2 sB2 d2
        have c30 := block_cell (i := 6) rL3 rfl
        have f30 := block_free (i := 6) rL3
        have c31 := block_cell (i := 7) rL3 rfl
        have f31 := block_free (i := 7) rL3
        have c32 := block_cell (i := 8) rL3 rfl
        have f32 := block_free (i := 8) rL3
        have c33 := block_cell (i := 9) rL3 rfl
        have f33 := block_free (i := 9) rL3
        have c34 := block_cell (i := 10) rL3 rfl
        have f34 := block_free (i := 10) rL3
        have c35 := block_cell (i := 11) rL3 rfl
        have f35 := block_free (i := 11) rL3
        go_upto_region 6 with fail
        have sL3 := set6 rL3 6 7 8 9 10 11 (.int .i64 3) (.int .i64 0) (.float .f64 (rawF b)) (.string ⟨#[]⟩) (.slice none 0 0) (.slice none 0 0)
        simp only [List.setIfInBounds_toArray, List.set_cons_zero, List.set_cons_succ] at sL3
        have sR3 := keep6 rR3 hne 6 7 8 9 10 11 (.int .i64 3) (.int .i64 0) (.float .f64 (rawF b)) (.string ⟨#[]⟩) (.slice none 0 0) (.slice none 0 0)
        have sB3 := below6 hB3 hz1 6 7 8 9 10 11 (.int .i64 3) (.int .i64 0) (.float .f64 (rawF b)) (.string ⟨#[]⟩) (.slice none 0 0) (.slice none 0 0)
        refine with_world fun v3 hv3 => ?_
        rw [← hv3] at sL3 sR3 sB3
        clear hv3 rL3 rR3 hB3 c30 f30 c31 f31 c32 f32 c33 f33 c34 f34 c35 f35
        have d3 := block_cell (i := 1) sR3 rfl
        go_wp2_with fail
        go_roundw
        case rel => exact Or.inr (Or.inr (Or.inl ⟨rfl, sL3, sR3, sB3⟩))
        case measure => simp [intOf]
      · have ha : bits .and .i64 (kinds / 2) 1 = 0 := (i64_and1 _).trans hbit
        have r1 := block_cell (i := 1) hR rfl
        go_wp2_with fail
        refine (whole_any n1 _).mono ?_
        rintro e w2 ⟨rfl, hb2⟩
        have rL2 := block_below hL hb2
        have rR2 := block_below hR hb2
        have hB2 := Below.trans hB (hb2.mono hB.size)
        clear hb2 hL hR hB r1
        have c20 := block_cell (i := 6) rL2 rfl
        have f20 := block_free (i := 6) rL2
        have c21 := block_cell (i := 7) rL2 rfl
        have f21 := block_free (i := 7) rL2
        have c22 := block_cell (i := 8) rL2 rfl
        have f22 := block_free (i := 8) rL2
        have c23 := block_cell (i := 9) rL2 rfl
        have f23 := block_free (i := 9) rL2
        have c24 := block_cell (i := 10) rL2 rfl
        have f24 := block_free (i := 10) rL2
        have c25 := block_cell (i := 11) rL2 rfl
        have f25 := block_free (i := 11) rL2
        go_upto_region 8 with fail
        have sL2 := set6 rL2 6 7 8 9 10 11 (.int .i64 2) (.int .i64 n1) (.float .f64 0) (.string ⟨#[]⟩) (.slice none 0 0) (.slice none 0 0)
        simp only [List.setIfInBounds_toArray, List.set_cons_zero, List.set_cons_succ] at sL2
        have sR2 := keep6 rR2 hne 6 7 8 9 10 11 (.int .i64 2) (.int .i64 n1) (.float .f64 0) (.string ⟨#[]⟩) (.slice none 0 0) (.slice none 0 0)
        have sB2 := below6 hB2 hz1 6 7 8 9 10 11 (.int .i64 2) (.int .i64 n1) (.float .f64 0) (.string ⟨#[]⟩) (.slice none 0 0) (.slice none 0 0)
        refine with_world fun v2 hv2 => ?_
        rw [← hv2] at sL2 sR2 sB2
        clear hv2 rL2 rR2 hB2 c20 f20 c21 f21 c22 f22 c23 f23 c24 f24 c25 f25
        have d2 := block_cell (i := 1) sR2 rfl
        go_wp2_with fail
        go_roundw
        case rel => exact Or.inr (Or.inr (Or.inl ⟨rfl, sL2, sR2, sB2⟩))
        case measure => simp [intOf]
    · rcases E2 with ⟨hbit, rfl, rfl, rfl⟩ | ⟨hbit, rfl, rfl, rfl⟩
      · have ha : bits .and .i64 (kinds / 4) 1 = 1 := (i64_and1 _).trans hbit
        have r2 := block_cell (i := 2) hR rfl
        go_wp2_with fail
        refine (whole_any c _).mono ?_
        rintro e w2 ⟨rfl, hb2⟩
        have rL2 := block_below hL hb2
        have rR2 := block_below hR hb2
        have hB2 := Below.trans hB (hb2.mono hB.size)
        clear hb2 hL hR hB r2
        have c20 := block_cell (i := 12) rL2 rfl
        have f20 := block_free (i := 12) rL2
        have c21 := block_cell (i := 13) rL2 rfl
        have f21 := block_free (i := 13) rL2
        have c22 := block_cell (i := 14) rL2 rfl
        have f22 := block_free (i := 14) rL2
        have c23 := block_cell (i := 15) rL2 rfl
        have f23 := block_free (i := 15) rL2
        have c24 := block_cell (i := 16) rL2 rfl
        have f24 := block_free (i := 16) rL2
        have c25 := block_cell (i := 17) rL2 rfl
        have f25 := block_free (i := 17) rL2
        go_upto_region 8 with fail
        have sL2 := set6 rL2 12 13 14 15 16 17 (.int .i64 2) (.int .i64 c) (.float .f64 0) (.string ⟨#[]⟩) (.slice none 0 0) (.slice none 0 0)
        simp only [List.setIfInBounds_toArray, List.set_cons_zero, List.set_cons_succ] at sL2
        have sR2 := keep6 rR2 hne 12 13 14 15 16 17 (.int .i64 2) (.int .i64 c) (.float .f64 0) (.string ⟨#[]⟩) (.slice none 0 0) (.slice none 0 0)
        have sB2 := below6 hB2 hz1 12 13 14 15 16 17 (.int .i64 2) (.int .i64 c) (.float .f64 0) (.string ⟨#[]⟩) (.slice none 0 0) (.slice none 0 0)
        refine with_world fun v2 hv2 => ?_
        rw [← hv2] at sL2 sR2 sB2
        clear hv2 rL2 rR2 hB2 c20 f20 c21 f21 c22 f22 c23 f23 c24 f24 c25 f25
        have d2 := block_cell (i := 2) sR2 rfl
        go_wp2_with fail
        refine (real_any (rawF c) _).mono ?_
        rintro e w3 ⟨rfl, hb3⟩
        have rL3 := block_below sL2 hb3
        have rR3 := block_below sR2 hb3
        have hB3 := Below.trans sB2 (hb3.mono sB2.size)
        clear hb3 sL2 sR2 sB2 d2
        have c30 := block_cell (i := 12) rL3 rfl
        have f30 := block_free (i := 12) rL3
        have c31 := block_cell (i := 13) rL3 rfl
        have f31 := block_free (i := 13) rL3
        have c32 := block_cell (i := 14) rL3 rfl
        have f32 := block_free (i := 14) rL3
        have c33 := block_cell (i := 15) rL3 rfl
        have f33 := block_free (i := 15) rL3
        have c34 := block_cell (i := 16) rL3 rfl
        have f34 := block_free (i := 16) rL3
        have c35 := block_cell (i := 17) rL3 rfl
        have f35 := block_free (i := 17) rL3
        go_upto_region 6 with fail
        have sL3 := set6 rL3 12 13 14 15 16 17 (.int .i64 3) (.int .i64 0) (.float .f64 (rawF c)) (.string ⟨#[]⟩) (.slice none 0 0) (.slice none 0 0)
        simp only [List.setIfInBounds_toArray, List.set_cons_zero, List.set_cons_succ] at sL3
        have sR3 := keep6 rR3 hne 12 13 14 15 16 17 (.int .i64 3) (.int .i64 0) (.float .f64 (rawF c)) (.string ⟨#[]⟩) (.slice none 0 0) (.slice none 0 0)
        have sB3 := below6 hB3 hz1 12 13 14 15 16 17 (.int .i64 3) (.int .i64 0) (.float .f64 (rawF c)) (.string ⟨#[]⟩) (.slice none 0 0) (.slice none 0 0)
        refine with_world fun v3 hv3 => ?_
        rw [← hv3] at sL3 sR3 sB3
        clear hv3 rL3 rR3 hB3 c30 f30 c31 f31 c32 f32 c33 f33 c34 f34 c35 f35
        have d3 := block_cell (i := 2) sR3 rfl
        go_wp2_with fail
        go_roundw
        case rel => exact Or.inr (Or.inr (Or.inr ⟨rfl, sL3, sR3, sB3⟩))
        case measure => simp [intOf]
      · have ha : bits .and .i64 (kinds / 4) 1 = 0 := (i64_and1 _).trans hbit
        have r2 := block_cell (i := 2) hR rfl
        go_wp2_with fail
        refine (whole_any n2 _).mono ?_
        rintro e w2 ⟨rfl, hb2⟩
        have rL2 := block_below hL hb2
        have rR2 := block_below hR hb2
        have hB2 := Below.trans hB (hb2.mono hB.size)
        clear hb2 hL hR hB r2
        have c20 := block_cell (i := 12) rL2 rfl
        have f20 := block_free (i := 12) rL2
        have c21 := block_cell (i := 13) rL2 rfl
        have f21 := block_free (i := 13) rL2
        have c22 := block_cell (i := 14) rL2 rfl
        have f22 := block_free (i := 14) rL2
        have c23 := block_cell (i := 15) rL2 rfl
        have f23 := block_free (i := 15) rL2
        have c24 := block_cell (i := 16) rL2 rfl
        have f24 := block_free (i := 16) rL2
        have c25 := block_cell (i := 17) rL2 rfl
        have f25 := block_free (i := 17) rL2
        go_upto_region 8 with fail
        have sL2 := set6 rL2 12 13 14 15 16 17 (.int .i64 2) (.int .i64 n2) (.float .f64 0) (.string ⟨#[]⟩) (.slice none 0 0) (.slice none 0 0)
        simp only [List.setIfInBounds_toArray, List.set_cons_zero, List.set_cons_succ] at sL2
        have sR2 := keep6 rR2 hne 12 13 14 15 16 17 (.int .i64 2) (.int .i64 n2) (.float .f64 0) (.string ⟨#[]⟩) (.slice none 0 0) (.slice none 0 0)
        have sB2 := below6 hB2 hz1 12 13 14 15 16 17 (.int .i64 2) (.int .i64 n2) (.float .f64 0) (.string ⟨#[]⟩) (.slice none 0 0) (.slice none 0 0)
        refine with_world fun v2 hv2 => ?_
        rw [← hv2] at sL2 sR2 sB2
        clear hv2 rL2 rR2 hB2 c20 f20 c21 f21 c22 f22 c23 f23 c24 f24 c25 f25
        have d2 := block_cell (i := 2) sR2 rfl
        go_wp2_with fail
        go_roundw
        case rel => exact Or.inr (Or.inr (Or.inr ⟨rfl, sL2, sR2, sB2⟩))
        case measure => simp [intOf]
    · have N0 := E0.num
      have N1 := E1.num
      have N2 := E2.num
      have HN := Lib.hid (⟨E0, E1, E2⟩ : Entry (kinds % 2) a k0 n0 b0 ∧ Entry (kinds / 2 % 2) b k1 n1 b1 ∧ Entry (kinds / 4 % 2) c k2 n2 b2)
      have HNN := Lib.hid (⟨N0, N1, N2⟩ : Num k0 n0 b0 ∧ Num k1 n1 b1 ∧ Num k2 n2 b2)
      clear E0 E1 E2
      have H01 := Lib.hid (fun W => less_num N0 N1 W)
      obtain ⟨B1, hB1⟩ : ∃ x, lessN k0 n0 b0 k1 n1 b1 = x := ⟨_, rfl⟩
      rw [hB1] at H01
      have H10 := Lib.hid (fun W => less_num N1 N0 W)
      obtain ⟨B2, hB2⟩ : ∃ x, lessN k1 n1 b1 k0 n0 b0 = x := ⟨_, rfl⟩
      rw [hB2] at H10
      have H12 := Lib.hid (fun W => less_num N1 N2 W)
      obtain ⟨B3, hB3⟩ : ∃ x, lessN k1 n1 b1 k2 n2 b2 = x := ⟨_, rfl⟩
      rw [hB3] at H12
      have H02 := Lib.hid (fun W => less_num N0 N2 W)
      obtain ⟨B4, hB4⟩ : ∃ x, lessN k0 n0 b0 k2 n2 b2 = x := ⟨_, rfl⟩
      rw [hB4] at H02
      have HE := Lib.hid (fun W => equal_num N0 N1 W)
      have HF := Lib.hid (fun W => (equal_num N1 N0 W).mono (R' := fun e w' => e = .returned (.tuple #[.bool (eqN k0 n0 b0 k1 n1 b1), .int .i64 0]) ∧ Below W.heap.size W w') fun e w' h => ⟨h.1.trans (by rw [eqN_swap]), h.2⟩)
      obtain ⟨Q, hQ⟩ : ∃ x, eqN k0 n0 b0 k1 n1 b1 = x := ⟨_, rfl⟩
      rw [hQ] at HE HF
      have HT := Lib.hid (⟨hB1, hB2, hB3, hB4, hQ⟩ : _ ∧ _ ∧ _ ∧ _ ∧ _)
      clear hB1 hB2 hB3 hB4 hQ N0 N1 N2 hne hR
      have c1_0 := block_cell (i := 0) hL rfl
      have c1_1 := block_cell (i := 1) hL rfl
      have c1_2 := block_cell (i := 2) hL rfl
      have c1_3 := block_cell (i := 3) hL rfl
      have c1_4 := block_cell (i := 4) hL rfl
      have c1_5 := block_cell (i := 5) hL rfl
      have c1_6 := block_cell (i := 6) hL rfl
      have c1_7 := block_cell (i := 7) hL rfl
      have c1_8 := block_cell (i := 8) hL rfl
      have c1_9 := block_cell (i := 9) hL rfl
      have c1_10 := block_cell (i := 10) hL rfl
      have c1_11 := block_cell (i := 11) hL rfl
      go_wp2_with fail
      refine (H01.out _).mono ?_
      rintro e w2 ⟨rfl, hb2⟩
      have rL2 := block_below hL hb2
      have hB2 := hB.trans (hb2.mono hB.size)
      clear hL hB hb2 c1_0 c1_1 c1_2 c1_3 c1_4 c1_5 c1_6 c1_7 c1_8 c1_9 c1_10 c1_11
      have c2_0 := block_cell (i := 0) rL2 rfl
      have c2_1 := block_cell (i := 1) rL2 rfl
      have c2_2 := block_cell (i := 2) rL2 rfl
      have c2_3 := block_cell (i := 3) rL2 rfl
      have c2_4 := block_cell (i := 4) rL2 rfl
      have c2_5 := block_cell (i := 5) rL2 rfl
      have c2_6 := block_cell (i := 6) rL2 rfl
      have c2_7 := block_cell (i := 7) rL2 rfl
      have c2_8 := block_cell (i := 8) rL2 rfl
      have c2_9 := block_cell (i := 9) rL2 rfl
      have c2_10 := block_cell (i := 10) rL2 rfl
      have c2_11 := block_cell (i := 11) rL2 rfl
      go_wp2_with fail
      refine (H10.out _).mono ?_
      rintro e w3 ⟨rfl, hb3⟩
      have rL3 := block_below rL2 hb3
      have hB3 := hB2.trans (hb3.mono hB2.size)
      clear rL2 hB2 hb3 c2_0 c2_1 c2_2 c2_3 c2_4 c2_5 c2_6 c2_7 c2_8 c2_9 c2_10 c2_11
      have c3_0 := block_cell (i := 0) rL3 rfl
      have c3_1 := block_cell (i := 1) rL3 rfl
      have c3_2 := block_cell (i := 2) rL3 rfl
      have c3_3 := block_cell (i := 3) rL3 rfl
      have c3_4 := block_cell (i := 4) rL3 rfl
      have c3_5 := block_cell (i := 5) rL3 rfl
      have c3_6 := block_cell (i := 6) rL3 rfl
      have c3_7 := block_cell (i := 7) rL3 rfl
      have c3_8 := block_cell (i := 8) rL3 rfl
      have c3_9 := block_cell (i := 9) rL3 rfl
      have c3_10 := block_cell (i := 10) rL3 rfl
      have c3_11 := block_cell (i := 11) rL3 rfl
      go_wp2_with fail
      refine (HE.out _).mono ?_
      rintro e w4 ⟨rfl, hb4⟩
      have rL4 := block_below rL3 hb4
      have hB4 := hB3.trans (hb4.mono hB3.size)
      clear rL3 hB3 hb4 c3_0 c3_1 c3_2 c3_3 c3_4 c3_5 c3_6 c3_7 c3_8 c3_9 c3_10 c3_11
      have c4_0 := block_cell (i := 0) rL4 rfl
      have c4_1 := block_cell (i := 1) rL4 rfl
      have c4_2 := block_cell (i := 2) rL4 rfl
      have c4_3 := block_cell (i := 3) rL4 rfl
      have c4_4 := block_cell (i := 4) rL4 rfl
      have c4_5 := block_cell (i := 5) rL4 rfl
      have c4_6 := block_cell (i := 6) rL4 rfl
      have c4_7 := block_cell (i := 7) rL4 rfl
      have c4_8 := block_cell (i := 8) rL4 rfl
      have c4_9 := block_cell (i := 9) rL4 rfl
      have c4_10 := block_cell (i := 10) rL4 rfl
      have c4_11 := block_cell (i := 11) rL4 rfl
      go_wp2_with fail
      refine (HF.out _).mono ?_
      rintro e w5 ⟨rfl, hb5⟩
      have rL5 := block_below rL4 hb5
      have hB5 := hB4.trans (hb5.mono hB4.size)
      clear rL4 hB4 hb5 c4_0 c4_1 c4_2 c4_3 c4_4 c4_5 c4_6 c4_7 c4_8 c4_9 c4_10 c4_11
      have c5_0 := block_cell (i := 0) rL5 rfl
      have c5_1 := block_cell (i := 1) rL5 rfl
      have c5_2 := block_cell (i := 2) rL5 rfl
      have c5_3 := block_cell (i := 3) rL5 rfl
      have c5_4 := block_cell (i := 4) rL5 rfl
      have c5_5 := block_cell (i := 5) rL5 rfl
      have c5_6 := block_cell (i := 6) rL5 rfl
      have c5_7 := block_cell (i := 7) rL5 rfl
      have c5_8 := block_cell (i := 8) rL5 rfl
      have c5_9 := block_cell (i := 9) rL5 rfl
      have c5_10 := block_cell (i := 10) rL5 rfl
      have c5_11 := block_cell (i := 11) rL5 rfl
      have c5_12 := block_cell (i := 12) rL5 rfl
      have c5_13 := block_cell (i := 13) rL5 rfl
      have c5_14 := block_cell (i := 14) rL5 rfl
      have c5_15 := block_cell (i := 15) rL5 rfl
      have c5_16 := block_cell (i := 16) rL5 rfl
      have c5_17 := block_cell (i := 17) rL5 rfl
      rcases nan_or b0 with ok0 | nn0
      · rcases nan_or b1 with ok1 | nn1
        · have e0 : (FloatKind.f64.format.order b0 b0 != some .eq) = false := by rw [show FloatKind.f64.format.order b0 b0 = some .eq from ok0]; rfl
          have e1 : (FloatKind.f64.format.order b1 b1 != some .eq) = false := by rw [show FloatKind.f64.format.order b1 b1 = some .eq from ok1]; rfl
          obtain ⟨m, hm⟩ : ∃ m, bits .and .i64 kinds 7 = m := ⟨_, rfl⟩
          have HGO : Hid ((m = 0 ∨ m = 7) → B1 = true → B3 = true → B4 = true) := Lib.hid (by
            intro hmm
            rw [← hm, i64_and7] at hmm
            obtain ⟨h1, h2, h3, h4, h5⟩ := HT.out
            rw [← h1, ← h3, ← h4]
            refine goes_on ?_
            obtain ⟨E0, E1, E2⟩ := HN.out
            rcases hmm with hmm | hmm
            · left
              rcases E0 with ⟨hb, _⟩ | ⟨_, r0, _⟩
              · omega
              · rcases E1 with ⟨hb, _⟩ | ⟨_, r1, _⟩
                · omega
                · rcases E2 with ⟨hb, _⟩ | ⟨_, r2, _⟩
                  · omega
                  · exact ⟨r0, r1, r2⟩
            · right
              rcases E0 with ⟨_, r0, _⟩ | ⟨hb, _⟩
              · rcases E1 with ⟨_, r1, _⟩ | ⟨hb, _⟩
                · rcases E2 with ⟨_, r2, _⟩ | ⟨hb, _⟩
                  · exact ⟨r0, r1, r2⟩
                  · omega
                · omega
              · omega)
          have HO := one_of HNN.out.1 HNN.out.2.1 ok0 ok1
          obtain ⟨h1, h2, h3, h4, h5⟩ := HT.out
          rw [h1, h2, h5] at HO
          clear HT h1 h2 h3 h4 h5 H01 H10 HE HF HN HNN ok0 ok1
          rcases HO with ⟨rfl, rfl, rfl⟩ | ⟨rfl, rfl, rfl⟩ | ⟨rfl, rfl, rfl⟩
          · go_wp2_with fail
            refine (H12.out _).mono ?_
            rintro e w6 ⟨rfl, hb6⟩
            have rL6 := block_below rL5 hb6
            have hB6 := hB5.trans (hb6.mono hB5.size)
            clear rL5 hB5 hb6 c5_0 c5_1 c5_2 c5_3 c5_4 c5_5 c5_6 c5_7 c5_8 c5_9 c5_10 c5_11 c5_12 c5_13 c5_14 c5_15 c5_16 c5_17
            have c6_0 := block_cell (i := 0) rL6 rfl
            have c6_1 := block_cell (i := 1) rL6 rfl
            have c6_2 := block_cell (i := 2) rL6 rfl
            have c6_3 := block_cell (i := 3) rL6 rfl
            have c6_4 := block_cell (i := 4) rL6 rfl
            have c6_5 := block_cell (i := 5) rL6 rfl
            have c6_12 := block_cell (i := 12) rL6 rfl
            have c6_13 := block_cell (i := 13) rL6 rfl
            have c6_14 := block_cell (i := 14) rL6 rfl
            have c6_15 := block_cell (i := 15) rL6 rfl
            have c6_16 := block_cell (i := 16) rL6 rfl
            have c6_17 := block_cell (i := 17) rL6 rfl
            go_wp2_with fail
            refine (H02.out _).mono ?_
            rintro e w7 ⟨rfl, hb7⟩
            have hB7 := hB6.trans (hb7.mono hB6.size)
            clear rL6 hB6 hb7 c6_0 c6_1 c6_2 c6_3 c6_4 c6_5 c6_12 c6_13 c6_14 c6_15 c6_16 c6_17 H12 H02
            have hm3 : m = 0 ∨ m = 7 ∨ (m ≠ 0 ∧ m ≠ 7) := by omega
            rcases hm3 with h0 | h0 | ⟨h0, h7⟩
            · have hgo := HGO.out (Or.inl h0)
              have m0 : (m != 0) = false := by simp [h0]
              clear h0
              clear HGO
              cases B3 <;> cases B4
              all_goals first
                | (exfalso; revert hgo; decide)
                | (clear hgo; go_wp2_with fail; go_ret; exact ⟨rfl, hB7⟩)
            · have hgo := HGO.out (Or.inr h0)
              have m0 : (m != 0) = true := by simp [h0]
              have m7 : (m != 7) = false := by simp [h0]
              clear h0
              clear HGO
              cases B3 <;> cases B4
              all_goals first
                | (exfalso; revert hgo; decide)
                | (clear hgo; go_wp2_with fail; go_ret; exact ⟨rfl, hB7⟩)
            · have m0 : (m != 0) = true := by simp [h0]
              have m7 : (m != 7) = true := by simp [h7]
              clear h0 h7
              clear HGO
              go_wp2_with fail
              go_ret
              exact ⟨rfl, hB7⟩
          · go_wp2_with fail
            refine (H12.out _).mono ?_
            rintro e w6 ⟨rfl, hb6⟩
            have rL6 := block_below rL5 hb6
            have hB6 := hB5.trans (hb6.mono hB5.size)
            clear rL5 hB5 hb6 c5_0 c5_1 c5_2 c5_3 c5_4 c5_5 c5_6 c5_7 c5_8 c5_9 c5_10 c5_11 c5_12 c5_13 c5_14 c5_15 c5_16 c5_17
            have c6_0 := block_cell (i := 0) rL6 rfl
            have c6_1 := block_cell (i := 1) rL6 rfl
            have c6_2 := block_cell (i := 2) rL6 rfl
            have c6_3 := block_cell (i := 3) rL6 rfl
            have c6_4 := block_cell (i := 4) rL6 rfl
            have c6_5 := block_cell (i := 5) rL6 rfl
            have c6_12 := block_cell (i := 12) rL6 rfl
            have c6_13 := block_cell (i := 13) rL6 rfl
            have c6_14 := block_cell (i := 14) rL6 rfl
            have c6_15 := block_cell (i := 15) rL6 rfl
            have c6_16 := block_cell (i := 16) rL6 rfl
            have c6_17 := block_cell (i := 17) rL6 rfl
            go_wp2_with fail
            refine (H02.out _).mono ?_
            rintro e w7 ⟨rfl, hb7⟩
            have hB7 := hB6.trans (hb7.mono hB6.size)
            clear rL6 hB6 hb7 c6_0 c6_1 c6_2 c6_3 c6_4 c6_5 c6_12 c6_13 c6_14 c6_15 c6_16 c6_17 H12 H02
            have hm3 : m = 0 ∨ m = 7 ∨ (m ≠ 0 ∧ m ≠ 7) := by omega
            rcases hm3 with h0 | h0 | ⟨h0, h7⟩
            · have hgo := HGO.out (Or.inl h0)
              have m0 : (m != 0) = false := by simp [h0]
              clear h0
              clear hgo HGO
              go_wp2_with fail
              go_ret
              exact ⟨rfl, hB7⟩
            · have hgo := HGO.out (Or.inr h0)
              have m0 : (m != 0) = true := by simp [h0]
              have m7 : (m != 7) = false := by simp [h0]
              clear h0
              clear hgo HGO
              go_wp2_with fail
              go_ret
              exact ⟨rfl, hB7⟩
            · have m0 : (m != 0) = true := by simp [h0]
              have m7 : (m != 7) = true := by simp [h7]
              clear h0 h7
              clear HGO
              go_wp2_with fail
              go_ret
              exact ⟨rfl, hB7⟩
          · go_wp2_with fail
            refine (H12.out _).mono ?_
            rintro e w6 ⟨rfl, hb6⟩
            have rL6 := block_below rL5 hb6
            have hB6 := hB5.trans (hb6.mono hB5.size)
            clear rL5 hB5 hb6 c5_0 c5_1 c5_2 c5_3 c5_4 c5_5 c5_6 c5_7 c5_8 c5_9 c5_10 c5_11 c5_12 c5_13 c5_14 c5_15 c5_16 c5_17
            have c6_0 := block_cell (i := 0) rL6 rfl
            have c6_1 := block_cell (i := 1) rL6 rfl
            have c6_2 := block_cell (i := 2) rL6 rfl
            have c6_3 := block_cell (i := 3) rL6 rfl
            have c6_4 := block_cell (i := 4) rL6 rfl
            have c6_5 := block_cell (i := 5) rL6 rfl
            have c6_12 := block_cell (i := 12) rL6 rfl
            have c6_13 := block_cell (i := 13) rL6 rfl
            have c6_14 := block_cell (i := 14) rL6 rfl
            have c6_15 := block_cell (i := 15) rL6 rfl
            have c6_16 := block_cell (i := 16) rL6 rfl
            have c6_17 := block_cell (i := 17) rL6 rfl
            go_wp2_with fail
            refine (H02.out _).mono ?_
            rintro e w7 ⟨rfl, hb7⟩
            have hB7 := hB6.trans (hb7.mono hB6.size)
            clear rL6 hB6 hb7 c6_0 c6_1 c6_2 c6_3 c6_4 c6_5 c6_12 c6_13 c6_14 c6_15 c6_16 c6_17 H12 H02
            have hm3 : m = 0 ∨ m = 7 ∨ (m ≠ 0 ∧ m ≠ 7) := by omega
            rcases hm3 with h0 | h0 | ⟨h0, h7⟩
            · have hgo := HGO.out (Or.inl h0)
              have m0 : (m != 0) = false := by simp [h0]
              clear h0
              clear hgo HGO
              go_wp2_with fail
              go_ret
              exact ⟨rfl, hB7⟩
            · have hgo := HGO.out (Or.inr h0)
              have m0 : (m != 0) = true := by simp [h0]
              have m7 : (m != 7) = false := by simp [h0]
              clear h0
              clear hgo HGO
              go_wp2_with fail
              go_ret
              exact ⟨rfl, hB7⟩
            · have m0 : (m != 0) = true := by simp [h0]
              have m7 : (m != 7) = true := by simp [h7]
              clear h0 h7
              clear HGO
              go_wp2_with fail
              go_ret
              exact ⟨rfl, hB7⟩
        · have e0 : (FloatKind.f64.format.order b0 b0 != some .eq) = false := by rw [show FloatKind.f64.format.order b0 b0 = some .eq from ok0]; rfl
          have e1 : (FloatKind.f64.format.order b1 b1 != some .eq) = true := by rw [show FloatKind.f64.format.order b1 b1 = none from nn1]; rfl
          have hall := nan_all HNN.out.1 HNN.out.2.1 (Or.inr nn1)
          clear ok0 nn1
          obtain ⟨h1, h2, h3, h4, h5⟩ := HT.out
          rw [h1, h2, h5] at hall
          obtain ⟨rfl, rfl, rfl⟩ := hall
          clear HT h1 h2 h3 h4 h5 H01 H10 H12 H02 HE HF HN HNN
          go_wp2_with fail
          go_ret
          exact ⟨rfl, hB5⟩
      · have e0 : (FloatKind.f64.format.order b0 b0 != some .eq) = true := by rw [show FloatKind.f64.format.order b0 b0 = none from nn0]; rfl
        have hall := nan_all HNN.out.1 HNN.out.2.1 (Or.inl nn0)
        clear nn0
        obtain ⟨h1, h2, h3, h4, h5⟩ := HT.out
        rw [h1, h2, h5] at hall
        obtain ⟨rfl, rfl, rfl⟩ := hall
        clear HT h1 h2 h3 h4 h5 H01 H10 H12 H02 HE HF HN HNN
        go_wp2_with fail
        go_ret
        exact ⟨rfl, hB5⟩
end Go.Proofs.YtdpnknlpkjablaaGreatDoor
