/- value.Float at any float: the walk. -/
import Derived.Test.YtbgjhgohffkonaaGreatDoorM15
import Derived.Test.YtbgjhgohffkonaaGreatDoorVBase
namespace Go.Proofs.YtbgjhgohffkonaaGreatDoor
open Go.RowKit Go.Sort Go.Shelf
set_option linter.unusedSimpArgs false
set_option linter.unusedVariables false
theorem ft_sizes {b : Nat} (hb : b < 18446744073709551616) (hE : ftE b ≠ 2047) (hM : ftM b ≠ 0) : (ftD b).length ≤ 20 ∧ 1 ≤ (ftD b).length ∧ -400 ≤ ftQ b ∧ ftQ b ≤ 400 := by
  have hbd := short_bd (ft_ok hb hE hM).2.2.2
  have hND := nd_range (d := (ftP b).1) (by have := hbd.2.1; unfold ftP; omega)
  have h1 : (ftD b).length ≤ Lib.nDigits (ftP b).1 := Nat.le_trans (stripZ_len _) (by rw [Lib.decDigits_length]; exact Nat.le_refl _)
  refine ⟨by omega, ftD_pos hb hE hM, ?_, ?_⟩
  · have : -347 ≤ (ftP b).2 := hbd.2.2.1
    unfold ftQ
    omega
  · have : (ftP b).2 ≤ 349 := hbd.2.2.2
    unfold ftQ
    omega
theorem fmS_len (s : Bool) : (fmS s).length ≤ 1 := by unfold fmS; split <;> simp
theorem fmM_len (D : List UInt8) : (fmM D).length ≤ D.length + 1 := by unfold fmM; split <;> simp
theorem fmX_len (x : Int) : (fmX x).length ≤ 4 := by
  unfold fmX
  rw [List.length_cons]
  split
  · simp
  · split <;> simp
theorem fmF_len (s : Bool) (D : List UInt8) (q : Int) (h : D.length ≤ 20) (h1 : -400 ≤ q) (h2 : q ≤ 400) : (fmF s D q).length ≤ 1000 := by
  have h0 := fmS_len s
  unfold fmF
  rw [List.length_append, List.length_append]
  have a : (fmI D q).length ≤ 420 := by
    unfold fmI
    split
    · rw [List.length_append, List.length_take, List.length_replicate]; omega
    · simp
  have c : (fmR D q).length ≤ 441 := by
    unfold fmR
    split
    · rw [List.length_cons, List.length_append, List.length_replicate, List.length_drop]; omega
    · simp
  omega
theorem fT102_len {b : Nat} (hb : b < 18446744073709551616) (hE : ftE b ≠ 2047) : (fT102 b).length ≤ 1000 := by
  unfold fT102
  split
  · have := fmS_len (ftN b)
    simp
    omega
  · rename_i hM
    have h := ft_sizes hb hE hM
    unfold ffT
    rw [if_neg (by decide)]
    exact fmF_len _ _ _ h.1 h.2.2.1 h.2.2.2
theorem fT101_len {b : Nat} (hb : b < 18446744073709551616) (hE : ftE b ≠ 2047) (hM : ftM b ≠ 0) : (fmS (ftN b) ++ fmM (ftD b)).length ≤ 100 ∧ (101 :: fmX (ftQ b - 1)).length ≤ 100 := by
  have h := ft_sizes hb hE hM
  have h1 := fmS_len (ftN b)
  have h2 := fmM_len (ftD b)
  have h3 := fmX_len (ftQ b - 1)
  simp only [List.length_append, List.length_cons]
  omega
theorem fmt102 {w : World} {B b : Nat} (hG : FG B w) (hb : b < 18446744073709551616) (hE : ftE b ≠ 2047) :
    Calls Tryz.prog 17 #[.float .f64 b, .int .u8 102, .int .i64 (-1), .int .i64 64] w fun e w' => e = .returned (.string ⟨(fT102 b).toArray⟩) ∧ Below w.heap.size w w' := by
  unfold fT102
  by_cases hM : ftM b = 0
  · rw [if_pos hM]
    exact fmt_zero hG (zero_of hb hM)
  · rw [if_neg hM]
    exact fmt_any hG hb hE hM 102 (Or.inr rfl)
theorem fmt101 {w : World} {B b : Nat} (hG : FG B w) (hb : b < 18446744073709551616) (hE : ftE b ≠ 2047) (hM : ftM b ≠ 0) :
    Calls Tryz.prog 17 #[.float .f64 b, .int .u8 101, .int .i64 (-1), .int .i64 64] w fun e w' => e = .returned (.string ⟨(fT101 b).toArray⟩) ∧ Below w.heap.size w w' :=
  fmt_any hG hb hE hM 101 (Or.inl rfl)
/-- What the variables hold, for floats' texts. -/
structure RG (B : Nat) (w : World) : Prop where
  fg : FG B w
  ml : 4 < B ∧ ∃ m, w.cell? ⟨4, 0, none⟩ = some (.int .i64 m)
theorem RG.below {B : Nat} {w w' : World} (h : RG B w) (hb : Below w.heap.size w w') : RG B w' :=
  ⟨h.fg.below hb, h.ml.1, by obtain ⟨m, hm⟩ := h.ml.2; exact ⟨m, cell_keeps hb hm⟩⟩
theorem dot_call {B : Nat} {w : World} (hG : RG B w) (l : List UInt8) (h : l.length ≤ 2000) : Calls Tryz.prog 21 #[.string ⟨l.toArray⟩, .string ⟨#[46]⟩] w fun e w' => e = .returned (.bool (l.contains 46)) ∧ w = w' := by
  obtain ⟨m, hm⟩ := hG.ml.2
  refine (Tryz.strings_Contains ⟨l.toArray⟩ ⟨#[46]⟩ m w (by show l.toArray.size < _; simp; omega) hm).mono ?_
  rintro e w' ⟨rfl, rfl⟩
  refine ⟨?_, rfl⟩
  have := contains_dot l
  simp only [List.toList_toArray] at this ⊢
  rw [← this]
set_option maxHeartbeats 2000000 in
set_option maxRecDepth 100000 in
theorem float_big {w : World} {x m : Nat} {n : Int} {p q sf sE : ByteArray} {k : Nat} {hs : Bool} {R : ByteArray}
    (HN : Hid (∀ W, Calls Tryz.prog 15 #[.float .f64 x] W fun e w' => e = .returned (.bool false) ∧ W = w'))
    (HI : Hid (∀ W, Calls Tryz.prog 16 #[.float .f64 x, .int .i64 1] W fun e w' => e = .returned (.bool false) ∧ W = w'))
    (HJ : Hid (∀ W, Calls Tryz.prog 16 #[.float .f64 x, .int .i64 (-1)] W fun e w' => e = .returned (.bool false) ∧ W = w'))
    (HF : Hid (∀ W, Below w.heap.size w W → Calls Tryz.prog 17 #[.float .f64 x, .int .u8 102, .int .i64 (-1), .int .i64 64] W fun e w' => e = .returned (.string sf) ∧ Below W.heap.size W w'))
    (HE : Hid (∀ W, Below w.heap.size w W → Calls Tryz.prog 17 #[.float .f64 x, .int .u8 101, .int .i64 (-1), .int .i64 64] W fun e w' => e = .returned (.string sE) ∧ Below W.heap.size W w'))
    (HA : Hid (∀ W, Calls Tryz.prog 18 #[.float .f64 x] W fun e w' => e = .returned (.float .f64 m) ∧ W = w'))
    (HC : Hid (∀ W, Calls Tryz.prog 19 #[.float .f64 m, .float .f64 4921056587992461136] W fun e w' => (∃ n : Int, 0 ≤ n ∧ e = .returned (.int .i64 n)) ∧ W = w') ∨ FloatKind.f64.format.order m 4517329193108106637 = some .lt)
    (HX : Hid (∀ W, Calls Tryz.prog 20 #[.string sE, .int .u8 101] W fun e w' => e = .returned (.int .i64 (k : Int)) ∧ W = w'))
    (HD : Hid (∀ W, Below w.heap.size w W → Calls Tryz.prog 21 #[.string p, .string ⟨#[46]⟩] W fun e w' => e = .returned (.bool hs) ∧ W = w'))
    (h1 : sE.extract 0 k = p) (h2 : sE.extract k sE.size = q) (hk : k ≤ sE.size) (hp : p.size ≤ 100) (hq : q.size ≤ 100)
    (HR : Hid ((if hs then p else p ++ ⟨#[46, 48]⟩) ++ q = R))
    (o0 : FloatKind.f64.format.order m 0 = some .gt) (o1 : FloatKind.f64.format.order m 4517329193108106637 = some .lt ∨ FloatKind.f64.format.order m 4517329193108106637 = some .gt ∨ FloatKind.f64.format.order m 4517329193108106637 = some .eq) :
    Calls Tryz.prog 6 #[.float .f64 x] w fun e w' => e = .returned (.string R) ∧ Below w.heap.size w w' := by
  have hkI : (k : Int) ≤ (sE.size : Int) := by omega
  rcases o1 with o1 | o1 | o1
  · clear HC
    go_enter Tryz.func6, Tryz.ntmps6
    go_wp2_with fail
    refine (HN.out _).mono ?_
    rintro e w2 ⟨rfl, rfl⟩
    go_wp2_with fail
    refine (HI.out _).mono ?_
    rintro e w2 ⟨rfl, rfl⟩
    go_wp2_with fail
    refine (HJ.out _).mono ?_
    rintro e w2 ⟨rfl, rfl⟩
    go_wp2_with fail
    refine (HF.out _ (Below.refl _ _)).mono ?_
    rintro e w2 ⟨rfl, hb2⟩
    go_wp2_with fail
    refine (HA.out _).mono ?_
    rintro e w3 ⟨rfl, rfl⟩
    go_wp2_with fail
    refine (HE.out _ hb2).mono ?_
    rintro e w4 ⟨rfl, hb4⟩
    go_wp2_with fail
    refine (HX.out _).mono ?_
    rintro e w5 ⟨rfl, rfl⟩
    go_wp2_with fail
    go_quiet (fail)
    go_wp2_with fail
    refine (HD.out _ (below_drewN (hb2.next hb4) _)).mono ?_
    rintro e w6 ⟨rfl, rfl⟩
    cases hs
    · go_wp2_with fail
      go_ret
      refine ⟨?_, below_drewN (hb2.next hb4) _⟩
      rw [← HR.out]
      rfl
    · go_wp2_with fail
      go_ret
      refine ⟨?_, below_drewN (hb2.next hb4) _⟩
      rw [← HR.out]
      rfl
  · rcases HC with HC | hC
    ·
      go_enter Tryz.func6, Tryz.ntmps6
      go_wp2_with fail
      refine (HN.out _).mono ?_
      rintro e w2 ⟨rfl, rfl⟩
      go_wp2_with fail
      refine (HI.out _).mono ?_
      rintro e w2 ⟨rfl, rfl⟩
      go_wp2_with fail
      refine (HJ.out _).mono ?_
      rintro e w2 ⟨rfl, rfl⟩
      go_wp2_with fail
      refine (HF.out _ (Below.refl _ _)).mono ?_
      rintro e w2 ⟨rfl, hb2⟩
      go_wp2_with fail
      refine (HA.out _).mono ?_
      rintro e w3 ⟨rfl, rfl⟩
      go_wp2_with fail
      refine (HC.out _).mono ?_
      rintro e w3 ⟨⟨n, hn, rfl⟩, rfl⟩
      go_wp2_with fail
      refine (HE.out _ hb2).mono ?_
      rintro e w4 ⟨rfl, hb4⟩
      go_wp2_with fail
      refine (HX.out _).mono ?_
      rintro e w5 ⟨rfl, rfl⟩
      go_wp2_with fail
      go_quiet (fail)
      go_wp2_with fail
      refine (HD.out _ (below_drewN (hb2.next hb4) _)).mono ?_
      rintro e w6 ⟨rfl, rfl⟩
      cases hs
      · go_wp2_with fail
        go_ret
        refine ⟨?_, below_drewN (hb2.next hb4) _⟩
        rw [← HR.out]
        rfl
      · go_wp2_with fail
        go_ret
        refine ⟨?_, below_drewN (hb2.next hb4) _⟩
        rw [← HR.out]
        rfl
    · rw [hC] at o1; cases o1
  · rcases HC with HC | hC
    ·
      go_enter Tryz.func6, Tryz.ntmps6
      go_wp2_with fail
      refine (HN.out _).mono ?_
      rintro e w2 ⟨rfl, rfl⟩
      go_wp2_with fail
      refine (HI.out _).mono ?_
      rintro e w2 ⟨rfl, rfl⟩
      go_wp2_with fail
      refine (HJ.out _).mono ?_
      rintro e w2 ⟨rfl, rfl⟩
      go_wp2_with fail
      refine (HF.out _ (Below.refl _ _)).mono ?_
      rintro e w2 ⟨rfl, hb2⟩
      go_wp2_with fail
      refine (HA.out _).mono ?_
      rintro e w3 ⟨rfl, rfl⟩
      go_wp2_with fail
      refine (HC.out _).mono ?_
      rintro e w3 ⟨⟨n, hn, rfl⟩, rfl⟩
      go_wp2_with fail
      refine (HE.out _ hb2).mono ?_
      rintro e w4 ⟨rfl, hb4⟩
      go_wp2_with fail
      refine (HX.out _).mono ?_
      rintro e w5 ⟨rfl, rfl⟩
      go_wp2_with fail
      go_quiet (fail)
      go_wp2_with fail
      refine (HD.out _ (below_drewN (hb2.next hb4) _)).mono ?_
      rintro e w6 ⟨rfl, rfl⟩
      cases hs
      · go_wp2_with fail
        go_ret
        refine ⟨?_, below_drewN (hb2.next hb4) _⟩
        rw [← HR.out]
        rfl
      · go_wp2_with fail
        go_ret
        refine ⟨?_, below_drewN (hb2.next hb4) _⟩
        rw [← HR.out]
        rfl
    · rw [hC] at o1; cases o1
set_option maxHeartbeats 2000000 in
set_option maxRecDepth 100000 in
theorem float_small {w : World} {x m : Nat} {sf : ByteArray} {hs : Bool} {R : ByteArray}
    (HN : Hid (∀ W, Calls Tryz.prog 15 #[.float .f64 x] W fun e w' => e = .returned (.bool false) ∧ W = w'))
    (HI : Hid (∀ W, Calls Tryz.prog 16 #[.float .f64 x, .int .i64 1] W fun e w' => e = .returned (.bool false) ∧ W = w'))
    (HJ : Hid (∀ W, Calls Tryz.prog 16 #[.float .f64 x, .int .i64 (-1)] W fun e w' => e = .returned (.bool false) ∧ W = w'))
    (HF : Hid (∀ W, Below w.heap.size w W → Calls Tryz.prog 17 #[.float .f64 x, .int .u8 102, .int .i64 (-1), .int .i64 64] W fun e w' => e = .returned (.string sf) ∧ Below W.heap.size W w'))
    (HA : Hid (∀ W, Calls Tryz.prog 18 #[.float .f64 x] W fun e w' => e = .returned (.float .f64 m) ∧ W = w'))
    (HC : Hid (∀ W, Calls Tryz.prog 19 #[.float .f64 m, .float .f64 4921056587992461136] W fun e w' => e = .returned (.int .i64 (-1)) ∧ W = w') ∨ FloatKind.f64.format.order m 0 = some .eq)
    (HD : Hid (∀ W, Below w.heap.size w W → Calls Tryz.prog 21 #[.string sf, .string ⟨#[46]⟩] W fun e w' => e = .returned (.bool hs) ∧ W = w'))
    (hp : sf.size ≤ 1000)
    (HR : Hid ((if hs then sf else sf ++ ⟨#[46, 48]⟩) ++ ⟨#[]⟩ = R))
    (o0 : FloatKind.f64.format.order m 0 = some .eq ∨ FloatKind.f64.format.order m 0 = some .gt ∧ (FloatKind.f64.format.order m 4517329193108106637 = some .gt ∨ FloatKind.f64.format.order m 4517329193108106637 = some .eq)) :
    Calls Tryz.prog 6 #[.float .f64 x] w fun e w' => e = .returned (.string R) ∧ Below w.heap.size w w' := by
  rcases o0 with o0 | ⟨o0, o1⟩
  · clear HC
    go_enter Tryz.func6, Tryz.ntmps6
    go_wp2_with fail
    refine (HN.out _).mono ?_
    rintro e w2 ⟨rfl, rfl⟩
    go_wp2_with fail
    refine (HI.out _).mono ?_
    rintro e w2 ⟨rfl, rfl⟩
    go_wp2_with fail
    refine (HJ.out _).mono ?_
    rintro e w2 ⟨rfl, rfl⟩
    go_wp2_with fail
    refine (HF.out _ (Below.refl _ _)).mono ?_
    rintro e w2 ⟨rfl, hb2⟩
    go_wp2_with fail
    refine (HA.out _).mono ?_
    rintro e w3 ⟨rfl, rfl⟩
    go_wp2_with fail
    refine (HD.out _ hb2).mono ?_
    rintro e w6 ⟨rfl, rfl⟩
    cases hs
    · go_wp2_with fail
      go_ret
      refine ⟨?_, hb2⟩
      rw [← HR.out]
      rfl
    · go_wp2_with fail
      go_ret
      refine ⟨?_, hb2⟩
      rw [← HR.out]
      rfl
  · rcases HC with HC | hC
    · rcases o1 with o1 | o1
      all_goals
        go_enter Tryz.func6, Tryz.ntmps6
        go_wp2_with fail
        refine (HN.out _).mono ?_
        rintro e w2 ⟨rfl, rfl⟩
        go_wp2_with fail
        refine (HI.out _).mono ?_
        rintro e w2 ⟨rfl, rfl⟩
        go_wp2_with fail
        refine (HJ.out _).mono ?_
        rintro e w2 ⟨rfl, rfl⟩
        go_wp2_with fail
        refine (HF.out _ (Below.refl _ _)).mono ?_
        rintro e w2 ⟨rfl, hb2⟩
        go_wp2_with fail
        refine (HA.out _).mono ?_
        rintro e w3 ⟨rfl, rfl⟩
        go_wp2_with fail
        refine (HC.out _).mono ?_
        rintro e w3 ⟨rfl, rfl⟩
        go_wp2_with fail
        refine (HD.out _ hb2).mono ?_
        rintro e w6 ⟨rfl, rfl⟩
        cases hs
        · go_wp2_with fail
          go_ret
          refine ⟨?_, hb2⟩
          rw [← HR.out]
          rfl
        · go_wp2_with fail
          go_ret
          refine ⟨?_, hb2⟩
          rw [← HR.out]
          rfl
    · rw [hC] at o0; cases o0
theorem nan_call (x : Nat) (h : FloatKind.f64.format.order x x = none) (w : World) : Calls Tryz.prog 15 #[.float .f64 x] w fun e w' => e = .returned (.bool true) ∧ w = w' := by
  go_enter Tryz.func15, Tryz.ntmps15
  go_wp2_with fail
  go_ret
  exact ⟨rfl, rfl⟩
theorem float_nan {w : World} {x : Nat} (h : FloatKind.f64.format.order x x = none) : Calls Tryz.prog 6 #[.float .f64 x] w fun e w' => e = .returned (.string ⟨#[110, 97, 110]⟩) ∧ Below w.heap.size w w' := by
  go_enter Tryz.func6, Tryz.ntmps6
  go_wp2_with fail
  refine (nan_call x h _).mono ?_
  rintro e w2 ⟨rfl, rfl⟩
  go_wp2_with fail
  go_ret
  exact ⟨rfl, Below.refl _ _⟩
theorem infU_call (x : Nat) (h : FloatKind.f64.format.order x 9218868437227405311 = some .gt) (w : World) : Calls Tryz.prog 16 #[.float .f64 x, .int .i64 1] w fun e w' => e = .returned (.bool true) ∧ w = w' := by
  go_enter Tryz.func16, Tryz.ntmps16
  go_wp2_with fail
  go_ret
  exact ⟨rfl, rfl⟩
theorem infD_call (x y : Nat) (n1 : ∀ W, Sem.run Tryz.prog (Op.unary .neg (.float .f64 x)) W = .ok (.float .f64 y) W) (h : FloatKind.f64.format.order y 9218868437227405311 = some .gt) (w : World) : Calls Tryz.prog 16 #[.float .f64 x, .int .i64 (-1)] w fun e w' => e = .returned (.bool true) ∧ w = w' := by
  go_enter Tryz.func16, Tryz.ntmps16
  go_wp2_with fail
  go_ret
  exact ⟨rfl, rfl⟩
theorem float_infU {w : World} : Calls Tryz.prog 6 #[.float .f64 9218868437227405312] w fun e w' => e = .returned (.string ⟨#[105, 110, 102]⟩) ∧ Below w.heap.size w w' := by
  have h1 := isNaN_fin 9218868437227405312 (by kernel_rfl)
  have h2 := infU_call 9218868437227405312 (by kernel_rfl)
  generalize (9218868437227405312 : Nat) = x at *
  go_enter Tryz.func6, Tryz.ntmps6
  go_wp2_with fail
  refine (h1 _).mono ?_
  rintro e w2 ⟨rfl, rfl⟩
  go_wp2_with fail
  refine (h2 _).mono ?_
  rintro e w2 ⟨rfl, rfl⟩
  go_wp2_with fail
  go_ret
  exact ⟨rfl, Below.refl _ _⟩
theorem float_infD {w : World} : Calls Tryz.prog 6 #[.float .f64 18442240474082181120] w fun e w' => e = .returned (.string ⟨#[45, 105, 110, 102]⟩) ∧ Below w.heap.size w w' := by
  have h1 := isNaN_fin 18442240474082181120 (by kernel_rfl)
  have h2 := infUp_fin 18442240474082181120 (Or.inl (by kernel_rfl))
  have h3 := infD_call 18442240474082181120 9218868437227405312 (fun W => by kernel_rfl) (by kernel_rfl)
  generalize (18442240474082181120 : Nat) = x at *
  go_enter Tryz.func6, Tryz.ntmps6
  go_wp2_with fail
  refine (h1 _).mono ?_
  rintro e w2 ⟨rfl, rfl⟩
  go_wp2_with fail
  refine (h2 _).mono ?_
  rintro e w2 ⟨rfl, rfl⟩
  go_wp2_with fail
  refine (h3 _).mono ?_
  rintro e w2 ⟨rfl, rfl⟩
  go_wp2_with fail
  go_ret
  exact ⟨rfl, Below.refl _ _⟩
theorem Float_any {w : World} {B b : Nat} (hG : RG B w) (hb : b < 18446744073709551616) : Calls Tryz.prog 6 #[.float .f64 b] w fun e w' => e = .returned (.string ⟨(fltT b).toArray⟩) ∧ Below w.heap.size w w' := by
  unfold fltT
  by_cases hE : ftE b = 2047
  · rcases not_fin hb hE with ⟨h1, h2⟩ | rfl | rfl
    · rw [if_pos h1]
      exact float_nan h2
    · rw [if_neg (by decide), if_pos rfl]
      exact float_infU
    · rw [if_neg (by decide), if_neg (by decide), if_pos rfl]
      exact float_infD
  · obtain ⟨n1, n2, n3⟩ := fin_of hE
    rw [if_neg n1, if_neg n2, if_neg n3]
    have HN := Lib.hid (fun W => (fin_calls hb hE W).1)
    have HI := Lib.hid (fun W => (fin_calls hb hE W).2.1)
    have HJ := Lib.hid (fun W => (fin_calls hb hE W).2.2)
    have HF := Lib.hid (fun W (h : Below w.heap.size w W) => fmt102 (hG.below h).fg hb hE)
    have HA := Lib.hid (fun W => abs_any b W)
    have hmm := order_same (abs_lt hb) (by rw [abs_ftE hb]; exact hE)
    have hcc : FloatKind.f64.format.order 4921056587992461136 4921056587992461136 = some .eq := by kernel_rfl
    have hd (hs : Bool) (l : List UInt8) : (if hs then (⟨l.toArray⟩ : ByteArray) else ⟨l.toArray⟩ ++ ⟨#[46, 48]⟩) = ⟨(if hs = true then l else l ++ [46, 48]).toArray⟩ := by
      cases hs
      · exact ba_plus l [46, 48]
      · rfl
    have small (hs : Bool) (h : fT102 b = fT102 b) (he : (fT102 b).contains 46 = hs) : (if hs then (⟨(fT102 b).toArray⟩ : ByteArray) else ⟨(fT102 b).toArray⟩ ++ ⟨#[46, 48]⟩) ++ ⟨#[]⟩ = ⟨(dotT (fT102 b)).toArray⟩ := by
      rw [hd]
      unfold dotT
      rw [he]
      exact (ba_plus _ []).trans (by rw [List.append_nil])
    have HD := Lib.hid (fun W (h : Below w.heap.size w W) => dot_call (hG.below h) (fT102 b) (by have := fT102_len hb hE; omega))
    have hsz : (⟨(fT102 b).toArray⟩ : ByteArray).size ≤ 1000 := by
      show (fT102 b).toArray.size ≤ 1000
      simpa using fT102_len hb hE
    rcases abs_cases hb hE with ⟨hM, o0⟩ | ⟨hM, o0, h⟩
    · rw [if_neg (by simp [hM])]
      exact float_small HN HI HJ HF HA (Or.inr o0) HD hsz (Lib.hid (small _ rfl rfl)) (Or.inl o0)
    · have big (hB : bigB b = true) (o1 : FloatKind.f64.format.order (absB b) 4517329193108106637 = some .lt ∨ FloatKind.f64.format.order (absB b) 4517329193108106637 = some .gt ∨ FloatKind.f64.format.order (absB b) 4517329193108106637 = some .eq)
          (HC : Hid (∀ W, Calls Tryz.prog 19 #[.float .f64 (absB b), .float .f64 4921056587992461136] W fun e w' => (∃ n : Int, 0 ≤ n ∧ e = .returned (.int .i64 n)) ∧ W = w') ∨ FloatKind.f64.format.order (absB b) 4517329193108106637 = some .lt) :
          Calls Tryz.prog 6 #[.float .f64 b] w fun e w' => e = .returned (.string ⟨(if ftM b ≠ 0 ∧ bigB b = true then dotT (fmS (ftN b) ++ fmM (ftD b)) ++ 101 :: fmX (ftQ b - 1) else dotT (fT102 b)).toArray⟩) ∧ Below w.heap.size w w' := by
        rw [if_pos ⟨hM, hB⟩]
        have hl := fT101_len hb hE hM
        have HE := Lib.hid (fun W (h : Below w.heap.size w W) => fmt101 (hG.below h).fg hb hE hM)
        rw [fT101_is] at HE
        have hn := fmE_head (ftN b) b
        generalize fmS (ftN b) ++ fmM (ftD b) = p at *
        generalize fmX (ftQ b - 1) = q at *
        have HX := Lib.hid (fun W => (show Calls Tryz.prog 20 #[.string ⟨(p ++ 101 :: q).toArray⟩, .int .u8 101] W fun e w' => e = .returned (.int .i64 (p.length : Int)) ∧ W = w' from
          (Tryz.strings_IndexByte ⟨(p ++ 101 :: q).toArray⟩ 101 W).mono fun e w' h => ⟨h.1.trans (by
            have : Lib.indexByte (p ++ 101 :: q) (101 : Int).toNat.toUInt8 = (p.length : Int) := index_cut hn
            rw [← this]), h.2.symm⟩))
        have HD2 := Lib.hid (fun W (h : Below w.heap.size w W) => dot_call (hG.below h) p (by omega))
        have e1 := ba_cut_l p (101 :: q)
        have e2 := ba_cut_r p (101 :: q)
        have e3 : (⟨(p ++ 101 :: q).toArray⟩ : ByteArray).size = (p ++ 101 :: q).length := by show (p ++ 101 :: q).toArray.size = _; simp
        rw [← e3] at e2
        refine float_big (n := 0) HN HI HJ HF HE HA HC HX HD2 e1 e2 (by rw [e3]; simp) (by show p.toArray.size ≤ 100; simpa using hl.1) (by show (101 :: q).toArray.size ≤ 100; simpa using hl.2) (Lib.hid ?_) o0 o1
        rw [hd]
        exact (ba_plus _ _).trans rfl
      rcases h with ⟨hB, o1⟩ | ⟨o1, ⟨hB, o2⟩ | ⟨hB, o2⟩⟩
      · exact big hB (Or.inl o1) (Or.inr o1)
      · exact big hB (Or.inr o1) (Or.inl (Lib.hid fun W => cmp_ge _ _ hmm hcc o2 W))
      · rw [if_neg (by simp [hB])]
        exact float_small HN HI HJ HF HA (Or.inl (Lib.hid fun W => cmp_lt _ _ hmm hcc o2 W)) HD hsz (Lib.hid (small _ rfl rfl)) (Or.inr ⟨o0, o1⟩)
end Go.Proofs.YtbgjhgohffkonaaGreatDoor

