/- ValueFloats: the walk. -/
import Derived.Test.YtbgjhgohffkonaaGreatDoorFlW
import Derived.Test.YtbgjhgohffkonaaGreatDoorShownV
import Derived.Test.YtbgjhgohffkonaaGreatDoorVtH
import Derived.Test.YtbgjhgohffkonaaGreatDoorVtN
import Derived.Test.YtbgjhgohffkonaaGreatDoorM06
import Derived.Test.YtbgjhgohffkonaaGreatDoorRows
import Derived.LaidLaws
import Derived.LaidMore
import Derived.LaidHandle
import Derived.ProofKit
import Derived.OpenShut
import Derived.Lay
import Derived.Lib.LaidTab
import Derived.Stop.Joined
import Derived.ChangeMaps5
import Derived.Shelf.Vars
namespace Go.Proofs.YtbgjhgohffkonaaGreatDoor
open Go.RowKit Go.Shelf
set_option linter.unusedVariables false
attribute [local go_sem] store_flt run_bits64 run_frombits64
set_option maxHeartbeats 1000000 in
set_option maxRecDepth 100000 in
theorem text_flt {B : Nat} {w : World} (hG : RG B w) (b : Nat) (hb : b < 18446744073709551616) : Calls Tryz.prog 8 #[(.agg #[.int .i64 3, .int .i64 0, .float .f64 (b), .string ⟨#[]⟩, .slice none 0 0, .slice none 0 0])] w fun e w' => e = .returned (.tuple #[.string ⟨(fltT b).toArray⟩, .int .i64 0]) ∧ Below w.heap.size w w' := by
  have hb0 : Below w.heap.size w (w.alloc (.cells #[.int .i64 3, .int .i64 0, .float .f64 b, .string ⟨#[]⟩, .slice none 0 0, .slice none 0 0] 37 (0, 0))) := (Below.refl _ w).alloc (Nat.le_refl _) _
  have hr0 := block_new w (.cells #[.int .i64 3, .int .i64 0, .float .f64 b, .string ⟨#[]⟩, .slice none 0 0, .slice none 0 0] 37 (0, 0)) rfl
  have HF := Lib.hid (fun W (h : RG B W) => Float_any h hb)
  clear hb
  generalize fltT b = l at *
  go_enter Tryz.func8, Tryz.ntmps8
  go_wp2_with fail
  refine (Right_flt b _).mono ?_
  rintro e w1 ⟨rfl, hb1⟩
  have hr1 := block_below hr0 hb1
  have hB1 := hb0.trans (hb1.mono hb0.size)
  have q0 := block_cell (i := 0) hr1 rfl
  have q2 := block_cell (i := 2) hr1 rfl
  clear hr0 hb0 hr1 hb1
  go_wp2_with fail
  refine (HF.out _ (hG.below hB1)).mono ?_
  rintro e w2 ⟨rfl, hb2⟩
  go_wp2_with fail
  go_ret2
  exact ⟨rfl, hB1.trans (hb2.mono hB1.size)⟩
theorem core_dot {b : Nat} (hb : b < 18446744073709551616) (hE : ftE b ≠ 2047) : (fltT b).contains 46 = true ∧ (fltT b).length ≤ 801 := by
  obtain ⟨A, Bb, X, r, s, hl, hS, _⟩ := core_read hb hE
  have h1 := hS.small
  have h2 : (coreT b).length ≤ 800 := by
    have : (coreT b).toArray.size ≤ 800 := h1
    simpa using this
  rw [flt_core hE]
  refine ⟨?_, ?_⟩
  · rw [hl]; simp
  · have : (fmS (ftN b)).length ≤ 1 := fmS_len _
    rw [List.length_append]; omega
theorem back_flt {B b : Nat} {w : World} (hG : PfG B w) (hB : B ≤ w.heap.size) (hb : b < 18446744073709551616) (hE : ftE b ≠ 2047) :
    Calls Tryz.prog 7 #[.string ⟨(fltT b).toArray⟩, .int .i64 64] w fun e w' => e = .returned (.tuple #[.float .f64 b, .nilIface]) ∧ Below w.heap.size w w' := by
  have h := atG_of hG hB (ftN b) (core_read hb hE)
  rw [flt_core hE]
  have e : (b % 9223372036854775808 + if ftN b = true then 9223372036854775808 else 0) = b := by
    unfold ftN
    by_cases h : 9223372036854775808 ≤ b
    · rw [if_pos (decide_eq_true h)]; omega
    · rw [if_neg (by simpa using h)]; omega
  rw [e] at h
  exact parseFloatS_any h
/-- Is there a point among the first k bytes? -/
def dotB (l : List UInt8) (k : Nat) : Bool := (l.take k).contains 46
theorem dotB_succ {l : List UInt8} {k : Nat} (h : k < l.length) : dotB l (k + 1) = (dotB l k || l[k] == 46) := by
  unfold dotB
  rw [List.take_succ_eq_append_getElem h]
  simp only [List.contains_eq_any_beq, List.any_append, List.any_cons, List.any_nil, Bool.or_false]
  congr 1
  rw [Bool.eq_iff_iff]
  simp only [beq_iff_eq]
  exact ⟨fun h => h.symm, fun h => h.symm⟩
set_option maxHeartbeats 1000000 in
set_option maxRecDepth 100000 in
theorem law_nan {B : Nat} {w : World} (hP : PG w) (hG : RG B w) {b : Nat} (hb : b < 18446744073709551616) (h1 : 9218868437227405312 < b % 9223372036854775808) (ho : F64.order b b = none) : Calls Tryz.prog 3 #[.int .u64 b] w fun e w' => e = .returned (.bool true) ∧ Below w.heap.size w w' := by
  have HF := Lib.hid (fun W (h : RG B W) => Float_any h hb)
  have hT : fltT b = [110, 97, 110] := by unfold fltT; rw [if_pos h1]
  rw [hT] at HF
  have ho' : FloatKind.f64.format.order b b = none := ho
  clear hT h1 ho hb
  go_enter Tryz.func3, Tryz.ntmps3
  go_wp2_with fail
  refine (shown_any hP).mono ?_
  rintro e w1 ⟨rfl, hb1⟩
  go_wp2_with fail
  refine (HF.out _ (hG.below hb1)).mono ?_
  rintro e w2 ⟨rfl, hb2⟩
  go_wp2_with fail
  go_ret
  exact ⟨rfl, hb1.trans (hb2.mono hb1.size)⟩
set_option maxHeartbeats 1000000 in
set_option maxRecDepth 100000 in
theorem law_up {B : Nat} {w : World} (hP : PG w) (hG : RG B w) : Calls Tryz.prog 3 #[.int .u64 (9218868437227405312 : Nat)] w fun e w' => e = .returned (.bool true) ∧ Below w.heap.size w w' := by
  have HF := Lib.hid (fun W (h : RG B W) => Float_any (b := 9218868437227405312) h (by decide))
  have hT : fltT 9218868437227405312 = [105, 110, 102] := by unfold fltT; rw [if_neg (by decide), if_pos rfl]
  rw [hT] at HF
  have h1 : FloatKind.f64.format.order 9218868437227405312 9218868437227405312 = some .eq := by kernel_rfl
  have h2 : FloatKind.f64.format.order 9218868437227405312 9218868437227405311 = some .gt := by kernel_rfl
  clear hT
  generalize (9218868437227405312 : Nat) = b at *
  go_enter Tryz.func3, Tryz.ntmps3
  go_wp2_with fail
  refine (shown_any hP).mono ?_
  rintro e w1 ⟨rfl, hb1⟩
  go_wp2_with fail
  refine (HF.out _ (hG.below hb1)).mono ?_
  rintro e w2 ⟨rfl, hb2⟩
  go_wp2_with fail
  go_ret
  exact ⟨rfl, hb1.trans (hb2.mono hb1.size)⟩
set_option maxHeartbeats 1000000 in
set_option maxRecDepth 100000 in
theorem law_down {B : Nat} {w : World} (hP : PG w) (hG : RG B w) : Calls Tryz.prog 3 #[.int .u64 (18442240474082181120 : Nat)] w fun e w' => e = .returned (.bool true) ∧ Below w.heap.size w w' := by
  have HF := Lib.hid (fun W (h : RG B W) => Float_any (b := 18442240474082181120) h (by decide))
  have hT : fltT 18442240474082181120 = [45, 105, 110, 102] := by unfold fltT; rw [if_neg (by decide), if_neg (by decide), if_pos rfl]
  rw [hT] at HF
  have h1 : FloatKind.f64.format.order 18442240474082181120 18442240474082181120 = some .eq := by kernel_rfl
  have h2 : FloatKind.f64.format.order 18442240474082181120 9218868437227405311 = some .lt := by kernel_rfl
  have h3 : FloatKind.f64.format.order 18442240474082181120 18442240474082181119 = some .lt := by kernel_rfl
  clear hT
  generalize (18442240474082181120 : Nat) = b at *
  go_enter Tryz.func3, Tryz.ntmps3
  go_wp2_with fail
  refine (shown_any hP).mono ?_
  rintro e w1 ⟨rfl, hb1⟩
  go_wp2_with fail
  refine (HF.out _ (hG.below hb1)).mono ?_
  rintro e w2 ⟨rfl, hb2⟩
  go_wp2_with fail
  go_ret
  exact ⟨rfl, hb1.trans (hb2.mono hb1.size)⟩
set_option maxHeartbeats 2000000 in
set_option maxRecDepth 100000 in
theorem law_fin {B : Nat} {w : World} (hP : PG w) (hG : RG B w) (hF : PfG B w) (hBw : B ≤ w.heap.size) {b : Nat} (hb : b < 18446744073709551616) (hE : ftE b ≠ 2047)
    (o2 : FloatKind.f64.format.order b 9218868437227405311 = some .lt ∨ FloatKind.f64.format.order b 9218868437227405311 = some .eq)
    (o3 : FloatKind.f64.format.order b 18442240474082181119 = some .gt ∨ FloatKind.f64.format.order b 18442240474082181119 = some .eq) : Calls Tryz.prog 3 #[.int .u64 b] w fun e w' => e = .returned (.bool true) ∧ Below w.heap.size w w' := by
  have HF := Lib.hid (fun W (h : RG B W) => Float_any h hb)
  have HPF := Lib.hid (fun W (h : Below w.heap.size w W) => back_flt (w := W) (hF.keeps hBw h) (Nat.le_trans hBw h.size) hb hE)
  have HTX := Lib.hid (fun W (h : RG B W) => text_flt h b hb)
  have o1 : FloatKind.f64.format.order b b = some .eq := order_same hb hE
  obtain ⟨hdot, hlen⟩ := core_dot hb hE
  have HDOT := Lib.hid hdot
  obtain ⟨c2, hc2, hn2⟩ : ∃ c2, FloatKind.f64.format.order b 9218868437227405311 = some c2 ∧ (some c2 == some Ordering.gt) = false := by
    rcases o2 with h | h
    · exact ⟨_, h, rfl⟩
    · exact ⟨_, h, rfl⟩
  obtain ⟨c3, hc3, hn3⟩ : ∃ c3, FloatKind.f64.format.order b 18442240474082181119 = some c3 ∧ (some c3 == some Ordering.lt) = false := by
    rcases o3 with h | h
    · exact ⟨_, h, rfl⟩
    · exact ⟨_, h, rfl⟩
  clear hdot o2 o3 hF hb hE
  generalize fltT b = l at *
  obtain ⟨T, hT⟩ : ∃ T : ByteArray, T = ⟨l.toArray⟩ := ⟨_, rfl⟩
  have hsz : T.size = l.length := by rw [hT]; show l.toArray.size = _; simp
  have hgt : ∀ k (h : k < T.size), T[k] = l[k]'(by omega) := by
    subst hT
    intro k h
    rfl
  rw [← hT] at HF HPF HTX
  have HGT := Lib.hid hgt
  clear hT hgt
  go_enter Tryz.func3, Tryz.ntmps3
  go_wp2_with fail
  refine (shown_any hP).mono ?_
  rintro e w1 ⟨rfl, hb1⟩
  go_wp2_with fail
  refine (HF.out _ (hG.below hb1)).mono ?_
  rintro e w2 ⟨rfl, hb2⟩
  have hB2 := hb1.trans (hb2.mono hb1.size)
  go_wp2_with fail
  refine (HPF.out _ hB2).mono ?_
  rintro e w3 ⟨rfl, hb3⟩
  have hB3 := hB2.trans (hb3.mono hB2.size)
  have HB3 := Lib.hid hB3
  clear hb1 hb2 hB2 hb3 hB3
  go_wp2_with fail
  go_loopw [8, 9] (fun v8 v9 wr => ∃ k : Nat, k ≤ T.size ∧ v8 = .bool (dotB l k) ∧ v9 = .int .i64 k ∧ wr = w3) (fun _ i _ => T.size - (intOf i).toNat)
  case atStart => exact ⟨0, Nat.zero_le _, rfl, rfl, by trivial⟩
  case round =>
    obtain ⟨k, hk, rfl, rfl, rfl⟩ := hrel
    by_cases hkn : k < T.size
    · have hst := dotB_succ (l := l) (k := k) (by omega)
      have hgk := HGT.out k hkn
      have hc : ((T[k].toNat : Int) == 46) = (l[k]'(by omega) == 46) := by
        rw [hgk, Bool.eq_iff_iff]
        simp only [beq_iff_eq]
        constructor
        · intro h
          exact UInt8.toNat_inj.1 (by have : (46 : UInt8).toNat = 46 := rfl; omega)
        · intro h
          rw [h]; rfl
      rw [← hc] at hst
      have HST := Lib.hid hst
      clear hst hgk hc
      cases hd : dotB l k
      · rw [hd, Bool.false_or] at HST
        go_wp2_with fail
        go_roundw
        case rel => exact ⟨k + 1, by omega, by rw [HST.out], by go_num, by trivial⟩
        case measure => simp [intOf]; omega
      · rw [hd, Bool.true_or] at HST
        go_wp2_with fail
        go_roundw
        case rel => exact ⟨k + 1, by omega, by rw [HST.out], by go_num, by trivial⟩
        case measure => simp [intOf]; omega
    · obtain rfl : k = T.size := by omega
      have hd' : dotB l l.length = true := by
        unfold dotB
        rw [List.take_length]
        exact HDOT.out
      have hd : dotB l T.size = true := by rw [hsz]; exact hd'
      go_wp2_with fail
      refine (real_any b _).mono ?_
      rintro e w4 ⟨rfl, hb4⟩
      have hB4 := HB3.out.trans (hb4.mono HB3.out.size)
      have HB4 := Lib.hid hB4
      go_wp2_with fail
      refine (HTX.out _ (hG.below hB4)).mono ?_
      rintro e w5 ⟨rfl, hb5⟩
      have HB5 := Lib.hid (hB4.trans (hb5.mono hB4.size))
      clear hB4 hb4 hb5
      go_wp2_with fail
      go_ret
      exact ⟨rfl, HB5.out⟩
theorem floats_law {B : Nat} {w : World} (hP : PG w) (hG : RG B w) (hF : PfG B w) (hBw : B ≤ w.heap.size) {b : Nat} (hb : b < 18446744073709551616) : Calls Tryz.prog 3 #[.int .u64 b] w fun e w' => e = .returned (.bool true) ∧ Below w.heap.size w w' := by
  by_cases hE : ftE b = 2047
  · rcases not_fin hb hE with ⟨h1, h2⟩ | rfl | rfl
    · exact law_nan hP hG hb h1 h2
    · exact law_up hP hG
    · exact law_down hP hG
  · exact law_fin hP hG hF hBw hb hE (order_max hb hE) (order_min hb hE)
end Go.Proofs.YtbgjhgohffkonaaGreatDoor

/- What the row's premise on the package-level variables gives, for ValueFloats. -/
namespace Go.Proofs.YtbgjhgohffkonaaGreatDoor
open Go.ChangeShapes Go.WideShapes Go.ChangeAt Go.RowKit Go.ChangeMaps
set_option linter.unusedVariables false
theorem rl_types : Tryz.prog.cellsOf 22 = 1 ∧ Tryz.prog.cellsOf 162 = 20 := ⟨by kernel_rfl, by kernel_rfl⟩
set_option maxHeartbeats 1000000 in
set_option maxRecDepth 100000 in
theorem vf_laid {w : World} (h : laidMetH Tryz.prog Rows.valueFloatsRow.laid w) (hs : w.ShapedOpen Tryz.prog) : PG w ∧ RG w.heap.size w ∧ PfG w.heap.size w := by
  have h2 : laidMet Tryz.prog Rows.valueFloatsRow.laid w := h
  obtain ⟨ps, hv, _, _⟩ := h2
  obtain ⟨g0, t0, cs0, fu0, pp0, qq0, a0, b0, c0, d0, hv, _⟩ := hv
  obtain ⟨g1, t1, cs1, fu1, pp1, qq1, a1, b1, c1, d1, hv, _⟩ := hv
  obtain ⟨g2, t2, cs2, fu2, pp2, qq2, a2, b2, c2, d2, hv, _⟩ := hv
  obtain ⟨g3, t3, cs3, fu3, pp3, qq3, a3, b3, c3, d3, hv, _⟩ := hv
  obtain ⟨g4, t4, cs4, fu4, pp4, qq4, a4, b4, c4, d4, hv, _⟩ := hv
  obtain ⟨g5, t5, cs5, fu5, pp5, qq5, a5, b5, c5, d5, hv, _⟩ := hv
  obtain ⟨g6, t6, cs6, fu6, pp6, qq6, a6, b6, c6, d6, hv, _⟩ := hv
  obtain ⟨g7, t7, cs7, fu7, pp7, qq7, a7, b7, c7, d7, hv, _⟩ := hv
  obtain ⟨g8, t8, cs8, fu8, pp8, qq8, a8, b8, c8, d8, hv, _⟩ := hv
  obtain ⟨g9, t9, cs9, fu9, pp9, qq9, a9, b9, c9, d9, hv, _⟩ := hv
  obtain ⟨g10, t10, cs10, fu10, pp10, qq10, a10, b10, c10, d10, hv, _⟩ := hv
  obtain ⟨g11, t11, cs11, fu11, pp11, qq11, a11, b11, c11, d11, hv, _⟩ := hv
  obtain ⟨g12, t12, cs12, fu12, pp12, qq12, a12, b12, c12, d12, hv, _⟩ := hv
  clear hv
  obtain rfl : g4 = 3 := (Option.some.inj ((show Tryz.prog.globalNamed "internal/strconv.optimize" = some 3 by kernel_rfl).symm.trans a4)).symm
  obtain rfl : t4 = 4 := (Option.some.inj ((show (Tryz.prog.globals[(3 : Nat)]?).map (·.type) = some 4 by kernel_rfl).symm.trans b4)).symm
  obtain rfl : g6 = 10 := (Option.some.inj ((show Tryz.prog.globalNamed "internal/strconv.float64pow10" = some 10 by kernel_rfl).symm.trans a6)).symm
  obtain rfl : t6 = 214 := (Option.some.inj ((show (Tryz.prog.globals[(10 : Nat)]?).map (·.type) = some 214 by kernel_rfl).symm.trans b6)).symm
  obtain rfl : g12 = 11 := (Option.some.inj ((show Tryz.prog.globalNamed "internal/strconv.pow10Tab" = some 11 by kernel_rfl).symm.trans a12)).symm
  obtain rfl : t12 = 225 := (Option.some.inj ((show (Tryz.prog.globals[(11 : Nat)]?).map (·.type) = some 225 by kernel_rfl).symm.trans b12)).symm
  obtain rfl : g3 = 6 := (Option.some.inj ((show Tryz.prog.globalNamed "internal/strconv.float64info" = some 6 by kernel_rfl).symm.trans a3)).symm
  obtain rfl : t3 = 145 := (Option.some.inj ((show (Tryz.prog.globals[(6 : Nat)]?).map (·.type) = some 145 by kernel_rfl).symm.trans b3)).symm
  obtain rfl : g8 = 7 := (Option.some.inj ((show Tryz.prog.globalNamed "internal/strconv.uint64pow10" = some 7 by kernel_rfl).symm.trans a8)).symm
  obtain rfl : t8 = 162 := (Option.some.inj ((show (Tryz.prog.globals[(7 : Nat)]?).map (·.type) = some 162 by kernel_rfl).symm.trans b8)).symm
  have hat : ∀ (cs : Array Value) (v : Value) (r : List Value), cs.toList = v :: r → cs[0]? = some v := fun cs v r e => by rw [← Array.getElem?_toList, e]; rfl
  have hopt : w.cell? ⟨3, 0, none⟩ = some (.bool true) := by
    rw [World.var?_cell a4 c4 0]
    exact hat _ _ _ (ga_bool Tryz.underlying4 d4)
  obtain ⟨i0, i1, i2⟩ := ga_info d3
  rw [Array.getElem?_toList] at i0 i1 i2
  rw [← World.var?_cell a3 c3 0] at i0
  have hpw : ∀ i : Nat, i < 696 → w.cell? ⟨11, i * 2, none⟩ = some (.int .u64 (pwR i).1) ∧ w.cell? ⟨11, i * 2 + 1, none⟩ = some (.int .u64 (pwR i).2) := by
    intro i hi
    obtain ⟨z0, z1⟩ := ga_pow d12 hi
    rw [Array.getElem?_toList] at z0 z1
    exact ⟨(World.var?_cell a12 c12 _).trans z0, (World.var?_cell a12 c12 _).trans z1⟩
  have hp10 : ∃ b o c : Nat, b < w.heap.size ∧ w.cell? ⟨10, 0, none⟩ = some (.slice (some ⟨b, o, none⟩) 23 c) ∧ ∀ k : Nat, k < 23 → w.cell? ⟨b, o + k, none⟩ = some (.float .f64 (p10 k)) := by
    obtain ⟨b, o, c, h1, h2⟩ := ga_row (m := 23) (v := fun k => .float .f64 (p10 k)) Tryz.underlying214 (by kernel_rfl) (by decide) rfl (fun i x fuel cs q hx ht => by
      have hi : i < 23 := (List.getElem?_eq_some_iff.1 hx).1
      rcases (by omega : i = 0 ∨ i = 1 ∨ i = 2 ∨ i = 3 ∨ i = 4 ∨ i = 5 ∨ i = 6 ∨ i = 7 ∨ i = 8 ∨ i = 9 ∨ i = 10 ∨ i = 11 ∨ i = 12 ∨ i = 13 ∨ i = 14 ∨ i = 15 ∨ i = 16 ∨ i = 17 ∨ i = 18 ∨ i = 19 ∨ i = 20 ∨ i = 21 ∨ i = 22) with rfl | rfl | rfl | rfl | rfl | rfl | rfl | rfl | rfl | rfl | rfl | rfl | rfl | rfl | rfl | rfl | rfl | rfl | rfl | rfl | rfl | rfl | rfl <;> (cases hx; exact ga_flt ht)) d6
    refine ⟨b, o, c, ga_lt (h2 0 (by decide)), ?_, h2⟩
    rw [World.var?_cell a6 c6 0]
    exact hat _ _ _ h1
  have htab : Lib.TabIs Tryz.prog w "internal/strconv.uint64pow10" .u64 Lib.pow10Tab := by
    have hc := Lib.cells_of_tab (zs := Lib.pow10Tab) Tryz.underlying162 Tryz.underlying22 rl_types.1 rl_types.2 d8
    unfold Lib.TabIs
    rw [c8, ← hc]
  obtain ⟨m, hm⟩ := cell_of_shapedOpen_int (P := Tryz.prog) (g := 4) (t := 3) (zero := #[.int .i64 0]) hs (of_decide_eq_true (by kernel_rfl)) (by kernel_rfl) rfl (by kernel_rfl) (by kernel_rfl) Tryz.underlying3
  have hl : ∀ {g : Nat} {v : Value}, w.cell? ⟨g, 0, none⟩ = some v → g < w.heap.size := fun h => ga_lt h
  have e362 : pwR 362 = (13107200000000000000, 0) := by kernel_rfl
  have hP := hpw 362 (by decide)
  rw [e362] at hP
  have hPW : PwG w.heap.size w := ⟨hl (hpw 0 (by decide)).1, hpw⟩
  exact ⟨⟨hP.1, hP.2, htab⟩, ⟨⟨hPW, Nat.le_refl _, htab⟩, hl hm, m, hm⟩, { opt0 := hl hopt, opt := hopt, inf := hl i0, mant := i0, p10 := ⟨hl hp10.choose_spec.choose_spec.choose_spec.2.1, hp10⟩, pw := hPW }⟩
end Go.Proofs.YtbgjhgohffkonaaGreatDoor

