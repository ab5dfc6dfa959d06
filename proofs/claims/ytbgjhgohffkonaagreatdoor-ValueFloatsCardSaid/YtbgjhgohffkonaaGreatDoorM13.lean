/- internal/strconv.ftoa64 at -1: the walk. -/
import Derived.Test.YtbgjhgohffkonaaGreatDoorM12
import Derived.Laws.IdiomStrings
import Derived.Laws.MakeOwn
namespace Go.Proofs.YtbgjhgohffkonaaGreatDoor
open Go.RowKit Go.Shelf Go.Sort
set_option linter.unusedSimpArgs false
set_option linter.unusedVariables false
theorem run_fbits64 (b : Nat) (w : World) : (callFunc 81 #[.float .f64 b]).run Tryz.prog w = .ok (.value (.int .u64 b)) w := by
  rw [run_callFunc_extern Tryz.func81 (by kernel_rfl) (by kernel_rfl) (by kernel_rfl) (e := Extern.MathFloatBits.float64bits) (by kernel_rfl)]
  rfl
attribute [local go_sem] run_fbits64
/-- What FormatFloat needs of the variables. -/
structure FG (B : Nat) (w : World) : Prop where
  pw : PwG B w
  le : B ≤ w.heap.size
  tab : Lib.TabIs Tryz.prog w "internal/strconv.uint64pow10" .u64 Lib.pow10Tab
theorem FG.below {B : Nat} {w w' : World} (h : FG B w) (hb : Below w.heap.size w w') : FG B w' :=
  ⟨PwG.keeps h.le hb h.pw, Nat.le_trans h.le hb.size, Go.Joins.tab_stays (g := 7) (by kernel_rfl) h.tab hb (Nat.le_refl _)⟩
theorem mask11 (n : Nat) (h : n < 18446744073709551616) : bits .and .i64 (n : Int) 2047 = ((n % 2048 : Nat) : Int) := by
  have key : (BitVec.ofInt 64 (n : Int) &&& BitVec.ofInt 64 2047).toNat = n % 2 ^ 11 := by
    rw [BitVec.toNat_and, BitVec.toNat_ofInt, show (BitVec.ofInt 64 2047).toNat = 2 ^ 11 - 1 by decide, Nat.and_two_pow_sub_one_eq_mod]
    congr 1
    omega
  show IntKind.i64.wrap ((BitVec.ofInt 64 (n : Int) &&& BitVec.ofInt 64 2047).toNat : Nat) = _
  rw [key]
  exact IntWalk.i64_in _ (by omega)
theorem or52 {m : Nat} (h : m < 4503599627370496) : bits .or .u64 (m : Int) 4503599627370496 = ((m + 4503599627370496 : Nat) : Int) := by
  have := u64_or_nat m 4503599627370496 (by omega) (by decide)
  have e := or_high (k := 1) h
  rw [Nat.one_mul] at e
  rw [e] at this
  exact this
theorem fmtF_any {w : World} {base bb nd : Nat} {D : List UInt8} {v : Value} (hD : DS base bb D w w v []) (hnd : D.length = nd) (hn0 : 0 < nd) (hn1 : nd ≤ 32) (neg : Bool) (Q : Int) (h1 : -1000 ≤ Q) (h2 : Q ≤ 1000) :
    Calls Tryz.prog 84 #[v, .bool neg, .slice (some ⟨bb, 0, none⟩) 32 32, .int .i64 Q, .int .i64 (nd : Int), .int .i64 (max ((nd : Int) - Q) 0), .int .u8 102, .bool true] w fun e w' => ∃ v', e = .returned v' ∧ DS base bb D w w' v' (fmF neg D Q) := by
  by_cases h : 0 < Q
  · obtain ⟨dn, rfl⟩ : ∃ dn : Nat, Q = dn := ⟨Q.toNat, by omega⟩
    exact fmtF_pos hD hnd hn0 hn1 neg dn (by omega) (by omega)
  · obtain ⟨z, rfl⟩ : ∃ z : Nat, Q = -(z : Int) := ⟨(-Q).toNat, by omega⟩
    exact fmtF_neg hD hnd hn0 hn1 neg z (by omega)
set_option maxHeartbeats 1000000 in
set_option maxRecDepth 100000 in
theorem ftoa_any {w : World} {B base g0 b : Nat} (hG : FG B w) (hbase : base ≤ w.heap.size) (own0 : w.ownsRow base 5 1 (.slice (some ⟨g0, 0, none⟩) 0 24) 0 (Lib.byteCells [])) (hg0 : g0 < w.heap.size)
    (hb : b < 18446744073709551616) (hE : ftE b ≠ 2047) (hM : ftM b ≠ 0) (fc : Nat) (hfc : fc = 101 ∨ fc = 102) :
    Calls Tryz.prog 60 #[.slice (some ⟨g0, 0, none⟩) 0 24, .float .f64 b, .int .u8 (fc : Int), .int .i64 (-1)] w fun e w' =>
      ∃ v L, e = .returned v ∧ L = (if fc = 101 then fmE (ftN b) (ftD b) (ftQ b) else fmF (ftN b) (ftD b) (ftQ b)) ∧ w'.ownsRow base 5 1 v L.length (Lib.byteCells L) ∧ Below base w w' := by
  obtain ⟨hl1, hl2, hW64, hOK⟩ := ft_ok hb hE hM
  have hbd := short_bd hOK
  have HSH := Lib.hid (fun (W : World) (m e : Int) (hm : m = (ftW b : Int)) (he : e = ftX b - ftS b - 52) (h : FG B W) => (show Calls Tryz.prog 93 #[.int .u64 m, .int .i64 e] W fun en w' => en = .returned (.tuple #[.int .u64 (ftP b).1, .int .i64 (ftP b).2]) ∧ Below W.heap.size W w' by rw [hm, he]; exact short_any h.pw h.le hOK))
  have hE1 : bits .and .i64 ((b : Int) / 4503599627370496) 2047 = (ftE b : Int) := mask11 (b / 4503599627370496) (by omega)
  have hM1 : bits .and .u64 (b : Int) 4503599627370495 = ((b % 4503599627370496 : Nat) : Int) := u64_and_mask b 52 (by decide) hb
  have hor := or52 (m := b % 4503599627370496) (Nat.mod_lt _ (by decide))
  have hbq : (b : Int) / 4503599627370496 < 4096 := by omega
  have hNN : (((b : Int) / 9223372036854775808) != 0) = ftN b := by
    unfold ftN
    by_cases h : 9223372036854775808 ≤ b
    · rw [decide_eq_true h]; simp; omega
    · rw [decide_eq_false h]; simp; omega
  have HEl : ftE b < 2048 := Nat.mod_lt _ (by decide)
  have hne1 : ((ftE b : Int) == 2047) = false := by rw [beq_eq_false_iff_ne]; omega
  have HL := Lib.hid (fun W => (Tryz.bits_Len64 (ftM b : Int) W (by omega) (by unfold ftM; split <;> omega)).mono (R' := fun e w' => e = .returned (.int .i64 (Lib.bitLen (ftM b) : Nat)) ∧ W = w') fun e w' h => ⟨h.1, h.2.symm⟩)
  have hS : 64 - (Lib.bitLen (ftM b) : Int) = (ftS b : Int) := by unfold ftS; omega
  have hS64 : ftS b ≤ 63 := by unfold ftS; omega
  have HWW : Hid (IntKind.u64.wrap ((ftM b : Int) * 2 ^ ftS b) = (ftW b : Int)) := Lib.hid (by
    have e : (ftM b : Int) * 2 ^ ftS b = (ftW b : Int) := by
      show _ = ((ftM b * 2 ^ ftS b : Nat) : Int)
      rw [Int.natCast_mul, Int.natCast_pow]
      rfl
    rw [e, IntWalk.u64_in _ (by omega)])
  have hmz : ((ftM b : Int) == 0) = false := by rw [beq_eq_false_iff_ne]; omega
  have s3 : ∀ W, Sem.run Tryz.prog (Op.shift .shl .i64 1 .i64 11) W = .ok (.int .i64 2048) W := fun W => by kernel_rfl
  have s5 : ∀ W, Sem.run Tryz.prog (Op.shift .shl .u64 1 .i64 52) W = .ok (.int .u64 4503599627370496) W := fun W => by kernel_rfl
  have s1 : ∀ W, Sem.run Tryz.prog (Op.shift .shr .u64 (b : Int) .i64 63) W = .ok (.int .u64 ((b : Int) / 9223372036854775808)) W := fun W => by
    rw [shift_shr .u64 .i64 (b : Int) 63 (by decide) (by decide)]; rfl
  have s2 : ∀ W, Sem.run Tryz.prog (Op.shift .shr .u64 (b : Int) .i64 52) W = .ok (.int .u64 ((b : Int) / 4503599627370496)) W := fun W => by
    rw [shift_shr .u64 .i64 (b : Int) 52 (by decide) (by decide)]; rfl
  have hX : ftX b = if ftE b = 0 then -1022 else (ftE b : Int) - 1023 := rfl
  have hMM : ftM b = if ftE b = 0 then b % 4503599627370496 else b % 4503599627370496 + 4503599627370496 := rfl
  change 1 ≤ (ftP b).1 ∧ (ftP b).1 < 1152921504606846976 ∧ -347 ≤ (ftP b).2 ∧ (ftP b).2 ≤ 349 at hbd
  have hNDr := nd_range (d := (ftP b).1) (by omega)
  have hDl : 1 ≤ (ftD b).length ∧ (ftD b).length ≤ 20 := ⟨stripZ_pos _ _ (Nat.le_refl _) hbd.1, Nat.le_trans (stripZ_len _) (by rw [Lib.decDigits_length]; exact hNDr.2)⟩
  have hQl : -400 ≤ ftQ b ∧ ftQ b ≤ 400 := by unfold ftQ; omega
  have HN := Lib.hid (fun W (h : FG B W) => (Tryz.internal_strconv_numDigits (ftP b).1 hbd.1 (by omega) W h.tab).mono (R' := fun e w' => e = .returned (.int .i64 (Lib.nDigits (ftP b).1 : Nat)) ∧ W = w') fun e w' h => ⟨h.1, h.2.symm⟩)
  have HSD := Lib.hid (fun (W : World) (bb : Nat) (h1 : bb < W.heap.size) (h2 : ∀ j, j < 32 → W.cell? ⟨bb, j, none⟩ = some (.int .u8 0) ∧ W.frozen? ⟨bb, j, none⟩ = false) =>
    (show Calls Tryz.prog 87 #[.slice (some ⟨bb, 0, none⟩) 32 32, .int .u64 (ftP b).1, .int .i64 (ftP b).2, .int .i64 (Lib.nDigits (ftP b).1 : Nat)] W fun e w' =>
      e = .returned (.tuple #[.int .i64 (ftQ b), .int .i64 ((ftD b).length : Nat)]) ∧ (∀ (j : Nat) (c : UInt8), (ftD b)[j]? = some c → w'.cell? ⟨bb, j, none⟩ = some (.int .u8 c.toNat)) ∧ Below bb W w' ∧ w'.heap.size = W.heap.size from
      setDig_any hbd.1 (by omega) (by omega) (by omega) h1 h2))
  have hSx : Lib.bitLen (ftM b) ≤ 53 := hl2
  clear hb hW64 hOK hE hM hl1 hl2
  generalize ftE b = E at *
  generalize ftN b = N at *
  generalize ftD b = D at *
  generalize ftQ b = Q at *
  generalize ftX b = X at *
  generalize ftS b = S at *
  generalize ftW b = WW at *
  generalize Lib.bitLen (ftM b) = LB at *
  generalize ftM b = MM at *
  generalize b % 4503599627370496 = M0 at *
  generalize Lib.nDigits (ftP b).1 = ND at *
  generalize (ftP b).1 = d at *
  generalize (ftP b).2 = p at *
  have HBD := Lib.hid hbd
  have HX : Hid (X = if E = 0 then -1022 else (E : Int) - 1023) := Lib.hid hX
  clear hbd hX
  have hf1 : ((fc : Int) == 98) = false := by rw [beq_eq_false_iff_ne]; omega
  have hf2 : ((fc : Int) == 120) = false := by rw [beq_eq_false_iff_ne]; omega
  have hf3 : ((fc : Int) == 88) = false := by rw [beq_eq_false_iff_ne]; omega
  by_cases hE0 : E = 0
  · have HX2 : Hid (X = -1022) := Lib.hid (by rw [HX.out, if_pos hE0])
    clear HX
    rw [if_pos hE0] at hMM
    rw [← hMM] at hM1
    subst hE0
    clear hMM hor
    go_enter Tryz.func60, Tryz.ntmps60
    go_wp2_with fail
    go_quiet (fail)
    go_wp2_with fail
    refine (HL.out _).mono ?_
    rintro e w1 ⟨rfl, rfl⟩
    go_wp2_with fail
    refine (HSH.out _ _ _ HWW.out (by rw [HX2.out]) (hG.below ((below_drewN (Below.refl _ _) nq).alloc (by simp) _))).mono ?_
    rintro e w2 ⟨rfl, hb2⟩
    have hbuf := block_below (g := (w.drewN nq).heap.size) (block_new (w.drewN nq) _ rfl) hb2
    have hB2 : Below w.heap.size w w2 := Below.trans ((below_drewN (Below.refl w.heap.size w) nq).alloc (by simp) _) (hb2.mono (by simp))
    have hz : ∀ j, j < 32 → w2.cell? ⟨w.heap.size, j, none⟩ = some (.int .u8 0) ∧ w2.frozen? ⟨w.heap.size, j, none⟩ = false := by
      intro j hj
      refine ⟨?_, block_free hbuf⟩
      refine block_cell hbuf ?_
      clear hbuf hb2 hB2
      rcases j with _ | _ | _ | _ | _ | _ | _ | _ | _ | _ | _ | _ | _ | _ | _ | _ | _ | _ | _ | _ | _ | _ | _ | _ | _ | _ | _ | _ | _ | _ | _ | _ | j <;> first | rfl | (exfalso; omega)
    have hlt2 : w.heap.size < w2.heap.size := by
      have := hb2.size
      simp at this
      omega
    have HZ := Lib.hid hz
    have HBU := Lib.hid hb2
    clear hbuf hb2 hz
    go_wp2_with fail
    go_region_with (first
      | (go_at_call 71
         refine (HN.out _ (hG.below (below_drewN hB2 1))).mono ?_
         rintro e w3 ⟨rfl, rfl⟩)
      | (go_at_call 87
         refine (HSD.out w2.drew w.heap.size hlt2 HZ.out).mono ?_
         rintro e w3 ⟨rfl, hdg, hb3, hs3⟩))
    all_goals
      have hB3 : Below w.heap.size w w3 := (below_drewN hB2 1).trans hb3
      have hDS : DS base w.heap.size D w3 w3 (.slice (some ⟨g0, 0, none⟩) 0 24) [] := ⟨Below.refl _ _, own_below own0 hB3, fun e => by have : g0 = w.heap.size := Option.some.inj e; omega, Nat.lt_of_lt_of_le hlt2 hb3.size, Nat.le_trans hbase hB3.size, hdg⟩
      have HDS := Lib.hid hDS
      have HB3 := Lib.hid hB3
      clear hDS hB3 hdg hs3 hb3 hB2
      rcases hfc with rfl | rfl
      · go_wp2_with fail
        refine (fmtE_any HDS.out rfl hDl.1 (by omega) N Q (by omega) (by omega)).mono ?_
        rintro e w4 ⟨v, rfl, hD4⟩
        go_wp2_with fail
        go_ret
        exact ⟨_, rfl, hD4.own, (HB3.out.mono hbase).trans hD4.bel⟩
      · go_wp2_with fail
        refine (fmtF_any HDS.out rfl hDl.1 (by omega) N Q (by omega) (by omega)).mono ?_
        rintro e w4 ⟨v, rfl, hD4⟩
        go_wp2_with fail
        go_ret
        exact ⟨_, rfl, hD4.own, (HB3.out.mono hbase).trans hD4.bel⟩
  · have HX2 : Hid (X = (E : Int) - 1023) := Lib.hid (by rw [HX.out, if_neg hE0])
    have hz0 : ((E : Int) == 0) = false := by rw [beq_eq_false_iff_ne]; omega
    clear HX
    rw [if_neg hE0] at hMM
    rw [← hMM] at hor
    clear hMM hE0
    go_enter Tryz.func60, Tryz.ntmps60
    go_wp2_with fail
    go_quiet (fail)
    go_wp2_with fail
    refine (HL.out _).mono ?_
    rintro e w1 ⟨rfl, rfl⟩
    go_wp2_with fail
    refine (HSH.out _ _ _ HWW.out (by rw [HX2.out]; first | done | rfl | omega) (hG.below ((below_drewN (Below.refl _ _) nq).alloc (by simp) _))).mono ?_
    rintro e w2 ⟨rfl, hb2⟩
    have hbuf := block_below (g := (w.drewN nq).heap.size) (block_new (w.drewN nq) _ rfl) hb2
    have hB2 : Below w.heap.size w w2 := Below.trans ((below_drewN (Below.refl w.heap.size w) nq).alloc (by simp) _) (hb2.mono (by simp))
    have hz : ∀ j, j < 32 → w2.cell? ⟨w.heap.size, j, none⟩ = some (.int .u8 0) ∧ w2.frozen? ⟨w.heap.size, j, none⟩ = false := by
      intro j hj
      refine ⟨?_, block_free hbuf⟩
      refine block_cell hbuf ?_
      clear hbuf hb2 hB2
      rcases j with _ | _ | _ | _ | _ | _ | _ | _ | _ | _ | _ | _ | _ | _ | _ | _ | _ | _ | _ | _ | _ | _ | _ | _ | _ | _ | _ | _ | _ | _ | _ | _ | j <;> first | rfl | (exfalso; omega)
    have hlt2 : w.heap.size < w2.heap.size := by
      have := hb2.size
      simp at this
      omega
    have HZ := Lib.hid hz
    have HBU := Lib.hid hb2
    clear hbuf hb2 hz
    go_wp2_with fail
    go_region_with (first
      | (go_at_call 71
         refine (HN.out _ (hG.below (below_drewN hB2 1))).mono ?_
         rintro e w3 ⟨rfl, rfl⟩)
      | (go_at_call 87
         refine (HSD.out w2.drew w.heap.size hlt2 HZ.out).mono ?_
         rintro e w3 ⟨rfl, hdg, hb3, hs3⟩))
    all_goals
      have hB3 : Below w.heap.size w w3 := (below_drewN hB2 1).trans hb3
      have hDS : DS base w.heap.size D w3 w3 (.slice (some ⟨g0, 0, none⟩) 0 24) [] := ⟨Below.refl _ _, own_below own0 hB3, fun e => by have : g0 = w.heap.size := Option.some.inj e; omega, Nat.lt_of_lt_of_le hlt2 hb3.size, Nat.le_trans hbase hB3.size, hdg⟩
      have HDS := Lib.hid hDS
      have HB3 := Lib.hid hB3
      clear hDS hB3 hdg hs3 hb3 hB2
      rcases hfc with rfl | rfl
      · go_wp2_with fail
        refine (fmtE_any HDS.out rfl hDl.1 (by omega) N Q (by omega) (by omega)).mono ?_
        rintro e w4 ⟨v, rfl, hD4⟩
        go_wp2_with fail
        go_ret
        exact ⟨_, rfl, hD4.own, (HB3.out.mono hbase).trans hD4.bel⟩
      · go_wp2_with fail
        refine (fmtF_any HDS.out rfl hDl.1 (by omega) N Q (by omega) (by omega)).mono ?_
        rintro e w4 ⟨v, rfl, hD4⟩
        go_wp2_with fail
        go_ret
        exact ⟨_, rfl, hD4.own, (HB3.out.mono hbase).trans hD4.bel⟩
end Go.Proofs.YtbgjhgohffkonaaGreatDoor

/- strconv.FormatFloat at 'e' and 'f', -1, 64: the walk, at any finite float but nought. -/
namespace Go.Proofs.YtbgjhgohffkonaaGreatDoor
open Go.RowKit Go.Sort Go.Shelf
set_option linter.unusedSimpArgs false
set_option linter.unusedVariables false
theorem own_text {w : World} {base : Nat} {v : Value} {L : List UInt8} (h : w.ownsRow base 5 1 v L.length (Lib.byteCells L)) (hne : 0 < L.length) :
    (convert 67 9 v).run Tryz.prog w = .ok (.string ⟨L.toArray⟩) w := by
  obtain ⟨a, cap, rfl⟩ := own_shape h
  have hx0 : ∀ (j : Nat) (hj : j < L.length), (Lib.byteCells L)[j]? = some (.int .u8 (L[j].toNat : Int)) := fun j hj => by
    unfold Lib.byteCells; rw [List.getElem?_map, List.getElem?_eq_getElem hj]; rfl
  obtain ⟨g, rfl, _, _, _⟩ := own_cell h rfl (hx0 0 hne)
  exact run_convert_bytes_back w 67 9 5 ⟨g, 0, none⟩ cap L Tryz.underlying67 Tryz.underlying5 Tryz.underlying9 fun j hj => by
    obtain ⟨g', he, _, _, hx⟩ := own_cell h rfl (hx0 j hj)
    cases he
    rw [show (⟨g, 0, none⟩ : Addr).add j = ⟨g, j, none⟩ by unfold Addr.add; split <;> simp_all]
    exact hx
/-- The text of a finite float that is not nought. -/
def ffT (fc b : Nat) : List UInt8 := if fc = 101 then fmE (ftN b) (ftD b) (ftQ b) else fmF (ftN b) (ftD b) (ftQ b)
theorem fmI_pos {D : List UInt8} {dp : Int} (h : 0 < D.length) : 0 < (fmI D dp).length := by
  unfold fmI
  split
  · rw [List.length_append, List.length_take, List.length_replicate]; omega
  · simp
theorem ffT_pos (fc b : Nat) (h : 0 < (ftD b).length) : 0 < (ffT fc b).length := by
  unfold ffT
  split
  · unfold fmE; simp; omega
  · unfold fmF
    have := fmI_pos (dp := ftQ b) h
    rw [List.length_append, List.length_append]
    omega
theorem ftD_pos {b : Nat} (hb : b < 18446744073709551616) (hE : ftE b ≠ 2047) (hM : ftM b ≠ 0) : 0 < (ftD b).length :=
  stripZ_pos _ _ (Nat.le_refl _) (short_bd (ft_ok hb hE hM).2.2.2).1
set_option maxHeartbeats 2000000 in
set_option maxRecDepth 100000 in
theorem fmtInner_any {w : World} {B b : Nat} (hG : FG B w) (hb : b < 18446744073709551616) (hE : ftE b ≠ 2047) (hM : ftM b ≠ 0) (fc : Nat) (hfc : fc = 101 ∨ fc = 102) :
    Calls Tryz.prog 36 #[.float .f64 b, .int .u8 (fc : Int), .int .i64 (-1), .int .i64 64] w fun e w' => e = .returned (.string ⟨(ffT fc b).toArray⟩) ∧ Below w.heap.size w w' := by
  obtain ⟨i0, hi, hz0, hz1, hz2⟩ := info_parts infoB1
  obtain ⟨w1, hmk, hown1, hgr⟩ := run_make_own (P := Tryz.prog) w w.heap.size 67 5 i0 (.int .u8 0) 1 Tryz.underlying67 hi hz0 hz1 .i64 .i64 24 (by rw [hz2]; decide) (by decide) (Nat.le_refl _)
  have hmk' : (Instr.makeSlice 67 (.int .i64 0) (.int .i64 24)).run Tryz.prog w = .ok (.slice (some ⟨w.heap.size, 0, none⟩) 0 24) w1 := hmk
  have hm : max (3 : Int) 24 = 24 := by decide
  have hB1 : Below w.heap.size w w1 := Below.grown (Below.refl _ _) hgr (Nat.le_refl _) (fun _ e => by cases e)
  have HCALL := Lib.hid (ftoa_any (base := w.heap.size) (hG.below hB1) hB1.size hown1 (hown1.lt w.heap.size rfl).2 hb hE hM fc hfc)
  have hpos := ffT_pos fc b (ftD_pos hb hE hM)
  have HL : Hid ((if fc = 101 then fmE (ftN b) (ftD b) (ftQ b) else fmF (ftN b) (ftD b) (ftQ b)) = ffT fc b) := Lib.hid rfl
  rw [HL.out] at HCALL
  generalize ffT fc b = L at *
  clear hmk hown1 hgr HL hb hE hM hfc
  go_enter Tryz.func36, Tryz.ntmps36
  go_wp2_with fail
  refine HCALL.out.mono ?_
  rintro e w2 ⟨v, L', rfl, rfl, hown, hb⟩
  have hcv := own_text hown hpos
  obtain ⟨va, vc, rfl⟩ := own_shape hown
  have hB : Below w.heap.size w w2 := hB1.trans hb
  clear hown hb hB1
  go_wp2_with fail
  go_ret
  exact ⟨rfl, hB⟩
theorem fmt_any {w : World} {B b : Nat} (hG : FG B w) (hb : b < 18446744073709551616) (hE : ftE b ≠ 2047) (hM : ftM b ≠ 0) (fc : Nat) (hfc : fc = 101 ∨ fc = 102) :
    Calls Tryz.prog 17 #[.float .f64 b, .int .u8 (fc : Int), .int .i64 (-1), .int .i64 64] w fun e w' => e = .returned (.string ⟨(ffT fc b).toArray⟩) ∧ Below w.heap.size w w' := by
  have HF := Lib.hid (fmtInner_any hG hb hE hM fc hfc)
  generalize ffT fc b = L at *
  clear hb hE hM hfc
  go_enter Tryz.func17, Tryz.ntmps17
  go_wp2_with fail
  refine HF.out.mono ?_
  rintro e w2 ⟨rfl, hb⟩
  go_wp2_with fail
  go_ret
  exact ⟨rfl, hb⟩
end Go.Proofs.YtbgjhgohffkonaaGreatDoor

