/- Gn: what is used of them. -/
import Derived.WalkMore
import Derived.Test.YtkoghgnjjfnamaaGreatDoorGm
namespace Go.Proofs.YtkoghgnjjfnamaaGreatDoor
set_option maxRecDepth 100000
set_option maxHeartbeats 2000000
section
variable {P : Program} {a : Act} {w : World} {Q : Exit → Act → World → Prop}
theorem wp_scope_two {c r0 r1 : Code} (hf0 : findLabel c 0 = some r0) (hf1 : findLabel c 1 = some r1)
 (h : ∀ Q' : Exit → Act → World → Prop, (∀ a w, r0.wp P (Exit.noGoto Q) a w → Q' (.goto 0) a w) → (∀ a w, r1.wp P (Exit.noGoto Q) a w → Q' (.goto 1) a w) → c.wp P Q' a w) :
 (Code.scope c).wp P Q a w := by
 intro b k cs; have hg0 : gotoIn 0 (.inScope c :: k) = some (.code r0 :: .inScope c :: k) := by simp [gotoIn, hf0]
 have hg1 : gotoIn 1 (.inScope c :: k) = some (.code r1 :: .inScope c :: k) := by simp [gotoIn, hf1]
 have key : ∀ (r : Code) a w, r.wp P (Exit.noGoto Q) a w → ∃ e a' w', Q e a' w' ∧ Arrives P (lone (b.at a (.code r :: .inScope c :: k)) cs w) b k cs e a' w' := by
  intro r a w hr; obtain ⟨e, a₁, w₁, hq, harr⟩ := hr b (.inScope c :: k) cs; cases e with
  | normal => exact ⟨.normal, a₁, w₁, hq, Steps.trans harr (.one step_inScope)⟩
  | exit id => exact ⟨.exit id, a₁, w₁, hq, fun k' hk => harr k' (by simp [exitTo, hk])⟩
  | goto l' => exact hq.elim
  | ret => exact ⟨_, a₁, w₁, hq, harr⟩
  | panic ch => exact ⟨_, a₁, w₁, hq, harr⟩
  | outgrown => exact ⟨_, a₁, w₁, hq, harr⟩
 obtain ⟨e, a₁, w₁, hq, harr⟩ := h (fun e a w => match e with
  | .goto 0 => r0.wp P (Exit.noGoto Q) a w
  | .goto 1 => r1.wp P (Exit.noGoto Q) a w
  | .goto _ => False
  | e => Q e a w) (fun _ _ h => h) (fun _ _ h => h) b (.inScope c :: k) cs
 cases e with
 | normal => exact ⟨.normal, a₁, w₁, hq, .head step_scope (Steps.trans harr (.one step_inScope))⟩
 | exit id => exact ⟨.exit id, a₁, w₁, hq, fun k' hk => .head step_scope (harr k' (by simp [exitTo, hk]))⟩
 | goto l' =>
   match l', hq, harr with
   | 0, hq, harr =>
     obtain ⟨e₂, a₂, w₂, hq₂, harr₂⟩ := key r0 a₁ w₁ hq; exact ⟨e₂, a₂, w₂, hq₂, .of_steps (.head step_scope (harr _ hg0)) harr₂⟩
   | 1, hq, harr =>
     obtain ⟨e₂, a₂, w₂, hq₂, harr₂⟩ := key r1 a₁ w₁ hq; exact ⟨e₂, a₂, w₂, hq₂, .of_steps (.head step_scope (harr _ hg1)) harr₂⟩
   | n + 2, hq, _ => exact hq.elim
 | ret => exact ⟨_, a₁, w₁, hq, .of_steps (.one step_scope) harr⟩
 | panic ch => exact ⟨_, a₁, w₁, hq, .of_steps (.one step_scope) harr⟩
 | outgrown => exact ⟨_, a₁, w₁, hq, .of_steps (.one step_scope) harr⟩
end
open Go.RowKit
structure FbG (B : Nat) (w : World) : Prop where
 ch : ChG B w
 inf : 7 < B
 mant : w.cell? ⟨7, 0, none⟩ = some (.int .u64 52)
 ebits : w.cell? ⟨7, 1, none⟩ = some (.int .u64 11)
 bias : w.cell? ⟨7, 2, none⟩ = some (.int .i64 (-1023))
 tab : 11 < B
 pow : ∃ b o c : Nat, b < B ∧ w.cell? ⟨11, 0, none⟩ = some (.slice (some ⟨b, o, none⟩) 9 c) ∧ ∀ k : Nat, k < 9 → w.cell? ⟨b, o + k, none⟩ = some (.int .i64 (pwt k : Nat))
theorem FbG.keeps {B B' : Nat} {w w' : World} (hB : B ≤ B') (hb : Below B' w w') (h : FbG B w) : FbG B w' where
 ch := h.ch.keeps hB hb
 inf := h.inf
 mant := by rw [hb.cell (show (7 : Nat) < B' by have := h.inf; omega)]; exact h.mant
 ebits := by rw [hb.cell (show (7 : Nat) < B' by have := h.inf; omega)]; exact h.ebits
 bias := by rw [hb.cell (show (7 : Nat) < B' by have := h.inf; omega)]; exact h.bias
 tab := h.tab
 pow := by
  obtain ⟨b, o, c, h1, h2, h3⟩ := h.pow; refine ⟨b, o, c, h1, ?_, fun k hk => ?_⟩
  · rw [hb.cell (show (11 : Nat) < B' by have := h.tab; omega)]; exact h2
  · rw [hb.cell (show b < B' by omega)]; exact h3 k hk
def fbOut (m e : Int) : Int := bits .or .u64 (bits .and .u64 m 4503599627370495) (IntKind.u64.wrap (IntKind.u64.wrap (bits .and .i64 (e + 1023) 2047) * 4503599627370496))
def fbM2 (D : Dc) (e : Int) : Int × Bool :=
 if 1024 ≤ e then (fbOut 0 1024, true)
 else if riP (shP 53 D) = 9007199254740992 then (if 1024 ≤ e + 1 then (fbOut 0 1024, true) else (fbOut 4503599627370496 (e + 1), false))
 else if (bits .and .u64 ((riP (shP 53 D) : Nat) : Int) 4503599627370496 == 0) = true then (fbOut (riP (shP 53 D) : Nat) (-1023), false) else (fbOut (riP (shP 53 D) : Nat) e, false)
def fbD (D : Dc) (e : Int) : Dc := if e < -1022 then shP (-(-1022 - e)) D else D
def fbE (e : Int) : Int := if e < -1022 then -1022 else e
def fbP (D : Dc) : Int × Bool :=
 if D.nd = 0 then (fbOut 0 (-1023), false)
 else if 310 < D.dp then (fbOut 0 1024, true)
 else if D.dp < -330 then (fbOut 0 (-1023), false)
 else fbM2 (fbD (fbB (muB (fbA (muA D) D 0).1) (fbA (muA D) D 0).1 (fbA (muA D) D 0).2).1 ((fbB (muB (fbA (muA D) D 0).1) (fbA (muA D) D 0).1 (fbA (muA D) D 0).2).2 - 1))
  (fbE ((fbB (muB (fbA (muA D) D 0).1) (fbA (muA D) D 0).1 (fbA (muA D) D 0).2).2 - 1))
theorem shP_down {k : Nat} {D : Dc} (hp : 0 < D.nd) (h1 : 1 ≤ k) (h2 : k ≤ 60) : shP (-(k : Int)) D = rsP k D := by
 unfold shP; rw [if_neg (by omega), if_neg (by omega), if_pos (by omega)]; rw [show (-(-(k : Int))).toNat = k by omega]; exact shR_last (by omega)
theorem shP_up {k : Nat} {D : Dc} (hp : 0 < D.nd) (h1 : 1 ≤ k) (h2 : k ≤ 60) : shP (k : Int) D = lsP k D := by
 unfold shP; rw [if_neg (by omega), if_pos (by omega)]; rw [show ((k : Int)).toNat = k by omega]; exact shL_last (by omega)
theorem pwt_big {i : Nat} (h : 9 ≤ i) : pwt i = 27 := by
 unfold pwt; rw [List.getElem?_eq_none (by simpa using h)]; rfl
theorem fbD_ok {D : Dc} (e : Int) (h : OkD D) (hp : 0 < D.nd) (h1 : -900 ≤ D.dp) (h2 : D.dp ≤ 60) (h3 : -250001 ≤ e) (h4 : e ≤ 9000) :
 OkD (fbD D e) ∧ 0 < (fbD D e).nd ∧ (fbD D e).neg = D.neg ∧ -1000000000 ≤ (fbD D e).dp ∧ (fbD D e).dp ≤ 1000000000 ∧ -1022 ≤ fbE e ∧ fbE e ≤ 9000 := by
 unfold fbD fbE; split
 · obtain ⟨o1, o2⟩ := shP_ok (-(-1022 - e)) h hp
   have o3 := shP_dp (-(-1022 - e)) h hp; exact ⟨o1, o2, shP_neg _ _, by omega, by omega, by omega, by omega⟩
 · exact ⟨h, hp, rfl, by omega, by omega, by omega, by omega⟩
theorem floatBits_any {w : World} {g base : Nat} {D : Dc} (hG : FbG base w) (h : DB w g D) (h' : OkD D) (hb : base ≤ g) (hn : D.neg = false) :
 Calls Tryz.prog 160 #[.pointer (some ⟨g, 0, none⟩), .pointer (some ⟨7, 0, none⟩)] w fun e w' => e = .returned (.tuple #[.int .u64 (fbP D).1, .bool (fbP D).2]) ∧ Below base w w' := by
 obtain ⟨R, hR⟩ : ∃ R, fbP D = R := ⟨_, rfl⟩; have HR := Lib.hid hR; rw [hR]; clear hR; have c1 := h.cell_nd; have c2 := h.cell_neg; have c3 := h.cell_dp; rw [hn] at c2; have i1 := hG.mant; have i2 := hG.ebits; have i3 := hG.bias; by_cases hp : D.nd = 0
 · rw [hp] at c1
   have HE : Hid ((fbOut 0 (-1023), false) = R) := Lib.hid (by rw [← HR.out]; unfold fbP; rw [if_pos hp]); clear HR; go_enter Tryz.func160, Tryz.ntmps160
   go_wp2_with fail; refine wp_scope_two (r0 := ?r0) (r1 := ?r1) ?h0 ?h1 fun Q' g0 g1 => ?_
   case h0 => rfl
   case h1 => rfl
   go_wp2_with fail; go_step3
   refine g0 _ _ ?_; clear g0 g1
   go_wp2_with fail; go_quiet (fail)
   go_wp2_with fail; rw [Exit.noGoto_ret]; go_ret2; exact ⟨by rw [← HE.out]; rfl, below_drewN (Below.refl _ _) _⟩
 · have hp1 : 0 < D.nd := by omega
   have hz : ((D.nd : Int) == 0) = false := by simp; omega
   by_cases hbig : 310 < D.dp
   · have HE : Hid ((fbOut 0 1024, true) = R) := Lib.hid (by rw [← HR.out]; unfold fbP; rw [if_neg hp, if_pos hbig])
     clear HR; go_enter Tryz.func160, Tryz.ntmps160
     go_wp2_with fail; refine wp_scope_two (r0 := ?r0) (r1 := ?r1) ?h0 ?h1 fun Q' g0 g1 => ?_
     case h0 => rfl
     case h1 => rfl
     go_wp2_with fail; go_step3
     refine g1 _ _ ?_; clear g0 g1
     go_wp2_with fail; go_quiet (fail)
     go_wp2_with fail; go_step3
     go_wp2_with fail; go_quiet (fail)
     go_wp2_with fail; rw [Exit.noGoto_ret]; go_ret2; exact ⟨by rw [← HE.out]; rfl, below_drewN (Below.refl _ _) _⟩
   · by_cases hsm : D.dp < -330
     · have HE : Hid ((fbOut 0 (-1023), false) = R) := Lib.hid (by rw [← HR.out]; unfold fbP; rw [if_neg hp, if_neg hbig, if_pos hsm])
       clear HR; go_enter Tryz.func160, Tryz.ntmps160
       go_wp2_with fail; refine wp_scope_two (r0 := ?r0) (r1 := ?r1) ?h0 ?h1 fun Q' g0 g1 => ?_
       case h0 => rfl
       case h1 => rfl
       go_wp2_with fail; go_step3
       refine g0 _ _ ?_; clear g0 g1
       go_wp2_with fail; go_quiet (fail)
       go_wp2_with fail; rw [Exit.noGoto_ret]; go_ret2; exact ⟨by rw [← HE.out]; rfl, below_drewN (Below.refl _ _) _⟩
     · obtain ⟨A, hA⟩ : ∃ A, fbA (muA D) D 0 = A := ⟨_, rfl⟩
       obtain ⟨Bd, hBd⟩ : ∃ Bd, fbB (muB A.1) A.1 A.2 = Bd := ⟨_, rfl⟩; have HE : Hid (fbM2 (fbD Bd.1 (Bd.2 - 1)) (fbE (Bd.2 - 1)) = R) := Lib.hid (by
        rw [← HR.out]; unfold fbP; rw [if_neg hp, if_neg hbig, if_neg hsm]; simp only [hA, hBd])
       have HA := Lib.hid hA; have HBD := Lib.hid hBd; have hphi : phi D ≤ 9000 := by
        unfold phi; have := (h'.dig 0 hp1).2; split
        · omega
        · split <;> omega
       have HPH := Lib.hid hphi; clear HR hA hBd hphi; go_enter Tryz.func160, Tryz.ntmps160
       go_wp2_with fail; refine wp_scope_two (r0 := ?r0) (r1 := ?r1) ?h0 ?h1 fun Q' g0 g1 => ?_
       case h0 => rfl
       case h1 => rfl
       go_wp2_with fail; clear c1 c2 c3; go_loopg [6] (muA D) (fun f x wr => ∃ (D2 : Dc) (x2 : Int), x = .int .i64 x2 ∧ OkD D2 ∧ 0 < D2.nd ∧ D2.dp ≤ 310 ∧ -900 ≤ D2.dp ∧ 0 ≤ x2 ∧ x2 + phi D2 ≤ 9000 ∧ muA D2 ≤ f ∧ D2.neg = false ∧ fbA f D2 x2 = A ∧ DB wr g D2 ∧ Below base w wr)
       case atStart => exact ⟨D, 0, rfl, h', hp1, by omega, by omega, by omega, by have := HPH.out; omega, Nat.le_refl _, hn, HA.out, h, Below.refl _ _⟩
       case round =>
        obtain ⟨D2, x2, rfl, ok2, hp2, hd1, hd2, hx1, hx2, hmu, hneg, he, hD, hB⟩ := hrel; have hG2 := hG.keeps (Nat.le_refl _) hB; have i1 := hG2.mant; have i2 := hG2.ebits; have i3 := hG2.bias; obtain ⟨tb, tof, tc, htb, t1, t2⟩ := hG2.pow; have c3 := hD.cell_dp; by_cases hpos : 0 < D2.dp
        · obtain ⟨m, hm⟩ : ∃ m : Nat, D2.dp = (m : Int) := ⟨D2.dp.toNat, by omega⟩
          have hm1 : 1 ≤ m := by omega
          have hm2 : m ≤ 310 := by omega
          have hmt : D2.dp.toNat = m := by omega
          have hlt := muA_lt ok2 hp2 hpos; have hst := phi_step ok2 hp2 hpos; have hlo := rsP_dp_lo ok2 hp2 (pwt_le m).1; have hwt := pwt_le m; obtain ⟨o1, o2, _⟩ := rsP_spec ok2 hp2 (pwt_le m).1; obtain ⟨f', rfl⟩ : ∃ f', gk = f' + 1 := ⟨gk - 1, by omega⟩; rw [hmt] at hlt hst; have HE2 : Hid (fbA f' (rsP (pwt m) D2) (x2 + (pwt m : Nat)) = A) := Lib.hid (by
           unfold fbA at he; rw [if_pos hpos, hmt] at he; exact he)
          obtain ⟨q, hq⟩ : ∃ q, pwt m = q := ⟨_, rfl⟩; have hq9 : 9 ≤ m → q = 27 := fun h9 => by rw [← hq]; exact pwt_big h9
          rw [hq] at HE2 hlt hst hlo hwt o1 o2; have HSF : Hid (∀ n, Calls Tryz.prog 140 #[.pointer (some ⟨g, 0, none⟩), .int .i64 (-((q : Nat) : Int))] (wr.drewN n) fun e w' => (∃ v, e = .returned v) ∧ DB w' g (rsP q D2) ∧ Below base wr w') := Lib.hid fun n => by
           have := shift_any (hG2.ch.keeps (Nat.le_refl _) (below_drewN (Below.refl base wr) n)) (hD.drewN n) ok2 hp2 hb (by omega) (by omega) (k := -((q : Nat) : Int)) (by omega) (by omega); rw [shP_down hp2 hwt.1 (Nat.le_trans hwt.2 (by decide))] at this; exact this.mono fun _ _ ⟨h1, h2, h3⟩ => ⟨h1, h2, (below_drewN (Below.refl base wr) n).trans h3⟩
          have HREL : Hid (∀ w3, DB w3 g (rsP q D2) → Below base wr w3 → ∃ (D4 : Dc) (x4 : Int), Value.int .i64 (x2 + ((q : Nat) : Int)) = .int .i64 x4 ∧ OkD D4 ∧ 0 < D4.nd ∧ D4.dp ≤ 310 ∧ -900 ≤ D4.dp ∧ 0 ≤ x4 ∧ x4 + phi D4 ≤ 9000 ∧ muA D4 ≤ f' ∧ D4.neg = false ∧ fbA f' D4 x4 = A ∧ DB w3 g D4 ∧ Below base w w3) := Lib.hid fun w3 h3 h4 =>
           ⟨rsP q D2, x2 + ((q : Nat) : Int), rfl, o1, o2, by omega, by omega, by omega, by omega, by omega, hneg, HE2.out, h3, hB.trans h4⟩
          rw [hm] at c3; have hx3 : x2 ≤ 9000 := by omega
          have t3 := t2 m; rw [hq] at t3; clear he hlt hst hlo o1 o2 hneg hmt HE2 t2 hD hB hd1 hd2 hx2 hmu ok2 hp2 hm; by_cases h9 : m < 9
          · have t4 := t3 h9
            have h9I : ¬ ((9 : Int) ≤ (m : Int)) := by omega
            clear hq hq9 t3
            go_wp2_with fail; go_quiet (fail)
            go_wp2_with fail; go_quiet (fail)
            go_wp2_with fail; refine (HSF.out _).mono ?_; rintro e w3 ⟨⟨v, rfl⟩, hD3, hB3⟩
            go_wp2_with fail; go_roundg f'
            case rel => exact HREL.out _ hD3 hB3
            case measure => exact Nat.lt_succ_self _
          · obtain rfl := hq9 (by omega)
            clear hq hq9 t3; have h9I : (9 : Int) ≤ (m : Int) := by omega
            go_wp2_with fail; go_quiet (fail)
            go_wp2_with fail; refine (HSF.out _).mono ?_; rintro e w3 ⟨⟨v, rfl⟩, hD3, hB3⟩
            go_wp2_with fail; go_roundg f'
            case rel => exact HREL.out _ hD3 hB3
            case measure => exact Nat.lt_succ_self _
        · have e : (D2, x2) = A := by
           rw [← he]; cases gk with
           | zero => rfl
           | succ f => unfold fbA; rw [if_neg hpos]
          subst e; have hmb : muB D2 ≤ 9100 := by
           unfold muB; rw [if_neg hpos]; have := (ok2.dig 0 hp2).1; omega
          have HMB := Lib.hid hmb; clear he hmu HPH HA hmb
          go_wp2_with fail; clear c3 t1 t2 i1 i2 i3; go_loopg [6] (muB D2) (fun f x wx => ∃ (D4 : Dc) (x4 : Int), x = .int .i64 x4 ∧ OkD D4 ∧ 0 < D4.nd ∧ D4.dp ≤ 60 ∧ -900 ≤ D4.dp ∧ x4 ≤ 9000 ∧ -(27 * (9100 - (f : Nat))) ≤ x4 ∧ f ≤ 9100 ∧ muB D4 ≤ f ∧ D4.neg = false ∧ fbB f D4 x4 = Bd ∧ DB wx g D4 ∧ Below base w wx)
          case atStart =>
           have := HMB.out; exact ⟨D2, x2, rfl, ok2, hp2, by omega, by omega, by omega, by omega, by omega, Nat.le_refl _, hneg, HBD.out, hD, hB⟩
          case round =>
           clear hG2 htb hD hB; obtain ⟨D4, x4, rfl, ok4, hp4, hd3, hd4, hx3, hx4, hf, hmu, hneg, he, hD, hB⟩ := hrel; have hG4 := hG.keeps (Nat.le_refl _) hB; obtain ⟨tb, tof, tc, htb, t1, t2⟩ := hG4.pow; have c3 := hD.cell_dp; have c4 := hD.cell_d (i := 0) (by decide); have hdg := ok4.dig 0 hp4; by_cases hneg4 : D4.dp < 0
           · obtain ⟨m, hm⟩ : ∃ m : Nat, D4.dp = -(m : Int) := ⟨(-D4.dp).toNat, by omega⟩
             have hm1 : 0 < m := by omega
             have hm2 : m ≤ 900 := by omega
             have hcond : D4.dp < 0 ∨ D4.dp = 0 ∧ D4.d 0 < 53 := Or.inl hneg4; have hlt := muB_lt ok4 hp4 hcond; have hwt := pwt_le m; obtain ⟨o1, o2, _⟩ := lsP_spec ok4 hp4 (pwt_le m).1 (Nat.le_trans hwt.2 (by decide)); have hlo := lsP_dp_hi ok4 hp4 (pwt_le m).1 (Nat.le_trans hwt.2 (by decide)); obtain ⟨f', rfl⟩ : ∃ f', gk = f' + 1 := ⟨gk - 1, by omega⟩; have hmt : (-D4.dp).toNat = m := by omega
             rw [hmt] at hlt; have HE2 : Hid (fbB f' (lsP (pwt m) D4) (x4 - (pwt m : Nat)) = Bd) := Lib.hid (by
              unfold fbB at he; rw [if_pos hcond, hmt] at he; exact he)
             obtain ⟨q, hq⟩ : ∃ q, pwt m = q := ⟨_, rfl⟩; have hq9 : 9 ≤ m → q = 27 := fun h9 => by rw [← hq]; exact pwt_big h9
             rw [hq] at HE2 hlt hlo hwt o1 o2; have HSF : Hid (∀ n, Calls Tryz.prog 140 #[.pointer (some ⟨g, 0, none⟩), .int .i64 ((q : Nat) : Int)] (wr.drewN n) fun e w' => (∃ v, e = .returned v) ∧ DB w' g (lsP q D4) ∧ Below base wr w') := Lib.hid fun n => by
              have := shift_any (hG4.ch.keeps (Nat.le_refl _) (below_drewN (Below.refl base wr) n)) (hD.drewN n) ok4 hp4 hb (by omega) (by omega) (k := ((q : Nat) : Int)) (by omega) (by omega); rw [shP_up hp4 hwt.1 (Nat.le_trans hwt.2 (by decide))] at this; exact this.mono fun _ _ ⟨h1, h2, h3⟩ => ⟨h1, h2, (below_drewN (Below.refl base wr) n).trans h3⟩
             have HREL : Hid (∀ w3, DB w3 g (lsP q D4) → Below base wr w3 → ∃ (D6 : Dc) (x6 : Int), Value.int .i64 (x4 - ((q : Nat) : Int)) = .int .i64 x6 ∧ OkD D6 ∧ 0 < D6.nd ∧ D6.dp ≤ 60 ∧ -900 ≤ D6.dp ∧ x6 ≤ 9000 ∧ -(27 * (9100 - (f' : Nat))) ≤ x6 ∧ f' ≤ 9100 ∧ muB D6 ≤ f' ∧ D6.neg = false ∧ fbB f' D6 x6 = Bd ∧ DB w3 g D6 ∧ Below base w w3) := Lib.hid fun w3 h3 h4 =>
              ⟨lsP q D4, x4 - ((q : Nat) : Int), rfl, o1, o2, by omega, by omega, by omega, by omega, by omega, by omega, hneg, HE2.out, h3, hB.trans h4⟩
             have t3 := t2 m; rw [hq] at t3; have hx5 : -250000 ≤ x4 := by omega
             rw [hm] at c3; clear he hlt hlo o1 o2 hneg hmt HE2 t2 hD hB hd3 hd4 hx4 hmu ok4 hp4 hm hcond hneg4 c4 hdg; by_cases h9 : m < 9
             · have t4 := t3 h9
               have h9I : ¬ ((9 : Int) ≤ (m : Int)) := by omega
               clear hq hq9 t3
               go_wp2_with fail; go_quiet (fail)
               go_wp2_with fail; go_quiet (fail)
               go_wp2_with fail; refine (HSF.out _).mono ?_; rintro e w3 ⟨⟨v, rfl⟩, hD3, hB3⟩
               go_wp2_with fail; go_roundg f'
               case rel => exact HREL.out _ hD3 hB3
               case measure => exact Nat.lt_succ_self _
             · obtain rfl := hq9 (by omega)
               clear hq hq9 t3; have h9I : (9 : Int) ≤ (m : Int) := by omega
               go_wp2_with fail; go_quiet (fail)
               go_wp2_with fail; refine (HSF.out _).mono ?_; rintro e w3 ⟨⟨v, rfl⟩, hD3, hB3⟩
               go_wp2_with fail; go_roundg f'
               case rel => exact HREL.out _ hD3 hB3
               case measure => exact Nat.lt_succ_self _
           · by_cases h0 : D4.dp = 0 ∧ D4.d 0 < 53
             · obtain ⟨m, hm⟩ : ∃ m : Nat, m = 0 := ⟨_, rfl⟩
               have hcond : D4.dp < 0 ∨ D4.dp = 0 ∧ D4.d 0 < 53 := Or.inr h0; have hlt := muB_lt ok4 hp4 hcond; have hwt := pwt_le m; obtain ⟨o1, o2, _⟩ := lsP_spec ok4 hp4 (pwt_le m).1 (Nat.le_trans hwt.2 (by decide)); have hlo := lsP_dp_hi ok4 hp4 (pwt_le m).1 (Nat.le_trans hwt.2 (by decide)); obtain ⟨f', rfl⟩ : ∃ f', gk = f' + 1 := ⟨gk - 1, by omega⟩; have hmt : (-D4.dp).toNat = m := by omega
               rw [hmt] at hlt; have HE2 : Hid (fbB f' (lsP (pwt m) D4) (x4 - (pwt m : Nat)) = Bd) := Lib.hid (by
                unfold fbB at he; rw [if_pos hcond, hmt] at he; exact he)
               obtain ⟨q, hq⟩ : ∃ q, pwt m = q := ⟨_, rfl⟩; have hq9 : 9 ≤ m → q = 27 := fun h9 => by rw [← hq]; exact pwt_big h9
               rw [hq] at HE2 hlt hlo hwt o1 o2; have HSF : Hid (∀ n, Calls Tryz.prog 140 #[.pointer (some ⟨g, 0, none⟩), .int .i64 ((q : Nat) : Int)] (wr.drewN n) fun e w' => (∃ v, e = .returned v) ∧ DB w' g (lsP q D4) ∧ Below base wr w') := Lib.hid fun n => by
                have := shift_any (hG4.ch.keeps (Nat.le_refl _) (below_drewN (Below.refl base wr) n)) (hD.drewN n) ok4 hp4 hb (by omega) (by omega) (k := ((q : Nat) : Int)) (by omega) (by omega); rw [shP_up hp4 hwt.1 (Nat.le_trans hwt.2 (by decide))] at this; exact this.mono fun _ _ ⟨h1, h2, h3⟩ => ⟨h1, h2, (below_drewN (Below.refl base wr) n).trans h3⟩
               have HREL : Hid (∀ w3, DB w3 g (lsP q D4) → Below base wr w3 → ∃ (D6 : Dc) (x6 : Int), Value.int .i64 (x4 - ((q : Nat) : Int)) = .int .i64 x6 ∧ OkD D6 ∧ 0 < D6.nd ∧ D6.dp ≤ 60 ∧ -900 ≤ D6.dp ∧ x6 ≤ 9000 ∧ -(27 * (9100 - (f' : Nat))) ≤ x6 ∧ f' ≤ 9100 ∧ muB D6 ≤ f' ∧ D6.neg = false ∧ fbB f' D6 x6 = Bd ∧ DB w3 g D6 ∧ Below base w w3) := Lib.hid fun w3 h3 h4 =>
                ⟨lsP q D4, x4 - ((q : Nat) : Int), rfl, o1, o2, by omega, by omega, by omega, by omega, by omega, by omega, hneg, HE2.out, h3, hB.trans h4⟩
               have t3 := t2 m; rw [hq] at t3; have hx5 : -250000 ≤ x4 := by omega
               rw [h0.1] at c3; have hd53 : (D4.d 0 : Int) < 53 := by omega
               have t4 := t3 (by omega); rw [hm, Nat.add_zero] at t4; clear he hlt hlo o1 o2 hneg hmt HE2 t2 hD hB hd3 hd4 hx4 hmu ok4 hp4 hm hcond hneg4 hq hq9 t3 h0
               go_wp2_with fail; go_quiet (fail)
               go_wp2_with fail; go_quiet (fail)
               go_wp2_with fail; refine (HSF.out _).mono ?_; rintro e w3 ⟨⟨v, rfl⟩, hD3, hB3⟩
               go_wp2_with fail; go_roundg f'
               case rel => exact HREL.out _ hD3 hB3
               case measure => exact Nat.lt_succ_self _
             · have e : (D4, x4) = Bd := by
                rw [← he]; cases gk with
                | zero => rfl
                | succ f => unfold fbB; rw [if_neg (by omega)]
               subst e; have hx5 : -250000 ≤ x4 := by omega
               have HOK := Lib.hid (fbD_ok (x4 - 1) ok4 hp4 (by omega) (by omega) (by omega) (by omega)); have hsd : Hid (x4 - 1 < -1022 → Calls Tryz.prog 140 #[.pointer (some ⟨g, 0, none⟩), .int .i64 (-(-1022 - (x4 - 1)))] wr fun e w' => (∃ v, e = .returned v) ∧ DB w' g (fbD D4 (x4 - 1)) ∧ Below base wr w') := Lib.hid fun hlt => by
                have := shift_any hG4.ch hD ok4 hp4 hb (by omega) (by omega) (k := -(-1022 - (x4 - 1))) (by omega) (by omega); unfold fbD; rw [if_pos hlt]; exact this
               have i1 := hG4.mant; have i2 := hG4.ebits; have i3 := hG4.bias; have HD := Lib.hid hD; have hnot : Hid (¬ (D4.dp = 0 ∧ D4.d 0 < 53)) := Lib.hid h0; have HNG := Lib.hid hneg; clear he hmu hx4 hf HBD t2 t1 htb hneg hd3 hd4 ok4 hp4 hdg hD; rcases Int.lt_or_le 0 D4.dp with hpos4 | hpos4
               · clear h0
                 go_upto_if 111 with fail
                 clear c3; go_cut [6] from 105 to 125 (fun x wx => x = .int .i64 (fbE (x4 - 1)) ∧ DB wx g (fbD D4 (x4 - 1)) ∧ Below base wr wx)
                 case first =>
                  clear g0 g1; by_cases hlt : x4 - 1 < -1022
                  · go_wp2_with fail
                    refine (hsd.out hlt).mono ?_; rintro e w3 ⟨⟨v, rfl⟩, hD3, hB3⟩
                    go_wp2_with fail; go_meet; refine ⟨?_, hD3, hB3⟩; unfold fbE; rw [if_pos hlt]; exact congrArg (Value.int .i64) (by omega)
                  · go_wp2_with fail
                    go_meet; refine ⟨?_, ?_, Below.refl _ _⟩
                    · unfold fbE
                      rw [if_neg (by omega)]
                    · unfold fbD
                      rw [if_neg (by omega)]; exact HD.out
                 case rest =>
                  obtain ⟨rfl, hD5, hB5⟩ := hcut; obtain ⟨k1, k2, k3, k4, k5, k6, k7⟩ := HOK.out; rw [HNG.out] at k3; have hG5 := hG.keeps (Nat.le_refl _) (hB.trans hB5); have j1 := hG5.mant; have j2 := hG5.ebits; have j3 := hG5.bias; obtain ⟨D5, hd5⟩ : ∃ D5, fbD D4 (x4 - 1) = D5 := ⟨_, rfl⟩; obtain ⟨x5, hx⟩ : ∃ x5, fbE (x4 - 1) = x5 := ⟨_, rfl⟩; rw [hd5, hx] at HE; rw [hd5] at hD5 k1 k2 k3 k4 k5; rw [hx] at k6 k7 ⊢; have c2 := hD5.cell_neg; rw [k3] at c2; have HB := Lib.hid (hB.trans hB5); clear hd5 hx hB hB5 hsd HOK HNG HD hnot i1 i2 i3 hG4 hx5 hx3; by_cases h1024 : 1024 ≤ x5
                  · have HE2 : Hid ((fbOut 0 1024, true) = R) := Lib.hid (by
                     rw [← HE.out]; unfold fbM2; rw [if_pos h1024])
                    clear HE
                    go_wp2_with fail; go_quiet (fail)
                    go_wp2_with fail; go_step3
                    refine g1 _ _ ?_; clear g0 g1
                    go_wp2_with fail; go_quiet (fail)
                    go_wp2_with fail; go_step3
                    go_wp2_with fail; go_quiet (fail)
                    go_wp2_with fail; rw [Exit.noGoto_ret]; go_ret2; exact ⟨by rw [← HE2.out]; rfl, below_drewN HB.out _⟩
                  · have HS : Hid (∀ n, Calls Tryz.prog 140 #[.pointer (some ⟨g, 0, none⟩), .int .i64 53] (wc.drewN n) fun e w' => (∃ v, e = .returned v) ∧ DB w' g (shP 53 D5) ∧ Below base w w') := Lib.hid fun n =>
                     (shift_any (hG5.ch.keeps (Nat.le_refl _) (below_drewN (Below.refl base wc) n)) (hD5.drewN n) k1 k2 hb k4 k5 (k := 53) (by decide) (by decide)).mono
                      fun _ _ ⟨h1, h2, h3⟩ => ⟨h1, h2, (below_drewN HB.out n).trans h3⟩
                    obtain ⟨o1, o2⟩ := shP_ok 53 k1 k2; have o3 := shP_dp 53 k1 k2; have o4 : (shP 53 D5).neg = false := by rw [shP_neg]; exact k3
                    have HE2 : Hid (fbM2 D5 x5 = if riP (shP 53 D5) = 9007199254740992 then (if 1024 ≤ x5 + 1 then (fbOut 0 1024, true) else (fbOut 4503599627370496 (x5 + 1), false))
                     else if (bits .and .u64 ((riP (shP 53 D5) : Nat) : Int) 4503599627370496 == 0) = true then (fbOut (riP (shP 53 D5) : Nat) (-1023), false) else (fbOut (riP (shP 53 D5) : Nat) x5, false)) := Lib.hid (by
                     unfold fbM2; rw [if_neg h1024])
                    have HE3 := Lib.hid (HE2.out.symm.trans HE.out); clear HE HE2; obtain ⟨D6, hd6⟩ : ∃ D6, shP 53 D5 = D6 := ⟨_, rfl⟩; rw [hd6] at HS HE3 o1 o2 o3 o4; clear hd6
                    go_wp2_with fail; go_quiet (fail)
                    go_wp2_with fail; refine (HS.out _).mono ?_; rintro e w6 ⟨⟨v, rfl⟩, hD6, hB6⟩; clear j1 j2 j3 c2 hD5; have hG6 := hG.keeps (Nat.le_refl _) hB6; have i1 := hG6.mant; have i2 := hG6.ebits; have i3 := hG6.bias; have c2 := hD6.cell_neg; rw [o4] at c2
                    go_wp2_with fail; refine (rounded_any hD6 o1 (by omega) (by omega)).mono ?_; rintro e w7 ⟨rfl, n7, rfl⟩; obtain ⟨M, hM⟩ : ∃ M, riP D6 = M := ⟨_, rfl⟩; rw [hM] at HE3 ⊢; clear hM; have HB6 := Lib.hid hB6; clear hB6 hD6 o1 o2 o3 o4 k1 k2 k3 k4 k5 HS; by_cases hM : M = 9007199254740992
                    · subst hM
                      have hb1 : bits .and .u64 4503599627370496 4503599627370496 = 4503599627370496 := by decide
                      have HE4 := HE3.out; rw [if_pos rfl] at HE4; by_cases h3 : 1024 ≤ x5 + 1
                      · rw [if_pos h3] at HE4
                        have HE2 := Lib.hid HE4; clear HE4 HE3
                        go_wp2_with fail; go_quiet (fail)
                        go_wp2_with fail; go_step3
                        refine g1 _ _ ?_; clear g0 g1
                        go_wp2_with fail; go_quiet (fail)
                        go_wp2_with fail; go_step3
                        go_wp2_with fail; go_quiet (fail)
                        go_wp2_with fail; rw [Exit.noGoto_ret]; go_ret2; exact ⟨by rw [← HE2.out]; rfl, below_drewN HB6.out _⟩
                      · rw [if_neg h3] at HE4
                        have HE2 := Lib.hid HE4; clear HE4 HE3
                        go_wp2_with fail; go_quiet (fail)
                        go_wp2_with fail; go_step3
                        refine g0 _ _ ?_; clear g0 g1
                        go_wp2_with fail; go_quiet (fail)
                        go_wp2_with fail; rw [Exit.noGoto_ret]; go_ret2; exact ⟨by rw [← HE2.out]; rfl, below_drewN HB6.out _⟩
                    · have hMI : ((M : Int) == 9007199254740992) = false := by simp; omega
                      have HE4 := HE3.out; rw [if_neg hM] at HE4; by_cases hdn : (bits .and .u64 (M : Int) 4503599627370496 == 0) = true
                      · rw [if_pos hdn] at HE4
                        have HE2 := Lib.hid HE4; clear HE4 HE3
                        go_wp2_with fail; go_step3
                        refine g0 _ _ ?_; clear g0 g1
                        go_wp2_with fail; go_quiet (fail)
                        go_wp2_with fail; rw [Exit.noGoto_ret]; go_ret2; exact ⟨by rw [← HE2.out]; rfl, below_drewN HB6.out _⟩
                      · rw [if_neg hdn] at HE4
                        have HE2 := Lib.hid HE4; clear HE4 HE3
                        go_wp2_with fail; go_step3
                        refine g0 _ _ ?_; clear g0 g1
                        go_wp2_with fail; go_quiet (fail)
                        go_wp2_with fail; rw [Exit.noGoto_ret]; go_ret2; exact ⟨by rw [← HE2.out]; rfl, below_drewN HB6.out _⟩
               · have hz : D4.dp = 0 := by omega
                 have h53 : ¬ ((D4.d 0 : Int) < 53) := by have := hnot.out; omega
                 rw [hz] at c3; clear h0; go_upto_if 111 with fail
                 clear c3; go_cut [6] from 105 to 125 (fun x wx => x = .int .i64 (fbE (x4 - 1)) ∧ DB wx g (fbD D4 (x4 - 1)) ∧ Below base wr wx)
                 case first =>
                  clear g0 g1; by_cases hlt : x4 - 1 < -1022
                  · go_wp2_with fail
                    refine (hsd.out hlt).mono ?_; rintro e w3 ⟨⟨v, rfl⟩, hD3, hB3⟩
                    go_wp2_with fail; go_meet; refine ⟨?_, hD3, hB3⟩; unfold fbE; rw [if_pos hlt]; exact congrArg (Value.int .i64) (by omega)
                  · go_wp2_with fail
                    go_meet; refine ⟨?_, ?_, Below.refl _ _⟩
                    · unfold fbE
                      rw [if_neg (by omega)]
                    · unfold fbD
                      rw [if_neg (by omega)]; exact HD.out
                 case rest =>
                  obtain ⟨rfl, hD5, hB5⟩ := hcut; obtain ⟨k1, k2, k3, k4, k5, k6, k7⟩ := HOK.out; rw [HNG.out] at k3; have hG5 := hG.keeps (Nat.le_refl _) (hB.trans hB5); have j1 := hG5.mant; have j2 := hG5.ebits; have j3 := hG5.bias; obtain ⟨D5, hd5⟩ : ∃ D5, fbD D4 (x4 - 1) = D5 := ⟨_, rfl⟩; obtain ⟨x5, hx⟩ : ∃ x5, fbE (x4 - 1) = x5 := ⟨_, rfl⟩; rw [hd5, hx] at HE; rw [hd5] at hD5 k1 k2 k3 k4 k5; rw [hx] at k6 k7 ⊢; have c2 := hD5.cell_neg; rw [k3] at c2; have HB := Lib.hid (hB.trans hB5); clear hd5 hx hB hB5 hsd HOK HNG HD hnot i1 i2 i3 hG4 hx5 hx3; by_cases h1024 : 1024 ≤ x5
                  · have HE2 : Hid ((fbOut 0 1024, true) = R) := Lib.hid (by
                     rw [← HE.out]; unfold fbM2; rw [if_pos h1024])
                    clear HE
                    go_wp2_with fail; go_quiet (fail)
                    go_wp2_with fail; go_step3
                    refine g1 _ _ ?_; clear g0 g1
                    go_wp2_with fail; go_quiet (fail)
                    go_wp2_with fail; go_step3
                    go_wp2_with fail; go_quiet (fail)
                    go_wp2_with fail; rw [Exit.noGoto_ret]; go_ret2; exact ⟨by rw [← HE2.out]; rfl, below_drewN HB.out _⟩
                  · have HS : Hid (∀ n, Calls Tryz.prog 140 #[.pointer (some ⟨g, 0, none⟩), .int .i64 53] (wc.drewN n) fun e w' => (∃ v, e = .returned v) ∧ DB w' g (shP 53 D5) ∧ Below base w w') := Lib.hid fun n =>
                     (shift_any (hG5.ch.keeps (Nat.le_refl _) (below_drewN (Below.refl base wc) n)) (hD5.drewN n) k1 k2 hb k4 k5 (k := 53) (by decide) (by decide)).mono
                      fun _ _ ⟨h1, h2, h3⟩ => ⟨h1, h2, (below_drewN HB.out n).trans h3⟩
                    obtain ⟨o1, o2⟩ := shP_ok 53 k1 k2; have o3 := shP_dp 53 k1 k2; have o4 : (shP 53 D5).neg = false := by rw [shP_neg]; exact k3
                    have HE2 : Hid (fbM2 D5 x5 = if riP (shP 53 D5) = 9007199254740992 then (if 1024 ≤ x5 + 1 then (fbOut 0 1024, true) else (fbOut 4503599627370496 (x5 + 1), false))
                     else if (bits .and .u64 ((riP (shP 53 D5) : Nat) : Int) 4503599627370496 == 0) = true then (fbOut (riP (shP 53 D5) : Nat) (-1023), false) else (fbOut (riP (shP 53 D5) : Nat) x5, false)) := Lib.hid (by
                     unfold fbM2; rw [if_neg h1024])
                    have HE3 := Lib.hid (HE2.out.symm.trans HE.out); clear HE HE2; obtain ⟨D6, hd6⟩ : ∃ D6, shP 53 D5 = D6 := ⟨_, rfl⟩; rw [hd6] at HS HE3 o1 o2 o3 o4; clear hd6
                    go_wp2_with fail; go_quiet (fail)
                    go_wp2_with fail; refine (HS.out _).mono ?_; rintro e w6 ⟨⟨v, rfl⟩, hD6, hB6⟩; clear j1 j2 j3 c2 hD5; have hG6 := hG.keeps (Nat.le_refl _) hB6; have i1 := hG6.mant; have i2 := hG6.ebits; have i3 := hG6.bias; have c2 := hD6.cell_neg; rw [o4] at c2
                    go_wp2_with fail; refine (rounded_any hD6 o1 (by omega) (by omega)).mono ?_; rintro e w7 ⟨rfl, n7, rfl⟩; obtain ⟨M, hM⟩ : ∃ M, riP D6 = M := ⟨_, rfl⟩; rw [hM] at HE3 ⊢; clear hM; have HB6 := Lib.hid hB6; clear hB6 hD6 o1 o2 o3 o4 k1 k2 k3 k4 k5 HS; by_cases hM : M = 9007199254740992
                    · subst hM
                      have hb1 : bits .and .u64 4503599627370496 4503599627370496 = 4503599627370496 := by decide
                      have HE4 := HE3.out; rw [if_pos rfl] at HE4; by_cases h3 : 1024 ≤ x5 + 1
                      · rw [if_pos h3] at HE4
                        have HE2 := Lib.hid HE4; clear HE4 HE3
                        go_wp2_with fail; go_quiet (fail)
                        go_wp2_with fail; go_step3
                        refine g1 _ _ ?_; clear g0 g1
                        go_wp2_with fail; go_quiet (fail)
                        go_wp2_with fail; go_step3
                        go_wp2_with fail; go_quiet (fail)
                        go_wp2_with fail; rw [Exit.noGoto_ret]; go_ret2; exact ⟨by rw [← HE2.out]; rfl, below_drewN HB6.out _⟩
                      · rw [if_neg h3] at HE4
                        have HE2 := Lib.hid HE4; clear HE4 HE3
                        go_wp2_with fail; go_quiet (fail)
                        go_wp2_with fail; go_step3
                        refine g0 _ _ ?_; clear g0 g1
                        go_wp2_with fail; go_quiet (fail)
                        go_wp2_with fail; rw [Exit.noGoto_ret]; go_ret2; exact ⟨by rw [← HE2.out]; rfl, below_drewN HB6.out _⟩
                    · have hMI : ((M : Int) == 9007199254740992) = false := by simp; omega
                      have HE4 := HE3.out; rw [if_neg hM] at HE4; by_cases hdn : (bits .and .u64 (M : Int) 4503599627370496 == 0) = true
                      · rw [if_pos hdn] at HE4
                        have HE2 := Lib.hid HE4; clear HE4 HE3
                        go_wp2_with fail; go_step3
                        refine g0 _ _ ?_; clear g0 g1
                        go_wp2_with fail; go_quiet (fail)
                        go_wp2_with fail; rw [Exit.noGoto_ret]; go_ret2; exact ⟨by rw [← HE2.out]; rfl, below_drewN HB6.out _⟩
                      · rw [if_neg hdn] at HE4
                        have HE2 := Lib.hid HE4; clear HE4 HE3
                        go_wp2_with fail; go_step3
                        refine g0 _ _ ?_; clear g0 g1
                        go_wp2_with fail; go_quiet (fail)
                        go_wp2_with fail; rw [Exit.noGoto_ret]; go_ret2; exact ⟨by rw [← HE2.out]; rfl, below_drewN HB6.out _⟩
end Go.Proofs.YtkoghgnjjfnamaaGreatDoor
