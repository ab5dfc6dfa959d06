/- The lexer's numbers with a point have the shape of a number; the reader of floats as a plain function of a text. -/
import Derived.Test.YtnhdedoobagbbaaGreatDoorFltZ
import Derived.Test.YtnhdedoobagbbaaGreatDoorLexR
namespace Go.Proofs.YtnhdedoobagbbaaGreatDoor
open Go.RowKit

def pP (t : ByteArray) : Nat := runTo digitB t 0
def pQ (t : ByteArray) : Nat := runTo digitB t (pP t + 1)
def pR (t : ByteArray) : Nat := if pQ t < t.size then signEnd t (pQ t + 1) else pQ t
def pS (t : ByteArray) : Int := if pQ t < t.size then (if bt t (pQ t + 1) = some 45 then -1 else 1) else 0
/-- The float that a text tells. -/
def pfA (t : ByteArray) : Nat := pfW (rfAt t (pQ t)).m (rfX t (pQ t) (pR t) (pS t)) (rfAt t (pQ t)).tr (dsP t (pQ t) (pR t) (pS t))
def DA (t : ByteArray) : Prop := t.size ≤ 800 → Shp t (pP t) (pQ t) ∧ Tl t (pQ t) (pR t) (pS t)
theorem isE_is {c : UInt8} (h : isE c = true) : c = 101 ∨ c = 69 := by
  have := all256 (p := fun c => !(isE c) || (c == 101 || c == 69)) (by decide +kernel) c
  rw [h] at this
  simpa using this
theorem digit_le {c : UInt8} (h : digitB c = true) : 48 ≤ c ∧ c ≤ 57 := by
  unfold digitB at h
  simpa using h
theorem shaped {s : ByteArray} {a0 : Nat} (h : atDig s a0 = true) (hdot : dotB s (runTo digitB s a0) = true) : DA (s.extract a0 (expEnd s (runTo digitB s (runTo digitB s a0 + 1)))) := by
  intro hsm
  obtain ⟨c, hb, hd⟩ : ∃ c, bt s a0 = some c ∧ digitB c = true := by
    unfold atDig at h
    cases hb : bt s a0 with
    | none => rw [hb] at h; cases h
    | some c => rw [hb] at h; exact ⟨c, rfl, h⟩
  have hk0 := runTo_gt hb hd
  obtain ⟨k, hk⟩ : ∃ k, runTo digitB s a0 = a0 + k := ⟨_, rfl⟩
  rw [hk] at hk0 hdot hsm ⊢
  have hdl := dotB_lt hdot
  obtain ⟨bd, d, hbd, hdd⟩ : bt s (a0 + k) = some 46 ∧ ∃ d, bt s (a0 + k + 1) = some d ∧ digitB d = true := by
    unfold dotB at hdot
    split at hdot
    · rename_i c1 d1 e1 e2
      simp only [Bool.and_eq_true, beq_iff_eq] at hdot
      exact ⟨by rw [e1, hdot.1], d1, e2, hdot.2⟩
    · cases hdot
  have hk20 := runTo_gt hbd hdd
  have hk2s := runTo_le digitB s (n := a0 + k + 1) (by omega)
  obtain ⟨k2, hk2⟩ : ∃ k2, runTo digitB s (a0 + k + 1) = a0 + k + 1 + k2 := ⟨_, rfl⟩
  rw [hk2] at hk20 hk2s hsm ⊢
  have hel := expEnd_le hk2s
  obtain ⟨k3, hk3⟩ : ∃ k3, expEnd s (a0 + k + 1 + k2) = a0 + k + 1 + k2 + k3 := ⟨expEnd s (a0 + k + 1 + k2) - (a0 + k + 1 + k2), by omega⟩
  rw [hk3] at hel hsm ⊢
  obtain ⟨t, ht⟩ : ∃ t, s.extract a0 (a0 + k + 1 + k2 + k3) = t := ⟨_, rfl⟩
  rw [ht] at hsm ⊢
  have hts : t.size = k + 1 + k2 + k3 := by rw [← ht]; simp; omega
  have ha : Agree s t a0 0 (k + 1 + k2 + k3) := by
    intro i hi
    rw [← ht]
    unfold bt
    rw [Lib.extract_data, List.getElem?_take, if_pos (by omega), List.getElem?_drop, Nat.zero_add]
  have hst : StopAt t (0 + (k + 1 + k2 + k3)) := by
    intro c hc
    have := bt_lt hc
    omega
  clear ht
  have r1 : runTo digitB t 0 = 0 + k := by
    refine run_is (by omega) (fun i hi => ?_) fun c hc => ?_
    · rw [ha i (by omega)]; exact run_mem (p := a0) (by omega) (by omega)
    · rw [ha k (by omega), bd] at hc; cases hc; rfl
  have r2 : runTo digitB t (0 + (k + 1)) = 0 + (k + 1) + k2 :=
    run_local hk2 (m := k + 1 + k2 + k3 - (k + 1)) (by omega) (agree_more ha (k + 1)) (by omega) (by rw [show 0 + (k + 1) + (k + 1 + k2 + k3 - (k + 1)) = 0 + (k + 1 + k2 + k3) by omega]; exact hst) (fun c hc => stop_digit hc)
  have r3 : expEnd t (0 + (k + 1 + k2)) = 0 + (k + 1 + k2) + k3 :=
    exp_local hk3 (m := k + 1 + k2 + k3 - (k + 1 + k2)) (by omega) (by have := agree_more ha (k + 1 + k2); rw [show a0 + (k + 1 + k2) = a0 + k + 1 + k2 by omega] at this; exact this) (by rw [show 0 + (k + 1 + k2) + (k + 1 + k2 + k3 - (k + 1 + k2)) = 0 + (k + 1 + k2 + k3) by omega]; exact hst)
  have hp : pP t = k := by unfold pP; omega
  have hq : pQ t = k + 1 + k2 := by
    unfold pQ
    rw [hp, show k + 1 = 0 + (k + 1) by omega, r2]
  have hshp : Shp t (pP t) (pQ t) := by
    rw [hp, hq]
    refine ⟨by omega, by omega, by omega, hsm, fun i hi => ?_, ?_, fun i h1 h2 => ?_⟩
    · obtain ⟨c, h1, h2⟩ := run_mem (pr := digitB) (s := t) (p := 0) (i := i) (by omega) (by omega)
      exact ⟨c, h1, digit_le h2⟩
    · have := ha k (by omega)
      rw [bd, Nat.zero_add] at this
      exact this
    · obtain ⟨c, h1, h2⟩ := run_mem (pr := digitB) (s := t) (p := 0 + (k + 1)) (i := i) (by omega) (by omega)
      exact ⟨c, h1, digit_le h2⟩
  refine ⟨hshp, ?_⟩
  rw [Nat.zero_add] at r3
  unfold pR pS
  rw [hq]
  rcases Nat.eq_zero_or_pos k3 with h3 | h3
  · rw [if_neg (by omega), if_neg (by omega)]
    exact Or.inl ⟨by omega, rfl, rfl⟩
  · rw [if_pos (by omega), if_pos (by omega)]
    have hE : expB t (k + 1 + k2) = true := by
      by_cases h : expB t (k + 1 + k2) = true
      · exact h
      · rw [expEnd_no (by simpa using h)] at r3
        omega
    rw [expEnd_yes hE] at r3
    generalize k + 1 + k2 = q at *
    have hrun : signEnd t (q + 1) < runTo digitB t (signEnd t (q + 1)) ∧ runTo digitB t (signEnd t (q + 1)) = t.size := by
      split at r3
      · exact ⟨by assumption, by omega⟩
      · omega
    have hdig : DigE t (signEnd t (q + 1)) := by
      refine ⟨by omega, fun i h1 h2 => ?_⟩
      obtain ⟨c, h1, h2⟩ := run_mem (pr := digitB) (s := t) h1 (by omega)
      exact ⟨c, h1, digit_le h2⟩
    refine Or.inr ⟨by omega, ?_, ?_⟩
    · unfold expB at hE
      cases hb : bt t q with
      | none => rw [hb] at hE; cases hE
      | some c =>
        rw [hb] at hE
        rcases isE_is hE with rfl | rfl
        · exact Or.inl rfl
        · exact Or.inr rfl
    · cases hb : bt t (q + 1) with
      | none =>
        have e : signEnd t (q + 1) = q + 1 := by unfold signEnd; rw [hb]
        rw [if_neg (by simp)]
        exact Or.inl ⟨e, rfl, hdig⟩
      | some c =>
        by_cases h45 : c = 45
        · subst h45
          have e : signEnd t (q + 1) = q + 1 + 1 := by unfold signEnd; rw [hb]; rfl
          rw [if_pos rfl]
          exact Or.inr (Or.inr ⟨e, rfl, rfl, hdig⟩)
        · rw [if_neg (by simpa using h45)]
          by_cases h43 : c = 43
          · subst h43
            have e : signEnd t (q + 1) = q + 1 + 1 := by unfold signEnd; rw [hb]; rfl
            exact Or.inr (Or.inl ⟨e, rfl, rfl, hdig⟩)
          · have e : signEnd t (q + 1) = q + 1 := by
              unfold signEnd
              rw [hb]
              simp [h45, h43]
            exact Or.inl ⟨e, rfl, hdig⟩
theorem riP_lt (D : Dc) : riP D < 18446744073709551616 := by
  unfold riP
  split
  · decide
  · exact Nat.mod_lt _ (by decide)
theorem fbOut_fin {m : Nat} {e : Int} (hm : m < 18446744073709551616) (h1 : -1023 ≤ e) (h2 : e ≤ 1023) : Fin' (fbOut (m : Int) e).toNat := by
  obtain ⟨x, hx⟩ : ∃ x : Nat, e + 1023 = (x : Int) := ⟨(e + 1023).toNat, by omega⟩
  have hx2 : x ≤ 2046 := by omega
  have hand : bits .and .i64 ((x : Nat) : Int) 2047 = (x : Int) := by
    have : ∀ n : Fin 2047, bits .and .i64 ((n.val : Nat) : Int) 2047 = (n.val : Int) := by decide +kernel
    exact this ⟨x, by omega⟩
  have hw : IntKind.u64.wrap (IntKind.u64.wrap ((x : Nat) : Int) * 4503599627370496) = ((x * 4503599627370496 : Nat) : Int) := by
    rw [IntWalk.u64_in (x : Int) (by omega), IntWalk.u64_in _ (by omega)]
    omega
  have hmask := u64_and_mask m 52 (by decide) hm
  rw [show (((2 ^ 52 : Nat) : Int) - 1) = 4503599627370495 by decide] at hmask
  unfold fbOut
  rw [hx, hand, hw, hmask, u64_or_nat _ _ (by omega) (by omega), Int.toNat_natCast, or_high (by omega)]
  unfold Fin'
  omega
theorem fbP_fin (D : Dc) : Fin' (fbP D).1.toNat := by
  have e1 : Fin' (fbOut 0 1024).toNat := by
    have : (fbOut 0 1024).toNat = 9218868437227405312 := by decide +kernel
    rw [this]
    exact Nat.le_refl _
  have e2 : Fin' (fbOut 0 (-1023)).toNat := fbOut_fin (m := 0) (by decide) (by decide) (by decide)
  unfold fbP
  split
  · exact e2
  · split
    · exact e1
    · split
      · exact e2
      · generalize (fbB (muB (fbA (muA D) D 0).1) (fbA (muA D) D 0).1 (fbA (muA D) D 0).2).2 - 1 = e
        generalize fbD _ e = D2
        have he : -1022 ≤ fbE e := by unfold fbE; split <;> omega
        generalize fbE e = e at *
        unfold fbM2
        split
        · exact e1
        · split
          · split
            · exact e1
            · exact fbOut_fin (m := 4503599627370496) (by decide) (by omega) (by omega)
          · split
            · exact fbOut_fin (riP_lt _) (by decide) (by decide)
            · exact fbOut_fin (riP_lt _) (by omega) (by omega)
theorem exR_fin {m f : Nat} {x : Int} (h : exR m x = some f) : Fin' f := by
  have hM : ∀ {a k f : Nat}, Fin' a → k < 23 → exM a k = some f → Fin' f := by
    intro a k f ha hk h
    unfold exM at h
    split at h
    · cases h
    · split at h
      · cases h
      · cases h
        exact (mulP_is ha hk).2
  unfold exR at h
  split at h
  · cases h
  · split at h
    · cases h; exact exF_fin m
    · split at h
      · split at h
        · exact hM (mulP_is (exF_fin m) (by omega)).2 (by decide) h
        · exact hM (exF_fin m) (by omega) h
      · split at h
        · cases h
          exact (divP_is (exF_fin m) (by omega)).2
        · cases h
theorem pfW_fin {m : Nat} {x : Int} {tr : Bool} {D : Dc} (hm : m < 18446744073709551615) : Fin' (pfW m x tr D) := by
  unfold pfW
  split
  · exact Nat.zero_le _
  · split
    · exact Nat.le_refl _
    · split
      · exact Nat.zero_le _
      · split
        · cases h : exR m x with
          | some f => exact exR_fin h
          | none => exact pf64_fin (by omega) (by omega) (by omega)
        · split
          · exact pf64_fin (by omega) (by omega) (by omega)
          · exact fbP_fin D
theorem pfA_fin {t : ByteArray} (h : t.size ≤ 800) (hD : DA t) : Fin' (pfA t) := by
  obtain ⟨hS, _⟩ := hD h
  have ok := rfAt_ok hS _ (Nat.le_refl _)
  have := m_small ok.m_lt ok.m_le
  exact pfW_fin (by omega)
/-- What the package variables hold that the lexer leans on, at any text; all of it in blocks below NG. -/
structure GA (NG : Nat) (w : World) : Prop where
  f : FG NG w
  errS0 : 2 < NG
  errR0 : 3 < NG
  errS : ∃ ev, w.cell? ⟨2, 0, none⟩ = some ev ∧ (ev = .nilIface ∨ ∃ te pe, ev = .iface te pe)
  errR : ∃ ev, w.cell? ⟨3, 0, none⟩ = some ev ∧ (ev = .nilIface ∨ ∃ te pe, ev = .iface te pe)
theorem GA.keeps {NG B : Nat} {w w' : World} (hB : NG ≤ B) (hb : Below B w w') (h : GA NG w) : GA NG w' where
  f := h.f.keeps hB hb
  errS0 := h.errS0
  errR0 := h.errR0
  errS := by
    rw [hb.cell (show (2 : Nat) < B by have := h.errS0; omega)]; exact h.errS
  errR := by
    rw [hb.cell (show (3 : Nat) < B by have := h.errR0; omega)]; exact h.errR
/-- The world holds all blocks below NG. -/
def GW (NG : Nat) (w : World) : Prop := GA NG w ∧ NG ≤ w.heap.size
theorem GW.keeps {NG B : Nat} {w w' : World} (hB : NG ≤ B) (hb : Below B w w') (h : GW NG w) : GW NG w' := ⟨h.1.keeps hB hb, Nat.le_trans h.2 hb.size⟩
theorem GW.env (NG : Nat) : Env NG (GW NG) DA pfA where
  keeps := fun _ _ _ hB hb h => h.keeps hB hb
  errS := fun _ h => h.1.errS
  errR := fun _ h => h.1.errR
  float := by
    intro t w ht hD h
    obtain ⟨ev, h1, h2⟩ := h.1.errR
    obtain ⟨hS, hT⟩ := hD ht
    exact parseFloat_any h.1.f h.2 h1 h.1.errR0 h2 hS hT
theorem All_pf {NG : Nat} {s : ByteArray} {w : World} (hG : GW NG w) : Calls Tryz.prog 7 #[.string s] w fun e w' => AllPost w (lexP pfA s) e w' :=
  All_any (GW.env NG) hG hG.2 fun _ _ h1 h2 => shaped h1 h2
end Go.Proofs.YtnhdedoobagbbaaGreatDoor
