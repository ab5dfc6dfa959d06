/- A finite float's text, without its sign, is read as its magnitude: plain. -/
import Derived.Test.YtbgjhgohffkonaaGreatDoorVtG
namespace Go.Proofs.YtbgjhgohffkonaaGreatDoor
set_option linter.unusedVariables false
/-- A float's text without the sign. -/
def coreT (b : Nat) : List UInt8 :=
  if ftM b ≠ 0 ∧ bigB b = true then dotT (fmM (ftD b)) ++ 101 :: fmX (ftQ b - 1)
  else dotT (if ftM b = 0 then [48] else fmI (ftD b) (ftQ b) ++ fmR (ftD b) (ftQ b))
theorem dotT_sign (s : Bool) (l : List UInt8) : dotT (fmS s ++ l) = fmS s ++ dotT l := by
  have h : (fmS s ++ l).contains 46 = l.contains 46 := by
    cases s
    · rfl
    · show (([45] : List UInt8) ++ l).contains 46 = _
      simp
  unfold dotT
  rw [h]
  split
  · rfl
  · rw [List.append_assoc]
theorem flt_core {b : Nat} (hE : ftE b ≠ 2047) : fltT b = fmS (ftN b) ++ coreT b := by
  obtain ⟨n1, n2, n3⟩ := fin_of hE
  unfold fltT coreT fT102
  rw [if_neg n1, if_neg n2, if_neg n3]
  split
  · rw [dotT_sign, List.append_assoc]
  · rename_i h
    by_cases h0 : ftM b = 0
    · rw [if_pos h0, if_pos h0, dotT_sign]
    · rw [if_neg h0, if_neg h0]
      have : ffT 102 b = fmS (ftN b) ++ (fmI (ftD b) (ftQ b) ++ fmR (ftD b) (ftQ b)) := by
        unfold ffT fmF
        rw [if_neg (by decide), List.append_assoc]
      rw [this, dotT_sign]
theorem digs_no {l : List UInt8} (h : Digs l) : l.contains 46 = false := by
  rw [Bool.eq_false_iff]
  intro h1
  have := h 46 (List.contains_iff_mem.1 h1)
  exact absurd this.1 (by decide)
theorem dot_in (A B : List UInt8) : dotT (A ++ 46 :: B) = A ++ 46 :: B := by
  unfold dotT
  rw [if_pos (by simp)]
theorem dot_no {A : List UInt8} (h : Digs A) : dotT A = A ++ 46 :: [48] := by
  unfold dotT
  rw [digs_no h]
  rfl
theorem dig48 : Digs [48] := fun c hc => by
  rw [List.mem_singleton] at hc
  subst hc
  exact ⟨by decide, by decide⟩
theorem dig_app {A B : List UInt8} (hA : Digs A) (hB : Digs B) : Digs (A ++ B) := fun c hc => by
  rcases List.mem_append.1 hc with h | h
  · exact hA c h
  · exact hB c h
theorem dig_rep (k : Nat) : Digs (List.replicate k 48) := fun c hc => by
  rw [List.eq_of_mem_replicate hc]
  exact ⟨by decide, by decide⟩
theorem rep_no (k : Nat) : (List.replicate k (48 : UInt8)).any (fun c => !(c == 48)) = false := by
  rw [List.any_eq_false]
  intro x hx
  rw [List.eq_of_mem_replicate hx]
  decide
/-- A number of at most nineteen digits. -/
theorem small_G {G : List UInt8} (h : G.length ≤ 19) : G.take 19 = G ∧ (G.drop 19).any (fun c => !(c == 48)) = false ∧ min 19 G.length = G.length := by
  refine ⟨List.take_of_length_le h, ?_, by omega⟩
  rw [List.drop_eq_nil_of_le h]
  rfl
theorem head_app {D : List UInt8} (h : D.head? ≠ some 48) (h1 : 1 ≤ D.length) (R : List UInt8) : (D ++ R).head? ≠ some 48 := by
  cases D with
  | nil => simp at h1
  | cons c r => exact h
def chk21 (e : Nat) : Bool := Nat.ble (fvA 4921056587992461136) (10 ^ 21 * 2 ^ e)
theorem chk21_ok : chk21 1074 = true := by decide +kernel
theorem ft_parts {b : Nat} (hb : b < 18446744073709551616) (hE : ftE b ≠ 2047) (hM : ftM b ≠ 0) :
    Nrm (ftM b) (ftE b - 1) ∧ ftE b - 1 ≤ 2045 ∧ b % 9223372036854775808 = (ftE b - 1) * 4503599627370496 + ftM b ∧
      RI (ftM b) (ftE b - 1) ((ftP b).1 * 10 ^ ((ftP b).2 + 348).toNat * 2 ^ exB) tenB ∧ (ftP b).1 < 144115188075855872 ∧ 1 ≤ (ftP b).1 ∧ -347 ≤ (ftP b).2 ∧ (ftP b).2 ≤ 349 := by
  obtain ⟨o1, o2, o3, o4⟩ := ft_ok hb hE hM
  have hbd := short_bd o4
  have hEl : ftE b < 2048 := Nat.mod_lt _ (by decide)
  have hM2 : ftM b < 9007199254740992 := by unfold ftM; split <;> omega
  obtain ⟨h1, h2, h3⟩ := Lib.bitLenAux_bounds 64 (ftM b) (by omega) hM
  have hS : Lib.bitLen (ftM b) = Lib.bitLenAux 64 (ftM b) := rfl
  rw [← hS] at h1 h2 h3
  have hME : (ftE b = 0 ∧ ftM b < 4503599627370496) ∨ (1 ≤ ftE b ∧ 4503599627370496 ≤ ftM b) := by
    unfold ftM
    by_cases h : ftE b = 0
    · rw [if_pos h]; omega
    · rw [if_neg h]; omega
  have nn : Nrm (ftM b) (ftE b - 1) := ⟨by omega, hM2, by omega⟩
  have hbv : b % 9223372036854775808 = (ftE b - 1) * 4503599627370496 + ftM b := by
    unfold ftM
    by_cases h : ftE b = 0
    · rw [if_pos h]; unfold ftE at *; omega
    · rw [if_neg h]; unfold ftE at *; omega
  refine ⟨nn, by omega, hbv, ?_⟩
  have hSS : 4503599627370496 ≤ ftM b ∧ ftS b = 11 ∨ ftM b < 4503599627370496 ∧ 12 ≤ ftS b ∧ ftS b ≤ 63 := by
    have hSd : ftS b = 64 - Lib.bitLen (ftM b) := rfl
    have e52 : (2 : Nat) ^ 52 = 4503599627370496 := by decide
    rcases hME with ⟨_, hm⟩ | ⟨_, hm⟩
    · refine Or.inr ⟨hm, ?_, by omega⟩
      refine Nat.le_of_not_lt fun hl => ?_
      have : 2 ^ 52 ≤ 2 ^ (Lib.bitLen (ftM b) - 1) := Nat.pow_le_pow_right (by decide) (by omega)
      omega
    · refine Or.inl ⟨hm, ?_⟩
      have : ¬ Lib.bitLen (ftM b) ≤ 52 := fun hl => by
        have : 2 ^ Lib.bitLen (ftM b) ≤ 2 ^ 52 := Nat.pow_le_pow_right (by decide) hl
        omega
      omega
  have hX : ftX b - ftS b - 52 = ((ftE b - 1 : Nat) : Int) - 1074 - ftS b := by
    unfold ftX
    by_cases h : ftE b = 0
    · rw [if_pos h, h]; omega
    · rw [if_neg h]; omega
  have := short_RI (m := ftM b) (k := ftE b - 1) (S := ftS b) (e := ftX b - ftS b - 52) nn (by omega) o4.1 o3 hSS hX
  exact ⟨this.1, this.2, hbd.1, hbd.2.2.1, hbd.2.2.2⟩
theorem below_22 {N i m k e f n t : Nat} {q : Int} (hR : N * 10 ^ i * 2 ^ exB ≤ (4 * m + 2) * 2 ^ k * tenB) (hge : 10 ^ n ≤ N) (hn : q = (n : Int) + 1 + i - t) (hf : f = m * 2 ^ k) (h : f < 10 ^ 21 * 2 ^ e) (hm : 1 ≤ m) (hx : exB = e + 2) (hT : tenB = 10 ^ t) (ht : True) : q ≤ 22 := by
  rw [hT] at hR
  have e2 : 2 ^ exB = 4 * 2 ^ e := by rw [hx, Nat.pow_succ, Nat.pow_succ]; omega
  rw [e2] at hR
  have h1 : (4 * m + 2) * 2 ^ k ≤ 8 * f := by
    rw [hf, ← Nat.mul_assoc]
    exact Nat.mul_le_mul_right _ (by omega)
  have h2 : (4 * m + 2) * 2 ^ k * 10 ^ t ≤ 8 * f * 10 ^ t := Nat.mul_le_mul_right _ h1
  have h3 : 8 * f * 10 ^ t < 8 * (10 ^ 21 * 2 ^ e) * 10 ^ t := Nat.mul_lt_mul_of_pos_right (by omega) (p10_pos t)
  have h4 := Nat.lt_of_le_of_lt (Nat.le_trans hR h2) h3
  have e3 : N * 10 ^ i * (4 * 2 ^ e) = (N * 10 ^ i) * (4 * 2 ^ e) := rfl
  have e4 : 8 * (10 ^ 21 * 2 ^ e) * 10 ^ t = (2 * 10 ^ 21 * 10 ^ t) * (4 * 2 ^ e) := by
    generalize (10 : Nat) ^ 21 = x
    grind
  rw [e4] at h4
  have h5 := Nat.lt_of_mul_lt_mul_right h4
  have h6 : 10 ^ (n + i) ≤ N * 10 ^ i := by rw [Nat.pow_add]; exact Nat.mul_le_mul_right _ hge
  have h7 : 2 * 10 ^ 21 * 10 ^ t ≤ 10 ^ (22 + t) := by rw [Nat.pow_add]; exact Nat.mul_le_mul_right _ (by decide)
  have h8 := (Nat.pow_lt_pow_iff_right (a := 10) (by decide)).1 (Nat.lt_of_lt_of_le (Nat.lt_of_le_of_lt h6 h5) h7)
  omega
/-- A float's text without the sign is read as the float without the sign. -/
theorem core_read {b : Nat} (hb : b < 18446744073709551616) (hE : ftE b ≠ 2047) : Rd (coreT b) (b % 9223372036854775808) := by
  by_cases hM : ftM b = 0
  · have h0 : b % 9223372036854775808 = 0 := by rcases zero_of hb hM with h | h <;> rw [h]
    rw [h0]
    unfold coreT
    rw [if_neg (by rintro ⟨h, _⟩; exact h hM), if_pos hM]
    exact rd_zero
  · obtain ⟨nn, hk, hbv, hRI, hd2, hd1, hP1, hP2⟩ := ft_parts hb hE hM
    obtain ⟨c, r, z, hD, hc, hDg, hnum, hnd, hlen, hge⟩ := digs_of hd1 hd2
    have hDb : ftD b = c :: r := hD
    have hQ : ftQ b = ((c :: r).length : Nat) + (z : Nat) + (ftP b).2 := by
      unfold ftQ
      rw [hnd]; omega
    have hz20 : (c :: r).length + z ≤ 20 := by rw [← hnd]; exact (nd_range (by omega)).2
    have hn10 : numL (c :: r) < 1000000000000000000 := by
      have := numL_lt (c :: r) hDg
      have h18 : 10 ^ (c :: r).length ≤ 10 ^ 18 := Nat.pow_le_pow_right (by decide) hlen
      omega
    have hn57 : numL (c :: r) < 144115188075855872 := by
      refine Nat.lt_of_le_of_lt ?_ hd2
      rw [← hnum]
      exact Nat.le_mul_of_pos_right _ (p10_pos z)
    have hn0 : 0 < numL (c :: r) := Nat.lt_of_lt_of_le (p10_pos _) hge
    have hrest : ∀ {M i w : Nat}, M = numL (c :: r) * 10 ^ w → (i : Int) + w = (ftP b).2 + 348 + z → RI (ftM b) (ftE b - 1) (M * 10 ^ i * 2 ^ exB) tenB := by
      intro M i w h1 h2
      rw [ten_eq (I := ((ftP b).2 + 348).toNat) (z := z) hnum h1 (by omega)]
      exact hRI
    rw [hbv]
    clear hRI
    have hfv : fvA b = ftM b * 2 ^ (ftE b - 1) := rfl
    have hrl : (c :: r).length = r.length + 1 := List.length_cons
    generalize ftE b - 1 = k at *
    unfold coreT
    rw [hDb]
    by_cases hbig : bigB b = true
    · rw [if_pos ⟨hM, hbig⟩]
      have hx3 : (ftQ b - 1).natAbs < 1000 := by
        rw [List.length_cons] at hQ hz20
        omega
      obtain ⟨E, hX, hEd, hE0, hE4, hEn⟩ := fmX_parts hx3
      obtain ⟨s, hs1, hs2⟩ : ∃ s : Int, (((if ftQ b - 1 < 0 then 45 else 43 : UInt8) = 43 ∧ s = 1) ∨ ((if ftQ b - 1 < 0 then 45 else 43 : UInt8) = 45 ∧ s = -1)) ∧ (numL E : Nat) * s = ftQ b - 1 := by
        by_cases h : ftQ b - 1 < 0
        · exact ⟨-1, Or.inr ⟨if_pos h, rfl⟩, by rw [hEn]; omega⟩
        · exact ⟨1, Or.inl ⟨if_neg h, rfl⟩, by rw [hEn]; omega⟩
      rw [hX]
      have hcd : Digs [c] := fun x hx => hDg x (by rw [List.mem_singleton] at hx; rw [hx]; exact List.mem_cons_self)
      have s1 : StR [c] 0 (rfL rf0 [c]) := StR.zero.digits [c] hcd (Or.inr (by simpa using hc))
      have s2 := s1.dot
      cases r with
      | nil =>
        have s3 := s2.digits [48] dig48 (Or.inl (by simp))
        show Rd (dotT [c] ++ _) _
        rw [dot_no hcd]
        have e1 : numL [c, 48] = numL [c] * 10 ^ 1 := numL_zeros [c] 1
        have hc10 : numL [c] < 10 ^ 1 := numL_lt [c] hDg
        refine rd_exp (A := [c]) (B := [48]) (G := [c] ++ [48]) (dp := ([c] : List UInt8).length) (M := numL [c, 48]) (i := ((ftP b).2 + 348 + z - 1).toNat) hcd dig48 (by simp) (by simp) (by simp) s3 hs1 hEd hE0 hE4 rfl rfl ?_ (by omega) (by omega) (Or.inl (by omega)) nn hk (hrest (w := 1) e1 (by omega))
        rw [hs2, hQ]
        simp only [List.length_append, List.length_cons, List.length_nil]
        omega
      | cons a r' =>
        have hrd : Digs (a :: r') := fun x hx => hDg x (List.mem_cons_of_mem _ hx)
        have s3 := s2.digits (a :: r') hrd (Or.inl (by simp))
        show Rd (dotT ([c] ++ 46 :: (a :: r')) ++ _) _
        rw [dot_in]
        obtain ⟨g1, g2, g3⟩ := small_G (G := [c] ++ (a :: r')) (by simp at hlen ⊢; omega)
        refine rd_exp (A := [c]) (B := a :: r') (G := [c] ++ (a :: r')) (dp := ([c] : List UInt8).length) (M := numL (c :: a :: r')) (i := ((ftP b).2 + 348 + z).toNat) hcd hrd (by simp) (by simp) (by simp at hlen ⊢; omega) s3 hs1 hEd hE0 hE4 (by rw [g1]; rfl) g2 ?_ hn0 (by omega) (Or.inl hn57) nn hk (hrest (w := 0) (by simp) (by omega))
        rw [hs2, hQ, g3]
        simp only [List.length_append, List.length_cons, List.length_nil]
        omega
    · rw [if_neg (fun h => hbig h.2), if_neg hM]
      have hDh : (c :: r).head? ≠ some 48 := by simpa using hc
      have hDl : 1 ≤ (c :: r).length := by simp
      clear hDb hD
      generalize c :: r = D at *
      obtain ⟨q, hq⟩ : ∃ q, ftQ b = q := ⟨_, rfl⟩
      rw [hq] at hQ ⊢
      by_cases h0 : q ≤ 0
      · have e1 : fmI D q = [48] := by unfold fmI; rw [if_neg (by omega)]
        have e2 : fmR D q = 46 :: (List.replicate (-q).toNat 48 ++ D) := by
          unfold fmR
          rw [if_pos (by omega), show q.toNat = 0 by omega, List.drop_zero]
        rw [e1, e2, dot_in]
        have s1 : StR [] (0 - (1 : Nat)) (rfL rf0 [48]) := StR.zero.zeros 1
        have s2 := s1.dot.zeros (-q).toNat
        have s3 := s2.digits D hDg (Or.inr hDh)
        rw [← rfL_append, List.nil_append] at s3
        obtain ⟨g1, g2, g3⟩ := small_G (G := D) (by omega)
        refine rd_none (A := [48]) (B := List.replicate (-q).toNat 48 ++ D) (G := D) (M := numL D) (i := ((ftP b).2 + 348 + z).toNat) dig48 (dig_app (dig_rep _) hDg) (by decide) (by rw [List.length_append]; omega) (by rw [List.length_append, List.length_replicate]; simp; omega) s3 (by rw [g1]) g2 ?_ hn0 (by omega) (Or.inl hn57) nn hk (hrest (w := 0) (by simp) (by omega))
        rw [g3]
        simp only [List.length_nil]
        omega
      · by_cases h1 : q < (D.length : Int)
        · have e1 : fmI D q = D.take q.toNat := by
            unfold fmI
            rw [if_pos (by omega), show q.toNat - D.length = 0 by omega, List.replicate_zero, List.append_nil]
          have e2 : fmR D q = 46 :: D.drop q.toNat := by
            unfold fmR
            rw [if_pos h1, show (-q).toNat = 0 by omega, List.replicate_zero, List.nil_append]
          rw [e1, e2, dot_in]
          have hA : Digs (D.take q.toNat) := fun x hx => hDg x (List.mem_of_mem_take hx)
          have hB : Digs (D.drop q.toNat) := fun x hx => hDg x (List.mem_of_mem_drop hx)
          have hAl : (D.take q.toNat).length = q.toNat := by rw [List.length_take]; omega
          have hBl : (D.drop q.toNat).length = D.length - q.toNat := List.length_drop
          have hAh : (D.take q.toNat).head? ≠ some 48 := by
            rw [List.head?_take, if_neg (by omega)]; exact hDh
          have s1 := StR.zero.digits (D.take q.toNat) hA (Or.inr hAh)
          have s3 := s1.dot.digits (D.drop q.toNat) hB (Or.inl (by intro h; have := congrArg List.length h; rw [List.nil_append, hAl, List.length_nil] at this; omega))
          rw [List.nil_append, List.take_append_drop] at s3
          obtain ⟨g1, g2, g3⟩ := small_G (G := D) (by omega)
          refine rd_none (A := D.take q.toNat) (B := D.drop q.toNat) (G := D) (M := numL D) (i := ((ftP b).2 + 348 + z).toNat) hA hB (by omega) (by omega) (by omega) s3 (by rw [g1]) g2 ?_ hn0 (by omega) (Or.inl hn57) nn hk (hrest (w := 0) (by simp) (by omega))
          rw [g3, hAl]
          omega
        · obtain ⟨n, hn⟩ : ∃ n : Nat, q = (D.length : Int) + n := ⟨(q - D.length).toNat, by omega⟩
          have e1 : fmI D q = D ++ List.replicate n 48 := by
            unfold fmI
            rw [if_pos (by omega), List.take_of_length_le (by omega), show q.toNat - D.length = n by omega]
          have e2 : fmR D q = [] := by unfold fmR; rw [if_neg h1]
          have hA : Digs (D ++ List.replicate n 48) := dig_app hDg (dig_rep n)
          rw [e1, e2, List.append_nil, dot_no hA]
          have hAh : (D ++ List.replicate n 48).head? ≠ some 48 := head_app hDh hDl _
          have s1 := StR.zero.digits (D ++ List.replicate n 48) hA (Or.inr hAh)
          have s3 := s1.dot.digits [48] dig48 (Or.inl (by intro h; have := congrArg List.length h; rw [List.nil_append, List.length_append, List.length_nil] at this; omega))
          rw [List.nil_append, List.append_assoc, ← List.replicate_succ'] at s3
          -- digits that count
          obtain ⟨w, hw⟩ : ∃ w, w = min (19 - D.length) (n + 1) := ⟨_, rfl⟩
          have gt : (D ++ List.replicate (n + 1) 48).take 19 = D ++ List.replicate w 48 := by
            rw [List.take_append, List.take_of_length_le (by omega), List.take_replicate, hw]
          have gd : ((D ++ List.replicate (n + 1) 48).drop 19).any (fun c => !(c == 48)) = false := by
            rw [List.drop_append, List.drop_eq_nil_of_le (by omega), List.nil_append, List.drop_replicate]
            exact rep_no _
          have gl : (D ++ List.replicate (n + 1) (48 : UInt8)).length = D.length + n + 1 := by rw [List.length_append, List.length_replicate]; omega
          have hM' : numL (D ++ List.replicate w 48) = numL D * 10 ^ w := numL_zeros D w
          have hlt : numL (D ++ List.replicate w 48) < 10000000000000000000 := by
            have h1 := numL_lt (D ++ List.replicate w 48) (dig_app hDg (dig_rep w))
            have h2 : 10 ^ (D ++ List.replicate w (48 : UInt8)).length ≤ 10 ^ 19 := Nat.pow_le_pow_right (by decide) (by rw [List.length_append, List.length_replicate]; omega)
            have e19 : (10 : Nat) ^ 19 = 10000000000000000000 := by decide
            rw [e19] at h2
            exact Nat.lt_of_lt_of_le h1 h2
          have hr := hrest (M := numL (D ++ List.replicate w 48)) (i := ((ftP b).2 + 348 + z - w).toNat) (w := w) hM' (by omega)
          -- it is below 10 ^ 22
          have hq22 : q ≤ 22 := by
            have hf : fvA b < fvA 4921056587992461136 := by
              unfold bigB at hbig
              rw [Bool.or_eq_true, decide_eq_true_eq, decide_eq_true_eq] at hbig
              omega
            obtain ⟨e, he⟩ : ∃ e : Nat, e = 1074 := ⟨_, rfl⟩
            have h21 := chk21_ok
            rw [← he] at h21
            have h21 := Nat.le_of_ble_eq_true h21
            obtain ⟨t, ht, hT⟩ := tenB_is
            have hx := exB_is
            have hR := (hrest (M := numL D) (i := ((ftP b).2 + 348 + z).toNat) (w := 0) (by simp) (by omega)).le.2
            exact below_22 (m := ftM b) hR hge (by omega) hfv (Nat.lt_of_lt_of_le hf h21) nn.1 (by omega) hT trivial
          refine rd_none (A := D ++ List.replicate n 48) (B := [48]) (G := D ++ List.replicate (n + 1) 48) (M := numL (D ++ List.replicate w 48)) (i := ((ftP b).2 + 348 + z - w).toNat) hA dig48 (by rw [List.length_append]; omega) (by decide) (by rw [List.length_append, List.length_replicate]; simp; omega) s3 (by rw [gt]) gd ?_ (by rw [hM']; exact Nat.mul_pos hn0 (p10_pos w)) hlt (Or.inr (by omega)) nn hk hr
          rw [gl, List.length_append, List.length_replicate]
          omega
end Go.Proofs.YtbgjhgohffkonaaGreatDoor

