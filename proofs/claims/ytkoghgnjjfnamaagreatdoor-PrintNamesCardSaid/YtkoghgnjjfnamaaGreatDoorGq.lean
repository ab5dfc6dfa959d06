/- Gq: what is used of them. -/
import Derived.Test.YtkoghgnjjfnamaaGreatDoorFltZ
import Derived.Test.YtkoghgnjjfnamaaGreatDoorGi
namespace Go.Proofs.YtkoghgnjjfnamaaGreatDoor
open Go.RowKit
def tokP (pf : ByteArray → Nat) (s : ByteArray) (p : Nat) : Except (Nat × Int) (Tok × Nat) :=
 match bt s p with
 | none => .error (p, 0)
 | some c =>
   if blankB c then .error (p, 0) else if c == 35 then .error (p, 0) else if letterB c then (if 1024 < runTo moreB s p - p then .error (p, 5) else .ok (⟨1, s.extract p (runTo moreB s p), 0, 0, p⟩, runTo moreB s p)) else if digitB c then numP pf s p else if c == 34 then textP s p else signP s p
inductive Sk (s : ByteArray) : Nat → Nat → Prop
 | here (p : Nat) : Sk s p p
 | blank {p q : Nat} {c : UInt8} : bt s p = some c → blankB c = true → Sk s (p + 1) q → Sk s p q
 | hash {p q : Nat} : bt s p = some 35 → Sk s (runTo notNl s p) q → Sk s p q
inductive Lx (pf : ByteArray → Nat) (s : ByteArray) : Nat → List Tok → Prop
 | fin {p : Nat} : Sk s p s.size → Lx pf s p [⟨0, ⟨#[]⟩, 0, 0, s.size⟩]
 | tok {p q j : Nat} {t : Tok} {ts : List Tok} : Sk s p q → tokP pf s q = .ok (t, j) → Lx pf s j ts → Lx pf s p (t :: ts)
theorem Lx.blank {pf : ByteArray → Nat} {s : ByteArray} {p : Nat} {c : UInt8} {ts : List Tok} (h1 : bt s p = some c) (h2 : blankB c = true) (h : Lx pf s (p + 1) ts) : Lx pf s p ts := by
 cases h with
 | fin h => exact .fin (.blank h1 h2 h)
 | tok h a b => exact .tok (.blank h1 h2 h) a b
theorem Lx.hash {pf : ByteArray → Nat} {s : ByteArray} {p : Nat} {ts : List Tok} (h1 : bt s p = some 35) (h : Lx pf s (runTo notNl s p) ts) : Lx pf s p ts := by
 cases h with
 | fin h => exact .fin (.hash h1 h)
 | tok h a b => exact .tok (.hash h1 h) a b
theorem notNl_gt {s : ByteArray} {p : Nat} (h : bt s p = some 35) : p < runTo notNl s p := runTo_gt h rfl
theorem tokP_at {pf : ByteArray → Nat} {s : ByteArray} {p : Nat} {x : Tok × Nat} (h : tokP pf s p = .ok x) : ∃ c, bt s p = some c ∧ blankB c = false ∧ (c == 35) = false := by
 unfold tokP at h; cases hb : bt s p with
 | none => rw [hb] at h; cases h
 | some c =>
   rw [hb] at h; simp only at h; split at h
   · cases h
   · rename_i h1
     split at h
     · cases h
     · rename_i h2
       exact ⟨c, rfl, by simpa using h1, by simpa using h2⟩
theorem tokP_le {pf : ByteArray → Nat} {s : ByteArray} {p j : Nat} {t : Tok} (h : tokP pf s p = .ok (t, j)) : p < j ∧ j ≤ s.size ∧ t.place = p := by
 obtain ⟨c, hb, h1, h2⟩ := tokP_at h; have hp := bt_lt hb; unfold tokP at h; rw [hb] at h; simp only [h1, h2, Bool.false_eq_true, if_false] at h; split at h
 · rename_i hl
   split at h
   · cases h
   · cases h
     exact ⟨runTo_gt hb (by unfold moreB; simp [hl]), runTo_le moreB s (Nat.le_of_lt hp), rfl⟩
 · split at h
   · rename_i hd
     exact numP_le hb hd h
   · split at h
     · exact textP_le hp h
     · exact signP_le hp h
theorem lexFrom_tok {pf : ByteArray → Nat} {s : ByteArray} {f p : Nat} {acc : List Tok} {c : UInt8} (h : bt s p = some c) (h1 : blankB c = false) (h2 : (c == 35) = false) : lexFrom pf s (f + 1) p acc = lexTok pf s f acc (tokP pf s p) := by
 rw [lexFrom, h]; unfold tokP; rw [h]; simp only [h1, h2]; by_cases hl : letterB c = true
 · simp only [hl]
   by_cases h10 : 1024 < runTo moreB s p - p
   · simp [h10, lexTok]
   · simp [h10, lexTok]
 · simp only [hl]
   simp only [Bool.false_eq_true, if_false]; cases (if digitB c = true then numP pf s p else if (c == 34) = true then textP s p else signP s p) <;> rfl
theorem lx_of_lexFrom {pf : ByteArray → Nat} {s : ByteArray} : ∀ (f p : Nat) (acc r : List Tok), s.size < p + f → p ≤ s.size → lexFrom pf s f p acc = .ok r → ∃ ts, Lx pf s p ts ∧ r = acc ++ ts
 | 0, p, acc, r, h1, h2, _ => by omega
 | f + 1, p, acc, r, h1, h2, h => by
   rcases Nat.lt_or_ge p s.size with hlt | hge
   · have hb := bt_some hlt
     generalize s[p] = c at hb; cases hbl : blankB c with
     | true =>
       rw [lexFrom_blank hb hbl] at h; obtain ⟨ts, ht, rfl⟩ := lx_of_lexFrom f (p + 1) acc r (by omega) (by omega) h; exact ⟨ts, ht.blank hb hbl, rfl⟩
     | false =>
       by_cases h35 : c = 35
       · subst h35
         rw [lexFrom_hash hb] at h; have hg := notNl_gt hb; obtain ⟨ts, ht, rfl⟩ := lx_of_lexFrom f _ acc r (by omega) (runTo_le notNl s (by omega)) h; exact ⟨ts, ht.hash hb, rfl⟩
       · have e35 : (c == 35) = false := by simpa using h35
         rw [lexFrom_tok hb hbl e35] at h; cases ht : tokP pf s p with
         | error x => rw [ht] at h; cases h
         | ok x =>
           obtain ⟨t, j⟩ := x; rw [ht] at h; have hle := tokP_le ht; obtain ⟨ts, h3, rfl⟩ := lx_of_lexFrom f j (acc ++ [t]) r (by omega) (by omega) h; exact ⟨t :: ts, .tok (.here p) ht h3, by simp⟩
   · obtain rfl : p = s.size := by omega
     rw [lexFrom_end (Nat.le_refl _)] at h; cases h; exact ⟨_, .fin (.here _), rfl⟩
theorem lexFrom_skip {pf : ByteArray → Nat} {s : ByteArray} {p q : Nat} (h : Sk s p q) : p ≤ s.size → ∀ (f : Nat) (acc : List Tok), s.size < p + f → p ≤ q ∧ q ≤ s.size ∧ ∃ f', s.size < q + f' ∧ lexFrom pf s f p acc = lexFrom pf s f' q acc := by
 induction h with
 | here p => exact fun hp f acc hf => ⟨Nat.le_refl _, hp, f, hf, rfl⟩
 | blank h1 h2 _ ih =>
   intro hp f acc hf
   have := bt_lt h1; obtain ⟨f, rfl⟩ : ∃ f', f = f' + 1 := ⟨f - 1, by omega⟩; obtain ⟨h3, h4, f', h5, h6⟩ := ih (by omega) f acc (by omega); exact ⟨by omega, h4, f', h5, by rw [lexFrom_blank h1 h2, h6]⟩
 | hash h1 _ ih =>
   intro hp f acc hf
   have := bt_lt h1; have hg := notNl_gt h1; obtain ⟨f, rfl⟩ : ∃ f', f = f' + 1 := ⟨f - 1, by omega⟩; obtain ⟨h3, h4, f', h5, h6⟩ := ih (runTo_le notNl s hp) f acc (by omega); exact ⟨by omega, h4, f', h5, by rw [lexFrom_hash h1, h6]⟩
theorem Sk.le {s : ByteArray} {p q : Nat} (h : Sk s p q) (hp : p ≤ s.size) : p ≤ q ∧ q ≤ s.size := by
 obtain ⟨h1, h2, _⟩ := lexFrom_skip (pf := fun _ => 0) h hp (s.size + 1) [] (by omega); exact ⟨h1, h2⟩
theorem lexFrom_of_lx {pf : ByteArray → Nat} {s : ByteArray} {p : Nat} {ts : List Tok} (h : Lx pf s p ts) : p ≤ s.size → ∀ (f : Nat) (acc : List Tok), s.size < p + f → lexFrom pf s f p acc = .ok (acc ++ ts) := by
 induction h with
 | fin h =>
   intro hp f acc hf; obtain ⟨_, _, f', h5, h6⟩ := lexFrom_skip (pf := pf) h hp f acc hf; obtain ⟨f', rfl⟩ : ∃ g, f' = g + 1 := ⟨f' - 1, by omega⟩; rw [h6, lexFrom_end (Nat.le_refl _)]
 | tok h1 h2 h3 ih =>
   intro hp f acc hf; obtain ⟨_, _, f', h5, h6⟩ := lexFrom_skip (pf := pf) h1 hp f acc hf; obtain ⟨c, hb, hc1, hc2⟩ := tokP_at h2
   have := bt_lt hb; have hle := tokP_le h2; obtain ⟨f', rfl⟩ : ∃ g, f' = g + 1 := ⟨f' - 1, by omega⟩; rw [h6, lexFrom_tok hb hc1 hc2, h2]; show lexFrom pf s f' _ _ = _; rw [ih hle.2.1 f' _ (by omega)]; simp
theorem lexP_iff {pf : ByteArray → Nat} {s : ByteArray} {ts : List Tok} : lexP pf s = .ok ts ↔ s.size ≤ 4096 ∧ Lx pf s 0 ts := by
 unfold lexP; constructor
 · intro h
   split at h
   · cases h
   · obtain ⟨ts', h1, rfl⟩ := lx_of_lexFrom _ _ _ _ (by omega) (by omega) h
     exact ⟨by omega, by simpa using h1⟩
 · rintro ⟨h1, h2⟩
   rw [if_neg (by omega), lexFrom_of_lx h2 (by omega) _ _ (by omega)]; simp
theorem tok_local {pf : ByteArray → Nat} {s s' : ByteArray} {p p' m j : Nat} {t : Tok} (h : tokP pf s p = .ok (t, j)) (hm : j - p ≤ m) (ha : Agree s s' p p' m) (hst : StopAt s' (p' + m)) : tokP pf s' p' = .ok (t.at p', p' + (j - p)) := by
 have hle := tokP_le h; obtain ⟨c, hb, h1, h2⟩ := tokP_at h; have hp := bt_lt hb; have hb' : bt s' p' = some c := by
  have := ha 0 (by omega); rw [Nat.add_zero, Nat.add_zero, hb] at this; exact this
 unfold tokP at h ⊢; rw [hb] at h; rw [hb']; simp only [h1, h2, Bool.false_eq_true, if_false] at h ⊢; by_cases hl : letterB c = true
 · rw [if_pos hl] at h ⊢
   obtain ⟨k, hk⟩ : ∃ k, runTo moreB s p = p + k := ⟨_, rfl⟩; have hks := runTo_le moreB s (Nat.le_of_lt hp); rw [hk] at h hks; by_cases h10 : 1024 < p + k - p
   · rw [if_pos h10] at h; cases h
   · rw [if_neg h10] at h
     cases h; have r1 : runTo moreB s' p' = p' + k := run_local hk (by omega) ha (agree_size ha (by omega) (by omega) hks) hst (fun c hc => stop_more hc); rw [r1, if_neg (by omega), extract_local (agree_less ha (k := k) (by omega))]; simp only [Tok.at]; rw [show p' + (p + k - p) = p' + k by omega]
 · rw [if_neg hl] at h ⊢
   by_cases hd : digitB c = true
   · simp only [hd, if_true] at h ⊢
     exact num_local hb hd h hm ha hst
   · simp only [hd, if_false, Bool.false_eq_true] at h ⊢
     by_cases h34 : (c == 34) = true
     · simp only [h34, if_true] at h ⊢
       exact text_local hp h (agree_less ha hm)
     · simp only [h34, if_false, Bool.false_eq_true] at h ⊢
       exact sign_tok_local hp h hm ha hst
def pP (t : ByteArray) : Nat := runTo digitB t 0
def pQ (t : ByteArray) : Nat := runTo digitB t (pP t + 1)
def pR (t : ByteArray) : Nat := if pQ t < t.size then signEnd t (pQ t + 1) else pQ t
def pS (t : ByteArray) : Int := if pQ t < t.size then (if bt t (pQ t + 1) = some 45 then -1 else 1) else 0
def pfA (t : ByteArray) : Nat := pfW (rfAt t (pQ t)).m (rfX t (pQ t) (pR t) (pS t)) (rfAt t (pQ t)).tr (dsP t (pQ t) (pR t) (pS t))
def DA (t : ByteArray) : Prop := t.size ≤ 800 → Shp t (pP t) (pQ t) ∧ Tl t (pQ t) (pR t) (pS t)
theorem isE_is {c : UInt8} (h : isE c = true) : c = 101 ∨ c = 69 := by
 have := all256 (p := fun c => !(isE c) || (c == 101 || c == 69)) (by decide +kernel) c; rw [h] at this; simpa using this
theorem digit_le {c : UInt8} (h : digitB c = true) : 48 ≤ c ∧ c ≤ 57 := by
 unfold digitB at h; simpa using h
theorem shaped {s : ByteArray} {a0 : Nat} (h : atDig s a0 = true) (hdot : dotB s (runTo digitB s a0) = true) : DA (s.extract a0 (expEnd s (runTo digitB s (runTo digitB s a0 + 1)))) := by
 intro hsm; obtain ⟨c, hb, hd⟩ : ∃ c, bt s a0 = some c ∧ digitB c = true := by
  unfold atDig at h; cases hb : bt s a0 with
  | none => rw [hb] at h; cases h
  | some c => rw [hb] at h; exact ⟨c, rfl, h⟩
 have hk0 := runTo_gt hb hd; obtain ⟨k, hk⟩ : ∃ k, runTo digitB s a0 = a0 + k := ⟨_, rfl⟩; rw [hk] at hk0 hdot hsm ⊢; have hdl := dotB_lt hdot; obtain ⟨bd, d, hbd, hdd⟩ : bt s (a0 + k) = some 46 ∧ ∃ d, bt s (a0 + k + 1) = some d ∧ digitB d = true := by
  unfold dotB at hdot; split at hdot
  · rename_i c1 d1 e1 e2
    simp only [Bool.and_eq_true, beq_iff_eq] at hdot; exact ⟨by rw [e1, hdot.1], d1, e2, hdot.2⟩
  · cases hdot
 have hk20 := runTo_gt hbd hdd; have hk2s := runTo_le digitB s (n := a0 + k + 1) (by omega); obtain ⟨k2, hk2⟩ : ∃ k2, runTo digitB s (a0 + k + 1) = a0 + k + 1 + k2 := ⟨_, rfl⟩; rw [hk2] at hk20 hk2s hsm ⊢; have hel := expEnd_le hk2s; obtain ⟨k3, hk3⟩ : ∃ k3, expEnd s (a0 + k + 1 + k2) = a0 + k + 1 + k2 + k3 := ⟨expEnd s (a0 + k + 1 + k2) - (a0 + k + 1 + k2), by omega⟩; rw [hk3] at hel hsm ⊢; obtain ⟨t, ht⟩ : ∃ t, s.extract a0 (a0 + k + 1 + k2 + k3) = t := ⟨_, rfl⟩; rw [ht] at hsm ⊢; have hts : t.size = k + 1 + k2 + k3 := by rw [← ht]; simp; omega
 have ha : Agree s t a0 0 (k + 1 + k2 + k3) := by
  intro i hi; rw [← ht]; unfold bt; rw [Lib.extract_data, List.getElem?_take, if_pos (by omega), List.getElem?_drop, Nat.zero_add]
 have hst : StopAt t (0 + (k + 1 + k2 + k3)) := by
  intro c hc
  have := bt_lt hc; omega
 clear ht; have r1 : runTo digitB t 0 = 0 + k := by
  refine run_is (by omega) (fun i hi => ?_) fun c hc => ?_
  · rw [ha i (by omega)]; exact run_mem (p := a0) (by omega) (by omega)
  · rw [ha k (by omega), bd] at hc; cases hc; rfl
 have r2 : runTo digitB t (0 + (k + 1)) = 0 + (k + 1) + k2 :=
  run_local hk2 (m := k + 1 + k2 + k3 - (k + 1)) (by omega) (agree_more ha (k + 1)) (by omega) (by rw [show 0 + (k + 1) + (k + 1 + k2 + k3 - (k + 1)) = 0 + (k + 1 + k2 + k3) by omega]; exact hst) (fun c hc => stop_digit hc)
 have r3 : expEnd t (0 + (k + 1 + k2)) = 0 + (k + 1 + k2) + k3 :=
  exp_local hk3 (m := k + 1 + k2 + k3 - (k + 1 + k2)) (by omega) (by have := agree_more ha (k + 1 + k2); rw [show a0 + (k + 1 + k2) = a0 + k + 1 + k2 by omega] at this; exact this) (by rw [show 0 + (k + 1 + k2) + (k + 1 + k2 + k3 - (k + 1 + k2)) = 0 + (k + 1 + k2 + k3) by omega]; exact hst)
 have hp : pP t = k := by unfold pP; omega
 have hq : pQ t = k + 1 + k2 := by
  unfold pQ; rw [hp, show k + 1 = 0 + (k + 1) by omega, r2]
 have hshp : Shp t (pP t) (pQ t) := by
  rw [hp, hq]; refine ⟨by omega, by omega, by omega, hsm, fun i hi => ?_, ?_, fun i h1 h2 => ?_⟩
  · obtain ⟨c, h1, h2⟩ := run_mem (pr := digitB) (s := t) (p := 0) (i := i) (by omega) (by omega)
    exact ⟨c, h1, digit_le h2⟩
  · have := ha k (by omega)
    rw [bd, Nat.zero_add] at this; exact this
  · obtain ⟨c, h1, h2⟩ := run_mem (pr := digitB) (s := t) (p := 0 + (k + 1)) (i := i) (by omega) (by omega)
    exact ⟨c, h1, digit_le h2⟩
 refine ⟨hshp, ?_⟩; rw [Nat.zero_add] at r3; unfold pR pS; rw [hq]; rcases Nat.eq_zero_or_pos k3 with h3 | h3
 · rw [if_neg (by omega), if_neg (by omega)]
   exact Or.inl ⟨by omega, rfl, rfl⟩
 · rw [if_pos (by omega), if_pos (by omega)]
   have hE : expB t (k + 1 + k2) = true := by
    by_cases h : expB t (k + 1 + k2) = true
    · exact h
    · rw [expEnd_no (by simpa using h)] at r3
      omega
   rw [expEnd_yes hE] at r3; generalize k + 1 + k2 = q at *; have hrun : signEnd t (q + 1) < runTo digitB t (signEnd t (q + 1)) ∧ runTo digitB t (signEnd t (q + 1)) = t.size := by
    split at r3
    · exact ⟨by assumption, by omega⟩
    · omega
   have hdig : DigE t (signEnd t (q + 1)) := by
    refine ⟨by omega, fun i h1 h2 => ?_⟩; obtain ⟨c, h1, h2⟩ := run_mem (pr := digitB) (s := t) h1 (by omega); exact ⟨c, h1, digit_le h2⟩
   refine Or.inr ⟨by omega, ?_, ?_⟩
   · unfold expB at hE
     cases hb : bt t q with
     | none => rw [hb] at hE; cases hE
     | some c =>
       rw [hb] at hE; rcases isE_is hE with rfl | rfl
       · exact Or.inl rfl
       · exact Or.inr rfl
   · cases hb : bt t (q + 1) with
     | none =>
       have e : signEnd t (q + 1) = q + 1 := by unfold signEnd; rw [hb]
       rw [if_neg (by simp)]; exact Or.inl ⟨e, rfl, hdig⟩
     | some c =>
       by_cases h45 : c = 45
       · subst h45
         have e : signEnd t (q + 1) = q + 1 + 1 := by unfold signEnd; rw [hb]; rfl
         rw [if_pos rfl]; exact Or.inr (Or.inr ⟨e, rfl, rfl, hdig⟩)
       · rw [if_neg (by simpa using h45)]
         by_cases h43 : c = 43
         · subst h43
           have e : signEnd t (q + 1) = q + 1 + 1 := by unfold signEnd; rw [hb]; rfl
           exact Or.inr (Or.inl ⟨e, rfl, rfl, hdig⟩)
         · have e : signEnd t (q + 1) = q + 1 := by
            unfold signEnd; rw [hb]; simp [h45, h43]
           exact Or.inl ⟨e, rfl, hdig⟩
structure GA (NG : Nat) (w : World) : Prop where
 f : FG NG w
 errS0 : 2 < NG
 errR0 : 3 < NG
 errS : ∃ ev, w.cell? ⟨2, 0, none⟩ = some ev ∧ (ev = .nilIface ∨ ∃ te pe, ev = .iface te pe)
 errR : ∃ ev, w.cell? ⟨3, 0, none⟩ = some ev ∧ (ev = .nilIface ∨ ∃ te pe, ev = .iface te pe)
theorem GA.keeps {NG B : Nat} {w w' : World} (hB : NG ≤ B) (hb : Below B w w') (h : GA NG w) : GA NG w' where
 f := h.f.keeps hB hb
 errS0 := h.errS0
 errR0 := h.errR0
 errS := by
  rw [hb.cell (show (2 : Nat) < B by have := h.errS0; omega)]; exact h.errS
 errR := by
  rw [hb.cell (show (3 : Nat) < B by have := h.errR0; omega)]; exact h.errR
def GW (NG : Nat) (w : World) : Prop := GA NG w ∧ NG ≤ w.heap.size
theorem GW.keeps {NG B : Nat} {w w' : World} (hB : NG ≤ B) (hb : Below B w w') (h : GW NG w) : GW NG w' := ⟨h.1.keeps hB hb, Nat.le_trans h.2 hb.size⟩
theorem GW.env (NG : Nat) : Env NG (GW NG) DA pfA where
 keeps := fun _ _ _ hB hb h => h.keeps hB hb
 errS := fun _ h => h.1.errS
 errR := fun _ h => h.1.errR
 float := by
  intro t w ht hD h; obtain ⟨ev, h1, h2⟩ := h.1.errR; obtain ⟨hS, hT⟩ := hD ht; exact parseFloat_any h.1.f h.2 h1 h.1.errR0 h2 hS hT
theorem All_pf {NG : Nat} {s : ByteArray} {w : World} (hG : GW NG w) : Calls Tryz.prog 12 #[.string s] w fun e w' => AllPost w (lexP pfA s) e w' :=
 All_any (GW.env NG) hG hG.2 fun _ _ h1 h2 => shaped h1 h2
theorem tokP_kind {pf : ByteArray → Nat} {s : ByteArray} {p j : Nat} {t : Tok} (h : tokP pf s p = .ok (t, j)) : t.kind ≠ 0 := by
 obtain ⟨c, hb, h1, h2⟩ := tokP_at h; unfold tokP at h; rw [hb] at h; simp only [h1, h2, Bool.false_eq_true, if_false] at h; split at h
 · split at h
   · cases h
   · cases h; simp
 · split at h
   · unfold numP at h
     split at h
     · cases h
     · split at h
       · split at h
         · cases h
         · split at h
           · cases h
           · cases h; simp
       · split at h
         · cases h; simp
         · cases h
   · split at h
     · unfold textP at h
       split at h
       · cases h; simp
       · cases h
     · unfold signP at h
       split at h
       · cases h; simp
       · cases h
theorem lx_good {pf : ByteArray → Nat} {s : ByteArray} {p : Nat} {ts : List Tok} (h : Lx pf s p ts) : Good ts := by
 induction h with
 | fin h => exact ⟨[], _, rfl, rfl, rfl, fun u hu => by cases hu⟩
 | tok h1 h2 h3 ih =>
   obtain ⟨us, u, rfl, a1, a2, a3⟩ := ih; refine ⟨_ :: us, u, rfl, a1, a2, fun v hv => ?_⟩; rcases List.mem_cons.1 hv with rfl | hv
   · exact tokP_kind h2
   · exact a3 v hv
theorem lx_len {pf : ByteArray → Nat} {s : ByteArray} {p : Nat} {ts : List Tok} (h : Lx pf s p ts) : p ≤ s.size → ts.length + p ≤ s.size + 1 := by
 induction h with
 | fin h => intro hp; simp; omega
 | @tok p q j t ts h1 h2 h3 ih =>
   intro hp; have a := h1.le hp; have b := tokP_le h2; have c := ih b.2.1; simp
   omega
theorem lexP_good {pf : ByteArray → Nat} {s : ByteArray} {ts : List Tok} (h : lexP pf s = .ok ts) : Good ts ∧ ts.length ≤ 4097 := by
 obtain ⟨h1, h2⟩ := lexP_iff.1 h
 have := lx_len h2 (Nat.zero_le _); exact ⟨lx_good h2, by omega⟩
def GP (NG : Nat) (w : World) : Prop := GW NG w ∧ (∃ m, w.cell? ⟨4, 0, none⟩ = some (.int .i64 m)) ∧ (4 : Nat) < NG
theorem GP.keeps {NG B : Nat} {w w' : World} (hB : NG ≤ B) (hb : Below B w w') (h : GP NG w) : GP NG w' := by
 obtain ⟨h1, ⟨m, h2⟩, h3⟩ := h; exact ⟨h1.keeps hB hb, ⟨m, by rw [hb.cell (show (4 : Nat) < B by omega)]; exact h2⟩, h3⟩
def FE (w : World) (v : Value) (p : Nat) (er : Int) : Prop := ∃ f ty, v = .pointer (some ⟨f, 0, none⟩) ∧ w.heap[f]? = some (.cells #[.int .i64 (p : Int), .int .i64 er] ty (0, 0))
theorem FE.below {w w' : World} {v : Value} {p : Nat} {er : Int} (h : FE w v p er) (hb : Below w.heap.size w w') : FE w' v p er := by
 obtain ⟨f, ty, h1, h2⟩ := h; exact ⟨f, ty, h1, block_below h2 hb⟩
def ParsePost (w : World) (res : Except Er (List Nd)) (e : Ending) (w' : World) : Prop :=
 match res with
 | .ok nds => (∃ out ls A B, e = .returned (.tuple #[out, .nilIface]) ∧ ND (fun _ => True) A B w' out ls ∧ ls.map NV.nd = nds ∧ w.heap.size ≤ A ∧ A ≤ B) ∧ Below w.heap.size w w'
 | .error (p, er) => (∃ v, e = .returned (.tuple #[.slice none 0 0, .iface 47 v]) ∧ FE w' v p er) ∧ Below w.heap.size w w'
end Go.Proofs.YtkoghgnjjfnamaaGreatDoor
