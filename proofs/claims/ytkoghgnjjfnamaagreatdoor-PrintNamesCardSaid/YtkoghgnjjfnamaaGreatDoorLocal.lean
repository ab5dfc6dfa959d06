/- Local: what is used of them. -/
import Derived.Test.YtkoghgnjjfnamaaGreatDoorAll
namespace Go.Proofs.YtkoghgnjjfnamaaGreatDoor
open Go.RowKit
def Agree (s s' : ByteArray) (p p' m : Nat) : Prop := ∀ i, i < m → bt s' (p' + i) = bt s (p + i)
def stopB (c : UInt8) : Bool := !(moreB c) && c != 46 && c != 43 && c != 47 && c != 61 && c != 38 && c != 124
def StopAt (s : ByteArray) (j : Nat) : Prop := ∀ c, bt s j = some c → stopB c = true
theorem stop_more {c : UInt8} (h : stopB c = true) : moreB c = false := by
 unfold stopB at h; simp only [Bool.and_eq_true, Bool.not_eq_true'] at h; exact h.1.1.1.1.1.1
theorem stop_ne {c : UInt8} (h : stopB c = true) : c ≠ 46 ∧ c ≠ 43 ∧ c ≠ 47 ∧ c ≠ 61 ∧ c ≠ 38 ∧ c ≠ 124 := by
 refine ⟨?_, ?_, ?_, ?_, ?_, ?_⟩ <;> (rintro rfl; cases h)
theorem stop_digit {c : UInt8} (h : stopB c = true) : digitB c = false := by
 have := stop_more h; unfold moreB at this; simp only [Bool.or_eq_false_iff] at this; exact this.1.1.2
theorem stop_E {c : UInt8} (h : stopB c = true) : isE c = false := by
 have := all256 (p := fun c => !(stopB c) || !(isE c)) (by decide +kernel) c; rw [h] at this; simpa using this
theorem stop_sgn {c : UInt8} (h : stopB c = true) : (c == 43 || c == 45) = false := by
 have := all256 (p := fun c => !(stopB c) || !(c == 43 || c == 45)) (by decide +kernel) c; rw [h] at this; simpa using this
theorem bt_lt {s : ByteArray} {i : Nat} {c : UInt8} (h : bt s i = some c) : i < s.size := by
 rcases Nat.lt_or_ge i s.size with h' | h'
 · exact h'
 · rw [bt_none h'] at h; cases h
theorem takeWhile_get {α : Type} {p : α → Bool} : ∀ (l : List α) (i : Nat), i < (l.takeWhile p).length → ∃ x, l[i]? = some x ∧ p x = true
 | [], i, h => by simp at h
 | x :: r, i, h => by
   rw [List.takeWhile_cons] at h; split at h
   · rename_i hx
     cases i with
     | zero => exact ⟨x, rfl, hx⟩
     | succ i =>
       obtain ⟨y, h1, h2⟩ := takeWhile_get r i (by simpa using h); exact ⟨y, by simpa using h1, h2⟩
   · simp at h
theorem takeWhile_stop {α : Type} {p : α → Bool} : ∀ (l : List α) (x : α), l[(l.takeWhile p).length]? = some x → p x = false
 | [], x, h => by simp at h
 | y :: r, x, h => by
   rw [List.takeWhile_cons] at h; split at h
   · rename_i hx
     exact takeWhile_stop r x (by simpa using h)
   · rename_i hx
     simp at h; subst h; simpa using hx
theorem run_mem {pr : UInt8 → Bool} {s : ByteArray} {p i : Nat} (h1 : p ≤ i) (h2 : i < runTo pr s p) : ∃ c, bt s i = some c ∧ pr c = true := by
 unfold runTo at h2; obtain ⟨c, hc, hp⟩ := takeWhile_get (p := pr) (s.data.toList.drop p) (i - p) (by omega); refine ⟨c, ?_, hp⟩; unfold bt; rw [List.getElem?_drop] at hc; rw [← hc]; congr 1
 omega
theorem run_stop {pr : UInt8 → Bool} {s : ByteArray} {p : Nat} {c : UInt8} (h : bt s (runTo pr s p) = some c) : pr c = false := by
 refine takeWhile_stop (p := pr) (s.data.toList.drop p) c ?_; rw [List.getElem?_drop]; exact h
theorem run_is {pr : UInt8 → Bool} {s : ByteArray} {p k : Nat} (hp : p + k ≤ s.size) (h : ∀ i, i < k → ∃ c, bt s (p + i) = some c ∧ pr c = true) (he : ∀ c, bt s (p + k) = some c → pr c = false) : runTo pr s p = p + k := by
 refine runTo_eq (by omega) hp ?_ ?_
 · intro j c h1 h2 hc
   obtain ⟨d, hd, hp⟩ := h (j - p) (by omega); rw [show p + (j - p) = j by omega] at hd; have : bt s j = some c := hc; rw [hd] at this; cases this; exact hp
 · rcases Nat.lt_or_ge (p + k) s.size with h1 | h1
   · exact Or.inr ⟨_, bt_some h1, he _ (bt_some h1)⟩
   · exact Or.inl (by omega)
theorem run_local {pr : UInt8 → Bool} {s s' : ByteArray} {p p' m k : Nat} (hk : runTo pr s p = p + k) (hm : k ≤ m) (ha : Agree s s' p p' m) (hp' : p' + k ≤ s'.size) (hst : StopAt s' (p' + m)) (hpr : ∀ c, stopB c = true → pr c = false) :
 runTo pr s' p' = p' + k := by
 refine run_is hp' (fun i hi => ?_) fun c hc => ?_
 · rw [ha i (by omega)]
   exact run_mem (p := p) (by omega) (by omega)
 · rcases Nat.lt_or_ge k m with h | h
   · rw [ha k h, ← hk] at hc
     exact run_stop hc
   · obtain rfl : k = m := by omega
     exact hpr c (hst c hc)
theorem agree_size {s s' : ByteArray} {p p' m k : Nat} (ha : Agree s s' p p' m) (h0 : 0 < k) (hk : k ≤ m) (hs : p + k ≤ s.size) : p' + k ≤ s'.size := by
 have h := ha (k - 1) (by omega); rw [bt_some (show p + (k - 1) < s.size by omega)] at h
 have := bt_lt h; omega
theorem agree_more {s s' : ByteArray} {p p' m : Nat} (ha : Agree s s' p p' m) (k : Nat) : Agree s s' (p + k) (p' + k) (m - k) := by
 intro i hi; rw [Nat.add_assoc, Nat.add_assoc]; exact ha (k + i) (by omega)
theorem agree_less {s s' : ByteArray} {p p' m k : Nat} (ha : Agree s s' p p' m) (h : k ≤ m) : Agree s s' p p' k := fun i hi => ha i (by omega)
theorem extract_local {s s' : ByteArray} {p p' k : Nat} (ha : Agree s s' p p' k) : s'.extract p' (p' + k) = s.extract p (p + k) := by
 apply ba_ext
 rw [Lib.extract_data, Lib.extract_data]; apply List.ext_getElem?
 intro i; rw [List.getElem?_take, List.getElem?_take, List.getElem?_drop, List.getElem?_drop]; rw [show p' + k - p' = k by omega, show p + k - p = k by omega]; split
 · rename_i hi
   exact ha i hi
 · rfl
theorem sign_local {s s' : ByteArray} {p p' m : Nat} (h1 : 1 ≤ m) (ha : Agree s s' p p' m) : signEnd s' p' - p' = signEnd s p - p := by
 have := ha 0 (by omega); rw [Nat.add_zero, Nat.add_zero] at this; unfold signEnd; rw [this]; cases bt s p with
 | none => simp
 | some c => simp only; split <;> omega
theorem signEnd_stop {s : ByteArray} {p : Nat} (h : StopAt s p) : signEnd s p = p := by
 unfold signEnd; cases hb : bt s p with
 | none => rfl
 | some c =>
   simp only
   rw [if_neg (by rw [stop_sgn (h c hb)]; simp)]
theorem run_digit_stop {s : ByteArray} {p : Nat} (hp : p ≤ s.size) (h : StopAt s p) : runTo digitB s p = p := by
 have := run_is (pr := digitB) (s := s) (p := p) (k := 0) (by omega) (fun i hi => by omega) (fun c hc => stop_digit (h c hc)); simpa using this
theorem exp_stop {s : ByteArray} {p : Nat} (h : StopAt s p) : expEnd s p = p := by
 refine expEnd_no ?_; unfold expB; cases hb : bt s p with
 | none => rfl
 | some c => exact stop_E (h c hb)
theorem exp_local {s s' : ByteArray} {p p' m k : Nat} (hk : expEnd s p = p + k) (hm : k ≤ m) (ha : Agree s s' p p' m) (hst : StopAt s' (p' + m)) : expEnd s' p' = p' + k := by
 rcases Nat.eq_zero_or_pos m with h0 | h0
 · subst h0
   obtain rfl : k = 0 := by omega
   exact exp_stop hst
 · have b0 := ha 0 h0
   rw [Nat.add_zero, Nat.add_zero] at b0; by_cases hE : expB s p = true
   · have hE' : expB s' p' = true := by
      unfold expB at hE ⊢; rw [b0]; exact hE
     have hlt := expB_lt hE; have hlt' := expB_lt hE'; rw [expEnd_yes hE] at hk; rw [expEnd_yes hE']; obtain ⟨z, hz⟩ : ∃ z, signEnd s (p + 1) = p + 1 + z := ⟨signEnd s (p + 1) - (p + 1), by have := (signEnd_le (s := s) (i := p + 1) hlt).1; omega⟩; have hz1 : z ≤ 1 := by rcases signEnd_two s (p + 1) with h | h <;> omega
     by_cases h1 : m = 1
     · subst h1
       rw [signEnd_stop hst, run_digit_stop hlt' hst, if_neg (by omega)]; have hz2 := runTo_ge digitB s (signEnd s (p + 1)); split at hk
       · omega
       · omega
     · have hsg := sign_local (by omega) (agree_more ha 1)
       have hs1 := (signEnd_le (s := s') (i := p' + 1) hlt').1; have hs2 := (signEnd_le (s := s') (i := p' + 1) hlt').2; have hs3 := (signEnd_le (s := s) (i := p + 1) hlt).2; have hsz' : signEnd s' (p' + 1) = p' + 1 + z := by omega
       rw [hsz'] at hs2; rw [hz] at hs3 hk; rw [hsz']; have hrl := runTo_le digitB s hs3; obtain ⟨y, hy⟩ : ∃ y, runTo digitB s (p + 1 + z) = p + 1 + z + y := ⟨runTo digitB s (p + 1 + z) - (p + 1 + z), by have := runTo_ge digitB s (p + 1 + z); omega⟩; by_cases hzm : 1 + z ≤ m
       · rw [hy] at hk hrl
         have ha2 : Agree s s' (p + 1 + z) (p' + 1 + z) (m - (1 + z)) := by
          have := agree_more ha (1 + z); rw [show p + (1 + z) = p + 1 + z by omega, show p' + (1 + z) = p' + 1 + z by omega] at this; exact this
         have hst2 : StopAt s' (p' + 1 + z + (m - (1 + z))) := by rw [show p' + 1 + z + (m - (1 + z)) = p' + m by omega]; exact hst
         have hyn : y = 0 ∨ 0 < y := Nat.eq_zero_or_pos y; rcases hyn with hy0 | hy0
         · subst hy0
           rw [if_neg (by omega)] at hk
           have := run_local hy (by omega) ha2 (by omega) hst2 (fun c hc => stop_digit hc); rw [this, if_neg (by omega)]; omega
         · rw [if_pos (by omega)] at hk
           have := run_local hy (by omega) ha2 (agree_size ha2 hy0 (by omega) hrl) hst2 (fun c hc => stop_digit hc); rw [this, if_pos (by omega)]; omega
       · omega
   · have hE0 : expB s p = false := by simpa using hE
     have hE' : expB s' p' = false := by
      unfold expB at hE0 ⊢; rw [b0]; exact hE0
     rw [expEnd_no hE0] at hk; rw [expEnd_no hE']; omega
theorem dot_local {s s' : ByteArray} {p p' m : Nat} (ha : Agree s s' p p' m) (hst : StopAt s' (p' + m)) (h : dotB s p = false) : dotB s' p' = false := by
 unfold dotB at h ⊢; rcases Nat.eq_zero_or_pos m with h0 | h0
 · subst h0
   cases hb : bt s' p' with
   | none => rfl
   | some c =>
     cases bt s' (p' + 1) with
     | none => rfl
     | some d =>
       have := (stop_ne (hst c hb)).1; simp [this]
 · have b0 := ha 0 h0
   rw [Nat.add_zero, Nat.add_zero] at b0; by_cases h1 : m = 1
   · subst h1
     cases hb : bt s' p' with
     | none => rfl
     | some c =>
       cases hb1 : bt s' (p' + 1) with
       | none => rfl
       | some d =>
         have := stop_digit (hst d hb1); simp [this]
   · rw [b0, ha 1 (by omega)]
     exact h
def Tok.at (t : Tok) (p : Nat) : Tok := { t with place := p }
theorem num_local {pf : ByteArray → Nat} {s s' : ByteArray} {p p' m j : Nat} {t : Tok} {c : UInt8} (hb : bt s p = some c) (hd : digitB c = true) (h : numP pf s p = .ok (t, j)) (hm : j - p ≤ m) (ha : Agree s s' p p' m) (hst : StopAt s' (p' + m)) :
 numP pf s' p' = .ok (t.at p', p' + (j - p)) := by
 have hle := numP_le hb hd h; have hps := bt_lt hb; obtain ⟨k, hk⟩ : ∃ k, runTo digitB s p = p + k := ⟨_, rfl⟩; have hk0 := runTo_gt hb hd; have hks := runTo_le digitB s (Nat.le_of_lt hps); have b0 : bt s' p' = bt s p := by
  have := ha 0 (by omega); simpa using this
 unfold numP at h ⊢; rw [hk] at h hks hk0; by_cases hz : (decide (1 < p + k - p) && (bt s p == some 48)) = true
 · rw [if_pos hz] at h; cases h
 · rw [if_neg hz] at h
   by_cases hdot : dotB s (p + k) = true
   · rw [if_pos hdot] at h
     have hdl := dotB_lt hdot; obtain ⟨k2, hk2⟩ : ∃ k2, runTo digitB s (p + k + 1) = p + k + 1 + k2 := ⟨_, rfl⟩; have hk2s := runTo_le digitB s (n := p + k + 1) (by omega); rw [hk2] at h hk2s; obtain ⟨k3, hk3⟩ : ∃ k3, expEnd s (p + k + 1 + k2) = p + k + 1 + k2 + k3 := ⟨expEnd s (p + k + 1 + k2) - (p + k + 1 + k2), by have := (expEnd_le hk2s).1; omega⟩; rw [hk3] at h; split at h
     · cases h
     · rename_i h8
       split at h
       · cases h
       · rename_i hinf
         cases h; obtain ⟨bd, hbd⟩ : bt s (p + k) = some 46 ∧ ∃ d, bt s (p + k + 1) = some d ∧ digitB d = true := by
          unfold dotB at hdot; split at hdot
          · rename_i c1 d1 e1 e2
            simp only [Bool.and_eq_true, beq_iff_eq] at hdot; exact ⟨by rw [e1, hdot.1], d1, e2, hdot.2⟩
          · cases hdot
         obtain ⟨d, hbd, hdd⟩ := hbd; have hk20 := runTo_gt hbd hdd; rw [hk2] at hk20; have r1 : runTo digitB s' p' = p' + k := by
          refine run_is (agree_size ha (by omega) (by omega) hks) (fun i hi => ?_) fun c hc => ?_
          · rw [ha i (by omega)]; exact run_mem (p := p) (by omega) (by omega)
          · rw [ha k (by omega), bd] at hc; cases hc; rfl
         have hdot' : dotB s' (p' + k) = true := by
          unfold dotB; rw [ha k (by omega), show p' + k + 1 = p' + (k + 1) by omega, ha (k + 1) (by omega), bd, show p + (k + 1) = p + k + 1 by omega, hbd]; simpa using hdd
         have a2 : Agree s s' (p + k + 1) (p' + k + 1) (m - (k + 1)) := agree_more ha (k + 1); have hs2 : p' + k + 1 + k2 ≤ s'.size := by
          have := agree_size ha (k := k + 1 + k2) (by omega) (by omega) (by omega); omega
         have r2 : runTo digitB s' (p' + k + 1) = p' + k + 1 + k2 :=
          run_local hk2 (by omega) a2 hs2 (by rw [show p' + k + 1 + (m - (k + 1)) = p' + m by omega]; exact hst) (fun c hc => stop_digit hc)
         have a3 : Agree s s' (p + k + 1 + k2) (p' + k + 1 + k2) (m - (k + 1) - k2) := agree_more a2 k2; have r3 : expEnd s' (p' + k + 1 + k2) = p' + k + 1 + k2 + k3 :=
          exp_local hk3 (by omega) a3 (by rw [show p' + k + 1 + k2 + (m - (k + 1) - k2) = p' + m by omega]; exact hst)
         have ex : s'.extract p' (p' + k + 1 + k2 + k3) = s.extract p (p + k + 1 + k2 + k3) := by
          have := extract_local (agree_less ha (k := k + 1 + k2 + k3) (by omega)); rw [show p' + (k + 1 + k2 + k3) = p' + k + 1 + k2 + k3 by omega, show p + (k + 1 + k2 + k3) = p + k + 1 + k2 + k3 by omega] at this; exact this
         rw [r1, b0, show p' + k - p' = p + k - p by omega, if_neg hz, if_pos hdot', r2, r3, if_neg (by omega), ex, if_neg hinf]; simp only [Tok.at]; rw [show p' + (p + k + 1 + k2 + k3 - p) = p' + k + 1 + k2 + k3 by omega]
   · rw [if_neg hdot] at h
     have hdot0 : dotB s (p + k) = false := by simpa using hdot
     have hj : j = p + k := by
      split at h
      · cases h; rfl
      · cases h
     subst hj; have hs2 : p' + k ≤ s'.size := agree_size ha (by omega) (by omega) hks; have r1 : runTo digitB s' p' = p' + k := run_local hk (by omega) ha hs2 hst (fun c hc => stop_digit hc); have hdot' : dotB s' (p' + k) = false := dot_local (agree_more ha k) (by rw [show p' + k + (m - k) = p' + m by omega]; exact hst) hdot0; have ex := extract_local (agree_less ha (k := k) (by omega)); rw [r1, b0, show p' + k - p' = p + k - p by omega, if_neg hz, if_neg (by rw [hdot']; simp), ex]; rcases hv : Lib.parseIntB 64 (s.extract p (p + k)).data.toList with v | _ | _
     · rw [hv] at h
       cases h; simp only [Tok.at]; rw [show p' + (p + k - p) = p' + k by omega]
     · rw [hv] at h; cases h
     · rw [hv] at h; cases h
theorem textL_local {a0 a1 : Nat} {y : List UInt8} : ∀ (n : Nat) (rest : List UInt8) (i i' : Nat) (l l' : List UInt8) (j : Nat), rest.length ≤ n → textL a0 rest i l = .ok (l', j) → textL a1 (rest.take (j - i) ++ y) i' l = .ok (l', i' + (j - i)) := by
 intro n; induction n with
 | zero =>
   intro rest i i' l l' j hn h; have : rest = [] := List.eq_nil_of_length_eq_zero (by omega); subst this; cases h
 | succ n ih =>
   intro rest i i' l l' j hn h; have hj := textL_le _ _ _ _ _ _ (Nat.le_refl _) h; match rest with
   | [] => cases h
   | c :: r =>
     obtain ⟨q, hq⟩ : ∃ q, j - i = q + 1 := ⟨j - i - 1, by omega⟩; rw [hq, List.take_succ_cons, List.cons_append]; by_cases h34 : c = 34
     · subst h34
       rw [textL_quote] at h ⊢; cases h; rw [show q = 0 by omega]
     · have e34 : (c == 34) = false := by simpa using h34
       cases hctl : ctlB c with
       | true => rw [textL_ctl e34 hctl] at h; cases h
       | false =>
         by_cases h92 : c = 92
         · subst h92
           match r with
           | [] => cases h
           | d :: r =>
             cases hesc : escB d with
             | none => rw [textL_esc_none hesc] at h; cases h
             | some x =>
               by_cases hl : l.length = 1024
               · rw [textL_esc_full hesc hl] at h; cases h
               · rw [textL_esc hesc hl] at h
                 have hj2 := textL_le _ _ _ _ _ _ (Nat.le_refl _) h
                 have := ih r (i + 2) (i' + 2) _ _ _ (by simp at hn; omega) h; rw [show j - (i + 2) = q - 1 by omega] at this; obtain ⟨q', rfl⟩ : ∃ q', q = q' + 1 := ⟨q - 1, by omega⟩; rw [List.take_succ_cons, List.cons_append, textL_esc hesc hl]; rw [show q' + 1 - 1 = q' by omega] at this; rw [this, show i' + 2 + q' = i' + (q' + 1 + 1) by omega]
         · have e92 : (c == 92) = false := by simpa using h92
           by_cases hl : l.length = 1024
           · rw [textL_full e34 hctl e92 hl] at h; cases h
           · rw [textL_byte e34 hctl e92 hl] at h ⊢
             have hj2 := textL_le _ _ _ _ _ _ (Nat.le_refl _) h
             have := ih r (i + 1) (i' + 1) _ _ _ (by simp at hn; omega) h; rw [show j - (i + 1) = q by omega] at this; rw [this, show i' + 1 + q = i' + (q + 1) by omega]
theorem drop_agree {s s' : ByteArray} {p p' k : Nat} (ha : Agree s s' p p' k) : ∃ y, s'.data.toList.drop p' = (s.data.toList.drop p).take k ++ y := by
 refine ⟨(s'.data.toList.drop p').drop k, ?_⟩; have e : (s'.data.toList.drop p').take k = (s.data.toList.drop p).take k := by
  apply List.ext_getElem?
  intro i; rw [List.getElem?_take, List.getElem?_take, List.getElem?_drop, List.getElem?_drop]; split
  · rename_i hi
    exact ha i hi
  · rfl
 rw [← e, List.take_append_drop]
theorem text_local {s s' : ByteArray} {p p' j : Nat} {t : Tok} (hp : p < s.size) (h : textP s p = .ok (t, j)) (ha : Agree s s' p p' (j - p)) : textP s' p' = .ok (t.at p', p' + (j - p)) := by
 have hle := textP_le hp h; unfold textP at h ⊢; rcases hx : textL p (s.data.toList.drop (p + 1)) (p + 1) [] with x | ⟨l, j'⟩
 · rw [hx] at h; cases h
 · rw [hx] at h
   cases h; have hj := textL_le _ _ _ _ _ _ (Nat.le_refl _) hx; obtain ⟨y, hy⟩ := drop_agree (agree_more ha 1)
   have := textL_local (a1 := p') (y := y) _ _ _ (p' + 1) _ _ _ (Nat.le_refl _) hx; rw [show j - p - 1 = j - (p + 1) by omega] at hy; rw [hy, this]; simp only [Tok.at]; rw [show p' + 1 + (j - (p + 1)) = p' + (j - p) by omega]
theorem isSg_two (l : List UInt8) (k : Nat) : isSg l k = isSg (l.take 2) k := by
 unfold isSg Lib.hasPrefix; have hk : (sg k).data.toList.length = 2 := by
  have : (sg k).data.toList.length = (sg k).size := Array.length_toList; rw [this, sg_size]
 generalize (sg k).data.toList = q at hk; match q, hk with
 | [a, b], _ =>
   match l with
   | [] => rfl
   | [x] => rfl
   | x :: y :: r => simp [List.isPrefixOf]
theorem isSg_stop {c d : UInt8} {r : List UInt8} (h : stopB d = true) (k : Nat) : isSg (c :: d :: r) k = false := by
 have hn := stop_ne h; unfold isSg Lib.hasPrefix sg; split <;> simp [List.isPrefixOf] <;> intro _ e <;> simp_all
theorem isSg_one (c : UInt8) (k : Nat) : isSg [c] k = false := by
 unfold isSg Lib.hasPrefix sg; split <;> simp [List.isPrefixOf]
theorem signL_cases {l : List UInt8} {b : ByteArray} (h : signL l = some b) : (∃ k, (List.range 8).find? (isSg l) = some k ∧ b = sg k) ∨ (∃ c r, l = c :: r ∧ (∀ k, k < 8 → isSg l k = false) ∧ ¬ (Lib.indexByte signs1 c < 0) ∧ b = ⟨#[c]⟩) := by
 unfold signL at h; cases hf : (List.range 8).find? (isSg l) with
 | some k => rw [hf] at h; simp at h; exact Or.inl ⟨k, rfl, h.symm⟩
 | none =>
   rw [hf] at h; simp only at h; cases l with
   | nil => cases h
   | cons c r =>
     simp only at h; split at h
     · cases h
     · rename_i hc
       cases h; refine Or.inr ⟨c, r, rfl, fun k hk => ?_, hc, rfl⟩; rw [List.find?_eq_none] at hf
       have := hf k (by simpa using hk); simpa using this
theorem sign_tok_local {s s' : ByteArray} {p p' m j : Nat} {t : Tok} (hp : p < s.size) (h : signP s p = .ok (t, j)) (hm : j - p ≤ m) (ha : Agree s s' p p' m) (hst : StopAt s' (p' + m)) : signP s' p' = .ok (t.at p', p' + (j - p)) := by
 have hle := signP_le hp h; unfold signP at h ⊢; cases hb : signL (s.data.toList.drop p) with
 | none => rw [hb] at h; cases h
 | some b =>
   rw [hb] at h; cases h; have hbs : b.size = p + b.size - p := by omega
   have key : signL (s'.data.toList.drop p') = some b := by
    have b0 := ha 0 (by omega); rw [Nat.add_zero, Nat.add_zero, bt_some hp] at b0; have hp' := bt_lt b0; have hs0 : s'[p'] = s[p] := by rw [bt_some hp'] at b0; exact Option.some.inj b0
    rcases signL_cases hb with ⟨k, hf, rfl⟩ | ⟨c, r, hc, hno, hix, rfl⟩
    · rw [sg_size] at hm hle
      obtain ⟨y, hy⟩ := drop_agree (agree_less ha (k := 2) (by omega)); have e : isSg (s'.data.toList.drop p') = isSg (s.data.toList.drop p) := by
       funext k
       rw [isSg_two, hy, isSg_two (s.data.toList.drop p), List.take_append_of_le_length (by simp [Array.length_toList]; omega), List.take_take]; simp
      unfold signL; rw [e, hf]
    · have hd := drop_cons hp
      rw [hc] at hd; have hcp : c = s[p] := (List.cons.inj hd).1; have hd' := drop_cons hp'; rw [hs0, ← hcp] at hd'; rw [signL_one hd' (fun k hk => ?_), if_neg hix]; by_cases h2 : 2 ≤ m
      · rw [← hno k hk, isSg_two, isSg_two (s.data.toList.drop p)]
        congr 1
        apply List.ext_getElem?
        intro i; rw [List.getElem?_take, List.getElem?_take, List.getElem?_drop, List.getElem?_drop]; split
        · rename_i hi
          exact ha i (by omega)
        · rfl
      · have hsz : (⟨#[c]⟩ : ByteArray).size = 1 := rfl
        rw [hsz] at hm; obtain rfl : m = 1 := by omega
        rw [hd']; rcases Nat.lt_or_ge (p' + 1) s'.size with h3 | h3
        · rw [drop_cons h3]
          exact isSg_stop (hst _ (bt_some h3)) k
        · rw [drop_end h3]
          exact isSg_one c k
   rw [key]; simp only [Tok.at]; rw [← hbs]
end Go.Proofs.YtkoghgnjjfnamaaGreatDoor
