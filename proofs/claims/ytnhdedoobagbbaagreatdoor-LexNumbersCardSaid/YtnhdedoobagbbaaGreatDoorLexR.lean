/- The lexer as a relation: what it goes over, and what it takes. -/
import Derived.Test.YtnhdedoobagbbaaGreatDoorLocal
namespace Go.Proofs.YtnhdedoobagbbaaGreatDoor
open Go.RowKit

/-- The token that begins at a place. -/
def tokP (pf : ByteArray → Nat) (s : ByteArray) (p : Nat) : Except (Nat × Int) (Tok × Nat) :=
  match bt s p with
  | none => .error (p, 0)
  | some c =>
    if blankB c then .error (p, 0)
    else if c == 35 then .error (p, 0)
    else if letterB c then (if 1024 < runTo moreB s p - p then .error (p, 5) else .ok (⟨1, s.extract p (runTo moreB s p), 0, 0, p⟩, runTo moreB s p))
    else if digitB c then numP pf s p else if c == 34 then textP s p else signP s p
/-- What is gone over between tokens. -/
inductive Sk (s : ByteArray) : Nat → Nat → Prop
  | here (p : Nat) : Sk s p p
  | blank {p q : Nat} {c : UInt8} : bt s p = some c → blankB c = true → Sk s (p + 1) q → Sk s p q
  | hash {p q : Nat} : bt s p = some 35 → Sk s (runTo notNl s p) q → Sk s p q
inductive Lx (pf : ByteArray → Nat) (s : ByteArray) : Nat → List Tok → Prop
  | fin {p : Nat} : Sk s p s.size → Lx pf s p [⟨0, ⟨#[]⟩, 0, 0, s.size⟩]
  | tok {p q j : Nat} {t : Tok} {ts : List Tok} : Sk s p q → tokP pf s q = .ok (t, j) → Lx pf s j ts → Lx pf s p (t :: ts)
theorem Lx.blank {pf : ByteArray → Nat} {s : ByteArray} {p : Nat} {c : UInt8} {ts : List Tok} (h1 : bt s p = some c) (h2 : blankB c = true) (h : Lx pf s (p + 1) ts) : Lx pf s p ts := by
  cases h with
  | fin h => exact .fin (.blank h1 h2 h)
  | tok h a b => exact .tok (.blank h1 h2 h) a b
theorem Lx.hash {pf : ByteArray → Nat} {s : ByteArray} {p : Nat} {ts : List Tok} (h1 : bt s p = some 35) (h : Lx pf s (runTo notNl s p) ts) : Lx pf s p ts := by
  cases h with
  | fin h => exact .fin (.hash h1 h)
  | tok h a b => exact .tok (.hash h1 h) a b
theorem notNl_gt {s : ByteArray} {p : Nat} (h : bt s p = some 35) : p < runTo notNl s p := runTo_gt h rfl
theorem tokP_at {pf : ByteArray → Nat} {s : ByteArray} {p : Nat} {x : Tok × Nat} (h : tokP pf s p = .ok x) : ∃ c, bt s p = some c ∧ blankB c = false ∧ (c == 35) = false := by
  unfold tokP at h
  cases hb : bt s p with
  | none => rw [hb] at h; cases h
  | some c =>
    rw [hb] at h
    simp only at h
    split at h
    · cases h
    · rename_i h1
      split at h
      · cases h
      · rename_i h2
        exact ⟨c, rfl, by simpa using h1, by simpa using h2⟩
theorem tokP_le {pf : ByteArray → Nat} {s : ByteArray} {p j : Nat} {t : Tok} (h : tokP pf s p = .ok (t, j)) : p < j ∧ j ≤ s.size ∧ t.place = p := by
  obtain ⟨c, hb, h1, h2⟩ := tokP_at h
  have hp := bt_lt hb
  unfold tokP at h
  rw [hb] at h
  simp only [h1, h2, Bool.false_eq_true, if_false] at h
  split at h
  · rename_i hl
    split at h
    · cases h
    · cases h
      exact ⟨runTo_gt hb (by unfold moreB; simp [hl]), runTo_le moreB s (Nat.le_of_lt hp), rfl⟩
  · split at h
    · rename_i hd
      exact numP_le hb hd h
    · split at h
      · exact textP_le hp h
      · exact signP_le hp h
theorem lexFrom_tok {pf : ByteArray → Nat} {s : ByteArray} {f p : Nat} {acc : List Tok} {c : UInt8} (h : bt s p = some c) (h1 : blankB c = false) (h2 : (c == 35) = false) : lexFrom pf s (f + 1) p acc = lexTok pf s f acc (tokP pf s p) := by
  rw [lexFrom, h]
  unfold tokP
  rw [h]
  simp only [h1, h2]
  by_cases hl : letterB c = true
  · simp only [hl]
    by_cases h10 : 1024 < runTo moreB s p - p
    · simp [h10, lexTok]
    · simp [h10, lexTok]
  · simp only [hl]
    simp only [Bool.false_eq_true, if_false]
    cases (if digitB c = true then numP pf s p else if (c == 34) = true then textP s p else signP s p) <;> rfl
theorem lx_of_lexFrom {pf : ByteArray → Nat} {s : ByteArray} : ∀ (f p : Nat) (acc r : List Tok), s.size < p + f → p ≤ s.size → lexFrom pf s f p acc = .ok r → ∃ ts, Lx pf s p ts ∧ r = acc ++ ts
  | 0, p, acc, r, h1, h2, _ => by omega
  | f + 1, p, acc, r, h1, h2, h => by
    rcases Nat.lt_or_ge p s.size with hlt | hge
    · have hb := bt_some hlt
      generalize s[p] = c at hb
      cases hbl : blankB c with
      | true =>
        rw [lexFrom_blank hb hbl] at h
        obtain ⟨ts, ht, rfl⟩ := lx_of_lexFrom f (p + 1) acc r (by omega) (by omega) h
        exact ⟨ts, ht.blank hb hbl, rfl⟩
      | false =>
        by_cases h35 : c = 35
        · subst h35
          rw [lexFrom_hash hb] at h
          have hg := notNl_gt hb
          obtain ⟨ts, ht, rfl⟩ := lx_of_lexFrom f _ acc r (by omega) (runTo_le notNl s (by omega)) h
          exact ⟨ts, ht.hash hb, rfl⟩
        · have e35 : (c == 35) = false := by simpa using h35
          rw [lexFrom_tok hb hbl e35] at h
          cases ht : tokP pf s p with
          | error x => rw [ht] at h; cases h
          | ok x =>
            obtain ⟨t, j⟩ := x
            rw [ht] at h
            have hle := tokP_le ht
            obtain ⟨ts, h3, rfl⟩ := lx_of_lexFrom f j (acc ++ [t]) r (by omega) (by omega) h
            exact ⟨t :: ts, .tok (.here p) ht h3, by simp⟩
    · obtain rfl : p = s.size := by omega
      rw [lexFrom_end (Nat.le_refl _)] at h
      cases h
      exact ⟨_, .fin (.here _), rfl⟩
theorem lexFrom_skip {pf : ByteArray → Nat} {s : ByteArray} {p q : Nat} (h : Sk s p q) : p ≤ s.size → ∀ (f : Nat) (acc : List Tok), s.size < p + f → p ≤ q ∧ q ≤ s.size ∧ ∃ f', s.size < q + f' ∧ lexFrom pf s f p acc = lexFrom pf s f' q acc := by
  induction h with
  | here p => exact fun hp f acc hf => ⟨Nat.le_refl _, hp, f, hf, rfl⟩
  | blank h1 h2 _ ih =>
    intro hp f acc hf
    have := bt_lt h1
    obtain ⟨f, rfl⟩ : ∃ f', f = f' + 1 := ⟨f - 1, by omega⟩
    obtain ⟨h3, h4, f', h5, h6⟩ := ih (by omega) f acc (by omega)
    exact ⟨by omega, h4, f', h5, by rw [lexFrom_blank h1 h2, h6]⟩
  | hash h1 _ ih =>
    intro hp f acc hf
    have := bt_lt h1
    have hg := notNl_gt h1
    obtain ⟨f, rfl⟩ : ∃ f', f = f' + 1 := ⟨f - 1, by omega⟩
    obtain ⟨h3, h4, f', h5, h6⟩ := ih (runTo_le notNl s hp) f acc (by omega)
    exact ⟨by omega, h4, f', h5, by rw [lexFrom_hash h1, h6]⟩
theorem Sk.le {s : ByteArray} {p q : Nat} (h : Sk s p q) (hp : p ≤ s.size) : p ≤ q ∧ q ≤ s.size := by
  obtain ⟨h1, h2, _⟩ := lexFrom_skip (pf := fun _ => 0) h hp (s.size + 1) [] (by omega)
  exact ⟨h1, h2⟩
theorem lexFrom_of_lx {pf : ByteArray → Nat} {s : ByteArray} {p : Nat} {ts : List Tok} (h : Lx pf s p ts) : p ≤ s.size → ∀ (f : Nat) (acc : List Tok), s.size < p + f → lexFrom pf s f p acc = .ok (acc ++ ts) := by
  induction h with
  | fin h =>
    intro hp f acc hf
    obtain ⟨_, _, f', h5, h6⟩ := lexFrom_skip (pf := pf) h hp f acc hf
    obtain ⟨f', rfl⟩ : ∃ g, f' = g + 1 := ⟨f' - 1, by omega⟩
    rw [h6, lexFrom_end (Nat.le_refl _)]
  | tok h1 h2 h3 ih =>
    intro hp f acc hf
    obtain ⟨_, _, f', h5, h6⟩ := lexFrom_skip (pf := pf) h1 hp f acc hf
    obtain ⟨c, hb, hc1, hc2⟩ := tokP_at h2
    have := bt_lt hb
    have hle := tokP_le h2
    obtain ⟨f', rfl⟩ : ∃ g, f' = g + 1 := ⟨f' - 1, by omega⟩
    rw [h6, lexFrom_tok hb hc1 hc2, h2]
    show lexFrom pf s f' _ _ = _
    rw [ih hle.2.1 f' _ (by omega)]
    simp
theorem lexP_iff {pf : ByteArray → Nat} {s : ByteArray} {ts : List Tok} : lexP pf s = .ok ts ↔ s.size ≤ 4096 ∧ Lx pf s 0 ts := by
  unfold lexP
  constructor
  · intro h
    split at h
    · cases h
    · obtain ⟨ts', h1, rfl⟩ := lx_of_lexFrom _ _ _ _ (by omega) (by omega) h
      exact ⟨by omega, by simpa using h1⟩
  · rintro ⟨h1, h2⟩
    rw [if_neg (by omega), lexFrom_of_lx h2 (by omega) _ _ (by omega)]
    simp
theorem tok_local {pf : ByteArray → Nat} {s s' : ByteArray} {p p' m j : Nat} {t : Tok} (h : tokP pf s p = .ok (t, j)) (hm : j - p ≤ m) (ha : Agree s s' p p' m) (hst : StopAt s' (p' + m)) : tokP pf s' p' = .ok (t.at p', p' + (j - p)) := by
  have hle := tokP_le h
  obtain ⟨c, hb, h1, h2⟩ := tokP_at h
  have hp := bt_lt hb
  have hb' : bt s' p' = some c := by
    have := ha 0 (by omega)
    rw [Nat.add_zero, Nat.add_zero, hb] at this
    exact this
  unfold tokP at h ⊢
  rw [hb] at h
  rw [hb']
  simp only [h1, h2, Bool.false_eq_true, if_false] at h ⊢
  by_cases hl : letterB c = true
  · rw [if_pos hl] at h ⊢
    obtain ⟨k, hk⟩ : ∃ k, runTo moreB s p = p + k := ⟨_, rfl⟩
    have hks := runTo_le moreB s (Nat.le_of_lt hp)
    rw [hk] at h hks
    by_cases h10 : 1024 < p + k - p
    · rw [if_pos h10] at h; cases h
    · rw [if_neg h10] at h
      cases h
      have r1 : runTo moreB s' p' = p' + k := run_local hk (by omega) ha (agree_size ha (by omega) (by omega) hks) hst (fun c hc => stop_more hc)
      rw [r1, if_neg (by omega), extract_local (agree_less ha (k := k) (by omega))]
      simp only [Tok.at]
      rw [show p' + (p + k - p) = p' + k by omega]
  · rw [if_neg hl] at h ⊢
    by_cases hd : digitB c = true
    · simp only [hd, if_true] at h ⊢
      exact num_local hb hd h hm ha hst
    · simp only [hd, if_false, Bool.false_eq_true] at h ⊢
      by_cases h34 : (c == 34) = true
      · simp only [h34, if_true] at h ⊢
        exact text_local hp h (agree_less ha hm)
      · simp only [h34, if_false, Bool.false_eq_true] at h ⊢
        exact sign_tok_local hp h hm ha hst
/-- Nothing but a newline ends a remark. -/
theorem note_end {s : ByteArray} {p : Nat} (hlt : runTo notNl s p < s.size) : bt s (runTo notNl s p) = some 10 := by
  have h := run_stop (bt_some hlt)
  rw [bt_some hlt]
  generalize s[runTo notNl s p] = c at *
  unfold notNl at h
  have : c = 10 := by simpa using h
  rw [this]
/-- What is gone over, elsewhere, up to where a byte stands that is no newline. -/
theorem sk_local {s s' : ByteArray} {p q : Nat} (h : Sk s p q) : ∀ p', p ≤ s.size → p' + (q - p) ≤ s'.size → Agree s s' p p' (q - p) → (q < s.size → bt s q ≠ some 10) → (q = s.size → s'.size = p' + (q - p)) → Sk s' p' (p' + (q - p)) := by
  induction h with
  | here p => intro p' _ _ _ _ _; rw [Nat.sub_self]; exact .here _
  | @blank p q c h1 h2 h3 ih =>
    intro p' hp hs ha hq hq2
    have hlt := bt_lt h1
    have hle := h3.le (by omega)
    have b0 := ha 0 (by omega)
    rw [Nat.add_zero, Nat.add_zero, h1] at b0
    have := ih (p' + 1) (by omega) (by omega) (fun i hi => by
      have := ha (1 + i) (by omega)
      rw [show p' + (1 + i) = p' + 1 + i by omega, show p + (1 + i) = p + 1 + i by omega] at this
      exact this) hq (fun e => by have := hq2 e; omega)
    rw [show p' + 1 + (q - (p + 1)) = p' + (q - p) by omega] at this
    exact .blank b0 h2 this
  | @hash p q h1 h3 ih =>
    intro p' hp hs ha hq hq2
    have hlt := bt_lt h1
    have hg := notNl_gt h1
    have hrs := runTo_le notNl s hp
    have hle := h3.le hrs
    obtain ⟨k, hk⟩ : ∃ k, runTo notNl s p = p + k := ⟨_, rfl⟩
    have hne : ∀ hlt2 : runTo notNl s p < s.size, runTo notNl s p < q := by
      intro hlt2
      rcases Nat.lt_or_ge (runTo notNl s p) q with h | h
      · exact h
      · exfalso
        have e : q = runTo notNl s p := by omega
        exact hq (by omega) (by rw [e]; exact note_end hlt2)
    rw [hk] at hrs hg hle hne
    have b0 := ha 0 (by omega)
    rw [Nat.add_zero, Nat.add_zero, h1] at b0
    have r : runTo notNl s' p' = p' + k := by
      refine run_is (by omega) (fun i hi => ?_) fun c hc => ?_
      · rw [ha i (by omega)]; exact run_mem (p := p) (by omega) (by omega)
      · rcases Nat.lt_or_ge (p + k) s.size with h | h
        · have := hne h
          rw [ha k (by omega), ← hk] at hc
          exact run_stop hc
        · have := bt_lt hc
          have := hq2 (by omega)
          omega
    rw [hk] at ih
    have := ih (p' + k) (by omega) (by omega) (fun i hi => by
      have := ha (k + i) (by omega)
      rw [show p' + (k + i) = p' + k + i by omega, show p + (k + i) = p + k + i by omega] at this
      exact this) hq (fun e => by have := hq2 e; omega)
    rw [show p' + k + (q - (p + k)) = p' + (q - p) by omega] at this
    exact .hash b0 (by rw [r]; exact this)
/-- LexFront: cut where a token begins. -/
theorem front_lx {pf : ByteArray → Nat} {s : ByteArray} {p : Nat} {ts : List Tok} (h : Lx pf s p ts) : p ≤ s.size → ∀ (k : Nat) (t : Tok), ts[k]? = some t → p ≤ t.place ∧ t.place ≤ s.size ∧ Lx pf (s.extract 0 t.place) p (ts.take k ++ [⟨0, ⟨#[]⟩, 0, 0, t.place⟩]) := by
  have hcut : ∀ (T : Nat), T ≤ s.size → (s.extract 0 T).size = T ∧ (∀ i, i < T → bt (s.extract 0 T) i = bt s i) := by
    intro T hT
    refine ⟨by simp; omega, fun i hi => ?_⟩
    unfold bt
    rw [Lib.extract_data, List.getElem?_take, if_pos (by omega), List.drop_zero]
  induction h with
  | @fin p h =>
    intro hp k t hk
    cases k with
    | succ k => simp at hk
    | zero =>
      simp at hk
      subst hk
      have hle := h.le hp
      refine ⟨hle.1, Nat.le_refl _, ?_⟩
      have e : s.extract 0 s.size = s := by apply ByteArray.ext; simp
      simp only [e]
      exact .fin h
  | @tok p q j t ts h1 h2 h3 ih =>
    intro hp k u hk
    have hle := h1.le hp
    have htl := tokP_le h2
    obtain ⟨c, hc, hc1, hc2⟩ := tokP_at h2
    have hn10 : bt s q ≠ some 10 := by
      rw [hc]
      intro e
      cases e
      cases hc1
    cases k with
    | zero =>
      simp at hk
      subst hk
      rw [htl.2.2]
      obtain ⟨z1, z2⟩ := hcut q hle.2
      refine ⟨hle.1, hle.2, ?_⟩
      have hs := sk_local (s' := s.extract 0 q) h1 p hp (by omega) (fun i hi => z2 _ (by omega)) (fun _ => hn10) (fun _ => by omega)
      rw [show p + (q - p) = q by omega] at hs
      have hs2 : Sk (s.extract 0 q) p (s.extract 0 q).size := by rw [z1]; exact hs
      have := Lx.fin (pf := pf) hs2
      rw [z1] at this
      exact this
    | succ k =>
      have hk' : ts[k]? = some u := by simpa using hk
      obtain ⟨i1, i2, i3⟩ := ih htl.2.1 k u hk'
      obtain ⟨z1, z2⟩ := hcut u.place i2
      refine ⟨by omega, i2, ?_⟩
      have hs := sk_local (s' := s.extract 0 u.place) h1 p hp (by omega) (fun i hi => z2 _ (by omega)) (fun _ => hn10) (fun e => by omega)
      rw [show p + (q - p) = q by omega] at hs
      have ht := tok_local (s' := s.extract 0 u.place) (p' := q) (m := u.place - q) h2 (by omega) (fun i hi => z2 _ (by omega)) (fun c hc => by have := bt_lt hc; omega)
      have e : t.at q = t := by
        unfold Tok.at
        rw [← htl.2.2]
      rw [e, show q + (j - q) = j by omega] at ht
      exact .tok hs ht i3
end Go.Proofs.YtnhdedoobagbbaaGreatDoor
