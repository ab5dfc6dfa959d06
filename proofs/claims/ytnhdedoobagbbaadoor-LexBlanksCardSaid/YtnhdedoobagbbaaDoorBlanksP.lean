/- LexBlanks: anything that is let by between the tokens' bytes. -/
import Derived.Test.YtnhdedoobagbbaaDoorShownA
namespace Go.Proofs.YtnhdedoobagbbaaDoor
open Go.RowKit

/-- What the law puts between tokens. -/
def nzL : Nat → List UInt8
  | 0 => [32] | 1 => [10] | 2 => [9, 13, 10, 32] | _ => [32, 35, 32, 97, 32, 34, 32, 98, 10]
def pieceL (s : ByteArray) (t u : Tok) : List UInt8 :=
  if t.kind = 4 then (s.data.toList.drop t.place).take (u.place - t.place) else ((s.data.toList.drop t.place).take (u.place - t.place)).take t.text.size
/-- What is made of the tokens from the i-th on. -/
def blkL (s : ByteArray) (f : Nat → Nat) : Nat → List Tok → List UInt8
  | i, t :: u :: r => nzL (f i) ++ (pieceL s t u ++ blkL s f (i + 1) (u :: r))
  | _, _ => [32]
theorem drop_bt {s : ByteArray} {p : Nat} {c : UInt8} {r : List UInt8} (h : s.data.toList.drop p = c :: r) : bt s p = some c ∧ s.data.toList.drop (p + 1) = r ∧ p < s.size := by
  have h1 : bt s p = some c := by
    have := congrArg (·[0]?) h
    simp only [List.getElem?_drop] at this
    exact this
  refine ⟨h1, ?_, bt_lt h1⟩
  rw [← List.drop_drop, h]
  rfl
theorem drop_add {s : ByteArray} {p : Nat} {a r : List UInt8} (h : s.data.toList.drop p = a ++ r) : s.data.toList.drop (p + a.length) = r := by
  rw [← List.drop_drop, h, List.drop_left]
theorem drop_len {s : ByteArray} {p : Nat} {r : List UInt8} (hp : p ≤ s.size) (h : s.data.toList.drop p = r) : s.size = p + r.length := by
  have := congrArg List.length h
  rw [List.length_drop] at this
  have hl : s.data.toList.length = s.size := Array.length_toList
  omega
theorem Sk.trans {s : ByteArray} {a b c : Nat} (h : Sk s a b) (k : Sk s b c) : Sk s a c := by
  induction h with
  | here p => exact k
  | blank h1 h2 h3 ih => exact .blank h1 h2 (ih k)
  | hash h1 h3 ih => exact .hash h1 (ih k)
theorem Lx.skip {pf : ByteArray → Nat} {s : ByteArray} {p q : Nat} {ts : List Tok} (h : Sk s p q) (k : Lx pf s q ts) : Lx pf s p ts := by
  cases k with
  | fin h2 => exact .fin (h.trans h2)
  | tok h2 a b => exact .tok (h.trans h2) a b
theorem nz_skip {s : ByteArray} {p n : Nat} {r : List UInt8} (h : s.data.toList.drop p = nzL n ++ r) : Sk s p (p + (nzL n).length) := by
  unfold nzL at h ⊢
  split at h
  · obtain ⟨h1, _, _⟩ := drop_bt h
    exact .blank h1 rfl (.here _)
  · obtain ⟨h1, _, _⟩ := drop_bt h
    exact .blank h1 rfl (.here _)
  · obtain ⟨h1, k1, _⟩ := drop_bt h
    obtain ⟨h2, k2, _⟩ := drop_bt k1
    obtain ⟨h3, k3, _⟩ := drop_bt k2
    obtain ⟨h4, k4, _⟩ := drop_bt k3
    exact .blank h1 rfl (.blank h2 rfl (.blank h3 rfl (.blank h4 rfl (.here _))))
  · obtain ⟨h1, k1, l1⟩ := drop_bt h
    obtain ⟨h2, k2, l2⟩ := drop_bt k1
    obtain ⟨h3, k3, _⟩ := drop_bt k2
    obtain ⟨h4, k4, _⟩ := drop_bt k3
    obtain ⟨h5, k5, _⟩ := drop_bt k4
    obtain ⟨h6, k6, _⟩ := drop_bt k5
    obtain ⟨h7, k7, _⟩ := drop_bt k6
    obtain ⟨h8, k8, _⟩ := drop_bt k7
    obtain ⟨h9, k9, l9⟩ := drop_bt k8
    refine .blank h1 rfl (.hash h2 ?_)
    have hr : runTo notNl s (p + 1) = p + 1 + 7 := by
      refine run_is (by omega) (fun i hi => ?_) fun c hc => ?_
      · rcases (by omega : i = 0 ∨ i = 1 ∨ i = 2 ∨ i = 3 ∨ i = 4 ∨ i = 5 ∨ i = 6) with rfl | rfl | rfl | rfl | rfl | rfl | rfl
        · exact ⟨_, h2, rfl⟩
        · exact ⟨_, h3, rfl⟩
        · exact ⟨_, h4, rfl⟩
        · exact ⟨_, h5, rfl⟩
        · exact ⟨_, h6, rfl⟩
        · exact ⟨_, h7, rfl⟩
        · exact ⟨_, h8, rfl⟩
      · have : bt s (p + 1 + 7) = some 10 := h9
        rw [this] at hc
        cases hc
        rfl
    rw [hr]
    exact .blank h9 rfl (.here _)
theorem nz_stop {s : ByteArray} {p n : Nat} {r : List UInt8} (h : s.data.toList.drop p = nzL n ++ r) : StopAt s p := by
  intro c hc
  unfold nzL at h
  split at h <;>
    (obtain ⟨h1, _, _⟩ := drop_bt h
     rw [h1] at hc
     cases hc
     rfl)
theorem blk_stop {s s' : ByteArray} {f : Nat → Nat} {p i : Nat} {ts : List Tok} (h : s'.data.toList.drop p = blkL s f i ts) : StopAt s' p := by
  match ts with
  | [] | [_] =>
    intro c hc
    obtain ⟨h1, _, _⟩ := drop_bt (show s'.data.toList.drop p = 32 :: [] from h)
    rw [h1] at hc
    cases hc
    rfl
  | t :: u :: r => exact nz_stop (show s'.data.toList.drop p = nzL (f i) ++ _ from h)
theorem lx_head {pf : ByteArray → Nat} {s : ByteArray} {p : Nat} {u : Tok} {r : List Tok} (h : Lx pf s p (u :: r)) (hp : p ≤ s.size) :
    p ≤ u.place ∧ u.place ≤ s.size ∧ Sk s p u.place ∧ (u.place < s.size → bt s u.place ≠ some 10) ∧ (u.place = s.size → r = []) := by
  cases h with
  | fin h => exact ⟨(h.le hp).1, Nat.le_refl _, h, fun h => absurd h (Nat.lt_irrefl _), fun _ => rfl⟩
  | tok h1 h2 h3 =>
    have hle := tokP_le h2
    obtain ⟨c, hc, hc1, _⟩ := tokP_at h2
    have := bt_lt hc
    rw [hle.2.2]
    refine ⟨(h1.le hp).1, by omega, h1, fun _ e => ?_, fun e => by omega⟩
    rw [hc] at e
    cases e
    cases hc1
theorem tok_kind {pf : ByteArray → Nat} {s : ByteArray} {p j : Nat} {t : Tok} (h : tokP pf s p = .ok (t, j)) : (t.kind = 4 ∧ bt s p = some 34 ∧ textP s p = .ok (t, j)) ∨ (t.kind ≠ 4 ∧ t.text = s.extract p j) := by
  obtain ⟨c, hb, h1, h2⟩ := tokP_at h
  have hp := bt_lt hb
  have hle := tokP_le h
  unfold tokP at h
  rw [hb] at h
  simp only [h1, h2, Bool.false_eq_true, if_false] at h
  split at h
  · split at h
    · cases h
    · cases h
      exact Or.inr ⟨by show (1 : Int) ≠ 4; decide, rfl⟩
  · split at h
    · unfold numP at h
      split at h
      · cases h
      · split at h
        · split at h
          · cases h
          · split at h
            · cases h
            · cases h
              exact Or.inr ⟨by show (3 : Int) ≠ 4; decide, rfl⟩
        · split at h
          · cases h
            exact Or.inr ⟨by show (2 : Int) ≠ 4; decide, rfl⟩
          · cases h
    · split at h
      · rename_i h34
        have : c = 34 := by simpa using h34
        subst this
        refine Or.inl ⟨?_, hb, h⟩
        unfold textP at h
        split at h
        · cases h; rfl
        · cases h
      · refine Or.inr ?_
        unfold signP at h
        cases hs : signL (s.data.toList.drop p) with
        | none => rw [hs] at h; cases h
        | some b =>
          rw [hs] at h
          cases h
          refine ⟨by show (5 : Int) ≠ 4; decide, ?_⟩
          have hlen : b.size = b.data.toList.length := (Array.length_toList).symm
          show b = s.extract p (p + b.size)
          apply ba_ext
          rw [Lib.extract_data, show p + b.size - p = b.size by omega]
          rcases signL_cases hs with ⟨k, hf, rfl⟩ | ⟨c, r, hc, _, _, rfl⟩
          · have h1 := List.find?_some hf
            unfold isSg Lib.hasPrefix at h1
            rw [List.isPrefixOf_iff_prefix] at h1
            rw [hlen]
            exact (List.prefix_iff_eq_take.1 h1)
          · rw [hc]
            rfl
theorem sk_tail {s s' : ByteArray} {p q : Nat} (h : Sk s p q) : q = s.size → ∀ p', p ≤ s.size → Agree s s' p p' (s.size - p) → s'.size = p' + (s.size - p) + 1 → bt s' (p' + (s.size - p)) = some 32 → Sk s' p' s'.size := by
  induction h with
  | here p =>
    intro e p' _ _ hs hb
    subst e
    rw [Nat.sub_self] at hb hs
    refine .blank hb rfl ?_
    rw [show p' + 0 + 1 = s'.size by omega]
    exact .here _
  | @blank p q c h1 h2 h3 ih =>
    intro e p' hp ha hs hb
    have hlt := bt_lt h1
    have b0 := ha 0 (by omega)
    rw [Nat.add_zero, Nat.add_zero, h1] at b0
    refine .blank b0 h2 (ih e (p' + 1) (by omega) (fun i hi => ?_) (by omega) (by rw [show p' + 1 + (s.size - (p + 1)) = p' + (s.size - p) by omega]; exact hb))
    have := ha (1 + i) (by omega)
    rw [show p' + (1 + i) = p' + 1 + i by omega, show p + (1 + i) = p + 1 + i by omega] at this
    exact this
  | @hash p q h1 h3 ih =>
    intro e p' hp ha hs hb
    have hlt := bt_lt h1
    have hg := notNl_gt h1
    have hrs := runTo_le notNl s hp
    obtain ⟨k, hk⟩ : ∃ k, runTo notNl s p = p + k := ⟨_, rfl⟩
    rw [hk] at hrs hg ih
    have b0 := ha 0 (by omega)
    rw [Nat.add_zero, Nat.add_zero, h1] at b0
    rcases Nat.lt_or_ge (p + k) s.size with hlt2 | hge
    · have r : runTo notNl s' p' = p' + k := by
        refine run_is (by omega) (fun i hi => ?_) fun c hc => ?_
        · rw [ha i (by omega)]; exact run_mem (p := p) (by omega) (by omega)
        · rw [ha k (by omega), ← hk] at hc
          exact run_stop hc
      refine .hash b0 ?_
      rw [r]
      refine ih e (p' + k) (by omega) (fun i hi => ?_) (by omega) (by rw [show p' + k + (s.size - (p + k)) = p' + (s.size - p) by omega]; exact hb)
      have := ha (k + i) (by omega)
      rw [show p' + (k + i) = p' + k + i by omega, show p + (k + i) = p + k + i by omega] at this
      exact this
    · have r : runTo notNl s' p' = p' + (k + 1) := by
        refine run_is (by omega) (fun i hi => ?_) fun c hc => ?_
        · rcases Nat.lt_or_ge i k with hi2 | hi2
          · rw [ha i (by omega)]; exact run_mem (p := p) (by omega) (by omega)
          · rw [show p' + i = p' + (s.size - p) by omega, hb]
            exact ⟨_, rfl, rfl⟩
        · have := bt_lt hc
          omega
      refine .hash b0 ?_
      rw [r, show p' + (k + 1) = s'.size by omega]
      exact .here _
theorem agree_piece {s s' : ByteArray} {q p n : Nat} {r : List UInt8} (hq : q + n ≤ s.size) (h : s'.data.toList.drop p = (s.data.toList.drop q).take n ++ r) : Agree s s' q p n ∧ s'.data.toList.drop (p + n) = r := by
  have hl : ((s.data.toList.drop q).take n).length = n := by
    have : s.data.toList.length = s.size := Array.length_toList
    rw [List.length_take, List.length_drop]
    omega
  constructor
  · intro i hi
    have := congrArg (·[i]?) h
    simp only [List.getElem?_drop] at this
    rw [List.getElem?_append_left (by omega), List.getElem?_take, if_pos hi, List.getElem?_drop] at this
    exact this
  · have := drop_add h
    rw [hl] at this
    exact this
theorem blk_lx {pf : ByteArray → Nat} {s : ByteArray} {f : Nat → Nat} {p : Nat} {ts : List Tok} (h : Lx pf s p ts) : p ≤ s.size → ∀ (s' : ByteArray) (p' i : Nat), p' ≤ s'.size → s'.data.toList.drop p' = blkL s f i ts →
    ∃ ms, Lx pf s' p' ms ∧ ms.length = ts.length ∧ ∀ (k : Nat) (t : Tok), ts[k]? = some t → ∃ q, ms[k]? = some (t.at q) := by
  induction h with
  | fin h =>
    intro hp s' p' i hp' hd
    have hsz := drop_len hp' hd
    obtain ⟨h1, _, _⟩ := drop_bt (show s'.data.toList.drop p' = 32 :: [] from hd)
    have hsz' : s'.size = p' + 1 := hsz
    have hsk : Sk s' p' s'.size := .blank h1 rfl (by rw [hsz']; exact .here _)
    refine ⟨_, .fin hsk, rfl, fun k t hk => ?_⟩
    cases k with
    | zero =>
      simp at hk
      subst hk
      exact ⟨s'.size, rfl⟩
    | succ k => simp at hk
  | @tok p q j t ts h1 h2 h3 ih =>
    intro hp s' p' i hp' hd
    have hle := tokP_le h2
    match ts, lx_pos h3 with
    | u :: r, _ =>
      obtain ⟨g1, g2, g3, g4, g5⟩ := lx_head h3 hle.2.1
      have hd1 : s'.data.toList.drop p' = nzL (f i) ++ (pieceL s t u ++ blkL s f (i + 1) (u :: r)) := hd
      have hsk := nz_skip hd1
      have hd2 := drop_add hd1
      have hp1 := (hsk.le hp').2
      generalize p' + (nzL (f i)).length = p1 at *
      rcases tok_kind h2 with ⟨k4, hb, htx⟩ | ⟨k4, htx⟩
      · have hpc : pieceL s t u = (s.data.toList.drop q).take (u.place - q) := by
          unfold pieceL
          rw [if_pos k4, hle.2.2]
        rw [hpc] at hd2
        obtain ⟨ha, hd3⟩ := agree_piece (by omega) hd2
        have ht' : tokP pf s' p1 = .ok (t.at p1, p1 + (j - q)) := by
          have hb' : bt s' p1 = some 34 := by
            have := ha 0 (by omega)
            rw [Nat.add_zero, Nat.add_zero, hb] at this
            exact this
          have := text_local (bt_lt hb) htx (agree_less ha (k := j - q) (by omega))
          unfold tokP
          rw [hb']
          exact this
        have hle' := tokP_le ht'
        have ha2 : Agree s s' j (p1 + (j - q)) (u.place - j) := by
          have := agree_more ha (j - q)
          rw [show q + (j - q) = j by omega, show u.place - q - (j - q) = u.place - j by omega] at this
          exact this
        have hps : p1 + (u.place - q) ≤ s'.size := by
          have := agree_size ha (k := u.place - q) (by omega) (Nat.le_refl _) (by omega)
          exact this
        obtain ⟨ms, m1, m2, m3⟩ := ih hle.2.1 s' (p1 + (u.place - q)) (i + 1) hps hd3
        have m1' : Lx pf s' (p1 + (j - q)) ms ∨ (u.place = s.size) := by
          rcases Nat.lt_or_ge u.place s.size with hlt | hge
          · refine Or.inl (m1.skip ?_)
            have := sk_local (s' := s') g3 (p1 + (j - q)) hle.2.1 (by omega) ha2 g4 (fun e => by omega)
            rw [show p1 + (j - q) + (u.place - j) = p1 + (u.place - q) by omega] at this
            exact this
          · exact Or.inr (by omega)
        rcases m1' with m1' | hend
        · refine ⟨t.at p1 :: ms, .tok hsk ht' m1', by simp [m2], fun k w hk => ?_⟩
          cases k with
          | zero => simp at hk; subst hk; exact ⟨p1, rfl⟩
          | succ k => exact m3 k w (by simpa using hk)
        · have hr := g5 hend
          subst hr
          obtain ⟨b1, _, _⟩ := drop_bt (show s'.data.toList.drop (p1 + (u.place - q)) = 32 :: [] from hd3)
          have hsz := drop_len hps hd3
          have hsz' : s'.size = p1 + (u.place - q) + 1 := hsz
          have hsk2 := sk_tail (s' := s') (by rw [hend] at g3; exact g3) rfl (p1 + (j - q)) hle.2.1 (by rw [← hend]; exact ha2) (by omega) (by rw [show p1 + (j - q) + (s.size - j) = p1 + (u.place - q) by omega]; exact b1)
          refine ⟨[t.at p1, ⟨0, ⟨#[]⟩, 0, 0, s'.size⟩], .tok hsk ht' (.fin hsk2), rfl, fun k w hk => ?_⟩
          cases k with
          | zero => simp at hk; subst hk; exact ⟨p1, rfl⟩
          | succ k =>
            cases k with
            | zero =>
              simp at hk
              subst hk
              have hu := lx_last h3
              simp at hu
              subst hu
              exact ⟨s'.size, rfl⟩
            | succ k => simp at hk
      · have hts : t.text.size = j - q := by rw [htx]; simp; omega
        have hpc : pieceL s t u = (s.data.toList.drop q).take (j - q) := by
          unfold pieceL
          rw [if_neg k4, hle.2.2, hts, List.take_take, Nat.min_eq_left (by omega)]
        rw [hpc] at hd2
        obtain ⟨ha, hd3⟩ := agree_piece (by omega) hd2
        have ht' := tok_local h2 (Nat.le_refl _) ha (blk_stop hd3)
        have hle' := tokP_le ht'
        obtain ⟨ms, m1, m2, m3⟩ := ih hle.2.1 s' (p1 + (j - q)) (i + 1) hle'.2.1 hd3
        refine ⟨t.at p1 :: ms, .tok hsk ht' m1, by simp [m2], fun k w hk => ?_⟩
        cases k with
        | zero => simp at hk; subst hk; exact ⟨p1, rfl⟩
        | succ k => exact m3 k w (by simpa using hk)
theorem blanks_lexP {pf : ByteArray → Nat} {s : ByteArray} {f : Nat → Nat} {ts : List Tok} (h : lexP pf s = .ok ts) {s' : ByteArray} (hs : s'.data.toList = blkL s f 0 ts) (h4 : s'.size ≤ 4096) :
    ∃ ms, lexP pf s' = .ok ms ∧ ms.length = ts.length ∧ ∀ (k : Nat) (t : Tok), ts[k]? = some t → ∃ q, ms[k]? = some (t.at q) := by
  obtain ⟨h1, h2⟩ := lexP_iff.1 h
  obtain ⟨ms, m1, m2, m3⟩ := blk_lx (f := f) h2 (by omega) s' 0 0 (by omega) (by rw [List.drop_zero]; exact hs)
  exact ⟨ms, lexP_iff.2 ⟨h4, m1⟩, m2, m3⟩
/-- The tokens' places. -/
theorem lx_places {pf : ByteArray → Nat} {s : ByteArray} {p : Nat} {ts : List Tok} (h : Lx pf s p ts) : p ≤ s.size → ∀ (i : Nat) (t u : Tok), ts[i]? = some t → ts[i + 1]? = some u → t.place < u.place ∧ u.place ≤ s.size ∧ (t.kind ≠ 4 → t.text.size ≤ u.place - t.place) := by
  induction h with
  | fin h =>
    intro hp i t u _ h2
    simp at h2
  | @tok p q j t ts h1 h2 h3 ih =>
    intro hp i a b ha hb
    have hle := tokP_le h2
    cases i with
    | zero =>
      simp at ha
      subst ha
      match ts, hb with
      | u :: r, hb =>
        simp at hb
        subst hb
        obtain ⟨g1, g2, _⟩ := lx_head h3 hle.2.1
        refine ⟨by omega, g2, fun hk => ?_⟩
        rcases tok_kind h2 with ⟨k4, _⟩ | ⟨_, htx⟩
        · exact absurd k4 hk
        · have hts : t.text.size = j - q := by rw [htx]; simp; omega
          omega
    | succ i => exact ih hle.2.1 i a b (by simpa using ha) (by simpa using hb)
end Go.Proofs.YtnhdedoobagbbaaDoor
