/- LexPlaces: each token stands where it says; a fault's place and number. -/
import Derived.Test.YtnhdedoobagbbaaGreatDoorShownA
namespace Go.Proofs.YtnhdedoobagbbaaGreatDoor
open Go.RowKit

theorem tokP_shape {pf : ByteArray → Nat} {s : ByteArray} {p j : Nat} {t : Tok} (h : tokP pf s p = .ok (t, j)) : (t.kind = 4 ∧ bt s p = some 34) ∨ (t.kind ≠ 4 ∧ t.text = s.extract p j) := by
  obtain ⟨c, hb, h1, h2⟩ := tokP_at h
  have hp := bt_lt hb
  unfold tokP at h
  rw [hb] at h
  simp only [h1, h2, Bool.false_eq_true, if_false] at h
  split at h
  · split at h
    · cases h
    · cases h
      exact Or.inr ⟨by show (1 : Int) ≠ 4; decide, rfl⟩
  · split at h
    · unfold numP at h
      split at h
      · cases h
      · split at h
        · split at h
          · cases h
          · split at h
            · cases h
            · cases h
              exact Or.inr ⟨by show (3 : Int) ≠ 4; decide, rfl⟩
        · split at h
          · cases h
            exact Or.inr ⟨by show (2 : Int) ≠ 4; decide, rfl⟩
          · cases h
    · split at h
      · rename_i h34
        have : c = 34 := by simpa using h34
        subst this
        refine Or.inl ⟨?_, hb⟩
        unfold textP at h
        split at h
        · cases h; rfl
        · cases h
      · refine Or.inr ?_
        unfold signP at h
        cases hs : signL (s.data.toList.drop p) with
        | none => rw [hs] at h; cases h
        | some b =>
          rw [hs] at h
          cases h
          refine ⟨by show (5 : Int) ≠ 4; decide, ?_⟩
          have hlen : b.size = b.data.toList.length := (Array.length_toList).symm
          show b = s.extract p (p + b.size)
          apply ba_ext
          rw [Lib.extract_data, show p + b.size - p = b.size by omega]
          rcases signL_cases hs with ⟨k, hf, rfl⟩ | ⟨c, r, hc, _, _, rfl⟩
          · have h1 := List.find?_some hf
            unfold isSg Lib.hasPrefix at h1
            rw [List.isPrefixOf_iff_prefix] at h1
            rw [hlen]
            exact (List.prefix_iff_eq_take.1 h1)
          · rw [hc]
            rfl
/-- What the law asks of a token. -/
structure At (s : ByteArray) (t : Tok) : Prop where
  le : t.place ≤ s.size
  str : t.kind = 4 → ∃ h : t.place < s.size, s[t.place] = 34
  txt : t.kind ≠ 4 → t.place + t.text.size ≤ s.size ∧ s.extract t.place (t.place + t.text.size) = t.text
theorem lx_at {pf : ByteArray → Nat} {s : ByteArray} {p : Nat} {ts : List Tok} (h : Lx pf s p ts) : ∀ (i : Nat) (t : Tok), ts[i]? = some t → At s t := by
  induction h with
  | fin h =>
    intro i t ht
    cases i with
    | zero =>
      simp at ht
      subst ht
      refine ⟨Nat.le_refl _, fun h => absurd h (by show (0 : Int) ≠ 4; decide), fun _ => ⟨Nat.le_refl _, ?_⟩⟩
      apply ba_ext
      rw [Lib.extract_data]
      show List.take (s.size + 0 - s.size) _ = []
      rw [Nat.add_zero, Nat.sub_self, List.take_zero]
    | succ i => simp at ht
  | @tok p q j t ts h1 h2 h3 ih =>
    intro i u hu
    cases i with
    | zero =>
      simp at hu
      subst hu
      have hle := tokP_le h2
      obtain ⟨c, hc, _, _⟩ := tokP_at h2
      have hlt := bt_lt hc
      rw [← hle.2.2] at hlt
      refine ⟨by omega, fun h4 => ?_, fun h4 => ?_⟩
      · rcases tokP_shape h2 with ⟨_, hb⟩ | ⟨hk, _⟩
        · rw [← hle.2.2, bt_some hlt] at hb
          exact ⟨hlt, Option.some.inj hb⟩
        · exact absurd h4 hk
      · rcases tokP_shape h2 with ⟨hk, _⟩ | ⟨_, htx⟩
        · exact absurd hk h4
        · have hts : t.text.size = j - q := by rw [htx]; simp; omega
          rw [hts, hle.2.2, show q + (j - q) = j by omega]
          exact ⟨hle.2.1, htx.symm⟩
    | succ i => exact ih i u (by simpa using hu)
theorem lx_next {pf : ByteArray → Nat} {s : ByteArray} {p : Nat} {ts : List Tok} (h : Lx pf s p ts) : p ≤ s.size → (∀ u, ts[0]? = some u → p ≤ u.place) ∧ ∀ (i : Nat) (t u : Tok), ts[i]? = some t → ts[i + 1]? = some u → t.place < u.place := by
  induction h with
  | fin h =>
    intro hp
    refine ⟨fun u hu => ?_, fun i t u _ h2 => by simp at h2⟩
    simp at hu
    subst hu
    exact hp
  | @tok p q j t ts h1 h2 h3 ih =>
    intro hp
    have hle := tokP_le h2
    have hsk := h1.le hp
    obtain ⟨i1, i2⟩ := ih hle.2.1
    refine ⟨fun u hu => ?_, fun i a b ha hb => ?_⟩
    · simp at hu
      subst hu
      omega
    · cases i with
      | zero =>
        simp at ha
        subst ha
        have := i1 b (by simpa using hb)
        omega
      | succ i => exact i2 i a b (by simpa using ha) (by simpa using hb)
theorem textL_err {a0 : Nat} : ∀ (n : Nat) (rest : List UInt8) (i : Nat) (l : List UInt8) (p : Nat) (e : Int), rest.length ≤ n → textL a0 rest i l = .error (p, e) → e ≠ 0 ∧ (p = a0 ∨ p ≤ i + rest.length) := by
  intro n
  induction n with
  | zero =>
    intro rest i l p e hn h
    have : rest = [] := List.eq_nil_of_length_eq_zero (by omega)
    subst this
    cases h
    exact ⟨by decide, Or.inl rfl⟩
  | succ n ih =>
    intro rest i l p e hn h
    match rest with
    | [] => cases h; exact ⟨by decide, Or.inl rfl⟩
    | c :: r =>
      by_cases h34 : c = 34
      · subst h34
        rw [textL_quote] at h; cases h
      · have e34 : (c == 34) = false := by simpa using h34
        cases hctl : ctlB c with
        | true => rw [textL_ctl e34 hctl] at h; cases h; exact ⟨by decide, Or.inr (by omega)⟩
        | false =>
          by_cases h92 : c = 92
          · subst h92
            match r with
            | [] => cases h; exact ⟨by decide, Or.inr (by omega)⟩
            | d :: r =>
              cases hesc : escB d with
              | none => rw [textL_esc_none hesc] at h; cases h; exact ⟨by decide, Or.inr (by omega)⟩
              | some x =>
                by_cases hl : l.length = 1024
                · rw [textL_esc_full hesc hl] at h; cases h; exact ⟨by decide, Or.inl rfl⟩
                · rw [textL_esc hesc hl] at h
                  have := ih r (i + 2) _ _ _ (by simp at hn; omega) h
                  simp only [List.length_cons]
                  exact ⟨this.1, this.2.imp id (fun h => by omega)⟩
          · have e92 : (c == 92) = false := by simpa using h92
            by_cases hl : l.length = 1024
            · rw [textL_full e34 hctl e92 hl] at h; cases h; exact ⟨by decide, Or.inl rfl⟩
            · rw [textL_byte e34 hctl e92 hl] at h
              have := ih r (i + 1) _ _ _ (by simp at hn; omega) h
              simp only [List.length_cons]
              exact ⟨this.1, this.2.imp id (fun h => by omega)⟩
theorem tokP_err {pf : ByteArray → Nat} {s : ByteArray} {p q : Nat} {e : Int} {c : UInt8} (hb : bt s p = some c) (h1 : blankB c = false) (h2 : (c == 35) = false) (h : tokP pf s p = .error (q, e)) : q ≤ s.size ∧ e ≠ 0 := by
  have hp := bt_lt hb
  unfold tokP at h
  rw [hb] at h
  simp only [h1, h2, Bool.false_eq_true, if_false] at h
  split at h
  · split at h
    · cases h; exact ⟨by omega, by decide⟩
    · cases h
  · split at h
    · unfold numP at h
      split at h
      · cases h; exact ⟨by omega, by decide⟩
      · split at h
        · split at h
          · cases h; exact ⟨by omega, by decide⟩
          · split at h
            · cases h; exact ⟨by omega, by decide⟩
            · cases h
        · split at h
          · cases h
          · cases h; exact ⟨by omega, by decide⟩
    · split at h
      · unfold textP at h
        split at h
        · cases h
        · rename_i x hx
          cases h
          have := textL_err _ _ _ _ _ _ (Nat.le_refl _) hx
          have hl : s.data.toList.length = s.size := Array.length_toList
          simp only [List.length_drop] at this
          exact ⟨by omega, this.1⟩
      · unfold signP at h
        split at h
        · cases h
        · cases h; exact ⟨by omega, by decide⟩
theorem lexFrom_err {pf : ByteArray → Nat} {s : ByteArray} : ∀ (f p : Nat) (acc : List Tok) (q : Nat) (e : Int), p ≤ s.size → lexFrom pf s f p acc = .error (q, e) → q ≤ s.size ∧ e ≠ 0
  | 0, p, acc, q, e, _, h => by cases h
  | f + 1, p, acc, q, e, h2, h => by
    rcases Nat.lt_or_ge p s.size with hlt | hge
    · have hb := bt_some hlt
      generalize s[p] = c at hb
      cases hbl : blankB c with
      | true =>
        rw [lexFrom_blank hb hbl] at h
        exact lexFrom_err f (p + 1) acc q e (by omega) h
      | false =>
        by_cases h35 : c = 35
        · subst h35
          rw [lexFrom_hash hb] at h
          exact lexFrom_err f _ acc q e (runTo_le notNl s (by omega)) h
        · have e35 : (c == 35) = false := by simpa using h35
          rw [lexFrom_tok hb hbl e35] at h
          cases ht : tokP pf s p with
          | error x =>
            obtain ⟨q', e'⟩ := x
            rw [ht] at h
            cases h
            exact tokP_err hb hbl e35 ht
          | ok x =>
            obtain ⟨t, j⟩ := x
            rw [ht] at h
            have hle := tokP_le ht
            exact lexFrom_err f j (acc ++ [t]) q e hle.2.1 h
    · obtain rfl : p = s.size := by omega
      rw [lexFrom_end (Nat.le_refl _)] at h
      cases h
theorem lexP_err {pf : ByteArray → Nat} {s : ByteArray} {q : Nat} {e : Int} (h : lexP pf s = .error (q, e)) : q ≤ s.size ∧ e ≠ 0 := by
  unfold lexP at h
  split at h
  · cases h
    exact ⟨by omega, by decide⟩
  · exact lexFrom_err _ _ _ _ _ (by omega) h
end Go.Proofs.YtnhdedoobagbbaaGreatDoor
