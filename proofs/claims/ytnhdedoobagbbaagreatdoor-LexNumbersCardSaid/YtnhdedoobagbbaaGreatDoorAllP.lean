/- The lexer as a plain function, and that each token goes on. -/
import Derived.Test.YtnhdedoobagbbaaGreatDoorNumP
namespace Go.Proofs.YtnhdedoobagbbaaGreatDoor
open Go.RowKit

def blankB (c : UInt8) : Bool := c == 32 || c == 9 || c == 10 || c == 13
def lexFrom (pf : ByteArray → Nat) (s : ByteArray) : Nat → Nat → List Tok → Except (Nat × Int) (List Tok)
  | 0, p, acc => .ok (acc ++ [⟨0, ⟨#[]⟩, 0, 0, p⟩])
  | f + 1, p, acc =>
    match bt s p with
    | none => .ok (acc ++ [⟨0, ⟨#[]⟩, 0, 0, p⟩])
    | some c =>
      if blankB c then lexFrom pf s f (p + 1) acc
      else if c == 35 then lexFrom pf s f (runTo notNl s p) acc
      else if letterB c then
        (if 1024 < runTo moreB s p - p then .error (p, 5) else lexFrom pf s f (runTo moreB s p) (acc ++ [⟨1, s.extract p (runTo moreB s p), 0, 0, p⟩]))
      else match (if digitB c then numP pf s p else if c == 34 then textP s p else signP s p) with
        | .ok (t, j) => lexFrom pf s f j (acc ++ [t])
        | .error x => .error x
def lexP (pf : ByteArray → Nat) (s : ByteArray) : Except (Nat × Int) (List Tok) := if 4096 < s.size then .error (4096, 2) else lexFrom pf s (s.size + 1) 0 []

theorem runTo_gt {p : UInt8 → Bool} {s : ByteArray} {n : Nat} {c : UInt8} (h : bt s n = some c) (hc : p c = true) : n < runTo p s n := by
  have hn : n < s.size := by
    rcases Nat.lt_or_ge n s.size with h' | h'
    · exact h'
    · rw [bt_none h'] at h; cases h
  unfold runTo
  rw [drop_cons hn]
  have : s[n] = c := by rw [bt_some hn] at h; exact Option.some.inj h
  rw [this]
  simp [hc]
theorem textL_le {a0 : Nat} : ∀ (n : Nat) (rest : List UInt8) (i : Nat) (l l' : List UInt8) (j : Nat), rest.length ≤ n → textL a0 rest i l = .ok (l', j) → i < j ∧ j ≤ i + rest.length := by
  intro n
  induction n with
  | zero =>
    intro rest i l l' j hn h
    have : rest = [] := List.eq_nil_of_length_eq_zero (by omega)
    subst this
    cases h
  | succ n ih =>
    intro rest i l l' j hn h
    match rest with
    | [] => cases h
    | [c] =>
      rw [textL] at h
      split at h
      · cases h; simp
      · split at h
        · cases h
        · split at h <;> cases h
    | c :: d :: r =>
      rw [textL] at h
      split at h
      · cases h; simp
      · split at h
        · cases h
        · split at h
          · split at h
            · cases h
            · split at h
              · cases h
              · have := ih r (i + 2) _ _ _ (by simp at hn; omega) h
                simp; omega
          · split at h
            · cases h
            · have := ih (d :: r) (i + 1) _ _ _ (by simp at hn ⊢; omega) h
              simp at this ⊢; omega
theorem textP_le {s : ByteArray} {p j : Nat} {t : Tok} (hp : p < s.size) (h : textP s p = .ok (t, j)) : p < j ∧ j ≤ s.size ∧ t.place = p := by
  unfold textP at h
  split at h
  · rename_i l j' hl
    cases h
    have hlen : s.data.toList.length = s.size := Array.length_toList
    have := textL_le _ _ _ _ _ _ (Nat.le_refl _) hl
    simp only [List.length_drop] at this
    exact ⟨by omega, by omega, rfl⟩
  · cases h
theorem signL_size {l : List UInt8} {b : ByteArray} (h : signL l = some b) : 1 ≤ b.size ∧ b.size ≤ l.length := by
  unfold signL at h
  split at h
  · rename_i k hk
    have h1 := List.find?_some hk
    cases h
    unfold isSg Lib.hasPrefix at h1
    rw [List.isPrefixOf_iff_prefix] at h1
    have := h1.length_le
    have hs : (sg k).data.toList.length = (sg k).size := Array.length_toList
    rw [sg_size] at *
    omega
  · cases l with
    | nil => cases h
    | cons c r =>
      simp only at h
      split at h
      · cases h
      · cases h
        exact ⟨Nat.le_refl 1, by show 1 ≤ _; simp⟩
theorem signP_le {s : ByteArray} {p j : Nat} {t : Tok} (hp : p < s.size) (h : signP s p = .ok (t, j)) : p < j ∧ j ≤ s.size ∧ t.place = p := by
  unfold signP at h
  split at h
  · rename_i b hb
    cases h
    have hlen : s.data.toList.length = s.size := Array.length_toList
    have := signL_size hb
    simp only [List.length_drop] at this
    exact ⟨by omega, by omega, rfl⟩
  · cases h
theorem numP_le {pf : ByteArray → Nat} {s : ByteArray} {p j : Nat} {t : Tok} {c : UInt8} (hb : bt s p = some c) (hd : digitB c = true) (h : numP pf s p = .ok (t, j)) : p < j ∧ j ≤ s.size ∧ t.place = p := by
  have hp : p < s.size := by
    rcases Nat.lt_or_ge p s.size with h' | h'
    · exact h'
    · rw [bt_none h'] at hb; cases hb
  have h1 := runTo_gt hb hd
  have h2 := runTo_le digitB s (Nat.le_of_lt hp)
  unfold numP at h
  split at h
  · cases h
  · split at h
    · rename_i hdot
      have h3 := dotB_lt hdot
      have h4 := runTo_ge digitB s (runTo digitB s p + 1)
      have h5 := runTo_le digitB s (n := runTo digitB s p + 1) (by omega)
      have h6 := expEnd_le h5
      split at h
      · cases h
      · split at h
        · cases h
        · cases h
          exact ⟨by omega, by omega, rfl⟩
    · split at h
      · cases h
        exact ⟨h1, h2, rfl⟩
      · cases h
end Go.Proofs.YtnhdedoobagbbaaGreatDoor
