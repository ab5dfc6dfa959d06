/- A string that is written out is read as its bytes. -/
import Derived.Test.YtnhdedoobagbbaaGreatDoorShown
namespace Go.Proofs.YtnhdedoobagbbaaGreatDoor
open Go.RowKit

/-- How the byte at place i is written. -/
def escAt (i : Nat) (c : UInt8) : List UInt8 :=
  if c == 34 || c == 92 then [92, c] else if c == 10 then (if i % 2 == 0 then [92, 110] else [c]) else if c == 9 then (if i % 2 == 0 then [92, 116] else [c]) else [c]
def escL : Nat → List UInt8 → List UInt8
  | _, [] => []
  | i, c :: r => escAt i c ++ escL (i + 1) r
theorem escL_append : ∀ (a b : List UInt8) (i : Nat), escL i (a ++ b) = escL i a ++ escL (i + a.length) b
  | [], b, i => by simp [escL]
  | c :: r, b, i => by
    rw [List.cons_append, escL, escL, escL_append r b (i + 1), List.append_assoc, List.length_cons, Nat.add_assoc, Nat.add_comm 1]
theorem escAt_len (i : Nat) (c : UInt8) : 1 ≤ (escAt i c).length ∧ (escAt i c).length ≤ 2 := by
  unfold escAt
  repeat' split
  all_goals simp
theorem escL_len : ∀ (l : List UInt8) (i : Nat), l.length ≤ (escL i l).length ∧ (escL i l).length ≤ 2 * l.length
  | [], i => by simp [escL]
  | c :: r, i => by
    have h1 := escAt_len i c
    have h2 := escL_len r (i + 1)
    rw [escL, List.length_append, List.length_cons]
    omega
theorem escAt_read {a0 i p : Nat} {c : UInt8} {y acc : List UInt8} (hc : ctlB c = false) (hl : acc.length ≠ 1024) : textL a0 (escAt i c ++ y) p acc = textL a0 y (p + (escAt i c).length) (acc ++ [c]) := by
  by_cases h34 : c = 34
  · subst h34
    rw [show escAt i 34 = [92, 34] from rfl]
    exact textL_esc rfl hl
  · by_cases h92 : c = 92
    · subst h92
      rw [show escAt i 92 = [92, 92] from rfl]
      exact textL_esc rfl hl
    · have hb : textL a0 ([c] ++ y) p acc = textL a0 y (p + ([c] : List UInt8).length) (acc ++ [c]) := textL_byte (by simpa using h34) hc (by simpa using h92) hl
      by_cases h10 : c = 10
      · subst h10
        rw [show escAt i 10 = if i % 2 == 0 then [92, 110] else [10] from rfl]
        split
        · exact textL_esc rfl hl
        · exact hb
      · by_cases h9 : c = 9
        · subst h9
          rw [show escAt i 9 = if i % 2 == 0 then [92, 116] else [9] from rfl]
          split
          · exact textL_esc rfl hl
          · exact hb
        · have : escAt i c = [c] := by unfold escAt; simp [h34, h92, h10, h9]
          rw [this]
          exact hb
theorem escAt_full {a0 i p : Nat} {c : UInt8} {y acc : List UInt8} (hc : ctlB c = false) (hl : acc.length = 1024) : textL a0 (escAt i c ++ y) p acc = .error (a0, 5) := by
  by_cases h34 : c = 34
  · subst h34
    rw [show escAt i 34 = [92, 34] from rfl]
    exact textL_esc_full rfl hl
  · by_cases h92 : c = 92
    · subst h92
      rw [show escAt i 92 = [92, 92] from rfl]
      exact textL_esc_full rfl hl
    · have hb : textL a0 ([c] ++ y) p acc = .error (a0, 5) := textL_full (by simpa using h34) hc (by simpa using h92) hl
      by_cases h10 : c = 10
      · subst h10
        rw [show escAt i 10 = if i % 2 == 0 then [92, 110] else [10] from rfl]
        split
        · exact textL_esc_full rfl hl
        · exact hb
      · by_cases h9 : c = 9
        · subst h9
          rw [show escAt i 9 = if i % 2 == 0 then [92, 116] else [9] from rfl]
          split
          · exact textL_esc_full rfl hl
          · exact hb
        · have : escAt i c = [c] := by unfold escAt; simp [h34, h92, h10, h9]
          rw [this]
          exact hb
/-- A string that is shut. -/
theorem esc_read {a0 : Nat} {x : List UInt8} : ∀ (r : List UInt8) (i p : Nat) (acc : List UInt8), (∀ c, c ∈ r → ctlB c = false) → acc.length + r.length ≤ 1024 → textL a0 (escL i r ++ 34 :: x) p acc = .ok (acc ++ r, p + (escL i r).length + 1)
  | [], i, p, acc, _, _ => by simp [escL, textL_quote]
  | c :: r, i, p, acc, h, hl => by
    rw [List.length_cons] at hl
    rw [escL, List.append_assoc, escAt_read (h c (by simp)) (by omega), esc_read r (i + 1) _ _ (fun d hd => h d (by simp [hd])) (by simp; omega)]
    simp [Nat.add_assoc]
/-- One that is too long. -/
theorem esc_long {a0 : Nat} {x : List UInt8} : ∀ (r : List UInt8) (i p : Nat) (acc : List UInt8), (∀ c, c ∈ r → ctlB c = false) → acc.length ≤ 1024 → 1024 < acc.length + r.length → textL a0 (escL i r ++ x) p acc = .error (a0, 5)
  | [], i, p, acc, _, h1, h2 => by simp at h2; omega
  | c :: r, i, p, acc, h, h1, h2 => by
    rw [List.length_cons] at h2
    rw [escL, List.append_assoc]
    by_cases hl : acc.length = 1024
    · exact escAt_full (h c (by simp)) hl
    · rw [escAt_read (h c (by simp)) hl, esc_long r (i + 1) _ _ (fun d hd => h d (by simp [hd])) (by simp; omega) (by simp; omega)]
/-- One that is not shut. -/
theorem esc_open {a0 : Nat} : ∀ (r : List UInt8) (i p : Nat) (acc : List UInt8), (∀ c, c ∈ r → ctlB c = false) → acc.length ≤ 1024 → textL a0 (escL i r) p acc = .error (a0, 5)
  | [], i, p, acc, _, _ => rfl
  | c :: r, i, p, acc, h, h1 => by
    rw [escL]
    by_cases hl : acc.length = 1024
    · exact escAt_full (h c (by simp)) hl
    · rw [escAt_read (h c (by simp)) hl, esc_open r (i + 1) _ _ (fun d hd => h d (by simp [hd])) (by simp; omega)]

/-- A text that is one string. -/
def quoted (l : List UInt8) : ByteArray := ⟨(34 :: (escL 0 l ++ [34])).toArray⟩
def halfQuoted (l : List UInt8) : ByteArray := ⟨(34 :: escL 0 l).toArray⟩
theorem quoted_size (l : List UInt8) : (quoted l).size = (escL 0 l).length + 2 := by
  show (34 :: (escL 0 l ++ [34])).length = _
  simp
theorem half_size (l : List UInt8) : (halfQuoted l).size = (escL 0 l).length + 1 := rfl
theorem quoted_ok {l : List UInt8} (h : ∀ c, c ∈ l → ctlB c = false) (hn : (quoted l).size ≤ 4096) (hl : l.length ≤ 1024) :
    lexP pfTx (quoted l) = .ok [⟨4, ⟨l.toArray⟩, 0, 0, 0⟩, ⟨0, ⟨#[]⟩, 0, 0, (quoted l).size⟩] := by
  have hb : bt (quoted l) 0 = some 34 := rfl
  have ht : textP (quoted l) 0 = .ok (⟨4, ⟨l.toArray⟩, 0, 0, 0⟩, (quoted l).size) := by
    unfold textP
    rw [show (quoted l).data.toList.drop (0 + 1) = escL 0 l ++ 34 :: [] from rfl, esc_read l 0 1 [] h (by simpa using hl)]
    simp [quoted_size]
    omega
  unfold lexP
  rw [if_neg (by omega), lexFrom_text hb, ht]
  show lexFrom pfTx (quoted l) (quoted l).size (quoted l).size _ = _
  rw [quoted_size, lexFrom_end (by rw [quoted_size]; exact Nat.le_refl _)]
  rfl
theorem quoted_long {l : List UInt8} (h : ∀ c, c ∈ l → ctlB c = false) (hn : (quoted l).size ≤ 4096) (hl : 1024 < l.length) : lexP pfTx (quoted l) = .error (0, 5) := by
  have hb : bt (quoted l) 0 = some 34 := rfl
  have ht : textP (quoted l) 0 = .error (0, 5) := by
    unfold textP
    rw [show (quoted l).data.toList.drop (0 + 1) = escL 0 l ++ [34] from rfl, esc_long l 0 1 [] h (by simp) (by simpa using hl)]
  unfold lexP
  rw [if_neg (by omega), lexFrom_text hb, ht]
  rfl
theorem half_err {l : List UInt8} (h : ∀ c, c ∈ l → ctlB c = false) (hn : (halfQuoted l).size ≤ 4096) : lexP pfTx (halfQuoted l) = .error (0, 5) := by
  have hb : bt (halfQuoted l) 0 = some 34 := rfl
  have ht : textP (halfQuoted l) 0 = .error (0, 5) := by
    unfold textP
    rw [show (halfQuoted l).data.toList.drop (0 + 1) = escL 0 l from rfl, esc_open l 0 1 [] h (by simp)]
  unfold lexP
  rw [if_neg (by omega), lexFrom_text hb, ht]
  rfl
theorem quoted_ask {D : ByteArray → Prop} {l : List UInt8} (h : ∀ c, c ∈ l → ctlB c = false) : askF pfTx D (quoted l) ((quoted l).size + 1) 0 := by
  have hb : bt (quoted l) 0 = some 34 := rfl
  rw [askF_text hb]
  intro t j ht
  unfold textP at ht
  rw [show (quoted l).data.toList.drop (0 + 1) = escL 0 l ++ 34 :: [] from rfl] at ht
  by_cases hl : l.length ≤ 1024
  · rw [esc_read l 0 1 [] h (by simpa using hl)] at ht
    simp at ht
    exact askF_end (by rw [quoted_size]; omega)
  · rw [esc_long l 0 1 [] h (by simp) (by simp; omega)] at ht
    cases ht
theorem half_ask {D : ByteArray → Prop} {l : List UInt8} (h : ∀ c, c ∈ l → ctlB c = false) : askF pfTx D (halfQuoted l) ((halfQuoted l).size + 1) 0 := by
  have hb : bt (halfQuoted l) 0 = some 34 := rfl
  rw [askF_text hb]
  intro t j ht
  unfold textP at ht
  rw [show (halfQuoted l).data.toList.drop (0 + 1) = escL 0 l from rfl, esc_open l 0 1 [] h (by simp)] at ht
  cases ht
end Go.Proofs.YtnhdedoobagbbaaGreatDoor
