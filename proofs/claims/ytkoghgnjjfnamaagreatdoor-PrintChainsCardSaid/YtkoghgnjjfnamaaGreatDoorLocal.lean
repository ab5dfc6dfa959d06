/- Local: what is used of them. -/
import Derived.Test.YtkoghgnjjfnamaaGreatDoorAll
/- A token depends on its own bytes, and on that what follows does not go on with it. -/
namespace Go.Proofs.YtkoghgnjjfnamaaGreatDoor
open Go.RowKit
/-- The first m bytes from p' on are those from p on. -/
def Agree (s s' : ByteArray) (p p' m : Nat) : Prop := ∀ i, i < m → bt s' (p' + i) = bt s (p + i)
/-- A byte that goes on with no token. -/
def stopB (c : UInt8) : Bool := !(moreB c) && c != 46 && c != 43 && c != 47 && c != 61 && c != 38 && c != 124
def StopAt (s : ByteArray) (j : Nat) : Prop := ∀ c, bt s j = some c → stopB c = true
theorem stop_more {c : UInt8} (h : stopB c = true) : moreB c = false := by
  unfold stopB at h
  simp only [Bool.and_eq_true, Bool.not_eq_true'] at h
  exact h.1.1.1.1.1.1
theorem stop_digit {c : UInt8} (h : stopB c = true) : digitB c = false := by
  have := stop_more h
  unfold moreB at this
  simp only [Bool.or_eq_false_iff] at this
  exact this.1.1.2
theorem stop_E {c : UInt8} (h : stopB c = true) : isE c = false := by
  have := all256 (p := fun c => !(stopB c) || !(isE c)) (by decide +kernel) c
  rw [h] at this
  simpa using this
theorem stop_sgn {c : UInt8} (h : stopB c = true) : (c == 43 || c == 45) = false := by
  have := all256 (p := fun c => !(stopB c) || !(c == 43 || c == 45)) (by decide +kernel) c
  rw [h] at this
  simpa using this
theorem bt_lt {s : ByteArray} {i : Nat} {c : UInt8} (h : bt s i = some c) : i < s.size := by
  rcases Nat.lt_or_ge i s.size with h' | h'
  · exact h'
  · rw [bt_none h'] at h; cases h
theorem takeWhile_get {α : Type} {p : α → Bool} : ∀ (l : List α) (i : Nat), i < (l.takeWhile p).length → ∃ x, l[i]? = some x ∧ p x = true
  | [], i, h => by simp at h
  | x :: r, i, h => by
    rw [List.takeWhile_cons] at h
    split at h
    · rename_i hx
      cases i with
      | zero => exact ⟨x, rfl, hx⟩
      | succ i =>
        obtain ⟨y, h1, h2⟩ := takeWhile_get r i (by simpa using h)
        exact ⟨y, by simpa using h1, h2⟩
    · simp at h
theorem takeWhile_stop {α : Type} {p : α → Bool} : ∀ (l : List α) (x : α), l[(l.takeWhile p).length]? = some x → p x = false
  | [], x, h => by simp at h
  | y :: r, x, h => by
    rw [List.takeWhile_cons] at h
    split at h
    · rename_i hx
      exact takeWhile_stop r x (by simpa using h)
    · rename_i hx
      simp at h
      subst h
      simpa using hx
theorem run_mem {pr : UInt8 → Bool} {s : ByteArray} {p i : Nat} (h1 : p ≤ i) (h2 : i < runTo pr s p) : ∃ c, bt s i = some c ∧ pr c = true := by
  unfold runTo at h2
  obtain ⟨c, hc, hp⟩ := takeWhile_get (p := pr) (s.data.toList.drop p) (i - p) (by omega)
  refine ⟨c, ?_, hp⟩
  unfold bt
  rw [List.getElem?_drop] at hc
  rw [← hc]
  congr 1
  omega
theorem run_stop {pr : UInt8 → Bool} {s : ByteArray} {p : Nat} {c : UInt8} (h : bt s (runTo pr s p) = some c) : pr c = false := by
  refine takeWhile_stop (p := pr) (s.data.toList.drop p) c ?_
  rw [List.getElem?_drop]
  exact h
theorem run_is {pr : UInt8 → Bool} {s : ByteArray} {p k : Nat} (hp : p + k ≤ s.size) (h : ∀ i, i < k → ∃ c, bt s (p + i) = some c ∧ pr c = true) (he : ∀ c, bt s (p + k) = some c → pr c = false) : runTo pr s p = p + k := by
  refine runTo_eq (by omega) hp ?_ ?_
  · intro j c h1 h2 hc
    obtain ⟨d, hd, hp⟩ := h (j - p) (by omega)
    rw [show p + (j - p) = j by omega] at hd
    have : bt s j = some c := hc
    rw [hd] at this
    cases this
    exact hp
  · rcases Nat.lt_or_ge (p + k) s.size with h1 | h1
    · exact Or.inr ⟨_, bt_some h1, he _ (bt_some h1)⟩
    · exact Or.inl (by omega)
/-- A run of bytes of one kind. -/
theorem run_local {pr : UInt8 → Bool} {s s' : ByteArray} {p p' m k : Nat} (hk : runTo pr s p = p + k) (hm : k ≤ m) (ha : Agree s s' p p' m) (hp' : p' + k ≤ s'.size) (hst : StopAt s' (p' + m)) (hpr : ∀ c, stopB c = true → pr c = false) :
    runTo pr s' p' = p' + k := by
  refine run_is hp' (fun i hi => ?_) fun c hc => ?_
  · rw [ha i (by omega)]
    exact run_mem (p := p) (by omega) (by omega)
  · rcases Nat.lt_or_ge k m with h | h
    · rw [ha k h, ← hk] at hc
      exact run_stop hc
    · obtain rfl : k = m := by omega
      exact hpr c (hst c hc)
theorem agree_size {s s' : ByteArray} {p p' m k : Nat} (ha : Agree s s' p p' m) (h0 : 0 < k) (hk : k ≤ m) (hs : p + k ≤ s.size) : p' + k ≤ s'.size := by
  have h := ha (k - 1) (by omega)
  rw [bt_some (show p + (k - 1) < s.size by omega)] at h
  have := bt_lt h
  omega
theorem agree_more {s s' : ByteArray} {p p' m : Nat} (ha : Agree s s' p p' m) (k : Nat) : Agree s s' (p + k) (p' + k) (m - k) := by
  intro i hi
  rw [Nat.add_assoc, Nat.add_assoc]
  exact ha (k + i) (by omega)
/-- What begins with s' bytes goes as far, and as far as the run of digits reads. -/
theorem sign_local {s s' : ByteArray} {p p' m : Nat} (h1 : 1 ≤ m) (ha : Agree s s' p p' m) : signEnd s' p' - p' = signEnd s p - p := by
  have := ha 0 (by omega)
  rw [Nat.add_zero, Nat.add_zero] at this
  unfold signEnd
  rw [this]
  cases bt s p with
  | none => simp
  | some c => simp only; split <;> omega
theorem signEnd_stop {s : ByteArray} {p : Nat} (h : StopAt s p) : signEnd s p = p := by
  unfold signEnd
  cases hb : bt s p with
  | none => rfl
  | some c =>
    simp only
    rw [if_neg (by rw [stop_sgn (h c hb)]; simp)]
theorem run_digit_stop {s : ByteArray} {p : Nat} (hp : p ≤ s.size) (h : StopAt s p) : runTo digitB s p = p := by
  have := run_is (pr := digitB) (s := s) (p := p) (k := 0) (by omega) (fun i hi => by omega) (fun c hc => stop_digit (h c hc))
  simpa using this
theorem exp_stop {s : ByteArray} {p : Nat} (h : StopAt s p) : expEnd s p = p := by
  refine expEnd_no ?_
  unfold expB
  cases hb : bt s p with
  | none => rfl
  | some c => exact stop_E (h c hb)
/-- Where the exponent ends. -/
theorem exp_local {s s' : ByteArray} {p p' m k : Nat} (hk : expEnd s p = p + k) (hm : k ≤ m) (ha : Agree s s' p p' m) (hst : StopAt s' (p' + m)) : expEnd s' p' = p' + k := by
  rcases Nat.eq_zero_or_pos m with h0 | h0
  · subst h0
    obtain rfl : k = 0 := by omega
    exact exp_stop hst
  · have b0 := ha 0 h0
    rw [Nat.add_zero, Nat.add_zero] at b0
    by_cases hE : expB s p = true
    · have hE' : expB s' p' = true := by
        unfold expB at hE ⊢
        rw [b0]; exact hE
      have hlt := expB_lt hE
      have hlt' := expB_lt hE'
      rw [expEnd_yes hE] at hk
      rw [expEnd_yes hE']
      obtain ⟨z, hz⟩ : ∃ z, signEnd s (p + 1) = p + 1 + z := ⟨signEnd s (p + 1) - (p + 1), by have := (signEnd_le (s := s) (i := p + 1) hlt).1; omega⟩
      have hz1 : z ≤ 1 := by rcases signEnd_two s (p + 1) with h | h <;> omega
      by_cases h1 : m = 1
      · subst h1
        rw [signEnd_stop hst, run_digit_stop hlt' hst, if_neg (by omega)]
        have hz2 := runTo_ge digitB s (signEnd s (p + 1))
        split at hk
        · omega
        · omega
      · have hsg := sign_local (by omega) (agree_more ha 1)
        have hs1 := (signEnd_le (s := s') (i := p' + 1) hlt').1
        have hs2 := (signEnd_le (s := s') (i := p' + 1) hlt').2
        have hs3 := (signEnd_le (s := s) (i := p + 1) hlt).2
        have hsz' : signEnd s' (p' + 1) = p' + 1 + z := by omega
        rw [hsz'] at hs2
        rw [hz] at hs3 hk
        rw [hsz']
        have hrl := runTo_le digitB s hs3
        obtain ⟨y, hy⟩ : ∃ y, runTo digitB s (p + 1 + z) = p + 1 + z + y := ⟨runTo digitB s (p + 1 + z) - (p + 1 + z), by have := runTo_ge digitB s (p + 1 + z); omega⟩
        by_cases hzm : 1 + z ≤ m
        · rw [hy] at hk hrl
          have ha2 : Agree s s' (p + 1 + z) (p' + 1 + z) (m - (1 + z)) := by
            have := agree_more ha (1 + z)
            rw [show p + (1 + z) = p + 1 + z by omega, show p' + (1 + z) = p' + 1 + z by omega] at this
            exact this
          have hst2 : StopAt s' (p' + 1 + z + (m - (1 + z))) := by rw [show p' + 1 + z + (m - (1 + z)) = p' + m by omega]; exact hst
          have hyn : y = 0 ∨ 0 < y := Nat.eq_zero_or_pos y
          rcases hyn with hy0 | hy0
          · subst hy0
            rw [if_neg (by omega)] at hk
            have := run_local hy (by omega) ha2 (by omega) hst2 (fun c hc => stop_digit hc)
            rw [this, if_neg (by omega)]
            omega
          · rw [if_pos (by omega)] at hk
            have := run_local hy (by omega) ha2 (agree_size ha2 hy0 (by omega) hrl) hst2 (fun c hc => stop_digit hc)
            rw [this, if_pos (by omega)]
            omega
        · omega
    · have hE0 : expB s p = false := by simpa using hE
      have hE' : expB s' p' = false := by
        unfold expB at hE0 ⊢
        rw [b0]; exact hE0
      rw [expEnd_no hE0] at hk
      rw [expEnd_no hE']
      omega
def Tok.at (t : Tok) (p : Nat) : Tok := { t with place := p }
end Go.Proofs.YtkoghgnjjfnamaaGreatDoor
