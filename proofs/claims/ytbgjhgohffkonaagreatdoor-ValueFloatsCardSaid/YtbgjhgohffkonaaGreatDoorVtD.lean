/- Rounding to a float by the model's arithmetic: the nearest word of a product or quotient is the float in whose interval it lies. -/
import Derived.Test.YtbgjhgohffkonaaGreatDoorM14
import Derived.Test.YtbgjhgohffkonaaGreatDoorVtB
namespace Go.Proofs.YtbgjhgohffkonaaGreatDoor
open Ieee
set_option linter.unusedVariables false
theorem cut_in (n d : Nat) : (Toward.even.cut false n d % 2 = 0 → 2 * n ≤ 2 * Toward.even.cut false n d * 2 ^ d + 2 ^ d ∧ 2 * Toward.even.cut false n d * 2 ^ d ≤ 2 * n + 2 ^ d) ∧
    (Toward.even.cut false n d % 2 = 1 → 2 * n < 2 * Toward.even.cut false n d * 2 ^ d + 2 ^ d ∧ 2 * Toward.even.cut false n d * 2 ^ d < 2 * n + 2 ^ d) := by
  have hlt : n < 2 ^ (n.log2 + 1) := Nat.lt_log2_self
  unfold Toward.cut
  simp only [Nat.shiftLeft_eq, Nat.one_mul]
  rcases Nat.le_total d (n.log2 + 2) with hd | hd
  · rw [Nat.min_eq_left hd]
    have hm := Nat.div_add_mod n (2 ^ d)
    have hr := Nat.mod_lt n (p2_pos d)
    generalize 2 ^ d = P at *
    generalize n / P = q at *
    generalize n % P = t at *
    have e1 : 2 * q * P = 2 * (P * q) := by grind
    have e2 : 2 * (q + 1) * P = 2 * (P * q) + 2 * P := by grind
    have e3 : 2 * (q + 0) * P = 2 * (P * q) := by grind
    by_cases c1 : P < 2 * t
    · have : (decide (P < 2 * t) || P == 2 * t && q % 2 == 1) = true := by simp [c1]
      rw [this]
      show (_ → _ ≤ 2 * (q + 1) * P + P ∧ 2 * (q + 1) * P ≤ _) ∧ (_ → _ < 2 * (q + 1) * P + P ∧ 2 * (q + 1) * P < _)
      rw [e2]
      refine ⟨fun _ => ?_, fun _ => ?_⟩ <;> omega
    · by_cases c2 : P = 2 * t ∧ q % 2 = 1
      · have : (decide (P < 2 * t) || P == 2 * t && q % 2 == 1) = true := by simp [c2]
        rw [this]
        show ((q + 1) % 2 = 0 → _ ≤ 2 * (q + 1) * P + P ∧ 2 * (q + 1) * P ≤ _) ∧ ((q + 1) % 2 = 1 → _ < 2 * (q + 1) * P + P ∧ 2 * (q + 1) * P < _)
        rw [e2]
        refine ⟨fun _ => ?_, fun _ => ?_⟩ <;> omega
      · have : (decide (P < 2 * t) || P == 2 * t && q % 2 == 1) = false := by
          simp only [c1, decide_false, Bool.false_or, Bool.and_eq_false_iff, beq_eq_false_iff_ne]
          by_cases h : P = 2 * t
          · exact Or.inr fun h' => c2 ⟨h, h'⟩
          · exact Or.inl h
        rw [this]
        show (q % 2 = 0 → _ ≤ 2 * (q + 0) * P + P ∧ 2 * (q + 0) * P ≤ _) ∧ (q % 2 = 1 → _ < 2 * (q + 0) * P + P ∧ 2 * (q + 0) * P < _)
        rw [e3]
        refine ⟨fun _ => ?_, fun _ => ?_⟩ <;> omega
  · rw [Nat.min_eq_right hd]
    have hG : 2 ^ (n.log2 + 2) = 2 * 2 ^ (n.log2 + 1) := by rw [Nat.pow_succ]; omega
    have hle : 2 ^ (n.log2 + 2) ≤ 2 ^ d := Nat.pow_le_pow_right (by decide) hd
    rw [hG] at hle ⊢
    generalize 2 ^ (n.log2 + 1) = G at *
    generalize 2 ^ d = P at *
    rw [Nat.div_eq_of_lt (show n < 2 * G by omega), Nat.mod_eq_of_lt (show n < 2 * G by omega)]
    have : (decide (2 * G < 2 * n) || 2 * G == 2 * n && 0 % 2 == 1) = false := by
      simp; omega
    rw [this]
    show (_ → _ ≤ 2 * 0 * P + P ∧ 2 * 0 * P ≤ _) ∧ (0 % 2 = 1 → _)
    refine ⟨fun _ => by omega, fun h => by omega⟩
theorem word_of {r k' m k A C : Nat} (hC : 0 < C) (n : Nrm m k) (hk : k ≤ 2045) (h : RI m k A C) (hr : r ≤ 9007199254740992) (hrk : k' = 0 ∨ 4503599627370496 ≤ r) (hv : k' = 0 ∨ 18014398509481984 * 2 ^ k' * C ≤ A)
    (he : r % 2 = 0 → (4 * r - 2) * 2 ^ k' * C ≤ A ∧ A ≤ (4 * r + 2) * 2 ^ k' * C) (ho : r % 2 = 1 → (4 * r - 2) * 2 ^ k' * C < A ∧ A < (4 * r + 2) * 2 ^ k' * C) :
    min (k' * 4503599627370496 + r) 9218868437227405312 = k * 4503599627370496 + m := by
  have hr1 : 1 ≤ r := by
    refine Nat.lt_of_not_le fun h0 => ?_
    have hk0 : k' = 0 := by omega
    subst hk0
    obtain rfl : r = 0 := by omega
    have := (he (by decide)).2
    obtain ⟨g1, g2⟩ := h.pos n
    rw [Nat.pow_zero] at this
    rcases g2 (by omega) with g | g <;> omega
  have hp := p2_pos k'
  by_cases h53 : r = 9007199254740992
  · have hR : RI 4503599627370496 (k' + 1) A C := by
      refine ⟨fun _ => ?_, fun h => by omega⟩
      have hl : lowN 4503599627370496 (k' + 1) = 4 * 4503599627370496 - 1 := by unfold lowN; rw [if_pos ⟨rfl, by omega⟩]
      obtain ⟨a1, a2⟩ := he (by omega)
      rw [h53] at a1 a2
      rw [hl, Nat.pow_succ]
      refine ⟨Nat.le_trans (Nat.le_of_eq ?_) a1, Nat.le_trans a2 (Nat.mul_le_mul_right _ ?_)⟩
      · congr 1; omega
      · omega
    obtain ⟨e1, e2⟩ := uniq hC n ⟨by omega, by omega, by omega⟩ h hR
    omega
  · have hR : RI r k' A C := by
      by_cases hl : r = 4503599627370496 ∧ 0 < k'
      · have hlow : lowN r k' = 4 * r - 1 := by unfold lowN; rw [if_pos hl]
        refine ⟨fun h0 => ⟨?_, (he h0).2⟩, fun h0 => by omega⟩
        rcases hv with hv | hv
        · omega
        · refine Nat.le_trans (Nat.mul_le_mul_right _ (Nat.mul_le_mul_right _ ?_)) hv
          rw [hlow]; omega
      · have hlow : lowN r k' = 4 * r - 2 := by unfold lowN; rw [if_neg hl]
        exact ⟨fun h0 => by rw [hlow]; exact he h0, fun h0 => by rw [hlow]; exact ho h0⟩
    obtain ⟨e1, e2⟩ := uniq hC n ⟨hr1, by omega, hrk⟩ h hR
    have := n.2.1
    omega
theorem f64_frac : F64.fractionBits = 52 := rfl
theorem f64_least : F64.leastPlace = -1074 := rfl
/-- What a cut number is: in units of its last place. -/
theorem thr {Q D n u d : Nat} (hn : 0 < n) (hU : UnrB Q D n) (h : (u = 0 ∧ 2 ≤ d) ∨ (n = 1 ∧ Q = D)) {r : Nat} (hr : r = Toward.even.cut false (Q * 2 ^ u) d) :
    (r % 2 = 0 → (4 * r - 2) * 2 ^ d * n ≤ D * 2 ^ (u + 2) ∧ D * 2 ^ (u + 2) ≤ (4 * r + 2) * 2 ^ d * n) ∧ (r % 2 = 1 → (4 * r - 2) * 2 ^ d * n < D * 2 ^ (u + 2) ∧ D * 2 ^ (u + 2) < (4 * r + 2) * 2 ^ d * n) := by
  have hc := cut_in (Q * 2 ^ u) d
  rw [← hr] at hc
  clear hr
  rcases h with ⟨rfl, hd⟩ | ⟨rfl, rfl⟩
  · rw [Nat.pow_zero, Nat.mul_one] at hc
    obtain ⟨t, rfl⟩ : ∃ t, d = t + 2 := ⟨d - 2, by omega⟩
    have e2 : 2 ^ (t + 2) = 4 * 2 ^ t := by rw [Nat.pow_succ, Nat.pow_succ]; omega
    rw [e2] at hc ⊢
    show (_ → _ ≤ D * 4 ∧ D * 4 ≤ _) ∧ (_ → _ < D * 4 ∧ D * 4 < _)
    have up := hU ((2 * r + 1) * 2 ^ t)
    have m1 : 2 * ((2 * r + 1) * 2 ^ t) = 4 * (r * 2 ^ t) + 2 * 2 ^ t := by grind
    have m2 : 2 * r * (4 * 2 ^ t) = 8 * (r * 2 ^ t) := by grind
    have m3 : (4 * r + 2) * (4 * 2 ^ t) * n = 4 * ((4 * (r * 2 ^ t) + 2 * 2 ^ t) * n) := by grind
    rw [m1] at up
    rw [m2] at hc
    rw [m3]
    by_cases h0 : r = 0
    · subst h0
      refine ⟨fun _ => ⟨by simp, ?_⟩, fun h => by omega⟩
      have := up.2.1 (by have := (hc.1 rfl).1; omega)
      omega
    · have dn := hU ((2 * r - 1) * 2 ^ t)
      have m4 : 2 * ((2 * r - 1) * 2 ^ t) = 4 * (r * 2 ^ t) - 2 * 2 ^ t := by rw [Nat.sub_mul]; have : 2 * r * 2 ^ t = 2 * (r * 2 ^ t) := Nat.mul_assoc _ _ _; omega
      have m5 : (4 * r - 2) * (4 * 2 ^ t) * n = 4 * ((4 * (r * 2 ^ t) - 2 * 2 ^ t) * n) := by
        have : (4 * r - 2) * (4 * 2 ^ t) = 4 * (4 * (r * 2 ^ t) - 2 * 2 ^ t) := by
          rw [Nat.sub_mul]
          have : 4 * r * (4 * 2 ^ t) = 16 * (r * 2 ^ t) := by grind
          omega
        rw [this, Nat.mul_assoc]
      rw [m4] at dn
      rw [m5]
      have hge : 2 ^ t ≤ r * 2 ^ t := Nat.le_mul_of_pos_left _ (by omega)
      refine ⟨fun h1 => ?_, fun h1 => ?_⟩
      · obtain ⟨a1, a2⟩ := hc.1 h1
        have b1 := up.2.1 (by omega)
        have b2 : ¬ (Q < 4 * (r * 2 ^ t) - 2 * 2 ^ t) := by omega
        rw [dn.1] at b2
        omega
      · obtain ⟨a1, a2⟩ := hc.2 h1
        have b1 := up.1.1 (by omega)
        have b2 : ¬ (Q ≤ 4 * (r * 2 ^ t) - 2 * 2 ^ t) := by omega
        rw [dn.2] at b2
        omega
  · have e2 : 2 ^ (u + 2) = 4 * 2 ^ u := by rw [Nat.pow_succ, Nat.pow_succ]; omega
    have m1 : Q * 2 ^ (u + 2) = 4 * (Q * 2 ^ u) := by rw [e2]; grind
    have m2 : (4 * r + 2) * 2 ^ d * 1 = 2 * (2 * r * 2 ^ d + 2 ^ d) := by grind
    have m3 : (4 * r - 2) * 2 ^ d * 1 = 2 * (2 * r * 2 ^ d) - 2 * 2 ^ d := by
      rw [Nat.sub_mul, Nat.mul_one]
      have : 4 * r * 2 ^ d = 2 * (2 * r * 2 ^ d) := by grind
      omega
    rw [m1, m2, m3]
    have hp := p2_pos d
    by_cases h0 : r = 0
    · subst h0
      refine ⟨fun h1 => ?_, fun h1 => by omega⟩
      have := hc.1 rfl
      omega
    · have hge : 2 ^ d ≤ r * 2 ^ d := Nat.le_mul_of_pos_left _ (by omega)
      rw [Nat.mul_assoc 2 r] at *
      refine ⟨fun h1 => ?_, fun h1 => ?_⟩
      · have := hc.1 h1
        omega
      · have := hc.2 h1
        omega
/-- The nearest word is the float in whose interval the number lies. -/
theorem near_gen {Q D n a c m k : Nat} {p : Int} (hQ : 0 < Q) (hn : 0 < n) (hU : UnrB Q D n) (hx : 54 ≤ Q.log2 ∨ (n = 1 ∧ Q = D)) (hac : (a : Int) - c = p + 1076) (nn : Nrm m k) (hk : k ≤ 2045) (h : RI m k (D * 2 ^ a) (n * 2 ^ c)) :
    F64.nearest false Q p = k * 4503599627370496 + m := by
  unfold Format.nearest
  rw [if_neg (by omega), word_false, f64_inf, f64_binade, f64_frac, f64_least]
  simp only [Nat.shiftLeft_eq]
  obtain ⟨last, hl⟩ : ∃ l : Int, max (p + (Q.log2 : Nat) - (52 : Nat)) (-1074) = l := ⟨_, rfl⟩
  rw [hl]
  obtain ⟨k', hk'⟩ : ∃ k' : Nat, (last - -1074).toNat = k' := ⟨_, rfl⟩
  obtain ⟨u, hu⟩ : ∃ u : Nat, (p - last).toNat = u := ⟨_, rfl⟩
  obtain ⟨d, hd⟩ : ∃ d : Nat, (last - p).toNat = d := ⟨_, rfl⟩
  rw [hk', hu, hd]
  have hL1 : 2 ^ Q.log2 ≤ Q := Nat.log2_self_le (by omega)
  have hL2 : Q < 2 ^ (Q.log2 + 1) := Nat.lt_log2_self
  generalize Q.log2 = L at *
  obtain ⟨r, hr⟩ : ∃ r, r = Toward.even.cut false (Q * 2 ^ u) d := ⟨_, rfl⟩
  have hc := cut_in (Q * 2 ^ u) d
  have ht := thr (u := u) (d := d) hn hU (by omega) hr
  rw [← hr] at hc ⊢
  have hc1 : 2 * (Q * 2 ^ u) ≤ 2 * r * 2 ^ d + 2 ^ d ∧ 2 * r * 2 ^ d ≤ 2 * (Q * 2 ^ u) + 2 ^ d := by
    rcases Nat.mod_two_eq_zero_or_one r with h0 | h0
    · exact hc.1 h0
    · exact ⟨Nat.le_of_lt (hc.2 h0).1, Nat.le_of_lt (hc.2 h0).2⟩
  clear hc hr
  have hda : d + a = u + 2 + k' + c := by omega
  have cv1 : ∀ x, x * 2 ^ d * n ≤ D * 2 ^ (u + 2) → x * 2 ^ k' * (n * 2 ^ c) ≤ D * 2 ^ a := by
    intro x hx
    rw [Nat.mul_right_comm] at hx
    have := (pw_le (A := x * n) (C := D) (Q := d) (N := u + 2) (K := k' + c) (K' := a) (by omega)).1 hx
    rw [Nat.pow_add] at this
    rw [show x * 2 ^ k' * (n * 2 ^ c) = x * n * (2 ^ k' * 2 ^ c) by grind]
    exact this
  have cv2 : ∀ x, x * 2 ^ d * n < D * 2 ^ (u + 2) → x * 2 ^ k' * (n * 2 ^ c) < D * 2 ^ a := by
    intro x hx
    rw [Nat.mul_right_comm] at hx
    have := (pw_lt (A := x * n) (C := D) (Q := d) (N := u + 2) (K := k' + c) (K' := a) (by omega)).1 hx
    rw [Nat.pow_add] at this
    rw [show x * 2 ^ k' * (n * 2 ^ c) = x * n * (2 ^ k' * 2 ^ c) by grind]
    exact this
  have cv3 : ∀ x, D * 2 ^ (u + 2) ≤ x * 2 ^ d * n → D * 2 ^ a ≤ x * 2 ^ k' * (n * 2 ^ c) := by
    intro x hx
    rw [Nat.mul_right_comm x] at hx
    have := (pw_le (A := D) (C := x * n) (N := d) (Q := u + 2) (K' := k' + c) (K := a) (by omega)).1 hx
    rw [Nat.pow_add] at this
    rw [show x * 2 ^ k' * (n * 2 ^ c) = x * n * (2 ^ k' * 2 ^ c) by grind]
    exact this
  have cv4 : ∀ x, D * 2 ^ (u + 2) < x * 2 ^ d * n → D * 2 ^ a < x * 2 ^ k' * (n * 2 ^ c) := by
    intro x hx
    rw [Nat.mul_right_comm x] at hx
    have := (pw_lt (A := D) (C := x * n) (N := d) (Q := u + 2) (K' := k' + c) (K := a) (by omega)).1 hx
    rw [Nat.pow_add] at this
    rw [show x * 2 ^ k' * (n * 2 ^ c) = x * n * (2 ^ k' * 2 ^ c) by grind]
    exact this
  have hp := p2_pos d
  have e53 : (9007199254740992 : Nat) = 2 ^ 53 := by decide
  have e52 : (4503599627370496 : Nat) = 2 ^ 52 := by decide
  have hr53 : r ≤ 9007199254740992 := by
    have h1 : Q * 2 ^ u < 9007199254740992 * 2 ^ d := by
      have : Q * 2 ^ u < 2 ^ (L + 1) * 2 ^ u := Nat.mul_lt_mul_of_pos_right hL2 (p2_pos u)
      refine Nat.lt_of_lt_of_le this ?_
      rw [e53, ← Nat.pow_add, ← Nat.pow_add]
      exact Nat.pow_le_pow_right (by decide) (by omega)
    refine Nat.le_of_not_lt fun hlt => ?_
    have h2 : 2 * 9007199254740993 * 2 ^ d ≤ 2 * r * 2 ^ d := Nat.mul_le_mul_right _ (by omega)
    generalize Q * 2 ^ u = y at *
    generalize 2 * r * 2 ^ d = z at *
    omega
  have hlow : k' = 0 ∨ (4503599627370496 * 2 ^ d ≤ Q * 2 ^ u ∧ 2 ^ L * 2 ^ u = 2 ^ 52 * 2 ^ d) := by
    by_cases h0 : k' = 0
    · exact Or.inl h0
    · refine Or.inr ?_
      have e : 2 ^ L * 2 ^ u = 2 ^ 52 * 2 ^ d := by
        rw [← Nat.pow_add, ← Nat.pow_add]
        congr 1; omega
      refine ⟨?_, e⟩
      rw [e52, ← e]
      exact Nat.mul_le_mul_right _ hL1
  refine word_of (Nat.mul_pos hn (p2_pos c)) nn hk h hr53 ?_ ?_ (fun h0 => ⟨cv1 _ (ht.1 h0).1, cv3 _ (ht.1 h0).2⟩) (fun h0 => ⟨cv2 _ (ht.2 h0).1, cv4 _ (ht.2 h0).2⟩)
  · rcases hlow with h0 | ⟨h0, _⟩
    · exact Or.inl h0
    · refine Or.inr (Nat.le_of_not_lt fun hlt => ?_)
      have h2 : 2 * r * 2 ^ d ≤ 2 * 4503599627370495 * 2 ^ d := Nat.mul_le_mul_right _ (by omega)
      generalize Q * 2 ^ u = y at *
      generalize 2 * r * 2 ^ d = z at *
      omega
  · rcases hlow with h0 | ⟨_, h0⟩
    · exact Or.inl h0
    · refine Or.inr (cv1 _ ?_)
      have hD : 2 ^ L * n ≤ D := by
        rcases hx with hx | ⟨rfl, rfl⟩
        · obtain ⟨t, rfl⟩ : ∃ t, L = t + 1 := ⟨L - 1, by omega⟩
          rw [Nat.pow_succ'] at hL1 ⊢
          have := hU (2 ^ t)
          have h1 : ¬ (Q < 2 * 2 ^ t) := by omega
          rw [this.1] at h1
          omega
        · omega
      have h3 := Nat.mul_le_mul_right (2 ^ (u + 2)) hD
      have e4 : 2 ^ L * n * 2 ^ (u + 2) = 18014398509481984 * 2 ^ d * n := by
        rw [Nat.pow_add 2 u, show 2 ^ L * n * (2 ^ u * 2 ^ 2) = 2 ^ L * 2 ^ u * (n * 2 ^ 2) by grind, h0]
        have : (2 : Nat) ^ 52 = 4503599627370496 := by decide
        rw [this]
        grind
      rw [e4] at h3
      exact h3
end Go.Proofs.YtbgjhgohffkonaaGreatDoor

