/- Decimals of many digits: shifts to the left, and the table that tells how many digits come new. -/
import Derived.Test.YtbgjhgohffkonaaGreatDoorDecP
namespace Go.Proofs.YtbgjhgohffkonaaGreatDoor

/-- What digits tell, the first one highest. -/
def valD (d : Nat → Nat) : Nat → Nat
  | 0 => 0
  | n + 1 => valD d n * 10 + dg d n
theorem valD_lt {d : Nat → Nat} {n : Nat} (h : Dig d n) : valD d n < 10 ^ n := by
  induction n with
  | zero => simp [valD]
  | succ n ih =>
    have := ih (h.mono (Nat.le_succ _))
    have h1 := (h.dg (i := n) (Nat.lt_succ_self n)).1
    rw [valD, Nat.pow_succ]
    omega
theorem valD_ge {d : Nat → Nat} {n : Nat} (h0 : 49 ≤ d 0) : 10 ^ n ≤ valD d (n + 1) := by
  induction n with
  | zero => simp [valD, dg]; omega
  | succ n ih =>
    rw [valD, Nat.pow_succ]
    omega
def cheat (k : Nat) : Nat × List UInt8 := (Go.Pinned.cheatRows)[k]?.getD (0, [])
/-- Are the first digits of d (there are nd) below those of s, from place i on? -/
def pfxB (d : Nat → Nat) (nd : Nat) : Nat → List UInt8 → Bool
  | _, [] => false
  | i, c :: s => if nd ≤ i then true else if d i ≠ c.toNat then decide (d i < c.toNat) else pfxB d nd (i + 1) s
/-- What a row's bytes tell. -/
def valS : List UInt8 → Nat → Nat
  | [], a => a
  | c :: s, a => valS s (a * 10 + (c.toNat - 48))
def digS (s : List UInt8) : Bool := s.all fun c => 48 ≤ c && c ≤ 57
theorem valS_lo (s : List UInt8) : ∀ a, a * 10 ^ s.length ≤ valS s a := by
  induction s with
  | nil => intro a; simp [valS]
  | cons c s ih =>
    intro a
    have := ih (a * 10 + (c.toNat - 48))
    rw [valS, List.length_cons, Nat.pow_succ]
    have e : a * (10 ^ s.length * 10) = a * 10 * 10 ^ s.length := by rw [Nat.mul_assoc, Nat.mul_comm 10]
    rw [e]
    exact Nat.le_trans (Nat.mul_le_mul_right _ (Nat.le_add_right _ _)) this
theorem valS_hi (s : List UInt8) (hs : digS s = true) : ∀ a, valS s a < (a + 1) * 10 ^ s.length := by
  induction s with
  | nil => intro a; simp [valS]
  | cons c s ih =>
    intro a
    simp only [digS, List.all_cons, Bool.and_eq_true, decide_eq_true_eq] at hs
    obtain ⟨⟨h1, h2⟩, h3⟩ := hs
    have h2' : c.toNat ≤ 57 := UInt8.le_iff_toNat_le.1 h2
    have := ih h3 (a * 10 + (c.toNat - 48))
    rw [valS, List.length_cons, Nat.pow_succ]
    have e : (a + 1) * (10 ^ s.length * 10) = (a + 1) * 10 * 10 ^ s.length := by rw [Nat.mul_assoc, Nat.mul_comm 10]
    rw [e]
    exact Nat.lt_of_lt_of_le this (Nat.mul_le_mul_right _ (by omega))
theorem valD_up (d : Nat → Nat) (i : Nat) : ∀ m, valD d i * 10 ^ m ≤ valD d (i + m) := by
  intro m
  induction m with
  | zero => simp
  | succ m ih =>
    rw [← Nat.add_assoc, valD, Nat.pow_succ, ← Nat.mul_assoc]
    omega
theorem valD_hi {d : Nat → Nat} {i : Nat} : ∀ m, Dig d (i + m) → valD d (i + m) < (valD d i + 1) * 10 ^ m := by
  intro m
  induction m with
  | zero => intro _; simp
  | succ m ih =>
    intro h
    have h0 := ih (h.mono (by omega))
    have h1 := (h.dg (i := i + m) (by omega)).1
    rw [← Nat.add_assoc, valD, Nat.pow_succ, ← Nat.mul_assoc]
    omega
def lastB : List UInt8 → Bool
  | [] => true
  | [c] => decide (49 ≤ c)
  | _ :: s => lastB s
theorem lastB_tail {c : UInt8} {s : List UInt8} (h : lastB (c :: s) = true) : lastB s = true := by
  cases s with
  | nil => rfl
  | cons _ _ => exact h
theorem valS_gt : ∀ (s : List UInt8) (a : Nat), s ≠ [] → lastB s = true → a * 10 ^ s.length < valS s a
  | [], _, h, _ => absurd rfl h
  | [c], a, _, h => by
    have h0 : 49 ≤ c := by simpa [lastB] using h
    have h1 : 49 ≤ c.toNat := UInt8.le_iff_toNat_le.1 h0
    simp only [valS, List.length_cons, List.length_nil]
    omega
  | c :: c' :: s, a, _, h => by
    have ih := valS_gt (c' :: s) (a * 10 + (c.toNat - 48)) (by simp) h
    rw [valS, List.length_cons, Nat.pow_succ]
    have e : a * (10 ^ (c' :: s).length * 10) = a * 10 * 10 ^ (c' :: s).length := by rw [Nat.mul_assoc, Nat.mul_comm 10]
    rw [e]
    exact Nat.lt_of_le_of_lt (Nat.mul_le_mul_right _ (Nat.le_add_right _ _)) ih
/-- Below in the order of the rows: below as parts of one; and the other way round. -/
theorem pfx_spec {d : Nat → Nat} {nd : Nat} (hd : Dig d nd) : ∀ (s : List UInt8) (i : Nat), digS s = true → lastB s = true → i ≤ nd →
    (pfxB d nd i s = true → valD d nd * 10 ^ (i + s.length) < valS s (valD d i) * 10 ^ nd) ∧
    (pfxB d nd i s = false → valS s (valD d i) * 10 ^ nd ≤ valD d nd * 10 ^ (i + s.length))
  | [], i, _, _, hi => by
    refine ⟨fun h => (by cases h), fun _ => ?_⟩
    obtain ⟨m, rfl⟩ : ∃ m, nd = i + m := ⟨nd - i, by omega⟩
    rw [valS, List.length_nil, Nat.add_zero, Nat.pow_add]
    have := valD_up d i m
    calc valD d i * (10 ^ i * 10 ^ m) = (valD d i * 10 ^ m) * 10 ^ i := by rw [Nat.mul_comm (10 ^ i), Nat.mul_assoc]
      _ ≤ valD d (i + m) * 10 ^ i := Nat.mul_le_mul_right _ this
  | c :: s, i, hs, hl, hi => by
    have hs' := hs
    simp only [digS, List.all_cons, Bool.and_eq_true, decide_eq_true_eq] at hs'
    obtain ⟨⟨h1, h2⟩, h3⟩ := hs'
    have hc1 : 48 ≤ c.toNat := UInt8.le_iff_toNat_le.1 h1
    have hc2 : c.toNat ≤ 57 := UInt8.le_iff_toNat_le.1 h2
    have hp : ∀ m, 0 < 10 ^ m := fun m => Nat.pow_pos (by decide)
    by_cases hn : nd ≤ i
    · obtain rfl : i = nd := by omega
      have hlo := valS_gt (c :: s) (valD d i) (by simp) hl
      refine ⟨fun _ => ?_, fun h => ?_⟩
      · rw [Nat.pow_add, Nat.mul_comm (10 ^ i), ← Nat.mul_assoc]
        exact Nat.mul_lt_mul_of_pos_right hlo (hp _)
      · simp [pfxB] at h
    · have hdi := hd i (by omega)
      obtain ⟨m, hm⟩ : ∃ m, nd = i + 1 + m := ⟨nd - (i + 1), by omega⟩
      have hdgi : dg d i = d i - 48 := rfl
      have hv1 : valD d (i + 1) = valD d i * 10 + (d i - 48) := rfl
      have e1 : i + (c :: s).length = i + 1 + s.length := by simp; omega
      by_cases he : d i = c.toNat
      · have ih := pfx_spec hd s (i + 1) h3 (lastB_tail hl) (by omega)
        have e2 : pfxB d nd i (c :: s) = pfxB d nd (i + 1) s := by simp [pfxB, hn, he]
        have e3 : valS (c :: s) (valD d i) = valS s (valD d (i + 1)) := by rw [valS, hv1, he]
        rw [e1, e2, e3]
        exact ih
      · have e2 : pfxB d nd i (c :: s) = decide (d i < c.toNat) := by simp [pfxB, hn, he]
        rw [e2, e1]
        have hup := valD_up d (i + 1) m
        have hhi := valD_hi (d := d) (i := i + 1) m (by rw [← hm]; exact hd)
        have hslo := valS_lo s (valD d i * 10 + (c.toNat - 48))
        have hshi := valS_hi s h3 (valD d i * 10 + (c.toNat - 48))
        have e3 : valS (c :: s) (valD d i) = valS s (valD d i * 10 + (c.toNat - 48)) := rfl
        rw [e3]
        have e4 : 10 ^ nd = 10 ^ (i + 1) * 10 ^ m := by rw [hm, Nat.pow_add]
        have e5 : 10 ^ (i + 1 + s.length) = 10 ^ (i + 1) * 10 ^ s.length := Nat.pow_add _ _ _
        rw [← hm] at hup hhi
        refine ⟨fun h => ?_, fun h => ?_⟩
        · have hlt : d i < c.toNat := by simpa using h
          have h6 : valD d (i + 1) + 1 ≤ valD d i * 10 + (c.toNat - 48) := by omega
          rw [e4, e5]
          calc valD d nd * (10 ^ (i + 1) * 10 ^ s.length) < (valD d (i + 1) + 1) * 10 ^ m * (10 ^ (i + 1) * 10 ^ s.length) := Nat.mul_lt_mul_of_pos_right hhi (Nat.mul_pos (hp _) (hp _))
            _ ≤ (valD d i * 10 + (c.toNat - 48)) * 10 ^ m * (10 ^ (i + 1) * 10 ^ s.length) := Nat.mul_le_mul_right _ (Nat.mul_le_mul_right _ h6)
            _ = (valD d i * 10 + (c.toNat - 48)) * 10 ^ s.length * (10 ^ (i + 1) * 10 ^ m) := by ac_rfl
            _ ≤ _ := Nat.mul_le_mul_right _ hslo
        · have hlt : c.toNat < d i := by
            have : ¬ d i < c.toNat := by simpa using h
            omega
          have h6 : valD d i * 10 + (c.toNat - 48) + 1 ≤ valD d (i + 1) := by omega
          rw [e4, e5]
          calc valS s (valD d i * 10 + (c.toNat - 48)) * (10 ^ (i + 1) * 10 ^ m) ≤ (valD d i * 10 + (c.toNat - 48) + 1) * 10 ^ s.length * (10 ^ (i + 1) * 10 ^ m) := Nat.mul_le_mul_right _ (Nat.le_of_lt hshi)
            _ ≤ valD d (i + 1) * 10 ^ s.length * (10 ^ (i + 1) * 10 ^ m) := Nat.mul_le_mul_right _ (Nat.mul_le_mul_right _ h6)
            _ = valD d (i + 1) * 10 ^ m * (10 ^ (i + 1) * 10 ^ s.length) := by ac_rfl
            _ ≤ _ := Nat.mul_le_mul_right _ hup

/-- How many digits come new. -/
def dlt (k : Nat) (D : Dc) : Nat := if pfxB D.d D.nd 0 (cheat k).2 = true then (cheat k).1 - 1 else (cheat k).1
def cheatB (k : Nat) : Bool :=
  digS (cheat k).2 && lastB (cheat k).2 && decide (1 ≤ (cheat k).1) && decide (valS (cheat k).2 0 = 5 ^ k) && decide ((cheat k).2.length + (cheat k).1 = k + 1) && decide (2 ^ k < 10 ^ (cheat k).1) && decide (10 ^ ((cheat k).1 - 1) ≤ 2 ^ k)
theorem cheat_all : ∀ k : Fin 60, cheatB (k.val + 1) = true := by decide +kernel
theorem cheat_ok {k : Nat} (h1 : 1 ≤ k) (h2 : k ≤ 60) : digS (cheat k).2 = true ∧ lastB (cheat k).2 = true ∧ 1 ≤ (cheat k).1 ∧ valS (cheat k).2 0 = 5 ^ k ∧ (cheat k).2.length + (cheat k).1 = k + 1 ∧ 2 ^ k < 10 ^ (cheat k).1 ∧ 10 ^ ((cheat k).1 - 1) ≤ 2 ^ k := by
  have := cheat_all ⟨k - 1, by omega⟩
  have e : (k - 1) + 1 = k := by omega
  simp only [e, cheatB, Bool.and_eq_true, decide_eq_true_eq] at this
  obtain ⟨⟨⟨⟨⟨⟨a, b⟩, c⟩, d⟩, e⟩, f⟩, g⟩ := this
  exact ⟨a, b, c, d, e, f, g⟩
/-- What stands ahead of the point behind the shift has just so many digits. -/
theorem dlt_just {D : Dc} (h : OkD D) (hp : 0 < D.nd) {k : Nat} (h1 : 1 ≤ k) (h2 : k ≤ 60) :
    valD D.d D.nd * 2 ^ k < 10 ^ (D.nd + dlt k D) ∧ 10 ^ (D.nd + dlt k D) ≤ valD D.d D.nd * 2 ^ k * 10 := by
  obtain ⟨c1, c0, c2, c3, c4, c5, c6⟩ := cheat_ok h1 h2
  have hlt := valD_lt h.dig
  obtain ⟨m, hm⟩ : ∃ m, D.nd = m + 1 := ⟨D.nd - 1, by omega⟩
  have hge : 10 ^ m ≤ valD D.d D.nd := by rw [hm]; exact valD_ge (h.lead hp)
  obtain ⟨p1, p2⟩ := pfx_spec h.dig (cheat k).2 0 c1 c0 (Nat.zero_le _)
  simp only [Nat.zero_add, valD] at p1 p2
  rw [c3] at p1 p2
  obtain ⟨L, hL⟩ : ∃ L, (cheat k).2.length = L := ⟨_, rfl⟩
  obtain ⟨e, he⟩ : ∃ e, (cheat k).1 = e + 1 := ⟨(cheat k).1 - 1, by omega⟩
  rw [hL] at p1 p2 c4
  have hk10 : (10 : Nat) ^ k = 5 ^ k * 2 ^ k := by rw [← Nat.mul_pow]
  have hkL : 10 ^ k = 10 ^ L * 10 ^ e := by rw [← Nat.pow_add]; congr 1; omega
  have hp10 : ∀ m, 0 < 10 ^ m := fun m => Nat.pow_pos (by decide)
  unfold dlt
  cases hb : pfxB D.d D.nd 0 (cheat k).2 with
  | true =>
    rw [if_pos rfl, he, Nat.add_sub_cancel, Nat.pow_add]
    have p3 : valD D.d D.nd * 10 ^ L < 5 ^ k * 10 ^ D.nd := p1 hb
    constructor
    · refine Nat.lt_of_mul_lt_mul_right (a := 10 ^ L) ?_
      calc valD D.d D.nd * 2 ^ k * 10 ^ L = valD D.d D.nd * 10 ^ L * 2 ^ k := by ac_rfl
        _ < 5 ^ k * 10 ^ D.nd * 2 ^ k := Nat.mul_lt_mul_of_pos_right p3 (two_pow_pos k)
        _ = 5 ^ k * 2 ^ k * 10 ^ D.nd := by ac_rfl
        _ = 10 ^ D.nd * 10 ^ e * 10 ^ L := by rw [← hk10, hkL]; ac_rfl
    · have c6' : 10 ^ e ≤ 2 ^ k := by rw [he] at c6; simpa using c6
      calc 10 ^ D.nd * 10 ^ e = 10 ^ m * 10 * 10 ^ e := by rw [hm, Nat.pow_succ]
        _ ≤ valD D.d D.nd * 10 * 2 ^ k := Nat.mul_le_mul (Nat.mul_le_mul_right _ hge) c6'
        _ = _ := by ac_rfl
  | false =>
    rw [if_neg (by decide), he, Nat.pow_add]
    have p3 := p2 hb
    constructor
    · rw [he] at c5
      exact Nat.mul_lt_mul_of_lt_of_lt hlt c5
    · refine Nat.le_of_mul_le_mul_right (a := 10 ^ D.nd * 10 ^ (e + 1)) (c := 10 ^ L) ?_ (hp10 L)
      calc 10 ^ D.nd * 10 ^ (e + 1) * 10 ^ L = 10 ^ L * 10 ^ e * 10 ^ D.nd * 10 := by rw [Nat.pow_succ]; ac_rfl
        _ = 5 ^ k * 10 ^ D.nd * 2 ^ k * 10 := by rw [← hkL, hk10]; ac_rfl
        _ ≤ valD D.d D.nd * 10 ^ L * 2 ^ k * 10 := Nat.mul_le_mul_right _ (Nat.mul_le_mul_right _ p3)
        _ = _ := by ac_rfl
end Go.Proofs.YtbgjhgohffkonaaGreatDoor

