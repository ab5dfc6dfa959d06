/- LexNumbers: digits, and what the lexer makes of them. -/
import Derived.Test.YtnhdedoobagbbaaGreatDoorFinP
import Derived.Test.YtnhdedoobagbbaaGreatDoorShownA
import Derived.Lib.ItoaLen
import Derived.Lib.ItoaMem
import Derived.Lib.ParseIntB
namespace Go.Proofs.YtnhdedoobagbbaaGreatDoor
open Go.Lib Ieee

theorem read_num {b : Nat} (h : b < 9218868437227405312) : ∃ m i, F64.read b = .number false m i ∧ m ≤ 9007199254740991 ∧ i ≤ 971 := by
  unfold Format.read
  have e2 : F64.leastPlace = -1074 := rfl
  rw [f64_sign, f64_binade, f64_inf, e2]
  have e1 : (b / 9223372036854775808 % 2 == 1) = false := by simp; omega
  have e3 : b % 9223372036854775808 = b := Nat.mod_eq_of_lt (by omega)
  simp only [e1, e3]
  by_cases hlt : b < 4503599627370496
  · rw [if_pos hlt]
    exact ⟨b, -1074, rfl, by omega, by decide⟩
  · rw [if_neg hlt, if_pos h]
    exact ⟨_, _, rfl, by omega, by omega⟩
theorem read_max : F64.read 9218868437227405311 = .number false 9007199254740991 971 := by decide +kernel
theorem order_max {m M k : Nat} (h : m ≤ M) : (some (compare ((m <<< 0 : Nat) : Int) ((M <<< k : Nat) : Int)) == some Ordering.gt) = false := by
  have h2 : ((m <<< 0 : Nat) : Int) ≤ ((M <<< k : Nat) : Int) := by
    rw [Nat.shiftLeft_eq, Nat.shiftLeft_eq, Nat.pow_zero, Nat.mul_one]
    have : M * 1 ≤ M * 2 ^ k := Nat.mul_le_mul_left _ (Nat.pow_pos (by decide))
    omega
  generalize ((m <<< 0 : Nat) : Int) = x at *
  generalize ((M <<< k : Nat) : Int) = y at *
  have : compare x y ≠ .gt := by
    show compareOfLessAndEq x y ≠ .gt
    unfold compareOfLessAndEq
    split
    · intro e; cases e
    · split
      · intro e; cases e
      · omega
  simp [this]
theorem infB_no {b : Nat} (h : b < 9218868437227405312) : infB b = false := by
  have ha : absB b = b := by
    unfold absB
    have := u64_andNot_nat b 9223372036854775808 (by omega) (by decide)
    rw [show ((9223372036854775808 : Nat) : Int) = 9223372036854775808 from rfl] at this
    rw [this, Int.toNat_natCast]
    have e : b &&& (2 ^ 63 - 1) = b % 2 ^ 63 := Nat.and_two_pow_sub_one_eq_mod b 63
    rw [show (18446744073709551615 - 9223372036854775808 : Nat) = 2 ^ 63 - 1 by decide, e]
    exact Nat.mod_eq_of_lt (by omega)
  unfold infB
  rw [ha]
  obtain ⟨m, i, hr, hm, hi⟩ := read_num h
  show (F64.order b 9218868437227405311 == some .gt) = false
  unfold Format.order
  rw [hr, read_max]
  simp only [Datum.order]
  rw [Int.min_eq_left hi, Int.sub_self]
  exact order_max hm
theorem nd_nat {d : Nat} (h : d < 10) : (UInt8.ofNat (48 + d)).toNat = 48 + d := by
  rw [UInt8.toNat_ofNat']
  omega
theorem nd_digit {d : Nat} (h : d < 10) : digitB (UInt8.ofNat (48 + d)) = true := by
  rw [digit_spec, nd_nat h]
  unfold digitN
  simp
  omega
theorem dec_all : ∀ (u : Nat), ∀ c, c ∈ decDigits u → digitB c = true := by
  intro u
  induction u using Nat.strongRecOn with
  | ind u ih =>
    intro c hc
    rw [decDigits] at hc
    split at hc
    · rename_i h
      rw [List.mem_singleton.1 hc]
      exact nd_digit h
    · rcases List.mem_append.1 hc with h | h
      · exact ih (u / 10) (by omega) c h
      · rw [List.mem_singleton.1 h]
        exact nd_digit (by omega)
theorem dec_lead : ∀ (u : Nat), 0 < u → ∃ c r, decDigits u = c :: r ∧ c ≠ 48 := by
  intro u
  induction u using Nat.strongRecOn with
  | ind u ih =>
    intro hu
    rw [decDigits]
    split
    · rename_i h
      refine ⟨_, [], rfl, fun e => ?_⟩
      have := congrArg UInt8.toNat e
      rw [nd_nat h] at this
      have : (48 : UInt8).toNat = 48 := rfl
      omega
    · obtain ⟨c, r, h1, h2⟩ := ih (u / 10) (by omega) (by omega)
      exact ⟨c, r ++ _, by rw [h1]; rfl, h2⟩
theorem dec_pos (u : Nat) : 0 < (decDigits u).length := by
  rw [decDigits]
  split <;> simp
theorem dec_len {u : Nat} : ∀ (k : Nat), u < 10 ^ (k + 1) → (decDigits u).length ≤ k + 1 := by
  intro k
  induction k generalizing u with
  | zero =>
    intro h
    rw [decDigits, dif_pos (by omega)]
    simp
  | succ k ih =>
    intro h
    rw [decDigits]
    split
    · simp
    · have := ih (u := u / 10) (by rw [Nat.pow_succ] at h; omega)
      simp
      omega
theorem uintM_snoc (M : Nat) (d : Nat) (hd : d < 10) : ∀ (l : List UInt8) (acc u : Nat), parseUintM M acc l = .ok u → u < 1844674407370955162 → u * 10 + d ≤ M → parseUintM M acc (l ++ [UInt8.ofNat (48 + d)]) = .ok (u * 10 + d)
  | [], acc, u, h, h1, h2 => by
    simp only [parseUintM] at h
    injection h with h
    subst h
    rw [List.nil_append, parseUintM, nd_nat hd, if_pos (by omega), if_neg (by omega), if_neg (by omega), parseUintM]
    congr 1
    omega
  | c :: r, acc, u, h, h1, h2 => by
    simp only [parseUintM] at h
    rw [List.cons_append, parseUintM]
    split at h
    · rename_i hc
      rw [if_pos hc]
      split at h
      · cases h
      · rename_i ha
        rw [if_neg ha]
        split at h
        · cases h
        · rename_i hb
          rw [if_neg hb]
          exact uintM_snoc M d hd r _ u h h1 h2
    · cases h
theorem uintM_dec (M : Nat) (hM : M ≤ 18446744073709551615) : ∀ (u : Nat), u ≤ M → parseUintM M 0 (decDigits u) = .ok u := by
  intro u
  induction u using Nat.strongRecOn with
  | ind u ih =>
    intro hu
    rw [decDigits]
    split
    · rename_i h
      rw [parseUintM, nd_nat h, if_pos (by omega), if_neg (by omega), if_neg (by omega), parseUintM]
      congr 1
      omega
    · rename_i h
      have h1 := uintM_snoc M (u % 10) (by omega) (decDigits (u / 10)) 0 (u / 10) (ih (u / 10) (by omega) (by omega)) (by omega) (by omega)
      rw [h1]
      congr 1
      omega
theorem parse_dec {u : Nat} (hu : u ≤ 9223372036854775807) : parseIntB 64 (decDigits u) = .ok u := by
  have h2 := uintM_dec 18446744073709551615 (Nat.le_refl _) u (by omega)
  have hall := dec_all u
  have hp := dec_pos u
  cases h1 : decDigits u with
  | nil => rw [h1] at hp; simp at hp
  | cons c r =>
    have hc := digit_le (hall c (by rw [h1]; simp))
    have hc1 : 48 ≤ c.toNat := UInt8.le_iff_toNat_le.1 hc.1
    rw [h1] at h2
    simp only [parseIntB]
    rw [if_neg (by omega)]
    unfold parseUintB
    rw [if_neg (by simp), show (2 ^ 64 - 1 : Nat) = 18446744073709551615 from rfl, h2]
    simp only
    rw [if_neg (by intro hh; have := hh.2; have e : (2 ^ (64 - 1) : Nat) = 9223372036854775808 := rfl; omega), if_neg (by omega), if_neg (by omega)]
theorem bt_list {l : List UInt8} (i : Nat) : bt ⟨l.toArray⟩ i = l[i]? := rfl
theorem size_list (l : List UInt8) : (⟨l.toArray⟩ : ByteArray).size = l.length := rfl
theorem run_list {l : List UInt8} (h : ∀ c, c ∈ l → digitB c = true) : runTo digitB ⟨l.toArray⟩ 0 = l.length := by
  have := run_is (pr := digitB) (s := ⟨l.toArray⟩) (p := 0) (k := l.length) (by rw [size_list]; omega) (fun i hi => by
    rw [Nat.zero_add, bt_list]
    exact ⟨l[i], List.getElem?_eq_getElem hi, h _ (List.getElem_mem hi)⟩) (fun c hc => by
    rw [Nat.zero_add, bt_list, List.getElem?_eq_none (Nat.le_refl _)] at hc
    cases hc)
  omega
theorem lex_one {pf : ByteArray → Nat} {s : ByteArray} {c : UInt8} (h4 : s.size ≤ 4096) (hb : bt s 0 = some c) (hd : digitB c = true) : lexP pf s = lexTok pf s s.size [] (numP pf s 0) := by
  unfold lexP
  rw [if_neg (by omega)]
  have h1 : blankB c = false := by
    have := all256 (p := fun c => !(digitB c) || !(blankB c)) (by decide +kernel) c
    rw [hd] at this
    simpa using this
  have h2 : (c == 35) = false := by
    have := all256 (p := fun c => !(digitB c) || !(c == 35)) (by decide +kernel) c
    rw [hd] at this
    simpa using this
  have h3 : letterB c = false := by
    have := all256 (p := fun c => !(digitB c) || !(letterB c)) (by decide +kernel) c
    rw [hd] at this
    simpa using this
  exact lexFrom_num hb h1 h2 h3 hd
theorem ext_all (s : ByteArray) : s.extract 0 s.size = s := by apply ByteArray.ext; simp
theorem dec_head (u : Nat) : ∃ c, bt ⟨(decDigits u).toArray⟩ 0 = some c ∧ digitB c = true ∧ (1 < (decDigits u).length → c ≠ 48) := by
  have hp := dec_pos u
  have hall := dec_all u
  cases h1 : decDigits u with
  | nil => rw [h1] at hp; simp at hp
  | cons c r =>
    refine ⟨c, rfl, hall c (by rw [h1]; simp), fun hl => ?_⟩
    rcases Nat.eq_zero_or_pos u with h0 | h0
    · subst h0
      have e : decDigits 0 = [48] := by rw [decDigits]; rfl
      rw [e] at h1
      cases h1
      simp at hl
    · obtain ⟨c', r', h2, h3⟩ := dec_lead u h0
      rw [h1] at h2
      cases h2
      exact h3
/-- Digits alone. -/
theorem lex_int {pf : ByteArray → Nat} {u : Nat} (hu : u ≤ 9223372036854775807) :
    lexP pf ⟨(decDigits u).toArray⟩ = .ok [⟨2, ⟨(decDigits u).toArray⟩, u, 0, 0⟩, ⟨0, ⟨#[]⟩, 0, 0, (decDigits u).length⟩] := by
  obtain ⟨c, hb, hd, hl⟩ := dec_head u
  have hlen := dec_len (u := u) 18 (by omega)
  have hp := dec_pos u
  have hrun := run_list (dec_all u)
  have hpar := parse_dec hu
  obtain ⟨s, hs⟩ : ∃ s, (⟨(decDigits u).toArray⟩ : ByteArray) = s := ⟨_, rfl⟩
  have hsz : s.size = (decDigits u).length := by rw [← hs]; rfl
  have hdt : s.data.toList = decDigits u := by rw [← hs]
  rw [hs] at hb hrun ⊢
  rw [lex_one (by omega) hb hd]
  have hnum : numP pf s 0 = .ok (⟨2, s, u, 0, 0⟩, s.size) := by
    unfold numP
    rw [hrun, ← hsz, hb]
    rw [if_neg (by
      intro h
      simp only [Nat.sub_zero, Bool.and_eq_true, decide_eq_true_eq, beq_iff_eq, Option.some.injEq] at h
      exact hl (by omega) h.2)]
    rw [if_neg (by
      intro h
      have := dotB_lt h
      omega)]
    rw [ext_all, hdt, hpar]
  rw [hnum]
  show lexFrom pf s s.size s.size ([] ++ [_]) = _
  obtain ⟨n, hn⟩ : ∃ n, s.size = n + 1 := ⟨s.size - 1, by omega⟩
  rw [hn, lexFrom_end (by omega), ← hn, hsz]
  rfl
/-- A nought ahead of digits. -/
theorem lex_nought {pf : ByteArray → Nat} {u : Nat} (hu : u ≤ 9223372036854775807) : lexP pf ⟨(48 :: decDigits u).toArray⟩ = .error (0, 4) := by
  have hlen := dec_len (u := u) 18 (by omega)
  have hp := dec_pos u
  have hrun := run_list (l := 48 :: decDigits u) (by
    intro c hc
    rcases List.mem_cons.1 hc with rfl | h
    · decide
    · exact dec_all u c h)
  have hb : bt ⟨(48 :: decDigits u).toArray⟩ 0 = some 48 := rfl
  have hsz : (⟨(48 :: decDigits u).toArray⟩ : ByteArray).size = (decDigits u).length + 1 := rfl
  rw [lex_one (by omega) hb (by decide)]
  have hnum : numP pf ⟨(48 :: decDigits u).toArray⟩ 0 = .error (0, 4) := by
    unfold numP
    rw [hrun, hb, if_pos]
    simp
    omega
  rw [hnum]
  rfl
theorem rf_before {t : ByteArray} {p q : Nat} (h : Shp t p q) (hp : p ≤ 19) : ∀ i, i ≤ p → (rfAt t i).ndM = (rfAt t i).nd := by
  intro i
  induction i with
  | zero => intro _; rfl
  | succ i ih =>
    intro hi
    have ok := rfAt_ok h i (by have := h.lt; omega)
    have hn := ok.nd_le
    have ihh := ih (by omega)
    obtain ⟨c, hc, h1, h2⟩ := h.pre i (by omega)
    have hne : c ≠ 46 := by rintro rfl; exact absurd h1 (by decide)
    have e : rfAt t (i + 1) = rfStep (rfAt t i) c := by rw [rfAt, hc]; rfl
    rw [e]
    unfold rfStep
    rw [if_neg hne]
    split
    · exact ihh
    · rw [if_pos (by omega)]
      show (rfAt t i).ndM + 1 = (rfAt t i).nd + 1
      omega
theorem rf_after {t : ByteArray} {p q : Nat} (h : Shp t p q) (hp : p ≤ 19) : ∀ k, p + 1 + k ≤ q → (rfAt t (p + 1 + k)).dp ≤ ((rfAt t (p + 1 + k)).ndM : Nat) := by
  intro k
  induction k with
  | zero =>
    intro _
    have e : rfAt t (p + 1 + 0) = { rfAt t p with dot := true, dp := (rfAt t p).nd } := by
      rw [Nat.add_zero, rfAt, h.dot]
      show rfStep (rfAt t p) 46 = _
      unfold rfStep
      rw [if_pos rfl]
    rw [e]
    have := rf_before h hp p (Nat.le_refl _)
    show ((rfAt t p).nd : Int) ≤ ((rfAt t p).ndM : Nat)
    omega
  | succ k ih =>
    intro hk
    have ihh := ih (by omega)
    obtain ⟨c, hc, h1, h2⟩ := h.post (p + 1 + k) (by omega) (by omega)
    have hne : c ≠ 46 := by rintro rfl; exact absurd h1 (by decide)
    have e : rfAt t (p + 1 + (k + 1)) = rfStep (rfAt t (p + 1 + k)) c := by
      rw [show p + 1 + (k + 1) = p + 1 + k + 1 by omega, rfAt, hc]; rfl
    rw [e]
    generalize rfAt t (p + 1 + k) = S at *
    unfold rfStep
    rw [if_neg hne]
    split
    · show S.dp - 1 ≤ (S.ndM : Int)
      omega
    · split
      · show S.dp ≤ ((S.ndM + 1 : Nat) : Int)
        omega
      · exact ihh
theorem ds_after {t : ByteArray} {p q : Nat} (h : Shp t p q) : ∀ k, p + 1 + k ≤ q → (dsAt t (p + 1 + k)).dp ≤ (p : Int) := by
  intro k
  induction k with
  | zero =>
    intro _
    have ok := dsAt_ok h p (by have := h.lt; omega)
    have := ok.nd_le
    have e : dsAt t (p + 1 + 0) = { dsAt t p with dp := (dsAt t p).nd } := by
      rw [Nat.add_zero, dsAt, h.dot]
      show dsStep (dsAt t p) 46 = _
      unfold dsStep
      rw [if_pos rfl]
    rw [e]
    show ((dsAt t p).nd : Int) ≤ (p : Int)
    omega
  | succ k ih =>
    intro hk
    have ihh := ih (by omega)
    obtain ⟨c, hc, h1, h2⟩ := h.post (p + 1 + k) (by omega) (by omega)
    have hne : c ≠ 46 := by rintro rfl; exact absurd h1 (by decide)
    have e : dsAt t (p + 1 + (k + 1)) = dsStep (dsAt t (p + 1 + k)) c := by
      rw [show p + 1 + (k + 1) = p + 1 + k + 1 by omega, dsAt, hc]; rfl
    rw [e]
    generalize dsAt t (p + 1 + k) = S at *
    unfold dsStep
    rw [if_neg hne]
    split
    · show S.dp - 1 ≤ (p : Int)
      omega
    · exact ihh
/-- Few digits ahead of the point, and no exponent: no infinity. -/
theorem pfA_lt {t : ByteArray} (hS : Shp t (pP t) (pQ t)) (hq : pQ t = t.size) (hp : pP t ≤ 19) : pfA t < 9218868437227405312 := by
  have hR : pR t = t.size := by unfold pR; rw [if_neg (by omega), hq]
  have hSs : pS t = 0 := by unfold pS; rw [if_neg (by omega)]
  have ok := rfAt_ok hS _ (Nat.le_refl _)
  have hm := m_small ok.m_lt ok.m_le
  have hT : Tl t (pQ t) (pR t) (pS t) := Or.inl ⟨hq, by rw [hR, hq], hSs⟩
  have hD := dsP_ok hS hT
  obtain ⟨k, hk⟩ : ∃ k, pQ t = pP t + 1 + k := ⟨pQ t - (pP t + 1), by have := hS.lt; omega⟩
  have h1 := rf_after hS hp k (by omega)
  have h2 := ds_after hS k (by omega)
  rw [← hk] at h1 h2
  unfold pfA
  refine pfW_lt (by omega) ?_ hD.1 ?_
  · unfold rfX
    rw [hSs]
    split
    · exact Int.le_refl _
    · omega
  · show (dsAt t (pQ t)).dp + (rfE t (pR t) (t.size - pR t) : Nat) * pS t ≤ 30
    rw [hSs]
    omega
/-- Digits, a point, digits. -/
theorem lex_float {u v : Nat} (hu : u ≤ 9223372036854775807) (hv : v ≤ 9223372036854775807) : ∃ f, lexP pfA ⟨(decDigits u ++ 46 :: decDigits v).toArray⟩ =
    .ok [⟨3, ⟨(decDigits u ++ 46 :: decDigits v).toArray⟩, 0, f, 0⟩, ⟨0, ⟨#[]⟩, 0, 0, (decDigits u ++ 46 :: decDigits v).length⟩] := by
  have hlu := dec_len (u := u) 18 (by omega)
  have hlv := dec_len (u := v) 18 (by omega)
  have hpu := dec_pos u
  have hpv := dec_pos v
  have hau := dec_all u
  have hav := dec_all v
  obtain ⟨c0, hb0, hd0, hl0⟩ := dec_head u
  obtain ⟨s, hs⟩ : ∃ s, (⟨(decDigits u ++ 46 :: decDigits v).toArray⟩ : ByteArray) = s := ⟨_, rfl⟩
  have hbt : ∀ i, bt s i = (decDigits u ++ 46 :: decDigits v)[i]? := fun i => by rw [← hs]; rfl
  have hsz : s.size = (decDigits u).length + ((decDigits v).length + 1) := by
    rw [← hs]
    show (decDigits u ++ 46 :: decDigits v).length = _
    simp
  have hlen : (decDigits u ++ 46 :: decDigits v).length = s.size := by rw [hsz]; simp
  rw [hlen, hs]
  have hb : bt s 0 = some c0 := by
    rw [hbt, List.getElem?_append_left hpu]
    exact hb0
  generalize hlU : decDigits u = U at *
  generalize hlV : decDigits v = V at *
  have r1 : runTo digitB s 0 = U.length := by
    have := run_is (pr := digitB) (s := s) (p := 0) (k := U.length) (by omega) (fun i hi => by
      rw [Nat.zero_add, hbt, List.getElem?_append_left hi]
      exact ⟨U[i], List.getElem?_eq_getElem hi, hau _ (List.getElem_mem hi)⟩) (fun c hc => by
      rw [Nat.zero_add, hbt, List.getElem?_append_right (Nat.le_refl _), Nat.sub_self] at hc
      cases hc
      rfl)
    omega
  have hbd : bt s U.length = some 46 := by
    rw [hbt, List.getElem?_append_right (Nat.le_refl _), Nat.sub_self]
    rfl
  have hbv : ∀ i, bt s (U.length + 1 + i) = V[i]? := fun i => by
    rw [hbt, List.getElem?_append_right (by omega), show U.length + 1 + i - U.length = i + 1 by omega]
    rfl
  have hdot : dotB s U.length = true := by
    unfold dotB
    have := hbv 0
    rw [Nat.add_zero, List.getElem?_eq_getElem hpv] at this
    rw [hbd, this]
    simpa using hav _ (List.getElem_mem hpv)
  have r2 : runTo digitB s (U.length + 1) = s.size := by
    have := run_is (pr := digitB) (s := s) (p := U.length + 1) (k := V.length) (by omega) (fun i hi => by
      rw [hbv]
      exact ⟨V[i], List.getElem?_eq_getElem hi, hav _ (List.getElem_mem hi)⟩) (fun c hc => by
      have := bt_lt hc
      omega)
    omega
  have r3 : expEnd s s.size = s.size := by
    refine expEnd_no ?_
    unfold expB
    rw [bt_none (Nat.le_refl _)]
  have hat : atDig s 0 = true := by unfold atDig; rw [hb]; exact hd0
  have hDA := shaped hat (by rw [r1]; exact hdot)
  rw [r1, r2, r3, ext_all] at hDA
  obtain ⟨hS, _⟩ := hDA (by omega)
  have hpP : pP s = U.length := r1
  have hpQ : pQ s = s.size := by unfold pQ; rw [hpP]; exact r2
  have hlt := pfA_lt hS hpQ (by omega)
  have hinf := infB_no hlt
  generalize hpf : pfA s = f at *
  refine ⟨f, ?_⟩
  rw [lex_one (by omega) hb hd0]
  have hnum : numP pfA s 0 = .ok (⟨3, s, 0, f, 0⟩, s.size) := by
    unfold numP
    rw [r1, hb]
    rw [if_neg (by
      intro h
      simp only [Nat.sub_zero, Bool.and_eq_true, decide_eq_true_eq, beq_iff_eq, Option.some.injEq] at h
      exact hl0 h.1 h.2)]
    rw [if_pos hdot, r2, r3, ext_all, hpf, if_neg (by omega), if_neg (by rw [hinf]; simp)]
  rw [hnum]
  show lexFrom pfA s s.size s.size ([] ++ [_]) = _
  obtain ⟨n, hn⟩ : ∃ n, s.size = n + 1 := ⟨s.size - 1, by omega⟩
  rw [hn, lexFrom_end (by omega), ← hn]
  rfl
end Go.Proofs.YtnhdedoobagbbaaGreatDoor
