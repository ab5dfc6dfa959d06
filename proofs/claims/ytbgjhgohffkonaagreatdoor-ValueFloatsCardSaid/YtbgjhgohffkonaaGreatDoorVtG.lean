/- A float's text is read as that float: plain. -/
import Derived.Test.YtbgjhgohffkonaaGreatDoorVtC
import Derived.Test.YtbgjhgohffkonaaGreatDoorVtE
import Derived.Test.YtbgjhgohffkonaaGreatDoorVtF
namespace Go.Proofs.YtbgjhgohffkonaaGreatDoor
set_option linter.unusedVariables false
theorem tw_rep : ∀ l : List UInt8, l.takeWhile (· == 48) = List.replicate (l.takeWhile (· == 48)).length 48
  | [] => rfl
  | a :: l => by
    have ih := tw_rep l
    rw [List.takeWhile_cons]
    by_cases h : a = 48
    · subst h
      rw [if_pos (by decide), List.length_cons, List.replicate_succ]
      congr 1
    · rw [if_neg (by simpa using h)]
      rfl
theorem strip_zeros (l : List UInt8) : ∃ z, l = stripZ l ++ List.replicate z 48 := by
  refine ⟨(l.reverse.takeWhile (· == 48)).length, ?_⟩
  have h : l.reverse.takeWhile (· == 48) = List.replicate (l.reverse.takeWhile (· == 48)).length 48 := by
    exact tw_rep _
  have h2 : l = (l.reverse.dropWhile (· == 48)).reverse ++ (l.reverse.takeWhile (· == 48)).reverse := by
    rw [← List.reverse_append, List.takeWhile_append_dropWhile, List.reverse_reverse]
  unfold stripZ
  conv => lhs; rw [h2]
  congr 1
  conv => lhs; rw [h]
  rw [List.reverse_replicate]
theorem dec_head (d : Nat) (h : 1 ≤ d) : ∃ c r, Lib.decDigits d = c :: r ∧ c ≠ 48 := by
  induction d using Nat.strongRecOn with
  | ind d ih =>
    rw [Lib.decDigits]
    split
    · rename_i h1
      refine ⟨_, _, rfl, fun e => ?_⟩
      have := congrArg UInt8.toNat e
      rw [UInt8.toNat_ofNat'] at this
      have h48 : (48 : UInt8).toNat = 48 := rfl
      omega
    · rename_i h1
      obtain ⟨c, r, e, hc⟩ := ih (d / 10) (by omega) (by omega)
      rw [e]
      exact ⟨c, r ++ [UInt8.ofNat (48 + d % 10)], rfl, hc⟩
/-- The digits of a float, without noughts at their end. -/
theorem digs_of {d : Nat} (h1 : 1 ≤ d) (h2 : d < 144115188075855872) : ∃ c r z, stripZ (Lib.decDigits d) = c :: r ∧ c ≠ 48 ∧ Digs (c :: r) ∧ numL (c :: r) * 10 ^ z = d ∧ Lib.nDigits d = (c :: r).length + z ∧ (c :: r).length ≤ 18 ∧ 10 ^ r.length ≤ numL (c :: r) := by
  obtain ⟨z, hz⟩ := strip_zeros (Lib.decDigits d)
  obtain ⟨c, r, e, hc⟩ := dec_head d h1
  have hD : Digs (Lib.decDigits d) := fun x hx => dec_dig d d (Nat.le_refl _) x hx
  have hlen := Lib.decDigits_length d
  have hnum := numL_dec d
  cases hs : stripZ (Lib.decDigits d) with
  | nil =>
    rw [hs, List.nil_append] at hz
    rw [hz] at hnum
    have := numL_zeros [] z
    rw [List.nil_append, hnum] at this
    simp [numL] at this
    omega
  | cons c' r' =>
    rw [hs] at hz
    have hcc : c' = c := by
      rw [hz, List.cons_append] at e
      exact (List.cons.inj e).1
    subst hcc
    have hDD : Digs (c' :: r') := fun x hx => hD x (by rw [hz]; exact List.mem_append_left _ hx)
    rw [hz, numL_zeros] at hnum
    rw [hz, List.length_append, List.length_replicate] at hlen
    have hge := numL_ge (hDD c' List.mem_cons_self) hc r'
    refine ⟨c', r', z, rfl, hc, hDD, hnum, hlen.symm, ?_, hge⟩
    have h3 : 10 ^ r'.length ≤ d := by
      rw [← hnum]
      exact Nat.le_trans hge (Nat.le_mul_of_pos_right _ (p10_pos z))
    refine Nat.le_of_not_lt fun hl => ?_
    rw [List.length_cons] at hl
    have : 10 ^ 18 ≤ 10 ^ r'.length := Nat.pow_le_pow_right (by decide) (by omega)
    omega
/-- The power of ten is in range. -/
def chkR1 (a b c e : Nat) : Bool := Nat.blt (10 ^ 19 * 10 ^ 2 * 2 ^ a) (2 * 10 ^ b) && Nat.blt ((4 * 9007199254740992 + 2) * 2 ^ c * 10 ^ b) (10 ^ e * 2 ^ a)
theorem chkR1_ok : chkR1 1076 348 2045 659 = true := by decide +kernel
theorem range_RI {M i m k : Nat} (h0 : 0 < M) (h1 : M < 10000000000000000000) (nn : Nrm m k) (hk : k ≤ 2045) (h : RI m k (M * 10 ^ i * 2 ^ exB) tenB) : 3 ≤ i ∧ i ≤ 658 := by
  obtain ⟨t, ht, hT⟩ := tenB_is
  have hx := exB_is
  obtain ⟨c, hc⟩ : ∃ c : Nat, c = 2045 := ⟨_, rfl⟩
  obtain ⟨e, he⟩ : ∃ e : Nat, e = 659 := ⟨_, rfl⟩
  have e19 : (10 : Nat) ^ 19 = 10000000000000000000 := by decide
  have hb := chkR1_ok
  rw [← hx, ← ht, ← hc, ← he] at hb
  unfold chkR1 at hb
  rw [Bool.and_eq_true, ← hT] at hb
  have b1 := of_blt hb.1
  have b2 := of_blt hb.2
  constructor
  · refine Nat.le_of_not_lt fun hl => ?_
    have g := (h.pos nn).1
    have : M * 10 ^ i * 2 ^ exB ≤ 10 ^ 19 * 10 ^ 2 * 2 ^ exB := Nat.mul_le_mul_right _ (Nat.mul_le_mul (by rw [e19]; exact Nat.le_of_lt h1) (Nat.pow_le_pow_right (by decide) (by omega)))
    exact absurd (Nat.lt_of_le_of_lt (Nat.le_trans g this) b1) (Nat.lt_irrefl _)
  · refine Nat.le_of_not_lt fun hl => ?_
    have g := h.le.2
    have g1 : (4 * m + 2) * 2 ^ k * tenB ≤ (4 * 9007199254740992 + 2) * 2 ^ c * tenB := Nat.mul_le_mul_right _ (Nat.mul_le_mul (by have := nn.2.1; omega) (Nat.pow_le_pow_right (by decide) (by omega)))
    have g2 : 10 ^ e * 2 ^ exB ≤ M * 10 ^ i * 2 ^ exB := Nat.mul_le_mul_right _ (Nat.le_trans (Nat.pow_le_pow_right (by decide) (by omega)) (Nat.le_mul_of_pos_left _ h0))
    exact absurd (Nat.lt_of_le_of_lt (Nat.le_trans (Nat.le_trans g2 g) g1) b2) (Nat.lt_irrefl _)
/-- What the reader makes of digits M and a power of ten: the float F, and no error. -/
def Rds (M : Nat) (x : Int) (F : Nat) : Prop := (M = 0 ∧ F = 0) ∨ (0 < M ∧ M < 10000000000000000000 ∧ -345 ≤ x ∧ x ≤ 310 ∧ (exR M x = some F ∨ (exR M x = none ∧ pf64 M x = F ∧ pfS M x < 64 ∧ -(pfE M x - (pfT (pfU M x) : Nat)) < 972)))
theorem rds_of {M i m k : Nat} {x : Int} (h0 : 0 < M) (h1 : M < 10000000000000000000) (hx : x = (i : Int) - 348) (hc : M < 144115188075855872 ∨ (321 ≤ i ∧ i ≤ 374)) (nn : Nrm m k) (hk : k ≤ 2045) (h : RI m k (M * 10 ^ i * 2 ^ exB) tenB) : Rds M x (k * 4503599627370496 + m) := by
  obtain ⟨r1, r2⟩ := range_RI h0 h1 nn hk h
  subst hx
  refine Or.inr ⟨h0, h1, by omega, by omega, ?_⟩
  cases he : exR M ((i : Int) - 348) with
  | some f => exact Or.inl (by rw [exR_back h0 nn hk h he])
  | none => exact Or.inr ⟨rfl, pf64_back h0 (by omega) (by omega) hc nn hk h⟩
theorem ten_eq {V M d w i I z : Nat} (h1 : V * 10 ^ z = d) (h2 : M = V * 10 ^ w) (h3 : i + w = I + z) : M * 10 ^ i = d * 10 ^ I := by
  rw [h2, ← h1, Nat.mul_assoc, Nat.mul_assoc, ← Nat.pow_add, ← Nat.pow_add]
  congr 2; omega
/-- A text that is read as a float. -/
def Rd (t : List UInt8) (F : Nat) : Prop := ∃ A B X r s, t = A ++ 46 :: B ++ X ∧ Shp ⟨t.toArray⟩ A.length (A.length + 1 + B.length) ∧ Tl ⟨t.toArray⟩ (A.length + 1 + B.length) r s ∧ (rfAt ⟨t.toArray⟩ (A.length + 1 + B.length)).tr = false ∧
  Rds (rfAt ⟨t.toArray⟩ (A.length + 1 + B.length)).m (rfX ⟨t.toArray⟩ (A.length + 1 + B.length) r s) F
theorem rd_zero : Rd [48, 46, 48] 0 := by
  refine ⟨[48], [48], [], _, _, rfl, shp_l (A := [48]) (B := [48]) (X := []) ?_ ?_ (by decide) (by decide) (by decide), tl_none (A := [48]) (B := [48]), rfl, Or.inl ⟨rfl, rfl⟩⟩
  all_goals
    intro c hc
    rw [List.mem_singleton] at hc
    subst hc
    exact ⟨by decide, by decide⟩
theorem rd_none {A B G : List UInt8} {dp : Int} {M i m k : Nat} (hA : Digs A) (hB : Digs B) (h1 : 0 < A.length) (h2 : 0 < B.length) (hs : A.length + B.length ≤ 799) (h : StR G dp (rfL (rfStep (rfL rf0 A) 46) B))
    (hM : numL (G.take 19) = M) (htr : (G.drop 19).any (fun c => !(c == 48)) = false) (hx : dp - (min 19 G.length : Nat) = (i : Int) - 348)
    (h0 : 0 < M) (hlt : M < 10000000000000000000) (hc : M < 144115188075855872 ∨ (321 ≤ i ∧ i ≤ 374)) (nn : Nrm m k) (hk : k ≤ 2045) (hr : RI m k (M * 10 ^ i * 2 ^ exB) tenB) : Rd (A ++ 46 :: B) (k * 4503599627370496 + m) := by
  have hS := shp_l (X := []) hA hB h1 h2 (by simp; omega)
  have e := rf_text (A := A) (B := B) (X := [])
  rw [List.append_nil] at hS e
  refine ⟨A, B, [], _, _, (List.append_nil _).symm, hS, tl_none, ?_, ?_⟩
  · rw [e, h.tr, htr]
  · rw [e, h.m, hM, rfX_none h (by omega), hx]
    exact rds_of h0 hlt rfl hc nn hk hr
theorem rd_exp {A B G E : List UInt8} {dp s : Int} {sg : UInt8} {M i m k : Nat} (hA : Digs A) (hB : Digs B) (h1 : 0 < A.length) (h2 : 0 < B.length) (hs : A.length + B.length ≤ 700) (h : StR G dp (rfL (rfStep (rfL rf0 A) 46) B))
    (hsg : (sg = 43 ∧ s = 1) ∨ (sg = 45 ∧ s = -1)) (hE : Digs E) (hE0 : 0 < E.length) (hE4 : E.length ≤ 4)
    (hM : numL (G.take 19) = M) (htr : (G.drop 19).any (fun c => !(c == 48)) = false) (hx : dp + (numL E : Nat) * s - (min 19 G.length : Nat) = (i : Int) - 348)
    (h0 : 0 < M) (hlt : M < 10000000000000000000) (hc : M < 144115188075855872 ∨ (321 ≤ i ∧ i ≤ 374)) (nn : Nrm m k) (hk : k ≤ 2045) (hr : RI m k (M * 10 ^ i * 2 ^ exB) tenB) : Rd (A ++ 46 :: B ++ 101 :: sg :: E) (k * 4503599627370496 + m) := by
  refine ⟨A, B, _, _, _, rfl, shp_l hA hB h1 h2 (by simp; omega), tl_exp hsg hE hE0, ?_, ?_⟩
  · rw [rf_text, h.tr, htr]
  · rw [rfX_exp h (by omega) hE hE4, rf_text, h.m, hM, hx]
    exact rds_of h0 hlt rfl hc nn hk hr
end Go.Proofs.YtbgjhgohffkonaaGreatDoor

