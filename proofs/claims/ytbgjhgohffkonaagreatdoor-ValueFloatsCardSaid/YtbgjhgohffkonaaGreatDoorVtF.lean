/- A float's text read again: its digits and its power of ten. -/
import Derived.Test.YtbgjhgohffkonaaGreatDoorM15
import Derived.Test.YtbgjhgohffkonaaGreatDoorRfP
namespace Go.Proofs.YtbgjhgohffkonaaGreatDoor
set_option linter.unusedVariables false
theorem bt_l {l : List UInt8} (i : Nat) : bt ⟨l.toArray⟩ i = l[i]? := rfl
def isDig (c : UInt8) : Prop := 48 ≤ c.toNat ∧ c.toNat ≤ 57
def Digs (l : List UInt8) : Prop := ∀ c ∈ l, isDig c
def numL (l : List UInt8) : Nat := l.foldl (fun a c => a * 10 + (c.toNat - 48)) 0
theorem numL_snoc (l : List UInt8) (c : UInt8) : numL (l ++ [c]) = numL l * 10 + (c.toNat - 48) := by
  unfold numL
  rw [List.foldl_append]
  rfl
theorem numL_zeros (l : List UInt8) : ∀ k, numL (l ++ List.replicate k 48) = numL l * 10 ^ k
  | 0 => by simp
  | k + 1 => by
    rw [List.replicate_succ', ← List.append_assoc, numL_snoc, numL_zeros l k, Nat.pow_succ]
    show _ + 0 = _
    rw [Nat.add_zero, Nat.mul_assoc]
theorem numL_dec (d : Nat) : numL (Lib.decDigits d) = d := by
  induction d using Nat.strongRecOn with
  | ind d ih =>
    rw [Lib.decDigits]
    split
    · rename_i h
      show (0 * 10 + ((UInt8.ofNat (48 + d)).toNat - 48)) = d
      rw [UInt8.toNat_ofNat']
      omega
    · rename_i h
      rw [numL_snoc, ih (d / 10) (by omega), UInt8.toNat_ofNat']
      omega
theorem numL_ge {c : UInt8} (hc : isDig c) (h0 : c ≠ 48) (l : List UInt8) : 10 ^ l.length ≤ numL (c :: l) := by
  have key : ∀ (l : List UInt8) (a : Nat), a * 10 ^ l.length ≤ l.foldl (fun a c => a * 10 + (c.toNat - 48)) a := by
    intro l
    induction l with
    | nil => intro a; simp
    | cons d l ih =>
      intro a
      rw [List.length_cons, List.foldl_cons, Nat.pow_succ']
      refine Nat.le_trans ?_ (ih _)
      rw [← Nat.mul_assoc]
      exact Nat.mul_le_mul_right _ (by omega)
  have h1 : 1 ≤ c.toNat - 48 := by
    have : c.toNat ≠ 48 := fun h => h0 (UInt8.toNat_inj.1 h)
    have := hc.1
    omega
  have := key l (0 * 10 + (c.toNat - 48))
  refine Nat.le_trans ?_ this
  exact Nat.le_mul_of_pos_left _ (by omega)
theorem numL_lt (l : List UInt8) (h : Digs l) : numL l < 10 ^ l.length := by
  have key : ∀ (l : List UInt8), Digs l → ∀ a, l.foldl (fun a c => a * 10 + (c.toNat - 48)) a < (a + 1) * 10 ^ l.length := by
    intro l
    induction l with
    | nil => intro _ a; simp
    | cons c l ih =>
      intro h a
      rw [List.length_cons, List.foldl_cons, Nat.pow_succ', ← Nat.mul_assoc]
      refine Nat.lt_of_lt_of_le (ih (fun x hx => h x (List.mem_cons_of_mem _ hx)) _) (Nat.mul_le_mul_right _ ?_)
      have := (h c List.mem_cons_self).2
      omega
  have := key l h 0
  rw [Nat.zero_add, Nat.one_mul] at this
  exact this
/-- The state of the reader: digits G from the first that is no nought, the point at dp. -/
def rfL (s : Rf) (l : List UInt8) : Rf := l.foldl rfStep s
def rf0 : Rf := ⟨0, 0, 0, 0, false, false, false⟩
theorem rfL_append (s : Rf) (a b : List UInt8) : rfL s (a ++ b) = rfL (rfL s a) b := List.foldl_append
theorem rfAt_l (l : List UInt8) : ∀ i, i ≤ l.length → rfAt ⟨l.toArray⟩ i = rfL rf0 (l.take i)
  | 0, _ => rfl
  | i + 1, h => by
    rw [rfAt, rfAt_l l i (by omega), bt_l, List.getElem?_eq_getElem (show i < l.length by omega), List.take_succ_eq_append_getElem (show i < l.length by omega), rfL_append]
    rfl
structure StR (G : List UInt8) (dp : Int) (s : Rf) : Prop where
  nd : s.nd = G.length
  ndM : s.ndM = min 19 G.length
  m : s.m = numL (G.take 19)
  tr : s.tr = (G.drop 19).any (fun c => !(c == 48))
  dp : s.dp = dp
theorem StR.zero : StR [] 0 rf0 := ⟨rfl, rfl, rfl, rfl, rfl⟩
theorem StR.dot {G : List UInt8} {dp : Int} {s : Rf} (h : StR G dp s) : StR G (G.length : Nat) (rfStep s 46) := by
  unfold rfStep
  rw [if_pos rfl]
  exact ⟨h.nd, h.ndM, h.m, h.tr, congrArg _ h.nd⟩
theorem StR.zeros {dp : Int} {s : Rf} (h : StR [] dp s) : ∀ k : Nat, StR [] (dp - k) (rfL s (List.replicate k 48))
  | 0 => by simpa [rfL] using h
  | k + 1 => by
    rw [List.replicate_succ', rfL_append]
    have ih := h.zeros k
    generalize rfL s (List.replicate k 48) = s' at *
    show StR [] _ (rfStep s' 48)
    unfold rfStep
    rw [if_neg (by decide), if_pos ⟨rfl, ih.nd⟩]
    exact ⟨ih.nd, ih.ndM, ih.m, ih.tr, by show s'.dp - 1 = _; rw [ih.dp]; omega⟩
theorem StR.digit {G : List UInt8} {dp : Int} {s : Rf} {c : UInt8} (h : StR G dp s) (hc : isDig c) (h0 : G ≠ [] ∨ c ≠ 48) : StR (G ++ [c]) dp (rfStep s c) := by
  have h46 : c ≠ 46 := by rintro rfl; exact absurd hc.1 (by decide)
  have hn : ¬ (c = 48 ∧ s.nd = 0) := by
    rintro ⟨rfl, h1⟩
    rw [h.nd] at h1
    rcases h0 with h0 | h0
    · exact h0 (List.eq_nil_of_length_eq_zero h1)
    · exact h0 rfl
  have hm := h.ndM
  have hnd := h.nd
  unfold rfStep
  rw [if_neg h46, if_neg hn]
  by_cases h19 : s.ndM < 19
  · rw [if_pos h19]
    have hl : G.length < 19 := by omega
    refine ⟨?_, ?_, ?_, ?_, h.dp⟩
    · show s.nd + 1 = _; rw [List.length_append, h.nd]; rfl
    · show s.ndM + 1 = _; rw [List.length_append, List.length_singleton]; omega
    · show s.m * 10 + (c.toNat - 48) = _
      rw [List.take_of_length_le (by rw [List.length_append, List.length_singleton]; omega), numL_snoc, h.m, List.take_of_length_le (by omega)]
    · show s.tr = _
      rw [h.tr, List.drop_eq_nil_of_le (by omega), List.drop_eq_nil_of_le (by rw [List.length_append, List.length_singleton]; omega)]
  · rw [if_neg h19]
    have hl : 19 ≤ G.length := by omega
    refine ⟨?_, ?_, ?_, ?_, h.dp⟩
    · show s.nd + 1 = _; rw [List.length_append, h.nd]; rfl
    · show s.ndM = _; rw [List.length_append, List.length_singleton]; omega
    · show s.m = _
      rw [List.take_append_of_le_length hl, h.m]
    · show (s.tr || !(c == 48)) = _
      rw [h.tr, List.drop_append_of_le_length hl, List.any_append]
      simp
theorem StR.digits {dp : Int} : ∀ (E : List UInt8) {G : List UInt8} {s : Rf}, StR G dp s → Digs E → (G ≠ [] ∨ E.head? ≠ some 48) → StR (G ++ E) dp (rfL s E)
  | [], G, s, h, _, _ => by simpa [rfL] using h
  | c :: E, G, s, h, hE, h0 => by
    have h1 := h.digit (hE c List.mem_cons_self) (by
      rcases h0 with h0 | h0
      · exact Or.inl h0
      · exact Or.inr fun e => h0 (by rw [e]; rfl))
    have := h1.digits E (fun x hx => hE x (List.mem_cons_of_mem _ hx)) (Or.inl (by simp))
    rw [List.append_assoc] at this
    exact this
/-- The exponent's digits. -/
theorem rfE_l {l E : List UInt8} {r : Nat} (hl : l.drop r = E) (hE : Digs E) (h3 : E.length ≤ 4) : ∀ k, k ≤ E.length → rfE ⟨l.toArray⟩ r k = numL (E.take k)
  | 0, _ => rfl
  | k + 1, h => by
    have ih := rfE_l hl hE h3 k (by omega)
    have hb : bt ⟨l.toArray⟩ (r + k) = some (E[k]'(by omega)) := by
      rw [bt_l, ← List.getElem?_drop, hl]
      exact List.getElem?_eq_getElem _
    have hlt : numL (E.take k) < 10000 := by
      refine Nat.lt_of_lt_of_le (numL_lt _ (fun x hx => hE x (List.mem_of_mem_take hx))) ?_
      rw [List.length_take]
      exact Nat.le_trans (Nat.pow_le_pow_right (by decide) (show min k E.length ≤ 4 by omega)) (by decide)
    rw [rfE, ih, if_pos hlt, hb, List.take_succ_eq_append_getElem (by omega), numL_snoc]
    rfl
theorem fmX_parts {x : Int} (h : x.natAbs < 1000) : ∃ E : List UInt8, fmX x = (if x < 0 then 45 else 43) :: E ∧ Digs E ∧ 0 < E.length ∧ E.length ≤ 4 ∧ numL E = x.natAbs := by
  have d1 : ∀ n, n < 10 → isDig (UInt8.ofNat (48 + n)) ∧ (UInt8.ofNat (48 + n)).toNat - 48 = n := by
    intro n hn
    have : (UInt8.ofNat (48 + n)).toNat = 48 + n := by rw [UInt8.toNat_ofNat']; omega
    exact ⟨⟨by omega, by omega⟩, by omega⟩
  have d0 : isDig 48 := ⟨by decide, by decide⟩
  unfold fmX
  refine ⟨_, rfl, ?_⟩
  generalize x.natAbs = n at *
  by_cases h1 : n < 10
  · rw [if_pos h1]
    obtain ⟨a, b⟩ := d1 n h1
    refine ⟨?_, by simp, by simp, ?_⟩
    · intro c hc
      simp only [List.mem_cons, List.not_mem_nil, or_false] at hc
      rcases hc with rfl | rfl
      · exact d0
      · exact a
    · show (0 * 10 + ((48 : UInt8).toNat - 48)) * 10 + ((UInt8.ofNat (48 + n)).toNat - 48) = n
      rw [b]; simp
  · rw [if_neg h1]
    by_cases h2 : n < 100
    · rw [if_pos h2]
      obtain ⟨a, b⟩ := d1 (n / 10) (by omega)
      obtain ⟨a', b'⟩ := d1 (n % 10) (by omega)
      refine ⟨?_, by simp, by simp, ?_⟩
      · intro c hc
        simp only [List.mem_cons, List.not_mem_nil, or_false] at hc
        rcases hc with rfl | rfl
        · exact a
        · exact a'
      · show (0 * 10 + ((UInt8.ofNat (48 + n / 10)).toNat - 48)) * 10 + ((UInt8.ofNat (48 + n % 10)).toNat - 48) = n
        rw [b, b']; omega
    · rw [if_neg h2]
      obtain ⟨a, b⟩ := d1 (n / 100) (by omega)
      obtain ⟨a', b'⟩ := d1 (n / 10 % 10) (by omega)
      obtain ⟨a'', b''⟩ := d1 (n % 10) (by omega)
      refine ⟨?_, by simp, by simp, ?_⟩
      · intro c hc
        simp only [List.mem_cons, List.not_mem_nil, or_false] at hc
        rcases hc with rfl | rfl | rfl
        · exact a
        · exact a'
        · exact a''
      · show ((0 * 10 + ((UInt8.ofNat (48 + n / 100)).toNat - 48)) * 10 + ((UInt8.ofNat (48 + n / 10 % 10)).toNat - 48)) * 10 + ((UInt8.ofNat (48 + n % 10)).toNat - 48) = n
        rw [b, b', b'']; omega
/-- A text: digits, a point, digits, and an exponent or none. -/
theorem shp_l {A B X : List UInt8} (hA : Digs A) (hB : Digs B) (h1 : 0 < A.length) (h2 : 0 < B.length) (hs : (A ++ 46 :: B ++ X).length ≤ 800) : Shp ⟨(A ++ 46 :: B ++ X).toArray⟩ A.length (A.length + 1 + B.length) where
  pos := h1
  lt := by omega
  le := by
    show _ ≤ (A ++ 46 :: B ++ X).toArray.size
    simp
    omega
  small := by
    show (A ++ 46 :: B ++ X).toArray.size ≤ 800
    rw [List.size_toArray]; exact hs
  pre := fun i hi => by
    rw [bt_l, List.append_assoc, List.getElem?_append_left hi, List.getElem?_eq_getElem hi]
    have := hA _ (List.getElem_mem hi)
    exact ⟨_, rfl, UInt8.le_iff_toNat_le.2 this.1, UInt8.le_iff_toNat_le.2 this.2⟩
  dot := by
    rw [bt_l, List.append_assoc, List.getElem?_append_right (Nat.le_refl _), Nat.sub_self]
    rfl
  post := fun i h1 h2 => by
    obtain ⟨j, rfl⟩ : ∃ j, i = A.length + (j + 1) := ⟨i - A.length - 1, by omega⟩
    have hj : j < B.length := by omega
    rw [bt_l, List.append_assoc, List.getElem?_append_right (by omega), show A.length + (j + 1) - A.length = j + 1 by omega]
    show ∃ c, (B ++ X)[j]? = some c ∧ _
    rw [List.getElem?_append_left hj, List.getElem?_eq_getElem hj]
    have := hB _ (List.getElem_mem hj)
    exact ⟨_, rfl, UInt8.le_iff_toNat_le.2 this.1, UInt8.le_iff_toNat_le.2 this.2⟩
theorem rf_text {A B X : List UInt8} : rfAt ⟨(A ++ 46 :: B ++ X).toArray⟩ (A.length + 1 + B.length) = rfL (rfStep (rfL rf0 A) 46) B := by
  have hl : A.length + 1 + B.length = (A ++ 46 :: B).length := by simp; omega
  rw [rfAt_l _ _ (by simp; omega), hl, List.take_left, rfL_append]
  rfl
theorem tl_none {A B : List UInt8} : Tl ⟨(A ++ 46 :: B).toArray⟩ (A.length + 1 + B.length) (A.length + 1 + B.length) 0 := by
  refine Or.inl ⟨?_, rfl, rfl⟩
  show _ = (A ++ 46 :: B).toArray.size
  simp
  omega
theorem tl_exp {A B E : List UInt8} {sg : UInt8} {s : Int} (hs : (sg = 43 ∧ s = 1) ∨ (sg = 45 ∧ s = -1)) (hE : Digs E) (h0 : 0 < E.length) : Tl ⟨(A ++ 46 :: B ++ 101 :: sg :: E).toArray⟩ (A.length + 1 + B.length) (A.length + 1 + B.length + 2) s := by
  have hl : A.length + 1 + B.length = (A ++ 46 :: B).length := by simp; omega
  have hsz : (⟨(A ++ 46 :: B ++ 101 :: sg :: E).toArray⟩ : ByteArray).size = (A ++ 46 :: B).length + 2 + E.length := by
    show (A ++ 46 :: B ++ 101 :: sg :: E).toArray.size = _
    rw [List.size_toArray, List.length_append]
    simp
    omega
  rw [hl]
  generalize A ++ 46 :: B = L at *
  have hg : DigE ⟨(L ++ 101 :: sg :: E).toArray⟩ (L.length + 2) := by
    refine ⟨by omega, fun i h1 h2 => ?_⟩
    obtain ⟨j, rfl⟩ : ∃ j, i = L.length + (j + 2) := ⟨i - L.length - 2, by omega⟩
    have hj : j < E.length := by omega
    rw [bt_l, List.getElem?_append_right (by omega), show L.length + (j + 2) - L.length = j + 2 by omega]
    show ∃ c, E[j]? = some c ∧ _
    rw [List.getElem?_eq_getElem hj]
    have := hE _ (List.getElem_mem hj)
    exact ⟨_, rfl, UInt8.le_iff_toNat_le.2 this.1, UInt8.le_iff_toNat_le.2 this.2⟩
  have b0 : bt ⟨(L ++ 101 :: sg :: E).toArray⟩ L.length = some 101 := by rw [bt_l, List.getElem?_append_right (Nat.le_refl _), Nat.sub_self]; rfl
  have b1 : bt ⟨(L ++ 101 :: sg :: E).toArray⟩ (L.length + 1) = some sg := by rw [bt_l, List.getElem?_append_right (by omega), show L.length + 1 - L.length = 1 by omega]; rfl
  refine Or.inr ⟨by omega, Or.inl b0, Or.inr ?_⟩
  rcases hs with ⟨rfl, rfl⟩ | ⟨rfl, rfl⟩
  · exact Or.inl ⟨rfl, rfl, b1, hg⟩
  · exact Or.inr ⟨rfl, rfl, b1, hg⟩
theorem rfX_none {A B G : List UInt8} {dp : Int} (h : StR G dp (rfL (rfStep (rfL rf0 A) 46) B)) (h0 : numL (G.take 19) ≠ 0) : rfX ⟨(A ++ 46 :: B).toArray⟩ (A.length + 1 + B.length) (A.length + 1 + B.length) 0 = dp - (min 19 G.length : Nat) := by
  have e := rf_text (A := A) (B := B) (X := [])
  rw [List.append_nil] at e
  unfold rfX
  rw [e, h.m, if_neg h0, h.dp, h.ndM]
  omega
theorem rfX_exp {A B G E : List UInt8} {dp s : Int} {sg : UInt8} (h : StR G dp (rfL (rfStep (rfL rf0 A) 46) B)) (h0 : numL (G.take 19) ≠ 0) (hE : Digs E) (h3 : E.length ≤ 4) : rfX ⟨(A ++ 46 :: B ++ 101 :: sg :: E).toArray⟩ (A.length + 1 + B.length) (A.length + 1 + B.length + 2) s = dp + (numL E : Nat) * s - (min 19 G.length : Nat) := by
  have hl : A.length + 1 + B.length = (A ++ 46 :: B).length := by simp; omega
  have hsz : (⟨(A ++ 46 :: B ++ 101 :: sg :: E).toArray⟩ : ByteArray).size = (A ++ 46 :: B).length + 2 + E.length := by
    show (A ++ 46 :: B ++ 101 :: sg :: E).toArray.size = _
    rw [List.size_toArray, List.length_append]
    simp
    omega
  have hd : (A ++ 46 :: B ++ 101 :: sg :: E).drop (A.length + 1 + B.length + 2) = E := by
    rw [hl, ← List.drop_drop, List.drop_left]
    rfl
  unfold rfX
  rw [rf_text, h.m, if_neg h0, h.dp, h.ndM, hsz, hl, show (A ++ 46 :: B).length + 2 + E.length - ((A ++ 46 :: B).length + 2) = E.length by omega, rfE_l (by rw [← hl]; exact hd) hE h3 _ (Nat.le_refl _), List.take_length]
end Go.Proofs.YtbgjhgohffkonaaGreatDoor

