/- A number of few digits is no infinity. -/
import Derived.Test.YtnhdedoobagbbaaGreatDoorFltEnv
namespace Go.Proofs.YtnhdedoobagbbaaGreatDoor
open Ieee

theorem cut_le (n d : Nat) : Toward.even.cut false n d ≤ n / 2 ^ (min d (n.log2 + 2)) + 1 := by
  unfold Toward.cut
  simp only [Nat.shiftLeft_eq, Nat.one_mul]
  refine Nat.add_le_add_left ?_ _
  generalize (_ || _ : Bool) = b
  cases b <;> decide
theorem log_lt {n : Nat} : n < 2 ^ (n.log2 + 1) := Nat.lt_log2_self
theorem cut_q {m u d Q : Nat} (hQ : Q = 2 ^ 53) (h : u = 0 ∧ m.log2 ≤ d + 52 ∨ d = 0 ∧ m.log2 + u ≤ 52) : (m * 2 ^ u) / 2 ^ (min d ((m * 2 ^ u).log2 + 2)) ≤ Q := by
  have hlt := log_lt (n := m)
  rcases h with ⟨rfl, h⟩ | ⟨rfl, h⟩
  · rw [Nat.pow_zero, Nat.mul_one]
    rcases Nat.le_total d (m.log2 + 2) with hd | hd
    · rw [Nat.min_eq_left hd]
      refine Nat.div_le_of_le_mul (Nat.le_of_lt (Nat.lt_of_lt_of_le hlt ?_))
      rw [hQ, ← Nat.pow_add]
      exact Nat.pow_le_pow_right (by decide) (by omega)
    · rw [Nat.min_eq_right hd, Nat.div_eq_of_lt (Nat.lt_of_lt_of_le hlt (Nat.pow_le_pow_right (by decide) (by omega)))]
      exact Nat.zero_le _
  · refine Nat.le_trans (Nat.div_le_self _ _) (Nat.le_of_lt ?_)
    rw [hQ]
    refine Nat.lt_of_lt_of_le (Nat.mul_lt_mul_of_pos_right hlt (Nat.pow_pos (by decide))) ?_
    rw [← Nat.pow_add]
    exact Nat.pow_le_pow_right (by decide) (by omega)
theorem cut_53 {m u d : Nat} (h : u = 0 ∧ m.log2 ≤ d + 52 ∨ d = 0 ∧ m.log2 + u ≤ 52) : Toward.even.cut false (m <<< u) d ≤ 9007199254740993 := by
  have h1 := cut_le (m <<< u) d
  rw [Nat.shiftLeft_eq] at h1 ⊢
  have h2 := cut_q (Q := 9007199254740992) (by decide +kernel) h
  omega
theorem near_key {m : Nat} {p L : Int} {B fr R C : Nat} {lp : Int} (hC : C = 9007199254740993) (h1 : fr = 52) (h2 : lp = -1074) (hL : -1000 ≤ L) (h : p + (m.log2 : Nat) ≤ L) :
    min ((max (p + (m.log2 : Nat) - (fr : Nat)) lp - lp).toNat * B + Toward.even.cut false (m <<< (p - max (p + (m.log2 : Nat) - (fr : Nat)) lp).toNat) (max (p + (m.log2 : Nat) - (fr : Nat)) lp - p).toNat) R ≤ (L + 1022).toNat * B + C := by
  subst h1 h2
  refine Nat.le_trans (Nat.min_le_left _ _) ?_
  obtain ⟨last, hl⟩ : ∃ l : Int, max (p + (m.log2 : Nat) - (52 : Nat)) (-1074) = l := ⟨_, rfl⟩
  rw [hl]
  refine Nat.add_le_add (Nat.mul_le_mul_right _ (by omega)) ?_
  rw [hC]
  exact cut_53 (by omega)
theorem near_le' {m : Nat} {p L : Int} {B C : Nat} (hB : F64.binade = B) (hC : C = 9007199254740993) (hL : -1000 ≤ L) (h : p + (m.log2 : Nat) ≤ L) : F64.nearest false m p ≤ (L + 1022).toNat * B + C := by
  unfold Format.nearest
  split
  · rw [word_false]
    exact Nat.zero_le _
  · rw [hB, word_false]
    exact near_key hC rfl rfl hL h
theorem near_le {m : Nat} {p L : Int} (hL : -1000 ≤ L) (h : p + (m.log2 : Nat) ≤ L) : F64.nearest false m p ≤ (L + 1022).toNat * 4503599627370496 + 9007199254740993 := near_le' f64_binade rfl hL h
theorem read_le {b : Nat} (h : b < 9218868437227405312) : ∃ m p, F64.read b = .number false m p ∧ p + (m.log2 : Nat) ≤ ((b / 4503599627370496 : Nat) : Int) - 1022 := by
  unfold Format.read
  have e2 : F64.leastPlace = -1074 := rfl
  rw [f64_sign, f64_binade, f64_inf, e2]
  have e1 : (b / 9223372036854775808 % 2 == 1) = false := by simp; omega
  have e3 : b % 9223372036854775808 = b := Nat.mod_eq_of_lt (by omega)
  simp only [e1, e3]
  by_cases hlt : b < 4503599627370496
  · rw [if_pos hlt]
    refine ⟨b, -1074, rfl, ?_⟩
    have : b.log2 ≤ 52 := by
      rcases Nat.eq_zero_or_pos b with h0 | h0
      · subst h0; decide
      · have := (Nat.log2_lt (by omega)).2 (show b < 2 ^ 53 by omega)
        omega
    omega
  · rw [if_neg hlt, if_pos h]
    refine ⟨_, _, rfl, ?_⟩
    have : (4503599627370496 + b % 4503599627370496).log2 ≤ 52 := by
      have := (Nat.log2_lt (n := 4503599627370496 + b % 4503599627370496) (by omega)).2 (show 4503599627370496 + b % 4503599627370496 < 2 ^ 53 by omega)
      omega
    omega
def bigB : Datum → Bool | .number false m p => m != 0 && decide (0 ≤ p + (m.log2 : Nat)) | _ => false
theorem p10_big {k : Nat} (h : k < 23) : ∃ m p, F64.read (p10 k) = .number false m p ∧ m ≠ 0 ∧ 0 ≤ p + (m.log2 : Nat) := by
  have hall : ∀ k : Fin 23, bigB (F64.read (p10 k.val)) = true := by decide +kernel
  have := hall ⟨k, h⟩
  simp only at this
  revert this
  cases F64.read (p10 k) with
  | number s m p =>
    cases s
    · intro h
      simp only [bigB, Bool.and_eq_true, decide_eq_true_eq, bne_iff_ne] at h
      exact ⟨m, p, rfl, h.1, h.2⟩
    · intro h; cases h
  | infinity s => intro h; cases h
  | nan s f => intro h; cases h
theorem exF_le {m : Nat} (h : m < 18446744073709551616) : exF m ≤ 1085 * 4503599627370496 + 9007199254740993 := by
  unfold exF floatOfInt
  have : decide ((m : Int) < 0) = false := by simp
  change F64.write (.number (decide ((m : Int) < 0)) (m : Int).natAbs 0) ≤ _
  rw [this]
  change F64.nearest false m 0 ≤ _
  have hl : m.log2 ≤ 63 := by
    rcases Nat.eq_zero_or_pos m with h0 | h0
    · subst h0; decide
    · have := (Nat.log2_lt (by omega)).2 (show m < 2 ^ 64 by omega)
      omega
  have := near_le (m := m) (p := 0) (L := 63) (by decide) (by omega)
  exact this
theorem divP_lt {m k : Nat} (h : m < 18446744073709551616) (hk : k < 23) : divP (exF m) k < 9218868437227405312 := by
  have h1 := exF_le h
  obtain ⟨a, p, hr, hap⟩ := read_le (b := exF m) (by omega)
  obtain ⟨n, j, hs, hn, hj⟩ := p10_big hk
  have hp : p + (a.log2 : Nat) ≤ 66 := by omega
  unfold divP Format.div
  rw [hr, hs]
  simp only [Datum.quotient]
  rw [if_neg hn]
  simp only [Option.map_some, Option.getD_some]
  have e1 : F64.fractionBits = 52 := rfl
  rw [e1]
  generalize hmo : 52 + 2 + n.log2 - a.log2 = more
  change F64.nearest false _ _ < _
  rw [Nat.shiftLeft_eq]
  have hb : 2 * (a * 2 ^ more / n) + (a * 2 ^ more % n != 0).toNat < 2 ^ (a.log2 + more + 3 - n.log2) ∧ n.log2 ≤ a.log2 + more + 2 := by
    have h1 : n.log2 ≤ a.log2 + more + 2 := by omega
    refine ⟨?_, h1⟩
    have hn2 : 2 ^ n.log2 ≤ n := Nat.log2_self_le hn
    have ha := log_lt (n := a)
    have hq : a * 2 ^ more / n < 2 ^ (a.log2 + 1 + more - n.log2) := by
      rw [Nat.div_lt_iff_lt_mul (by omega)]
      calc a * 2 ^ more < 2 ^ (a.log2 + 1) * 2 ^ more := Nat.mul_lt_mul_of_pos_right ha (Nat.pow_pos (by decide))
        _ = 2 ^ (a.log2 + 1 + more) := (Nat.pow_add _ _ _).symm
        _ = 2 ^ (a.log2 + 1 + more - n.log2 + n.log2) := by congr 1; omega
        _ = 2 ^ (a.log2 + 1 + more - n.log2) * 2 ^ n.log2 := Nat.pow_add _ _ _
        _ ≤ 2 ^ (a.log2 + 1 + more - n.log2) * n := Nat.mul_le_mul_left _ hn2
    have hbt : (a * 2 ^ more % n != 0).toNat ≤ 1 := Bool.toNat_le _
    have e : 2 ^ (a.log2 + more + 3 - n.log2) = 4 * 2 ^ (a.log2 + 1 + more - n.log2) := by
      rw [show a.log2 + more + 3 - n.log2 = (a.log2 + 1 + more - n.log2) + 2 by omega, Nat.pow_add]
      omega
    omega
  obtain ⟨hb, hb2⟩ := hb
  generalize 2 * (a * 2 ^ more / n) + (a * 2 ^ more % n != 0).toNat = z at *
  have hz : z.log2 ≤ a.log2 + more + 3 - n.log2 := by
    rcases Nat.eq_zero_or_pos z with h0 | h0
    · subst h0; exact Nat.zero_le _
    · have := (Nat.log2_lt (by omega)).2 hb
      omega
  have := near_le (m := z) (p := p - j - (more : Nat) - 1) (L := 80) (by decide) (by omega)
  omega
theorem pf64_lt {d : Nat} {p : Int} (h1 : -348 ≤ p) (h2 : p ≤ 0) (h : d < 18446744073709551616) : pf64 d p < 9218868437227405312 := by
  have hb := pfB_le h
  have hL : pfL p ≤ 0 := by unfold pfL; omega
  have hx : pfX d < 18446744073709551616 := Nat.mod_lt _ (by decide)
  have hs := pfS_ge h1 (by omega) h
  have hE : -11 ≤ pfE d p := by unfold pfE; omega
  unfold pf64
  split
  · decide
  · have hu : pfU d p < 72057594037927936 := uscN_lt hx (pwR_lt _).1 (by omega)
    have hr := rndN_le (pfV_lt hu)
    have hT : pfT (pfU d p) ≤ 1 := by unfold pfT; split <;> omega
    unfold packN
    split
    · omega
    · split
      · omega
      · omega
theorem fbA_phi : ∀ (f : Nat) {D : Dc} (e : Int), OkD D → 0 < D.nd → (fbA f D e).2 ≤ e + (phi D : Nat)
  | 0, D, e, _, _ => by
    show e ≤ _
    omega
  | f + 1, D, e, h, hp => by
    rw [fbA]
    split
    · rename_i hd
      obtain ⟨h1, h2, _⟩ := rsP_spec h hp (pwt_le D.dp.toNat).1
      have := fbA_phi f (e + pwt D.dp.toNat) h1 h2
      have := phi_step h hp hd
      omega
    · show e ≤ _
      omega
theorem fbB_le : ∀ (f : Nat) (D : Dc) (e : Int), (fbB f D e).2 ≤ e
  | 0, D, e => Int.le_refl _
  | f + 1, D, e => by
    rw [fbB]
    split
    · refine Int.le_trans (fbB_le f _ _) ?_
      have := pwt_le (-D.dp).toNat
      first | omega | (split <;> omega) | exact Int.sub_le_self _ (by omega)
    · exact Int.le_refl _
theorem fbOut_lt {m : Nat} {e : Int} (hm : m < 18446744073709551616) (h1 : -1023 ≤ e) (h2 : e ≤ 1023) : (fbOut (m : Int) e).toNat < 9218868437227405312 := by
  obtain ⟨x, hx⟩ : ∃ x : Nat, e + 1023 = (x : Int) := ⟨(e + 1023).toNat, by omega⟩
  have hx2 : x ≤ 2046 := by omega
  have hand : bits .and .i64 ((x : Nat) : Int) 2047 = (x : Int) := by
    have : ∀ n : Fin 2047, bits .and .i64 ((n.val : Nat) : Int) 2047 = (n.val : Int) := by decide +kernel
    exact this ⟨x, by omega⟩
  have hw : IntKind.u64.wrap (IntKind.u64.wrap ((x : Nat) : Int) * 4503599627370496) = ((x * 4503599627370496 : Nat) : Int) := by
    rw [IntWalk.u64_in (x : Int) (by omega), IntWalk.u64_in _ (by omega)]
    omega
  have hmask := u64_and_mask m 52 (by decide) hm
  rw [show (((2 ^ 52 : Nat) : Int) - 1) = 4503599627370495 by decide] at hmask
  unfold fbOut
  rw [hx, hand, hw, hmask, u64_or_nat _ _ (by omega) (by omega), Int.toNat_natCast, or_high (by omega)]
  omega
theorem fbP_lt {D : Dc} (h : OkD D) (hd : D.dp ≤ 30) : (fbP D).1.toNat < 9218868437227405312 := by
  have e2 : (fbOut 0 (-1023)).toNat < 9218868437227405312 := fbOut_lt (m := 0) (by decide) (by decide) (by decide)
  unfold fbP
  split
  · exact e2
  · rename_i hn
    rw [if_neg (by omega)]
    split
    · exact e2
    · have hp : 0 < D.nd := by omega
      have h1 := fbA_phi (muA D) 0 h hp
      have h2 : phi D ≤ 900 := by
        unfold phi
        split
        · omega
        · split
          · have := (h.dig 0 hp).2
            omega
          · omega
      have h3 := fbB_le (muB (fbA (muA D) D 0).1) (fbA (muA D) D 0).1 (fbA (muA D) D 0).2
      have h4 : (fbB (muB (fbA (muA D) D 0).1) (fbA (muA D) D 0).1 (fbA (muA D) D 0).2).2 - 1 ≤ 900 := by omega
      generalize (fbB (muB (fbA (muA D) D 0).1) (fbA (muA D) D 0).1 (fbA (muA D) D 0).2).2 - 1 = e at *
      generalize fbD _ e = D2
      have he : -1022 ≤ fbE e ∧ fbE e ≤ 900 := by unfold fbE; split <;> omega
      generalize fbE e = e at *
      unfold fbM2
      rw [if_neg (by omega)]
      split
      · rw [if_neg (by omega)]
        exact fbOut_lt (m := 4503599627370496) (by decide) (by omega) (by omega)
      · split
        · exact fbOut_lt (riP_lt _) (by decide) (by decide)
        · exact fbOut_lt (riP_lt _) (by omega) (by omega)
theorem pfW_lt {m : Nat} {x : Int} {tr : Bool} {D : Dc} (hm : m < 10000000000000000001) (hx : x ≤ 0) (h : OkD D) (hd : D.dp ≤ 30) : pfW m x tr D < 9218868437227405312 := by
  unfold pfW
  split
  · decide
  · rw [if_neg (by omega)]
    split
    · decide
    · split
      · cases he : exR m x with
        | none => exact pf64_lt (by omega) hx (by omega)
        | some f =>
          unfold exR at he
          split at he
          · cases he
          · split at he
            · cases he
              have := exF_le (m := m) (by omega)
              show exF m < _
              omega
            · rw [if_neg (by omega)] at he
              split at he
              · cases he
                exact divP_lt (by omega) (by omega)
              · cases he
      · split
        · exact pf64_lt (by omega) hx (by omega)
        · exact fbP_lt h hd
end Go.Proofs.YtnhdedoobagbbaaGreatDoor
