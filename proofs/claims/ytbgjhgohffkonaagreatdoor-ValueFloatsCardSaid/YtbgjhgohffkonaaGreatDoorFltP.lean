/- The fast way from digits and a power of ten to a float: its small functions. -/
import Derived.Test.YtbgjhgohffkonaaGreatDoorM02
import Derived.Test.YtbgjhgohffkonaaGreatDoorM03
import Derived.Test.YtbgjhgohffkonaaGreatDoorShelf
import Derived.Laws.BitsAllLaws
namespace Go.Proofs.YtbgjhgohffkonaaGreatDoor
open Go.RowKit

theorem run_frombits (n : Int) (w : World) : (callFunc 107 #[.int .u64 n]).run Tryz.prog w = .ok (.value (.float .f64 n.toNat)) w := by
  rw [run_callFunc_extern Tryz.func107 (by kernel_rfl) (by kernel_rfl) (by kernel_rfl) (e := Extern.MathFloatBits.float64frombits) (by kernel_rfl)]
  rfl
attribute [local go_sem] run_frombits
set_option maxRecDepth 100000 in
theorem log2_any {p : Int} (h1 : -1000000 ≤ p) (h2 : p ≤ 1000000) (w : World) : Calls Tryz.prog 133 #[.int .i64 p] w fun e w' => e = .returned (.int .i64 (p * 108853 / 32768)) ∧ w = w' := by
  go_enter Tryz.func133, Tryz.ntmps133
  go_wp2_with fail
  go_ret
  exact ⟨rfl, rfl⟩
set_option maxRecDepth 100000 in
theorem bool2_any (b : Bool) (w : World) : Calls Tryz.prog 106 #[.bool b] w fun e w' => e = .returned (.int .u64 (if b then 1 else 0)) ∧ w = w' := by
  cases b
  · go_enter Tryz.func106, Tryz.ntmps106
    go_wp2_with fail
    go_ret
    exact ⟨rfl, rfl⟩
  · go_enter Tryz.func106, Tryz.ntmps106
    go_wp2_with fail
    go_ret
    exact ⟨rfl, rfl⟩
set_option maxRecDepth 100000 in
theorem unmin_any (w : World) : Calls Tryz.prog 139 #[.int .u64 9007199254740992] w fun e w' => e = .returned (.int .u64 36028797018963966) ∧ w = w' := by
  go_enter Tryz.func139, Tryz.ntmps139
  go_wp2_with fail
  go_ret
  exact ⟨rfl, rfl⟩
def rndN (u : Nat) : Nat := (u + 1 + u / 4 % 2) / 4
set_option maxRecDepth 100000 in
theorem round_any {u : Nat} (h : u < 72057594037927936) (w : World) : Calls Tryz.prog 138 #[.int .u64 u] w fun e w' => e = .returned (.int .u64 (rndN u : Nat)) ∧ w = w' := by
  have hb : bits .and .u64 ((u : Int) / 4) 1 = ((u / 4 % 2 : Nat) : Int) := by
    have := u64_and_nat (u / 4) 1 (by omega) (by decide)
    rw [nat_mask1] at this
    exact this
  have h2 : (0 : Int) ≤ ((u / 4 % 2 : Nat) : Int) ∧ ((u / 4 % 2 : Nat) : Int) ≤ 1 := by omega
  have HR : Hid (rndN u = (u + 1 + u / 4 % 2) / 4) := Lib.hid rfl
  generalize u / 4 % 2 = b at *
  go_enter Tryz.func138, Tryz.ntmps138
  go_wp2_with fail
  go_ret
  refine ⟨?_, rfl⟩
  rw [HR.out]
  exact ret_int (by omega)
/-- A float's bits, and an error. -/
def packN (m : Nat) (e : Int) : Nat := if m < 4503599627370496 ∨ m = 9007199254740992 then m else if 972 ≤ e then 9218868437227405312 else m - 4503599627370496 + (1075 + e).toNat * 4503599627370496
def packE (m : Nat) (e : Int) : Value := if m < 4503599627370496 ∨ m = 9007199254740992 then .nilIface else if 972 ≤ e then .iface 75 (.int .i64 1) else .nilIface
theorem packN_fin {m : Nat} {e : Int} (h1 : m ≤ 9007199254740992) (h2 : -1074 ≤ e) : Fin' (packN m e) := by
  unfold packN Fin'
  split
  · omega
  · split
    · exact Nat.le_refl _
    · omega
theorem or_high {a k : Nat} (ha : a < 4503599627370496) : a ||| k * 4503599627370496 = a + k * 4503599627370496 := by
  have e : (2 : Nat) ^ 52 = 4503599627370496 := by decide
  have := nat_join 52 (k * 2 ^ 52) a (Nat.mul_mod_left _ _) (by rw [e]; exact ha)
  rw [e] at this
  rw [Nat.or_comm, this, Nat.add_comm]
theorem bit_off {m : Nat} (h1 : 4503599627370496 ≤ m) (h2 : m < 9007199254740992) : m &&& (18446744073709551615 - 4503599627370496) = m - 4503599627370496 := by
  obtain ⟨a, rfl⟩ : ∃ a, m = 4503599627370496 + a := ⟨m - 4503599627370496, by omega⟩
  have ha : a < 2 ^ 52 := by omega
  have e1 : 4503599627370496 + a = 4503599627370496 ||| a := (nat_join 52 _ _ (by decide) ha).symm
  rw [e1, Nat.and_or_distrib_right, ← e1]
  have e2 : a &&& (18446744073709551615 - 4503599627370496) = a := by
    have e3 : a &&& (2 ^ 52 - 1) = a := by rw [Nat.and_two_pow_sub_one_eq_mod]; exact Nat.mod_eq_of_lt ha
    rw [← e3, Nat.and_assoc]
    congr 1
  rw [e2, show (4503599627370496 &&& (18446744073709551615 - 4503599627370496) : Nat) = 0 from by decide, Nat.zero_or]
  omega
set_option maxRecDepth 100000 in
theorem pack_any {m : Nat} {e : Int} (h1 : m ≤ 9007199254740992) (h2 : -1074 ≤ e) (h3 : e ≤ 1000000) (w : World) :
    Calls Tryz.prog 154 #[.int .u64 m, .int .i64 e] w fun en w' => en = .returned (.tuple #[.float .f64 (packN m e), packE m e]) ∧ ∃ n, w' = w.drewN n := by
  have hand : bits .and .u64 (m : Int) 4503599627370496 = ((m / 2 ^ 52 % 2 * 2 ^ 52 : Nat) : Int) := by
    rw [← nat_bit 52 m]
    exact u64_and_nat m 4503599627370496 (by omega) (by decide)
  by_cases hc : m < 4503599627370496 ∨ m = 9007199254740992
  · have hz : (bits .and .u64 (m : Int) 4503599627370496 == 0) = true := by
      rw [hand, beq_iff_eq]
      omega
    have HP : Hid (packN m e = m ∧ packE m e = .nilIface) := Lib.hid (by unfold packN packE; rw [if_pos hc, if_pos hc]; exact ⟨rfl, rfl⟩)
    clear hand
    go_enter Tryz.func154, Tryz.ntmps154
    go_wp2_with fail
    go_ret2
    rw [HP.out.1, HP.out.2]
    exact ⟨rfl, 0, rfl⟩
  · have hz : (bits .and .u64 (m : Int) 4503599627370496 == 0) = false := by
      rw [hand, beq_eq_false_iff_ne]
      omega
    by_cases he : 972 ≤ e
    · have HP : Hid (packN m e = 9218868437227405312 ∧ packE m e = .iface 75 (.int .i64 1)) := Lib.hid (by unfold packN packE; rw [if_neg hc, if_neg hc, if_pos he, if_pos he]; exact ⟨rfl, rfl⟩)
      have hs : bits .and .u64 (m : Int) 9223372036854775808 = 0 := by
        have := u64_and_nat m (2 ^ 63) (by omega) (by decide)
        rw [nat_bit] at this
        refine this.trans ?_
        have : m / 2 ^ 63 = 0 := by omega
        rw [this]; rfl
      have ho : bits .or .u64 0 9218868437227405312 = 9218868437227405312 := by decide
      clear hand
      go_enter Tryz.func154, Tryz.ntmps154
      go_wp2_with fail
      go_ret2
      rw [HP.out.1, HP.out.2]
      exact ⟨rfl, 0, rfl⟩
    · have HP : Hid (packN m e = m - 4503599627370496 + (1075 + e).toNat * 4503599627370496 ∧ packE m e = .nilIface) := Lib.hid (by unfold packN packE; rw [if_neg hc, if_neg hc, if_neg he, if_neg he]; exact ⟨rfl, rfl⟩)
      have hk : ((1075 + e) * 4503599627370496 : Int) = (((1075 + e).toNat * 4503599627370496 : Nat) : Int) := by omega
      have HB : Hid ((bits .or .u64 (bits .andNot .u64 (m : Int) 4503599627370496) ((1075 + e) * 4503599627370496)).toNat = m - 4503599627370496 + (1075 + e).toNat * 4503599627370496) := Lib.hid (by
        have e1 : bits .andNot .u64 (m : Int) 4503599627370496 = ((m - 4503599627370496 : Nat) : Int) := by
          have := u64_andNot_nat m 4503599627370496 (by omega) (by decide)
          rw [show ((4503599627370496 : Nat) : Int) = 4503599627370496 from rfl] at this
          rw [this, bit_off (by omega) (by omega)]
        rw [e1, hk]
        have := u64_or_nat (m - 4503599627370496) ((1075 + e).toNat * 4503599627370496) (by omega) (by omega)
        rw [this, or_high (by omega)]
        exact Int.toNat_natCast _)
      clear hand hk
      go_enter Tryz.func154, Tryz.ntmps154
      go_wp2_with fail
      go_ret2
      rw [HP.out.1, HP.out.2, ← HB.out]
      exact ⟨rfl, 0, rfl⟩
/-- The table of powers of ten. -/
def pwR (i : Nat) : Nat × Nat := (Go.Pinned.pow10Rows)[i]?.getD (0, 0)
def pwB (x : Nat × Nat) : Bool := Nat.blt x.1 18446744073709551616 && Nat.blt x.2 18446744073709551616
theorem pwR_all : (Go.Pinned.pow10Rows).all pwB = true := by kernel_rfl
theorem pwR_lt (i : Nat) : (pwR i).1 < 18446744073709551616 ∧ (pwR i).2 < 18446744073709551616 := by
  unfold pwR
  cases h : (Go.Pinned.pow10Rows)[i]? with
  | none => exact ⟨by decide, by decide⟩
  | some x =>
    have hm : x ∈ Go.Pinned.pow10Rows := List.mem_of_getElem? h
    have := List.all_eq_true.1 pwR_all x hm
    unfold pwB at this
    rw [Bool.and_eq_true] at this
    exact ⟨Nat.le_of_ble_eq_true this.1, Nat.le_of_ble_eq_true this.2⟩
/-- The table's cells; below block B. -/
def PwG (B : Nat) (w : World) : Prop := 11 < B ∧ ∀ i : Nat, i < 696 → w.cell? ⟨11, i * 2, none⟩ = some (.int .u64 (pwR i).1) ∧ w.cell? ⟨11, i * 2 + 1, none⟩ = some (.int .u64 (pwR i).2)
theorem PwG.keeps {B B' : Nat} {w w' : World} (hB : B ≤ B') (hb : Below B' w w') (h : PwG B w) : PwG B w' := by
  refine ⟨h.1, fun i hi => ⟨?_, ?_⟩⟩
  · rw [hb.cell (show (11 : Nat) < B' by have := h.1; omega)]; exact (h.2 i hi).1
  · rw [hb.cell (show (11 : Nat) < B' by have := h.1; omega)]; exact (h.2 i hi).2
set_option maxRecDepth 100000 in
theorem prescale_any {w : World} {B g : Nat} {a b c : Value} (hG : PwG B w) (hg : B ≤ g) (h : w.heap[g]? = some (.cells #[a, b, c] 196 (0, 0))) {e lp : Int} {i : Nat} (hi : i < 696)
    (h1 : -1000000 ≤ e) (h2 : e ≤ 1000000) (h3 : -1000000 ≤ lp) (h4 : lp ≤ 1000000) :
    Calls Tryz.prog 132 #[.pointer (some ⟨g, 0, none⟩), .int .i64 e, .int .i64 ((i : Int) - 348), .int .i64 lp] w fun en w' => (∃ v, en = .returned v) ∧
      w'.heap[g]? = some (.cells #[.int .u64 (pwR i).1, .int .u64 (pwR i).2, .int .i64 (-(e + lp + 3))] 196 (0, 0)) ∧ Below g w w' := by
  have t1 := (hG.2 i hi).1
  have t2 := (hG.2 i hi).2
  have f0 : w.frozen? ⟨g, 0, none⟩ = false := block_free h
  have f1 : w.frozen? ⟨g, 1, none⟩ = false := block_free h
  have f2 : w.frozen? ⟨g, 2, none⟩ = false := block_free h
  have c0 : w.cell? ⟨g, 0, none⟩ = some a := block_cell h rfl
  have c1 : w.cell? ⟨g, 1, none⟩ = some b := block_cell h rfl
  have c2 : w.cell? ⟨g, 2, none⟩ = some c := block_cell h rfl
  have hi1 : (i : Int) < 696 := by omega
  have hne : 11 ≠ g := by have := hG.1; omega
  have hix : (i : Int) - 348 - -348 = (i : Int) := by omega
  have H := Lib.hid h
  clear h hG
  generalize pwR i = x at *
  go_enter Tryz.func132, Tryz.ntmps132
  go_wp2_with fail
  go_end0
  exact ⟨⟨_, rfl⟩, block_set (block_set (block_set H.out _) _) _, (((Below.refl g w).setCell (Nat.le_refl _) _).setCell (Nat.le_refl _) _).setCell (Nat.le_refl _) _⟩
/-- The product with a power, unrounded. -/
def uscN (x h l s : Nat) : Nat :=
  if x * h / 18446744073709551616 / 2 ^ s * 2 ^ s ≠ x * h / 18446744073709551616 then x * h / 18446744073709551616 / 2 ^ s ||| 1
  else ((if x * h % 18446744073709551616 < x * l / 18446744073709551616 then (x * h / 18446744073709551616 + 18446744073709551615) % 18446744073709551616 else x * h / 18446744073709551616) / 2 ^ s) |||
    (if 1 < (x * h % 18446744073709551616 + 18446744073709551616 - x * l / 18446744073709551616) % 18446744073709551616 then 1 else 0)
theorem or_small {a b P : Nat} (ha : a < 18446744073709551616) (hb : b ≤ 1) (hP : 256 ≤ P) : a / P ||| b < 72057594037927936 := by
  have h1 : a / P < 2 ^ 56 := by
    rw [Nat.div_lt_iff_lt_mul (by omega)]
    calc a < 2 ^ 56 * 256 := by omega
      _ ≤ 2 ^ 56 * P := Nat.mul_le_mul_left _ hP
  exact Nat.or_lt_two_pow h1 (by omega)
theorem hi_lt {x h : Nat} (hx : x < 18446744073709551616) (hh : h < 18446744073709551616) : x * h / 18446744073709551616 < 18446744073709551616 := by
  rw [Nat.div_lt_iff_lt_mul (by decide)]
  exact Nat.mul_lt_mul'' hx hh
theorem uscN_lt {x h l s : Nat} (hx : x < 18446744073709551616) (hh : h < 18446744073709551616) (hs : 8 ≤ s) : uscN x h l s < 72057594037927936 := by
  have hP : 256 ≤ 2 ^ s := Nat.pow_le_pow_right (show 1 ≤ 2 by decide) hs
  have hH := hi_lt hx hh
  unfold uscN
  generalize x * h / 18446744073709551616 = H at *
  split
  · exact or_small hH (Nat.le_refl _) hP
  · refine or_small ?_ ?_ hP
    · split
      · exact Nat.mod_lt _ (by decide)
      · exact hH
    · split <;> omega
set_option maxHeartbeats 1000000 in
set_option maxRecDepth 100000 in
theorem uscale_any {w : World} {g : Nat} {x h l s : Nat} (hx : x < 18446744073709551616) (hh : h < 18446744073709551616) (hl : l < 18446744073709551616) (h8 : 8 ≤ s) (h63 : s < 64)
    (hg : w.heap[g]? = some (.cells #[.int .u64 (h : Nat), .int .u64 (l : Nat), .int .i64 (s : Nat)] 196 (0, 0))) :
    Calls Tryz.prog 134 #[.int .u64 x, .pointer (some ⟨g, 0, none⟩)] w fun en w' => en = .returned (.int .u64 (uscN x h l s : Nat)) ∧ ∃ n, w' = w.drewN n := by
  have c0 : w.cell? ⟨g, 0, none⟩ = some (.int .u64 (h : Nat)) := block_cell hg rfl
  have c1 : w.cell? ⟨g, 1, none⟩ = some (.int .u64 (l : Nat)) := block_cell hg rfl
  have c2 : w.cell? ⟨g, 2, none⟩ = some (.int .i64 (s : Nat)) := block_cell hg rfl
  have hH := hi_lt hx hh
  have hL := hi_lt hx hl
  have hM : x * h % 18446744073709551616 < 18446744073709551616 := Nat.mod_lt _ (by decide)
  have HMH := Lib.hid (fun w => Tryz.bits_Mul64 x h hx hh w)
  have HML := Lib.hid (fun w => Tryz.bits_Mul64 x l hx hl w)
  have hs63 : bits .and .i64 ((s : Nat) : Int) 63 = ((s : Nat) : Int) := by
    have : ∀ n : Fin 64, bits .and .i64 ((n.val : Nat) : Int) 63 = ((n.val : Nat) : Int) := by decide
    exact this ⟨s, h63⟩
  obtain ⟨P, hP⟩ : ∃ P : Nat, P = 2 ^ s := ⟨_, rfl⟩
  have hPI : (2 : Int) ^ s = (P : Int) := by rw [hP]; simp
  have hP8 : 256 ≤ P := by rw [hP]; exact Nat.pow_le_pow_right (show 1 ≤ 2 by decide) h8
  have HU : Hid (uscN x h l s = if x * h / 18446744073709551616 / P * P ≠ x * h / 18446744073709551616 then x * h / 18446744073709551616 / P ||| 1
    else ((if x * h % 18446744073709551616 < x * l / 18446744073709551616 then (x * h / 18446744073709551616 + 18446744073709551615) % 18446744073709551616 else x * h / 18446744073709551616) / P) |||
    (if 1 < (x * h % 18446744073709551616 + 18446744073709551616 - x * l / 18446744073709551616) % 18446744073709551616 then 1 else 0)) := Lib.hid (by rw [hP]; rfl)
  obtain ⟨U, hU⟩ : ∃ U, uscN x h l s = U := ⟨_, rfl⟩
  rw [hU] at HU ⊢
  clear hP hU
  generalize x * h / 18446744073709551616 = H at *
  generalize x * h % 18446744073709551616 = M at *
  generalize x * l / 18446744073709551616 = L at *
  generalize x * l % 18446744073709551616 = L2 at *
  have hdiv : (H : Int) / (P : Int) = ((H / P : Nat) : Int) := by simp
  have hle : H / P * P ≤ H := Nat.div_mul_le_self H P
  have hle2 : H / P ≤ H := Nat.div_le_self H P
  have hmulI : ((H / P : Nat) : Int) * (P : Int) = ((H / P * P : Nat) : Int) := by simp
  obtain ⟨Q, hQ⟩ : ∃ Q, H / P = Q := ⟨_, rfl⟩
  obtain ⟨R, hR⟩ : ∃ R, H / P * P = R := ⟨_, rfl⟩
  rw [hR] at hmulI hle HU
  rw [hQ] at hdiv hmulI hle2 HU
  by_cases hne : R ≠ H
  · have hneI : ((R : Int) != (H : Int)) = true := by simp; omega
    have hor := u64_or_nat Q 1 (by omega) (by decide)
    rw [show ((1 : Nat) : Int) = 1 from rfl] at hor
    have HE : Hid (U = Q ||| 1) := Lib.hid (by rw [HU.out, if_pos hne])
    clear HU hQ hR hne
    go_enter Tryz.func134, Tryz.ntmps134
    go_wp2_with fail
    refine (HMH.out _).mono ?_
    rintro e w2 ⟨rfl, rfl⟩
    go_wp2_with fail
    go_ret
    exact ⟨by rw [HE.out]; rfl, 0, rfl⟩
  · have hneI : ((R : Int) != (H : Int)) = false := by simp; omega
    have HE : Hid (U = ((if M < L then (H + 18446744073709551615) % 18446744073709551616 else H) / P) ||| (if 1 < (M + 18446744073709551616 - L) % 18446744073709551616 then 1 else 0)) := Lib.hid (by rw [HU.out, if_neg hne])
    clear HU hQ hR hne
    have HB := Lib.hid bool2_any
    obtain ⟨D, hD⟩ : ∃ D, (M + 18446744073709551616 - L) % 18446744073709551616 = D := ⟨_, rfl⟩
    have hDI : IntKind.u64.wrap ((M : Int) - (L : Int)) = ((D : Nat) : Int) := by
      rw [← hD]
      simp [IntKind.wrap, IntKind.bits, IntKind.signed]
      omega
    have hDl : D < 18446744073709551616 := by rw [← hD]; exact Nat.mod_lt _ (by decide)
    rw [hD] at HE
    obtain ⟨H2, hH2⟩ : ∃ H2, (if M < L then (H + 18446744073709551615) % 18446744073709551616 else H) = H2 := ⟨_, rfl⟩
    rw [hH2] at HE
    have hH2l : H2 < 18446744073709551616 := by
      rw [← hH2]
      split
      · exact Nat.mod_lt _ (by decide)
      · exact hH
    have hHI : ∀ b : Bool, b = decide (M < L) → IntKind.u64.wrap ((H : Int) - (if b = true then 1 else 0)) = ((H2 : Nat) : Int) := by
      intro b hb
      subst hb
      rw [← hH2]
      by_cases hlt : M < L
      · simp [hlt, IntKind.wrap, IntKind.bits, IntKind.signed]
        omega
      · simp [hlt, IntKind.wrap, IntKind.bits, IntKind.signed]
        omega
    have HHI := Lib.hid hHI
    have HQ2 : (H2 : Int) / (P : Int) = ((H2 / P : Nat) : Int) := by simp
    obtain ⟨Q2, hQ2⟩ : ∃ Q2, H2 / P = Q2 := ⟨_, rfl⟩
    have hQ2l : Q2 < 18446744073709551616 := by rw [← hQ2]; exact Nat.lt_of_le_of_lt (Nat.div_le_self _ _) hH2l
    rw [hQ2] at HQ2 HE
    have hH2f : ¬ M < L → H2 = H := fun h => by rw [← hH2, if_neg h]
    clear hHI hQ2 hD hH2
    have HBQ : Hid (∀ (b : Bool) (w : World) (n : Nat), Calls Tryz.prog 106 #[.bool b] (w.drewN n) fun e w' => e = .returned (.int .u64 (if b then 1 else 0)) ∧ ∃ n, w' = w.drewN n) := Lib.hid fun b w n =>
      (bool2_any b (w.drewN n)).mono fun _ _ ⟨h1, h2⟩ => ⟨h1, n, h2.symm⟩
    by_cases hML : M < L
    · have hb1 : IntKind.u64.wrap ((H : Int) - 1) = ((H2 : Nat) : Int) := HHI.out true (by simp [hML])
      have hMLI : (M : Int) < (L : Int) := by omega
      clear hML HHI
      by_cases hD1 : 1 < D
      · skip
        have hDI1 : (1 : Int) < (D : Int) := by omega
        have hor := u64_or_nat Q2 1 (by omega) (by decide)
        rw [show ((1 : Nat) : Int) = 1 from rfl] at hor
        have HE2 : Hid (U = Q2 ||| 1) := Lib.hid (by rw [HE.out, if_pos hD1])
        clear HE hD1
        go_enter Tryz.func134, Tryz.ntmps134
        go_wp2_with fail
        refine (HMH.out _).mono ?_
        rintro e w2 ⟨rfl, rfl⟩
        go_wp2_with fail
        refine (HML.out _).mono ?_
        rintro e w3 ⟨rfl, rfl⟩
        go_wp2_with fail
        refine (HB.out _ _).mono ?_
        rintro e w4 ⟨rfl, rfl⟩
        go_wp2_with fail
        go_quiet ((go_at_call 106; exact HBQ.out _ _ _))
        go_wp2_with fail
        all_goals first
          | (exfalso; omega)
          | (go_ret; exact ⟨by rw [HE2.out]; rfl, _, rfl⟩)
      · skip
        have hDI1 : ¬ ((1 : Int) < (D : Int)) := by omega
        have hor := u64_or_nat Q2 0 (by omega) (by decide)
        rw [show ((0 : Nat) : Int) = 0 from rfl, Nat.or_zero] at hor
        have HE2 : Hid (U = Q2) := Lib.hid (by rw [HE.out, if_neg hD1, Nat.or_zero])
        clear HE hD1
        go_enter Tryz.func134, Tryz.ntmps134
        go_wp2_with fail
        refine (HMH.out _).mono ?_
        rintro e w2 ⟨rfl, rfl⟩
        go_wp2_with fail
        refine (HML.out _).mono ?_
        rintro e w3 ⟨rfl, rfl⟩
        go_wp2_with fail
        refine (HB.out _ _).mono ?_
        rintro e w4 ⟨rfl, rfl⟩
        go_wp2_with fail
        go_quiet ((go_at_call 106; exact HBQ.out _ _ _))
        go_wp2_with fail
        all_goals first
          | (exfalso; omega)
          | (go_ret; exact ⟨by rw [HE2.out]; rfl, _, rfl⟩)
    · have hb1 : H2 = H := by rw [hH2f hML]
      have hq2 : Q2 = Q := by
        have := HQ2
        rw [hb1, hdiv] at this
        omega
      clear HQ2 hb1
      subst hq2
      have hMLI : ¬ ((M : Int) < (L : Int)) := by omega
      clear hML HHI
      by_cases hD1 : 1 < D
      · skip
        have hDI1 : (1 : Int) < (D : Int) := by omega
        have hor := u64_or_nat Q2 1 (by omega) (by decide)
        rw [show ((1 : Nat) : Int) = 1 from rfl] at hor
        have HE2 : Hid (U = Q2 ||| 1) := Lib.hid (by rw [HE.out, if_pos hD1])
        clear HE hD1
        go_enter Tryz.func134, Tryz.ntmps134
        go_wp2_with fail
        refine (HMH.out _).mono ?_
        rintro e w2 ⟨rfl, rfl⟩
        go_wp2_with fail
        refine (HML.out _).mono ?_
        rintro e w3 ⟨rfl, rfl⟩
        go_wp2_with fail
        refine (HB.out _ _).mono ?_
        rintro e w4 ⟨rfl, rfl⟩
        go_wp2_with fail
        go_quiet ((go_at_call 106; exact HBQ.out _ _ _))
        go_wp2_with fail
        all_goals first
          | (exfalso; omega)
          | (go_ret; exact ⟨by rw [HE2.out]; rfl, _, rfl⟩)
      · skip
        have hDI1 : ¬ ((1 : Int) < (D : Int)) := by omega
        have hor := u64_or_nat Q2 0 (by omega) (by decide)
        rw [show ((0 : Nat) : Int) = 0 from rfl, Nat.or_zero] at hor
        have HE2 : Hid (U = Q2) := Lib.hid (by rw [HE.out, if_neg hD1, Nat.or_zero])
        clear HE hD1
        go_enter Tryz.func134, Tryz.ntmps134
        go_wp2_with fail
        refine (HMH.out _).mono ?_
        rintro e w2 ⟨rfl, rfl⟩
        go_wp2_with fail
        refine (HML.out _).mono ?_
        rintro e w3 ⟨rfl, rfl⟩
        go_wp2_with fail
        refine (HB.out _ _).mono ?_
        rintro e w4 ⟨rfl, rfl⟩
        go_wp2_with fail
        go_quiet ((go_at_call 106; exact HBQ.out _ _ _))
        go_wp2_with fail
        all_goals first
          | (exfalso; omega)
          | (go_ret; exact ⟨by rw [HE2.out]; rfl, _, rfl⟩)
end Go.Proofs.YtbgjhgohffkonaaGreatDoor

