/- LexNumbers: the walk. -/
import Derived.Test.YtnhdedoobagbbaaGreatDoorNumbersP
import Derived.Test.YtnhdedoobagbbaaGreatDoorPlacesW
import Derived.BigQuiet
import Derived.Laws.IdiomStrings
namespace Go.Proofs.YtnhdedoobagbbaaGreatDoor
open Go.RowKit
open Go.Lib (decDigits)

theorem nw_app (a b : ByteArray) : (a ++ b).data.toList = a.data.toList ++ b.data.toList := by
  rw [ByteArray.data_append, Array.toList_append]
def whN (n : Int) : Nat := if n < 0 then (-(n + 1)).toNat else n.toNat
set_option maxRecDepth 100000 in
theorem whole_any (n : Int) (h1 : -9223372036854775808 ≤ n) (h2 : n ≤ 9223372036854775807) (w : World) : Calls Tryz.prog 9 #[.int .i64 n] w fun e w' => e = .returned (.int .i64 (whN n : Nat)) ∧ w = w' := by
  by_cases h : n < 0
  · have HE : Hid ((whN n : Int) = -(n + 1)) := Lib.hid (by unfold whN; rw [if_pos h]; omega)
    generalize whN n = m at *
    go_enter Tryz.func9, Tryz.ntmps9
    go_wp2_with fail
    go_ret
    exact ⟨by rw [HE.out]; rfl, rfl⟩
  · have HE : Hid ((whN n : Int) = n) := Lib.hid (by unfold whN; rw [if_neg h]; omega)
    generalize whN n = m at *
    go_enter Tryz.func9, Tryz.ntmps9
    go_wp2_with fail
    go_ret
    exact ⟨by rw [HE.out]; rfl, rfl⟩
theorem whN_le {n : Int} (h1 : -9223372036854775808 ≤ n) (h2 : n ≤ 9223372036854775807) : whN n ≤ 9223372036854775807 := by
  unfold whN
  split <;> omega
/-- One byte, made a string. -/
theorem conv_one (c : UInt8) (w : World) : (convert 36 9 (.slice (some ⟨w.heap.size, 0, none⟩) 1 1)).run Tryz.prog (w.alloc (.cells #[.int .u8 c.toNat] 5)) = .ok (.string ⟨#[c]⟩) (w.alloc (.cells #[.int .u8 c.toNat] 5)) :=
  run_convert_bytes_back _ 36 9 5 ⟨w.heap.size, 0, none⟩ 1 [c] Tryz.underlying36 Tryz.underlying5 Tryz.underlying9 fun j hj => by
    have hj0 : j = 0 := by simp at hj; omega
    subst hj0
    exact block_cell (i := 0) (block_new _ _ rfl) rfl
theorem conv_num (m : Nat) (w : World) (x : Int) (hx : x = ((m % 10 : Nat) : Int)) : (convert 36 9 (.slice (some ⟨w.heap.size, 0, none⟩) 1 1)).run Tryz.prog (w.alloc (.cells #[.int .u8 (48 + x)] 5)) = .ok (.string ⟨#[UInt8.ofNat (48 + m % 10)]⟩) (w.alloc (.cells #[.int .u8 (48 + x)] 5)) := by
  have h := conv_one (UInt8.ofNat (48 + m % 10)) w
  have e : ((UInt8.ofNat (48 + m % 10)).toNat : Int) = 48 + x := by
    rw [nd_nat (by omega), hx]
    omega
  rw [e] at h
  exact h
def restD (m : Nat) : List UInt8 := if 9 < m then decDigits (m / 10) else []
theorem restD_step {m : Nat} (h : 9 < m) : restD m = restD (m / 10) ++ [UInt8.ofNat (48 + m / 10 % 10)] := by
  unfold restD
  rw [if_pos h, decDigits]
  split
  · rename_i h2
    rw [if_neg (by omega), Nat.mod_eq_of_lt h2]
    rfl
  · rename_i h2
    rw [if_pos (by omega)]
theorem restD_start (n : Nat) : decDigits n = restD n ++ [UInt8.ofNat (48 + n % 10)] := by
  unfold restD
  rw [decDigits]
  split
  · rename_i h2
    rw [if_neg (by omega), Nat.mod_eq_of_lt h2]
    rfl
  · rename_i h2
    rw [if_pos (by omega)]
set_option maxHeartbeats 1000000 in
set_option maxRecDepth 100000 in
theorem digits_any {n : Nat} (hn : n ≤ 9223372036854775807) (w : World) : Calls Tryz.prog 10 #[.int .i64 n] w fun e w' => e = .returned (.string ⟨(decDigits n).toArray⟩) ∧ Below w.heap.size w w' := by
  have hlen := dec_len (u := n) 18 (by omega)
  have hcv := conv_num n w ((n : Int) % 10) (by omega)
  have HST := Lib.hid (restD_start n)
  have HLEN := Lib.hid hlen
  clear hlen
  generalize UInt8.ofNat (48 + n % 10) = c0 at *
  go_enter Tryz.func10, Tryz.ntmps10
  go_wp2_with fail
  go_loopw [0, 3] (fun v o wr => ∃ (m : Nat) (S : ByteArray), m ≤ n ∧ v = .int .i64 m ∧ o = .string S ∧ Hid (decDigits n = restD m ++ S.data.toList) ∧ Below w.heap.size w wr) (fun v _ _ => (intOf v).toNat)
  case atStart => exact ⟨n, ⟨#[c0]⟩, Nat.le_refl _, rfl, rfl, HST, (Below.refl _ _).alloc (Nat.le_refl _) _⟩
  case round =>
    clear hcv HST
    obtain ⟨m, S, hm, rfl, rfl, hS, hb⟩ := hrel
    have hSs : S.size ≤ 100 := by
      have e := congrArg List.length hS.out
      have := HLEN.out
      have hl : S.data.toList.length = S.size := Array.length_toList
      rw [List.length_append] at e
      omega
    by_cases h9 : 9 < m
    · have h9I : (9 : Int) < (m : Int) := by omega
      have hcv := conv_num (m / 10) wr ((m : Int) / 10 % 10) (by omega)
      have HST := Lib.hid (restD_step h9)
      generalize UInt8.ofNat (48 + m / 10 % 10) = c1 at *
      go_wp2_with fail
      go_roundw
      case rel => exact ⟨m / 10, _, by omega, by go_num, rfl, Lib.hid (by rw [hS.out, HST.out, nw_app, List.append_assoc]), hb.alloc hb.size _⟩
      case measure => simp [intOf]; omega
    · have h9I : ¬ ((9 : Int) < (m : Int)) := by omega
      have HE : Hid (S = ⟨(decDigits n).toArray⟩) := Lib.hid (by
        apply ba_ext
        rw [hS.out]
        unfold restD
        rw [if_neg h9]
        rfl)
      go_wp2_with fail
      go_ret
      exact ⟨by rw [HE.out]; rfl, hb⟩
theorem fault_in (p e : Int) (w : World) : (Op.equalIn 10000 30 (.agg #[.int .i64 p, .int .i64 e]) (.agg #[.int .i64 p, .int .i64 e])).run Tryz.prog w = .ok true w := by
  rw [run_equalIn_agg (P := Tryz.prog) w 9999 30 _ _ (by kernel_rfl) (by kernel_rfl)]
  simp [go_sem, Tryz.underlying30, Tryz.underlying3, Tryz.underlying28]
set_option maxHeartbeats 1000000 in
set_option maxRecDepth 100000 in
theorem numbers_law {NG : Nat} {w : World} (hG : GW NG w) (hH : HndG w) (n m : Int) (hn1 : -9223372036854775808 ≤ n) (hn2 : n ≤ 9223372036854775807) (hm1 : -9223372036854775808 ≤ m) (hm2 : m ≤ 9223372036854775807) :
    Calls Tryz.prog 5 #[.int .i64 n, .int .i64 m] w fun e w' => e = .returned (.bool true) ∧ Below w.heap.size w w' := by
  have hE : 0 < w.heap.size := World.block_lt_of_cell? w _ hH
  have HW1 := Lib.hid (whole_any n hn1 hn2)
  have HW2 := Lib.hid (whole_any m hm1 hm2)
  have hu := whN_le hn1 hn2
  have hv := whN_le hm1 hm2
  generalize whN n = u at *
  generalize whN m = v at *
  have HD1 := Lib.hid (digits_any hu)
  have HD2 := Lib.hid (digits_any hv)
  obtain ⟨S, hS⟩ : ∃ S : ByteArray, ⟨(decDigits u).toArray⟩ = S := ⟨_, rfl⟩
  obtain ⟨V, hV⟩ : ∃ V : ByteArray, ⟨(decDigits v).toArray⟩ = V := ⟨_, rfl⟩
  rw [hS] at HD1
  rw [hV] at HD2
  have hl1 : lexP pfA S = .ok [⟨2, S, u, 0, 0⟩, ⟨0, ⟨#[]⟩, 0, 0, (decDigits u).length⟩] := by rw [← hS]; exact lex_int hu
  have hl2 : lexP pfA (⟨#[48]⟩ ++ S) = .error (0, 4) := by
    have e : (⟨#[48]⟩ ++ S : ByteArray) = ⟨(48 :: decDigits u).toArray⟩ := by
      apply ba_ext
      rw [nw_app, ← hS]
      rfl
    rw [e]
    exact lex_nought hu
  obtain ⟨f, hl3⟩ : ∃ f, lexP pfA (S ++ ⟨#[46]⟩ ++ V) = .ok [⟨3, S ++ ⟨#[46]⟩ ++ V, 0, f, 0⟩, ⟨0, ⟨#[]⟩, 0, 0, (decDigits u ++ 46 :: decDigits v).length⟩] := by
    have e : (S ++ ⟨#[46]⟩ ++ V : ByteArray) = ⟨(decDigits u ++ 46 :: decDigits v).toArray⟩ := by
      apply ba_ext
      rw [nw_app, nw_app, ← hS, ← hV]
      simp
    rw [e]
    exact lex_float hu hv
  have HA1 := Lib.hid (fun (w' : World) (hb : Below w.heap.size w w') => All_pf (s := S) (hG.keeps hG.2 hb))
  have HA2 := Lib.hid (fun (w' : World) (hb : Below w.heap.size w w') => All_pf (s := ⟨#[48]⟩ ++ S) (hG.keeps hG.2 hb))
  have HA3 := Lib.hid (fun (w' : World) (hb : Below w.heap.size w w') => All_pf (s := S ++ ⟨#[46]⟩ ++ V) (hG.keeps hG.2 hb))
  rw [hl1] at HA1
  rw [hl2] at HA2
  rw [hl3] at HA3
  have hss : S.size ≤ 100 := by
    have := dec_len (u := u) 18 (by omega)
    rw [← hS]
    show (decDigits u).length ≤ 100
    omega
  have hsv : V.size ≤ 100 := by
    have := dec_len (u := v) 18 (by omega)
    rw [← hV]
    show (decDigits v).length ≤ 100
    omega
  clear hl1 hl2 hl3 hS hV
  generalize (decDigits u).length = L1 at *
  generalize (decDigits u ++ 46 :: decDigits v).length = L3 at *
  go_enter Tryz.func5, Tryz.ntmps5
  go_wp2_with fail
  refine (shownA_any hG).mono ?_
  rintro e w1 ⟨rfl, hb1⟩
  go_wp2_with fail
  refine (HW1.out _).mono ?_
  rintro e w1' ⟨rfl, rfl⟩
  go_wp2_with fail
  refine (HW2.out _).mono ?_
  rintro e w1' ⟨rfl, rfl⟩
  go_wp2_with fail
  refine (HD1.out _).mono ?_
  rintro e w2 ⟨rfl, hb2⟩
  have hB2 : Below w.heap.size w w2 := hb1.trans (hb2.mono hb1.size)
  go_wp2_with fail
  refine (HA1.out _ hB2).mono ?_
  rintro e w3 ⟨⟨out, rfl, hown⟩, hb3⟩
  have hB3 : Below w.heap.size w w3 := hB2.trans (hb3.mono hB2.size)
  obtain ⟨oa, oc, rfl⟩ := own_shape hown
  obtain ⟨g, rfl, hg, _, d0, d1, d2, d3, d4⟩ := own_tok hown rfl (i := 0) rfl
  simp only [Nat.zero_mul, Nat.zero_add] at d0 d1 d2 d3 d4
  have hin := fun W => tok_in (k := 2) (n := (u : Int)) (p := 0) (nm := S) (b := 0) (Nat.zero_le _) W
  have hin2 := fun W => tok_neq (k := 2) (n := (u : Int)) (p := 0) (nm := S) (b := 0) (Nat.zero_le _) W
  clear HW1 HW2 HD1 HA1 hb1 hb2 hb3
  go_wp2_with fail
  refine (HA2.out _ hB3).mono ?_
  rintro e w4 ⟨⟨v4, rfl, f4, rfl, hft⟩, hb4⟩
  have hB4 : Below w.heap.size w w4 := hB3.trans (hb4.mono hB3.size)
  have HFS := Lib.hid (fault_says (hH.keeps hE hB4) hft)
  clear HA2 hft hin hin2 d0 d1 d2 d3 d4 hown
  go_wp2_with fail
  refine HFS.out.mono ?_
  rintro e w5 ⟨rfl, hb5⟩
  have hB5 : Below w.heap.size w w5 := hB4.trans (hb5.mono hB4.size)
  have hfi := fault_in 0 4
  clear HFS
  go_wp2_with fail
  refine (HD2.out _).mono ?_
  rintro e w6 ⟨rfl, hb6⟩
  have hB6 : Below w.heap.size w w6 := hB5.trans (hb6.mono hB5.size)
  clear HD2 hfi
  go_wp2_with fail
  refine (HA3.out _ hB6).mono ?_
  rintro e w7 ⟨⟨out7, rfl, hown7⟩, hb7⟩
  have hB7 : Below w.heap.size w w7 := hB6.trans (hb7.mono hB6.size)
  obtain ⟨oa7, oc7, rfl⟩ := own_shape hown7
  obtain ⟨g7, rfl, _, _, d0, d1, d2, d3, d4⟩ := own_tok hown7 rfl (i := 0) rfl
  simp only [Nat.zero_mul, Nat.zero_add] at d0 d1 d2 d3 d4
  clear HA3 hown7
  generalize (S ++ ⟨#[46]⟩ ++ V : ByteArray) = T at *
  go_wp2_with fail
  go_ret
  exact ⟨rfl, hB7⟩
end Go.Proofs.YtnhdedoobagbbaaGreatDoor
