/- ParseTwice: the walk. -/
import Derived.Test.YtppljgallbmgcaaGreatDoorTwiceP
import Derived.Test.YtppljgallbmgcaaGreatDoorParNR
import Derived.Test.YtppljgallbmgcaaGreatDoorStrAid
import Derived.RegionTactic
import Derived.Test.YtppljgallbmgcaaGreatDoorRegTabA
namespace Go.Proofs.YtppljgallbmgcaaGreatDoor
open Go.RowKit Go.Shelf
/-- The names that the law takes. -/
def tkL (ns : Nat → Int) : Nat → List Nat
  | 0 => []
  | n + 1 => tkL ns n ++ [whN (ns n) % 60]
theorem tkL_len (ns : Nat → Int) (n : Nat) : (tkL ns n).length = n := by
  induction n with
  | zero => rfl
  | succ n ih => simp [tkL, ih]
theorem tkL_lt (ns : Nat → Int) (n : Nat) : ∀ x ∈ tkL ns n, x < 60 := by
  induction n with
  | zero => intro x hx; cases hx
  | succ n ih =>
    intro x hx
    rcases List.mem_append.1 hx with hx | hx
    · exact ih x hx
    · simp at hx
      subst hx
      exact Nat.mod_lt _ (by omega)
theorem dup_snoc : ∀ (L seen : List Nat) (n : Nat), dup seen (L ++ [n]) = match dup seen L with | some d => some d | none => if (seen ++ L).contains n then some L.length else none
  | [], seen, n => by
    simp only [List.nil_append, dup, List.append_nil, Option.map_none, List.length_nil]
  | a :: L, seen, n => by
    have ih := dup_snoc L (seen ++ [a]) n
    simp only [List.cons_append, dup]
    by_cases h : seen.contains a = true
    · rw [if_pos h, if_pos h]
    · rw [if_neg h, if_neg h, ih]
      cases dup (seen ++ [a]) L with
      | some d => rfl
      | none =>
        simp only [Option.map_none]
        rw [List.append_assoc]
        simp only [List.singleton_append, List.length_cons]
        by_cases h2 : (seen ++ a :: L).contains n = true
        · rw [if_pos h2, if_pos h2]; rfl
        · rw [if_neg h2, if_neg h2]; rfl
/-- What 'bad' holds. -/
def badV (y : Nat) (L : List Nat) : Int := match dup [] L with | some d => (((twH y).length + 9 * d : Nat) : Int) | none => -1
theorem badV_step (y : Nat) (L : List Nat) (n : Nat) : badV y (L ++ [n]) = if badV y L < 0 then (if L.contains n then (((twH y).length + 9 * L.length : Nat) : Int) else -1) else badV y L := by
  unfold badV
  rw [dup_snoc, List.nil_append]
  cases dup [] L with
  | some d =>
    simp only
    rw [if_neg (by omega)]
  | none =>
    simp only
    rw [if_pos (show (-1 : Int) < 0 by decide)]
    by_cases h : L.contains n = true
    · rw [if_pos h, if_pos h]
    · rw [if_neg h, if_neg h]
theorem badV_le (y : Nat) (L : List Nat) (hL : L.length ≤ 40) : -1 ≤ badV y L ∧ badV y L ≤ 1000 := by
  have hd : ∀ (L seen : List Nat) (d : Nat), dup seen L = some d → d < L.length := by
    intro L
    induction L with
    | nil => intro seen d h; cases h
    | cons a L ih =>
      intro seen d h
      unfold dup at h
      split at h
      · cases h; simp
      · cases h2 : dup (seen ++ [a]) L with
        | none => rw [h2] at h; cases h
        | some e =>
          rw [h2] at h
          cases h
          have := ih _ _ h2
          simp
          omega
  have hh : (twH y).length ≤ 6 := by unfold twH; split <;> decide
  unfold badV
  split
  · rename_i d h
    have := hd _ _ _ h
    omega
  · omega
theorem tw_row {w : World} {x : Nat} (hx : x < 3) (ty : TypeId) : (w.alloc (.cells #[.string ⟨#[123, 32]⟩, .string ⟨#[114, 101, 99, 32, 123, 32]⟩, .string ⟨#[108, 101, 116, 32]⟩] ty)).cell? ⟨w.heap.size, x, none⟩ = some (.string (baL (twH x))) := by
  rcases (show x = 0 ∨ x = 1 ∨ x = 2 by omega) with rfl | rfl | rfl <;> exact block_cell (block_new _ _ rfl) rfl
theorem tw_row2 {w : World} {x : Nat} (hx : x < 3) (ty : TypeId) : (w.alloc (.cells #[.string ⟨#[125]⟩, .string ⟨#[125]⟩, .string ⟨#[105, 110, 32, 49]⟩] ty)).cell? ⟨w.heap.size, x, none⟩ = some (.string (baL (twE x))) := by
  rcases (show x = 0 ∨ x = 1 ∨ x = 2 by omega) with rfl | rfl | rfl <;> exact block_cell (block_new _ _ rfl) rfl
theorem nd_toNat {k : Nat} (h : k < 10) : ((UInt8.ofNat (48 + k)).toNat : Int) = 48 + (k : Int) := by
  rw [UInt8.toNat_ofNat']
  omega
theorem conv_two (a b : UInt8) (w : World) : (convert 45 9 (.slice (some ⟨w.heap.size, 0, none⟩) 2 2)).run Tryz.prog (w.alloc (.cells #[.int .u8 a.toNat, .int .u8 b.toNat] 5)) = .ok (.string ⟨#[a, b]⟩) (w.alloc (.cells #[.int .u8 a.toNat, .int .u8 b.toNat] 5)) :=
  run_convert_bytes_back _ 45 9 5 ⟨w.heap.size, 0, none⟩ 2 [a, b] Tryz.underlying45 Tryz.underlying5 Tryz.underlying9 fun j hj => by
    have hj2 : j < 2 := by simpa using hj
    rcases (show j = 0 ∨ j = 1 by omega) with rfl | rfl
    · exact block_cell (i := 0) (block_new _ _ rfl) rfl
    · exact block_cell (i := 1) (block_new _ _ rfl) rfl
theorem conv_one (c : UInt8) (w : World) : (convert 45 9 (.slice (some ⟨w.heap.size, 0, none⟩) 1 1)).run Tryz.prog (w.alloc (.cells #[.int .u8 c.toNat] 5)) = .ok (.string ⟨#[c]⟩) (w.alloc (.cells #[.int .u8 c.toNat] 5)) :=
  run_convert_bytes_back _ 45 9 5 ⟨w.heap.size, 0, none⟩ 1 [c] Tryz.underlying45 Tryz.underlying5 Tryz.underlying9 fun j hj => by
    have hj0 : j = 0 := by simp at hj; omega
    subst hj0
    exact block_cell (i := 0) (block_new _ _ rfl) rfl
theorem bind_step (y : Nat) (L : List Nat) (n : Nat) : baL (twH y ++ twL 0 L) ++ ⟨#[110]⟩ ++ ⟨#[UInt8.ofNat (48 + n / 10), UInt8.ofNat (48 + n % 10)]⟩ ++ ⟨#[32, 61, 32]⟩ ++ ⟨#[UInt8.ofNat (48 + L.length % 10)]⟩ ++ ⟨#[59, 32]⟩ = baL (twH y ++ twL 0 (L ++ [n])) := by
  rw [baL_app, baL_app, baL_app, baL_app, baL_app, twL_app]
  simp [twL]
theorem conv_twoD {d1 d2 : Nat} (h1 : d1 < 10) (h2 : d2 < 10) (w : World) : (convert 45 9 (.slice (some ⟨w.heap.size, 0, none⟩) 2 2)).run Tryz.prog (w.alloc (.cells #[.int .u8 (48 + (d1 : Int)), .int .u8 (48 + (d2 : Int))] 5)) = .ok (.string ⟨#[UInt8.ofNat (48 + d1), UInt8.ofNat (48 + d2)]⟩) (w.alloc (.cells #[.int .u8 (48 + (d1 : Int)), .int .u8 (48 + (d2 : Int))] 5)) := by
  have h := conv_two (UInt8.ofNat (48 + d1)) (UInt8.ofNat (48 + d2)) w
  rw [nd_toNat h1, nd_toNat h2] at h
  exact h
theorem conv_oneD {d : Nat} (h1 : d < 10) (w : World) : (convert 45 9 (.slice (some ⟨w.heap.size, 0, none⟩) 1 1)).run Tryz.prog (w.alloc (.cells #[.int .u8 (48 + (d : Int))] 5)) = .ok (.string ⟨#[UInt8.ofNat (48 + d)]⟩) (w.alloc (.cells #[.int .u8 (48 + (d : Int))] 5)) := by
  have h := conv_one (UInt8.ofNat (48 + d)) w
  rw [nd_toNat h1] at h
  exact h
theorem conv_oneD1 {d : Nat} (h1 : d < 10) (w : World) (X : Obj) : (convert 45 9 (.slice (some ⟨w.heap.size + 1, 0, none⟩) 1 1)).run Tryz.prog ((w.alloc X).alloc (.cells #[.int .u8 (48 + (d : Int))] 5)) = .ok (.string ⟨#[UInt8.ofNat (48 + d)]⟩) ((w.alloc X).alloc (.cells #[.int .u8 (48 + (d : Int))] 5)) := by
  have h := conv_oneD h1 (w.alloc X)
  rw [show (w.alloc X).heap.size = w.heap.size + 1 by simp] at h
  exact h
theorem conv_at (a b : UInt8) (w : World) (bk : Nat) (h : w.heap[bk]? = some (.cells #[.int .u8 a.toNat, .int .u8 b.toNat] 5 (0, 0))) : (convert 45 9 (.slice (some ⟨bk, 0, none⟩) 2 2)).run Tryz.prog w = .ok (.string ⟨#[a, b]⟩) w :=
  run_convert_bytes_back _ 45 9 5 ⟨bk, 0, none⟩ 2 [a, b] Tryz.underlying45 Tryz.underlying5 Tryz.underlying9 fun j hj => by
    have hj2 : j < 2 := by simpa using hj
    rcases (show j = 0 ∨ j = 1 by omega) with rfl | rfl
    · exact block_cell (i := 0) h rfl
    · exact block_cell (i := 1) h rfl
theorem tk_contains (L : List Nat) (z : Nat) : L.contains z = true ↔ ∃ p : Nat, L[p]? = some z := by
  rw [List.contains_iff_mem, List.mem_iff_getElem?]
set_option maxHeartbeats 8000000 in
set_option maxRecDepth 100000 in
theorem twice_law {NG : Nat} {w : World} (hG : GP NG w) (hE : HndG w) {v : Value} {len : Nat} {ns : Nat → Int} (hns : NZ w v len ns) (x : Int) (hx1 : -9223372036854775808 ≤ x) (hx2 : x ≤ 9223372036854775807) :
    Calls Tryz.prog 10 #[v, .int .i64 x] w fun e w' => e = .returned (.bool true) ∧ Below w.heap.size w w' := by
  have HSH := Lib.hid (shown_any hG)
  have HGW := Lib.hid (fun (w' : World) (hb : Below w.heap.size w w') t => Parse_any (hG.below hb) t)
  have HEW := Lib.hid (fun (w' : World) (hb : Below w.heap.size w w') => hE.keeps hb)
  obtain ⟨va, vc, hv, hlen⟩ : ∃ va vc, v = .slice va len vc ∧ len ≤ 9223372036854775807 := by
    rcases hns with ⟨h1, h2⟩ | ⟨a, cap, h1, h2, _⟩
    · exact ⟨none, 0, by rw [h1, h2], by omega⟩
    · exact ⟨some a, cap, h1, h2⟩
  subst hv
  have HNS := Lib.hid (show ∀ j, j < len → ∃ a, va = some a ∧ w.cell? (a.add j) = some (.int .i64 (ns j)) ∧ -9223372036854775808 ≤ ns j ∧ ns j ≤ 9223372036854775807 by
    intro j hj
    rcases hns with ⟨_, h2⟩ | ⟨a, cap, h1, h2, h3⟩
    · omega
    · cases h1
      exact ⟨a, rfl, h3 j hj⟩)
  clear hG hE hns
  have hwl := whN_le hx1 hx2
  have HWN := Lib.hid (fun h : x < 0 => whN_neg h)
  have HWP := Lib.hid (fun h : 0 ≤ x => whN_pos h)
  generalize whN x = q at *
  go_enter Tryz.func10, Tryz.ntmps10
  go_wp2_with fail
  refine HSH.out.mono ?_
  rintro e w2 ⟨rfl, hb2⟩
  have HB2 := Lib.hid hb2
  clear hb2
  go_upto_if 18 with fail
  go_cut [1] from 19 to 21 (fun v wx => v = .int .i64 (q : Int) ∧ wx = w2)
  case first =>
    by_cases hneg : x < 0
    · have HH := Lib.hid (HWN.out hneg)
      go_wp2_with fail
      go_meet
      exact ⟨by rw [HH.out], rfl⟩
    · have HH := Lib.hid (HWP.out (by omega))
      go_wp2_with fail
      go_meet
      exact ⟨by rw [HH.out], rfl⟩
  case rest =>
    obtain ⟨rfl, rfl⟩ := hcut
    clear HWN HWP
    obtain ⟨y, hy⟩ : ∃ y, q % 3 = y := ⟨_, rfl⟩
    have hyI : (q : Int).tmod 3 = (y : Int) := by rw [Int.tmod_eq_emod_of_nonneg (by omega)]; omega
    have hy3 : y < 3 := by omega
    have hyL : (y : Int) < 3 := by omega
    clear hy
    have c1 := tw_row (w := wc) hy3 9
    have HBn := Lib.hid (HB2.out.alloc HB2.out.size (.cells #[.string ⟨#[123, 32]⟩, .string ⟨#[114, 101, 99, 32, 123, 32]⟩, .string ⟨#[108, 101, 116, 32]⟩] 9))
    go_upto_block 0 with fail
    generalize wc.alloc (.cells #[.string ⟨#[123, 32]⟩, .string ⟨#[114, 101, 99, 32, 123, 32]⟩, .string ⟨#[108, 101, 116, 32]⟩] 9) = w5 at *
    clear c1
    go_cut [6, 7, 8] from 9 to 91 (fun s6 s7 s8 wr => ∃ j : Nat, j ≤ len ∧ j ≤ 40 ∧ s6 = .string (baL (twH y ++ twL 0 (tkL ns j))) ∧ s7 = .int .i64 (badV y (tkL ns j)) ∧ wr.ownsRow w.heap.size 3 1 s8 j ((tkL ns j).map num) ∧ Below w.heap.size w wr)
    case first =>
      go_wp2_with fail
      go_loopw [6, 7, 8, 9] (fun s6 s7 s8 i wr => ∃ j : Nat, j ≤ len ∧ j ≤ 40 ∧ s6 = .string (baL (twH y ++ twL 0 (tkL ns j))) ∧ s7 = .int .i64 (badV y (tkL ns j)) ∧ i = .int .i64 (j : Int) ∧ wr.ownsRow w.heap.size 3 1 s8 j ((tkL ns j).map num) ∧ Below w.heap.size w wr) (fun _ _ _ i _ => 40 - (intOf i).toNat)
      case atStart => exact ⟨0, Nat.zero_le _, Nat.zero_le _, by simp [tkL, twL], rfl, rfl, World.ownsRow_nil _ _ _ _, HBn.out⟩
      case round =>
        obtain ⟨j, hj, hj40, rfl, rfl, rfl, hown, hb⟩ := hrel
        obtain ⟨la, lc, rfl⟩ := own_shape hown
        have HSZ : Hid ((baL (twH y ++ twL 0 (tkL ns j))).size = (twH y).length + 9 * j) := Lib.hid (by
          show (twH y ++ twL 0 (tkL ns j)).length = _
          rw [List.length_append, twL_len, tkL_len])
        have hh6 : (twH y).length ≤ 6 := by unfold twH; split <;> decide
        have hBle := badV_le y (tkL ns j) (by rw [tkL_len]; exact hj40)
        by_cases hlt : j < len ∧ j < 40
        · obtain ⟨hlt, hlt40⟩ := hlt
          obtain ⟨ad, rfl, hcell, hn1, hn2⟩ := HNS.out j hlt
          have hcell := cell_keeps hb hcell
          have hI1 : (j : Int) < (len : Int) := by omega
          have hI2 : (j : Int) < 40 := by omega
          have HTK : Hid (tkL ns (j + 1) = tkL ns j ++ [whN (ns j) % 60]) := Lib.hid rfl
          have HSP := Lib.hid (bind_step y (tkL ns j) (whN (ns j) % 60))
          have HBV := Lib.hid (badV_step y (tkL ns j) (whN (ns j) % 60))
          have HBL := Lib.hid (badV_le y (tkL ns j ++ [whN (ns j) % 60]) (by rw [List.length_append, tkL_len]; simp; omega))
          have HLT := Lib.hid (tkL_lt ns j)
          have HLL := Lib.hid (tkL_len ns j)
          obtain ⟨S1, hS1⟩ : ∃ S, baL (twH y ++ twL 0 (tkL ns j)) = S := ⟨_, rfl⟩
          rw [hS1] at HSZ HSP ⊢
          clear hS1
          generalize tkL ns j = L at *
          have hwl := whN_le hn1 hn2
          have HWN := Lib.hid (fun h : ns j < 0 => whN_neg h)
          have HWP := Lib.hid (fun h : 0 ≤ ns j => whN_pos h)
          generalize whN (ns j) = q2 at *
          generalize ns j = nj at *
          obtain ⟨z, hz⟩ : ∃ z, q2 % 60 = z := ⟨_, rfl⟩
          rw [hz] at HTK HSP HBV HBL
          have hzI : (q2 : Int).tmod 60 = (z : Int) := by rw [Int.tmod_eq_emod_of_nonneg (by omega)]; omega
          have hz60 : z < 60 := by omega
          clear hz
          obtain ⟨b0, hb0⟩ : ∃ b, badV y L = b := ⟨_, rfl⟩
          obtain ⟨b1, hb1⟩ : ∃ b, badV y (L ++ [z]) = b := ⟨_, rfl⟩
          rw [hb0, hb1] at HBV
          rw [hb0] at hBle ⊢
          rw [hb1] at HBL
          have HB1 := Lib.hid hb1
          have HOWN := Lib.hid hown
          have HB := Lib.hid hb
          have hlwr := hb.size
          clear hb0 hb1 hown hb
          go_upto_if 42 with fail
          go_cut [10] from 43 to 45 (fun v wx => v = .int .i64 (q2 : Int) ∧ wx = wr)
          case first =>
            by_cases hneg : nj < 0
            · have HH := Lib.hid (HWN.out hneg)
              go_wp2_with fail
              go_meet
              exact ⟨by rw [HH.out], rfl⟩
            · have HH := Lib.hid (HWP.out (by omega))
              go_wp2_with fail
              go_meet
              exact ⟨by rw [HH.out], rfl⟩
          case rest =>
            obtain ⟨rfl, rfl⟩ := hcut
            clear HWN HWP hcell
            go_upto_block 2 with fail
            go_cut [7, 11] from 48 to 65 (fun b _ wx => b = .int .i64 b1 ∧ wx = wc)
            case first =>
              go_wp2_with fail
              go_loopw [7, 11] (fun b k wx => ∃ (i : Nat) (c : Int), i ≤ j ∧ b = .int .i64 c ∧ k = .int .i64 (i : Int) ∧ wx = wc ∧ Hid (∀ p, p < i → c < 0 → L[p]? ≠ some z) ∧ Hid (c < 0 → c = -1 ∧ b0 < 0) ∧ Hid (0 ≤ c → c = b1) ∧ -1 ≤ c ∧ c ≤ 1000) (fun _ k _ => j - (intOf k).toNat)
              case atStart =>
                refine ⟨0, b0, Nat.zero_le _, rfl, rfl, rfl, Lib.hid (fun p hp => by omega), Lib.hid (fun h => ⟨by omega, h⟩), Lib.hid (fun h => ?_), hBle.1, hBle.2⟩
                rw [HBV.out, if_neg (by omega)]
              case round =>
                obtain ⟨i, c, hi, rfl, rfl, rfl, h1, h2, h3, hc1, hc2⟩ := hrel
                by_cases hgo : i < j ∧ c < 0
                · obtain ⟨hij, hcn⟩ := hgo
                  obtain ⟨m, hm⟩ : ∃ m, L[i]? = some m := ⟨_, List.getElem?_eq_getElem (by rw [HLL.out]; exact hij)⟩
                  obtain ⟨b2, e2, _, _, r2⟩ := own_cell HOWN.out rfl (j := i) (x := num m) (by rw [List.getElem?_map, hm]; rfl)
                  unfold num at r2
                  subst e2
                  have hijI : (i : Int) < (j : Int) := by omega
                  have HM := Lib.hid hm
                  clear hm
                  by_cases hmz : m = z
                  · subst hmz
                    go_wp2_with fail
                    go_roundw
                    case rel =>
                      have e1 : (((twH y).length + 9 * j : Nat) : Int) = b1 := by
                        rw [HBV.out, if_pos (h2.out hcn).2, if_pos ((tk_contains L m).2 ⟨i, HM.out⟩), HLL.out]
                      refine ⟨i + 1, b1, by omega, by rw [HSZ.out, e1], by go_num, by trivial, Lib.hid (fun p hp hb => by omega), Lib.hid (fun h => by omega), Lib.hid (fun _ => rfl), HBL.out.1, HBL.out.2⟩
                    case measure => simp [intOf]; omega
                  · have hmI : ¬ (m : Int) = (z : Int) := by omega
                    go_wp2_with fail
                    go_roundw
                    case rel =>
                      refine ⟨i + 1, c, by omega, rfl, by go_num, by trivial, Lib.hid (fun p hp hcc => ?_), h2, h3, hc1, hc2⟩
                      by_cases hpi : p = i
                      · subst hpi
                        rw [HM.out]
                        simpa using hmz
                      · exact h1.out p (by omega) hcc
                    case measure => simp [intOf]; omega
                · have hcb : c = b1 := by
                    by_cases hc0 : 0 ≤ c
                    · exact h3.out hc0
                    · have hij : i = j := by omega
                      subst hij
                      rw [HBV.out, if_pos (h2.out (by omega)).2, if_neg (fun h => by
                        obtain ⟨p, hp⟩ := (tk_contains L z).1 h
                        have hpl := (List.getElem?_eq_some_iff.1 hp).1
                        rw [HLL.out] at hpl
                        exact h1.out p hpl (by omega) hp)]
                      exact (h2.out (by omega)).1
                  by_cases hij : i = j
                  · subst hij
                    go_wp2_with fail
                    go_meet
                    first | exact ⟨rfl, rfl⟩ | exact ⟨by rw [hcb], rfl⟩
                  · have hijI : (i : Int) < (j : Int) := by omega
                    have hcI : ¬ c < 0 := by omega
                    go_wp2_with fail
                    go_meet
                    first | exact ⟨rfl, rfl⟩ | exact ⟨by rw [hcb], rfl⟩
            case rest =>
              obtain ⟨rfl, rfl⟩ := hcut
              obtain ⟨d1, hd1⟩ : ∃ d, z / 10 = d := ⟨_, rfl⟩
              obtain ⟨d2, hd2⟩ : ∃ d, z % 10 = d := ⟨_, rfl⟩
              obtain ⟨d3, hd3⟩ : ∃ d, j % 10 = d := ⟨_, rfl⟩
              rw [hd1, hd2, HLL.out, hd3] at HSP
              have t1 : (z : Int).tdiv 10 = (d1 : Int) := by rw [Int.tdiv_eq_ediv_of_nonneg (by omega)]; omega
              have t2 : (z : Int).tmod 10 = (d2 : Int) := by rw [Int.tmod_eq_emod_of_nonneg (by omega)]; omega
              have t3 : (j : Int).tmod 10 = (d3 : Int) := by rw [Int.tmod_eq_emod_of_nonneg (by omega)]; omega
              have g1 : d1 < 10 := by omega
              have g2 : d2 < 10 := by omega
              have g3 : d3 < 10 := by omega
              have l1 : (d1 : Int) < 10 := by omega
              have l2 : (d2 : Int) < 10 := by omega
              have l3 : (d3 : Int) < 10 := by omega
              have k2 := conv_twoD g1 g2
              have k1 := conv_oneD g3
              have k1' := conv_oneD1 g3
              have hsz1 : S1.size ≤ 400 := by rw [HSZ.out]; omega
              obtain ⟨y1, hy1⟩ : ∃ b, UInt8.ofNat (48 + d1) = b := ⟨_, rfl⟩
              obtain ⟨y2, hy2⟩ : ∃ b, UInt8.ofNat (48 + d2) = b := ⟨_, rfl⟩
              obtain ⟨y3, hy3'⟩ : ∃ b, UInt8.ofNat (48 + d3) = b := ⟨_, rfl⟩
              rw [hy1, hy2, hy3'] at HSP
              rw [hy1, hy2] at k2
              rw [hy3'] at k1 k1'
              clear hy1 hy2 hy3'
              clear hd1 hd2 hd3 g1 g2 g3
              go_wp2_with (at_builtin
                           refine append_num rfl _ _ rfl w.heap.size (.slice la j lc) j (L.map num) (by rfl) (own_below HOWN.out ((Below.refl _ _).alloc (Nat.le_refl _) _)) _ _ (z : Int) (by rfl) (block_new _ _ (by rfl)) (by omega) (by simp; omega) ?_
                           intro v' w' hown' hg' hv')
              go_roundw
              case rel =>
                have hbw := Below.grown (HB.out.alloc hlwr (.cells #[.int .i64 (z : Int)] 3)) hg' (by simp; omega) (fun k hk => (HOWN.out.lt k hk).1)
                refine ⟨j + 1, by omega, by omega, by rw [HTK.out, HSP.out], by rw [HTK.out, HB1.out], by go_num, ?_, (hbw.alloc hbw.size _).alloc (by have := hbw.size; simp; omega) _⟩
                rw [HTK.out, List.map_append]
                refine own_below hown' (((Below.refl _ _).alloc (Nat.le_refl _) _).alloc (by simp) _)
              case measure => simp [intOf]; omega
        · by_cases hjl : j < len
          · have hxI : (j : Int) < (len : Int) := by omega
            have hxJ : ¬ (j : Int) < 40 := by omega
            go_wp2_with fail
            go_meet
            exact ⟨j, hj, hj40, rfl, rfl, hown, hb⟩
          · have hxI : (len : Int) ≤ (j : Int) := by omega
            go_wp2_with fail
            go_meet
            exact ⟨j, hj, hj40, rfl, rfl, hown, hb⟩
    case rest =>
      obtain ⟨j, hj, hj40, rfl, rfl, hown, hb⟩ := hcut
      clear HNS HBn HB2
      obtain ⟨la, lc, rfl⟩ := own_shape hown
      have hLL := tkL_len ns j
      have hLT := tkL_lt ns j
      generalize tkL ns j = L at *
      have HTX : Hid ((baL (twH y ++ twL 0 L) ++ baL (twE y)).data.toList = twH y ++ (twL 0 L ++ twE y)) := Lib.hid (by rw [nw_app]; simp [baL])
      have hTW := twice (pf := pfA) hy3 hLT (by omega) HTX.out
      have hz1 : (baL (twH y ++ twL 0 L)).size ≤ 400 := by
        show (twH y ++ twL 0 L).length ≤ _
        have hh6 : (twH y).length ≤ 6 := by unfold twH; split <;> decide
        rw [List.length_append, twL_len]
        omega
      have hz2 : (baL (twE y)).size ≤ 4 := by show (twE y).length ≤ _; unfold twE; split <;> decide
      have hbv : badV y L = match dup [] L with | some d => (((twH y).length + 9 * d : Nat) : Int) | none => -1 := rfl
      obtain ⟨S1, hS1⟩ : ∃ S, baL (twH y ++ twL 0 L) = S := ⟨_, rfl⟩
      obtain ⟨RES, hRES⟩ : ∃ R, parseP pfA (S1 ++ baL (twE y)) = R := ⟨_, rfl⟩
      rw [hS1] at hTW hz1 ⊢
      rw [hRES] at hTW
      have c2 := tw_row2 (w := wc) hy3 9
      have hb6 := hb.alloc hb.size (.cells #[.string ⟨#[125]⟩, .string ⟨#[125]⟩, .string ⟨#[105, 110, 32, 49]⟩] 9)
      have HB6 := Lib.hid hb6
      have HOWN := Lib.hid (own_below hown ((Below.refl _ _).alloc (Nat.le_refl _) (.cells #[.string ⟨#[125]⟩, .string ⟨#[125]⟩, .string ⟨#[105, 110, 32, 49]⟩] 9)))
      have HP := HGW.out _ hb6 (S1 ++ baL (twE y))
      rw [hRES] at HP
      have HP := Lib.hid HP
      have HRES := Lib.hid hRES
      have HTW := Lib.hid hTW
      have HLT := Lib.hid hLT
      have HLL := Lib.hid hLL
      have HBV := Lib.hid hbv
      obtain ⟨bd, hbd⟩ : ∃ b, badV y L = b := ⟨_, rfl⟩
      rw [hbd] at HBV ⊢
      clear hS1 hRES hTW hLT hLL hbv hbd hb hb6 hown HTX
      go_upto_region 22 with fail
      generalize wc.alloc (.cells #[.string ⟨#[125]⟩, .string ⟨#[125]⟩, .string ⟨#[105, 110, 32, 49]⟩] 9) = w6 at *
      clear c2
      generalize S1 ++ baL (twE y) = TX at *
      clear hz1 hz2
      have hB6s := HB6.out.size
      cases hdup : dup [] L with
      | some d =>
        rw [hdup] at HTW HBV
        obtain ⟨bp, hbp⟩ : ∃ b, (twH y).length + 9 * d = b := ⟨_, rfl⟩
        have hT := HTW.out
        have hV := HBV.out
        simp only at hT hV
        rw [hbp] at hT hV
        subst hT hV
        have hfi := fault_in (bp : Int) 10 (bp : Int) 10
        simp only [decide_true, Bool.and_self] at hfi
        have hbI : ¬ (bp : Int) < 0 := by omega
        clear HTW HBV hbp hdup
        go_wp2_with fail
        refine HP.out.mono ?_
        rintro e w7 ⟨⟨v, rfl, f1, ty, rfl, g1⟩, hb7⟩
        have hB7 := HB6.out.trans (hb7.mono hB6s)
        have HF1 := Lib.hid (fault_says (HEW.out w7 hB7) g1)
        clear g1
        go_wp2_with fail
        refine HF1.out.mono ?_
        rintro e w8 ⟨rfl, hb8⟩
        go_wp2_with fail
        go_ret
        exact ⟨rfl, hB7.trans (hb8.mono hB7.size)⟩
      | none =>
        rw [hdup] at HTW HBV
        obtain ⟨l, nd, hT, hnm⟩ := HTW.out
        have hV := HBV.out
        simp only at hV
        subst hT hV
        have hlb : l.length + 1 ≤ 1000 := by
          obtain ⟨_, t, _, _, _, _, _, _, hl, hc⟩ := taken HRES.out
          rw [← nodes_len t 0, ← hl] at hc
          simpa using hc
        clear HTW HBV hdup
        go_wp2_with fail
        refine HP.out.mono ?_
        rintro e w7 ⟨⟨out, ls, A, B, rfl, hnd, hmap, hA, hAB⟩, hb7⟩
        have hB7 := HB6.out.trans (hb7.mono hB6s)
        have hll : ls.length = l.length + 1 := by rw [← List.length_map (f := NV.nd), hmap, List.length_append]; rfl
        obtain ⟨z, hz, hzn⟩ : ∃ z : NV, ls[l.length]? = some z ∧ z.nd = nd := by
          have h3 : (l ++ [nd])[l.length]? = some nd := by simp
          rw [← hmap, List.getElem?_map] at h3
          cases hz : ls[l.length]? with
          | none => rw [hz] at h3; cases h3
          | some z => rw [hz] at h3; exact ⟨z, rfl, Option.some.inj h3⟩
        obtain ⟨gh, n', c, rfl, hn', _⟩ := hnd.at_ne hz
        rw [hll] at hn'
        subst hn'
        obtain ⟨a1, c1, a2, c2, _, _, p0, p1, p2, p3, p4, p5, p6, _, pn⟩ := hnd.rd.seven hz
        rw [hzn] at p0 p1 p2 p3 p4 p5 p6 pn
        obtain ⟨kd, tx, nn, fl, nms, ks, pl⟩ := nd
        simp only at hnm p0 p1 p2 p3 p4 p5 p6 pn
        subst hnm
        simp only [Nat.zero_add] at p0 p1 p2 p3 p4 p5 p6
        simp only [List.length_map, HLL.out] at p4 pn
        obtain ⟨kl, hkl⟩ : ∃ kl, ks.length = kl := ⟨_, rfl⟩
        rw [hkl] at p5
        have HPN := Lib.hid pn
        have HOWN7 := Lib.hid (own_below HOWN.out hb7)
        have hll1 : ((l.length + 1 : Nat) : Int) = (l.length : Int) + 1 := by omega
        have hsf := store_f64
        generalize l.length = m at *
        clear hnd hmap hA hAB hb7 HP pn hz hzn hkl hll HRES HOWN
        have HB8 := Lib.hid (hB7.alloc hB7.size (.cells #[.int .i64 kd, .string tx, .int .i64 nn, .float .f64 fl, .slice a1 j c1, .slice a2 kl c2, .int .i64 (pl : Int)] 32))
        have HO8 := Lib.hid (own_below HOWN7.out ((Below.refl _ _).alloc (Nat.le_refl _) (.cells #[.int .i64 kd, .string tx, .int .i64 nn, .float .f64 fl, .slice a1 j c1, .slice a2 kl c2, .int .i64 (pl : Int)] 32)))
        have HN8 := Lib.hid (show ∀ (p : Nat) (e : Nat), L[p]? = some e → ∃ b, a1 = some ⟨b, 0, none⟩ ∧ (w7.alloc (.cells #[.int .i64 kd, .string tx, .int .i64 nn, .float .f64 fl, .slice a1 j c1, .slice a2 kl c2, .int .i64 (pl : Int)] 32)).cell? ⟨b, p, none⟩ = some (.string (nmB e)) by
          intro p e hp
          obtain ⟨b, h1, h2⟩ := HPN.out p (nmB e) (by rw [List.getElem?_map, hp]; rfl)
          exact ⟨b, h1, cell_keeps ((Below.refl _ _).alloc (Nat.le_refl _) _) h2⟩)
        have HC8 := Lib.hid (block_new w7 (.cells #[.int .i64 kd, .string tx, .int .i64 nn, .float .f64 fl, .slice a1 j c1, .slice a2 kl c2, .int .i64 (pl : Int)] 32) rfl)
        clear HOWN7 HPN
        go_wp2_with fail
        clear p0 p1 p2 p3 p4 p5 p6
        generalize w7.alloc (.cells #[.int .i64 kd, .string tx, .int .i64 nn, .float .f64 fl, .slice a1 j c1, .slice a2 kl c2, .int .i64 (pl : Int)] 32) = w8 at *
        obtain ⟨b0, hb0⟩ : ∃ b, w7.heap.size = b := ⟨_, rfl⟩
        rw [hb0] at HC8 ⊢
        clear hb0 hB7
        have hl8 := HB8.out.size
        go_loopw [15] (fun i wr => ∃ k : Nat, k ≤ j ∧ i = .int .i64 (k : Int) ∧ Below w8.heap.size w8 wr) (fun i _ => j - (intOf i).toNat)
        case atStart => exact ⟨0, Nat.zero_le _, rfl, Below.refl _ _⟩
        case round =>
          obtain ⟨k, hk, rfl, hb⟩ := hrel
          have x4 := cell_keeps hb (block_cell (i := 4) HC8.out rfl)
          by_cases hkj : k < j
          · obtain ⟨e, he⟩ : ∃ e, L[k]? = some e := ⟨_, List.getElem?_eq_getElem (by rw [HLL.out]; exact hkj)⟩
            have he60 := HLT.out e (List.mem_of_getElem? he)
            obtain ⟨b1, rfl, y0⟩ := HN8.out k e he
            obtain ⟨b2, e2, _, _, z0⟩ := own_cell HO8.out rfl (j := k) (x := num e) (by rw [List.getElem?_map, he]; rfl)
            unfold num at z0
            subst e2
            have y0 := cell_keeps hb y0
            have z0 := cell_keeps hb z0
            have hkI : (k : Int) < (j : Int) := by omega
            have hkI2 : ¬ (j : Int) ≤ (k : Int) := by omega
            have hHB := Lib.hid hb
            obtain ⟨d1, hd1⟩ : ∃ d, e / 10 = d := ⟨_, rfl⟩
            obtain ⟨d2, hd2⟩ : ∃ d, e % 10 = d := ⟨_, rfl⟩
            have t1 : (e : Int).tdiv 10 = (d1 : Int) := by rw [Int.tdiv_eq_ediv_of_nonneg (by omega)]; omega
            have t2 : (e : Int).tmod 10 = (d2 : Int) := by rw [Int.tmod_eq_emod_of_nonneg (by omega)]; omega
            have g1 : d1 < 10 := by omega
            have g2 : d2 < 10 := by omega
            have l1 : (d1 : Int) < 10 := by omega
            have l2 : (d2 : Int) < 10 := by omega
            have n1 := nd_toNat g1
            have n2 := nd_toNat g2
            have v1 : IntKind.i64.wrap (d1 : Int) = (d1 : Int) := by rw [IntWalk.i64_in _ (by omega)]
            have v2 : IntKind.i64.wrap (d2 : Int) = (d2 : Int) := by rw [IntWalk.i64_in _ (by omega)]
            have v3 : IntKind.i64.wrap (48 + (d1 : Int)) = 48 + (d1 : Int) := by rw [IntWalk.i64_in _ (by omega)]
            have v4 : IntKind.i64.wrap (48 + (d2 : Int)) = 48 + (d2 : Int) := by rw [IntWalk.i64_in _ (by omega)]
            have v5 : IntKind.u8.wrap (48 + (d1 : Int)) = 48 + (d1 : Int) := by rw [IntWalk.u8_in _ (by omega)]
            have v6 : IntKind.u8.wrap (48 + (d2 : Int)) = 48 + (d2 : Int) := by rw [IntWalk.u8_in _ (by omega)]
            have hNM : (⟨#[110]⟩ : ByteArray) ++ ⟨#[UInt8.ofNat (48 + d1), UInt8.ofNat (48 + d2)]⟩ = nmB e := by
              unfold nmB
              rw [hd1, hd2]
              rfl
            obtain ⟨y1, hy1⟩ : ∃ b, UInt8.ofNat (48 + d1) = b := ⟨_, rfl⟩
            obtain ⟨y2, hy2⟩ : ∃ b, UInt8.ofNat (48 + d2) = b := ⟨_, rfl⟩
            rw [hy1] at n1 hNM
            rw [hy2] at n2 hNM
            generalize nmB e = NM at *
            have HK := Lib.hid (fun (W : World) (bk : Nat) (h : W.heap[bk]? = some (.cells #[.int .u8 (48 + (d1 : Int)), .int .u8 (48 + (d2 : Int))] 5 (0, 0))) => conv_at y1 y2 W bk (by rw [n1, n2]; exact h))
            clear hd1 hd2 hy1 hy2 hb he n1 n2 g1 g2
            go_upto_region 31 with fail
            go_cut [171] from 142 to 171 (fun v wx => v = .bool false ∧ Below wr.heap.size wr wx)
            case first =>
                refine with_frame fun a0 ha0 => ?_
                have e15 : a0.eval (.tmp 15) = .int .i64 (k : Int) := by rw [ha0]; rfl
                have e14 : a0.eval (.tmp 14) = .pointer (some ⟨b0, 0, none⟩) := by rw [ha0]; rfl
                have e8 : a0.eval (.tmp 8) = .slice (some ⟨b2, 0, none⟩) j lc := by rw [ha0]; rfl
                have hsz : a0.tmps.size = 178 := by rw [ha0]; rfl
                have HA := Lib.hid ha0
                clear ha0
                have hD : ∀ d, (List.range' 142 29).contains d = true → d < a0.tmps.size := by
                  intro d h
                  rw [hsz]
                  have hm : d ∈ List.range' 142 29 := by simpa using h
                  rw [List.mem_range'_1] at hm
                  omega
                refine wp_region_taba (by kernel_rfl) 29 142 25 (fun jj => ([.int .i64 (k : Int), .pointer (some ⟨b0, 4, none⟩), .slice (some ⟨b1, 0, none⟩) j c1, .int .i64 (j : Int), .bool false, .bool false, .pointer (some ⟨b0, 4, none⟩), .slice (some ⟨b1, 0, none⟩) j c1, .int .i64 (k : Int), .pointer (some ⟨b1, k, none⟩), .string NM, .slice (some ⟨b2, 0, none⟩) j lc, .int .i64 (k : Int), .pointer (some ⟨b2, k, none⟩), .int .i64 (e : Int), .int .i64 (d1 : Int), .int .i64 (48 + (d1 : Int)), .int .u8 (48 + (d1 : Int)), .slice (some ⟨b2, 0, none⟩) j lc, .int .i64 (k : Int), .pointer (some ⟨b2, k, none⟩), .int .i64 (e : Int), .int .i64 (d2 : Int), .int .i64 (48 + (d2 : Int)), .int .u8 (48 + (d2 : Int)), .slice (some ⟨wr.heap.size, 0, none⟩) 2 2, .string ⟨#[y1, y2]⟩, .string NM, .bool false] : List Value).getD jj undef) (fun b w' => Below wr.heap.size wr w' ∧ (b = false → w'.heap.size = wr.heap.size) ∧ (b = true → w'.heap[wr.heap.size]? = some (.cells #[.int .u8 (48 + (d1 : Int)), .int .u8 (48 + (d2 : Int))] 5 (0, 0)))) rfl (by kernel_rfl) (by kernel_rfl) (by omega) ⟨by (repeat' (first | (with_reducible exact Below.refl _ _) | (with_reducible assumption) | (with_reducible refine below_drewN ?_ _) | (with_reducible refine Below.drew ?_) | (with_reducible refine Below.alloc ?_ ?_ _) | (with_reducible refine Below.setCell ?_ ?_ _) | omega | (simp; done) | (simp; omega))), fun _ => rfl, fun h => by cases h⟩ ?_ ?_
                · intro i0 hi0 bb v w0 hWW hbm hbd hv
                  have hWW2 := Lib.hid hWW
                  obtain ⟨hW, hWf, hWt⟩ := hWW
                  have x4 := cell_keeps hW x4
                  have y0 := cell_keeps hW y0
                  have z0 := cell_keeps hW z0
                  have HWf := Lib.hid hWf
                  have HWt := Lib.hid hWt
                  have Hbm := Lib.hid hbm
                  have Hbd := Lib.hid hbd
                  have HW := Lib.hid hW
                  clear hW hWf hWt hbm hbd
                  have inn : ∀ d, (List.range' 142 29).contains d = true → (frameOf a0 (List.range' 142 29) v).tmps[d]?.getD undef = v d := fun d h => frameOf_in' h (hD d h)
                  rcases (by omega : i0 = 0 ∨ i0 = 1 ∨ i0 = 2 ∨ i0 = 3 ∨ i0 = 4 ∨ i0 = 5 ∨ i0 = 6 ∨ i0 = 7 ∨ i0 = 8 ∨ i0 = 9 ∨ i0 = 10 ∨ i0 = 11 ∨ i0 = 12 ∨ i0 = 13 ∨ i0 = 14 ∨ i0 = 15 ∨ i0 = 16 ∨ i0 = 17 ∨ i0 = 18 ∨ i0 = 19 ∨ i0 = 20 ∨ i0 = 21 ∨ i0 = 22 ∨ i0 = 23 ∨ i0 = 24 ∨ i0 = 25 ∨ i0 = 26 ∨ i0 = 27 ∨ i0 = 28) with rfl | rfl | rfl | rfl | rfl | rfl | rfl | rfl | rfl | rfl | rfl | rfl | rfl | rfl | rfl | rfl | rfl | rfl | rfl | rfl | rfl | rfl | rfl | rfl | rfl | rfl | rfl | rfl | rfl
                  · -- operation 0
                    have E15 : (frameOf a0 (List.range' 142 29) v).tmps[15]?.getD undef = .int .i64 (k : Int) := (frameOf_out' rfl).trans e15
                    refine wpOp_value (v := .int .i64 (k : Int)) (w' := w0) rfl rfl (by go_simp) ?_
                    exact ⟨frameOf_put rfl, by cases bb <;> exact hWW2.out⟩
                  · -- operation 1
                    have E14 : (frameOf a0 (List.range' 142 29) v).tmps[14]?.getD undef = .pointer (some ⟨b0, 0, none⟩) := (frameOf_out' rfl).trans e14
                    refine wpOp_value (v := .pointer (some ⟨b0, 4, none⟩)) (w' := w0) rfl rfl (by go_simp) ?_
                    exact ⟨frameOf_put rfl, by cases bb <;> exact hWW2.out⟩
                  · -- operation 2
                    have x143 : v 143 = .pointer (some ⟨b0, 4, none⟩) := hv 1 (by kernel_rfl)
                    have E143 := (inn 143 rfl).trans x143
                    refine wpOp_value (v := .slice (some ⟨b1, 0, none⟩) j c1) (w' := w0) rfl rfl (by go_simp) ?_
                    exact ⟨frameOf_put rfl, by cases bb <;> exact hWW2.out⟩
                  · -- operation 3
                    have x144 : v 144 = .slice (some ⟨b1, 0, none⟩) j c1 := hv 2 (by kernel_rfl)
                    have E144 := (inn 144 rfl).trans x144
                    refine wpOp_value (v := .int .i64 (j : Int)) (w' := w0) rfl rfl (by go_simp) ?_
                    exact ⟨frameOf_put rfl, by cases bb <;> exact hWW2.out⟩
                  · -- operation 4
                    have x142 : v 142 = .int .i64 (k : Int) := hv 0 (by kernel_rfl)
                    have E142 := (inn 142 rfl).trans x142
                    have x145 : v 145 = .int .i64 (j : Int) := hv 3 (by kernel_rfl)
                    have E145 := (inn 145 rfl).trans x145
                    refine wpOp_value (v := .bool false) (w' := w0) rfl rfl (by go_simp) ?_
                    exact ⟨frameOf_put rfl, by cases bb <;> exact hWW2.out⟩
                  · -- operation 5
                    have x146 : v 146 = .bool false := hv 4 (by kernel_rfl)
                    have E146 := (inn 146 rfl).trans x146
                    refine wpOp_value (v := .bool false) (w' := w0) rfl rfl (by go_simp) ?_
                    exact ⟨frameOf_put rfl, by cases bb <;> exact hWW2.out⟩
                  · -- operation 6
                    have E14 : (frameOf a0 (List.range' 142 29) v).tmps[14]?.getD undef = .pointer (some ⟨b0, 0, none⟩) := (frameOf_out' rfl).trans e14
                    have x147 : v 147 = .bool false := hv 5 (by kernel_rfl)
                    have E147 := (inn 147 rfl).trans x147
                    refine wpOp_guard (v := .pointer (some ⟨b0, 4, none⟩)) (w' := w0) rfl rfl (yielded_at rfl rfl (by simp [frameOf, hsz]) E147) (by go_simp) ?_
                    exact ⟨frameOf_put rfl, by cases bb <;> exact hWW2.out⟩
                  · -- operation 7
                    have x147 : v 147 = .bool false := hv 5 (by kernel_rfl)
                    have E147 := (inn 147 rfl).trans x147
                    have x148 : v 148 = .pointer (some ⟨b0, 4, none⟩) := hv 6 (by kernel_rfl)
                    have E148 := (inn 148 rfl).trans x148
                    refine wpOp_guard (v := .slice (some ⟨b1, 0, none⟩) j c1) (w' := w0) rfl rfl (yielded_at rfl rfl (by simp [frameOf, hsz]) E147) (by go_simp) ?_
                    exact ⟨frameOf_put rfl, by cases bb <;> exact hWW2.out⟩
                  · -- operation 8
                    have E15 : (frameOf a0 (List.range' 142 29) v).tmps[15]?.getD undef = .int .i64 (k : Int) := (frameOf_out' rfl).trans e15
                    have x147 : v 147 = .bool false := hv 5 (by kernel_rfl)
                    have E147 := (inn 147 rfl).trans x147
                    refine wpOp_guard (v := .int .i64 (k : Int)) (w' := w0) rfl rfl (yielded_at rfl rfl (by simp [frameOf, hsz]) E147) (by go_simp) ?_
                    exact ⟨frameOf_put rfl, by cases bb <;> exact hWW2.out⟩
                  · -- operation 9
                    have x147 : v 147 = .bool false := hv 5 (by kernel_rfl)
                    have E147 := (inn 147 rfl).trans x147
                    have x149 : v 149 = .slice (some ⟨b1, 0, none⟩) j c1 := hv 7 (by kernel_rfl)
                    have E149 := (inn 149 rfl).trans x149
                    have x150 : v 150 = .int .i64 (k : Int) := hv 8 (by kernel_rfl)
                    have E150 := (inn 150 rfl).trans x150
                    refine wpOp_guard (v := .pointer (some ⟨b1, k, none⟩)) (w' := w0) rfl rfl (yielded_at rfl rfl (by simp [frameOf, hsz]) E147) (by go_simp) ?_
                    exact ⟨frameOf_put rfl, by cases bb <;> exact hWW2.out⟩
                  · -- operation 10
                    have x147 : v 147 = .bool false := hv 5 (by kernel_rfl)
                    have E147 := (inn 147 rfl).trans x147
                    have x151 : v 151 = .pointer (some ⟨b1, k, none⟩) := hv 9 (by kernel_rfl)
                    have E151 := (inn 151 rfl).trans x151
                    refine wpOp_guard (v := .string NM) (w' := w0) rfl rfl (yielded_at rfl rfl (by simp [frameOf, hsz]) E147) (by go_simp) ?_
                    exact ⟨frameOf_put rfl, by cases bb <;> exact hWW2.out⟩
                  · -- operation 11
                    have E8 : (frameOf a0 (List.range' 142 29) v).tmps[8]?.getD undef = .slice (some ⟨b2, 0, none⟩) j lc := (frameOf_out' rfl).trans e8
                    have x147 : v 147 = .bool false := hv 5 (by kernel_rfl)
                    have E147 := (inn 147 rfl).trans x147
                    refine wpOp_guard (v := .slice (some ⟨b2, 0, none⟩) j lc) (w' := w0) rfl rfl (yielded_at rfl rfl (by simp [frameOf, hsz]) E147) (by go_simp) ?_
                    exact ⟨frameOf_put rfl, by cases bb <;> exact hWW2.out⟩
                  · -- operation 12
                    have E15 : (frameOf a0 (List.range' 142 29) v).tmps[15]?.getD undef = .int .i64 (k : Int) := (frameOf_out' rfl).trans e15
                    have x147 : v 147 = .bool false := hv 5 (by kernel_rfl)
                    have E147 := (inn 147 rfl).trans x147
                    refine wpOp_guard (v := .int .i64 (k : Int)) (w' := w0) rfl rfl (yielded_at rfl rfl (by simp [frameOf, hsz]) E147) (by go_simp) ?_
                    exact ⟨frameOf_put rfl, by cases bb <;> exact hWW2.out⟩
                  · -- operation 13
                    have x147 : v 147 = .bool false := hv 5 (by kernel_rfl)
                    have E147 := (inn 147 rfl).trans x147
                    have x153 : v 153 = .slice (some ⟨b2, 0, none⟩) j lc := hv 11 (by kernel_rfl)
                    have E153 := (inn 153 rfl).trans x153
                    have x154 : v 154 = .int .i64 (k : Int) := hv 12 (by kernel_rfl)
                    have E154 := (inn 154 rfl).trans x154
                    refine wpOp_guard (v := .pointer (some ⟨b2, k, none⟩)) (w' := w0) rfl rfl (yielded_at rfl rfl (by simp [frameOf, hsz]) E147) (by go_simp) ?_
                    exact ⟨frameOf_put rfl, by cases bb <;> exact hWW2.out⟩
                  · -- operation 14
                    have x147 : v 147 = .bool false := hv 5 (by kernel_rfl)
                    have E147 := (inn 147 rfl).trans x147
                    have x155 : v 155 = .pointer (some ⟨b2, k, none⟩) := hv 13 (by kernel_rfl)
                    have E155 := (inn 155 rfl).trans x155
                    refine wpOp_guard (v := .int .i64 (e : Int)) (w' := w0) rfl rfl (yielded_at rfl rfl (by simp [frameOf, hsz]) E147) (by go_simp) ?_
                    exact ⟨frameOf_put rfl, by cases bb <;> exact hWW2.out⟩
                  · -- operation 15
                    have x147 : v 147 = .bool false := hv 5 (by kernel_rfl)
                    have E147 := (inn 147 rfl).trans x147
                    have x156 : v 156 = .int .i64 (e : Int) := hv 14 (by kernel_rfl)
                    have E156 := (inn 156 rfl).trans x156
                    refine wpOp_guard (v := .int .i64 (d1 : Int)) (w' := w0) rfl rfl (yielded_at rfl rfl (by simp [frameOf, hsz]) E147) (by go_simp) ?_
                    exact ⟨frameOf_put rfl, by cases bb <;> exact hWW2.out⟩
                  · -- operation 16
                    have x147 : v 147 = .bool false := hv 5 (by kernel_rfl)
                    have E147 := (inn 147 rfl).trans x147
                    have x157 : v 157 = .int .i64 (d1 : Int) := hv 15 (by kernel_rfl)
                    have E157 := (inn 157 rfl).trans x157
                    refine wpOp_guard (v := .int .i64 (48 + (d1 : Int))) (w' := w0) rfl rfl (yielded_at rfl rfl (by simp [frameOf, hsz]) E147) (by go_simp) ?_
                    exact ⟨frameOf_put rfl, by cases bb <;> exact hWW2.out⟩
                  · -- operation 17
                    have x147 : v 147 = .bool false := hv 5 (by kernel_rfl)
                    have E147 := (inn 147 rfl).trans x147
                    have x158 : v 158 = .int .i64 (48 + (d1 : Int)) := hv 16 (by kernel_rfl)
                    have E158 := (inn 158 rfl).trans x158
                    refine wpOp_guard (v := .int .u8 (48 + (d1 : Int))) (w' := w0) rfl rfl (yielded_at rfl rfl (by simp [frameOf, hsz]) E147) (by go_simp) ?_
                    exact ⟨frameOf_put rfl, by cases bb <;> exact hWW2.out⟩
                  · -- operation 18
                    have E8 : (frameOf a0 (List.range' 142 29) v).tmps[8]?.getD undef = .slice (some ⟨b2, 0, none⟩) j lc := (frameOf_out' rfl).trans e8
                    have x147 : v 147 = .bool false := hv 5 (by kernel_rfl)
                    have E147 := (inn 147 rfl).trans x147
                    refine wpOp_guard (v := .slice (some ⟨b2, 0, none⟩) j lc) (w' := w0) rfl rfl (yielded_at rfl rfl (by simp [frameOf, hsz]) E147) (by go_simp) ?_
                    exact ⟨frameOf_put rfl, by cases bb <;> exact hWW2.out⟩
                  · -- operation 19
                    have E15 : (frameOf a0 (List.range' 142 29) v).tmps[15]?.getD undef = .int .i64 (k : Int) := (frameOf_out' rfl).trans e15
                    have x147 : v 147 = .bool false := hv 5 (by kernel_rfl)
                    have E147 := (inn 147 rfl).trans x147
                    refine wpOp_guard (v := .int .i64 (k : Int)) (w' := w0) rfl rfl (yielded_at rfl rfl (by simp [frameOf, hsz]) E147) (by go_simp) ?_
                    exact ⟨frameOf_put rfl, by cases bb <;> exact hWW2.out⟩
                  · -- operation 20
                    have x147 : v 147 = .bool false := hv 5 (by kernel_rfl)
                    have E147 := (inn 147 rfl).trans x147
                    have x160 : v 160 = .slice (some ⟨b2, 0, none⟩) j lc := hv 18 (by kernel_rfl)
                    have E160 := (inn 160 rfl).trans x160
                    have x161 : v 161 = .int .i64 (k : Int) := hv 19 (by kernel_rfl)
                    have E161 := (inn 161 rfl).trans x161
                    refine wpOp_guard (v := .pointer (some ⟨b2, k, none⟩)) (w' := w0) rfl rfl (yielded_at rfl rfl (by simp [frameOf, hsz]) E147) (by go_simp) ?_
                    exact ⟨frameOf_put rfl, by cases bb <;> exact hWW2.out⟩
                  · -- operation 21
                    have x147 : v 147 = .bool false := hv 5 (by kernel_rfl)
                    have E147 := (inn 147 rfl).trans x147
                    have x162 : v 162 = .pointer (some ⟨b2, k, none⟩) := hv 20 (by kernel_rfl)
                    have E162 := (inn 162 rfl).trans x162
                    refine wpOp_guard (v := .int .i64 (e : Int)) (w' := w0) rfl rfl (yielded_at rfl rfl (by simp [frameOf, hsz]) E147) (by go_simp) ?_
                    exact ⟨frameOf_put rfl, by cases bb <;> exact hWW2.out⟩
                  · -- operation 22
                    have x147 : v 147 = .bool false := hv 5 (by kernel_rfl)
                    have E147 := (inn 147 rfl).trans x147
                    have x163 : v 163 = .int .i64 (e : Int) := hv 21 (by kernel_rfl)
                    have E163 := (inn 163 rfl).trans x163
                    refine wpOp_guard (v := .int .i64 (d2 : Int)) (w' := w0) rfl rfl (yielded_at rfl rfl (by simp [frameOf, hsz]) E147) (by go_simp) ?_
                    exact ⟨frameOf_put rfl, by cases bb <;> exact hWW2.out⟩
                  · -- operation 23
                    have x147 : v 147 = .bool false := hv 5 (by kernel_rfl)
                    have E147 := (inn 147 rfl).trans x147
                    have x164 : v 164 = .int .i64 (d2 : Int) := hv 22 (by kernel_rfl)
                    have E164 := (inn 164 rfl).trans x164
                    refine wpOp_guard (v := .int .i64 (48 + (d2 : Int))) (w' := w0) rfl rfl (yielded_at rfl rfl (by simp [frameOf, hsz]) E147) (by go_simp) ?_
                    exact ⟨frameOf_put rfl, by cases bb <;> exact hWW2.out⟩
                  · -- operation 24
                    have x147 : v 147 = .bool false := hv 5 (by kernel_rfl)
                    have E147 := (inn 147 rfl).trans x147
                    have x165 : v 165 = .int .i64 (48 + (d2 : Int)) := hv 23 (by kernel_rfl)
                    have E165 := (inn 165 rfl).trans x165
                    refine wpOp_guard (v := .int .u8 (48 + (d2 : Int))) (w' := w0) rfl rfl (yielded_at rfl rfl (by simp [frameOf, hsz]) E147) (by go_simp) ?_
                    exact ⟨frameOf_put rfl, by cases bb <;> exact hWW2.out⟩
                  · -- operation 25
                    have x147 : v 147 = .bool false := hv 5 (by kernel_rfl)
                    have E147 := (inn 147 rfl).trans x147
                    have x159 : v 159 = .int .u8 (48 + (d1 : Int)) := hv 17 (by kernel_rfl)
                    have E159 := (inn 159 rfl).trans x159
                    have x166 : v 166 = .int .u8 (48 + (d2 : Int)) := hv 24 (by kernel_rfl)
                    have E166 := (inn 166 rfl).trans x166
                    obtain rfl := Hbm.out rfl
                    have hs := HWf.out rfl
                    refine wpOp_guard (v := .slice (some ⟨wr.heap.size, 0, none⟩) 2 2) (w' := w0.alloc (.cells #[.int .u8 (48 + (d1 : Int)), .int .u8 (48 + (d2 : Int))] 5)) rfl rfl (yielded_at rfl rfl (by simp [frameOf, hsz]) E147) (by rw [← hs]; go_simp) ?_
                    exact ⟨frameOf_put rfl, HW.out.alloc HW.out.size _, fun h => (by cases h), fun _ => block_new _ _ hs.symm⟩
                  · -- operation 26
                    have x147 : v 147 = .bool false := hv 5 (by kernel_rfl)
                    have E147 := (inn 147 rfl).trans x147
                    have x167 : v 167 = .slice (some ⟨wr.heap.size, 0, none⟩) 2 2 := hv 25 (by kernel_rfl)
                    have E167 := (inn 167 rfl).trans x167
                    obtain rfl := Hbd.out (by kernel_rfl)
                    have hk := HK.out w0 wr.heap.size (HWt.out rfl)
                    refine wpOp_guard (v := .string ⟨#[y1, y2]⟩) (w' := w0) rfl rfl (yielded_at rfl rfl (by simp [frameOf, hsz]) E147) (by go_simp) ?_
                    exact ⟨frameOf_put rfl, hWW2.out⟩
                  · -- operation 27
                    have x147 : v 147 = .bool false := hv 5 (by kernel_rfl)
                    have E147 := (inn 147 rfl).trans x147
                    have x168 : v 168 = .string ⟨#[y1, y2]⟩ := hv 26 (by kernel_rfl)
                    have E168 := (inn 168 rfl).trans x168
                    refine wpOp_guard (v := .string NM) (w' := w0) rfl rfl (yielded_at rfl rfl (by simp [frameOf, hsz]) E147) (by go_simp) ?_
                    exact ⟨frameOf_put rfl, by cases bb <;> exact hWW2.out⟩
                  · -- operation 28
                    have x147 : v 147 = .bool false := hv 5 (by kernel_rfl)
                    have E147 := (inn 147 rfl).trans x147
                    have x152 : v 152 = .string NM := hv 10 (by kernel_rfl)
                    have E152 := (inn 152 rfl).trans x152
                    have x169 : v 169 = .string NM := hv 27 (by kernel_rfl)
                    have E169 := (inn 169 rfl).trans x169
                    refine wpOp_guard (v := .bool false) (w' := w0) rfl rfl (yielded_at rfl rfl (by simp [frameOf, hsz]) E147) (by go_simp) ?_
                    exact ⟨frameOf_put rfl, by cases bb <;> exact hWW2.out⟩
                · intro w0 hWW
                  obtain ⟨hW, _, _⟩ := hWW
                  have h0 := HA.out
                  subst h0
                  have hrg : List.range' 142 29 = [142, 143, 144, 145, 146, 147, 148, 149, 150, 151, 152, 153, 154, 155, 156, 157, 158, 159, 160, 161, 162, 163, 164, 165, 166, 167, 168, 169, 170] := rfl
                  rw [hrg]
                  clear hrg
                  simp only [frameOf_cons, frameOf_nil, Act.put, List.setIfInBounds_toArray, List.set_cons_zero, List.set_cons_succ]
                  refine wpOp_value (v := .bool false) (w' := w0) rfl rfl (by go_simp) ?_
                  go_wp2_with fail
                  go_meet
                  exact ⟨rfl, hW⟩
            case rest =>
              obtain ⟨rfl, hbx⟩ := hcut
              go_wp2_with fail
              go_roundw
              case rel => exact ⟨k + 1, by omega, by go_num, hHB.out.trans (hbx.mono hHB.out.size)⟩
              case measure => simp [intOf]; omega
          · obtain rfl : k = j := by omega
            go_wp2_with fail
            go_ret
            exact ⟨rfl, HB8.out.trans (hb.mono hl8)⟩
end Go.Proofs.YtppljgallbmgcaaGreatDoor
