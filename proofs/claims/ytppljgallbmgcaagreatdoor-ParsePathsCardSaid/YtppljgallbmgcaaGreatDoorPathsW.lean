/- ParsePaths: the walk. -/
import Derived.Test.YtppljgallbmgcaaGreatDoorPathsP
import Derived.Test.YtppljgallbmgcaaGreatDoorBrackW
import Derived.Test.YtppljgallbmgcaaGreatDoorStrAid
import Derived.Test.YtppljgallbmgcaaGreatDoorRefSameF
namespace Go.Proofs.YtppljgallbmgcaaGreatDoor
open Go.RowKit Go.Shelf
theorem whN_6 (n : Int) : whN n % 6 < 6 := Nat.mod_lt _ (by omega)
def pnS (k : Nat) : ByteArray := ⟨(pnW k).toArray⟩
theorem pn_row {w : World} {x : Nat} (hx : x < 6) (ty : TypeId) : (w.alloc (.cells #[.string ⟨#[97]⟩, .string ⟨#[98]⟩, .string ⟨#[120, 45, 121]⟩, .string ⟨#[34, 115, 32, 116, 34]⟩, .string ⟨#[99, 39]⟩, .string ⟨#[34, 34]⟩] ty)).cell? ⟨w.heap.size, x, none⟩ = some (.string (pnS x)) := by
  rcases (show x = 0 ∨ x = 1 ∨ x = 2 ∨ x = 3 ∨ x = 4 ∨ x = 5 by omega) with rfl | rfl | rfl | rfl | rfl | rfl <;> exact block_cell (block_new _ _ rfl) rfl
theorem pnS_size (k : Nat) : (pnS k).size ≤ 5 := by show (pnW k).length ≤ 5; unfold pnW; split <;> decide
/-- What stands ahead of the text, without the first bracket. -/
def opS : List Nat → List UInt8
  | [] => []
  | [k] => pnW k ++ [32, 61, 32]
  | k :: ks => pnW k ++ (32 :: 61 :: 32 :: 123 :: 32 :: opS ks)
theorem opS_opL (k : Nat) (ks : List Nat) : opL (k :: ks) = 123 :: 32 :: opS (k :: ks) := by
  induction ks generalizing k with
  | nil => simp [opL, opS]
  | cons k2 ks ih =>
    rw [opL, ih k2]
    simp [opS]
theorem paL_snoc : ∀ (ks : List Nat) (k : Nat), paL (ks ++ [k]) = paL ks ++ ((if ks = [] then [] else [46]) ++ pnW k)
  | [], k => by simp [paL]
  | [a], k => by simp [paL]
  | a :: b :: ks, k => by
    have h := paL_snoc (b :: ks) k
    show pnW a ++ 46 :: paL (b :: ks ++ [k]) = (pnW a ++ 46 :: paL (b :: ks)) ++ _
    rw [h]
    simp
theorem opS_snoc : ∀ (ks : List Nat) (k : Nat), opS (ks ++ [k]) = opS ks ++ ((if ks = [] then [] else [123, 32]) ++ (pnW k ++ [32, 61, 32]))
  | [], k => by simp [opS]
  | [a], k => by simp [opS]
  | a :: b :: ks, k => by
    have h := opS_snoc (b :: ks) k
    show pnW a ++ (32 :: 61 :: 32 :: 123 :: 32 :: opS (b :: ks ++ [k])) = (pnW a ++ (32 :: 61 :: 32 :: 123 :: 32 :: opS (b :: ks))) ++ _
    rw [h]
    simp
theorem paL_len (ks : List Nat) : (paL ks).length ≤ 6 * ks.length := by
  have h5 : ∀ k, (pnW k).length ≤ 5 := fun k => by unfold pnW; split <;> decide
  induction ks with
  | nil => simp [paL]
  | cons k ks ih =>
    cases ks with
    | nil => have := h5 k; simp [paL]; omega
    | cons k2 ks => have := h5 k; simp only [paL, List.length_append, List.length_cons] at ih ⊢; omega
theorem opS_len (ks : List Nat) : (opS ks).length ≤ 10 * ks.length := by
  have h5 : ∀ k, (pnW k).length ≤ 5 := fun k => by unfold pnW; split <;> decide
  induction ks with
  | nil => simp [opS]
  | cons k ks ih =>
    cases ks with
    | nil => have := h5 k; simp [opS]; omega
    | cons k2 ks => have := h5 k; simp only [opS, List.length_append, List.length_cons] at ih ⊢; omega
theorem shB_len (n : Nat) : (shB n).length = 3 * n := by
  induction n with
  | zero => rfl
  | succ n ih => simp only [shB, List.length_cons, ih]; omega
/-- The names that the law takes. -/
def pkL (ns : Nat → Int) : Nat → List Nat
  | 0 => []
  | n + 1 => pkL ns n ++ [whN (ns n) % 6]
theorem pkL_len (ns : Nat → Int) (n : Nat) : (pkL ns n).length = n := by
  induction n with
  | zero => rfl
  | succ n ih => simp [pkL, ih]
theorem pkL_lt (ns : Nat → Int) (n : Nat) : ∀ x ∈ pkL ns n, x < 6 := by
  induction n with
  | zero => intro x hx; cases hx
  | succ n ih =>
    intro x hx
    rcases List.mem_append.1 hx with hx | hx
    · exact ih x hx
    · simp at hx
      subst hx
      exact whN_6 _
theorem pkL_nil (ns : Nat → Int) (n : Nat) : pkL ns n = [] ↔ n = 0 := by
  constructor
  · intro h
    have := pkL_len ns n
    rw [h] at this
    simpa using this.symm
  · rintro rfl; rfl
/-- One name more. -/
theorem path_step (ns : Nat → Int) (j : Nat) : (if j = 0 then baL (paL (pkL ns j)) else baL (paL (pkL ns j)) ++ ⟨#[46]⟩) ++ pnS (whN (ns j) % 6) = baL (paL (pkL ns (j + 1))) := by
  show _ = baL (paL (pkL ns j ++ [whN (ns j) % 6]))
  rw [paL_snoc]
  have hn := pkL_nil ns j
  by_cases h : j = 0
  · rw [if_pos h, if_pos (hn.2 h), baL_app]
    simp [pnS]
  · rw [if_neg h, if_neg (fun e => h (hn.1 e)), baL_app, baL_app]
    simp [pnS]
theorem open_step (ns : Nat → Int) (j : Nat) : (if j = 0 then baL (opS (pkL ns j)) else baL (opS (pkL ns j)) ++ ⟨#[123, 32]⟩) ++ pnS (whN (ns j) % 6) ++ ⟨#[32, 61, 32]⟩ = baL (opS (pkL ns (j + 1))) := by
  show _ = baL (opS (pkL ns j ++ [whN (ns j) % 6]))
  rw [opS_snoc]
  have hn := pkL_nil ns j
  by_cases h : j = 0
  · rw [if_pos h, if_pos (hn.2 h), baL_app, baL_app]
    simp [pnS]
  · rw [if_neg h, if_neg (fun e => h (hn.1 e)), baL_app, baL_app, baL_app]
    simp [pnS]
theorem shut_step (j : Nat) : (if j = 0 then baL (shB (j - 1)) else ⟨#[59, 32, 125]⟩ ++ baL (shB (j - 1))) = baL (shB (j + 1 - 1)) := by
  by_cases h : j = 0
  · subst h; rfl
  · obtain ⟨j, rfl⟩ : ∃ i, j = i + 1 := ⟨j - 1, by omega⟩
    rw [if_neg h, baL_app2]
    rfl
theorem ba_len (b : ByteArray) : b.toList.length = b.size := by rw [ByteArray.toList_eq]; exact Array.length_toList
theorem paL_ne {ks : List Nat} (h : ks ≠ []) : paL ks ≠ [] := by
  have h1 : ∀ k, pnW k ≠ [] := fun k => by unfold pnW; split <;> simp
  cases ks with
  | nil => exact absurd rfl h
  | cons k ks =>
    cases ks with
    | nil => exact h1 k
    | cons k2 ks => simp [paL]
theorem len_of2 {pf : ByteArray → Nat} {s : ByteArray} {l : List Nd} {ls : List NV} (h : parseP pf s = .ok l) (hm : ls.map NV.nd = l) : 0 < ls.length ∧ ls.length = l.length ∧ l.length ≤ 1000 ∧ s.size ≤ 4096 := by
  obtain ⟨_, t, _, _, hz, _, _, _, hl, hc⟩ := taken h
  have h1 : ls.length = l.length := by rw [← hm, List.length_map]
  have h2 : l.length = cnt t := by rw [hl, nodes_len]
  have := cnt_pos t
  omega
set_option maxHeartbeats 40000000 in
set_option maxRecDepth 100000 in
theorem paths_law {NG : Nat} {w : World} (hG : GP NG w) (hE : HndG w) {v : Value} {len : Nat} {ns : Nat → Int} (hns : NZ w v len ns) (s : ByteArray) (hs : s.size ≤ 9223372036854775807) :
    Calls Tryz.prog 8 #[v, .string s] w fun e w' => e = .returned (.bool true) ∧ Below w.heap.size w w' := by
  have HSH := Lib.hid (shown_any hG)
  have HGW := Lib.hid (fun (w' : World) (hb : Below w.heap.size w w') t => Parse_any (hG.below hb) t)
  have HEW := Lib.hid (fun (w' : World) (hb : Below w.heap.size w w') => hE.keeps hb)
  obtain ⟨RES, hRES⟩ : ∃ R, parseP pfA s = R := ⟨_, rfl⟩
  have HRES := Lib.hid hRES
  obtain ⟨va, vc, hv, hlen⟩ : ∃ va vc, v = .slice va len vc ∧ len ≤ 9223372036854775807 := by
    rcases hns with ⟨h1, h2⟩ | ⟨a, cap, h1, h2, _⟩
    · exact ⟨none, 0, by rw [h1, h2], by omega⟩
    · exact ⟨some a, cap, h1, h2⟩
  subst hv
  have HNS := Lib.hid (show ∀ j, j < len → ∃ a, va = some a ∧ w.cell? (a.add j) = some (.int .i64 (ns j)) ∧ -9223372036854775808 ≤ ns j ∧ ns j ≤ 9223372036854775807 by
    intro j hj
    rcases hns with ⟨_, h2⟩ | ⟨a, cap, h1, h2, h3⟩
    · omega
    · cases h1
      exact ⟨a, rfl, h3 j hj⟩)
  clear hG hE hRES hns
  go_enter Tryz.func8, Tryz.ntmps8
  go_wp2_with fail
  refine HSH.out.mono ?_
  rintro e w2 ⟨rfl, hb2⟩
  have HP := HGW.out w2 hb2 s
  rw [HRES.out] at HP
  have HP := Lib.hid HP
  cases RES with
  | error er =>
    obtain ⟨p, er⟩ := er
    go_wp2_with fail
    refine HP.out.mono ?_
    rintro e w3 ⟨⟨v, rfl, hft⟩, hb3⟩
    have hB3 := hb2.trans (hb3.mono hb2.size)
    clear hft
    go_wp2_with fail
    go_ret
    exact ⟨rfl, hB3⟩
  | ok l =>
    go_wp2_with fail
    refine HP.out.mono ?_
    rintro e w3 ⟨⟨out, ls, A, B, rfl, hnd, hmap, hA, hAB⟩, hb3⟩
    have hB3 := hb2.trans (hb3.mono hb2.size)
    obtain ⟨a, cap, rfl⟩ := own_shape hnd.own
    have hll : ls.length = l.length := by rw [← hmap, List.length_map]
    have hlb : l.length ≤ 1000 := by
      obtain ⟨_, t, _, _, _, _, _, _, hl, hc⟩ := taken HRES.out
      rw [hl, nodes_len]
      exact hc
    have hlI : (l.length : Int) ≤ 1000 := by omega
    rw [hll]
    clear hnd hmap hb3 HP hll
    by_cases hl980 : 980 < l.length
    · have hlI2 : 980 < (l.length : Int) := by omega
      go_wp2_with fail
      go_ret
      exact ⟨rfl, hB3⟩
    · have hlI2 : (l.length : Int) ≤ 980 := by omega
      by_cases hs3 : 3896 < s.size
      · have hsI2 : 3896 < (s.size : Int) := by omega
        go_wp2_with fail
        go_ret
        exact ⟨rfl, hB3⟩
      · have hsI2 : (s.size : Int) ≤ 3896 := by omega
        have HB3 := Lib.hid hB3
        clear hB3 hb2
        go_upto_block 0 with fail
        go_cut [8, 9, 10] from 11 to 79 (fun p o c wr => ∃ j : Nat, j ≤ len ∧ j ≤ 9 ∧ p = .string (baL (paL (pkL ns j))) ∧ o = .string (baL (opS (pkL ns j))) ∧ c = .string (baL (shB (j - 1))) ∧ Below w.heap.size w wr)
        case first =>
          go_wp2_with fail
          go_loopw [8, 9, 10, 11] (fun p o c i wr => ∃ j : Nat, j ≤ len ∧ j ≤ 9 ∧ p = .string (baL (paL (pkL ns j))) ∧ o = .string (baL (opS (pkL ns j))) ∧ c = .string (baL (shB (j - 1))) ∧ i = .int .i64 (j : Int) ∧ Below w.heap.size w wr) (fun _ _ _ i _ => 9 - (intOf i).toNat)
          case atStart => exact ⟨0, Nat.zero_le _, Nat.zero_le _, rfl, rfl, rfl, rfl, HB3.out⟩
          case round =>
            obtain ⟨j, hj, hj9, rfl, rfl, rfl, rfl, hb⟩ := hrel
            have z1 : (baL (paL (pkL ns j))).size ≤ 100 := by
              show (paL (pkL ns j)).length ≤ 100
              have := paL_len (pkL ns j)
              rw [pkL_len] at this
              omega
            have z2 : (baL (opS (pkL ns j))).size ≤ 100 := by
              show (opS (pkL ns j)).length ≤ 100
              have := opS_len (pkL ns j)
              rw [pkL_len] at this
              omega
            have z3 : (baL (shB (j - 1))).size ≤ 100 := by
              show (shB (j - 1)).length ≤ 100
              rw [shB_len]
              omega
            by_cases hlt : j < len ∧ j < 9
            · obtain ⟨hlt, hlt9⟩ := hlt
              obtain ⟨ad, rfl, hcell, hn1, hn2⟩ := HNS.out j hlt
              have hcell := cell_keeps hb hcell
              have hI1 : (j : Int) < (len : Int) := by omega
              have hI2 : (j : Int) < 9 := by omega
              have HP1 := Lib.hid (path_step ns j)
              have HP2 := Lib.hid (open_step ns j)
              have HP3 := Lib.hid (shut_step j)
              obtain ⟨S1, hS1⟩ : ∃ S, baL (paL (pkL ns j)) = S := ⟨_, rfl⟩
              obtain ⟨S2, hS2⟩ : ∃ S, baL (opS (pkL ns j)) = S := ⟨_, rfl⟩
              obtain ⟨S3, hS3⟩ : ∃ S, baL (shB (j - 1)) = S := ⟨_, rfl⟩
              rw [hS1] at z1 HP1 ⊢
              rw [hS2] at z2 HP2 ⊢
              rw [hS3] at z3 HP3 ⊢
              clear hS1 hS2 hS3
              have hwl := whN_le hn1 hn2
              have HWN := Lib.hid (fun h : ns j < 0 => whN_neg h)
              have HWP := Lib.hid (fun h : 0 ≤ ns j => whN_pos h)
              generalize whN (ns j) = q at *
              generalize ns j = nj at *
              obtain ⟨y, hy⟩ : ∃ y, q % 6 = y := ⟨_, rfl⟩
              rw [hy] at HP1 HP2
              have hyI : (q : Int).tmod 6 = (y : Int) := by rw [Int.tmod_eq_emod_of_nonneg (by omega)]; omega
              have hy6 : y < 6 := by omega
              have hyL : (y : Int) < 6 := by omega
              have z4 := pnS_size y
              clear hy
              go_upto_if 56 with fail
              go_cut [12] from 57 to 59 (fun v wx => v = .int .i64 (q : Int) ∧ wx = wr)
              case first =>
                by_cases hneg : nj < 0
                · have h := HWN.out hneg
                  have HH := Lib.hid h
                  clear h
                  go_wp2_with fail
                  go_meet
                  exact ⟨by rw [HH.out], rfl⟩
                · have h := HWP.out (by omega)
                  have HH := Lib.hid h
                  clear h
                  go_wp2_with fail
                  go_meet
                  exact ⟨by rw [HH.out], rfl⟩
              case rest =>
                obtain ⟨rfl, rfl⟩ := hcut
                clear HWN HWP
                have c1 := pn_row (w := wc) hy6 9
                have hb' := hb.alloc hb.size (.cells #[.string ⟨#[97]⟩, .string ⟨#[98]⟩, .string ⟨#[120, 45, 121]⟩, .string ⟨#[34, 115, 32, 116, 34]⟩, .string ⟨#[99, 39]⟩, .string ⟨#[34, 34]⟩] 9)
                have HBn := Lib.hid hb'
                clear hb'
                go_upto_region 15 with fail
                generalize wc.alloc (.cells #[.string ⟨#[97]⟩, .string ⟨#[98]⟩, .string ⟨#[120, 45, 121]⟩, .string ⟨#[34, 115, 32, 116, 34]⟩, .string ⟨#[99, 39]⟩, .string ⟨#[34, 34]⟩] 9) = w5 at *
                clear c1
                obtain ⟨S4, hS4⟩ : ∃ S, pnS y = S := ⟨_, rfl⟩
                rw [hS4] at HP1 HP2 z4 ⊢
                clear hS4
                go_upto_if 66 with fail
                go_cut [8, 9, 10] from 67 to 72 (fun a b c wx => a = .string (if j = 0 then S1 else S1 ++ ⟨#[46]⟩) ∧ b = .string (if j = 0 then S2 else S2 ++ ⟨#[123, 32]⟩) ∧ c = .string (if j = 0 then S3 else ⟨#[59, 32, 125]⟩ ++ S3) ∧ wx = w5)
                case first =>
                  clear HP1 HP2 HP3
                  by_cases h0 : j = 0
                  · subst h0
                    go_wp2_with fail
                    go_meet
                    exact ⟨rfl, rfl, rfl, rfl⟩
                  · have h0I : (0 : Int) < (j : Int) := by omega
                    go_wp2_with fail
                    go_meet
                    exact ⟨by rw [if_neg h0], by rw [if_neg h0], by rw [if_neg h0], rfl⟩
                case rest =>
                  obtain ⟨rfl, rfl, rfl, rfl⟩ := hcut
                  have y1 : (if j = 0 then S1 else S1 ++ ⟨#[46]⟩).size ≤ 200 := by
                    split
                    · omega
                    · rw [ba_size]; show _ + _ ≤ _; simp only [ByteArray.size, List.size_toArray, List.length_cons, List.length_nil] at *; omega
                  have y2 : (if j = 0 then S2 else S2 ++ ⟨#[123, 32]⟩).size ≤ 200 := by
                    split
                    · omega
                    · rw [ba_size]; show _ + _ ≤ _; simp only [ByteArray.size, List.size_toArray, List.length_cons, List.length_nil] at *; omega
                  generalize (if j = 0 then S1 else S1 ++ ⟨#[46]⟩) = R1 at *
                  generalize (if j = 0 then S2 else S2 ++ ⟨#[123, 32]⟩) = R2 at *
                  generalize (if j = 0 then S3 else ⟨#[59, 32, 125]⟩ ++ S3) = R3 at *
                  go_wp2_with fail
                  go_roundw
                  case rel => exact ⟨j + 1, by omega, by omega, by rw [HP1.out], by rw [HP2.out], by rw [HP3.out], by go_num, HBn.out⟩
                  case measure => simp [intOf]; omega
            · by_cases hjl : j < len
              · have hxI : (j : Int) < (len : Int) := by omega
                have hxJ : ¬ (j : Int) < 9 := by omega
                go_wp2_with fail
                go_meet
                exact ⟨j, hj, hj9, rfl, rfl, rfl, hb⟩
              · have hxI : (len : Int) ≤ (j : Int) := by omega
                go_wp2_with fail
                go_meet
                exact ⟨j, hj, hj9, rfl, rfl, rfl, hb⟩
        case rest =>
          obtain ⟨j, hj, hj9, rfl, rfl, rfl, hb⟩ := hcut
          clear HNS
          have z1 : (baL (paL (pkL ns j))).size ≤ 100 := by
            show (paL (pkL ns j)).length ≤ 100
            have := paL_len (pkL ns j)
            rw [pkL_len] at this
            omega
          have z2 : (baL (opS (pkL ns j))).size ≤ 100 := by
            show (opS (pkL ns j)).length ≤ 100
            have := opS_len (pkL ns j)
            rw [pkL_len] at this
            omega
          have z3 : (baL (shB (j - 1))).size ≤ 100 := by
            show (shB (j - 1)).length ≤ 100
            rw [shB_len]
            omega
          have HB := Lib.hid hb
          have hks := pkL_lt ns j
          have hkl := pkL_len ns j
          obtain ⟨S1, hS1⟩ : ∃ S, baL (paL (pkL ns j)) = S := ⟨_, rfl⟩
          obtain ⟨S2, hS2⟩ : ∃ S, baL (opS (pkL ns j)) = S := ⟨_, rfl⟩
          obtain ⟨S3, hS3⟩ : ∃ S, baL (shB (j - 1)) = S := ⟨_, rfl⟩
          rw [hS1] at z1 ⊢
          rw [hS2] at z2 ⊢
          rw [hS3] at z3 ⊢
          have HS1 := Lib.hid hS1
          have HS2 := Lib.hid hS2
          have HS3 := Lib.hid hS3
          clear hS1 hS2 hS3 hb
          by_cases h0 : j = 0
          · subst h0
            have h9 : S1 = ⟨#[]⟩ := HS1.out.symm
            subst h9
            have hst : ((⟨#[]⟩ : ByteArray).toList == (⟨#[]⟩ : ByteArray).toList) = true := by simp
            go_wp2_with fail
            go_ret
            exact ⟨rfl, HB.out⟩
          · have hLne : pkL ns j ≠ [] := fun e => h0 ((pkL_nil ns j).1 e)
            have hpe : S1.toList.isEmpty = false := by
              rw [List.isEmpty_eq_false_iff]
              intro e
              have e2 := congrArg List.length e
              rw [ba_len, ← HS1.out] at e2
              have e3 : (paL (pkL ns j)).length = 0 := e2
              exact paL_ne hLne (List.eq_nil_of_length_eq_zero e3)
            have HA := Lib.hid (show (⟨#[123, 32]⟩ ++ S1 ++ ⟨#[32, 61, 32]⟩ ++ s ++ ⟨#[10, 59, 32, 125]⟩ : ByteArray).data.toList = 123 :: 32 :: (paL (pkL ns j) ++ (32 :: 61 :: 32 :: (s.data.toList ++ [10, 59, 32, 125]))) by
              rw [nw_app, nw_app, nw_app, nw_app, ← HS1.out]
              simp [baL])
            have HBB := Lib.hid (show (⟨#[123, 32]⟩ ++ S2 ++ s ++ ⟨#[10]⟩ ++ S3 ++ ⟨#[59, 32, 125]⟩ : ByteArray).data.toList = opL (pkL ns j) ++ (s.data.toList ++ 10 :: shB (pkL ns j).length) by
              rw [nw_app, nw_app, nw_app, nw_app, nw_app, ← HS2.out, ← HS3.out, hkl]
              obtain ⟨k, ks, hkk⟩ : ∃ k ks, pkL ns j = k :: ks := by
                cases h : pkL ns j with
                | nil => exact absurd h hLne
                | cons k ks => exact ⟨k, ks, rfl⟩
              obtain ⟨j', rfl⟩ : ∃ i, j = i + 1 := ⟨j - 1, by omega⟩
              rw [hkk, opS_opL, shB_succ]
              simp [baL])
            have HPS := Lib.hid (paths HRES.out hLne (by rw [hkl]; exact hj9) hks (by omega) (by omega) HA.out HBB.out)
            obtain ⟨RA, hRA⟩ : ∃ R, parseP pfA (⟨#[123, 32]⟩ ++ S1 ++ ⟨#[32, 61, 32]⟩ ++ s ++ ⟨#[10, 59, 32, 125]⟩) = R := ⟨_, rfl⟩
            obtain ⟨RB, hRB⟩ : ∃ R, parseP pfA (⟨#[123, 32]⟩ ++ S2 ++ s ++ ⟨#[10]⟩ ++ S3 ++ ⟨#[59, 32, 125]⟩) = R := ⟨_, rfl⟩
            rw [hRA, hRB] at HPS
            have HPA := HGW.out _ HB.out (⟨#[123, 32]⟩ ++ S1 ++ ⟨#[32, 61, 32]⟩ ++ s ++ ⟨#[10, 59, 32, 125]⟩)
            rw [hRA] at HPA
            have HPA := Lib.hid HPA
            have HRA := Lib.hid hRA
            have HRB := Lib.hid hRB
            have hff := fldF
            clear HA HBB hRA hRB HS1 HS2 HS3 hks hkl
            have hlwr := HB.out.size
            rcases HPS.out with ⟨la, lb, e1, e2, hzz⟩ | ⟨p, e1⟩ | ⟨⟨la, e1⟩, p, e2⟩
            · subst e1 e2
              have HZZ := Lib.hid hzz
              clear HPS hzz
              go_wp2_with fail
              refine HPA.out.mono ?_
              rintro e w5 ⟨⟨outA, ms, A1, B1, rfl, hndA, hmapA, hA1, hAB1⟩, hb5⟩
              have hB5 := HB.out.trans (hb5.mono hlwr)
              have HPB := HGW.out w5 hB5 (⟨#[123, 32]⟩ ++ S2 ++ s ++ ⟨#[10]⟩ ++ S3 ++ ⟨#[59, 32, 125]⟩)
              rw [HRB.out] at HPB
              have HPB := Lib.hid HPB
              obtain ⟨hm0, hml, _, _⟩ := len_of2 HRA.out hmapA
              obtain ⟨x0, hx0⟩ := get_lt ms hm0
              obtain ⟨ga, n1, c1, rfl, hn1, _⟩ := hndA.at_ne hx0
              have HBD := Lib.hid hndA.bound
              have HRDA := Lib.hid hndA.rd
              have HMA := Lib.hid hmapA
              have hmn : ms.length ≤ 9223372036854775807 := by omega
              have HM0 := Lib.hid hm0
              rw [hn1]
              clear hndA hmapA hx0 hn1 hb5 hm0 hml
              go_wp2_with fail
              refine HPB.out.mono ?_
              rintro e w6 ⟨⟨outB, ks, A2, B2, rfl, hndB, hmapB, hA2, hAB2⟩, hb6⟩
              have hB6 := hB5.trans (hb6.mono hB5.size)
              have hlen : ks.length = ms.length := by
                have h1 := congrArg List.length HZZ.out
                rw [List.length_map, List.length_map, ← HMA.out, ← hmapB, List.length_map, List.length_map] at h1
                exact h1.symm
              obtain ⟨y0, hy0⟩ := get_lt ks (k := 0) (by have := HM0.out; omega)
              obtain ⟨gb, n2, c2, rfl, hn2, _⟩ := hndB.at_ne hy0
              have hfit := fit_of HRA.out HMA.out
              have hbd : ∀ x ∈ ms, x.nd.names.length ≤ 9223372036854775807 ∧ x.nd.kids.length ≤ 9223372036854775807 := fun x hx => ⟨Nat.le_trans (hfit x hx).1 (HBD.out x hx), HBD.out x hx⟩
              have hsame : ∀ (i : Nat) (x y : NV), ms[i]? = some x → ks[i]? = some y → SameN false x.nd y.nd := by
                intro i x y hx hy
                have h1 : (la.map Nd.z)[i]? = some x.nd.z := by rw [← HMA.out, List.getElem?_map, List.getElem?_map, hx]; rfl
                have h2 : (lb.map Nd.z)[i]? = some y.nd.z := by rw [← hmapB, List.getElem?_map, List.getElem?_map, hy]; rfl
                rw [HZZ.out, h2] at h1
                have h3 := (Option.some.inj h1).symm
                exact ⟨show x.nd.z.kind = y.nd.z.kind from congrArg Nd.kind h3, show x.nd.z.text = y.nd.z.text from congrArg Nd.text h3, show x.nd.z.int = y.nd.z.int from congrArg Nd.int h3, show x.nd.z.flt = y.nd.z.flt from congrArg Nd.flt h3, show x.nd.z.names = y.nd.z.names from congrArg Nd.names h3, show x.nd.z.kids = y.nd.z.kids from congrArg Nd.kids h3, fun h => by cases h⟩
              have HS := Lib.hid (same_false (c := c1) (c' := c2) hmn rfl hlen (HRDA.out.below hb6) hndB.rd hbd hsame)
              rw [hn2, hlen]
              clear hndB hmapB hy0 hn2 hlen hbd hsame hfit
              go_wp2_with fail
              refine HS.out.mono ?_
              rintro e w7 ⟨rfl, hb7⟩
              go_wp2_with fail
              go_ret
              exact ⟨rfl, hB6.trans (hb7.mono hB6.size)⟩
            · subst e1
              clear HPS
              go_wp2_with fail
              refine HPA.out.mono ?_
              rintro e w5 ⟨⟨v, rfl, f1, ty, rfl, g1⟩, hb5⟩
              have hB5 := HB.out.trans (hb5.mono hlwr)
              have HPB := HGW.out w5 hB5 (⟨#[123, 32]⟩ ++ S2 ++ s ++ ⟨#[10]⟩ ++ S3 ++ ⟨#[59, 32, 125]⟩)
              rw [HRB.out] at HPB
              have HPB := Lib.hid HPB
              have G1 := Lib.hid g1
              clear g1
              cases RB with
              | error er =>
                obtain ⟨p2, er2⟩ := er
                go_wp2_with fail
                refine HPB.out.mono ?_
                rintro e w6 ⟨⟨v2, rfl, hft2⟩, hb6⟩
                have hB6 := hB5.trans (hb6.mono hB5.size)
                have HF1 := Lib.hid (fault_says (HEW.out w6 hB6) (block_below G1.out hb6))
                clear hft2
                go_wp2_with fail
                refine HF1.out.mono ?_
                rintro e w7 ⟨rfl, hb7⟩
                go_wp2_with fail
                go_ret
                exact ⟨rfl, hB6.trans (hb7.mono hB6.size)⟩
              | ok lb =>
                go_wp2_with fail
                refine HPB.out.mono ?_
                rintro e w6 ⟨⟨outB, ks, A2, B2, rfl, _, _, _, _⟩, hb6⟩
                have hB6 := hB5.trans (hb6.mono hB5.size)
                have HF1 := Lib.hid (fault_says (HEW.out w6 hB6) (block_below G1.out hb6))
                go_wp2_with fail
                refine HF1.out.mono ?_
                rintro e w7 ⟨rfl, hb7⟩
                go_wp2_with fail
                go_ret
                exact ⟨rfl, hB6.trans (hb7.mono hB6.size)⟩
            · subst e1 e2
              clear HPS
              go_wp2_with fail
              refine HPA.out.mono ?_
              rintro e w5 ⟨⟨outA, ms, A1, B1, rfl, _, _, _, _⟩, hb5⟩
              have hB5 := HB.out.trans (hb5.mono hlwr)
              have HPB := HGW.out w5 hB5 (⟨#[123, 32]⟩ ++ S2 ++ s ++ ⟨#[10]⟩ ++ S3 ++ ⟨#[59, 32, 125]⟩)
              rw [HRB.out] at HPB
              have HPB := Lib.hid HPB
              go_wp2_with fail
              refine HPB.out.mono ?_
              rintro e w6 ⟨⟨v2, rfl, f2, ty, rfl, g2⟩, hb6⟩
              have hB6 := hB5.trans (hb6.mono hB5.size)
              have HF1 := Lib.hid (fault_says (HEW.out w6 hB6) g2)
              clear g2
              go_wp2_with fail
              refine HF1.out.mono ?_
              rintro e w7 ⟨rfl, hb7⟩
              go_wp2_with fail
              go_ret
              exact ⟨rfl, hB6.trans (hb7.mono hB6.size)⟩

end Go.Proofs.YtppljgallbmgcaaGreatDoor
