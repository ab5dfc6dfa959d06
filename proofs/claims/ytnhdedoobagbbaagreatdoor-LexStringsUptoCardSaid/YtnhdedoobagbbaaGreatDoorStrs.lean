/- LexStrings: the walk. -/
import Derived.Test.YtnhdedoobagbbaaGreatDoorStrsP
import Derived.Test.YtnhdedoobagbbaaGreatDoorTokEq4
import Derived.Test.YtnhdedoobagbbaaGreatDoorFaultSays
import Derived.BigQuiet
import Derived.Laws.IdiomStrings
namespace Go.Proofs.YtnhdedoobagbbaaGreatDoor
open Go.RowKit Go.Shelf

def ctlZ (n : Int) : Bool := ((decide (n < 32) && !(n == 9)) && !(n == 10)) || n == 127
theorem ctl_spec (c : UInt8) : ctlB c = ctlZ c.toNat := by
  have := all256 (p := fun c => ctlB c == ctlZ c.toNat) (by decide +kernel) c
  simpa using this
/-- What is written of the first k bytes. -/
def written (s : ByteArray) (k : Nat) : List UInt8 := 34 :: escL 0 (s.data.toList.take k)
theorem written_step {s : ByteArray} {k : Nat} (h : k < s.size) : written s (k + 1) = written s k ++ escAt k s[k] := by
  have hl : s.data.toList.length = s.size := Array.length_toList
  unfold written
  rw [List.take_add_one, List.getElem?_eq_getElem (by omega), Option.toList_some, escL_append, List.length_take, List.cons_append, Nat.zero_add, Nat.min_eq_left (by omega)]
  simp [escL]
  rfl
theorem written_len {s : ByteArray} {k : Nat} (h : k ≤ s.size) : 1 ≤ (written s k).length ∧ (written s k).length ≤ 2 * s.size + 1 := by
  have := escL_len (s.data.toList.take k) 0
  unfold written
  rw [List.length_cons]
  rw [List.length_take] at this
  omega
theorem own_one {w : World} {c : UInt8} {base : Nat} (hb : base ≤ w.heap.size) : (w.alloc (.cells #[.int .u8 c.toNat] 5 (0, 0))).ownsRow base 5 1 (.slice (some ⟨w.heap.size, 0, none⟩) 1 1) 1 (Lib.byteCells [c]) :=
  ⟨rfl, Or.inr ⟨w.heap.size, 1, #[.int .u8 c.toNat], rfl, hb, block_new _ _ rfl, by simp, by simp [maxLen], by simp, by simp [Lib.byteCells]⟩⟩
theorem own_conv {w : World} {base g vc n : Nat} {l r : List UInt8} (h : w.ownsRow base 5 1 (.slice (some ⟨g, 0, none⟩) n vc) n (Lib.byteCells (l ++ r))) :
    (convert 36 9 (.slice (some ⟨g, 0, none⟩) l.length vc)).run Tryz.prog w = .ok (.string ⟨l.toArray⟩) w :=
  run_convert_bytes_back w 36 9 5 ⟨g, 0, none⟩ vc l Tryz.underlying36 Tryz.underlying5 Tryz.underlying9 fun j hj => by
    obtain ⟨g', he, _, _, hx⟩ := own_cell h rfl (j := j) (x := .int .u8 (l[j].toNat : Int)) (by unfold Lib.byteCells; rw [List.getElem?_map, List.getElem?_append_left hj, List.getElem?_eq_getElem hj]; rfl)
    cases he
    rw [show (⟨g, 0, none⟩ : Addr).add j = ⟨g, j, none⟩ by unfold Addr.add; split <;> simp_all]
    exact hx
set_option maxHeartbeats 4000000 in
set_option maxRecDepth 100000 in
theorem strs_law {NG : Nat} {w : World} (hG : GL NG w) (hNG : NG ≤ w.heap.size) (hE : w.cell? ⟨0, 0, none⟩ = some (.iface 81 (.agg #[.pointer (some ⟨16, 25, none⟩)]))) (s : ByteArray) (hs : s.size ≤ 1048576) :
    Calls Tryz.prog 4 #[.string s] w fun e w' => e = .returned (.bool true) ∧ Below w.heap.size w w' := by
  obtain ⟨i0, hi, hz0, hz1, hz2⟩ := info_parts infoB1
  have hE0 : 0 < w.heap.size := by
    rcases Nat.lt_or_ge 0 w.heap.size with h | h
    · exact h
    · simp [World.cell?, Array.getElem?_eq_none h] at hE
  have HE := Lib.hid hE
  clear hE
  go_enter Tryz.func4, Tryz.ntmps4
  go_wp2_with fail
  refine (shown_any hG hNG).mono ?_
  rintro e w1 ⟨rfl, hb1⟩
  go_wp2_with fail
  go_loopw [4, 5] (fun v i wr => ∃ (k : Nat), k ≤ s.size ∧ i = .int .i64 k ∧ wr.ownsRow w.heap.size 5 1 v (written s k).length (Lib.byteCells (written s k)) ∧ Below w.heap.size w wr ∧ Hid (∀ c, c ∈ s.data.toList.take k → ctlB c = false)) (fun _ i _ => s.size - (intOf i).toNat)
  case atStart => exact ⟨0, Nat.zero_le _, rfl, own_one hb1.size, hb1.alloc hb1.size _, Lib.hid (by simp)⟩
  case round =>
    obtain ⟨k, hk, rfl, hown, hb, hall⟩ := hrel
    obtain ⟨va, vc, rfl⟩ := own_shape hown
    obtain ⟨hl1, hl2⟩ := written_len hk
    by_cases hlt2 : k < s.size
    · obtain ⟨c, hc⟩ : ∃ c, s[k] = c := ⟨_, rfl⟩
      go_upto_region 7 with fail
      go_cut [36] from 23 to 36 (fun v wx => v = .bool (ctlB c) ∧ wx = wr)
      case first =>
        have hsp := ctl_spec c
        unfold ctlZ at hsp
        obtain ⟨b9, h9⟩ : ∃ b, ((c.toNat : Int) == 9) = b := ⟨_, rfl⟩
        obtain ⟨b10, h10⟩ : ∃ b, ((c.toNat : Int) == 10) = b := ⟨_, rfl⟩
        obtain ⟨b127, h127⟩ : ∃ b, ((c.toNat : Int) == 127) = b := ⟨_, rfl⟩
        have n9 : ((c.toNat : Int) != 9) = !b9 := by rw [bne, h9]
        have n10 : ((c.toNat : Int) != 10) = !b10 := by rw [bne, h10]
        rw [h9, h10, h127] at hsp
        have HS := Lib.hid hsp
        clear hsp
        generalize ctlB c = r at *
        go_wp2_with fail
        all_goals
          go_meet
          refine ⟨congrArg Value.bool ?_, rfl⟩
          rw [HS.out]
          clear HS h9 h10 h127 n9 n10
          clear hall hown hb hb1 hG hc
          first | (simp [*]; done) | (simp [*]; intro h; exfalso; omega) | (cases b127 <;> simp [*] <;> omega) | grind
      case rest =>
        obtain ⟨rfl, rfl⟩ := hcut
        cases hm : ctlB c
        · have hall2 : ∀ d, d ∈ s.data.toList.take (k + 1) → ctlB d = false := by
            have hl : s.data.toList.length = s.size := Array.length_toList
            intro d hd
            rw [List.take_add_one, List.getElem?_eq_getElem (by omega), Option.toList_some] at hd
            rcases List.mem_append.1 hd with h | h
            · exact hall.out d h
            · rw [List.mem_singleton.1 h]; exact hc ▸ hm
          have HALL2 := Lib.hid hall2
          clear hm hall2
          by_cases h34 : c = 34
          · subst h34
            have hst : written s (k + 1) = written s k ++ [92, 34] := by rw [written_step hlt2, hc]; simp [escAt, *]
            have HST := Lib.hid hst
            clear hst
            go_wp2_with (at_builtin; refine wpList_append_own _ rfl _ _ 36 rfl w.heap.size 5 i0 (.int .u8 0) 1 1 Tryz.underlying36 hi hz0 hz1 hz2 rfl (by decide) _ _ _ rfl (hown.alloc _) ⟨_, 0, none⟩ 2 2 [.int .u8 92, .int .u8 34] rfl rfl ?c1 ?c2 ?c3 ?c4 ?c5 ?_)
            case c1 =>
              intro j u hj
              match j, hj with
              | 0, hj => simp at hj; subst hj; simp [Addr.add]
              | 1, hj => simp at hj; subst hj; simp [Addr.add]
            case c2 => intro u hu; simp at hu; rcases hu with rfl | rfl <;> rfl
            case c3 => unfold maxLen; omega
            case c4 => omega
            case c5 => have := hb.size; simp; omega
            intro v' w2 hown' hgrow _
            go_wp2_with fail
            go_roundw
            case rel => exact ⟨k + 1, by omega, by go_num, by rw [HST.out, List.length_append, Lib.byteCells_append]; exact hown', (hb.alloc hb.size _).grown hgrow (by have := hb.size; simp; omega) (fun j hj => (hown.lt j hj).1), HALL2⟩
            case measure => simp [intOf]; omega
          · by_cases h92 : c = 92
            · subst h92
              have hst : written s (k + 1) = written s k ++ [92, 92] := by rw [written_step hlt2, hc]; simp [escAt, *]
              have HST := Lib.hid hst
              clear hst
              go_wp2_with (at_builtin; refine wpList_append_own _ rfl _ _ 36 rfl w.heap.size 5 i0 (.int .u8 0) 1 1 Tryz.underlying36 hi hz0 hz1 hz2 rfl (by decide) _ _ _ rfl (hown.alloc _) ⟨_, 0, none⟩ 2 2 [.int .u8 92, .int .u8 92] rfl rfl ?c1 ?c2 ?c3 ?c4 ?c5 ?_)
              case c1 =>
                intro j u hj
                match j, hj with
                | 0, hj => simp at hj; subst hj; simp [Addr.add]
                | 1, hj => simp at hj; subst hj; simp [Addr.add]
              case c2 => intro u hu; simp at hu; rcases hu with rfl | rfl <;> rfl
              case c3 => unfold maxLen; omega
              case c4 => omega
              case c5 => have := hb.size; simp; omega
              intro v' w2 hown' hgrow _
              go_wp2_with fail
              go_roundw
              case rel => exact ⟨k + 1, by omega, by go_num, by rw [HST.out, List.length_append, Lib.byteCells_append]; exact hown', (hb.alloc hb.size _).grown hgrow (by have := hb.size; simp; omega) (fun j hj => (hown.lt j hj).1), HALL2⟩
              case measure => simp [intOf]; omega
            · have i34 := ne_nat (n := 34) h34 rfl
              have i92 := ne_nat (n := 92) h92 rfl
              by_cases h10 : c = 10
              · subst h10
                rcases Nat.mod_two_eq_zero_or_one k with hk0 | hk0
                · have hk1 : ((k : Int).tmod 2 == 0) = true := by rw [Int.tmod_eq_emod_of_nonneg (by omega)]; simp; omega
                  have hst : written s (k + 1) = written s k ++ [92, 110] := by rw [written_step hlt2, hc]; simp [escAt, *]
                  have HST := Lib.hid hst
                  clear hst
                  go_wp2_with (at_builtin; refine wpList_append_own _ rfl _ _ 36 rfl w.heap.size 5 i0 (.int .u8 0) 1 1 Tryz.underlying36 hi hz0 hz1 hz2 rfl (by decide) _ _ _ rfl (hown.alloc _) ⟨_, 0, none⟩ 2 2 [.int .u8 92, .int .u8 110] rfl rfl ?c1 ?c2 ?c3 ?c4 ?c5 ?_)
                  case c1 =>
                    intro j u hj
                    match j, hj with
                    | 0, hj => simp at hj; subst hj; simp [Addr.add]
                    | 1, hj => simp at hj; subst hj; simp [Addr.add]
                  case c2 => intro u hu; simp at hu; rcases hu with rfl | rfl <;> rfl
                  case c3 => unfold maxLen; omega
                  case c4 => omega
                  case c5 => have := hb.size; simp; omega
                  intro v' w2 hown' hgrow _
                  go_wp2_with fail
                  go_roundw
                  case rel => exact ⟨k + 1, by omega, by go_num, by rw [HST.out, List.length_append, Lib.byteCells_append]; exact hown', (hb.alloc hb.size _).grown hgrow (by have := hb.size; simp; omega) (fun j hj => (hown.lt j hj).1), HALL2⟩
                  case measure => simp [intOf]; omega
                · have hk1 : ((k : Int).tmod 2 == 0) = false := by rw [Int.tmod_eq_emod_of_nonneg (by omega)]; simp; omega
                  have hst : written s (k + 1) = written s k ++ [10] := by rw [written_step hlt2, hc]; simp [escAt, *]
                  have HST := Lib.hid hst
                  clear hst
                  go_wp2_with (at_builtin; refine wpList_append_own _ rfl _ _ 36 rfl w.heap.size 5 i0 (.int .u8 0) 1 1 Tryz.underlying36 hi hz0 hz1 hz2 rfl (by decide) _ _ _ rfl (hown.alloc _) ⟨_, 0, none⟩ 1 1 [.int .u8 10] rfl rfl ?c1 ?c2 ?c3 ?c4 ?c5 ?_)
                  case c1 =>
                    intro j u hj
                    match j, hj with
                    | 0, hj => simp at hj; subst hj; simp [Addr.add]
                  case c2 => intro u hu; simp at hu; subst hu; rfl
                  case c3 => unfold maxLen; omega
                  case c4 => omega
                  case c5 => have := hb.size; simp; omega
                  intro v' w2 hown' hgrow _
                  go_wp2_with fail
                  go_roundw
                  case rel => exact ⟨k + 1, by omega, by go_num, by rw [HST.out, List.length_append, Lib.byteCells_append]; exact hown', (hb.alloc hb.size _).grown hgrow (by have := hb.size; simp; omega) (fun j hj => (hown.lt j hj).1), HALL2⟩
                  case measure => simp [intOf]; omega
              · have i10 := ne_nat (n := 10) h10 rfl
                by_cases h9 : c = 9
                · subst h9
                  rcases Nat.mod_two_eq_zero_or_one k with hk0 | hk0
                  · have hk1 : ((k : Int).tmod 2 == 0) = true := by rw [Int.tmod_eq_emod_of_nonneg (by omega)]; simp; omega
                    have hst : written s (k + 1) = written s k ++ [92, 116] := by rw [written_step hlt2, hc]; simp [escAt, *]
                    have HST := Lib.hid hst
                    clear hst
                    go_wp2_with (at_builtin; refine wpList_append_own _ rfl _ _ 36 rfl w.heap.size 5 i0 (.int .u8 0) 1 1 Tryz.underlying36 hi hz0 hz1 hz2 rfl (by decide) _ _ _ rfl (hown.alloc _) ⟨_, 0, none⟩ 2 2 [.int .u8 92, .int .u8 116] rfl rfl ?c1 ?c2 ?c3 ?c4 ?c5 ?_)
                    case c1 =>
                      intro j u hj
                      match j, hj with
                      | 0, hj => simp at hj; subst hj; simp [Addr.add]
                      | 1, hj => simp at hj; subst hj; simp [Addr.add]
                    case c2 => intro u hu; simp at hu; rcases hu with rfl | rfl <;> rfl
                    case c3 => unfold maxLen; omega
                    case c4 => omega
                    case c5 => have := hb.size; simp; omega
                    intro v' w2 hown' hgrow _
                    go_wp2_with fail
                    go_roundw
                    case rel => exact ⟨k + 1, by omega, by go_num, by rw [HST.out, List.length_append, Lib.byteCells_append]; exact hown', (hb.alloc hb.size _).grown hgrow (by have := hb.size; simp; omega) (fun j hj => (hown.lt j hj).1), HALL2⟩
                    case measure => simp [intOf]; omega
                  · have hk1 : ((k : Int).tmod 2 == 0) = false := by rw [Int.tmod_eq_emod_of_nonneg (by omega)]; simp; omega
                    have hst : written s (k + 1) = written s k ++ [9] := by rw [written_step hlt2, hc]; simp [escAt, *]
                    have HST := Lib.hid hst
                    clear hst
                    go_wp2_with (at_builtin; refine wpList_append_own _ rfl _ _ 36 rfl w.heap.size 5 i0 (.int .u8 0) 1 1 Tryz.underlying36 hi hz0 hz1 hz2 rfl (by decide) _ _ _ rfl (hown.alloc _) ⟨_, 0, none⟩ 1 1 [.int .u8 9] rfl rfl ?c1 ?c2 ?c3 ?c4 ?c5 ?_)
                    case c1 =>
                      intro j u hj
                      match j, hj with
                      | 0, hj => simp at hj; subst hj; simp [Addr.add]
                    case c2 => intro u hu; simp at hu; subst hu; rfl
                    case c3 => unfold maxLen; omega
                    case c4 => omega
                    case c5 => have := hb.size; simp; omega
                    intro v' w2 hown' hgrow _
                    go_wp2_with fail
                    go_roundw
                    case rel => exact ⟨k + 1, by omega, by go_num, by rw [HST.out, List.length_append, Lib.byteCells_append]; exact hown', (hb.alloc hb.size _).grown hgrow (by have := hb.size; simp; omega) (fun j hj => (hown.lt j hj).1), HALL2⟩
                    case measure => simp [intOf]; omega
                · have i9 := ne_nat (n := 9) h9 rfl
                  have hst : written s (k + 1) = written s k ++ [c] := by rw [written_step hlt2, hc]; simp [escAt, *]
                  have HST := Lib.hid hst
                  clear hst
                  go_wp2_with (at_builtin; refine wpList_append_own _ rfl _ _ 36 rfl w.heap.size 5 i0 (.int .u8 0) 1 1 Tryz.underlying36 hi hz0 hz1 hz2 rfl (by decide) _ _ _ rfl (hown.alloc _) ⟨_, 0, none⟩ 1 1 [.int .u8 c.toNat] rfl rfl ?c1 ?c2 ?c3 ?c4 ?c5 ?_)
                  case c1 =>
                    intro j u hj
                    match j, hj with
                    | 0, hj => simp at hj; subst hj; simp [Addr.add]
                  case c2 => intro u hu; simp at hu; subst hu; rfl
                  case c3 => unfold maxLen; omega
                  case c4 => omega
                  case c5 => have := hb.size; simp; omega
                  intro v' w2 hown' hgrow _
                  go_wp2_with fail
                  go_roundw
                  case rel => exact ⟨k + 1, by omega, by go_num, by rw [HST.out, List.length_append, Lib.byteCells_append]; exact hown', (hb.alloc hb.size _).grown hgrow (by have := hb.size; simp; omega) (fun j hj => (hown.lt j hj).1), HALL2⟩
                  case measure => simp [intOf]; omega
        · go_wp2_with fail
          go_ret
          exact ⟨rfl, hb⟩
    · obtain rfl : k = s.size := by omega
      have hlen : s.data.toList.length = s.size := Array.length_toList
      have hwr : written s s.size = 34 :: escL 0 s.data.toList := by
        unfold written
        rw [List.take_of_length_le (by omega)]
      have hctl : ∀ c, c ∈ s.data.toList → ctlB c = false := by
        have := hall.out
        rwa [List.take_of_length_le (by omega)] at this
      have HCTL := Lib.hid hctl
      have HWR := Lib.hid hwr
      clear hctl hwr hall
      go_wp2_with (at_builtin; refine wpList_append_own _ rfl _ _ 36 rfl w.heap.size 5 i0 (.int .u8 0) 1 1 Tryz.underlying36 hi hz0 hz1 hz2 rfl (by decide) _ _ _ rfl (hown.alloc _) ⟨_, 0, none⟩ 1 1 [.int .u8 34] rfl rfl ?e1 ?e2 ?e3 ?e4 ?e5 ?_)
      case e1 =>
        intro j u hj
        match j, hj with
        | 0, hj => simp at hj; subst hj; simp [Addr.add]
      case e2 => intro u hu; simp at hu; subst hu; rfl
      case e3 => unfold maxLen; omega
      case e4 => omega
      case e5 => have := hb.size; simp; omega
      intro v' w2 hown' hgrow _
      have hb2 : Below w.heap.size w w2 := (hb.alloc hb.size _).grown hgrow (by have := hb.size; simp; omega) (fun j hj => (hown.lt j hj).1)
      have hcell : Lib.byteCells (written s s.size) ++ [Value.int .u8 34] = Lib.byteCells (written s s.size ++ [34]) := by rw [Lib.byteCells_append]; rfl
      rw [hcell] at hown'
      have HOWN := Lib.hid hown'
      obtain ⟨va2, vc2, rfl⟩ := own_shape hown'
      obtain ⟨g2, rfl, hg2, _, _⟩ := own_cell hown' rfl (j := 0) (x := .int .u8 34) (by unfold written; rfl)
      have hcap : (written s s.size).length + 1 ≤ vc2 := by
        obtain ⟨_, hh⟩ := hown'
        rcases hh with ⟨he, _⟩ | ⟨_, _, _, he, _, _, hcp, _⟩
        · cases he
        · cases he
          exact hcp
      obtain ⟨N, hN⟩ : ∃ N, (written s s.size).length = N := ⟨_, rfl⟩
      have hqs : (quoted s.data.toList).size = N + 1 := by rw [quoted_size, ← hN, HWR.out]; rfl
      have hhs : (halfQuoted s.data.toList).size = N := by rw [half_size, ← hN, HWR.out]; rfl
      rw [hN] at hl1 hl2 hcap HOWN ⊢
      have HB2 := Lib.hid hb2
      have hcv : ∀ W, Below w2.heap.size w2 W → (convert 36 9 (.slice (some ⟨g2, 0, none⟩) (N + 1) vc2)).run Tryz.prog W = .ok (.string (quoted s.data.toList)) W := fun W hW => by
        have h := own_conv (l := written s s.size ++ [34]) (r := []) (by rw [List.append_nil]; exact own_below hown' hW)
        rw [List.length_append, hN] at h
        rw [show quoted s.data.toList = ⟨(written s s.size ++ [34]).toArray⟩ by rw [HWR.out]; rfl]
        exact h
      have hcv2 : ∀ W, Below w2.heap.size w2 W → (convert 36 9 (.slice (some ⟨g2, 0, none⟩) N vc2)).run Tryz.prog W = .ok (.string (halfQuoted s.data.toList)) W := fun W hW => by
        have h := own_conv (l := written s s.size) (r := [34]) (own_below hown' hW)
        rw [hN] at h
        rw [show halfQuoted s.data.toList = ⟨(written s s.size).toArray⟩ by rw [HWR.out]; rfl]
        exact h
      have HCV2 := Lib.hid hcv2
      have hcv0 := hcv w2 (Below.refl _ _)
      clear hcv hcv2 hown' hb2 hcell hgrow hN
      by_cases hbig : 4096 < N + 1
      · have hgt : decide ((4096 : Int) < (N : Int) + 1) = true := by simp; omega
        go_wp2_with fail
        go_ret
        exact ⟨rfl, HB2.out⟩
      · have hgt : decide ((4096 : Int) < (N : Int) + 1) = false := by simp; omega
        have HALL := Lib.hid (All_ask (GL.env NG) (s := quoted s.data.toList) (w := w2) (hG.keeps hNG HB2.out) (Nat.le_trans hNG HB2.out.size) (quoted_ask HCTL.out))
        by_cases hlong : 1024 < s.size
        · rw [quoted_long HCTL.out (by omega) (by omega)] at HALL
          have hgt2 : decide ((1024 : Int) < (s.size : Int)) = true := by simp; omega
          go_wp2_with fail
          refine HALL.out.mono ?_
          rintro e w3 ⟨⟨v, rfl, f, rfl, hft⟩, hb3⟩
          have hfe := fun W => fault_eq 0 5 W
          have hfe2 := fun W => fault_eq2 0 5 W
          go_wp2_with fail
          refine (fault_says (p := 0) (e := 5) ?_ hft).mono ?_
          · rw [((HB2.out).trans (hb3.mono HB2.out.size)).cell (show 0 < w.heap.size from hE0)]
            exact HE.out
          rintro e w4 ⟨rfl, hb4⟩
          go_wp2_with fail
          go_ret
          exact ⟨rfl, ((HB2.out).trans (hb3.mono HB2.out.size)).trans (hb4.mono (Nat.le_trans HB2.out.size hb3.size))⟩
        · rw [quoted_ok HCTL.out (by omega) (by omega)] at HALL
          have hgt2 : decide ((1024 : Int) < (s.size : Int)) = false := by simp; omega
          have HALL2 := Lib.hid (fun W (hW : Below w2.heap.size w2 W) => All_ask (GL.env NG) (s := halfQuoted s.data.toList) (w := W) (hG.keeps hNG ((HB2.out).trans (hW.mono HB2.out.size))) (Nat.le_trans hNG (Nat.le_trans HB2.out.size hW.size)) (half_ask HCTL.out))
          rw [half_err HCTL.out (by omega)] at HALL2
          go_wp2_with fail
          refine HALL.out.mono ?_
          rintro e w3 ⟨⟨out, rfl, hown3⟩, hb3⟩
          rw [show (⟨s.data.toList.toArray⟩ : ByteArray) = s by cases s; simp] at hown3
          have hf9 := eq_float0 9998 w3
          obtain ⟨oa, oc, rfl⟩ := own_shape hown3
          obtain ⟨g3, rfl, hg3, _, d0⟩ := own_cell hown3 rfl (j := 0) (x := .int .i64 4) rfl
          obtain ⟨_, he, _, _, d1⟩ := own_cell hown3 rfl (j := 1) (x := .string s) rfl
          cases he
          obtain ⟨_, he, _, _, d2⟩ := own_cell hown3 rfl (j := 2) (x := .int .i64 0) rfl
          cases he
          obtain ⟨_, he, _, _, d3⟩ := own_cell hown3 rfl (j := 3) (x := .float .f64 0) rfl
          cases he
          obtain ⟨_, he, _, _, d4⟩ := own_cell hown3 rfl (j := 4) (x := .int .i64 0) rfl
          cases he
          have hsub : ((N : Int) + 1 - 1) = N := by omega
          have hcv3 := HCV2.out w3 hb3
          have HC3 := Lib.hid (HALL2.out w3 hb3)
          have HB3 := Lib.hid ((HB2.out).trans (hb3.mono HB2.out.size))
          go_wp2_with fail
          refine HC3.out.mono ?_
          rintro e w4 ⟨⟨v, rfl, f, rfl, hft⟩, hb4⟩
          have HB4 := Lib.hid ((HB3.out).trans (hb4.mono HB3.out.size))
          have hfe := fun W => fault_eq 0 5 W
          have hfe2 := fun W => fault_eq2 0 5 W
          go_wp2_with fail
          refine (fault_says (p := 0) (e := 5) ?_ hft).mono ?_
          · rw [HB4.out.cell (show 0 < w.heap.size from hE0)]
            exact HE.out
          rintro e w5 ⟨rfl, hb5⟩
          have HB5 := Lib.hid ((HB4.out).trans (hb5.mono HB4.out.size))
          go_wp2_with fail
          go_ret
          exact ⟨rfl, by have h := HB5.out; have hsz := h.size; (repeat' (first | (with_reducible exact Below.refl _ _) | (with_reducible assumption) | (with_reducible refine below_drewN ?_ _) | (with_reducible refine Below.drew ?_) | (with_reducible refine Below.alloc ?_ ?_ _) | (with_reducible refine Below.setCell ?_ ?_ _) | omega | (simp; done) | (simp; omega)))⟩
end Go.Proofs.YtnhdedoobagbbaaGreatDoor
