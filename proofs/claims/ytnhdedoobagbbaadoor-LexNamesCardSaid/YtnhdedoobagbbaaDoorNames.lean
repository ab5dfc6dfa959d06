/- LexNames: the walk. -/
import Derived.Test.YtnhdedoobagbbaaDoorNamesP
import Derived.Test.YtnhdedoobagbbaaDoorTokEq
import Derived.BigQuiet
import Derived.Laws.IdiomStrings
namespace Go.Proofs.YtnhdedoobagbbaaDoor
open Go.RowKit Go.Shelf

def moreZ (n : Int) : Bool := (decide (97 ≤ n) && decide (n ≤ 122)) || (decide (65 ≤ n) && decide (n ≤ 90)) || (decide (48 ≤ n) && decide (n ≤ 57)) || n == 95 || n == 39 || n == 45
theorem more_spec (c : UInt8) : moreB c = moreZ c.toNat := by
  have := all256 (p := fun c => moreB c == moreZ c.toNat) (by decide +kernel) c
  simpa using this
theorem own_one {w : World} {c : UInt8} {base : Nat} (hb : base ≤ w.heap.size) : (w.alloc (.cells #[.int .u8 c.toNat] 5 (0, 0))).ownsRow base 5 1 (.slice (some ⟨w.heap.size, 0, none⟩) 1 1) 1 (Lib.byteCells [c]) :=
  ⟨rfl, Or.inr ⟨w.heap.size, 1, #[.int .u8 c.toNat], rfl, hb, block_new _ _ rfl, by simp, by simp [maxLen], by simp, by simp [Lib.byteCells]⟩⟩
theorem own_conv {w : World} {base g vc : Nat} {c : UInt8} {l : List UInt8} (h : w.ownsRow base 5 1 (.slice (some ⟨g, 0, none⟩) (l.length + 1) vc) (l.length + 1) (Lib.byteCells (c :: l))) :
    (convert 34 9 (.slice (some ⟨g, 0, none⟩) (l.length + 1) vc)).run Tryd.prog w = .ok (.string ⟨(c :: l).toArray⟩) w :=
  run_convert_bytes_back w 34 9 5 ⟨g, 0, none⟩ vc (c :: l) Tryd.underlying34 Tryd.underlying5 Tryd.underlying9 fun j hj => by
    obtain ⟨g', he, _, _, hx⟩ := own_cell h rfl (j := j) (x := .int .u8 ((c :: l)[j].toNat : Int)) (by unfold Lib.byteCells; rw [List.getElem?_map, List.getElem?_eq_getElem hj]; rfl)
    cases he
    rw [show (⟨g, 0, none⟩ : Addr).add j = ⟨g, j, none⟩ by unfold Addr.add; split <;> simp_all]
    exact hx
set_option maxHeartbeats 2000000 in
set_option maxRecDepth 100000 in
theorem names_law {NG : Nat} {w : World} (hG : GL NG w) (hNG : NG ≤ w.heap.size) (s : ByteArray) (hs : s.size ≤ 9223372036854775807) :
    Calls Tryd.prog 4 #[.string s] w fun e w' => e = .returned (.bool true) ∧ Below w.heap.size w w' := by
  obtain ⟨i0, hi, hz0, hz1, hz2⟩ := info_parts infoB1
  go_enter Tryd.func4, Tryd.ntmps4
  go_wp2_with fail
  refine (shown_any hG hNG).mono ?_
  rintro e w1 ⟨rfl, hb1⟩
  go_wp2_with fail
  go_loopw [4, 5] (fun v i wr => ∃ (k : Nat) (l : List UInt8), k ≤ s.size ∧ i = .int .i64 k ∧ wr.ownsRow w.heap.size 5 1 v (l.length + 1) (Lib.byteCells (113 :: l)) ∧ Below w.heap.size w wr ∧ Hid (∀ c, c ∈ l → moreB c = true) ∧ l.length + 1 ≤ 1024) (fun _ i _ => s.size - (intOf i).toNat)
  case atStart => exact ⟨0, [], Nat.zero_le _, rfl, own_one hb1.size, hb1.alloc hb1.size _, Lib.hid (by simp), by simp⟩
  case round =>
    obtain ⟨k, l, hk, rfl, hown, hb, hall, hll⟩ := hrel
    obtain ⟨va, vc, rfl⟩ := own_shape hown
    by_cases hgo : k < s.size ∧ l.length + 1 < 1024
    · obtain ⟨hlt, hfull⟩ := hgo
      obtain ⟨c, hc⟩ : ∃ c, s[k] = c := ⟨_, rfl⟩
      go_upto_region 7 with fail
      go_cut [58] from 11 to 58 (fun v wx => v = .bool (moreB c) ∧ wx = wr)
      case first =>
        have hsp := more_spec c
        unfold moreZ at hsp
        obtain ⟨b95, h95⟩ : ∃ b, ((c.toNat : Int) == 95) = b := ⟨_, rfl⟩
        obtain ⟨b39, h39⟩ : ∃ b, ((c.toNat : Int) == 39) = b := ⟨_, rfl⟩
        obtain ⟨b45, h45⟩ : ∃ b, ((c.toNat : Int) == 45) = b := ⟨_, rfl⟩
        rw [h95, h39, h45] at hsp
        have HS := Lib.hid hsp
        clear hsp
        generalize moreB c = r at *
        go_wp2_with fail
        all_goals
          go_meet
          refine ⟨congrArg Value.bool ?_, rfl⟩
          rw [HS.out]
          clear HS h95 h39 h45
          clear hall hown hb hb1 hG hc
          first | (simp [*]; done) | (simp [*]; intro h; exfalso; omega) | (cases b45 <;> simp [*] <;> omega) | grind
      case rest =>
        obtain ⟨rfl, rfl⟩ := hcut
        cases hm : moreB c
        · have HM := Lib.hid hm
          clear hm
          go_wp2_with fail
          go_roundw
          case rel => exact ⟨k + 1, l, by omega, by go_num, hown, hb, hall, hll⟩
          case measure => simp [intOf]; omega
        · have hall2 : ∀ d, d ∈ l ++ [c] → moreB d = true := by
            intro d hd
            rcases List.mem_append.1 hd with h | h
            · exact hall.out d h
            · rw [List.mem_singleton.1 h]; exact hm
          have HALL2 := Lib.hid hall2
          clear hm hall2
          go_wp2_with (at_builtin; refine wpList_append_own _ rfl _ _ 34 rfl w.heap.size 5 i0 (.int .u8 0) 1 1 Tryd.underlying34 hi hz0 hz1 hz2 rfl (by decide) _ _ _ rfl (hown.alloc _) ⟨_, 0, none⟩ 1 1 [.int .u8 c.toNat] rfl rfl ?c1 ?c2 ?c3 ?c4 ?c5 ?_)
          case c1 =>
            intro j u hj
            match j, hj with
            | 0, hj => simp at hj; subst hj; simp [Addr.add]
          case c2 => intro u hu; simp at hu; subst hu; rfl
          case c3 => unfold maxLen; omega
          case c4 => omega
          case c5 => have := hb.size; simp; omega
          intro v' w2 hown' hgrow _
          go_wp2_with fail
          go_roundw
          case rel => exact ⟨k + 1, l ++ [c], by omega, by go_num, by rw [bytes_snoc] at hown'; rw [List.length_append]; exact hown', (hb.alloc hb.size _).grown hgrow (by have := hb.size; simp; omega) (fun j hj => (hown.lt j hj).1), HALL2, by simp; omega⟩
          case measure => simp [intOf]; omega
    · obtain ⟨g, rfl, hg, _, _⟩ := own_cell hown rfl (j := 0) (x := .int .u8 113) rfl
      obtain ⟨nm, hnm⟩ : ∃ nm : ByteArray, nm = ⟨(113 :: l).toArray⟩ := ⟨_, rfl⟩
      have hsz : nm.size = l.length + 1 := by subst hnm; rfl
      have hcv := own_conv hown
      have HALL := Lib.hid (All_any (GL.env NG) (s := nm) (w := wr) (hG.keeps hNG hb) (Nat.le_trans hNG hb.size) (names_floats hnm hall.out))
      rw [names_lex hnm hall.out hll] at HALL
      have HOWN := Lib.hid hown
      rw [← hnm] at hcv
      have HNM := Lib.hid hnm
      clear hnm hown
      have hcc : decide ((k : Int) < s.size) = false ∨ (decide ((k : Int) < s.size) = true ∧ decide ((l.length : Int) + 1 < 1024) = false) := by
        rcases Nat.lt_or_ge k s.size with h | h
        · exact Or.inr ⟨by simpa using h, by simp; omega⟩
        · exact Or.inl (by simpa using h)
      rcases hcc with hc1 | ⟨hc1, hc2⟩
      all_goals go_wp2_with fail
      all_goals
        refine HALL.out.mono ?_
        rintro e w3 ⟨⟨out, rfl, hown3⟩, hb3⟩
        have hte := fun n => tok_eq nm (w3.drewN n)
        have hte2 := fun n => tok_eq2 nm (w3.drewN n)
        have hf0 := fun d n => eq_float0 d (w3.drewN n)
        have hu0 := Tryd.underlying31
        have hu1 := Tryd.underlying2
        have hu2 := Tryd.underlying9
        have hcv3 : ∀ n, (convert 34 9 (.slice (some ⟨g, 0, none⟩) (l.length + 1) vc)).run Tryd.prog (w3.drewN n) = .ok (.string nm) (w3.drewN n) := fun n => by
          have h := own_conv (w := w3.drewN n) (own_below HOWN.out (below_drewN hb3 n))
          rw [HNM.out]
          exact h
        obtain ⟨oa, oc, rfl⟩ := own_shape hown3
        obtain ⟨g3, rfl, hg3, _, d0⟩ := own_cell hown3 rfl (j := 0) (x := .int .i64 1) rfl
        obtain ⟨_, he, _, _, d1⟩ := own_cell hown3 rfl (j := 1) (x := .string nm) rfl
        cases he
        obtain ⟨_, he, _, _, d2⟩ := own_cell hown3 rfl (j := 2) (x := .int .i64 0) rfl
        cases he
        obtain ⟨_, he, _, _, d3⟩ := own_cell hown3 rfl (j := 3) (x := .float .f64 0) rfl
        cases he
        obtain ⟨_, he, _, _, d4⟩ := own_cell hown3 rfl (j := 4) (x := .int .i64 0) rfl
        cases he
        go_wp2_with fail
        go_quiet (fail)
        go_wp2_with fail
        go_ret
        exact ⟨rfl, below_drewN (hb.trans (hb3.mono hb.size)) _⟩
end Go.Proofs.YtnhdedoobagbbaaDoor
