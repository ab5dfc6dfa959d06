/- LexPlaces: the walk. -/
import Derived.Test.YtnhdedoobagbbaaGreatDoorPlacesP
import Derived.Test.YtnhdedoobagbbaaGreatDoorFaultSays
import Derived.BigQuiet
import Derived.Laws.IdiomStrings
namespace Go.Proofs.YtnhdedoobagbbaaGreatDoor
open Go.RowKit

theorem lx_len' {pf : ByteArray → Nat} {s : ByteArray} {p : Nat} {ts : List Tok} (h : Lx pf s p ts) : p ≤ s.size → ts.length + p ≤ s.size + 1 := by
  induction h with
  | fin h =>
    intro hp
    simp
    omega
  | tok h1 h2 h3 ih =>
    intro hp
    have := h1.le hp
    have h4 := tokP_le h2
    have := ih h4.2.1
    simp only [List.length_cons]
    omega
theorem tok_eql {k n p : Int} {nm : ByteArray} {b : Nat} (h : Fin' b) (w : World) :
    (binOp BinOp.eql 34 (.agg #[.int .i64 k, .string nm, .int .i64 n, .float .f64 b, .int .i64 p]) (.agg #[.int .i64 k, .string nm, .int .i64 n, .float .f64 b, .int .i64 p])).run Tryz.prog w = .ok (.bool true) w := by
  rw [run_eql_struct, tok_in h]
  rfl
def HndG (w : World) : Prop := w.cell? ⟨0, 0, none⟩ = some (.iface 81 (.agg #[.pointer (some ⟨16, 25, none⟩)]))
theorem HndG.keeps {B : Nat} {w w' : World} (hB : 0 < B) (hb : Below B w w') (h : HndG w) : HndG w' := by
  unfold HndG
  rw [hb.cell (show (0 : Nat) < B from hB)]
  exact h
set_option maxHeartbeats 1000000 in
set_option maxRecDepth 100000 in
theorem places_law {NG : Nat} {w : World} (hG : GW NG w) (hH : HndG w) (s : ByteArray) (hs : s.size ≤ 9223372036854775807) :
    Calls Tryz.prog 3 #[.string s] w fun e w' => e = .returned (.bool true) ∧ Below w.heap.size w w' := by
  obtain ⟨res, hres⟩ : ∃ res, lexP pfA s = res := ⟨_, rfl⟩
  have hE : 0 < w.heap.size := World.block_lt_of_cell? w _ hH
  have HALL := Lib.hid (fun (w' : World) (hb : Below w.heap.size w w') => All_pf (s := s) (hG.keeps hG.2 hb))
  rw [hres] at HALL
  cases res with
  | error x =>
    obtain ⟨p, er⟩ := x
    obtain ⟨hp, her⟩ := lexP_err hres
    have hpI : (p : Int) ≤ (s.size : Int) := by omega
    have herI : (er != 0) = true := by simpa using her
    clear hres her
    go_enter Tryz.func3, Tryz.ntmps3
    go_wp2_with fail
    refine (shownA_any hG).mono ?_
    rintro e w1 ⟨rfl, hb1⟩
    go_wp2_with fail
    refine (HALL.out _ hb1).mono ?_
    rintro e w2 ⟨⟨v, rfl, f, rfl, hft⟩, hb2⟩
    have hB2 : Below w.heap.size w w2 := hb1.trans (hb2.mono hb1.size)
    have HFS := Lib.hid (fault_says (hH.keeps hE hB2) hft)
    clear HALL hft
    go_wp2_with fail
    refine HFS.out.mono ?_
    rintro e w3 ⟨rfl, hb3⟩
    have hB3 : Below w.heap.size w w3 := hB2.trans (hb3.mono hB2.size)
    have hge : (0 : Int) ≤ (p : Int) := by omega
    clear HFS
    go_wp2_with fail
    go_ret
    exact ⟨rfl, hB3.alloc hB3.size _⟩
  | ok ts =>
    obtain ⟨hsz, hlx⟩ := lexP_iff.1 hres
    have hpos := lx_pos hlx
    have hlen := lx_len' hlx (by omega)
    have HAT := Lib.hid (lx_at hlx)
    have HNX := Lib.hid (lx_next hlx (by omega)).2
    have hlast := lx_last hlx
    have hgtI : (0 : Int) < (ts.length : Int) := by omega
    clear hres hlx
    go_enter Tryz.func3, Tryz.ntmps3
    go_wp2_with fail
    refine (shownA_any hG).mono ?_
    rintro e w1 ⟨rfl, hb1⟩
    go_wp2_with fail
    refine (HALL.out _ hb1).mono ?_
    rintro e w2 ⟨⟨out, rfl, hown⟩, hb2⟩
    obtain ⟨oa, oc, rfl⟩ := own_shape hown
    have hB2 : Below w.heap.size w w2 := hb1.trans (hb2.mono hb1.size)
    clear HALL hb1 hb2
    go_wp2_with fail
    go_loopw [7] (fun i wr => ∃ k : Nat, k ≤ ts.length ∧ i = .int .i64 k ∧ ∃ z, wr = w2.drewN z) (fun i _ => ts.length - (intOf i).toNat)
    case atStart => exact ⟨0, by omega, rfl, 0, rfl⟩
    case round =>
      obtain ⟨k, hk, rfl, z, rfl⟩ := hrel
      by_cases hlt : k < ts.length
      · obtain ⟨t, ht⟩ := get_lt ts hlt
        have hat := HAT.out k t ht
        obtain ⟨g, rfl, _, _, d0, d1, d2, d3, d4⟩ := own_tok hown rfl ht
        have hI1 : (k : Int) < (ts.length : Int) := by omega
        have hple := hat.le
        have hpI : (t.place : Int) ≤ (s.size : Int) := by omega
        have hn0 : decide ((t.place : Int) < 0) = false := decide_eq_false (by omega)
        have hn1 : decide (s.size < t.place) = false := decide_eq_false (by omega)
        have hn1' : decide ((s.size : Int) < (t.place : Int)) = false := decide_eq_false (by omega)
        have HA := Lib.hid hat
        clear hat
        go_upto_region 10 with fail
        go_cut [86] from 53 to 86 (fun v wx => v = .bool false ∧ ∃ z', wx = w2.drewN z')
        case first =>
          rcases Nat.eq_zero_or_pos k with h0 | h0
          · subst h0
            simp only [Nat.zero_mul, Nat.zero_add] at d0 d1 d4
            go_quiet (fail)
            go_wp2_with fail
            go_meet
            exact ⟨rfl, _, rfl⟩
          · obtain ⟨k', rfl⟩ : ∃ k', k = k' + 1 := ⟨k - 1, by omega⟩
            obtain ⟨t', ht'⟩ := get_lt ts (k := k') (by omega)
            have hnx := HNX.out k' t' t ht' ht
            obtain ⟨_, he, _, _, _, _, _, _, e4⟩ := own_tok hown rfl ht'
            cases he
            have hn2 : decide (t.place ≤ t'.place) = false := decide_eq_false (by omega)
            have hn2' : decide ((t.place : Int) ≤ (t'.place : Int)) = false := decide_eq_false (by omega)
            have hk0 : decide ((0 : Int) < (k' : Int) + 1) = true := decide_eq_true (by omega)
            have hk1 : decide ((0 : Int) < ((k' + 1 : Nat) : Int)) = true := by simp only [decide_eq_true_eq]; omega
            have hk2 : (k' : Int) < (ts.length : Int) := by omega
            go_quiet (fail)
            go_wp2_with fail
            go_meet
            exact ⟨rfl, _, rfl⟩
        case rest =>
          obtain ⟨rfl, z', rfl⟩ := hcut
          have hat := HA.out
          by_cases h4 : t.kind = 4
          · have hk4 : (t.kind == 4) = true := by simpa using h4
            obtain ⟨hps, hch⟩ := hat.str h4
            have hpsI : (t.place : Int) < (s.size : Int) := by omega
            have hge : (0 : Int) ≤ (t.place : Int) := by omega
            have hne : ((s[t.place].toNat : Int) != 34) = false := by rw [hch]; rfl
            clear hat h4 hch
            go_wp2_with fail
            go_roundw
            case rel => exact ⟨k + 1, by omega, by go_num, _, rfl⟩
            case measure => simp [intOf]; omega
          · have hk4 : (t.kind == 4) = false := by simpa using h4
            obtain ⟨hts, htx⟩ := hat.txt h4
            have hw1 : IntKind.i64.wrap ((t.place : Int) + (t.text.size : Int)) = ((t.place + t.text.size : Nat) : Int) := by rw [IntWalk.i64_in _ (by omega)]; omega
            have hd5 : decide (s.size < t.place + t.text.size) = false := decide_eq_false (by omega)
            have hd6 : decide ((s.size : Int) < (t.place : Int) + (t.text.size : Int)) = false := decide_eq_false (by omega)
            have hI5 : (t.place : Int) + (t.text.size : Int) ≤ (s.size : Int) := by omega
            clear hat h4
            go_wp2_with fail
            go_quiet (fail)
            go_wp2_with fail
            go_roundw
            case rel => exact ⟨k + 1, by omega, by go_num, _, rfl⟩
            case measure => simp [intOf]; omega
      · obtain rfl : k = ts.length := by omega
        obtain ⟨m, hm⟩ : ∃ m, ts.length = m + 1 := ⟨ts.length - 1, by omega⟩
        rw [hm, Nat.add_sub_cancel] at hlast
        obtain ⟨g, rfl, _, _, d0, d1, d2, d3, d4⟩ := own_tok hown rfl hlast
        have hge : ¬ ((ts.length : Int) < (ts.length : Int)) := by omega
        have hsub : (ts.length : Int) - 1 = (m : Int) := by omega
        have hmI : (m : Int) < (ts.length : Int) := by omega
        have hin := fun W => tok_in (k := 0) (n := 0) (p := (s.size : Int)) (nm := ⟨#[]⟩) (b := 0) (Nat.zero_le _) W
        have hin2 := fun W => tok_eql (k := 0) (n := 0) (p := (s.size : Int)) (nm := ⟨#[]⟩) (b := 0) (Nat.zero_le _) W
        clear hm hlast hlt
        generalize hL : ts.length = L at *
        clear hL
        go_wp2_with fail
        go_ret
        exact ⟨rfl, below_drewN hB2 _⟩
end Go.Proofs.YtnhdedoobagbbaaGreatDoor
