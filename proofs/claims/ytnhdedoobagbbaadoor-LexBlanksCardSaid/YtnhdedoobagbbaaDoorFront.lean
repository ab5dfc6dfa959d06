/- LexFront: the walk. -/
import Derived.Test.YtnhdedoobagbbaaDoorShownA
import Derived.BigQuiet
import Derived.Laws.IdiomStrings
namespace Go.Proofs.YtnhdedoobagbbaaDoor
open Go.RowKit

theorem front_lexP {pf : ByteArray → Nat} {s : ByteArray} {ts : List Tok} (h : lexP pf s = .ok ts) {k : Nat} {t : Tok} (hk : ts[k]? = some t) : t.place ≤ s.size ∧ lexP pf (s.extract 0 t.place) = .ok (ts.take k ++ [⟨0, ⟨#[]⟩, 0, 0, t.place⟩]) := by
  obtain ⟨h1, h2⟩ := lexP_iff.1 h
  obtain ⟨_, h4, h5⟩ := front_lx h2 (by omega) k t hk
  exact ⟨h4, lexP_iff.2 ⟨by simp; omega, h5⟩⟩
theorem lx_len {pf : ByteArray → Nat} {s : ByteArray} {p : Nat} {ts : List Tok} (h : Lx pf s p ts) : p ≤ s.size → ts.length + p ≤ s.size + 1 := by
  induction h with
  | fin h =>
    intro hp
    simp
    omega
  | tok h1 h2 h3 ih =>
    intro hp
    have := h1.le hp
    have h4 := tokP_le h2
    have := ih h4.2.1
    simp only [List.length_cons]
    omega
set_option maxHeartbeats 2000000 in
set_option maxRecDepth 100000 in
theorem front_law {NG : Nat} {w : World} (hG : GW NG w) (s : ByteArray) (n : Int) (hn1 : -9223372036854775808 ≤ n) (hn2 : n ≤ 9223372036854775807) :
    Calls Tryd.prog 5 #[.string s, .int .i64 n] w fun e w' => e = .returned (.bool true) ∧ Below w.heap.size w w' := by
  obtain ⟨res, hres⟩ : ∃ res, lexP pfA s = res := ⟨_, rfl⟩
  have HALL := Lib.hid (fun (w' : World) (hb : Below w.heap.size w w') => All_pf (s := s) (hG.keeps hG.2 hb))
  rw [hres] at HALL
  cases res with
  | error x =>
    obtain ⟨p, er⟩ := x
    clear hres
    go_enter Tryd.func5, Tryd.ntmps5
    go_wp2_with fail
    refine (shownA_any hG).mono ?_
    rintro e w1 ⟨rfl, hb1⟩
    go_wp2_with fail
    refine (HALL.out _ hb1).mono ?_
    rintro e w2 ⟨⟨v, rfl, _⟩, hb2⟩
    go_wp2_with fail
    go_ret
    exact ⟨rfl, hb1.trans (hb2.mono hb1.size)⟩
  | ok ts =>
    obtain ⟨hsz, hlx⟩ := lexP_iff.1 hres
    have hpos := lx_pos hlx
    have hlen := lx_len hlx (by omega)
    have HFIN := Lib.hid (lx_fin (fun t h1 h2 => pfA_fin h1 h2) hlx)
    have HFR := Lib.hid (fun k t => front_lexP (k := k) (t := t) hres)
    clear hres hlx
    obtain ⟨m, hm⟩ : ∃ m : Int, m = (if n < 0 then -(n + 1) else n) := ⟨_, rfl⟩
    have hm0 : 0 ≤ m := by rw [hm]; split <;> omega
    obtain ⟨k, hk⟩ : ∃ k : Nat, m.tmod (ts.length : Int) = (k : Int) := ⟨(m.tmod (ts.length : Int)).toNat, by have := Int.tmod_nonneg (ts.length : Int) hm0; omega⟩
    have hkl : k < ts.length := by have := Int.tmod_lt_of_pos m (show (0 : Int) < (ts.length : Int) by omega); omega
    obtain ⟨t, ht⟩ := get_lt ts hkl
    obtain ⟨hT, hfr⟩ := HFR.out k t ht
    have hTI : (t.place : Int) ≤ (s.size : Int) := by omega
    have hkI : (k : Int) < (ts.length : Int) := by omega
    have hlenI : ((ts.length : Int) == 0) = false := by rw [beq_eq_false_iff_ne]; omega
    have HM := Lib.hid hm
    have HFR2 := Lib.hid hfr
    have hk1 : (ts.take k ++ [(⟨0, ⟨#[]⟩, 0, 0, t.place⟩ : Tok)]).length = k + 1 := by rw [List.length_append, List.length_take, Nat.min_eq_left (by omega)]; rfl
    have hend : (ts.take k ++ [(⟨0, ⟨#[]⟩, 0, 0, t.place⟩ : Tok)])[k]? = some ⟨0, ⟨#[]⟩, 0, 0, t.place⟩ := by
      rw [List.getElem?_append_right (by rw [List.length_take]; omega), List.length_take, Nat.min_eq_left (by omega), Nat.sub_self]
      rfl
    have HTK : Hid (∀ j, j < k → ∃ u, ts[j]? = some u ∧ (ts.take k ++ [(⟨0, ⟨#[]⟩, 0, 0, t.place⟩ : Tok)])[j]? = some u ∧ Fin' u.bits) := Lib.hid fun j hj => by
      obtain ⟨u, hu⟩ := get_lt ts (k := j) (by omega)
      refine ⟨u, hu, ?_, HFIN.out u (List.mem_of_getElem? hu)⟩
      rw [List.getElem?_append_left (by rw [List.length_take]; omega), List.getElem?_take, if_pos hj]
      exact hu
    have HEND := Lib.hid hend
    have HK1 := Lib.hid hk1
    clear hfr hm HFR HFIN hend hk1
    generalize ts.take k ++ [(⟨0, ⟨#[]⟩, 0, 0, t.place⟩ : Tok)] = ms at *
    go_enter Tryd.func5, Tryd.ntmps5
    go_wp2_with fail
    refine (shownA_any hG).mono ?_
    rintro e w1 ⟨rfl, hb1⟩
    go_wp2_with fail
    refine (HALL.out _ hb1).mono ?_
    rintro e w2 ⟨⟨out, rfl, hown⟩, hb2⟩
    obtain ⟨oa, oc, rfl⟩ := own_shape hown
    obtain ⟨g, rfl, hg, _, d0, d1, d2, d3, d4⟩ := own_tok hown rfl ht
    have hB2 : Below w.heap.size w w2 := hb1.trans (hb2.mono hb1.size)
    go_upto_if 38 with fail
    go_cut [1] from 39 to 42 (fun v wx => v = .int .i64 m ∧ wx = w2)
    case first =>
      by_cases hneg : n < 0
      · have hmm := HM.out
        rw [if_pos hneg] at hmm
        have HMM := Lib.hid hmm
        clear hmm
        go_wp2_with fail
        go_meet
        exact ⟨by rw [HMM.out], rfl⟩
      · have hmm := HM.out
        rw [if_neg hneg] at hmm
        have HMM := Lib.hid hmm
        clear hmm
        go_wp2_with fail
        go_meet
        exact ⟨by rw [HMM.out], rfl⟩
    case rest =>
      obtain ⟨rfl, rfl⟩ := hcut
      have HALL2 := Lib.hid (All_pf (s := s.extract 0 t.place) (hG.keeps hG.2 hB2))
      rw [HFR2.out] at HALL2
      clear HALL hb1 hb2 HFR2 HM
      go_wp2_with fail
      refine HALL2.out.mono ?_
      rintro e w3 ⟨⟨out3, rfl, hown3⟩, hb3⟩
      have hB3 : Below w.heap.size w w3 := hB2.trans (hb3.mono hB2.size)
      have hown2 := own_below hown hb3
      obtain ⟨oa3, oc3, rfl⟩ := own_shape hown3
      obtain ⟨g3, rfl, hg3, _, e0, e1, e2, e3, e4⟩ := own_tok hown3 rfl HEND.out
      obtain ⟨_, he, _, _, d0, d1, d2, d3, d4⟩ := own_tok hown2 rfl ht
      cases he
      have hlen3 : ((ms.length : Int) != (k : Int) + 1) = false := by rw [HK1.out]; simp
      have hkm : (k : Int) < (ms.length : Int) := by rw [HK1.out]; omega
      have hwr : IntKind.i64.wrap ((k : Int) + 1) = (k : Int) + 1 := IntWalk.i64_in _ (by omega)
      have hin := fun W => tok_in (k := 0) (n := 0) (p := (t.place : Int)) (nm := ⟨#[]⟩) (b := 0) (Nat.zero_le _) W
      have hin2 := fun W => tok_neq (k := 0) (n := 0) (p := (t.place : Int)) (nm := ⟨#[]⟩) (b := 0) (Nat.zero_le _) W
      go_wp2_with fail
      go_quiet (fail)
      go_wp2_with fail
      go_loopw [10] (fun i wr => ∃ j : Nat, j ≤ k ∧ i = .int .i64 j ∧ ∃ z, wr = w3.drewN z) (fun i _ => k - (intOf i).toNat)
      case atStart => exact ⟨0, by omega, rfl, _, rfl⟩
      case round =>
        clear hin hin2 d0 d1 d2 d3 d4 e0 e1 e2 e3 e4
        obtain ⟨j, hj, rfl, z, rfl⟩ := hrel
        by_cases hlt : j < k
        · obtain ⟨u, hu1, hu2, hu3⟩ := HTK.out j hlt
          obtain ⟨_, he, _, _, d0, d1, d2, d3, d4⟩ := own_tok hown2 rfl hu1
          cases he
          obtain ⟨_, he, _, _, e0, e1, e2, e3, e4⟩ := own_tok hown3 rfl hu2
          cases he
          have hin := fun W => tok_in (k := u.kind) (n := u.num) (p := (u.place : Int)) (nm := u.text) hu3 W
          have hin2 := fun W => tok_neq (k := u.kind) (n := u.num) (p := (u.place : Int)) (nm := u.text) hu3 W
          have hltI : (j : Int) < (k : Int) := by omega
          have hj1 : (j : Int) < (ts.length : Int) := by omega
          have hj2 : (j : Int) < (ms.length : Int) := by omega
          clear hu1 hu2
          go_wp2_with fail
          go_quiet (fail)
          go_wp2_with fail
          go_roundw
          case rel => exact ⟨j + 1, by omega, by go_num, _, rfl⟩
          case measure => simp [intOf]; omega
        · have hge : ¬ ((j : Int) < (k : Int)) := by omega
          go_wp2_with fail
          go_ret
          exact ⟨rfl, below_drewN hB3 _⟩
end Go.Proofs.YtnhdedoobagbbaaDoor
