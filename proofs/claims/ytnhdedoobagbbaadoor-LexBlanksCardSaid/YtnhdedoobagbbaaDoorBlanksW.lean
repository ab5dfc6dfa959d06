/- LexBlanks: the walk. -/
import Derived.Test.YtnhdedoobagbbaaDoorBlanksP
import Derived.Test.YtnhdedoobagbbaaDoorFront
import Derived.BigQuiet
import Derived.Laws.IdiomStrings
namespace Go.Proofs.YtnhdedoobagbbaaDoor
open Go.RowKit

theorem and3 (x : Int) : ∃ k : Nat, k < 4 ∧ bits .and .i64 x 3 = (k : Int) := by
  refine ⟨(BitVec.ofInt 64 x &&& BitVec.ofInt 64 3).toNat, ?_, ?_⟩
  · rw [BitVec.toNat_and]
    have : (BitVec.ofInt 64 3).toNat = 3 := by decide
    rw [this]
    have := Nat.and_le_right (n := (BitVec.ofInt 64 x).toNat) (m := 3)
    omega
  · have h : (BitVec.ofInt 64 x &&& BitVec.ofInt 64 3).toNat < 4 := by
      rw [BitVec.toNat_and]
      have : (BitVec.ofInt 64 3).toNat = 3 := by decide
      rw [this]
      have := Nat.and_le_right (n := (BitVec.ofInt 64 x).toNat) (m := 3)
      omega
    show IntKind.i64.wrap (((BitVec.ofInt 64 x &&& BitVec.ofInt 64 3).toNat : Nat) : Int) = _
    exact IntWalk.i64_in _ (by omega)
def kOf (x : Int) : Nat := (bits .and .i64 x 3).toNat
theorem kOf_is (x : Int) : bits .and .i64 x 3 = (kOf x : Int) ∧ kOf x < 4 := by
  obtain ⟨k, h1, h2⟩ := and3 x
  unfold kOf
  rw [h2]
  exact ⟨rfl, h1⟩
/-- The law's list of numbers, as it lies in memory. -/
def NZ (w : World) (v : Value) (n : Nat) (ns : Nat → Int) : Prop := (v = .slice none 0 0 ∧ n = 0) ∨ ∃ (a : Addr) (c : Nat), v = .slice (some a) n c ∧ n ≤ 9223372036854775807 ∧ ∀ j, j < n → w.cell? (a.add j) = some (.int .i64 (ns j))
def nzAt (n : Nat) (ns : Nat → Int) (i : Nat) : Int := if n = 0 then i else ns (i % n)
def nzS : Nat → ByteArray
  | 0 => ⟨#[32]⟩ | 1 => ⟨#[10]⟩ | 2 => ⟨#[9, 13, 10, 32]⟩ | _ => ⟨#[32, 35, 32, 97, 32, 34, 32, 98, 10]⟩
theorem nzS_is (k : Nat) : (nzS k).data.toList = nzL k := by
  match k with
  | 0 | 1 | 2 | _ + 3 => rfl
def pieceS (s : ByteArray) (t u : Tok) : ByteArray := if t.kind = 4 then s.extract t.place u.place else (s.extract t.place u.place).extract 0 t.text.size
theorem pieceS_is (s : ByteArray) (t u : Tok) : (pieceS s t u).data.toList = pieceL s t u := by
  unfold pieceS pieceL
  split
  · rw [Lib.extract_data]
  · rw [Lib.extract_data, Lib.extract_data, List.drop_zero, Nat.sub_zero]
theorem drop_two {α : Type} {l : List α} {k : Nat} {t u : α} (h1 : l[k]? = some t) (h2 : l[k + 1]? = some u) : l.drop k = t :: u :: l.drop (k + 2) := by
  obtain ⟨a1, a2⟩ := List.getElem?_eq_some_iff.1 h1
  obtain ⟨b1, b2⟩ := List.getElem?_eq_some_iff.1 h2
  rw [List.drop_eq_getElem_cons a1, List.drop_eq_getElem_cons b1, a2, b2]
theorem drop_one' {α : Type} {l : List α} {k : Nat} {t : α} (h1 : l[k]? = some t) : l.drop k = t :: l.drop (k + 1) := by
  obtain ⟨a1, a2⟩ := List.getElem?_eq_some_iff.1 h1
  rw [List.drop_eq_getElem_cons a1, a2]
theorem blk_step {s : ByteArray} {f : Nat → Nat} {ts : List Tok} {k : Nat} {t u : Tok} (h1 : ts[k]? = some t) (h2 : ts[k + 1]? = some u) : blkL s f k (ts.drop k) = nzL (f k) ++ (pieceL s t u ++ blkL s f (k + 1) (ts.drop (k + 1))) := by
  rw [drop_two h1 h2, drop_one' h2]
  rfl
theorem blk_end {s : ByteArray} {f : Nat → Nat} {ts : List Tok} {k : Nat} (h : k + 1 = ts.length) : blkL s f k (ts.drop k) = [32] := by
  obtain ⟨t, ht⟩ := get_lt ts (k := k) (by omega)
  rw [drop_one' ht, List.drop_eq_nil_of_le (by omega)]
  rfl
theorem store_f64 (W : World) (a : Addr) (x : Nat) : (store a (.float .f64 x)).run Tryd.prog W = match W.cell? a with
    | some _ => if W.frozen? a then .halt (.unsupported (.unsafePointer "a write to bytes that a string shares")) W else .ok () (W.setCell a (.float .f64 x))
    | none => match W.farStore Tryd.prog a (.float .f64 x) (Mode.plain == .atomic) with
      | .ok (w', _) => .ok () w'
      | .error h => .halt h W := run_store Tryd.prog W a (.float .f64 x) .plain rfl
theorem below1 {B g i : Nat} {a w : World} (h : Below B a w) (hg : B ≤ g) (b : Value) : Below B a (w.setCell ⟨g, i, none⟩ b) := h.setCell hg _
theorem app_list (a b : ByteArray) : (a ++ b).data.toList = a.data.toList ++ b.data.toList := by
  rw [ByteArray.data_append, Array.toList_append]
theorem blk_rel {s S X P : ByteArray} {f : Nat → Nat} {ts : List Tok} {k c : Nat} {t u : Tok} (hl : S.data.toList ++ blkL s f k (ts.drop k) = blkL s f 0 ts) (hX : X.data.toList = nzL c) (hs : blkL s f k (ts.drop k) = nzL c ++ (pieceL s t u ++ blkL s f (k + 1) (ts.drop (k + 1))))
    (hP : P.data.toList = pieceL s t u) : (S ++ X ++ P).data.toList ++ blkL s f (k + 1) (ts.drop (k + 1)) = blkL s f 0 ts := by
  rw [← hl, hs, app_list, app_list, hX, hP]
  simp
set_option maxHeartbeats 4000000 in
set_option maxRecDepth 100000 in
theorem blanks_law {NG : Nat} {w : World} (hG : GW NG w) (s : ByteArray) {nv : Value} {n : Nat} {ns : Nat → Int} (hN : NZ w nv n ns) :
    Calls Tryd.prog 3 #[.string s, nv] w fun e w' => e = .returned (.bool true) ∧ Below w.heap.size w w' := by
  obtain ⟨res, hres⟩ : ∃ res, lexP pfA s = res := ⟨_, rfl⟩
  have HALL := Lib.hid (fun (w' : World) (hb : Below w.heap.size w w') => All_pf (s := s) (hG.keeps hG.2 hb))
  rw [hres] at HALL
  cases res with
  | error x =>
    obtain ⟨p, er⟩ := x
    clear hres hN
    go_enter Tryd.func3, Tryd.ntmps3
    go_wp2_with fail
    refine (shownA_any hG).mono ?_
    rintro e w1 ⟨rfl, hb1⟩
    go_wp2_with fail
    refine (HALL.out _ hb1).mono ?_
    rintro e w2 ⟨⟨v, rfl, _⟩, hb2⟩
    go_wp2_with fail
    go_ret
    exact ⟨rfl, hb1.trans (hb2.mono hb1.size)⟩
  | ok ts =>
    obtain ⟨hsz, hlx⟩ := lexP_iff.1 hres
    have hpos := lx_pos hlx
    have hlen := lx_len hlx (by omega)
    have HFIN := Lib.hid (lx_fin (fun t h1 h2 => pfA_fin h1 h2) hlx)
    have HPL := Lib.hid (lx_places hlx (by omega))
    have HBL := Lib.hid (fun (s' : ByteArray) => blanks_lexP (f := fun i => kOf (nzAt n ns i)) (s' := s') hres)
    have hlenI : ((ts.length : Int) == 0) = false := by rw [beq_eq_false_iff_ne]; omega
    have HN := Lib.hid hN
    obtain ⟨nva, nvc, rfl⟩ : ∃ a c, nv = .slice a n c := by
      rcases hN with ⟨h1, h2⟩ | ⟨a, c, h, _⟩
      · exact ⟨none, 0, by rw [h1, h2]⟩
      · exact ⟨_, c, h⟩
    have hnl : n ≤ 9223372036854775807 := by
      rcases HN.out with ⟨h1, h2⟩ | ⟨a, c, h, h2, _⟩ <;> omega
    clear hres hlx hN
    generalize hf : (fun i => kOf (nzAt n ns i)) = f at *
    have HF : Hid (∀ i, f i = kOf (nzAt n ns i)) := Lib.hid fun i => by rw [← hf]
    clear hf
    go_enter Tryd.func3, Tryd.ntmps3
    go_wp2_with fail
    refine (shownA_any hG).mono ?_
    rintro e w1 ⟨rfl, hb1⟩
    go_wp2_with fail
    refine (HALL.out _ hb1).mono ?_
    rintro e w2 ⟨⟨out, rfl, hown⟩, hb2⟩
    obtain ⟨oa, oc, rfl⟩ := own_shape hown
    have hB2 : Below w.heap.size w w2 := hb1.trans (hb2.mono hb1.size)
    clear HALL hb1 hb2
    go_wp2_with fail
    go_loopw [8, 9] (fun o i wr => ∃ (k : Nat) (S : ByteArray), k + 1 ≤ ts.length ∧ i = .int .i64 k ∧ o = .string S ∧ Hid (S.data.toList ++ blkL s f k (ts.drop k) = blkL s f 0 ts) ∧ S.size ≤ 5000 * k ∧ Below w2.heap.size w2 wr) (fun _ i _ => ts.length - (intOf i).toNat)
    case atStart => exact ⟨0, ⟨#[]⟩, by omega, rfl, rfl, Lib.hid rfl, Nat.zero_le _, Below.refl _ _⟩
    case round =>
      obtain ⟨k, S, hk, rfl, rfl, hl, hll, hb⟩ := hrel
      have hownr := own_below hown hb
      by_cases hlt : k + 1 < ts.length
      · obtain ⟨t, ht⟩ := get_lt ts (k := k) (by omega)
        obtain ⟨u, hu⟩ := get_lt ts hlt
        obtain ⟨p1, p2, p3⟩ := HPL.out k t u ht hu
        obtain ⟨g, rfl, _, _, d0, d1, _, _, d4⟩ := own_tok hownr rfl ht
        obtain ⟨_, he, _, _, _, _, _, _, e4⟩ := own_tok hownr rfl hu
        cases he
        have e4' : wr.cell? ⟨g, k * 5 + 9, none⟩ = some (.int .i64 u.place) := by rw [show k * 5 + 9 = (k + 1) * 5 + 4 by omega]; exact e4
        have hI1 : (k : Int) + 1 < (ts.length : Int) := by omega
        have hI2 : (k : Int) < (ts.length : Int) := by omega
        have hI3 : (t.place : Int) ≤ (u.place : Int) := by omega
        have hI4 : (u.place : Int) ≤ (s.size : Int) := by omega
        have hex : (s.extract t.place u.place).size = u.place - t.place := by simp; omega
        have hd2 : decide (u.place < t.place) = false := by simp; omega
        have hd3 : decide (s.size < u.place) = false := by simp; omega
        go_upto_if 78 with fail
        go_cut [12, 78] from 79 to 95 (fun v v78 wx => v = .string (pieceS s t u) ∧ (∃ B : Bool, v78 = .bool B) ∧ wx = wr)
        case first =>
          by_cases h4 : t.kind = 4
          · have hk4 : (t.kind != 4) = false := by rw [h4]; rfl
            have HE : Hid (pieceS s t u = s.extract t.place u.place) := Lib.hid (by unfold pieceS; rw [if_pos h4])
            clear h4
            go_wp2_with fail
            go_meet
            exact ⟨by rw [HE.out], ⟨_, rfl⟩, rfl⟩
          · have hk4 : (t.kind != 4) = true := by simpa using h4
            have HE : Hid (pieceS s t u = (s.extract t.place u.place).extract 0 t.text.size) := Lib.hid (by unfold pieceS; rw [if_neg h4])
            have hI5 : (t.text.size : Int) ≤ ((u.place - t.place : Nat) : Int) := by have := p3 h4; omega
            clear h4
            go_wp2_with fail
            go_meet
            exact ⟨by rw [HE.out], ⟨_, rfl⟩, rfl⟩
        case rest =>
          obtain ⟨rfl, ⟨B78, rfl⟩, hw⟩ := hcut
          have hw2 := hw.symm
          clear hw
          subst hw2
          clear d0 d1 d4 e4 e4' hex
          go_upto_if 99 with fail
          go_cut [13, 99] from 100 to 106 (fun v v99 wx => v = .int .i64 (nzAt n ns k) ∧ (∃ B : Bool, v99 = .bool B) ∧ wx = wr)
          case first =>
            by_cases hn : n = 0
            · have hn0 : ¬ ((0 : Int) < (n : Int)) := by omega
              have hn1 : ¬ (0 < n) := by omega
              have hn2 : decide ((0 : Int) < (n : Int)) = false := by simpa using hn1
              have HE : Hid (nzAt n ns k = k) := Lib.hid (by unfold nzAt; rw [if_pos hn])
              clear hn
              go_wp2_with fail
              go_meet
              exact ⟨by rw [HE.out], ⟨_, rfl⟩, rfl⟩
            · have hn0 : (0 : Int) < (n : Int) := by omega
              have hn1 : 0 < n := by omega
              have hn2 : decide ((0 : Int) < (n : Int)) = true := by simpa using hn1
              have hnz : ((n : Int) == 0) = false := by rw [beq_eq_false_iff_ne]; omega
              have HE : Hid (nzAt n ns k = ns (k % n)) := Lib.hid (by unfold nzAt; rw [if_neg hn])
              have hrem : ((k : Int)).tmod (n : Int) = ((k % n : Nat) : Int) := by rw [Int.tmod_eq_emod_of_nonneg (by omega)]; rfl
              have hjn : k % n < n := Nat.mod_lt _ (by omega)
              obtain ⟨a, c, hv, _, hcell⟩ : ∃ (a : Addr) (c : Nat), Value.slice nva n nvc = .slice (some a) n c ∧ n ≤ 9223372036854775807 ∧ ∀ j, j < n → w.cell? (a.add j) = some (.int .i64 (ns j)) := by
                rcases HN.out with ⟨_, h2⟩ | h
                · exact absurd h2 hn
                · exact h
              cases hv
              have hc2 := cell_keeps (hB2.trans (hb.mono hB2.size)) (hcell _ hjn)
              have hjI : ((k % n : Nat) : Int) < (n : Int) := by omega
              clear hcell hn
              generalize k % n = j at *
              go_wp2_with fail
              go_meet
              exact ⟨by rw [HE.out], ⟨_, rfl⟩, rfl⟩
          case rest =>
            obtain ⟨rfl, ⟨B99, rfl⟩, hw⟩ := hcut
            have hw2 := hw.symm
            clear hw
            subst hw2
            have HS := Lib.hid (blk_step (s := s) (f := f) ht hu)
            have hps : (pieceS s t u).size ≤ 4096 := by
              unfold pieceS
              split <;> simp <;> omega
            have HP := Lib.hid (pieceS_is s t u)
            have hfk := HF.out k
            obtain ⟨hb3, hk4⟩ := kOf_is (nzAt n ns k)
            rw [← hfk] at hb3 hk4
            clear hfk
            generalize nzAt n ns k = z at *
            generalize pieceS s t u = P at *
            rcases (by omega : f k = 0 ∨ f k = 1 ∨ f k = 2 ∨ f k = 3) with h | h | h | h
            all_goals
              rw [h] at hb3 HS
              clear h hk4
            · skip
              go_wp2_with fail
              go_roundw
              case rel =>
                refine ⟨k + 1, _, by omega, by go_num, rfl, Lib.hid (blk_rel hl.out rfl HS.out HP.out), ?_, hb.alloc hb.size _⟩
                rw [ByteArray.size_append, ByteArray.size_append]
                have : ∀ a b c : UInt8, (⟨#[a]⟩ : ByteArray).size = 1 := fun _ _ _ => rfl
                first
                  | (rw [show (⟨#[32]⟩ : ByteArray).size = 1 from rfl]; omega)
                  | (rw [show (⟨#[10]⟩ : ByteArray).size = 1 from rfl]; omega)
                  | (rw [show (⟨#[9, 13, 10, 32]⟩ : ByteArray).size = 4 from rfl]; omega)
                  | (rw [show (⟨#[32, 35, 32, 97, 32, 34, 32, 98, 10]⟩ : ByteArray).size = 9 from rfl]; omega)
              case measure => simp [intOf]; omega
            · skip
              go_wp2_with fail
              go_roundw
              case rel =>
                refine ⟨k + 1, _, by omega, by go_num, rfl, Lib.hid (blk_rel hl.out rfl HS.out HP.out), ?_, hb.alloc hb.size _⟩
                rw [ByteArray.size_append, ByteArray.size_append]
                have : ∀ a b c : UInt8, (⟨#[a]⟩ : ByteArray).size = 1 := fun _ _ _ => rfl
                first
                  | (rw [show (⟨#[32]⟩ : ByteArray).size = 1 from rfl]; omega)
                  | (rw [show (⟨#[10]⟩ : ByteArray).size = 1 from rfl]; omega)
                  | (rw [show (⟨#[9, 13, 10, 32]⟩ : ByteArray).size = 4 from rfl]; omega)
                  | (rw [show (⟨#[32, 35, 32, 97, 32, 34, 32, 98, 10]⟩ : ByteArray).size = 9 from rfl]; omega)
              case measure => simp [intOf]; omega
            · skip
              go_wp2_with fail
              go_roundw
              case rel =>
                refine ⟨k + 1, _, by omega, by go_num, rfl, Lib.hid (blk_rel hl.out rfl HS.out HP.out), ?_, hb.alloc hb.size _⟩
                rw [ByteArray.size_append, ByteArray.size_append]
                have : ∀ a b c : UInt8, (⟨#[a]⟩ : ByteArray).size = 1 := fun _ _ _ => rfl
                first
                  | (rw [show (⟨#[32]⟩ : ByteArray).size = 1 from rfl]; omega)
                  | (rw [show (⟨#[10]⟩ : ByteArray).size = 1 from rfl]; omega)
                  | (rw [show (⟨#[9, 13, 10, 32]⟩ : ByteArray).size = 4 from rfl]; omega)
                  | (rw [show (⟨#[32, 35, 32, 97, 32, 34, 32, 98, 10]⟩ : ByteArray).size = 9 from rfl]; omega)
              case measure => simp [intOf]; omega
            · skip
              go_wp2_with fail
              go_roundw
              case rel =>
                refine ⟨k + 1, _, by omega, by go_num, rfl, Lib.hid (blk_rel hl.out rfl HS.out HP.out), ?_, hb.alloc hb.size _⟩
                rw [ByteArray.size_append, ByteArray.size_append]
                have : ∀ a b c : UInt8, (⟨#[a]⟩ : ByteArray).size = 1 := fun _ _ _ => rfl
                first
                  | (rw [show (⟨#[32]⟩ : ByteArray).size = 1 from rfl]; omega)
                  | (rw [show (⟨#[10]⟩ : ByteArray).size = 1 from rfl]; omega)
                  | (rw [show (⟨#[9, 13, 10, 32]⟩ : ByteArray).size = 4 from rfl]; omega)
                  | (rw [show (⟨#[32, 35, 32, 97, 32, 34, 32, 98, 10]⟩ : ByteArray).size = 9 from rfl]; omega)
              case measure => simp [intOf]; omega
      · have hkn : k + 1 = ts.length := by omega
        have HW : Hid ((S ++ ⟨#[32]⟩ : ByteArray).data.toList = blkL s f 0 ts) := Lib.hid (by rw [app_list, ← hl.out, blk_end hkn])
        have hI1 : ¬ ((k : Int) + 1 < (ts.length : Int)) := by omega
        have hSs : (S ++ ⟨#[32]⟩ : ByteArray).size = S.size + 1 := by rw [ByteArray.size_append]; rfl
        have HBLS := Lib.hid (HBL.out (S ++ ⟨#[32]⟩) HW.out)
        have hBr : Below w.heap.size w wr := hB2.trans (hb.mono hB2.size)
        have HALLS := Lib.hid (All_pf (s := S ++ ⟨#[32]⟩) (hG.keeps hG.2 hBr))
        clear HW hl HBL HPL HN HF hlt hk
        by_cases hbig : 4096 < S.size + 1
        · have hbI : (4096 : Int) < (S.size : Int) + 1 := by omega
          go_wp2_with fail
          go_ret
          exact ⟨rfl, hBr⟩
        · have hbI : ¬ ((4096 : Int) < (S.size : Int) + 1) := by omega
          obtain ⟨ms, hm1, hm2, hm3⟩ := HBLS.out (by rw [hSs]; omega)
          rw [hm1] at HALLS
          have HM3 := Lib.hid hm3
          have HM2 := Lib.hid hm2
          have hmI : ((ms.length : Int) != (ts.length : Int)) = false := by rw [hm2]; simp
          clear hm1 hm2 hm3 HBLS
          go_wp2_with fail
          refine HALLS.out.mono ?_
          rintro e w3 ⟨⟨out3, rfl, hown3⟩, hb3⟩
          obtain ⟨oa3, oc3, rfl⟩ := own_shape hown3
          have hown2 := own_below hownr hb3
          have hB3 : Below w.heap.size w w3 := hBr.trans (hb3.mono hBr.size)
          clear HALLS hbI hbig hSs
          go_wp2_with fail
          go_loopw [15] (fun i wx => ∃ j : Nat, j ≤ ts.length ∧ i = .int .i64 j ∧ Below w3.heap.size w3 wx) (fun i _ => ts.length - (intOf i).toNat)
          case atStart => exact ⟨0, by omega, rfl, Below.refl _ _⟩
          case round =>
            obtain ⟨j, hj, rfl, hbx⟩ := hrel
            by_cases hlt : j < ts.length
            · obtain ⟨t, ht⟩ := get_lt ts hlt
              obtain ⟨q, hq⟩ := HM3.out j t ht
              have hfin := HFIN.out t (List.mem_of_getElem? ht)
              have hown2x := own_below hown2 hbx
              have hown3x := own_below hown3 hbx
              obtain ⟨g, rfl, _, _, d0, d1, d2, d3, d4⟩ := own_tok hown2x rfl ht
              obtain ⟨g3, rfl, _, _, e0, e1, e2, e3, e4⟩ := own_tok hown3x rfl hq
              have hin := fun W => tok_in (k := t.kind) (n := t.num) (p := (q : Int)) (nm := t.text) hfin W
              have hin2 := fun W => tok_neq (k := t.kind) (n := t.num) (p := (q : Int)) (nm := t.text) hfin W
              have hI1 : (j : Int) < (ts.length : Int) := by omega
              have hI2 : (j : Int) < (ms.length : Int) := by rw [HM2.out]; omega
              have hsf := store_f64
              clear ht
              go_upto_region 34 with fail
              refine with_world fun W hW => ?_
              have hrow : W.heap[wr.heap.size]? = some (.cells #[.int .i64 t.kind, .string t.text, .int .i64 t.num, .float .f64 t.bits, .int .i64 t.place] 31 (0, 0)) := by rw [hW]; exact block_new _ _ rfl
              have hbW : Below w3.heap.size w3 W := by rw [hW]; exact hbx.alloc hbx.size _
              clear hW d0 d1 d2 d3 d4 e0 e1 e2 e3 e4 hsf
              obtain ⟨_, he, _, _, e0, e1, e2, e3, e4⟩ := own_tok (own_below hown3 hbW) rfl hq
              cases he
              simp only [Tok.at] at e0 e1 e2 e3 e4
              have x4 := block_cell (i := 4) hrow rfl
              have xf := block_free (i := 4) hrow
              have hXs := hbx.size
              clear hown2x hown3x
              generalize wr.heap.size = X at *
              go_upto_region 35 with fail
              refine with_world fun W2 hW2 => ?_
              have hrow2 : W2.heap[X]? = some (.cells #[.int .i64 t.kind, .string t.text, .int .i64 t.num, .float .f64 t.bits, .int .i64 (q : Int)] 31 (0, 0)) := by rw [hW2]; exact block_set hrow _
              have hbW2 : Below w3.heap.size w3 W2 := by rw [hW2]; exact below1 hbW hXs _
              clear hW2 e0 e1 e2 e3 e4 x4 xf hrow hbW
              obtain ⟨_, he, _, _, e0, e1, e2, e3, e4⟩ := own_tok (own_below hown3 hbW2) rfl hq
              cases he
              simp only [Tok.at] at e0 e1 e2 e3 e4
              have x0 := block_cell (i := 0) hrow2 rfl
              have x1 := block_cell (i := 1) hrow2 rfl
              have x2 := block_cell (i := 2) hrow2 rfl
              have x3 := block_cell (i := 3) hrow2 rfl
              have x4 := block_cell (i := 4) hrow2 rfl
              clear hrow2 hq
              go_quiet (fail)
              go_wp2_with fail
              go_roundw
              case rel => exact ⟨j + 1, by omega, by go_num, below_drewN hbW2 _⟩
              case measure => simp [intOf]; omega
            · have hge : ¬ ((j : Int) < (ts.length : Int)) := by omega
              go_wp2_with fail
              go_ret
              exact ⟨rfl, hB3.trans (hbx.mono hB3.size)⟩
end Go.Proofs.YtnhdedoobagbbaaDoor
