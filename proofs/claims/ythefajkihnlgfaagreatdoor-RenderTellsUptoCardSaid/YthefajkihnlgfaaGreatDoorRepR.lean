/- strings.Replacer at the four signs that a string escapes: the walk of its Replace. -/
import Derived.Test.YthefajkihnlgfaaGreatDoorM29
import Derived.Test.YthefajkihnlgfaaGreatDoorRepW
import Derived.Deep.DeepCutAuto
import Derived.Deep.CutBlock
import Derived.Deep.CutRange
import Derived.Lib.Bytealg
import Derived.Laws.CopyRow
import Derived.Laws.CopyOwn
namespace Go.Proofs.YthefajkihnlgfaaGreatDoor
open Go.RowKit
set_option linter.unusedSimpArgs false
set_option linter.unusedVariables false
theorem infoBy : (Tryz.prog.info? 5).map (fun i => (i.zero, i.size, i.bytes)) = some (some (.int .u8 0), 1, 1) := by kernel_rfl
def u8s (l : List UInt8) : List Value := l.map fun b => Value.int .u8 b.toNat
set_option maxRecDepth 100000 in
theorem count_one (s : ByteArray) (c : UInt8) (cn : Nat) (hq : s.data.toList.count c = cn) (w : World) : Calls Tryz.prog 177 #[.string s, .string ⟨#[c]⟩] w fun e w' => e = .returned (.int .i64 (cn : Int)) ∧ w' = w := by
  have hix : ∀ h, ((⟨#[c]⟩ : ByteArray)[0]'h) = c := fun _ => rfl
  have hct : ((c.toNat : Int)).toNat.toUInt8 = c := by simp
  have he := run_callFunc_extern (P := Tryz.prog) Tryz.func179 (by kernel_rfl) (by kernel_rfl) (by kernel_rfl) (e := Extern.BytealgCount.count) (by kernel_rfl)
  have hcn : ∀ W : World, (Extern.BytealgCount.count #[.string s, .int .u8 c.toNat]).run Tryz.prog W = .ok (.int .i64 (cn : Int)) W := fun W => by
    rw [Lib.run_countString, hct, ← hq]
    rfl
  clear hq
  go_enter Tryz.func177, Tryz.ntmps177
  go_wp2
  go_ret
  exact ⟨rfl, rfl⟩
/-- What copy leaves. -/
theorem copy_cells {A cs : List Value} {z : Value} {N jn n : Nat} (hA : A.length = jn) (hc : cs.length = n) (hN : jn + n ≤ N) :
    ((A ++ List.replicate (N - jn) z).take jn ++ cs ++ (A ++ List.replicate (N - jn) z).drop (jn + n)) = (A ++ cs) ++ List.replicate (N - (jn + n)) z := by
  rw [List.take_append_of_le_length (by omega), List.take_of_length_le (by omega), List.drop_append, List.drop_eq_nil_of_le (by omega), List.drop_replicate, List.nil_append]
  congr 2
  omega
theorem set_cells {A : List Value} {z v : Value} {N jn : Nat} (hA : A.length = jn) (hN : jn + 1 ≤ N) :
    (A ++ List.replicate (N - jn) z).toArray.setIfInBounds jn v = ((A ++ [v]) ++ List.replicate (N - (jn + 1)) z).toArray := by
  obtain ⟨m, hm⟩ : ∃ m, N - jn = m + 1 := ⟨N - jn - 1, by omega⟩
  rw [hm, show N - (jn + 1) = m by omega, List.setIfInBounds_toArray, List.set_append_right _ _ (by omega), hA, Nat.sub_self, List.replicate_succ, List.set_cons_zero, List.append_assoc]
  rfl
theorem u8s_app (l r : List UInt8) : u8s (l ++ r) = u8s l ++ u8s r := by unfold u8s; rw [List.map_append]
theorem u8s_len (l : List UInt8) : (u8s l).length = l.length := by unfold u8s; simp
theorem qeB_sp {b : UInt8} (h : b.toNat ∈ qeC) : u8s (qeB b) = [.int .u8 92, .int .u8 (qeE b.toNat : Int)] := by
  have he : qeE b.toNat < 256 := by
    unfold qeE
    have := b.toNat_lt
    split
    · decide
    · split
      · decide
      · omega
  unfold u8s qeB
  rw [if_pos h]
  simp
  omega
theorem make_u8 (N : Nat) (hN : N ≤ 100000000) (w : World) : (Instr.makeSlice 40 (.int .i64 (N : Int)) (.int .i64 (N : Int))).run Tryz.prog w = .ok (.slice (some ⟨w.heap.size, 0, none⟩) N N) (w.alloc (.cells (List.replicate N (Value.int .u8 0)).toArray 5)) := by
  obtain ⟨i0, hi, hz0, hz1, hz2⟩ := info_parts infoBy
  have hr := run_make (P := Tryz.prog) (w := w) 40 5 i0 _ Tryz.underlying40 hi hz0 .i64 .i64 N N (by omega) (by omega) (by rw [hz2]; omega) (by omega)
  rw [hr, hz1]
  have e : madeCells (Value.int .u8 0).cells (Int.toNat N * 1) = (List.replicate N (Value.int .u8 0)).toArray := by
    have := toList_madeCells_one (.int .u8 0) N
    apply Array.ext'
    rw [Nat.mul_one]
    exact this
  rw [e]
  simp
set_option maxHeartbeats 4000000 in
set_option maxRecDepth 100000 in
theorem bsrRep_any (lo rb : Nat) (s : ByteArray) (w : World) (hB : BSR lo rb w) (hs : s.size ≤ 1000000) :
    Calls Tryz.prog 175 #[.pointer (some ⟨rb, 0, none⟩), .string s] w fun e w' => e = .returned (.string ⟨(qeL s.data.toList).toArray⟩) ∧ Below w.heap.size w w' := by
  obtain ⟨_, ⟨g, tc, _, h256, htr⟩, hcs⟩ := id hB
  have HB := Lib.hid hB
  have HTR := Lib.hid htr
  have HCS := Lib.hid hcs
  obtain ⟨S, hS⟩ : ∃ S : Nat, s.size = S := ⟨_, rfl⟩
  obtain ⟨L, hL⟩ : ∃ L : List UInt8, s.data.toList = L := ⟨_, rfl⟩
  have hLS : L.length = S := by rw [← hL, ← hS]; exact Array.length_toList
  have HL := Lib.hid hL
  have HS := Lib.hid hS
  have HLS := Lib.hid hLS
  rw [hS] at hs
  have hcle := cntS_le L
  rw [hLS] at hcle
  clear hB htr hcs hL hLS
  go_enter Tryz.func175, Tryz.ntmps175
  go_upto_if 26 with fail
  go_cut [5, 6] from 7 to 80 (fun n a wx => n = .int .i64 ((S + qeN L : Nat) : Int) ∧ a = .bool (decide (0 < qeN L)) ∧ Below w.heap.size w wx)
  case first =>
    by_cases h32 : 32 ≤ S
    · have h32' : (32 : Int) ≤ (S : Int) := by omega
      rw [decide_eq_true h32']
      go_wp2_with fail
      go_loopw [5, 6, 32] (fun n a i wr => ∃ (k ns : Nat) (B : Bool), k ≤ 4 ∧ n = .int .i64 (ns : Int) ∧ a = .bool B ∧ i = .int .i64 (k : Int) ∧ ns = S + cntS L k ∧ B = decide (0 < cntS L k) ∧ Below w.heap.size w wr) (fun _ _ i _ => 4 - (intOf i).toNat)
      case atStart => exact ⟨0, S, false, by decide, rfl, rfl, rfl, rfl, rfl, Below.refl _ _⟩
      case round =>
        obtain ⟨k, ns, B, hk, rfl, rfl, rfl, hns, hB, hbw⟩ := hrel
        have HNS := Lib.hid hns
        have HBB := Lib.hid hB
        rcases (by omega : k = 4 ∨ k < 4) with rfl | hk4
        · clear hns hB
          go_wp2_with fail
          go_meet
          have h1 := HNS.out
          have h2 := HBB.out
          rw [cntS_four] at h1 h2
          exact ⟨by rw [h1], by rw [h2], hbw⟩
        · obtain ⟨c, hec, hcm, hc⟩ : ∃ c, qeC[k]? = some c ∧ c ∈ qeC ∧ c < 256 := by
            rcases (by omega : k = 0 ∨ k = 1 ∨ k = 2 ∨ k = 3) with rfl | rfl | rfl | rfl
            · exact ⟨92, rfl, by decide, by decide⟩
            · exact ⟨34, rfl, by decide, by decide⟩
            · exact ⟨9, rfl, by decide, by decide⟩
            · exact ⟨10, rfl, by decide, by decide⟩
          have hx := cell_keeps hbw (HTR.out k c hec)
          have hcc := HCS.out c hc
          rw [if_pos hcm] at hcc
          obtain ⟨y, m, _, cb, y0, y1⟩ := hcc
          have cb := cell_keeps hbw cb
          have hcI : (c : Int) < 256 := by omega
          have hcI2 : ¬ (256 : Int) ≤ (c : Int) := by omega
          have hw4 : IntKind.i64.wrap 1 = 1 := rfl
          have HBW := Lib.hid hbw
          obtain ⟨cn, hcn⟩ : ∃ cn : Nat, L.count (UInt8.ofNat c) = cn := ⟨_, rfl⟩
          have hsu := cntS_succ (l := L) hec
          have hle := hcle (k + 1)
          rw [hcn] at hsu
          have hcount := count_one s (UInt8.ofNat c) cn (by rw [HL.out, hcn]) wr
          have HCOUNT := Lib.hid hcount
          have HSU := Lib.hid hsu
          have hb1 : ns + cn ≤ 10000000 := by omega
          have hct : (UInt8.ofNat c).toNat = c := by simp [UInt8.toNat_ofNat']; omega
          have hix : ∀ h, ((⟨#[UInt8.ofNat c]⟩ : ByteArray)[0]'h).toNat = c := fun _ => hct
          have hw1 : IntKind.i64.wrap ((k : Int) + 1) = (k : Int) + 1 := IntWalk.i64_in _ (by omega)
          have hw2 : IntKind.i64.wrap ((ns : Int) + (cn : Int)) = (ns : Int) + (cn : Int) := IntWalk.i64_in _ (by omega)
          have hw3 : IntKind.i64.wrap (cn : Int) = (cn : Int) := IntWalk.i64_in _ (by omega)
          have hk4' : (k : Int) < 4 := by omega
          clear hns hB hec hcm hcn hsu hle hcount hbw
          by_cases hz : cn = 0
          · subst hz
            go_wp2_with (go_at_call 177
                         refine HCOUNT.out.mono ?_
                         rintro e w' ⟨rfl, hww⟩
                         have hww2 := hww.symm
                         subst hww2)
            go_roundw
            case rel =>
              refine ⟨k + 1, ns, B, hk4, rfl, rfl, rfl, ?_, ?_, HBW.out⟩
              · rw [HSU.out]; exact HNS.out
              · rw [HSU.out]; exact HBB.out
            case measure =>
              simp [intOf]
              omega
          · have hcz : ((cn : Int) == 0) = false := beq_eq_false_iff_ne.2 (by omega)
            have hcz2 : ¬ ((cn : Int) = 0) := by omega
            go_wp2_with (go_at_call 177
                         refine HCOUNT.out.mono ?_
                         rintro e w' ⟨rfl, hww⟩
                         have hww2 := hww.symm
                         subst hww2)
            refine with_frame fun a0 ha0 => ?_
            have e0 : a0.eval (.tmp 0) = .pointer (some ⟨rb, 0, none⟩) := by rw [ha0]; rfl
            have e5 : a0.eval (.tmp 5) = .int .i64 (ns : Int) := by rw [ha0]; rfl
            have e8 : a0.eval (.tmp 8) = .string ⟨#[UInt8.ofNat c]⟩ := by rw [ha0]; rfl
            have e9 : a0.eval (.tmp 9) = .int .i64 (cn : Int) := by rw [ha0]; rfl
            have hsz : a0.tmps.size = 122 := by rw [ha0]; rfl
            have HA := Lib.hid ha0
            clear ha0
            have hD : ∀ d, (List.range' 41 13).contains d = true → d < a0.tmps.size := by
              intro d h
              rw [hsz]
              have hm : d ∈ List.range' 41 13 := by simpa using h
              rw [List.mem_range'_1] at hm
              omega
            refine wp_region_tab (by kernel_rfl) 13 41 (fun jj => ([.int .i64 (ns : Int), .int .i64 (cn : Int), .pointer (some ⟨rb, 0, none⟩), .string ⟨#[UInt8.ofNat c]⟩, .int .u8 (c : Int), .pointer (some ⟨rb, 0, none⟩), .pointer (some ⟨rb, 0, none⟩), .pointer (some ⟨rb, c, none⟩), .slice (some ⟨y, 0, none⟩) 2 m, .int .i64 2, .int .i64 1, .int .i64 (cn : Int), .int .i64 ((ns : Int) + (cn : Int))] : List Value).getD jj undef) (fun w' => Below wr.heap.size wr w') rfl (by kernel_rfl) (by kernel_rfl) (by (repeat' (first | (with_reducible exact Below.refl _ _) | (with_reducible assumption) | (with_reducible refine below_drewN ?_ _) | (with_reducible refine Below.drew ?_) | (with_reducible refine Below.alloc ?_ ?_ _) | (with_reducible refine Below.setCell ?_ ?_ _) | omega | (simp; done) | (simp; omega)))) ?_ ?_
            · intro i0 hi0 v w0 hW hv
              have cb := cell_keeps hW cb
              have inn : ∀ d, (List.range' 41 13).contains d = true → (frameOf a0 (List.range' 41 13) v).tmps[d]?.getD undef = v d := fun d h => frameOf_in' h (hD d h)
              rcases (by omega : i0 = 0 ∨ i0 = 1 ∨ i0 = 2 ∨ i0 = 3 ∨ i0 = 4 ∨ i0 = 5 ∨ i0 = 6 ∨ i0 = 7 ∨ i0 = 8 ∨ i0 = 9 ∨ i0 = 10 ∨ i0 = 11 ∨ i0 = 12) with rfl | rfl | rfl | rfl | rfl | rfl | rfl | rfl | rfl | rfl | rfl | rfl | rfl
              · -- operation 0
                have E5 : (frameOf a0 (List.range' 41 13) v).tmps[5]?.getD undef = .int .i64 (ns : Int) := (frameOf_out' rfl).trans e5
                refine wpOp_value (v := .int .i64 (ns : Int)) (w' := w0) rfl rfl (by go_simp) ?_
                exact ⟨frameOf_put rfl, hW⟩
              · -- operation 1
                have E9 : (frameOf a0 (List.range' 41 13) v).tmps[9]?.getD undef = .int .i64 (cn : Int) := (frameOf_out' rfl).trans e9
                refine wpOp_value (v := .int .i64 (cn : Int)) (w' := w0) rfl rfl (by go_simp) ?_
                exact ⟨frameOf_put rfl, hW⟩
              · -- operation 2
                have E0 : (frameOf a0 (List.range' 41 13) v).tmps[0]?.getD undef = .pointer (some ⟨rb, 0, none⟩) := (frameOf_out' rfl).trans e0
                refine wpOp_value (v := .pointer (some ⟨rb, 0, none⟩)) (w' := w0) rfl rfl (by go_simp) ?_
                exact ⟨frameOf_put rfl, hW⟩
              · -- operation 3
                have E8 : (frameOf a0 (List.range' 41 13) v).tmps[8]?.getD undef = .string ⟨#[UInt8.ofNat c]⟩ := (frameOf_out' rfl).trans e8
                refine wpOp_value (v := .string ⟨#[UInt8.ofNat c]⟩) (w' := w0) rfl rfl (by go_simp) ?_
                exact ⟨frameOf_put rfl, hW⟩
              · -- operation 4
                have x44 : v 44 = .string ⟨#[UInt8.ofNat c]⟩ := hv 3 (by kernel_rfl)
                have E44 := (inn 44 rfl).trans x44
                refine wpOp_value (v := .int .u8 (c : Int)) (w' := w0) rfl rfl (by go_simp) ?_
                exact ⟨frameOf_put rfl, hW⟩
              · -- operation 5
                have x43 : v 43 = .pointer (some ⟨rb, 0, none⟩) := hv 2 (by kernel_rfl)
                have E43 := (inn 43 rfl).trans x43
                refine wpOp_value (v := .pointer (some ⟨rb, 0, none⟩)) (w' := w0) rfl rfl (by go_simp) ?_
                exact ⟨frameOf_put rfl, hW⟩
              · -- operation 6
                have x46 : v 46 = .pointer (some ⟨rb, 0, none⟩) := hv 5 (by kernel_rfl)
                have E46 := (inn 46 rfl).trans x46
                refine wpOp_value (v := .pointer (some ⟨rb, 0, none⟩)) (w' := w0) rfl rfl (by go_simp) ?_
                exact ⟨frameOf_put rfl, hW⟩
              · -- operation 7
                have x45 : v 45 = .int .u8 (c : Int) := hv 4 (by kernel_rfl)
                have E45 := (inn 45 rfl).trans x45
                have x47 : v 47 = .pointer (some ⟨rb, 0, none⟩) := hv 6 (by kernel_rfl)
                have E47 := (inn 47 rfl).trans x47
                refine wpOp_value (v := .pointer (some ⟨rb, c, none⟩)) (w' := w0) rfl rfl (by go_simp) ?_
                exact ⟨frameOf_put rfl, hW⟩
              · -- operation 8
                have x48 : v 48 = .pointer (some ⟨rb, c, none⟩) := hv 7 (by kernel_rfl)
                have E48 := (inn 48 rfl).trans x48
                refine wpOp_value (v := .slice (some ⟨y, 0, none⟩) 2 m) (w' := w0) rfl rfl (by go_simp) ?_
                exact ⟨frameOf_put rfl, hW⟩
              · -- operation 9
                have x49 : v 49 = .slice (some ⟨y, 0, none⟩) 2 m := hv 8 (by kernel_rfl)
                have E49 := (inn 49 rfl).trans x49
                refine wpOp_value (v := .int .i64 2) (w' := w0) rfl rfl (by go_simp) ?_
                exact ⟨frameOf_put rfl, hW⟩
              · -- operation 10
                have x50 : v 50 = .int .i64 2 := hv 9 (by kernel_rfl)
                have E50 := (inn 50 rfl).trans x50
                refine wpOp_value (v := .int .i64 1) (w' := w0) rfl rfl (by go_simp) ?_
                exact ⟨frameOf_put rfl, hW⟩
              · -- operation 11
                have x42 : v 42 = .int .i64 (cn : Int) := hv 1 (by kernel_rfl)
                have E42 := (inn 42 rfl).trans x42
                have x51 : v 51 = .int .i64 1 := hv 10 (by kernel_rfl)
                have E51 := (inn 51 rfl).trans x51
                refine wpOp_value (v := .int .i64 (cn : Int)) (w' := w0) rfl rfl (by go_simp) ?_
                exact ⟨frameOf_put rfl, hW⟩
              · -- operation 12
                have x41 : v 41 = .int .i64 (ns : Int) := hv 0 (by kernel_rfl)
                have E41 := (inn 41 rfl).trans x41
                have x52 : v 52 = .int .i64 (cn : Int) := hv 11 (by kernel_rfl)
                have E52 := (inn 52 rfl).trans x52
                refine wpOp_value (v := .int .i64 ((ns : Int) + (cn : Int))) (w' := w0) rfl rfl (by go_simp) ?_
                exact ⟨frameOf_put rfl, hW⟩
            · intro w0 hW
              have h0 := HA.out
              subst h0
              have hrg : List.range' 41 13 = [41, 42, 43, 44, 45, 46, 47, 48, 49, 50, 51, 52, 53] := rfl
              rw [hrg]
              clear hrg
              simp only [frameOf_cons, frameOf_nil, Act.put, List.setIfInBounds_toArray, List.set_cons_zero, List.set_cons_succ]
              refine wpOp_value (v := .int .i64 ((ns : Int) + (cn : Int))) (w' := w0) rfl rfl (by go_simp) ?_
              go_wp2_with fail
              go_roundw
              case rel =>
                refine ⟨k + 1, ns + cn, true, hk4, rfl, rfl, rfl, ?_, ?_, HBW.out.trans (hW.mono HBW.out.size)⟩
                · have := HNS.out
                  have := HSU.out
                  omega
                · have := HSU.out
                  simp
                  omega
              case measure =>
                simp [intOf]
                omega
    · have h32' : ¬ (32 : Int) ≤ (S : Int) := by omega
      rw [decide_eq_false h32']
      go_wp2_with fail
      go_loopw [5, 6, 10] (fun n a i wr => ∃ (k ns : Nat) (B : Bool), k ≤ S ∧ n = .int .i64 (ns : Int) ∧ a = .bool B ∧ i = .int .i64 (k : Int) ∧ ns = S + qeN (L.take k) ∧ B = decide (0 < qeN (L.take k)) ∧ Below w.heap.size w wr) (fun _ _ i _ => S - (intOf i).toNat)
      case atStart => exact ⟨0, S, false, Nat.zero_le _, rfl, rfl, rfl, rfl, rfl, Below.refl _ _⟩
      case round =>
        obtain ⟨k, ns, B, hk, rfl, rfl, rfl, hns, hB, hbw⟩ := hrel
        have HNS := Lib.hid hns
        have HBB := Lib.hid hB
        have hle := qeN_take_le L k
        have hlen := qeN_le L
        have hls := HLS.out
        by_cases hkS : k < S
        · obtain ⟨b, hb⟩ := get_lt L (k := k) (by omega)
          have hix : ∀ h, (s[k]'h) = b := fun h => by
            have e : s.data.toList[k]? = some b := by rw [HL.out]; exact hb
            have e2 : s.data[k]? = some b := by rw [← Array.getElem?_toList]; exact e
            exact (Array.getElem?_eq_some_iff.1 e2).2
          have hkI : (k : Int) < (S : Int) := by omega
          have hkI0 : ¬ ((k : Int) < 0) := by omega
          have hss := HS.out
          have hsn := qeN_succ hb
          have HSN := Lib.hid hsn
          have hbl : b.toNat < 256 := b.toNat_lt
          have hcc := HCS.out b.toNat hbl
          have hw1 : IntKind.i64.wrap ((k : Int) + 1) = (k : Int) + 1 := IntWalk.i64_in _ (by omega)
          have hw2 : IntKind.i64.wrap ((ns : Int) + 1) = (ns : Int) + 1 := IntWalk.i64_in _ (by omega)
          have HBW := Lib.hid hbw
          clear hns hB hle hlen hls hb hsn hbw
          by_cases hm : b.toNat ∈ qeC
          · rw [if_pos hm] at hcc
            obtain ⟨y, m, _, cb, y0, y1⟩ := hcc
            have cb := cell_keeps HBW.out cb
            have hnq : ∀ W : World, (binOp .neq 40 (.slice (some ⟨y, 0, none⟩) 2 m) (.slice none 0 0)).run Tryz.prog W = .ok (.bool true) W := fun _ => by rfl
            go_wp2_with fail
            go_roundw
            case rel =>
              refine ⟨k + 1, ns + 1, true, hkS, rfl, rfl, rfl, ?_, ?_, HBW.out⟩
              · rw [HSN.out, if_pos hm]; have := HNS.out; omega
              · rw [HSN.out, if_pos hm]; simp
            case measure =>
              simp [intOf]
              omega
          · rw [if_neg hm] at hcc
            have hcc := cell_keeps HBW.out hcc
            have hnq : ∀ W : World, (binOp .neq 40 (.slice none 0 0) (.slice none 0 0)).run Tryz.prog W = .ok (.bool false) W := fun _ => by rfl
            go_wp2_with fail
            go_roundw
            case rel =>
              refine ⟨k + 1, ns, B, hkS, rfl, rfl, rfl, ?_, ?_, HBW.out⟩
              · rw [HSN.out, if_neg hm]; exact HNS.out
              · rw [HSN.out, if_neg hm]; exact HBB.out
            case measure =>
              simp [intOf]
              omega
        · obtain rfl : k = S := by omega
          have hkI : ¬ ((k : Int) < (k : Int)) := by omega
          have hss := HS.out
          clear hns hB hle hlen hls
          go_wp2_with fail
          go_meet
          have h1 := HNS.out
          have h2 := HBB.out
          have h3 := HLS.out
          rw [List.take_of_length_le (by omega)] at h1 h2
          exact ⟨by rw [h1], by rw [h2], hbw⟩
  case rest =>
    obtain ⟨rfl, rfl, hbx⟩ := hcut
    have hws := hbx.size
    have HBX := Lib.hid hbx
    clear hbx h256
    by_cases hz : qeN L = 0
    · rw [decide_eq_false (by omega)]
      go_wp2_with fail
      go_ret
      refine ⟨?_, HBX.out⟩
      rw [HL.out, qeL_id hz]
      apply ret_str
      apply toList_inj
      rw [Lib.toList_data, Lib.toList_data, HL.out]
    · rw [decide_eq_true (by omega)]
      have hlen := qeN_le L
      have hls := HLS.out
      obtain ⟨N, hN⟩ : ∃ N : Nat, S + qeN L = N := ⟨_, rfl⟩
      have hNe : (qeL L).length = N := by rw [qeL_len]; omega
      have hN2 : N ≤ 3000000 := by omega
      rw [hN]
      obtain ⟨bq, hbb⟩ : ∃ bq : Nat, wc.heap.size = bq := ⟨_, rfl⟩
      have hmk := make_u8 N (by omega) wc
      rw [hbb] at hmk hws
      have HNE := Lib.hid hNe
      have HBBS := Lib.hid hbb
      clear hN hlen hls hNe
      go_wp2_with fail
      go_loopw [13, 14] (fun j i wr => ∃ (k jn : Nat), k ≤ S ∧ j = .int .i64 (jn : Int) ∧ i = .int .i64 (k : Int) ∧ jn = (qeL (L.take k)).length ∧ Below w.heap.size w wr ∧ wr.heap[bq]? = some (.cells (u8s (qeL (L.take k)) ++ List.replicate (N - jn) (Value.int .u8 0)).toArray 5 (0, 0))) (fun _ i _ => S - (intOf i).toNat)
      case atStart =>
        refine ⟨0, 0, Nat.zero_le _, rfl, rfl, rfl, HBX.out.alloc HBX.out.size _, ?_⟩
        exact block_new _ _ HBBS.out.symm
      case round =>
        obtain ⟨k, jn, hk, rfl, rfl, hjn, hbw, hcur⟩ := hrel
        have hls := HLS.out
        have hss := HS.out
        have hbbs := HBBS.out
        by_cases hkS : k < S
        · obtain ⟨b, hb⟩ := get_lt L (k := k) (by omega)
          have hix : ∀ h, (s[k]'h) = b := fun h => by
            have e : s.data.toList[k]? = some b := by rw [HL.out]; exact hb
            have e2 : s.data[k]? = some b := by rw [← Array.getElem?_toList]; exact e
            exact (Array.getElem?_eq_some_iff.1 e2).2
          have hkI : (k : Int) < (S : Int) := by omega
          have hkI0 : ¬ ((k : Int) < 0) := by omega
          have hln := qeL_succ hb
          have hl2 : jn + (qeB b).length ≤ N := by
            have h1 : (qeL (L.take (k + 1))).length ≤ (qeL L).length := by
              have h := qeL_app (L.take (k + 1)) (L.drop (k + 1))
              rw [List.take_append_drop] at h
              rw [h, List.length_append]
              omega
            rw [HNE.out, hln, List.length_append, ← hjn] at h1
            exact h1
          have HLN := Lib.hid hln
          have HJN := Lib.hid hjn
          have hbl : b.toNat < 256 := b.toNat_lt
          have hbI : (b.toNat : Int) < 256 := by omega
          have hbI2 : ¬ (256 : Int) ≤ (b.toNat : Int) := by omega
          have hcc := HCS.out b.toNat hbl
          have hw1 : IntKind.i64.wrap ((k : Int) + 1) = (k : Int) + 1 := IntWalk.i64_in _ (by omega)
          have hw2 : IntKind.i64.wrap ((jn : Int) + 1) = (jn : Int) + 1 := IntWalk.i64_in _ (by omega)
          have hw3 : IntKind.i64.wrap ((jn : Int) + 2) = (jn : Int) + 2 := IntWalk.i64_in _ (by omega)
          clear hjn hls hb hln
          have HCUR := Lib.hid hcur
          have HBW := Lib.hid hbw
          by_cases hm : b.toNat ∈ qeC
          · rw [if_pos hm] at hcc
            obtain ⟨y, m, _, cb, y0, y1⟩ := hcc
            have hnq : ∀ W : World, (binOp .neq 40 (.slice (some ⟨y, 0, none⟩) 2 m) (.slice none 0 0)).run Tryz.prog W = .ok (.bool true) W := fun _ => by rfl
            have cw := cell_keeps hbw cb
            have hu8 := qeB_sp hm
            have hl8 : (qeB b).length = 2 := by rw [← u8s_len, hu8]; rfl
            rw [hl8] at hl2
            obtain ⟨c, hc⟩ : ∃ c : Nat, b.toNat = c := ⟨_, rfl⟩
            rw [hc] at cw cb y1 hbl hu8 hbI hbI2
            obtain ⟨cur, hcu⟩ : ∃ cur : Array Value, (u8s (qeL (L.take k)) ++ List.replicate (N - jn) (Value.int .u8 0)).toArray = cur := ⟨_, rfl⟩
            rw [hcu] at hcur
            obtain ⟨cur2, hcu2⟩ : ∃ cur2 : Array Value, (cur.toList.take jn ++ [Value.int .u8 92, Value.int .u8 (qeE c : Int)] ++ cur.toList.drop (jn + 2)).toArray = cur2 := ⟨_, rfl⟩
            have hcs : jn + 2 ≤ cur.size := by
              rw [← hcu]
              simp [u8s_len, ← HJN.out]
              omega
            have hjN : jn ≤ N := by omega
            have hjne : ¬ N = jn := by omega
            have HMN : Hid (2 = Nat.min 2 (N - jn)) := Lib.hid (Nat.min_eq_left (by omega)).symm
            have HU8 := Lib.hid hu8
            have HCU := Lib.hid hcu
            have HCU2 := Lib.hid hcu2
            have HC := Lib.hid hc
            have HCUR := Lib.hid hcur
            clear hcu hcu2 hu8 hl8 hbw hcur
            go_wp2_with fail
            refine with_frame fun a0 ha0 => ?_
            have e0 : a0.eval (.tmp 0) = .pointer (some ⟨rb, 0, none⟩) := by rw [ha0]; rfl
            have e12 : a0.eval (.tmp 12) = .slice (some ⟨bq, 0, none⟩) N N := by rw [ha0]; rfl
            have e13 : a0.eval (.tmp 13) = .int .i64 (jn : Int) := by rw [ha0]; rfl
            have e15 : a0.eval (.tmp 15) = .int .u8 (c : Int) := by rw [ha0]; rfl
            have hsz : a0.tmps.size = 122 := by rw [ha0]; rfl
            have HA := Lib.hid ha0
            clear ha0
            have hD : ∀ d, (List.range' 102 12).contains d = true → d < a0.tmps.size := by
              intro d h
              rw [hsz]
              have hm : d ∈ List.range' 102 12 := by simpa using h
              rw [List.mem_range'_1] at hm
              omega
            refine wp_region_taba (by kernel_rfl) 12 102 10 (fun jj => ([.int .i64 (jn : Int), .slice (some ⟨bq, 0, none⟩) N N, .int .i64 (jn : Int), .slice (some ⟨bq, jn, none⟩) (N - jn) (N - jn), .pointer (some ⟨rb, 0, none⟩), .int .u8 (c : Int), .pointer (some ⟨rb, 0, none⟩), .pointer (some ⟨rb, 0, none⟩), .pointer (some ⟨rb, c, none⟩), .slice (some ⟨y, 0, none⟩) 2 m, .int .i64 2, .int .i64 ((jn : Int) + 2)] : List Value).getD jj undef) (fun b w' => Below w.heap.size w w' ∧ w'.heap[bq]? = some (.cells (if b then cur2 else cur) 5 (0, 0))) rfl (by kernel_rfl) (by kernel_rfl) (by omega) ⟨HBW.out.drew, HCUR.out⟩ ?_ ?_
            · intro i0 hi0 bb v w0 hWW hbm hbd hv
              have hWW2 := Lib.hid hWW
              obtain ⟨hW, hWf⟩ := hWW
              have cb := cell_keeps hW cb
              have y0 := cell_keeps hW y0
              have y1 := cell_keeps hW y1
              have HWf := Lib.hid hWf
              skip
              have Hbm := Lib.hid hbm
              have Hbd := Lib.hid hbd
              have HW := Lib.hid hW
              clear hW hWf hbm hbd
              have inn : ∀ d, (List.range' 102 12).contains d = true → (frameOf a0 (List.range' 102 12) v).tmps[d]?.getD undef = v d := fun d h => frameOf_in' h (hD d h)
              rcases (by omega : i0 = 0 ∨ i0 = 1 ∨ i0 = 2 ∨ i0 = 3 ∨ i0 = 4 ∨ i0 = 5 ∨ i0 = 6 ∨ i0 = 7 ∨ i0 = 8 ∨ i0 = 9 ∨ i0 = 10 ∨ i0 = 11) with rfl | rfl | rfl | rfl | rfl | rfl | rfl | rfl | rfl | rfl | rfl | rfl
              · -- operation 0
                have E13 : (frameOf a0 (List.range' 102 12) v).tmps[13]?.getD undef = .int .i64 (jn : Int) := (frameOf_out' rfl).trans e13
                refine wpOp_value (v := .int .i64 (jn : Int)) (w' := w0) rfl rfl (by go_simp) ?_
                exact ⟨frameOf_put rfl, by cases bb <;> exact hWW2.out⟩
              · -- operation 1
                have E12 : (frameOf a0 (List.range' 102 12) v).tmps[12]?.getD undef = .slice (some ⟨bq, 0, none⟩) N N := (frameOf_out' rfl).trans e12
                refine wpOp_value (v := .slice (some ⟨bq, 0, none⟩) N N) (w' := w0) rfl rfl (by go_simp) ?_
                exact ⟨frameOf_put rfl, by cases bb <;> exact hWW2.out⟩
              · -- operation 2
                have E13 : (frameOf a0 (List.range' 102 12) v).tmps[13]?.getD undef = .int .i64 (jn : Int) := (frameOf_out' rfl).trans e13
                refine wpOp_value (v := .int .i64 (jn : Int)) (w' := w0) rfl rfl (by go_simp) ?_
                exact ⟨frameOf_put rfl, by cases bb <;> exact hWW2.out⟩
              · -- operation 3
                have x103 : v 103 = .slice (some ⟨bq, 0, none⟩) N N := hv 1 (by kernel_rfl)
                have E103 := (inn 103 rfl).trans x103
                have x104 : v 104 = .int .i64 (jn : Int) := hv 2 (by kernel_rfl)
                have E104 := (inn 104 rfl).trans x104
                refine wpOp_value (v := .slice (some ⟨bq, jn, none⟩) (N - jn) (N - jn)) (w' := w0) rfl rfl (by go_simp) ?_
                exact ⟨frameOf_put rfl, by cases bb <;> exact hWW2.out⟩
              · -- operation 4
                have E0 : (frameOf a0 (List.range' 102 12) v).tmps[0]?.getD undef = .pointer (some ⟨rb, 0, none⟩) := (frameOf_out' rfl).trans e0
                refine wpOp_value (v := .pointer (some ⟨rb, 0, none⟩)) (w' := w0) rfl rfl (by go_simp) ?_
                exact ⟨frameOf_put rfl, by cases bb <;> exact hWW2.out⟩
              · -- operation 5
                have E15 : (frameOf a0 (List.range' 102 12) v).tmps[15]?.getD undef = .int .u8 (c : Int) := (frameOf_out' rfl).trans e15
                refine wpOp_value (v := .int .u8 (c : Int)) (w' := w0) rfl rfl (by go_simp) ?_
                exact ⟨frameOf_put rfl, by cases bb <;> exact hWW2.out⟩
              · -- operation 6
                have x106 : v 106 = .pointer (some ⟨rb, 0, none⟩) := hv 4 (by kernel_rfl)
                have E106 := (inn 106 rfl).trans x106
                refine wpOp_value (v := .pointer (some ⟨rb, 0, none⟩)) (w' := w0) rfl rfl (by go_simp) ?_
                exact ⟨frameOf_put rfl, by cases bb <;> exact hWW2.out⟩
              · -- operation 7
                have x108 : v 108 = .pointer (some ⟨rb, 0, none⟩) := hv 6 (by kernel_rfl)
                have E108 := (inn 108 rfl).trans x108
                refine wpOp_value (v := .pointer (some ⟨rb, 0, none⟩)) (w' := w0) rfl rfl (by go_simp) ?_
                exact ⟨frameOf_put rfl, by cases bb <;> exact hWW2.out⟩
              · -- operation 8
                have x107 : v 107 = .int .u8 (c : Int) := hv 5 (by kernel_rfl)
                have E107 := (inn 107 rfl).trans x107
                have x109 : v 109 = .pointer (some ⟨rb, 0, none⟩) := hv 7 (by kernel_rfl)
                have E109 := (inn 109 rfl).trans x109
                refine wpOp_value (v := .pointer (some ⟨rb, c, none⟩)) (w' := w0) rfl rfl (by go_simp) ?_
                exact ⟨frameOf_put rfl, by cases bb <;> exact hWW2.out⟩
              · -- operation 9
                have x110 : v 110 = .pointer (some ⟨rb, c, none⟩) := hv 8 (by kernel_rfl)
                have E110 := (inn 110 rfl).trans x110
                refine wpOp_value (v := .slice (some ⟨y, 0, none⟩) 2 m) (w' := w0) rfl rfl (by go_simp) ?_
                exact ⟨frameOf_put rfl, by cases bb <;> exact hWW2.out⟩
              · -- operation 10
                have x105 : v 105 = .slice (some ⟨bq, jn, none⟩) (N - jn) (N - jn) := hv 3 (by kernel_rfl)
                have E105 := (inn 105 rfl).trans x105
                have x111 : v 111 = .slice (some ⟨y, 0, none⟩) 2 m := hv 9 (by kernel_rfl)
                have E111 := (inn 111 rfl).trans x111
                obtain rfl : bb = false := Hbm.out rfl
                have hcp := run_copy_row (P := Tryz.prog) w0 40 40 3 5 bq jn (N - jn) (N - jn) ⟨y, 0, none⟩ 2 m cur 5 [Value.int .u8 92, Value.int .u8 (qeE c : Int)] Tryz.underlying40 (by kernel_rfl) HWf.out HMN.out (fun jq v hj => by
                  rcases jq with _ | _ | jq
                  · simp at hj; subst hj; exact y0
                  · simp at hj; subst hj; exact y1
                  · simp at hj) (by simpa using hcs) (by simp [Value.oneCell'])
                simp only [List.length_cons, List.length_nil] at hcp
                rw [HCU2.out] at hcp
                refine wpOp_value (v := .int .i64 2) (w' := w0.setRow bq cur2) rfl rfl (by go_simp) ?_
                exact ⟨frameOf_put rfl, below_setRow HW.out (by omega) _, setRow_heap _ _ _ _ _ _ HWf.out⟩
              · -- operation 11
                have x102 : v 102 = .int .i64 (jn : Int) := hv 0 (by kernel_rfl)
                have E102 := (inn 102 rfl).trans x102
                have x112 : v 112 = .int .i64 2 := hv 10 (by kernel_rfl)
                have E112 := (inn 112 rfl).trans x112
                refine wpOp_value (v := .int .i64 ((jn : Int) + 2)) (w' := w0) rfl rfl (by go_simp) ?_
                exact ⟨frameOf_put rfl, by cases bb <;> exact hWW2.out⟩
            · intro w0 hWW
              obtain ⟨hW, hWf⟩ := hWW
              have h0 := HA.out
              subst h0
              have hrg : List.range' 102 12 = [102, 103, 104, 105, 106, 107, 108, 109, 110, 111, 112, 113] := rfl
              rw [hrg]
              clear hrg
              simp only [frameOf_cons, frameOf_nil, Act.put, List.setIfInBounds_toArray, List.set_cons_zero, List.set_cons_succ]
              refine wpOp_value (v := .int .i64 ((jn : Int) + 2)) (w' := w0) rfl rfl (by go_simp) ?_
              have HW := Lib.hid hW
              have HWf := Lib.hid hWf
              clear hW hWf
              go_wp2_with fail
              go_roundw
              case rel =>
                refine ⟨k + 1, jn + 2, hkS, rfl, rfl, ?_, HW.out, ?_⟩
                · rw [HLN.out, List.length_append, ← HJN.out, ← u8s_len (qeB b), HU8.out]; rfl
                · rw [HLN.out, u8s_app, HU8.out]
                  have h1 := HWf.out
                  rw [if_pos rfl, ← HCU2.out, ← HCU.out] at h1
                  simp only [List.toList_toArray] at h1
                  rw [copy_cells (n := 2) (by rw [u8s_len, ← HJN.out]) rfl hl2] at h1
                  exact h1
              case measure =>
                simp [intOf]
                omega
          · rw [if_neg hm] at hcc
            have cw := cell_keeps hbw hcc
            have hnq : ∀ W : World, (binOp .neq 40 (.slice none 0 0) (.slice none 0 0)).run Tryz.prog W = .ok (.bool false) W := fun _ => by rfl
            have hl8 : (qeB b).length = 1 := by rw [qeB_no hm]; rfl
            rw [hl8] at hl2
            have hjI : (jn : Int) < (N : Int) := by omega
            have hjI0 : ¬ ((jn : Int) < 0) := by omega
            have cj : wr.cell? ⟨bq, jn, none⟩ = some (.int .u8 0) := block_cell hcur (by
              rw [List.getElem?_toArray, List.getElem?_append_right (by rw [u8s_len, ← HJN.out]; omega), u8s_len, ← HJN.out, Nat.sub_self, List.getElem?_replicate, if_pos (by omega)])
            have fj : wr.frozen? ⟨bq, jn, none⟩ = false := block_free hcur
            clear hl8 hbw hcur
            go_wp2_with fail
            go_roundw
            case rel =>
              refine ⟨k + 1, jn + 1, hkS, rfl, rfl, ?_, ?_, ?_⟩
              · rw [HLN.out, List.length_append, ← HJN.out, qeB_no hm]; rfl
              · exact HBW.out.setCell (by have := HBBS.out; simp; omega) _
              · have h := block_set HCUR.out (i := jn) (.int .u8 b.toNat)
                rw [HLN.out, qeB_no hm, u8s_app]
                rw [set_cells (by rw [u8s_len, ← HJN.out]) (by omega)] at h
                exact h
            case measure =>
              simp [intOf]
              omega
        · obtain rfl : k = S := by omega
          have hkI : ¬ ((k : Int) < (k : Int)) := by omega
          rw [List.take_of_length_le (by omega)] at hjn hcur
          have hjN : jn = N := by rw [hjn, HNE.out]
          rw [hjN, Nat.sub_self, List.replicate_zero, List.append_nil] at hcur
          have hcv : (convert 40 9 (.slice (some ⟨bq, 0, none⟩) N N)).run Tryz.prog wr = .ok (.string ⟨(qeL L).toArray⟩) wr := by
            have h := run_convert_bytes_back (P := Tryz.prog) wr 40 9 5 ⟨bq, 0, none⟩ N (qeL L) Tryz.underlying40 Tryz.underlying5 Tryz.underlying9 fun j hj => by
              rw [show (⟨bq, 0, none⟩ : Addr).add j = ⟨bq, j, none⟩ by unfold Addr.add; split <;> simp_all]
              refine block_cell hcur ?_
              rw [List.getElem?_toArray]
              unfold u8s
              rw [List.getElem?_map, List.getElem?_eq_getElem hj]
              rfl
            rw [HNE.out] at h
            exact h
          have HBW := Lib.hid hbw
          clear hjn hcur hjN hls hbw
          go_wp2_with fail
          go_ret
          refine ⟨?_, HBW.out⟩
          rw [HL.out]
          rfl
end Go.Proofs.YthefajkihnlgfaaGreatDoor

