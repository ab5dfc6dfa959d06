/- strings.Builder's WriteString at this program: the walk of the library's text. -/
import Derived.Test.YthefajkihnlgfaaGreatDoorM03
import Derived.Test.YthefajkihnlgfaaGreatDoorShelf
import Derived.Lib.Builder
import Derived.Lib.Walk
import Derived.Lib.AppendStr
namespace Go.Proofs.YthefajkihnlgfaaGreatDoor
open Go.RowKit Go.Shelf

set_option maxHeartbeats 2000000 in
set_option maxRecDepth 100000 in
theorem writeString_any (B b : Nat) (bs : List Value) (s : ByteArray) (w : World) (h : Lib.IsBuilder 54 5 B b bs w) (hlen : bs.length + s.size ≤ 140737488355328) (hBw : B ≤ w.heap.size) :
    Calls Tryz.prog 14 #[.pointer (some ⟨b, 0, none⟩), .string s] w fun e w' => e = .returned (.tuple #[.int .i64 s.size, .nilIface]) ∧ (Lib.BuilderAt 54 5 B b (.pointer (some ⟨b, 0, none⟩)) (bs ++ Lib.strCells s) w' ∧ Below B w w') := by
  obtain ⟨i0, hi, hz0, hz1, hz2⟩ := info_parts infoB1
  go_enter Tryz.func14, Tryz.ntmps14
  go_wp2_with fail
  refine (check_any B b bs _ h).mono ?_
  rintro e w1 ⟨rfl, h1, hb1⟩
  obtain ⟨hB, v, hbk, hown, hne⟩ := h1
  have c0 : w1.cell? ⟨b, 0, none⟩ = some (.pointer (some ⟨b, 0, none⟩)) := by rw [Lib.cell_of_heap hbk]; rfl
  have c1 : w1.cell? ⟨b, 1, none⟩ = some v := by rw [Lib.cell_of_heap hbk]; rfl
  have HBK := Lib.hid hbk
  clear hbk
  go_wp2_with (at_builtin; refine Lib.wpList_append_own_string _ rfl _ _ 40 9 rfl B 5 i0 Tryz.underlying40 Tryz.underlying9 hi hz0 hz1 hz2 _ _ _ rfl hown s rfl ?c3 ?c4 ?c5 ?_)
  case c3 => unfold maxLen; omega
  case c4 => omega
  case c5 => have := hb1.size; omega
  intro v' w2 hown' hgrow _
  have hlt : b < w1.heap.size := block_lt HBK.out
  have hb2 : w2.heap[b]? = some (.cells #[.pointer (some ⟨b, 0, none⟩), v] 54 (0, 0)) := by
    rw [hgrow.block b hlt (fun e => hne e.symm)]
    exact HBK.out
  have d0 : w2.cell? ⟨b, 0, none⟩ = some (.pointer (some ⟨b, 0, none⟩)) := by rw [Lib.cell_of_heap hb2]; rfl
  have d1 : w2.cell? ⟨b, 1, none⟩ = some v := by rw [Lib.cell_of_heap hb2]; rfl
  have f1 : w2.frozen? ⟨b, 1, none⟩ = false := Lib.frozen_of_heap hb2 1
  obtain ⟨ao, n', cap, rfl⟩ : ∃ ao n' cap, v' = .slice ao n' cap := by
    rcases hown'.2 with ⟨hv, _⟩ | ⟨g, cap, cur, hv, _⟩
    · exact ⟨_, _, _, hv⟩
    · exact ⟨_, _, _, hv⟩
  have HB2 := Lib.hid hb2
  clear hb2
  go_wp2
  go_ret2
  refine ⟨rfl, ?_, ?_⟩
  · exact Lib.BuilderAt.put (T := 54) (e := 5) hB HB2.out (bs' := bs ++ Lib.strCells s) (by simpa [Lib.strCells_length] using hown') (by decide)
  · exact (hb1.grown hgrow (by have := hb1.size; omega) (fun k hk => (hown.lt k hk).1)).setCell (p := ⟨b, 1, none⟩) hB _
end Go.Proofs.YthefajkihnlgfaaGreatDoor

/- How a string's bytes are written with escapes (plain). -/
namespace Go.Proofs.YthefajkihnlgfaaGreatDoor
open Go.RowKit
def qeC : List Nat := [92, 34, 9, 10]
def qeE (c : Nat) : Nat := if c = 9 then 116 else if c = 10 then 110 else c
def qeB (b : UInt8) : List UInt8 := if b.toNat ∈ qeC then [92, UInt8.ofNat (qeE b.toNat)] else [b]
def qeL (l : List UInt8) : List UInt8 := l.flatMap qeB
def qeN : List UInt8 → Nat
  | [] => 0
  | b :: r => (if b.toNat ∈ qeC then 1 else 0) + qeN r
theorem qeL_len : ∀ l : List UInt8, (qeL l).length = l.length + qeN l
  | [] => rfl
  | b :: r => by
    have ih := qeL_len r
    unfold qeL at ih ⊢
    rw [List.flatMap_cons, List.length_append, ih, qeN]
    unfold qeB
    split <;> simp <;> omega
theorem qeL_app (l r : List UInt8) : qeL (l ++ r) = qeL l ++ qeL r := by unfold qeL; rw [List.flatMap_append]
theorem qeL_one (b : UInt8) : qeL [b] = qeB b := by unfold qeL; simp
theorem qeL_succ {l : List UInt8} {i : Nat} {b : UInt8} (h : l[i]? = some b) : qeL (l.take (i + 1)) = qeL (l.take i) ++ qeB b := by
  rw [List.take_add_one, h, ← qeL_one b, ← qeL_app]
  rfl
theorem qeN_app : ∀ l r : List UInt8, qeN (l ++ r) = qeN l + qeN r
  | [], r => by simp [qeN]
  | b :: l, r => by rw [List.cons_append, qeN, qeN, qeN_app l r]; omega
theorem qeN_succ {l : List UInt8} {i : Nat} {b : UInt8} (h : l[i]? = some b) : qeN (l.take (i + 1)) = qeN (l.take i) + if b.toNat ∈ qeC then 1 else 0 := by
  rw [List.take_add_one, h, qeN_app]
  rfl
theorem qeN_counts : ∀ l : List UInt8, qeN l = l.count 92 + l.count 34 + l.count 9 + l.count 10
  | [] => rfl
  | b :: r => by
    rw [qeN, qeN_counts r]
    rw [List.count_cons, List.count_cons, List.count_cons, List.count_cons]
    have h : ∀ b : UInt8, (if b.toNat ∈ qeC then 1 else 0) = (if (b == 92) = true then 1 else 0) + (if (b == 34) = true then 1 else 0) + (if (b == 9) = true then 1 else 0) + (if (b == 10) = true then (1 : Nat) else 0) := by
      intro b
      have hb : b.toNat ∈ qeC ↔ (b = 92 ∨ b = 34 ∨ b = 9 ∨ b = 10) := by
        have e : ∀ n : UInt8, b = n ↔ b.toNat = n.toNat := fun n => UInt8.toNat_inj.symm
        rw [e, e, e, e]
        simp [qeC]
      by_cases h1 : b = 92
      · subst h1; decide
      by_cases h2 : b = 34
      · subst h2; decide
      by_cases h3 : b = 9
      · subst h3; decide
      by_cases h4 : b = 10
      · subst h4; decide
      rw [if_neg (by rw [hb]; simp [h1, h2, h3, h4])]
      simp [h1, h2, h3, h4]
    rw [h b]
    omega
theorem qeL_id : ∀ {l : List UInt8}, qeN l = 0 → qeL l = l
  | [], _ => rfl
  | b :: r, h => by
    rw [qeN] at h
    have hb : ¬ b.toNat ∈ qeC := fun hb => by rw [if_pos hb] at h; omega
    have hr := qeL_id (l := r) (by omega)
    unfold qeL at hr ⊢
    rw [List.flatMap_cons, hr]
    unfold qeB
    rw [if_neg hb]
    rfl
theorem qeN_take_le (l : List UInt8) (i : Nat) : qeN (l.take i) ≤ qeN l := by
  have h := qeN_app (l.take i) (l.drop i)
  rw [List.take_append_drop] at h
  omega
theorem qeN_le : ∀ l : List UInt8, qeN l ≤ l.length
  | [] => Nat.le_refl _
  | b :: r => by
    have := qeN_le r
    rw [qeN, List.length_cons]
    split <;> omega
def cntS (l : List UInt8) (k : Nat) : Nat := ((qeC.take k).map fun c => l.count (UInt8.ofNat c)).sum
theorem cntS_four (l : List UInt8) : cntS l 4 = qeN l := by
  rw [qeN_counts]
  simp [cntS, qeC]
  omega
theorem cntS_succ {l : List UInt8} {k c : Nat} (h : qeC[k]? = some c) : cntS l (k + 1) = cntS l k + l.count (UInt8.ofNat c) := by
  unfold cntS
  rw [List.take_add_one, h]
  simp
theorem cntS_le (l : List UInt8) (k : Nat) : cntS l k ≤ 4 * l.length := by
  have h : ∀ cs : List Nat, (cs.map fun c => l.count (UInt8.ofNat c)).sum ≤ cs.length * l.length := by
    intro cs
    induction cs with
    | nil => simp
    | cons c r ih =>
      simp only [List.map_cons, List.sum_cons, List.length_cons, Nat.add_mul]
      have := List.count_le_length (a := UInt8.ofNat c) (l := l)
      omega
  have h2 := h (qeC.take k)
  have h3 : (qeC.take k).length ≤ 4 := by simp [qeC]; omega
  unfold cntS
  exact Nat.le_trans h2 (Nat.mul_le_mul_right _ h3)
theorem qeB_no {b : UInt8} (h : ¬ b.toNat ∈ qeC) : qeB b = [b] := by unfold qeB; rw [if_neg h]
end Go.Proofs.YthefajkihnlgfaaGreatDoor

/- Plain aids: bytes of texts, a string as it is written. -/
namespace Go.Proofs.YthefajkihnlgfaaGreatDoor
open Go.RowKit
/-- The world under a name. -/
theorem with_world {c : Code} {Q : Exit → Act → World → Prop} {a : Act} {w : World} (h : ∀ W : World, W = w → c.wp Tryz.prog Q a W) : c.wp Tryz.prog Q a w := h w rfl
def strU (s : ByteArray) : List UInt8 := s.data.toList
theorem ba_ext {a b : ByteArray} (h : a.data.toList = b.data.toList) : a = b := by
  cases a; cases b
  simp at h
  simp [h]
theorem nw_app (a b : ByteArray) : (a ++ b).data.toList = a.data.toList ++ b.data.toList := by
  rw [ByteArray.data_append, Array.toList_append]
def qB (s : ByteArray) : List UInt8 := 34 :: (qeL (strU s) ++ [34])
theorem qB_len (s : ByteArray) : (qB s).length ≤ 2 * s.size + 2 := by
  have h : (strU s).length = s.size := by unfold strU; exact Array.length_toList
  have h1 := qeL_len (strU s)
  have h2 := qeN_le (strU s)
  unfold qB
  simp only [List.length_cons, List.length_append, List.length_nil]
  omega
end Go.Proofs.YthefajkihnlgfaaGreatDoor

