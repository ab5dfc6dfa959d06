/- The lexer's questions on one byte, and how far bytes of one kind go. -/
import Derived.Test.YtnhdedoobagbbaaGreatDoorMem
import Derived.Laws.BitsAllLaws
import Derived.Shelf.Abstract
import Derived.Lib.Walk
namespace Go.Proofs.YtnhdedoobagbbaaGreatDoor
open Go.RowKit Go.Shelf

def letterB (c : UInt8) : Bool := (97 ≤ c && c ≤ 122) || (65 ≤ c && c ≤ 90) || c == 95
def digitB (c : UInt8) : Bool := 48 ≤ c && c ≤ 57
def notNl (c : UInt8) : Bool := c != 10
def moreB (c : UInt8) : Bool := letterB c || digitB c || c == 39 || c == 45

theorem all256 {p : UInt8 → Bool} (h : ∀ n : Fin 256, p (UInt8.ofNat n.val) = true) (c : UInt8) : p c = true := by
  have := h ⟨c.toNat, c.toNat_lt⟩
  simpa using this
def letterN (n : Nat) : Bool := (decide (97 ≤ n ||| 32) && decide (n ||| 32 ≤ 122)) || n == 95
theorem letter_spec (c : UInt8) : letterB c = letterN c.toNat := by
  have := all256 (p := fun c => letterB c == letterN c.toNat) (by decide +kernel) c
  simpa using this
def digitN (n : Nat) : Bool := decide (48 ≤ n) && decide (n ≤ 57)
theorem digit_spec (c : UInt8) : digitB c = digitN c.toNat := by
  have := all256 (p := fun c => digitB c == digitN c.toNat) (by decide +kernel) c
  simpa using this
theorem eq_spec (c d : UInt8) : (c == d) = ((c.toNat : Int) == (d.toNat : Int)) := by
  rw [Bool.eq_iff_iff, beq_iff_eq, beq_iff_eq]
  constructor
  · intro h; rw [h]
  · intro h; exact UInt8.toNat_inj.1 (by omega)

set_option maxRecDepth 100000 in
theorem letter_any (c : UInt8) (w : World) : Calls Tryz.prog 14 #[.int .u8 c.toNat] w fun e w' => e = .returned (.bool (letterB c)) ∧ w = w' := by
  have hor : bits .or .u8 (c.toNat : Int) 32 = ((c.toNat ||| 32 : Nat) : Int) := u8_or_nat c.toNat 32 c.toNat_lt (by omega)
  have HS := Lib.hid (letter_spec c)
  generalize hm : c.toNat ||| 32 = m at hor
  have HM := Lib.hid hm
  clear hm
  generalize letterB c = r at *
  go_enter Tryz.func14, Tryz.ntmps14
  go_wp2_with fail
  all_goals
    go_ret
    refine ⟨ret_bool ?_, rfl⟩
    rw [HS.out]
    unfold letterN
    rw [HM.out]
    clear hor HS HM
    rw [Bool.eq_iff_iff]
    simp
    omega
set_option maxRecDepth 100000 in
theorem digit_any (c : UInt8) (w : World) : Calls Tryz.prog 16 #[.int .u8 c.toNat] w fun e w' => e = .returned (.bool (digitB c)) ∧ w = w' := by
  have HS := Lib.hid (digit_spec c)
  generalize digitB c = r at *
  go_enter Tryz.func16, Tryz.ntmps16
  go_wp2_with fail
  all_goals
    go_ret
    refine ⟨ret_bool ?_, rfl⟩
    rw [HS.out]
    unfold digitN
    clear HS
    rw [Bool.eq_iff_iff]
    simp
    omega
set_option maxRecDepth 100000 in
theorem notNl_any (c : UInt8) (w : World) : Calls Tryz.prog 13 #[.int .u8 c.toNat] w fun e w' => e = .returned (.bool (notNl c)) ∧ w = w' := by
  have HS := Lib.hid (show notNl c = !(c == 10) from rfl)
  rw [eq_spec] at HS
  generalize notNl c = r at *
  go_enter Tryz.func13, Tryz.ntmps13
  go_wp2_with fail
  go_ret
  refine ⟨ret_bool ?_, rfl⟩
  rw [HS.out]
  clear HS
  rfl
set_option maxRecDepth 100000 in
theorem more_any (c : UInt8) (w : World) : Calls Tryz.prog 15 #[.int .u8 c.toNat] w fun e w' => e = .returned (.bool (moreB c)) ∧ w = w' := by
  have HS := Lib.hid (show moreB c = (letterB c || digitB c || c == 39 || c == 45) from rfl)
  rw [eq_spec, eq_spec] at HS
  have hl := letter_any c w
  have hd := digit_any c w
  generalize letterB c = bl at *
  generalize digitB c = bd at *
  generalize moreB c = r at *
  have HL := Lib.hid hl
  have HD := Lib.hid hd
  clear hl hd
  cases bl
  · cases bd
    · go_enter Tryz.func15, Tryz.ntmps15
      go_wp2_with fail
      refine HL.out.mono ?_
      rintro e w1 ⟨rfl, rfl⟩
      go_wp2_with fail
      refine HD.out.mono ?_
      rintro e w1 ⟨rfl, rfl⟩
      go_wp2_with fail
      all_goals
        go_ret
        refine ⟨ret_bool ?_, rfl⟩
        rw [HS.out]
        first | (simp; done) | (simp; omega)
    · go_enter Tryz.func15, Tryz.ntmps15
      go_wp2_with fail
      refine HL.out.mono ?_
      rintro e w1 ⟨rfl, rfl⟩
      go_wp2_with fail
      refine HD.out.mono ?_
      rintro e w1 ⟨rfl, rfl⟩
      go_wp2_with fail
      all_goals
        go_ret
        refine ⟨ret_bool ?_, rfl⟩
        rw [HS.out]
        first | (simp; done) | (simp; omega)
  · go_enter Tryz.func15, Tryz.ntmps15
    go_wp2_with fail
    refine HL.out.mono ?_
    rintro e w1 ⟨rfl, rfl⟩
    go_wp2_with fail
    all_goals
      go_ret
      refine ⟨ret_bool ?_, rfl⟩
      rw [HS.out]
      first | (simp; done) | (simp; omega)

/-! The reader of a text. -/
/-- The reader's three cells. -/
def RD (w : World) (g : Nat) (s : ByteArray) (at' : Nat) (out : Value) : Prop := w.heap[g]? = some (.cells #[.string s, .int .i64 at', out] 44 (0, 0))
section
variable {w w' : World} {g at' : Nat} {s : ByteArray} {out : Value}
theorem RD.c0 (h : RD w g s at' out) : w.cell? ⟨g, 0, none⟩ = some (.string s) := block_cell h rfl
theorem RD.c1 (h : RD w g s at' out) : w.cell? ⟨g, 1, none⟩ = some (.int .i64 at') := block_cell h rfl
theorem RD.c2 (h : RD w g s at' out) : w.cell? ⟨g, 2, none⟩ = some out := block_cell h rfl
theorem RD.free (h : RD w g s at' out) (i : Nat) : w.frozen? ⟨g, i, none⟩ = false := block_free h
theorem RD.lt (h : RD w g s at' out) : g < w.heap.size := block_lt h
theorem RD.below (h : RD w g s at' out) (hb : Below w.heap.size w w') : RD w' g s at' out := block_below h hb
theorem RD.drewN (h : RD w g s at' out) (n : Nat) : RD (w.drewN n) g s at' out := h
theorem RD.set1 (h : RD w g s at' out) (k : Nat) : RD (w.setCell ⟨g, 1, none⟩ (.int .i64 k)) g s k out := block_set h _
theorem RD.set2 (h : RD w g s at' out) (v : Value) : RD (w.setCell ⟨g, 2, none⟩ v) g s at' v := block_set h _
end

/-- From a place on: where the bytes of one kind end. -/
def runTo (p : UInt8 → Bool) (s : ByteArray) (n : Nat) : Nat := n + ((s.data.toList.drop n).takeWhile p).length
def RunTo (p : UInt8 → Bool) (s : ByteArray) (n k : Nat) : Prop := ∀ (j : Nat) (c : UInt8), n ≤ j → j < k → s.data.toList[j]? = some c → p c = true
theorem takeWhile_len {p : UInt8 → Bool} : ∀ (l : List UInt8) (m : Nat), m ≤ l.length → (∀ (j : Nat) (c : UInt8), j < m → l[j]? = some c → p c = true) → (m = l.length ∨ ∃ c, l[m]? = some c ∧ p c = false) → (l.takeWhile p).length = m
  | [], m, hm, _, _ => by simp at hm; simp [hm]
  | x :: r, 0, _, _, hend => by
    rcases hend with h | ⟨c, h, hc⟩
    · simp at h
    · simp at h; subst h; simp [hc]
  | x :: r, m + 1, hm, hall, hend => by
    have hx := hall 0 x (by omega) rfl
    simp only [List.takeWhile_cons, hx, if_true, List.length_cons]
    rw [takeWhile_len r m (by simpa using hm) (fun j c hj hc => hall (j + 1) c (by omega) hc) (by simpa using hend)]
theorem runTo_eq {p : UInt8 → Bool} {s : ByteArray} {n k : Nat} (hn : n ≤ k) (hk : k ≤ s.size) (h : RunTo p s n k) (hend : k = s.size ∨ ∃ c, s.data.toList[k]? = some c ∧ p c = false) : runTo p s n = k := by
  unfold runTo
  have hl : s.data.toList.length = s.size := Array.length_toList
  rw [takeWhile_len _ (k - n) (by simp only [List.length_drop]; omega) (fun j c hj hc => h (n + j) c (by omega) (by omega) (by rw [List.getElem?_drop] at hc; exact hc)) ?_]
  · omega
  · rcases hend with h | ⟨c, h, hc⟩
    · left; simp only [List.length_drop]; omega
    · right; exact ⟨c, by rw [List.getElem?_drop, show n + (k - n) = k by omega]; exact h, hc⟩
theorem runTo_ge (p : UInt8 → Bool) (s : ByteArray) (n : Nat) : n ≤ runTo p s n := Nat.le_add_right _ _
theorem runTo_le (p : UInt8 → Bool) (s : ByteArray) {n : Nat} (h : n ≤ s.size) : runTo p s n ≤ s.size := by
  unfold runTo
  have h1 := (List.takeWhile_sublist (l := s.data.toList.drop n) p).length_le
  have hl : s.data.toList.length = s.size := Array.length_toList
  rw [List.length_drop, hl] at h1
  omega
/-- A byte by its place. -/
theorem byte_at {s : ByteArray} {k : Nat} (h : k < s.size) : s.data.toList[k]? = some s[k] := by
  have hl : s.data.toList.length = s.size := Array.length_toList
  rw [List.getElem?_eq_getElem (by omega)]
  rfl

/-- The world has but drawn. -/
def Dr (w w' : World) : Prop := ∃ n, w' = w.drewN n

set_option maxHeartbeats 400000 in
set_option maxRecDepth 100000 in
theorem run_any {gf : Nat} {p : UInt8 → Bool} {g at' n : Nat} {s : ByteArray} {out : Value} {w : World} (eg : Enters Tryz.prog gf) (hr : RD w g s at' out) (hs : s.size ≤ 4096) (hn : n ≤ s.size)
    (hp : ∀ (c : UInt8) (W : World), Calls Tryz.prog gf #[.int .u8 c.toNat] W fun e w' => e = .returned (.bool (p c)) ∧ W = w') :
    Calls Tryz.prog 12 #[.pointer (some ⟨g, 0, none⟩), .int .i64 n, .func (.func gf) #[] #[]] w fun e w' => e = .returned (.int .i64 (runTo p s n)) ∧ w = w' := by
  have HP := Lib.hid hp
  have c0 := hr.c0
  have eg' : ∀ (args : Array Value) (w : World), (callFunc gf args).run Tryz.prog w = .ok (.enter gf args) w := eg
  clear hp hr
  go_enter Tryz.func12, Tryz.ntmps12
  go_wp2_with fail
  go_loop [7] (fun i => ∃ k : Nat, n ≤ k ∧ k ≤ s.size ∧ i = .int .i64 k ∧ RunTo p s n k) (fun i => s.size - (intOf i).toNat)
  case atStart => exact ⟨n, Nat.le_refl _, hn, rfl, fun j c h1 h2 => by omega⟩
  case round =>
    obtain ⟨k, hk1, hk2, rfl, hto⟩ := hrel
    by_cases hlt : k < s.size
    · have hb := Lib.hid (byte_at hlt)
      cases hpk : p s[k]
      · have HPK := Lib.hid hpk
        clear hpk
        go_wp2_with (go_at_fn gf; refine (HP.out _ _).mono ?_; rw [HPK.out]; rintro e w1 ⟨rfl, rfl⟩)
        go_ret
        exact ⟨ret_int (by rw [runTo_eq hk1 hk2 hto (Or.inr ⟨_, hb.out, HPK.out⟩)]), rfl⟩
      · have HPK := Lib.hid hpk
        clear hpk
        go_wp2_with (go_at_fn gf; refine (HP.out _ _).mono ?_; rw [HPK.out]; rintro e w1 ⟨rfl, rfl⟩)
        go_round
        case rel => exact ⟨k + 1, by omega, by omega, by go_num, fun j c h1 h2 hc => by
          by_cases e : j = k
          · subst e; rw [hb.out] at hc; cases hc; exact HPK.out
          · exact hto j c h1 (by omega) hc⟩
        case measure => simp [intOf]; omega
    · obtain rfl : k = s.size := by omega
      go_wp2_with fail
      go_ret
      exact ⟨ret_int (by rw [runTo_eq hk1 hk2 hto (Or.inl rfl)]), rfl⟩
end Go.Proofs.YtnhdedoobagbbaaGreatDoor
