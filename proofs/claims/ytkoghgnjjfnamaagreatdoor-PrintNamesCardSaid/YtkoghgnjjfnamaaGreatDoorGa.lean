/- Ga: what is used of them. -/
import Derived.Test.YtkoghgnjjfnamaaGreatDoorRows
import Derived.WalkKit
import Derived.WalkSpells
import Derived.WalkLawsBesides
import Derived.BigQuiet
import Derived.Deep.QuietTactic
import Derived.Lib.Hide
import Derived.WalkSmall
import Derived.Lib.Strings
import Derived.Maps.AppendAt
import Derived.Laws.AppendOwnNone
import Derived.Laws.BitsAllLaws
import Derived.Shelf.Abstract
import Derived.Lib.Walk
import Derived.Deep.RegionLaw
import Derived.StillTailTactics
import Derived.Deep.DeepCutAuto
import Derived.Deep.RegionHeld3
namespace Go.Proofs.YtkoghgnjjfnamaaGreatDoor
set_option maxRecDepth 100000
set_option maxHeartbeats 1000000
open Go.RowKit
theorem cell_keeps {w w' : World} (h : Below w.heap.size w w') {p : Addr} {v : Value} (hc : w.cell? p = some v) : w'.cell? p = some v :=
 (h.cell (World.block_lt_of_cell? w p hc)).trans hc
theorem get_lt {α : Type} (l : List α) {k : Nat} (h : k < l.length) : ∃ x, l[k]? = some x := ⟨l[k], List.getElem?_eq_getElem h⟩
theorem below_drewN' (w : World) (n : Nat) : Below w.heap.size w (w.drewN n) := below_drewN (Below.refl _ _) n
def lenOf : Value → Nat | .slice _ l _ => l | _ => 0
theorem ret_bool {a b : Bool} (h : a = b) : Ending.returned (.bool a) = .returned (.bool b) := by rw [h]
theorem ret_int {k : IntKind} {a b : Int} (h : a = b) : Ending.returned (.int k a) = .returned (.int k b) := by rw [h]
theorem ret_str {a b : ByteArray} (h : a = b) : Ending.returned (.string a) = .returned (.string b) := by rw [h]
theorem toList_inj {a b : ByteArray} (h : a.toList = b.toList) : a = b := by
 rw [Lib.toList_data, Lib.toList_data] at h; cases a; cases b; simp at h; simp [h]
theorem eqs_true {a b : ByteArray} : ((a.toList == b.toList) = true) ↔ a = b := by
 rw [beq_iff_eq]; exact ⟨toList_inj, fun h => by rw [h]⟩
theorem eqs_false {a b : ByteArray} : ((a.toList == b.toList) = false) ↔ a ≠ b := by
 rw [← Bool.not_eq_true, eqs_true]
theorem own_below {w w' : World} {base : Nat} {e : TypeId} {size : Nat} {v : Value} {n : Nat} {xs : List Value} (h : w.ownsRow base e size v n xs) (hb : Below w.heap.size w w') : w'.ownsRow base e size v n xs := by
 obtain ⟨h1, h2⟩ := h; refine ⟨h1, ?_⟩; rcases h2 with h2 | ⟨g, cap, cur, hv, hg, hh, r⟩
 · exact Or.inl h2
 · exact Or.inr ⟨g, cap, cur, hv, hg, by rw [hb.block g (Array.getElem?_eq_some_iff.1 hh).1]; exact hh, r⟩
theorem own_mono {w : World} {base base' : Nat} {e : TypeId} {size : Nat} {v : Value} {n : Nat} {xs : List Value} (h : w.ownsRow base e size v n xs) (hb : base' ≤ base) : w.ownsRow base' e size v n xs := by
 obtain ⟨h1, h2⟩ := h; refine ⟨h1, ?_⟩; rcases h2 with h2 | ⟨g, cap, cur, hv, hg, r⟩
 · exact Or.inl h2
 · exact Or.inr ⟨g, cap, cur, hv, Nat.le_trans hb hg, r⟩
theorem own_block_form {w : World} {base n : Nat} {v : Value} {xs : List Value} {e : TypeId} {size : Nat} (h : w.ownsRow base e size v n xs) : (v = .slice none 0 0 ∧ n = 0 ∧ xs = []) ∨ ∃ g cap, v = .slice (some ⟨g, 0, none⟩) n cap := by
 obtain ⟨hl, h⟩ := h; rcases h with ⟨h1, h2⟩ | ⟨g, cap, _, h, _⟩
 · exact Or.inl ⟨h1, h2, by subst h2; simpa using hl⟩
 · exact Or.inr ⟨g, cap, h⟩
theorem own_shape {w : World} {base n : Nat} {v : Value} {xs : List Value} {e : TypeId} {size : Nat} (h : w.ownsRow base e size v n xs) : ∃ a cap, v = .slice a n cap := by
 rcases own_block_form h with ⟨h1, h2, _⟩ | ⟨g, cap, h1⟩
 · exact ⟨none, 0, by rw [h1, h2]⟩
 · exact ⟨_, _, h1⟩
theorem own_cell {w : World} {base n size : Nat} {v : Value} {xs : List Value} {e : TypeId} {a : Option Addr} {m c : Nat} (h : w.ownsRow base e size v n xs) (hv : v = .slice a m c) {j : Nat} {x : Value} (hx : xs[j]? = some x) :
 ∃ g, a = some ⟨g, 0, none⟩ ∧ base ≤ g ∧ m = n ∧ w.cell? ⟨g, j, none⟩ = some x := by
 obtain ⟨hl, h⟩ := h; rcases h with ⟨h1, h2⟩ | ⟨g, cap, cur, h1, hb, hh, hle, hm, hsz, htk⟩
 · subst h2
   have := (List.getElem?_eq_some_iff.1 hx).1; omega
 · rw [h1] at hv
   simp only [Value.slice.injEq] at hv; obtain ⟨rfl, rfl, rfl⟩ := hv; refine ⟨g, rfl, hb, rfl, ?_⟩; rw [cell_of_row w g j cur e (0, 0) hh]; rw [← htk, List.getElem?_take] at hx; split at hx
   · simpa using hx
   · cases hx
theorem block_grown {w w' : World} {row : Option Nat} {g : Nat} {o : Obj} (h : w.heap[g]? = some o) (hg : w.grownBy w' row) (hne : some g ≠ row) : w'.heap[g]? = some o := by
 rw [hg.block g (Array.getElem?_eq_some_iff.1 h).1 hne]; exact h
theorem block_below {w w' : World} {g : Nat} {o : Obj} (h : w.heap[g]? = some o) (hb : Below w.heap.size w w') : w'.heap[g]? = some o := by
 rw [hb.block g (Array.getElem?_eq_some_iff.1 h).1]; exact h
theorem block_alloc {w : World} {g : Nat} {o : Obj} (h : w.heap[g]? = some o) (x : Obj) : (w.alloc x).heap[g]? = some o := by
 rw [Below.heap_alloc _ _ _ (Array.getElem?_eq_some_iff.1 h).1]; exact h
theorem block_new (w : World) (x : Obj) {g : Nat} (hg : g = w.heap.size) : (w.alloc x).heap[g]? = some x := by subst hg; exact heap_alloc_new w _
theorem block_setCell {w : World} {g : Nat} {o : Obj} (h : w.heap[g]? = some o) {a : Addr} (hne : g ≠ a.block) (v : Value) : (w.setCell a v).heap[g]? = some o := by
 rw [Below.heap_setCell _ _ _ _ hne]; exact h
theorem block_cell {w : World} {g i : Nat} {c : Array Value} {e : TypeId} {fz : Nat × Nat} {v : Value} (h : w.heap[g]? = some (.cells c e fz)) (hi : c[i]? = some v) : w.cell? ⟨g, i, none⟩ = some v := by
 simp [World.cell?, h, hi]
theorem block_free {w : World} {g i : Nat} {c : Array Value} {e : TypeId} (h : w.heap[g]? = some (.cells c e (0, 0))) : w.frozen? ⟨g, i, none⟩ = false := by
 simp [World.frozen?, h]
theorem block_set {w : World} {g i : Nat} {c : Array Value} {e : TypeId} {fz : Nat × Nat} (h : w.heap[g]? = some (.cells c e fz)) (v : Value) : (w.setCell ⟨g, i, none⟩ v).heap[g]? = some (.cells (c.setIfInBounds i v) e fz) := by
 simp [World.setCell, Array.getElem?_modify, h]
theorem block_lt {w : World} {g : Nat} {o : Obj} (h : w.heap[g]? = some o) : g < w.heap.size := (Array.getElem?_eq_some_iff.1 h).1
theorem quiet_al {f : FuncId} {args : Array Value} {w : World} {a n : Nat} {v : Value}
 (h : Calls Tryz.prog f args (w.drewN (a + n)) fun e w' => e = .returned v ∧ w.drewN (a + n) = w') :
 Calls Tryz.prog f args (w.drewN (a + n)) fun e w'' => e = .returned v ∧ ∃ m, w'' = w.drewN (a + m) :=
 h.mono fun _ _ ⟨he, hm⟩ => ⟨he, n, hm.symm⟩
open Go.RowKit Go.Shelf
def letterB (c : UInt8) : Bool := (97 ≤ c && c ≤ 122) || (65 ≤ c && c ≤ 90) || c == 95
def digitB (c : UInt8) : Bool := 48 ≤ c && c ≤ 57
def notNl (c : UInt8) : Bool := c != 10
def moreB (c : UInt8) : Bool := letterB c || digitB c || c == 39 || c == 45
theorem all256 {p : UInt8 → Bool} (h : ∀ n : Fin 256, p (UInt8.ofNat n.val) = true) (c : UInt8) : p c = true := by
 have := h ⟨c.toNat, c.toNat_lt⟩; simpa using this
def letterN (n : Nat) : Bool := (decide (97 ≤ n ||| 32) && decide (n ||| 32 ≤ 122)) || n == 95
theorem letter_spec (c : UInt8) : letterB c = letterN c.toNat := by
 have := all256 (p := fun c => letterB c == letterN c.toNat) (by decide +kernel) c; simpa using this
def digitN (n : Nat) : Bool := decide (48 ≤ n) && decide (n ≤ 57)
theorem digit_spec (c : UInt8) : digitB c = digitN c.toNat := by
 have := all256 (p := fun c => digitB c == digitN c.toNat) (by decide +kernel) c; simpa using this
theorem eq_spec (c d : UInt8) : (c == d) = ((c.toNat : Int) == (d.toNat : Int)) := by
 rw [Bool.eq_iff_iff, beq_iff_eq, beq_iff_eq]; constructor
 · intro h; rw [h]
 · intro h; exact UInt8.toNat_inj.1 (by omega)
theorem letter_any (c : UInt8) (w : World) : Calls Tryz.prog 27 #[.int .u8 c.toNat] w fun e w' => e = .returned (.bool (letterB c)) ∧ w = w' := by
 have hor : bits .or .u8 (c.toNat : Int) 32 = ((c.toNat ||| 32 : Nat) : Int) := u8_or_nat c.toNat 32 c.toNat_lt (by omega); have HS := Lib.hid (letter_spec c); generalize hm : c.toNat ||| 32 = m at hor
 have HM := Lib.hid hm; clear hm; generalize letterB c = r at *; go_enter Tryz.func27, Tryz.ntmps27
 go_wp2_with fail
 all_goals
  go_ret; refine ⟨ret_bool ?_, rfl⟩; rw [HS.out]; unfold letterN; rw [HM.out]; clear hor HS HM; rw [Bool.eq_iff_iff]; simp
  omega
theorem digit_any (c : UInt8) (w : World) : Calls Tryz.prog 29 #[.int .u8 c.toNat] w fun e w' => e = .returned (.bool (digitB c)) ∧ w = w' := by
 have HS := Lib.hid (digit_spec c); generalize digitB c = r at *; go_enter Tryz.func29, Tryz.ntmps29
 go_wp2_with fail
 all_goals
  go_ret; refine ⟨ret_bool ?_, rfl⟩; rw [HS.out]; unfold digitN; clear HS; rw [Bool.eq_iff_iff]; simp
  omega
theorem notNl_any (c : UInt8) (w : World) : Calls Tryz.prog 26 #[.int .u8 c.toNat] w fun e w' => e = .returned (.bool (notNl c)) ∧ w = w' := by
 have HS := Lib.hid (show notNl c = !(c == 10) from rfl); rw [eq_spec] at HS; generalize notNl c = r at *; go_enter Tryz.func26, Tryz.ntmps26
 go_wp2_with fail; go_ret; refine ⟨ret_bool ?_, rfl⟩; rw [HS.out]; clear HS; rfl
theorem more_any (c : UInt8) (w : World) : Calls Tryz.prog 28 #[.int .u8 c.toNat] w fun e w' => e = .returned (.bool (moreB c)) ∧ w = w' := by
 have HS := Lib.hid (show moreB c = (letterB c || digitB c || c == 39 || c == 45) from rfl); rw [eq_spec, eq_spec] at HS; have hl := letter_any c w; have hd := digit_any c w; generalize letterB c = bl at *; generalize digitB c = bd at *; generalize moreB c = r at *; have HL := Lib.hid hl; have HD := Lib.hid hd; clear hl hd; cases bl
 · cases bd
   · go_enter Tryz.func28, Tryz.ntmps28
     go_wp2_with fail; refine HL.out.mono ?_; rintro e w1 ⟨rfl, rfl⟩
     go_wp2_with fail; refine HD.out.mono ?_; rintro e w1 ⟨rfl, rfl⟩
     go_wp2_with fail
     all_goals
      go_ret; refine ⟨ret_bool ?_, rfl⟩; rw [HS.out]
      first | (simp; done) | (simp; omega)
   · go_enter Tryz.func28, Tryz.ntmps28
     go_wp2_with fail; refine HL.out.mono ?_; rintro e w1 ⟨rfl, rfl⟩
     go_wp2_with fail; refine HD.out.mono ?_; rintro e w1 ⟨rfl, rfl⟩
     go_wp2_with fail
     all_goals
      go_ret; refine ⟨ret_bool ?_, rfl⟩; rw [HS.out]
      first | (simp; done) | (simp; omega)
 · go_enter Tryz.func28, Tryz.ntmps28
   go_wp2_with fail; refine HL.out.mono ?_; rintro e w1 ⟨rfl, rfl⟩
   go_wp2_with fail
   all_goals
    go_ret; refine ⟨ret_bool ?_, rfl⟩; rw [HS.out]
    first | (simp; done) | (simp; omega)
def RD (w : World) (g : Nat) (s : ByteArray) (at' : Nat) (out : Value) : Prop := w.heap[g]? = some (.cells #[.string s, .int .i64 at', out] 76 (0, 0))
section
variable {w w' : World} {g at' : Nat} {s : ByteArray} {out : Value}
theorem RD.c0 (h : RD w g s at' out) : w.cell? ⟨g, 0, none⟩ = some (.string s) := block_cell h rfl
theorem RD.c1 (h : RD w g s at' out) : w.cell? ⟨g, 1, none⟩ = some (.int .i64 at') := block_cell h rfl
theorem RD.c2 (h : RD w g s at' out) : w.cell? ⟨g, 2, none⟩ = some out := block_cell h rfl
theorem RD.free (h : RD w g s at' out) (i : Nat) : w.frozen? ⟨g, i, none⟩ = false := block_free h
theorem RD.lt (h : RD w g s at' out) : g < w.heap.size := block_lt h
theorem RD.below (h : RD w g s at' out) (hb : Below w.heap.size w w') : RD w' g s at' out := block_below h hb
theorem RD.drewN (h : RD w g s at' out) (n : Nat) : RD (w.drewN n) g s at' out := h
theorem RD.set1 (h : RD w g s at' out) (k : Nat) : RD (w.setCell ⟨g, 1, none⟩ (.int .i64 k)) g s k out := block_set h _
theorem RD.set2 (h : RD w g s at' out) (v : Value) : RD (w.setCell ⟨g, 2, none⟩ v) g s at' v := block_set h _
end
def runTo (p : UInt8 → Bool) (s : ByteArray) (n : Nat) : Nat := n + ((s.data.toList.drop n).takeWhile p).length
def RunTo (p : UInt8 → Bool) (s : ByteArray) (n k : Nat) : Prop := ∀ (j : Nat) (c : UInt8), n ≤ j → j < k → s.data.toList[j]? = some c → p c = true
theorem takeWhile_len {p : UInt8 → Bool} : ∀ (l : List UInt8) (m : Nat), m ≤ l.length → (∀ (j : Nat) (c : UInt8), j < m → l[j]? = some c → p c = true) → (m = l.length ∨ ∃ c, l[m]? = some c ∧ p c = false) → (l.takeWhile p).length = m
 | [], m, hm, _, _ => by simp at hm; simp [hm]
 | x :: r, 0, _, _, hend => by
   rcases hend with h | ⟨c, h, hc⟩
   · simp at h
   · simp at h; subst h; simp [hc]
 | x :: r, m + 1, hm, hall, hend => by
   have hx := hall 0 x (by omega) rfl; simp only [List.takeWhile_cons, hx, if_true, List.length_cons]; rw [takeWhile_len r m (by simpa using hm) (fun j c hj hc => hall (j + 1) c (by omega) hc) (by simpa using hend)]
theorem runTo_eq {p : UInt8 → Bool} {s : ByteArray} {n k : Nat} (hn : n ≤ k) (hk : k ≤ s.size) (h : RunTo p s n k) (hend : k = s.size ∨ ∃ c, s.data.toList[k]? = some c ∧ p c = false) : runTo p s n = k := by
 unfold runTo; have hl : s.data.toList.length = s.size := Array.length_toList; rw [takeWhile_len _ (k - n) (by simp only [List.length_drop]; omega) (fun j c hj hc => h (n + j) c (by omega) (by omega) (by rw [List.getElem?_drop] at hc; exact hc)) ?_]
 · omega
 · rcases hend with h | ⟨c, h, hc⟩
   · left; simp only [List.length_drop]; omega
   · right; exact ⟨c, by rw [List.getElem?_drop, show n + (k - n) = k by omega]; exact h, hc⟩
theorem runTo_ge (p : UInt8 → Bool) (s : ByteArray) (n : Nat) : n ≤ runTo p s n := Nat.le_add_right _ _
theorem runTo_le (p : UInt8 → Bool) (s : ByteArray) {n : Nat} (h : n ≤ s.size) : runTo p s n ≤ s.size := by
 unfold runTo; have h1 := (List.takeWhile_sublist (l := s.data.toList.drop n) p).length_le; have hl : s.data.toList.length = s.size := Array.length_toList; rw [List.length_drop, hl] at h1; omega
theorem byte_at {s : ByteArray} {k : Nat} (h : k < s.size) : s.data.toList[k]? = some s[k] := by
 have hl : s.data.toList.length = s.size := Array.length_toList; rw [List.getElem?_eq_getElem (by omega)]; rfl
theorem run_any {gf : Nat} {p : UInt8 → Bool} {g at' n : Nat} {s : ByteArray} {out : Value} {w : World} (eg : Enters Tryz.prog gf) (hr : RD w g s at' out) (hs : s.size ≤ 4096) (hn : n ≤ s.size)
 (hp : ∀ (c : UInt8) (W : World), Calls Tryz.prog gf #[.int .u8 c.toNat] W fun e w' => e = .returned (.bool (p c)) ∧ W = w') :
 Calls Tryz.prog 25 #[.pointer (some ⟨g, 0, none⟩), .int .i64 n, .func (.func gf) #[] #[]] w fun e w' => e = .returned (.int .i64 (runTo p s n)) ∧ w = w' := by
 have HP := Lib.hid hp; have c0 := hr.c0; have eg' : ∀ (args : Array Value) (w : World), (callFunc gf args).run Tryz.prog w = .ok (.enter gf args) w := eg; clear hp hr; go_enter Tryz.func25, Tryz.ntmps25
 go_wp2_with fail; go_loop [7] (fun i => ∃ k : Nat, n ≤ k ∧ k ≤ s.size ∧ i = .int .i64 k ∧ RunTo p s n k) (fun i => s.size - (intOf i).toNat)
 case atStart => exact ⟨n, Nat.le_refl _, hn, rfl, fun j c h1 h2 => by omega⟩
 case round =>
  obtain ⟨k, hk1, hk2, rfl, hto⟩ := hrel; by_cases hlt : k < s.size
  · have hb := Lib.hid (byte_at hlt)
    cases hpk : p s[k]
    · have HPK := Lib.hid hpk
      clear hpk
      go_wp2_with (go_at_fn gf; refine (HP.out _ _).mono ?_; rw [HPK.out]; rintro e w1 ⟨rfl, rfl⟩); go_ret; exact ⟨ret_int (by rw [runTo_eq hk1 hk2 hto (Or.inr ⟨_, hb.out, HPK.out⟩)]), rfl⟩
    · have HPK := Lib.hid hpk
      clear hpk
      go_wp2_with (go_at_fn gf; refine (HP.out _ _).mono ?_; rw [HPK.out]; rintro e w1 ⟨rfl, rfl⟩); go_round
      case rel => exact ⟨k + 1, by omega, by omega, by go_num, fun j c h1 h2 hc => by
       by_cases e : j = k
       · subst e; rw [hb.out] at hc; cases hc; exact HPK.out
       · exact hto j c h1 (by omega) hc⟩
      case measure => simp [intOf]; omega
  · obtain rfl : k = s.size := by omega
    go_wp2_with fail; go_ret; exact ⟨ret_int (by rw [runTo_eq hk1 hk2 hto (Or.inl rfl)]), rfl⟩
structure Tok where
 kind : Int
 text : ByteArray
 num : Int
 bits : Nat
 place : Nat
def Tok.cells (t : Tok) : List Value := [.int .i64 t.kind, .string t.text, .int .i64 t.num, .float .f64 t.bits, .int .i64 t.place]
def flatT (ts : List Tok) : List Value := ts.flatMap Tok.cells
theorem flatT_snoc (ts : List Tok) (t : Tok) : flatT (ts ++ [t]) = flatT ts ++ t.cells := by simp [flatT]
theorem flatT_at {ts : List Tok} {i : Nat} {t : Tok} (h : ts[i]? = some t) (j : Nat) (hj : j < 5) : (flatT ts)[i * 5 + j]? = t.cells[j]? := by
 induction ts generalizing i with
 | nil => simp at h
 | cons x r ih =>
   have hf : flatT (x :: r) = x.cells ++ flatT r := by simp [flatT]
   have hx : x.cells.length = 5 := rfl; rw [hf]; cases i with
   | zero =>
     simp at h; subst h; rw [List.getElem?_append_left (by omega)]; simp
   | succ i =>
     simp at h; rw [List.getElem?_append_right (by omega), hx, show (i + 1) * 5 + j - 5 = i * 5 + j by omega]; exact ih h
theorem infoT : (Tryz.prog.info? 54).map (fun i => (i.zero, i.size, i.bytes)) = some (some (.agg #[.int .i64 0, .string ⟨#[]⟩, .int .i64 0, .float .f64 0, .int .i64 0]), 5, 48) := by kernel_rfl
theorem step_append_tok {w : World} {ops : Array Oper} {o : Oper} {a : Act} {K : Act → World → Prop} {Q : Exit → Act → World → Prop} {E : Prop} (hgd : o.guard = none) (s x : Operand)
 (ho : o.op = .call { callee := .builtin .append, args := #[s, x], argTypes := #[39, 39] })
 (base : Nat) (v : Value) (n : Nat) (xs : List Value) (hs : a.eval s = v) (hown : w.ownsRow base 54 5 v n xs)
 (b c : Nat) (t : Tok) (hx : a.eval x = .slice (some ⟨b, 0, none⟩) 1 c)
 (hb : w.heap[b]? = some (.cells t.cells.toArray 54 (0, 0))) (hn : n + 1 ≤ 1759218604441) (hbase : base ≤ w.heap.size)
 (h : ∀ v' w', w'.ownsRow base 54 5 v' (n + 1) (xs ++ t.cells) → w.grownBy w' v.ownBlock → (v'.ownBlock = v.ownBlock ∨ v'.ownBlock = some w.heap.size) → K (a.put o.dst v') w') :
 if Region.wanted o (yielded ops a.tmps) = true then Oper.wp Tryz.prog o a w K Q else E := by
 have hw : Region.wanted o (yielded ops a.tmps) = true := by simp [Region.wanted, hgd]
 rw [if_pos hw]; obtain ⟨i0, hi, hz0, hz1, hz2⟩ := info_parts infoT; have hadd : ∀ i, (⟨b, 0, none⟩ : Addr).add i = ⟨b, i, none⟩ := fun i => by unfold Addr.add; split <;> simp_all
 obtain ⟨v', w', hr, r2, r3, r4, r5⟩ := run_append_own_at (P := Tryz.prog) w base 39 o.type 54 i0 _ 5 48 Tryz.underlying39 hi hz0 hz1 hz2 rfl (by decide) v n xs hown ⟨b, 0, none⟩ 1 c t.cells rfl
  (fun j u hu => by
   rw [hadd]; exact block_cell hb (by simpa using hu))
  (fun u hu => by
   simp [Tok.cells] at hu
   rcases hu with rfl | rfl | rfl | rfl | rfl <;> rfl) (by unfold maxLen; omega) (by omega) hbase
 unfold Oper.wp execOp; simp only [ho, resolve, invoke, builtin, Sem.run_bind, Sem.run_pure, Result.andThen_ok, List.map_toArray, List.map_cons, List.map_nil, hs, hx, hr]; exact h v' w' r2 r3 r5
theorem RD.below' {w w' : World} {g at' B : Nat} {s : ByteArray} {out : Value} (h : RD w g s at' out) (hb : Below B w w') (hg : g < B) : RD w' g s at' out := by
 unfold RD; rw [hb.block g hg]; exact h
theorem put_any {g at' : Nat} {s : ByteArray} {out : Value} {ts : List Tok} {w : World} (z : Nat) (t : Tok) (p : Int) (hr : RD w g s at' out) (hown : w.ownsRow (g + 1) 54 5 out ts.length (flatT ts)) (hn : ts.length ≤ 100000) (hp : t.place = at') :
 Calls Tryz.prog 30 #[.pointer (some ⟨g, 0, none⟩), .int .i64 z, .agg #[.int .i64 t.kind, .string t.text, .int .i64 t.num, .float .f64 t.bits, .int .i64 p]] w fun e w' =>
  e = .returned (.tuple #[]) ∧ ∃ out', RD w' g s z out' ∧ w'.ownsRow (g + 1) 54 5 out' (ts ++ [t]).length (flatT (ts ++ [t])) ∧ Below g w w' := by
 have c1 := hr.c1; have c2 := hr.c2; have hlt := hr.lt; subst hp; go_enter Tryz.func30, Tryz.ntmps30; go_upto_region 2 with fail
 have hB := block_new w (Obj.cells #[Value.int IntKind.i64 t.kind, Value.string t.text, Value.int IntKind.i64 t.num, Value.float FloatKind.f64 t.bits, Value.int IntKind.i64 t.place] 54) rfl; have hb1 : Below w.heap.size w (w.alloc (Obj.cells #[Value.int IntKind.i64 t.kind, Value.string t.text, Value.int IntKind.i64 t.num, Value.float FloatKind.f64 t.bits, Value.int IntKind.i64 t.place] 54)) := (Below.refl _ _).alloc (Nat.le_refl _) _; have hr1 := hr.below hb1; have hown1 := own_below hown hb1; have hz1 : w.heap.size < (w.alloc (Obj.cells #[Value.int IntKind.i64 t.kind, Value.string t.text, Value.int IntKind.i64 t.num, Value.float FloatKind.f64 t.bits, Value.int IntKind.i64 t.place] 54)).heap.size := by simp
 generalize (w.alloc (Obj.cells #[Value.int IntKind.i64 t.kind, Value.string t.text, Value.int IntKind.i64 t.num, Value.float FloatKind.f64 t.bits, Value.int IntKind.i64 t.place] 54)) = w1 at *; obtain ⟨oa, oc, rfl⟩ := own_shape hown; have hlo := hown.lt; have hne1 : some g ≠ (Value.slice oa ts.length oc).ownBlock := fun e => by have := (hlo g e.symm).1; omega
 have hne2 : some w.heap.size ≠ (Value.slice oa ts.length oc).ownBlock := fun e => by have := (hlo _ e.symm).2; omega
 have d2 := hr1.c2; have b0 := block_cell (i := 0) hB rfl; have b1 := block_cell (i := 1) hB rfl; have b2 := block_cell (i := 2) hB rfl; have b3 := block_cell (i := 3) hB rfl; have b4 := block_cell (i := 4) hB rfl; have HO := Lib.hid hown1; clear c1 c2 hr hown hB hown1; have dA := cell_keeps (w' := w1.alloc (Obj.cells #[Value.int IntKind.i64 t.kind, Value.string t.text, Value.int IntKind.i64 t.num, Value.float FloatKind.f64 t.bits, Value.int IntKind.i64 t.place] 54)) (by (repeat' first | (with_reducible first | exact Below.refl _ _ | assumption | refine below_drewN ?_ _ | refine Below.drew ?_ | refine Below.alloc ?_ ?_ _ | refine Below.setCell ?_ ?_ _) | omega | (simp; done) | (simp; omega))) d2; have hfree := block_free (i := 2) (show w1.heap[g]? = some _ from hr1); go_region_law (
  refine step_append_tok rfl _ _ (by rfl) (g + 1) (.slice oa ts.length oc) ts.length (flatT ts) (by rfl) (own_below HO.out (by (repeat' first | (with_reducible first | exact Below.refl _ _ | assumption | refine below_drewN ?_ _ | refine Below.drew ?_ | refine Below.alloc ?_ ?_ _ | refine Below.setCell ?_ ?_ _) | omega | (simp; done) | (simp; omega)))) _ _ t (by rfl) (block_new _ _ (by rfl)) (by omega) (by simp; omega) ?_; intro v' w' hown' hg' hl'; have hr' := block_grown (block_below (show w1.heap[g]? = some _ from hr1) (by (repeat' first | (with_reducible first | exact Below.refl _ _ | assumption | refine below_drewN ?_ _ | refine Below.drew ?_ | refine Below.alloc ?_ ?_ _ | refine Below.setCell ?_ ?_ _) | omega | (simp; done) | (simp; omega)))) hg' hne1; have f2' := block_free (i := 2) hr'; have e2' := block_cell (i := 2) hr' rfl; obtain ⟨va, vc, rfl⟩ := own_shape hown')
 all_goals
  have hrd := (show RD w' g s t.place (.slice oa ts.length oc) from hr').set2 (.slice va (ts.length + 1) vc); have hown2 := ownsRow_setCell_below hown' (a := ⟨g, 2, none⟩) (Nat.lt_succ_self g) (.slice va (ts.length + 1) vc); have hbg : Below g w (w'.setCell ⟨g, 2, none⟩ (.slice va (ts.length + 1) vc)) := (Below.grown (((hb1.mono (Nat.le_of_lt hlt)).alloc (by omega) _).drew) hg' (by simp; omega) (fun j hj => by have := (hlo j hj).1; omega)).setCell (Nat.le_refl _) _; generalize w'.setCell ⟨g, 2, none⟩ (.slice va (ts.length + 1) vc) = w2 at *; have q1 := hrd.c1; have q2 := hrd.free 1; clear hr' f2' e2' hown' hg' hl' dA hfree b0 b1 b2 b3 b4 d2 hr1
  go_wp2_with fail; go_end0; exact ⟨rfl, _, hrd.set1 z, by rw [flatT_snoc, List.length_append]; exact ownsRow_setCell_below hown2 (a := ⟨g, 1, none⟩) (Nat.lt_succ_self g) _, hbg.setCell (Nat.le_refl _) _⟩
def FT (w : World) (v : Value) (place e : Int) : Prop := ∃ f, v = .pointer (some ⟨f, 0, none⟩) ∧ w.heap[f]? = some (.cells #[.int .i64 place, .int .i64 e] 44 (0, 0))
theorem FT.below {w w' : World} {v : Value} {place e : Int} (h : FT w v place e) (hb : Below w.heap.size w w') : FT w' v place e := by
 obtain ⟨f, h1, h2⟩ := h; exact ⟨f, h1, block_below h2 hb⟩
theorem fault_any (place e : Int) (w : World) : Calls Tryz.prog 24 #[.int .i64 place, .int .i64 e] w fun en w' => ∃ v, en = .returned v ∧ FT w' v place e ∧ Below w.heap.size w w' := by
 go_enter Tryz.func24, Tryz.ntmps24
 go_wp2_with fail; go_ret; exact ⟨_, rfl, ⟨_, rfl, block_new _ _ rfl⟩, (Below.refl _ _).alloc (Nat.le_refl _) _⟩
end Go.Proofs.YtkoghgnjjfnamaaGreatDoor
