/- Small lemmas on memory that no type of the program comes into: what keeps a cell, a block, a row of the call's own. -/
import Derived.Test.YtbgjhgohffkonaaGreatDoorRows
import Derived.WalkKit
import Derived.WalkSpells
import Derived.WalkLawsBesides
import Derived.BigQuiet
import Derived.Deep.QuietTactic
import Derived.Lib.Hide
import Derived.WalkSmall
import Derived.Lib.Strings
import Derived.Maps.AppendAt
import Derived.Laws.AppendOwnNone
import Derived.Test.YtbgjhgohffkonaaGreatDoorM02
import Derived.Deep.LoopGhost
import Derived.BigFrame
import Derived.IntWalk
import Derived.RegionTactic
import Derived.Deep.CutBlock
import Derived.Deep.DeepCutAuto
import Derived.LoopN
import Derived.Outline
import Derived.Laws.BitsAllLaws
namespace Go.Proofs.YtbgjhgohffkonaaGreatDoor
open Go.RowKit

theorem cell_keeps {w w' : World} (h : Below w.heap.size w w') {p : Addr} {v : Value} (hc : w.cell? p = some v) : w'.cell? p = some v :=
  (h.cell (World.block_lt_of_cell? w p hc)).trans hc
theorem get_lt {α : Type} (l : List α) {k : Nat} (h : k < l.length) : ∃ x, l[k]? = some x := ⟨l[k], List.getElem?_eq_getElem h⟩
theorem below_drewN' (w : World) (n : Nat) : Below w.heap.size w (w.drewN n) := below_drewN (Below.refl _ _) n
/-- A slice value's length. -/
def lenOf : Value → Nat | .slice _ l _ => l | _ => 0
theorem ret_bool {a b : Bool} (h : a = b) : Ending.returned (.bool a) = .returned (.bool b) := by rw [h]
theorem ret_int {k : IntKind} {a b : Int} (h : a = b) : Ending.returned (.int k a) = .returned (.int k b) := by rw [h]
theorem ret_str {a b : ByteArray} (h : a = b) : Ending.returned (.string a) = .returned (.string b) := by rw [h]

theorem toList_inj {a b : ByteArray} (h : a.toList = b.toList) : a = b := by
  rw [Lib.toList_data, Lib.toList_data] at h
  cases a; cases b
  simp at h
  simp [h]
theorem eqs_true {a b : ByteArray} : ((a.toList == b.toList) = true) ↔ a = b := by
  rw [beq_iff_eq]
  exact ⟨toList_inj, fun h => by rw [h]⟩
theorem eqs_false {a b : ByteArray} : ((a.toList == b.toList) = false) ↔ a ≠ b := by
  rw [← Bool.not_eq_true, eqs_true]

theorem own_below {w w' : World} {base : Nat} {e : TypeId} {size : Nat} {v : Value} {n : Nat} {xs : List Value} (h : w.ownsRow base e size v n xs) (hb : Below w.heap.size w w') : w'.ownsRow base e size v n xs := by
  obtain ⟨h1, h2⟩ := h
  refine ⟨h1, ?_⟩
  rcases h2 with h2 | ⟨g, cap, cur, hv, hg, hh, r⟩
  · exact Or.inl h2
  · exact Or.inr ⟨g, cap, cur, hv, hg, by rw [hb.block g (Array.getElem?_eq_some_iff.1 hh).1]; exact hh, r⟩
theorem own_mono {w : World} {base base' : Nat} {e : TypeId} {size : Nat} {v : Value} {n : Nat} {xs : List Value} (h : w.ownsRow base e size v n xs) (hb : base' ≤ base) : w.ownsRow base' e size v n xs := by
  obtain ⟨h1, h2⟩ := h
  refine ⟨h1, ?_⟩
  rcases h2 with h2 | ⟨g, cap, cur, hv, hg, r⟩
  · exact Or.inl h2
  · exact Or.inr ⟨g, cap, cur, hv, Nat.le_trans hb hg, r⟩
theorem own_block_form {w : World} {base n : Nat} {v : Value} {xs : List Value} {e : TypeId} {size : Nat} (h : w.ownsRow base e size v n xs) : (v = .slice none 0 0 ∧ n = 0 ∧ xs = []) ∨ ∃ g cap, v = .slice (some ⟨g, 0, none⟩) n cap := by
  obtain ⟨hl, h⟩ := h
  rcases h with ⟨h1, h2⟩ | ⟨g, cap, _, h, _⟩
  · exact Or.inl ⟨h1, h2, by subst h2; simpa using hl⟩
  · exact Or.inr ⟨g, cap, h⟩
theorem own_shape {w : World} {base n : Nat} {v : Value} {xs : List Value} {e : TypeId} {size : Nat} (h : w.ownsRow base e size v n xs) : ∃ a cap, v = .slice a n cap := by
  rcases own_block_form h with ⟨h1, h2, _⟩ | ⟨g, cap, h1⟩
  · exact ⟨none, 0, by rw [h1, h2]⟩
  · exact ⟨_, _, h1⟩
/-- A cell of an owned row. -/
theorem own_cell {w : World} {base n size : Nat} {v : Value} {xs : List Value} {e : TypeId} {a : Option Addr} {m c : Nat} (h : w.ownsRow base e size v n xs) (hv : v = .slice a m c) {j : Nat} {x : Value} (hx : xs[j]? = some x) :
    ∃ g, a = some ⟨g, 0, none⟩ ∧ base ≤ g ∧ m = n ∧ w.cell? ⟨g, j, none⟩ = some x := by
  obtain ⟨hl, h⟩ := h
  rcases h with ⟨h1, h2⟩ | ⟨g, cap, cur, h1, hb, hh, hle, hm, hsz, htk⟩
  · subst h2
    have := (List.getElem?_eq_some_iff.1 hx).1
    omega
  · rw [h1] at hv
    simp only [Value.slice.injEq] at hv
    obtain ⟨rfl, rfl, rfl⟩ := hv
    refine ⟨g, rfl, hb, rfl, ?_⟩
    rw [cell_of_row w g j cur e (0, 0) hh]
    rw [← htk, List.getElem?_take] at hx
    split at hx
    · simpa using hx
    · cases hx

theorem block_grown {w w' : World} {row : Option Nat} {g : Nat} {o : Obj} (h : w.heap[g]? = some o) (hg : w.grownBy w' row) (hne : some g ≠ row) : w'.heap[g]? = some o := by
  rw [hg.block g (Array.getElem?_eq_some_iff.1 h).1 hne]; exact h
theorem block_below {w w' : World} {g : Nat} {o : Obj} (h : w.heap[g]? = some o) (hb : Below w.heap.size w w') : w'.heap[g]? = some o := by
  rw [hb.block g (Array.getElem?_eq_some_iff.1 h).1]; exact h
theorem block_alloc {w : World} {g : Nat} {o : Obj} (h : w.heap[g]? = some o) (x : Obj) : (w.alloc x).heap[g]? = some o := by
  rw [Below.heap_alloc _ _ _ (Array.getElem?_eq_some_iff.1 h).1]; exact h
theorem block_new (w : World) (x : Obj) {g : Nat} (hg : g = w.heap.size) : (w.alloc x).heap[g]? = some x := by subst hg; exact heap_alloc_new w _
theorem block_setCell {w : World} {g : Nat} {o : Obj} (h : w.heap[g]? = some o) {a : Addr} (hne : g ≠ a.block) (v : Value) : (w.setCell a v).heap[g]? = some o := by
  rw [Below.heap_setCell _ _ _ _ hne]; exact h
theorem block_cell {w : World} {g i : Nat} {c : Array Value} {e : TypeId} {fz : Nat × Nat} {v : Value} (h : w.heap[g]? = some (.cells c e fz)) (hi : c[i]? = some v) : w.cell? ⟨g, i, none⟩ = some v := by
  simp [World.cell?, h, hi]
theorem block_free {w : World} {g i : Nat} {c : Array Value} {e : TypeId} (h : w.heap[g]? = some (.cells c e (0, 0))) : w.frozen? ⟨g, i, none⟩ = false := by
  simp [World.frozen?, h]
theorem block_set {w : World} {g i : Nat} {c : Array Value} {e : TypeId} {fz : Nat × Nat} (h : w.heap[g]? = some (.cells c e fz)) (v : Value) : (w.setCell ⟨g, i, none⟩ v).heap[g]? = some (.cells (c.setIfInBounds i v) e fz) := by
  simp [World.setCell, Array.getElem?_modify, h]
theorem block_lt {w : World} {g : Nat} {o : Obj} (h : w.heap[g]? = some o) : g < w.heap.size := (Array.getElem?_eq_some_iff.1 h).1
theorem take_snoc' {α : Type} {l : List α} {k : Nat} {u : α} (hk : l[k]? = some u) : l.take (k + 1) = l.take k ++ [u] := by
  obtain ⟨hlt, he⟩ := List.getElem?_eq_some_iff.1 hk
  rw [List.take_succ_eq_append_getElem hlt, he]

theorem quiet_l {f : FuncId} {args : Array Value} {w : World} {n : Nat} {v : Value}
    (h : Calls Tryz.prog f args (w.drewN n) fun e w' => e = .returned v ∧ w.drewN n = w') : Calls Tryz.prog f args (w.drewN n) fun e w'' => e = .returned v ∧ ∃ m, w'' = w.drewN m :=
  h.mono fun _ _ ⟨he, hm⟩ => ⟨he, n, hm.symm⟩
theorem quiet_al {f : FuncId} {args : Array Value} {w : World} {a n : Nat} {v : Value}
    (h : Calls Tryz.prog f args (w.drewN (a + n)) fun e w' => e = .returned v ∧ w.drewN (a + n) = w') :
    Calls Tryz.prog f args (w.drewN (a + n)) fun e w'' => e = .returned v ∧ ∃ m, w'' = w.drewN (a + m) :=
  h.mono fun _ _ ⟨he, hm⟩ => ⟨he, n, hm.symm⟩
end Go.Proofs.YtbgjhgohffkonaaGreatDoor

/- A decimal of many digits, as it lies in memory. -/
namespace Go.Proofs.YtbgjhgohffkonaaGreatDoor
open Go.RowKit

/-- Block g holds the decimal D. -/
def DB (w : World) (g : Nat) (D : Dc) : Prop := ∃ cs : Array Value, w.heap[g]? = some (.cells cs 135 (0, 0)) ∧ cs.size = 804 ∧
  (∀ i : Nat, i < 800 → cs[i]? = some (.int .u8 (D.d i : Nat))) ∧ cs[800]? = some (.int .i64 (D.nd : Nat)) ∧ cs[801]? = some (.int .i64 D.dp) ∧ cs[802]? = some (.bool D.neg) ∧ cs[803]? = some (.bool D.tr)
section
variable {w : World} {g : Nat} {D : Dc}
theorem DB.cell_d (h : DB w g D) {i : Nat} (hi : i < 800) : w.cell? ⟨g, i, none⟩ = some (.int .u8 (D.d i : Nat)) := by
  obtain ⟨cs, h1, _, h2, _⟩ := h
  exact block_cell h1 (h2 i hi)
theorem DB.cell_nd (h : DB w g D) : w.cell? ⟨g, 800, none⟩ = some (.int .i64 (D.nd : Nat)) := by
  obtain ⟨cs, h1, _, _, h2, _⟩ := h
  exact block_cell h1 h2
theorem DB.cell_dp (h : DB w g D) : w.cell? ⟨g, 801, none⟩ = some (.int .i64 D.dp) := by
  obtain ⟨cs, h1, _, _, _, h2, _⟩ := h
  exact block_cell h1 h2
theorem DB.cell_neg (h : DB w g D) : w.cell? ⟨g, 802, none⟩ = some (.bool D.neg) := by
  obtain ⟨cs, h1, _, _, _, _, h2, _⟩ := h
  exact block_cell h1 h2
theorem DB.cell_tr (h : DB w g D) : w.cell? ⟨g, 803, none⟩ = some (.bool D.tr) := by
  obtain ⟨cs, h1, _, _, _, _, _, h2⟩ := h
  exact block_cell h1 h2
theorem DB.free (h : DB w g D) (i : Nat) : w.frozen? ⟨g, i, none⟩ = false := by
  obtain ⟨cs, h1, _⟩ := h
  exact block_free h1
theorem DB.lt (h : DB w g D) : g < w.heap.size := by
  obtain ⟨cs, h1, _⟩ := h
  exact block_lt h1
theorem DB.keep {w' : World} (h : DB w g D) (hb : Below w.heap.size w w') : DB w' g D := by
  obtain ⟨cs, h1, h2⟩ := h
  exact ⟨cs, block_below h1 hb, h2⟩
theorem DB.drewN (h : DB w g D) (n : Nat) : DB (w.drewN n) g D := h
theorem DB.set_d (h : DB w g D) {i : Nat} (hi : i < 800) (v : Nat) : DB (w.setCell ⟨g, i, none⟩ (.int .u8 (v : Nat))) g { D with d := upd D.d i v } := by
  obtain ⟨cs, h1, hs, h2, h3, h4, h5, h6⟩ := h
  refine ⟨cs.setIfInBounds i (.int .u8 (v : Nat)), block_set h1 _, by simpa using hs, fun j hj => ?_, ?_, ?_, ?_, ?_⟩
  · by_cases e : i = j
    · subst e
      rw [Array.getElem?_setIfInBounds_self_of_lt (by omega)]
      show _ = some (Value.int .u8 (upd D.d i v i : Nat))
      rw [upd_same]
    · rw [Array.getElem?_setIfInBounds_ne e]
      show _ = some (Value.int .u8 (upd D.d i v j : Nat))
      rw [upd_ne (fun e' => e e'.symm)]
      exact h2 j hj
  all_goals (rw [Array.getElem?_setIfInBounds_ne (by omega)]; assumption)
theorem DB.set_nd (h : DB w g D) (n : Nat) : DB (w.setCell ⟨g, 800, none⟩ (.int .i64 (n : Nat))) g { D with nd := n } := by
  obtain ⟨cs, h1, hs, h2, h3, h4, h5, h6⟩ := h
  refine ⟨cs.setIfInBounds 800 _, block_set h1 _, by simpa using hs, fun j hj => ?_, ?_, ?_, ?_, ?_⟩
  · rw [Array.getElem?_setIfInBounds_ne (by omega)]; exact h2 j hj
  · rw [Array.getElem?_setIfInBounds_self_of_lt (by omega)]
  all_goals (rw [Array.getElem?_setIfInBounds_ne (by omega)]; assumption)
theorem DB.set_dp (h : DB w g D) (n : Int) : DB (w.setCell ⟨g, 801, none⟩ (.int .i64 n)) g { D with dp := n } := by
  obtain ⟨cs, h1, hs, h2, h3, h4, h5, h6⟩ := h
  refine ⟨cs.setIfInBounds 801 _, block_set h1 _, by simpa using hs, fun j hj => ?_, ?_, ?_, ?_, ?_⟩
  · rw [Array.getElem?_setIfInBounds_ne (by omega)]; exact h2 j hj
  · rw [Array.getElem?_setIfInBounds_ne (by omega)]; exact h3
  · rw [Array.getElem?_setIfInBounds_self_of_lt (by omega)]
  all_goals (rw [Array.getElem?_setIfInBounds_ne (by omega)]; assumption)
theorem DB.set_neg (h : DB w g D) (b : Bool) : DB (w.setCell ⟨g, 802, none⟩ (.bool b)) g { D with neg := b } := by
  obtain ⟨cs, h1, hs, h2, h3, h4, h5, h6⟩ := h
  refine ⟨cs.setIfInBounds 802 _, block_set h1 _, by simpa using hs, fun j hj => ?_, ?_, ?_, ?_, ?_⟩
  · rw [Array.getElem?_setIfInBounds_ne (by omega)]; exact h2 j hj
  · rw [Array.getElem?_setIfInBounds_ne (by omega)]; exact h3
  · rw [Array.getElem?_setIfInBounds_ne (by omega)]; exact h4
  · rw [Array.getElem?_setIfInBounds_self_of_lt (by omega)]
  · rw [Array.getElem?_setIfInBounds_ne (by omega)]; exact h6
theorem DB.set_tr (h : DB w g D) (b : Bool) : DB (w.setCell ⟨g, 803, none⟩ (.bool b)) g { D with tr := b } := by
  obtain ⟨cs, h1, hs, h2, h3, h4, h5, h6⟩ := h
  refine ⟨cs.setIfInBounds 803 _, block_set h1 _, by simpa using hs, fun j hj => ?_, ?_, ?_, ?_, ?_⟩
  · rw [Array.getElem?_setIfInBounds_ne (by omega)]; exact h2 j hj
  · rw [Array.getElem?_setIfInBounds_ne (by omega)]; exact h3
  · rw [Array.getElem?_setIfInBounds_ne (by omega)]; exact h4
  · rw [Array.getElem?_setIfInBounds_ne (by omega)]; exact h5
  · rw [Array.getElem?_setIfInBounds_self_of_lt (by omega)]
end
end Go.Proofs.YtbgjhgohffkonaaGreatDoor

/- Trailing noughts of a decimal. -/
namespace Go.Proofs.YtbgjhgohffkonaaGreatDoor
open Go.RowKit

theorem i64_nat {n : Nat} (h : n ≤ 1000000) : IntKind.i64.wrap (n : Int) = (n : Int) := IntWalk.i64_in _ (by omega)
end Go.Proofs.YtbgjhgohffkonaaGreatDoor

/- Small readers of a decimal's digits. -/
namespace Go.Proofs.YtbgjhgohffkonaaGreatDoor
open Go.RowKit

theorem drop_at {s : ByteArray} {k : Nat} (h : k < s.size) : s.data.toList.drop k = s[k] :: s.data.toList.drop (k + 1) := by
  rw [List.drop_eq_getElem_cons (by simpa using h)]
  rfl
end Go.Proofs.YtbgjhgohffkonaaGreatDoor

/- A decimal's shift to the right. -/
namespace Go.Proofs.YtbgjhgohffkonaaGreatDoor
open Go.RowKit

theorem u64_and_mask (n k : Nat) (hk : k ≤ 60) (hn : n < 2 ^ 64) : bits .and .u64 (n : Int) (((2 ^ k : Nat) : Int) - 1) = ((n % 2 ^ k : Nat) : Int) := by
  have hp := two_pow_pos k
  have hp2 : 2 ^ k ≤ 2 ^ 60 := Nat.pow_le_pow_right (by decide) hk
  have e : (((2 ^ k : Nat) : Int) - 1) = ((2 ^ k - 1 : Nat) : Int) := by omega
  rw [e]
  have key : (BitVec.ofInt 64 (n : Int) &&& BitVec.ofInt 64 ((2 ^ k - 1 : Nat) : Int)).toNat = n % 2 ^ k := by
    rw [BitVec.toNat_and, BitVec.toNat_ofInt, BitVec.toNat_ofInt]
    have e1 : ((n : Int) % ((2 ^ 64 : Nat) : Int)).toNat = n := by omega
    have e2 : (((2 ^ k - 1 : Nat) : Int) % ((2 ^ 64 : Nat) : Int)).toNat = 2 ^ k - 1 := by omega
    rw [e1, e2, Nat.and_two_pow_sub_one_eq_mod]
  show IntKind.u64.wrap ((BitVec.ofInt 64 (n : Int) &&& BitVec.ofInt 64 ((2 ^ k - 1 : Nat) : Int)).toNat : Nat) = _
  rw [key]
  have : n % 2 ^ k < 2 ^ k := Nat.mod_lt _ hp
  exact IntWalk.u64_in _ (by omega)
theorem div_le_int {n P m : Nat} (h : n / P ≤ m) : (n : Int) / (P : Int) ≤ (m : Int) := by
  have e : (n : Int) / (P : Int) = ((n / P : Nat) : Int) := by simp
  rw [e]
  omega
theorem with_world' {P : Program} {c : Code} {Q : Exit → Act → World → Prop} {a : Act} {w : World} (h : ∀ w0 : World, w0 = w → c.wp P Q a w0) : c.wp P Q a w := h w rfl
end Go.Proofs.YtbgjhgohffkonaaGreatDoor

/- A float by its bits, and math.IsInf at either sign. -/
namespace Go.Proofs.YtbgjhgohffkonaaGreatDoor
open Go.RowKit
theorem run_bits64 (b : Nat) (w : World) : (callFunc 10 #[.float .f64 b]).run Tryz.prog w = .ok (.value (.int .u64 b)) w := by
  rw [run_callFunc_extern Tryz.func10 (by kernel_rfl) (by kernel_rfl) (by kernel_rfl) (e := Extern.MathFloatBits.float64bits) (by kernel_rfl)]
  rfl
theorem run_frombits64 (n : Int) (w : World) : (callFunc 5 #[.int .u64 n]).run Tryz.prog w = .ok (.value (.float .f64 n.toNat)) w := by
  rw [run_callFunc_extern Tryz.func5 (by kernel_rfl) (by kernel_rfl) (by kernel_rfl) (e := Extern.MathFloatBits.float64frombits) (by kernel_rfl)]
  rfl
attribute [local go_sem] run_bits64 run_frombits64
def absB (b : Nat) : Nat := (bits .andNot .u64 (b : Int) 9223372036854775808).toNat
def infB (b : Nat) : Bool := FloatKind.f64.format.order (absB b) 9218868437227405311 == some .gt
set_option maxRecDepth 100000 in
theorem abs_any (b : Nat) (w : World) : Calls Tryz.prog 18 #[.float .f64 b] w fun e w' => e = .returned (.float .f64 (absB b)) ∧ w = w' := by
  go_enter Tryz.func18, Tryz.ntmps18
  go_wp2_with fail
  go_ret
  exact ⟨rfl, rfl⟩
set_option maxRecDepth 100000 in
theorem inf_any (b : Nat) (w : World) : Calls Tryz.prog 16 #[.float .f64 b, .int .i64 0] w fun e w' => e = .returned (.bool (infB b)) ∧ w = w' := by
  have h := Lib.hid (show infB b = (FloatKind.f64.format.order (absB b) 9218868437227405311 == some .gt) from rfl)
  generalize infB b = r at *
  go_enter Tryz.func16, Tryz.ntmps16
  go_wp2_with fail
  refine (abs_any b _).mono ?_
  rintro e w1 ⟨rfl, rfl⟩
  go_wp2_with fail
  go_ret
  exact ⟨ret_bool h.out.symm, rfl⟩
end Go.Proofs.YtbgjhgohffkonaaGreatDoor

