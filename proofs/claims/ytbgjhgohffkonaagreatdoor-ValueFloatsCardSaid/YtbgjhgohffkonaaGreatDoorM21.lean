/- Rows of values that a call has laid, and a result that is one. -/
import Derived.Test.YtbgjhgohffkonaaGreatDoorM20
import Derived.Laws.ResultCell
namespace Go.Proofs.YtbgjhgohffkonaaGreatDoor
open Go.RowKit

/-- The two values that came in, and the one that goes out. -/
structure R3 (S : Nat) (A B Z : Array Value) (W : World) : Prop where
  ra : W.heap[S]? = some (.cells A 37 (0, 0))
  rb : W.heap[S + 1]? = some (.cells B 37 (0, 0))
  rz : W.heap[S + 2]? = some (.cells Z 37 (0, 0))
theorem R3.below {S : Nat} {A B Z : Array Value} {W W' : World} (h : R3 S A B Z W) (hb : Below W.heap.size W W') : R3 S A B Z W' := ⟨block_below h.ra hb, block_below h.rb hb, block_below h.rz hb⟩
theorem R3.lt {S : Nat} {A B Z : Array Value} {W : World} (h : R3 S A B Z W) : S + 2 < W.heap.size := block_lt h.rz
theorem R3.new (w : World) (A B Z : Array Value) : R3 w.heap.size A B Z (((w.alloc (.cells A 37 (0, 0))).alloc (.cells B 37 (0, 0))).alloc (.cells Z 37 (0, 0))) :=
  ⟨block_alloc (block_alloc (block_new _ _ rfl) _) _, block_alloc (block_new _ _ (by simp)) _, block_new _ _ (by simp)⟩
theorem R3.set {S : Nat} {A B : Array Value} {W : World} {a0 a1 a2 a3 a4 a5 : Value} (h : R3 S A B #[a0, a1, a2, a3, a4, a5] W) (b0 b1 b2 b3 b4 b5 : Value) :
    ((((((W.setCell ⟨S + 2, 0, none⟩ b0).setCell ⟨S + 2, 1, none⟩ b1).setCell ⟨S + 2, 2, none⟩ b2).setCell ⟨S + 2, 3, none⟩ b3).setCell ⟨S + 2, 4, none⟩ b4).setCell ⟨S + 2, 5, none⟩ b5).heap[S + 2]? = some (.cells #[b0, b1, b2, b3, b4, b5] 37 (0, 0)) := row6 h.rz b0 b1 b2 b3 b4 b5
theorem value_size : (Tryz.prog.info? 37).map (·.size) = some 6 := by kernel_rfl
theorem results_row_tmp {fn : Func} {p u : Tmp} (h : fn.results = #[.cell p 37, .tmp u]) (tmps : Array Value) (w : World) (g : Nat) (t : TypeId) (cs : Array Value) (fr : Nat × Nat)
    (hp : tmps.getD p undef = .pointer (some ⟨g, 0, none⟩)) (hg : w.heap[g]? = some (.cells cs t fr)) (hi : cs.size = 6) :
    (results fn tmps).run Tryz.prog w = .ok (.tuple #[.agg cs, tmps.getD u undef]) w := by
  have hl := run_loadVar_row (P := Tryz.prog) w g t 37 cs fr _ hg Tryz.underlying37 rfl (by rw [hi]; exact value_size)
  rw [results_cell_tmp h, hp]
  simp [asAddr, hl, Result.andThen]
end Go.Proofs.YtbgjhgohffkonaaGreatDoor

/- Two numbers, or two strings: which is below, which are equal. -/
namespace Go.Proofs.YtbgjhgohffkonaaGreatDoor
open Go.RowKit
attribute [local go_sem] run_bits64 run_frombits64 store_flt
/-- Two values that came in. -/
structure R2 (S : Nat) (A B : Array Value) (W : World) : Prop where
  ra : W.heap[S]? = some (.cells A 37 (0, 0))
  rb : W.heap[S + 1]? = some (.cells B 37 (0, 0))
theorem R2.below {S : Nat} {A B : Array Value} {W W' : World} (h : R2 S A B W) (hb : Below W.heap.size W W') : R2 S A B W' := ⟨block_below h.ra hb, block_below h.rb hb⟩
theorem R2.new (w : World) (A B : Array Value) : R2 w.heap.size A B ((w.alloc (.cells A 37 (0, 0))).alloc (.cells B 37 (0, 0))) :=
  ⟨block_alloc (block_new _ _ rfl) _, block_new _ _ (by simp)⟩
theorem R2.base (w : World) (A B : Array Value) : Below w.heap.size w ((w.alloc (.cells A 37 (0, 0))).alloc (.cells B 37 (0, 0))) := ((Below.refl w.heap.size w).alloc (Nat.le_refl _) _).alloc (by simp) _
theorem equal_nil (w : World) : Calls Tryz.prog 55 #[.slice none 0 0, .slice none 0 0] w fun e w' => e = .returned (.bool true) ∧ w = w' := by
  go_enter Tryz.func55, Tryz.ntmps55
  go_wp2_with fail
  refine wp_loop_rounds 1 ?_
  rw [rounds_succ]
  go_wp2_with fail
  go_ret
  exact ⟨rfl, rfl⟩
theorem equalFunc_nil (f : Value) (w : World) : Calls Tryz.prog 76 #[.slice none 0 0, .slice none 0 0, f] w fun e w' => e = .returned (.bool true) ∧ w = w' := by
  go_enter Tryz.func76, Tryz.ntmps76
  go_wp2_with fail
  refine wp_loop_rounds 1 ?_
  rw [rounds_succ]
  go_wp2_with fail
  go_ret
  exact ⟨rfl, rfl⟩
set_option maxHeartbeats 2000000 in
set_option maxRecDepth 100000 in
theorem same_int_true (a : Int) (b : Int) (h : (a == b) = true) (w : World) : Calls Tryz.prog 56 #[(.agg #[.int .i64 2, .int .i64 (a), .float .f64 0, .string ⟨#[]⟩, .slice none 0 0, .slice none 0 0]), (.agg #[.int .i64 2, .int .i64 (b), .float .f64 0, .string ⟨#[]⟩, .slice none 0 0, .slice none 0 0])] w fun e w' => e = .returned (.bool true) ∧ Below w.heap.size w w' := by
  have hB := R2.base w #[.int .i64 2, .int .i64 (a), .float .f64 0, .string ⟨#[]⟩, .slice none 0 0, .slice none 0 0] #[.int .i64 2, .int .i64 (b), .float .f64 0, .string ⟨#[]⟩, .slice none 0 0, .slice none 0 0]
  go_enter Tryz.func56, Tryz.ntmps56
  go_wp2_with fail
  go_quiet (fail)
  go_wp2_with fail
  refine (equal_nil _).mono ?_
  rintro e w2 ⟨rfl, rfl⟩
  go_wp2_with fail
  refine (equalFunc_nil _ _).mono ?_
  rintro e w2 ⟨rfl, rfl⟩
  go_wp2_with fail
  go_ret
  exact ⟨rfl, (by (repeat' (first | (with_reducible exact Below.refl _ _) | (with_reducible assumption) | (with_reducible refine below_drewN ?_ _) | (with_reducible refine Below.drew ?_) | (with_reducible refine Below.alloc ?_ ?_ _) | (with_reducible refine Below.setCell ?_ ?_ _) | omega | (simp; done) | (simp; omega))))⟩
set_option maxHeartbeats 2000000 in
set_option maxRecDepth 100000 in
theorem same_int_false (a : Int) (b : Int) (h : (a == b) = false) (w : World) : Calls Tryz.prog 56 #[(.agg #[.int .i64 2, .int .i64 (a), .float .f64 0, .string ⟨#[]⟩, .slice none 0 0, .slice none 0 0]), (.agg #[.int .i64 2, .int .i64 (b), .float .f64 0, .string ⟨#[]⟩, .slice none 0 0, .slice none 0 0])] w fun e w' => e = .returned (.bool false) ∧ Below w.heap.size w w' := by
  have hB := R2.base w #[.int .i64 2, .int .i64 (a), .float .f64 0, .string ⟨#[]⟩, .slice none 0 0, .slice none 0 0] #[.int .i64 2, .int .i64 (b), .float .f64 0, .string ⟨#[]⟩, .slice none 0 0, .slice none 0 0]
  go_enter Tryz.func56, Tryz.ntmps56
  go_wp2_with fail
  go_quiet (fail)
  go_wp2_with fail
  go_ret
  exact ⟨rfl, (by (repeat' (first | (with_reducible exact Below.refl _ _) | (with_reducible assumption) | (with_reducible refine below_drewN ?_ _) | (with_reducible refine Below.drew ?_) | (with_reducible refine Below.alloc ?_ ?_ _) | (with_reducible refine Below.setCell ?_ ?_ _) | omega | (simp; done) | (simp; omega))))⟩
theorem same_int (a : Int) (b : Int) (w : World) : Calls Tryz.prog 56 #[(.agg #[.int .i64 2, .int .i64 (a), .float .f64 0, .string ⟨#[]⟩, .slice none 0 0, .slice none 0 0]), (.agg #[.int .i64 2, .int .i64 (b), .float .f64 0, .string ⟨#[]⟩, .slice none 0 0, .slice none 0 0])] w fun e w' => e = .returned (.bool (a == b)) ∧ Below w.heap.size w w' := by
  cases h : (a == b)
  · exact same_int_false a b h w
  · exact same_int_true a b h w
set_option maxHeartbeats 2000000 in
set_option maxRecDepth 100000 in
theorem same_str_true (a : ByteArray) (b : ByteArray) (h : (a.toList == b.toList) = true) (w : World) : Calls Tryz.prog 56 #[(.agg #[.int .i64 4, .int .i64 0, .float .f64 0, .string (a), .slice none 0 0, .slice none 0 0]), (.agg #[.int .i64 4, .int .i64 0, .float .f64 0, .string (b), .slice none 0 0, .slice none 0 0])] w fun e w' => e = .returned (.bool true) ∧ Below w.heap.size w w' := by
  have hB := R2.base w #[.int .i64 4, .int .i64 0, .float .f64 0, .string (a), .slice none 0 0, .slice none 0 0] #[.int .i64 4, .int .i64 0, .float .f64 0, .string (b), .slice none 0 0, .slice none 0 0]
  go_enter Tryz.func56, Tryz.ntmps56
  go_wp2_with fail
  go_quiet (fail)
  go_wp2_with fail
  refine (equal_nil _).mono ?_
  rintro e w2 ⟨rfl, rfl⟩
  go_wp2_with fail
  refine (equalFunc_nil _ _).mono ?_
  rintro e w2 ⟨rfl, rfl⟩
  go_wp2_with fail
  go_ret
  exact ⟨rfl, (by (repeat' (first | (with_reducible exact Below.refl _ _) | (with_reducible assumption) | (with_reducible refine below_drewN ?_ _) | (with_reducible refine Below.drew ?_) | (with_reducible refine Below.alloc ?_ ?_ _) | (with_reducible refine Below.setCell ?_ ?_ _) | omega | (simp; done) | (simp; omega))))⟩
set_option maxHeartbeats 2000000 in
set_option maxRecDepth 100000 in
theorem same_str_false (a : ByteArray) (b : ByteArray) (h : (a.toList == b.toList) = false) (w : World) : Calls Tryz.prog 56 #[(.agg #[.int .i64 4, .int .i64 0, .float .f64 0, .string (a), .slice none 0 0, .slice none 0 0]), (.agg #[.int .i64 4, .int .i64 0, .float .f64 0, .string (b), .slice none 0 0, .slice none 0 0])] w fun e w' => e = .returned (.bool false) ∧ Below w.heap.size w w' := by
  have hB := R2.base w #[.int .i64 4, .int .i64 0, .float .f64 0, .string (a), .slice none 0 0, .slice none 0 0] #[.int .i64 4, .int .i64 0, .float .f64 0, .string (b), .slice none 0 0, .slice none 0 0]
  go_enter Tryz.func56, Tryz.ntmps56
  go_wp2_with fail
  go_quiet (fail)
  go_wp2_with fail
  go_ret
  exact ⟨rfl, (by (repeat' (first | (with_reducible exact Below.refl _ _) | (with_reducible assumption) | (with_reducible refine below_drewN ?_ _) | (with_reducible refine Below.drew ?_) | (with_reducible refine Below.alloc ?_ ?_ _) | (with_reducible refine Below.setCell ?_ ?_ _) | omega | (simp; done) | (simp; omega))))⟩
theorem same_str (a : ByteArray) (b : ByteArray) (w : World) : Calls Tryz.prog 56 #[(.agg #[.int .i64 4, .int .i64 0, .float .f64 0, .string (a), .slice none 0 0, .slice none 0 0]), (.agg #[.int .i64 4, .int .i64 0, .float .f64 0, .string (b), .slice none 0 0, .slice none 0 0])] w fun e w' => e = .returned (.bool (a.toList == b.toList)) ∧ Below w.heap.size w w' := by
  cases h : (a.toList == b.toList)
  · exact same_str_false a b h w
  · exact same_str_true a b h w
end Go.Proofs.YtbgjhgohffkonaaGreatDoor

