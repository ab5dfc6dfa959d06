/- ShapeW: what is used of them. -/
import Derived.Test.YtkoghgnjjfnamaaGreatDoorNameW
import Derived.BigQuiet
set_option linter.unusedSimpArgs false
set_option linter.unusedVariables false
namespace Go.Proofs.YtkoghgnjjfnamaaGreatDoor
set_option maxRecDepth 100000
set_option maxHeartbeats 8000000
open Go.RowKit Go.Shelf
attribute [local go_sem] run_bits64 run_frombits64
theorem signbit0 (w : World) : Calls Tryz.prog 46 #[.float .f64 0] w fun e w' => e = .returned (.bool false) ∧ w' = w := by
 go_enter Tryz.func46, Tryz.ntmps46
 go_wp2_with fail; go_ret; exact ⟨rfl, rfl⟩
theorem nan0 (w : World) : Calls Tryz.prog 47 #[.float .f64 0] w fun e w' => e = .returned (.bool false) ∧ w' = w := by
 have o1 : FloatKind.f64.format.order 0 0 = some .eq := by kernel_rfl
 go_enter Tryz.func47, Tryz.ntmps47
 go_wp2_with fail; go_ret; exact ⟨rfl, rfl⟩
theorem inf0 (w : World) : Calls Tryz.prog 48 #[.float .f64 0, .int .i64 0] w fun e w' => e = .returned (.bool false) ∧ w = w' :=
 (inf_any 0 w).mono fun e w' h => ⟨h.1.trans (by kernel_rfl), h.2⟩
theorem shape_any {NG : Nat} {w : World} (hG : GP NG w) {k : Int} {tx : ByteArray} {n : Int} {ns : List ByteArray} {m : Nat} (hk : kP k) (h : OkN (QR fun _ => False) k tx n 0 ns m) (a1 a2 : Option Addr) (c1 c2 : Nat) (p : Int) :
 Calls Tryz.prog 21 #[.agg #[.int .i64 k, .string tx, .int .i64 n, .float .f64 0, .slice a1 ns.length c1, .slice a2 m c2, .int .i64 p]] w fun e w' => e = .returned (.bool true) ∧ Below w.heap.size w w' := by
 have HNm := Lib.hid (fun (b : ByteArray) (hb : nmQ b) (w' : World) (hB : Below w.heap.size w w') => show Calls Tryz.prog 45 #[.string b] w' _ by have := pname_any (hG.below hB) b; rwa [isNm_of hb] at this); have HPl := Lib.hid (fun (b : ByteArray) (hb : plQ b) (w' : World) => show Calls Tryz.prog 22 #[.string b] w' _ by have := pplain_any b w'; rwa [plain_ok hb] at this); have HSg := Lib.hid (fun (b : ByteArray) (hb : sgB b) (w' : World) => show Calls Tryz.prog 44 #[.string b] w' _ by have := psign_any b w'; rwa [sign_ok hb] at this); clear hG; cases h with
 | int h =>
   go_enter Tryz.func21, Tryz.ntmps21
   go_wp2_with fail; go_quiet (fail)
   go_wp2_with fail; refine (signbit0 _).mono ?_; rintro e w2 ⟨rfl, rfl⟩
   go_wp2_with fail; refine (nan0 _).mono ?_; rintro e w3 ⟨rfl, rfl⟩
   go_wp2_with fail; refine (inf0 _).mono ?_; rintro e w4 ⟨rfl, rfl⟩
   go_wp2_with fail; go_ret; exact ⟨rfl, (by (repeat' first | (with_reducible first | exact Below.refl _ _ | assumption | refine below_drewN ?_ _ | refine Below.drew ?_ | refine Below.alloc ?_ ?_ _ | refine Below.setCell ?_ ?_ _) | omega | (simp; done) | (simp; omega)))⟩
 | flt h => exact h.elim
 | str h => exact absurd hk (by unfold kP; omega)
 | nam h =>
   go_enter Tryz.func21, Tryz.ntmps21
   go_wp2_with fail; go_quiet (fail)
   go_wp2_with fail; refine (HNm.out _ h _ (by (repeat' first | (with_reducible first | exact Below.refl _ _ | assumption | refine below_drewN ?_ _ | refine Below.drew ?_ | refine Below.alloc ?_ ?_ _ | refine Below.setCell ?_ ?_ _) | omega | (simp; done) | (simp; omega)))).mono ?_; rintro e w1 ⟨rfl, hb1⟩; have hbx : w1.heap[w.heap.size]? = some (.cells #[.int .i64 4, .string tx, .int .i64 0, .float .f64 0, .slice a1 0 c1, .slice a2 0 c2, .int .i64 p] 36 (0, 0)) := by rw [hb1.block w.heap.size (by simp)]; exact block_new w _ rfl
   have q0 := block_cell (i := 0) hbx rfl; have q1 := block_cell (i := 1) hbx rfl; have q2 := block_cell (i := 2) hbx rfl; have q3 := block_cell (i := 3) hbx rfl; have q4 := block_cell (i := 4) hbx rfl; have q5 := block_cell (i := 5) hbx rfl; clear hbx
   go_wp2_with fail; refine (signbit0 _).mono ?_; rintro e w2 ⟨rfl, rfl⟩
   go_wp2_with fail; refine (nan0 _).mono ?_; rintro e w3 ⟨rfl, rfl⟩
   go_wp2_with fail; refine (inf0 _).mono ?_; rintro e w4 ⟨rfl, rfl⟩
   go_wp2_with fail; go_ret; exact ⟨rfl, Below.next (by (repeat' first | (with_reducible first | exact Below.refl _ _ | assumption | refine below_drewN ?_ _ | refine Below.drew ?_ | refine Below.alloc ?_ ?_ _ | refine Below.setCell ?_ ?_ _) | omega | (simp; done) | (simp; omega))) hb1⟩
 | list => exact absurd hk (by unfold kP; omega)
 | set h =>
   have hmI : ((m : Int) == (ns.length : Int)) = true := by simp [h]
   generalize hnl : ns.length = q at *; clear h hnl; go_enter Tryz.func21, Tryz.ntmps21
   go_wp2_with fail; go_quiet (fail)
   go_wp2_with fail; refine (signbit0 _).mono ?_; rintro e w2 ⟨rfl, rfl⟩
   go_wp2_with fail; refine (nan0 _).mono ?_; rintro e w3 ⟨rfl, rfl⟩
   go_wp2_with fail; refine (inf0 _).mono ?_; rintro e w4 ⟨rfl, rfl⟩
   go_wp2_with fail; go_ret; exact ⟨rfl, (by (repeat' first | (with_reducible first | exact Below.refl _ _ | assumption | refine below_drewN ?_ _ | refine Below.drew ?_ | refine Below.alloc ?_ ?_ _ | refine Below.setCell ?_ ?_ _) | omega | (simp; done) | (simp; omega)))⟩
 | recs h => exact absurd hk (by unfold kP; omega)
 | sel h h2 =>
   have hm : ((m : Int) == 1 || (m : Int) == 2) = true := by rcases h2 with rfl | rfl <;> rfl
   rcases h2 with rfl | rfl
   · skip
     go_enter Tryz.func21, Tryz.ntmps21
     go_wp2_with fail; go_quiet (fail)
     go_wp2_with fail; refine (HPl.out _ h _).mono ?_; rintro e w1 ⟨rfl, hb1⟩; have hbx : w1.heap[w.heap.size]? = some (.cells #[.int .i64 8, .string tx, .int .i64 0, .float .f64 0, .slice a1 0 c1, .slice a2 1 c2, .int .i64 p] 36 (0, 0)) := by rw [hb1.block w.heap.size (by simp)]; exact block_new w _ rfl
     have q0 := block_cell (i := 0) hbx rfl; have q1 := block_cell (i := 1) hbx rfl; have q2 := block_cell (i := 2) hbx rfl; have q3 := block_cell (i := 3) hbx rfl; have q4 := block_cell (i := 4) hbx rfl; have q5 := block_cell (i := 5) hbx rfl; clear hbx
     go_wp2_with fail; refine (signbit0 _).mono ?_; rintro e w2 ⟨rfl, rfl⟩
     go_wp2_with fail; refine (nan0 _).mono ?_; rintro e w3 ⟨rfl, rfl⟩
     go_wp2_with fail; refine (inf0 _).mono ?_; rintro e w4 ⟨rfl, rfl⟩
     go_wp2_with fail; go_ret; exact ⟨rfl, Below.next (by (repeat' first | (with_reducible first | exact Below.refl _ _ | assumption | refine below_drewN ?_ _ | refine Below.drew ?_ | refine Below.alloc ?_ ?_ _ | refine Below.setCell ?_ ?_ _) | omega | (simp; done) | (simp; omega))) hb1⟩
   · skip
     go_enter Tryz.func21, Tryz.ntmps21
     go_wp2_with fail; go_quiet (fail)
     go_wp2_with fail; refine (HPl.out _ h _).mono ?_; rintro e w1 ⟨rfl, hb1⟩; have hbx : w1.heap[w.heap.size]? = some (.cells #[.int .i64 8, .string tx, .int .i64 0, .float .f64 0, .slice a1 0 c1, .slice a2 2 c2, .int .i64 p] 36 (0, 0)) := by rw [hb1.block w.heap.size (by simp)]; exact block_new w _ rfl
     have q0 := block_cell (i := 0) hbx rfl; have q1 := block_cell (i := 1) hbx rfl; have q2 := block_cell (i := 2) hbx rfl; have q3 := block_cell (i := 3) hbx rfl; have q4 := block_cell (i := 4) hbx rfl; have q5 := block_cell (i := 5) hbx rfl; clear hbx
     go_wp2_with fail; refine (signbit0 _).mono ?_; rintro e w2 ⟨rfl, rfl⟩
     go_wp2_with fail; refine (nan0 _).mono ?_; rintro e w3 ⟨rfl, rfl⟩
     go_wp2_with fail; refine (inf0 _).mono ?_; rintro e w4 ⟨rfl, rfl⟩
     go_wp2_with fail; go_ret; exact ⟨rfl, Below.next (by (repeat' first | (with_reducible first | exact Below.refl _ _ | assumption | refine below_drewN ?_ _ | refine Below.drew ?_ | refine Below.alloc ?_ ?_ _ | refine Below.setCell ?_ ?_ _) | omega | (simp; done) | (simp; omega))) hb1⟩
 | has h =>
   go_enter Tryz.func21, Tryz.ntmps21
   go_wp2_with fail; go_quiet (fail)
   go_wp2_with fail; refine (HPl.out _ h _).mono ?_; rintro e w1 ⟨rfl, hb1⟩; have hbx : w1.heap[w.heap.size]? = some (.cells #[.int .i64 9, .string tx, .int .i64 0, .float .f64 0, .slice a1 0 c1, .slice a2 1 c2, .int .i64 p] 36 (0, 0)) := by rw [hb1.block w.heap.size (by simp)]; exact block_new w _ rfl
   have q0 := block_cell (i := 0) hbx rfl; have q1 := block_cell (i := 1) hbx rfl; have q2 := block_cell (i := 2) hbx rfl; have q3 := block_cell (i := 3) hbx rfl; have q4 := block_cell (i := 4) hbx rfl; have q5 := block_cell (i := 5) hbx rfl; clear hbx
   go_wp2_with fail; refine (signbit0 _).mono ?_; rintro e w2 ⟨rfl, rfl⟩
   go_wp2_with fail; refine (nan0 _).mono ?_; rintro e w3 ⟨rfl, rfl⟩
   go_wp2_with fail; refine (inf0 _).mono ?_; rintro e w4 ⟨rfl, rfl⟩
   go_wp2_with fail; go_ret; exact ⟨rfl, Below.next (by (repeat' first | (with_reducible first | exact Below.refl _ _ | assumption | refine below_drewN ?_ _ | refine Below.drew ?_ | refine Below.alloc ?_ ?_ _ | refine Below.setCell ?_ ?_ _) | omega | (simp; done) | (simp; omega))) hb1⟩
 | call => exact absurd hk (by unfold kP; omega)
 | lets h => exact absurd hk (by unfold kP; omega)
 | withs => exact absurd hk (by unfold kP; omega)
 | ite => exact absurd hk (by unfold kP; omega)
 | ass => exact absurd hk (by unfold kP; omega)
 | nots => exact absurd hk (by unfold kP; omega)
 | neg => exact absurd hk (by unfold kP; omega)
 | inh h => exact absurd hk (by unfold kP; omega)
 | lam h => exact absurd hk (by unfold kP; omega)
 | bin h =>
   go_enter Tryz.func21, Tryz.ntmps21
   go_wp2_with fail; go_quiet (fail)
   go_wp2_with fail; refine (HSg.out _ h _).mono ?_; rintro e w1 ⟨rfl, rfl⟩
   go_wp2_with fail; refine (signbit0 _).mono ?_; rintro e w2 ⟨rfl, rfl⟩
   go_wp2_with fail; refine (nan0 _).mono ?_; rintro e w3 ⟨rfl, rfl⟩
   go_wp2_with fail; refine (inf0 _).mono ?_; rintro e w4 ⟨rfl, rfl⟩
   go_wp2_with fail; go_ret; exact ⟨rfl, (by (repeat' first | (with_reducible first | exact Below.refl _ _ | assumption | refine below_drewN ?_ _ | refine Below.drew ?_ | refine Below.alloc ?_ ?_ _ | refine Below.setCell ?_ ?_ _) | omega | (simp; done) | (simp; omega)))⟩
end Go.Proofs.YtkoghgnjjfnamaaGreatDoor
