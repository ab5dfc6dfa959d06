/- 100.0 as it is written: the three digits. -/
import Derived.Test.YtdpnknlpkjablaaGreatDoorFmt3
namespace Go.Proofs.YtdpnknlpkjablaaGreatDoor
open Go.RowKit

theorem infoB1 : (Tryz.prog.info? 5).map (fun i => (i.zero, i.size, i.bytes)) = some (some (.int .u8 0), 1, 1) := by kernel_rfl
set_option maxHeartbeats 2000000 in
set_option maxRecDepth 100000 in
theorem efg_tx {w : World} {base g0 g : Nat} (hbase : base ≤ w.heap.size) (own0 : w.ownsRow base 5 1 (.slice (some ⟨g0, 0, none⟩) 0 24) 0 (Lib.byteCells [])) (q0 : w.cell? ⟨g, 0, none⟩ = some (.int .u8 49)) :
    Calls Tryz.prog 113 #[.slice (some ⟨g0, 0, none⟩) 0 24, .bool false, .slice (some ⟨g, 0, none⟩) 32 32, .int .i64 3, .int .i64 1, .int .i64 0, .int .u8 102, .bool true] w fun e w' =>
      ∃ v, e = .returned v ∧ w'.ownsRow base 5 1 v 3 (Lib.byteCells [49, 48, 48]) ∧ Below base w w' := by
  obtain ⟨i0, hi, hz0, hz1, hz2⟩ := info_parts infoB1
  have hB0 : Below base w w := Below.refl _ _
  go_enter Tryz.func113, Tryz.ntmps113
  go_wp2_with fail
  refine wp_loop_rounds 2 ?_
  rw [rounds_succ]
  go_wp2_with (at_builtin; refine wpList_append_own _ rfl _ _ 73 rfl base 5 i0 (.int .u8 0) 1 1 Tryz.underlying73 hi hz0 hz1 hz2 rfl (by decide) _ _ _ rfl (own0.alloc _) ⟨_, 0, none⟩ 1 1 [.int .u8 49] rfl rfl ?a1 ?b1 ?c1 ?d1 ?e1 ?_)
  case a1 =>
    intro j u hj
    match j, hj with
    | 0, hj => simp at hj; subst hj; simp [Addr.add]
  case b1 => intro u hu; simp at hu; subst hu; rfl
  case c1 => unfold maxLen; omega
  case d1 => omega
  case e1 => have := hB0.size; simp; omega
  intro v1 w1 own1 grow1 _
  have hB1 : Below base w w1 := (hB0.alloc (by have := hB0.size; omega) _).grown grow1 (by have := hB0.size; simp; omega) (fun j hj => (own0.lt j hj).1)
  obtain ⟨va1, vc1, rfl⟩ := own_shape own1
  go_wp2_with fail
  rw [rounds_succ]
  go_wp2_with fail
  refine wp_loop_rounds 3 ?_
  rw [rounds_succ]
  go_wp2_with (at_builtin; refine wpList_append_own _ rfl _ _ 73 rfl base 5 i0 (.int .u8 0) 1 1 Tryz.underlying73 hi hz0 hz1 hz2 rfl (by decide) _ _ _ rfl (own1.alloc _) ⟨_, 0, none⟩ 1 1 [.int .u8 48] rfl rfl ?a2 ?b2 ?c2 ?d2 ?e2 ?_)
  case a2 =>
    intro j u hj
    match j, hj with
    | 0, hj => simp at hj; subst hj; simp [Addr.add]
  case b2 => intro u hu; simp at hu; subst hu; rfl
  case c2 => unfold maxLen; omega
  case d2 => omega
  case e2 => have := hB1.size; simp; omega
  intro v2 w2 own2 grow2 _
  have hB2 : Below base w w2 := (hB1.alloc (by have := hB1.size; omega) _).grown grow2 (by have := hB1.size; simp; omega) (fun j hj => (own1.lt j hj).1)
  obtain ⟨va2, vc2, rfl⟩ := own_shape own2
  go_wp2_with fail
  rw [rounds_succ]
  go_wp2_with (at_builtin; refine wpList_append_own _ rfl _ _ 73 rfl base 5 i0 (.int .u8 0) 1 1 Tryz.underlying73 hi hz0 hz1 hz2 rfl (by decide) _ _ _ rfl (own2.alloc _) ⟨_, 0, none⟩ 1 1 [.int .u8 48] rfl rfl ?a3 ?b3 ?c3 ?d3 ?e3 ?_)
  case a3 =>
    intro j u hj
    match j, hj with
    | 0, hj => simp at hj; subst hj; simp [Addr.add]
  case b3 => intro u hu; simp at hu; subst hu; rfl
  case c3 => unfold maxLen; omega
  case d3 => omega
  case e3 => have := hB2.size; simp; omega
  intro v3 w3 own3 grow3 _
  have hB3 : Below base w w3 := (hB2.alloc (by have := hB2.size; omega) _).grown grow3 (by have := hB2.size; simp; omega) (fun j hj => (own2.lt j hj).1)
  obtain ⟨va3, vc3, rfl⟩ := own_shape own3
  go_wp2_with fail
  rw [rounds_succ]
  go_wp2_with fail
  go_ret
  exact ⟨_, rfl, own3, hB3⟩
end Go.Proofs.YtdpnknlpkjablaaGreatDoor
