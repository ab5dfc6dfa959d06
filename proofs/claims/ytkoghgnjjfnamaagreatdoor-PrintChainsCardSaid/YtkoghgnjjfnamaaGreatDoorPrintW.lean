/- print.Print at what is read: the walk. -/
import Derived.Test.YtkoghgnjjfnamaaGreatDoorNodeW
import Derived.Test.YtkoghgnjjfnamaaGreatDoorRightT
namespace Go.Proofs.YtkoghgnjjfnamaaGreatDoor
open Go.RowKit Go.Shelf
set_option linter.unusedSimpArgs false
set_option linter.unusedVariables false
set_option maxHeartbeats 2000000 in
set_option maxRecDepth 100000 in
theorem strW_any {g : Nat} {fv : Value} {l : List UInt8} {w : World} (h : WR g fv l w) (h0 : l ≠ []) :
    Calls Tryz.prog 19 #[.pointer (some ⟨g, 1, none⟩)] w fun e w' => e = .returned (.string ⟨l.toArray⟩) ∧ Below g w w' := by
  obtain ⟨p, v, hp, hbk, hown⟩ := h
  have hl0 : l.length ≠ 0 := by simpa using h0
  obtain ⟨b, cap, cur, rfl, hbg, hg, hnc, hcm, hcs, htake⟩ : ∃ b cap cur, v = .slice (some ⟨b, 0, none⟩) l.length cap ∧ g + 1 ≤ b ∧ w.heap[b]? = some (.cells cur 5 (0, 0)) ∧ l.length ≤ cap ∧ cap ≤ maxLen ∧ cur.size = cap * 1 ∧ cur.toList.take (l.length * 1) = Lib.byteCells l := by
    rcases hown.2 with ⟨_, hz⟩ | ⟨b, cap, cur, hv, r⟩
    · exact absurd hz hl0
    · exact ⟨b, cap, cur, hv, r⟩
  have c1 : w.drew.cell? ⟨g, 2, none⟩ = some (.slice (some ⟨b, 0, none⟩) l.length cap) := by
    have : w.drew.heap[g]? = some (.cells #[fv, p, .slice (some ⟨b, 0, none⟩) l.length cap] 63 (0, 0)) := hbk
    rw [Lib.cell_of_heap this]; rfl
  have hSD : (Builtin.unsafeSliceData_ #[59] 95 #[.slice (some ⟨b, 0, none⟩) l.length cap]).run Tryz.prog w.drew = .ok (.pointer (some ⟨b, 0, none⟩)) w.drew :=
    Lib.run_unsafeSliceData_row _ _ _ _ _ _ (by omega)
  have hUS : (Builtin.unsafeString_ #[95, 3] 9 #[.pointer (some ⟨b, 0, none⟩), .int .i64 l.length]).run Tryz.prog w.drew = .ok (.string ⟨l.toArray⟩) (w.drew.freeze ⟨b, 0, none⟩ l.length) := by
    refine Lib.run_unsafeString_row w.drew 95 3 9 5 Tryz.underlying95 (by kernel_rfl) b cur.size (by have hg' : w.drew.heap[b]? = some (.cells cur 5 (0, 0)) := hg; simp [World.shape?, hg']) l h0 (by omega) (by unfold maxLen at hcm; omega) ?_
    intro j x hx
    exact hown.cells (g := b) rfl j (.int .u8 x.toNat) (by simp [Lib.byteCells, hx])
  clear hown htake hbk
  go_enter Tryz.func19, Tryz.ntmps19
  go_wp2
  go_region
  all_goals (go_wp2; go_ret; exact ⟨rfl, Lib.below_freeze (Below.drew (Below.refl g w)) (p := ⟨b, 0, none⟩) (by show g ≤ b; omega) _⟩)
theorem WR.new (g : Nat) (fv : Value) (w : World) (hg : g = w.heap.size) : WR g fv [] (w.alloc (.cells #[fv, .pointer none, .slice none 0 0] 63)) :=
  ⟨.pointer none, .slice none 0 0, Or.inl rfl, block_new _ _ hg, World.ownsRow_nil _ _ _ _⟩
set_option maxHeartbeats 2000000 in
set_option maxRecDepth 100000 in
theorem Print_any {NG : Nat} {w : World} (hG : GP NG w) {pn : Nat → Prop} {pk : Nat → Nat → Prop} {fb c : Nat} {ls : List NV} (HN : NRd pn pk w fb 0 ls) {t : T} (hls : ls.map NV.nd = nodes t 0) (hex : EXr (QR fun _ => False) t) (hok : PrOK t) (hlen : ls.length ≤ 1000)
    (hsz : (prX t).length ≤ 4096) (hne : prX t ≠ []) {l : List Nd} (hp : parseP pfA ⟨(prX t).toArray⟩ = .ok l) :
    Calls Tryz.prog 9 #[.slice (some ⟨fb, 0, none⟩) ls.length c] w fun e w' => e = .returned (.string ⟨(prX t).toArray⟩) ∧ Below w.heap.size w w' := by
  have HR := Lib.hid (Right_tree (c := c) hG HN hls hex hok hlen)
  have HP := Lib.hid (fun (w' : World) (hb : Below w.heap.size w w') => show Calls _ _ _ w' fun e w2 => ParsePost w' (.ok l) e w2 by have := Parse_any (hG.below hb) ⟨(prX t).toArray⟩; rwa [hp] at this)
  have hll : ls.length = (nodes t 0).length := by rw [← hls, List.length_map]
  obtain ⟨l0, r, hr, _, _⟩ := root_of t 0
  obtain ⟨m, hm⟩ : ∃ m, ls.length = m + 1 := ⟨l0.length, by rw [hll, hr]; simp⟩
  have hsub : SubT (ls.map NV.nd) t m := by
    have := nodes_sub t
    rw [← hll, hm, Nat.add_sub_cancel] at this
    rw [hls]
    exact this
  have HND := Lib.hid (fun (w' : World) (hb : Below w.heap.size w w') (g : Nat) (hg : w'.heap.size ≤ g) => (node_all (c := c) (hG.below hb) (HN.below hb) hg hlen t m hsub hok).2.2)
  rw [hm] at HR HND ⊢
  have hmw : IntKind.i64.wrap (((m + 1 : Nat) : Int) - 1) = (m : Int) := by rw [IntWalk.i64_in _ (by omega)]; omega
  have hmw2 : IntKind.i64.wrap (m : Int) = (m : Int) := IntWalk.i64_in _ (by omega)
  have hm9 : m ≤ 999 := by omega
  have hS1 : (prX t).length ≤ 140737488355328 := by omega
  clear hG HN hls hex hok hlen hsz hp hll hr hm hsub
  go_enter Tryz.func9, Tryz.ntmps9
  go_wp2_with fail
  refine HR.out.mono ?_
  rintro e w1 ⟨rfl, hb1⟩
  have HB1 := Lib.hid hb1
  clear hb1
  go_wp2_with fail
  refine (HND.out w1 HB1.out w1.heap.size (Nat.le_refl _) _ [] ((Below.refl _ _).alloc (Nat.le_refl _) _) (WR.new _ _ _ rfl) (by simpa using hS1)).mono ?_
  rintro e w2 ⟨rfl, hw2, hk2⟩
  rw [List.nil_append] at hw2
  have hb2 : Below w1.heap.size w1 w2 := ((Below.refl w1.heap.size w1).alloc (Nat.le_refl _) _).trans hk2.below
  have HB2 := Lib.hid (HB1.out.next hb2)
  have hz2 := hb2.size
  clear hk2 hb2
  go_wp2_with fail
  refine (strW_any hw2 hne).mono ?_
  rintro e w3 ⟨rfl, hb3⟩
  have HB3 := Lib.hid (HB2.out.trans (hb3.mono HB1.out.size))
  clear hb3 hw2
  go_wp2_with fail
  refine (HP.out w3 HB3.out).mono ?_
  rintro e w4 ⟨⟨out, ls2, A, B, rfl, hnd, hmap, hA, hAB⟩, hb4⟩
  obtain ⟨a2, cap2, rfl⟩ := own_shape hnd.own
  have HB4 := Lib.hid (HB3.out.next hb4)
  clear hnd hmap hb4 hA hAB
  go_wp2_with fail
  go_ret
  exact ⟨rfl, HB4.out⟩
end Go.Proofs.YtkoghgnjjfnamaaGreatDoor
