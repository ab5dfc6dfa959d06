/- print.Right at a tree that is read and written. -/
import Derived.Test.YtkoghgnjjfnamaaGreatDoorRightW
import Derived.Test.YtkoghgnjjfnamaaGreatDoorShapeW
import Derived.Test.YtkoghgnjjfnamaaGreatDoorTreeP
namespace Go.Proofs.YtkoghgnjjfnamaaGreatDoor
open Go.RowKit
set_option linter.unusedSimpArgs false
set_option linter.unusedVariables false
theorem Right_tree {NG : Nat} {w : World} (hG : GP NG w) {pn : Nat → Prop} {pk : Nat → Nat → Prop} {fb c : Nat} {ls : List NV} (HN : NRd pn pk w fb 0 ls) {t : T} (hls : ls.map NV.nd = nodes t 0) (hex : EXr (QR fun _ => False) t) (hok : PrOK t) (hlen : ls.length ≤ 1000) :
    Calls Tryz.prog 11 #[.slice (some ⟨fb, 0, none⟩) ls.length c] w fun e w' => e = .returned (.bool true) ∧ Below w.heap.size w w' := by
  obtain ⟨l0, r, hr, hrk, _⟩ := root_of t 0
  have hll : ls.length = (nodes t 0).length := by rw [← hls, List.length_map]
  have hpos : 0 < ls.length := by rw [hll, hr]; simp
  have hgood : ∀ (i : Nat) (x : NV), ls[i]? = some x → GoodN x.nd i := fun i x hx => by
    have := nodes_in t 0 hex.1 hok i x.nd (by rw [← hls, List.getElem?_map, hx]; rfl)
    rwa [Nat.zero_add] at this
  obtain ⟨bl, hbl⟩ := begT_last t 0
  have hblen := begT_len t 0
  refine Right_any HN hpos hlen (begs := begT' t 0) (by rw [hblen, hll]) ?_ (fun i x hx => (hgood i x hx).2.2.1) (fun i x hx => ?_) ?_ (fun i x hx hi => ?_)
  · intro i x hx a1 a2 c1 c2 w' hb
    obtain ⟨h1, h2, h3, _⟩ := hgood i x hx
    have h0 := okN_flt h1
    have := shape_any (hG.below hb) h2 (by rw [h0] at h1; exact h1) a1 a2 c1 c2 (x.nd.place : Int)
    rw [h0]
    exact this
  · obtain ⟨_, _, _, h4, h5, h6⟩ := hgood i x hx
    have hN := right_ex (nm := fun _ => true) (fB := fun _ => true) (fo := fun _ => False) (fun _ _ => rfl) (fun _ h => h.elim) rfl hex i x.nd (by rw [← hls, List.getElem?_map, hx]; rfl)
    rw [hls]
    exact ⟨hN.2.2, by omega, h4.imp (fun h => Nat.ne_of_lt h), h6⟩
  · rw [hll, ← hblen, hbl, List.length_append, List.length_cons, List.length_nil, Nat.zero_add, Nat.add_sub_cancel, List.getD_eq_getElem?_getD, List.getElem?_append_right (Nat.le_refl _), Nat.sub_self]
    rfl
  · have h1 : (nodes t 0)[i]? = some x.nd := by rw [← hls, List.getElem?_map, hx]; rfl
    rw [hr] at h1 hll
    rw [List.length_append, List.length_cons, List.length_nil] at hll
    obtain rfl : i = l0.length := by omega
    rw [List.getElem?_append_right (Nat.le_refl _), Nat.sub_self] at h1
    cases h1
    rw [hrk]
    exact hex.2
end Go.Proofs.YtkoghgnjjfnamaaGreatDoor
