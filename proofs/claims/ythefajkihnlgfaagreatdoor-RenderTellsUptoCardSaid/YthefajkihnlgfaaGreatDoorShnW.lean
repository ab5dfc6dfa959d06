/- What the laws of render show: the walk. -/
import Derived.Test.YthefajkihnlgfaaGreatDoorSyW
namespace Go.Proofs.YthefajkihnlgfaaGreatDoor
open Go.RowKit Go.Shelf
set_option linter.unusedSimpArgs false
set_option linter.unusedVariables false
def cf0 : Cf := ⟨[], [(⟨#[101, 116, 99, 47, 97]⟩, ⟨#[120]⟩)], [⟨#[119, 119, 119]⟩], [⟨⟨#[110, 101, 116]⟩, ⟨#[]⟩, [], []⟩]⟩
theorem cv0 {w : World} {g1 g2 g3 c1 c2 c3 : Nat} (h1 : w.cell? ⟨g1, 0, none⟩ = some (.string ⟨#[101, 116, 99, 47, 97]⟩)) (h2 : w.cell? ⟨g1, 1, none⟩ = some (.string ⟨#[120]⟩)) (h3 : w.cell? ⟨g2, 0, none⟩ = some (.string ⟨#[119, 119, 119]⟩))
    (h4 : w.cell? ⟨g3, 0, none⟩ = some (.string ⟨#[110, 101, 116]⟩)) (h5 : w.cell? ⟨g3, 1, none⟩ = some (.string ⟨#[]⟩)) (h6 : w.cell? ⟨g3, 2, none⟩ = some (.slice none 0 0)) (h7 : w.cell? ⟨g3, 3, none⟩ = some (.slice none 0 0)) :
    CV 0 w (.slice none 0 0) (.slice (some ⟨g1, 0, none⟩) 1 c1) (.slice (some ⟨g2, 0, none⟩) 1 c2) (.slice (some ⟨g3, 0, none⟩) 1 c3) cf0 where
  st := ⟨none, 0, rfl, fun i s hi => by simp [cf0] at hi⟩
  fi := ⟨_, c1, rfl, fun i p hi => by
    match i, hi with
    | 0, hi => cases hi; exact ⟨by decide, by decide, g1, 0, rfl, h1, h2⟩
    | i + 1, hi => simp [cf0] at hi⟩
  us := ⟨_, c2, rfl, (fun e => by cases e), by simp [cf0], fun i p hi => by
    match i, hi with
    | 0, hi => cases hi; exact ⟨g2, 0, rfl, h3, by unfold maxLen; decide, trivial⟩
    | i + 1, hi => simp [cf0] at hi⟩
  un := ⟨_, c3, rfl, by simp [cf0], fun i p hi => by
    match i, hi with
    | 0, hi => cases hi; exact ⟨g3, 0, rfl, ⟨h4, h5, by unfold maxLen; decide, by unfold maxLen; decide, _, _, h6, h7, ⟨none, 0, rfl, fun _ => rfl, by simp, fun i s h => by simp at h⟩, ⟨none, 0, rfl, fun _ => rfl, by simp, fun i s h => by simp at h⟩⟩, trivial⟩
    | i + 1, hi => simp [cf0] at hi⟩
  usz := fun s hs => by simp [cf0] at hs; rw [hs]; decide
  unz := fun s hs => by simp [cf0] at hs; rw [hs]; decide
  len := by simp [cf0]
set_option maxHeartbeats 4000000 in
set_option maxRecDepth 100000 in
theorem shown19_any (w : World) : Calls Tryz.prog 4 #[] w fun e w' => e = .returned (.bool true) ∧ Below w.heap.size w w' := by
  go_enter Tryz.func4, Tryz.ntmps4
  go_wp2_with fail
  refine (sys_any (c := cf0) (cv0 (block_cell (block_alloc (block_alloc (block_new _ _ rfl) _) _) rfl) (block_cell (block_alloc (block_alloc (block_new _ _ rfl) _) _) rfl) (block_cell (block_alloc (block_new _ _ (by simp)) _) rfl)
    (block_cell (block_new _ _ (by simp)) rfl) (block_cell (block_new _ _ (by simp)) rfl) (block_cell (block_new _ _ (by simp)) rfl) (block_cell (block_new _ _ (by simp)) rfl))).mono ?_
  rintro e w1 ⟨a, b, u, rfl, hsw, hb1⟩
  have hB1 : Below w.heap.size w w1 := Below.next ((((Below.refl _ _).alloc (Nat.le_refl _) _).alloc (by simp) _).alloc (by simp; omega) _) hb1
  have hsv := hsw.sv
  obtain ⟨fa, fk, rfl, _, hf⟩ := hsv.fi
  obtain ⟨ua, uk, rfl, _, _, _⟩ := hsv.us
  obtain ⟨na, nk, rfl, _, hn⟩ := hsv.un
  obtain ⟨x1, o1, d1, rfl, k1, k2, k3, hd⟩ := hf 0 (fileOf (⟨#[101, 116, 99, 47, 97]⟩, ⟨#[120]⟩)) rfl
  obtain ⟨x2, o2, rfl, ⟨l0, l1, _, _, r, f, l2, l3, _⟩, _⟩ := hn 0 (unitOf ⟨⟨#[110, 101, 116]⟩, ⟨#[]⟩, [], []⟩) rfl
  have e1 : (fileOf (⟨#[101, 116, 99, 47, 97]⟩, ⟨#[120]⟩)).data = [120, 10] := by
    unfold fileOf
    rw [if_neg (by decide)]
    rfl
  have e2 : (unitOf ⟨⟨#[110, 101, 116]⟩, ⟨#[]⟩, [], []⟩).start = ⟨#[110, 101, 116]⟩ := by
    unfold unitOf
    rw [if_pos rfl]
  rw [e1] at hd
  rw [e2] at l1
  have ht := hd.text
  have hd' := hd
  obtain ⟨y1, m1, z1, rfl⟩ := hd.one
  have hfl : (cf0.fs.map fileOf).length = 1 := rfl
  have hul : cf0.us.length = 1 := rfl
  have hnl : (cf0.un.map unitOf).length = 1 := rfl
  rw [hfl, hul, hnl]
  clear hsw hsv hf hn hd e1 e2 hfl hul hnl k1 l0 l2 l3
  simp only [Nat.zero_mul, Nat.add_zero] at k2 k3 l1
  have t1 : ∀ x : Value, (convert 40 9 (.slice y1 m1 z1)).run Tryz.prog (w1.alloc (.cells #[.slice (some ⟨x1, o1, none⟩) 1 fk, .slice ua 1 uk, .slice (some ⟨x2, o2, none⟩) 1 nk] 32 (0, 0))) = .ok (.string ⟨#[120, 10]⟩) (w1.alloc (.cells #[.slice (some ⟨x1, o1, none⟩) 1 fk, .slice ua 1 uk, .slice (some ⟨x2, o2, none⟩) 1 nk] 32 (0, 0))) := fun _ => (hd'.keeps ((Below.refl _ _).alloc (Nat.le_refl _) _)).text
  have t2 := t1 undef
  have hlt1 := World.block_lt_of_cell? w1 _ k2
  have hlt2 := World.block_lt_of_cell? w1 _ l1
  clear t1 ht hd'
  go_wp2_with fail
  go_ret
  exact ⟨rfl, hB1.alloc hB1.size _⟩
end Go.Proofs.YthefajkihnlgfaaGreatDoor

