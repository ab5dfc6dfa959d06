/- What is gone, as the program's closure tells it. -/
import Derived.Test.YtlhlbckmifgeeaaDiffB
import Derived.Test.YtlhlbckmifgeeaaClos
namespace Go.Proofs.Ytlhlbckmifgeeaa
open Go.RowKit Go.Shelf

/-- The map of what stays. -/
def FS (S : NSet) : FMap := fun s => if S s then some (.bool true) else none
theorem zeroBool (w : World) : (zeroValue 4).run Try.prog w = .ok (.bool false) w := by kernel_rfl
theorem FS_look (S : NSet) (s : ByteArray) : (FS S s).getD (.bool false) = .bool (S s) := by
  unfold FS
  cases S s <;> rfl
theorem findI_in (us : List U) (s : ByteArray) : decide (0 ≤ findI us s) = inU us s := by
  unfold findI inU
  cases findU us s with
  | none => rfl
  | some k => simp
/-- What the closures and loops of Diff look at: three boxes. -/
structure DEnv (W : World) (bm bo bf mb n : Nat) (S : NSet) (vo vf : Value) (old fresh : List U) : Prop where
  cm : W.cell? ⟨bm, 0, none⟩ = some (.map (some mb))
  map : MF W mb n (FS S)
  co : W.cell? ⟨bo, 0, none⟩ = some vo
  cf : W.cell? ⟨bf, 0, none⟩ = some vf
  old : UL W vo old
  fresh : UL W vf fresh
theorem DEnv.keeps {W W' : World} {bm bo bf mb n : Nat} {S : NSet} {vo vf : Value} {old fresh : List U} (hb : Below W.heap.size W W') (h : DEnv W bm bo bf mb n S vo vf old fresh) : DEnv W' bm bo bf mb n S vo vf old fresh :=
  ⟨cell_keeps hb h.cm, h.map.below hb, cell_keeps hb h.co, cell_keeps hb h.cf, h.old.keeps hb, h.fresh.keeps hb⟩
theorem UL.shape {w : World} {v : Value} {us : List U} (h : UL w v us) : ∃ a cap, v = .slice a us.length cap := by
  obtain ⟨a, cap, h, _⟩ := h
  exact ⟨a, cap, h⟩
set_option maxHeartbeats 1000000 in
set_option maxRecDepth 100000 in
theorem gone_any {W : World} {bm bo bf mb n : Nat} {S : NSet} {vo vf : Value} {old fresh : List U} (h : DEnv W bm bo bf mb n S vo vf old fresh) {r : ByteArray} (hr : r.size ≤ maxLen) :
    Calls Try.prog 30 #[.string r, .pointer (some ⟨bm, 0, none⟩), .pointer (some ⟨bo, 0, none⟩), .pointer (some ⟨bf, 0, none⟩)] W fun e w' => e = .returned (.bool (goneB old fresh S r)) ∧ Below W.heap.size W w' := by
  have HIO := Lib.hid (fun (w' : World) (hb : Below W.heap.size W w') => index_any (h.old.keeps hb) r)
  have HIF := Lib.hid (fun (w' : World) (hb : Below W.heap.size W w') => index_any (h.fresh.keeps hb) r)
  have HE : Hid (goneB old fresh S r = (!S r && (decide (0 ≤ findI old r) || decide (0 ≤ findI fresh r)))) := Lib.hid (by rw [findI_in, findI_in]; rfl)
  obtain ⟨ao, co', rfl⟩ := h.old.shape
  obtain ⟨af, cf', rfl⟩ := h.fresh.shape
  have c1 := h.cm
  have c2 := h.co
  have c3 := h.cf
  have hl1 := h.map.look Try.underlying50 zeroBool hr
  rw [FS_look] at hl1
  generalize goneB old fresh S r = R at *
  obtain ⟨x, hx⟩ : ∃ x, findI old r = x := ⟨_, rfl⟩
  obtain ⟨y, hy⟩ : ∃ y, findI fresh r = y := ⟨_, rfl⟩
  rw [hx] at HIO HE
  rw [hy] at HIF HE
  clear hx hy h
  cases hS : S r
  · rw [hS] at HE hl1
    by_cases h0 : 0 ≤ x
    · have hd : decide (0 ≤ x) = true := decide_eq_true h0
      have HE2 : Hid (R = true) := Lib.hid (by rw [HE.out, hd]; rfl)
      clear HE HIF c3
      go_enter Try.func30, Try.ntmps30
      go_wp2_with fail
      refine (HIO.out _ (Below.refl _ _)).mono ?_
      rintro e w2 ⟨rfl, hb2⟩
      go_wp2_with fail
      go_ret
      exact ⟨by rw [HE2.out]; rfl, hb2⟩
    · have hd : decide (0 ≤ x) = false := decide_eq_false h0
      have HE2 : Hid (R = decide (0 ≤ y)) := Lib.hid (by rw [HE.out, hd]; simp)
      clear HE
      go_enter Try.func30, Try.ntmps30
      go_wp2_with fail
      refine (HIO.out _ (Below.refl _ _)).mono ?_
      rintro e w2 ⟨rfl, hb2⟩
      have c3' := cell_keeps hb2 c3
      go_wp2_with fail
      refine (HIF.out _ hb2).mono ?_
      rintro e w3 ⟨rfl, hb3⟩
      go_wp2_with fail
      go_ret
      exact ⟨by rw [HE2.out]; rfl, hb2.trans (hb3.mono hb2.size)⟩
  · rw [hS] at HE hl1
    have HE2 : Hid (R = false) := Lib.hid (by rw [HE.out]; rfl)
    clear HE HIF HIO c3 c2
    go_enter Try.func30, Try.ntmps30
    go_wp2_with fail
    go_ret
    exact ⟨by rw [HE2.out]; rfl, Below.refl _ _⟩
theorem entersD1 : Enters Try.prog 30 := enters_of Try.func30 (by kernel_rfl) rfl
theorem gone_pred {W : World} {bm bo bf mb n : Nat} {S : NSet} {vo vf : Value} {old fresh : List U} (h : DEnv W bm bo bf mb n S vo vf old fresh) {ss : List ByteArray} (hs : ∀ s ∈ ss, s.size ≤ maxLen) :
    PredS 30 #[.pointer (some ⟨bm, 0, none⟩), .pointer (some ⟨bo, 0, none⟩), .pointer (some ⟨bf, 0, none⟩)] W ss (goneB old fresh S) :=
  fun s hm _ hb => gone_any (h.keeps hb) (hs s hm)
end Go.Proofs.Ytlhlbckmifgeeaa
