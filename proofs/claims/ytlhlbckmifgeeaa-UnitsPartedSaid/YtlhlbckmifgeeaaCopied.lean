/- The law's own copy of units: it reads as they do. -/
import Derived.Test.YtlhlbckmifgeeaaOwn
import Derived.Test.YtlhlbckmifgeeaaLarge
import Derived.Lib.SmallJoins
namespace Go.Proofs.Ytlhlbckmifgeeaa
open Go.RowKit

/-- The cells of units, one behind the other. -/
def UFlat (p : Nat → Prop) (w : World) (xs : List Value) (us : List U) : Prop :=
  xs.length = us.length * 4 ∧ ∀ i u, us[i]? = some u → xs[i * 4]? = some (.string u.name) ∧ xs[i * 4 + 1]? = some (.string u.start) ∧ u.name.size ≤ maxLen ∧ u.start.size ≤ maxLen ∧
    ∃ r f, xs[i * 4 + 2]? = some r ∧ xs[i * 4 + 3]? = some f ∧ SLP p w r u.req ∧ SLP p w f u.aft

theorem UFlat.nil (p : Nat → Prop) (w : World) : UFlat p w [] [] := ⟨rfl, fun i u h => by simp at h⟩
theorem UFlat.kept {p : Nat → Prop} {w w' : World} {xs : List Value} {us : List U} (h : UFlat p w xs us) (hk : Kept p w w') : UFlat p w' xs us := by
  refine ⟨h.1, fun i u hu => ?_⟩
  obtain ⟨h1, h2, h3, h4, r, f, h5, h6, h7, h8⟩ := h.2 i u hu
  exact ⟨h1, h2, h3, h4, r, f, h5, h6, h7.kept hk, h8.kept hk⟩
theorem UFlat.mono {p p' : Nat → Prop} {w : World} {xs : List Value} {us : List U} (h : UFlat p w xs us) (hk : ∀ b, p b → p' b) : UFlat p' w xs us := by
  refine ⟨h.1, fun i u hu => ?_⟩
  obtain ⟨h1, h2, h3, h4, r, f, h5, h6, h7, h8⟩ := h.2 i u hu
  exact ⟨h1, h2, h3, h4, r, f, h5, h6, h7.mono hk, h8.mono hk⟩
theorem UFlat.there {p : Nat → Prop} {w : World} {xs : List Value} {us : List U} (h : UFlat p w xs us) : UFlat (fun b => p b ∧ b < w.heap.size) w xs us := by
  refine ⟨h.1, fun i u hu => ?_⟩
  obtain ⟨h1, h2, h3, h4, r, f, h5, h6, h7, h8⟩ := h.2 i u hu
  exact ⟨h1, h2, h3, h4, r, f, h5, h6, h7.there, h8.there⟩
theorem UFlat.snoc {p : Nat → Prop} {w : World} {xs : List Value} {us : List U} {u : U} {r f : Value} (h : UFlat p w xs us) (hn : u.name.size ≤ maxLen) (hs : u.start.size ≤ maxLen) (hr : SLP p w r u.req) (hf : SLP p w f u.aft) :
    UFlat p w (xs ++ [.string u.name, .string u.start, r, f]) (us ++ [u]) := by
  refine ⟨by simp [h.1]; omega, fun i x hx => ?_⟩
  by_cases hi : i < us.length
  · rw [List.getElem?_append_left hi] at hx
    have hl := h.1
    obtain ⟨h1, h2, h3, h4, r', f', h5, h6, h7, h8⟩ := h.2 i x hx
    exact ⟨by rw [List.getElem?_append_left (by omega)]; exact h1, by rw [List.getElem?_append_left (by omega)]; exact h2, h3, h4, r', f', by rw [List.getElem?_append_left (by omega)]; exact h5, by rw [List.getElem?_append_left (by omega)]; exact h6, h7, h8⟩
  · have hlt := (List.getElem?_eq_some_iff.1 hx).1
    simp at hlt
    obtain rfl : i = us.length := by omega
    simp at hx
    subst hx
    have hl := h.1
    refine ⟨?_, ?_, hn, hs, r, f, ?_, ?_, hr, hf⟩
    · rw [List.getElem?_append_right (by omega), show us.length * 4 - xs.length = 0 by omega]; rfl
    · rw [List.getElem?_append_right (by omega), show us.length * 4 + 1 - xs.length = 1 by omega]; rfl
    · rw [List.getElem?_append_right (by omega), show us.length * 4 + 2 - xs.length = 2 by omega]; rfl
    · rw [List.getElem?_append_right (by omega), show us.length * 4 + 3 - xs.length = 3 by omega]; rfl

theorem UCP.there {p : Nat → Prop} {w : World} {b o : Nat} {u : U} (h : UCP p w b o u) : UCP (fun b => b < w.heap.size) w b o u := by
  obtain ⟨h1, h2, h3, h4, r, f, h5, h6, h7, h8⟩ := h
  exact ⟨h1, h2, h3, h4, r, f, h5, h6, h7.there.mono fun _ hb => hb.2, h8.there.mono fun _ hb => hb.2⟩

/-- A list of units of the call's own, read. -/
theorem ULP.of_own {p : Nat → Prop} {w : World} {base : Nat} {v : Value} {us : List U} {n : Nat} {xs : List Value} (hown : w.ownsRow base 32 4 v n xs) (hf : UFlat p w xs us) (hl : us.length ≤ 1759218604390) :
    ULP (fun b => base ≤ b ∧ v.ownBlock = some b) p w v us := by
  obtain ⟨hx, hc⟩ := hown
  have hn : n = us.length := by have := hf.1; omega
  subst hn
  rcases hc with ⟨rfl, h0⟩ | ⟨g, cap, cur, rfl, hb, hh, hle, hm, hsz, htk⟩
  · refine ⟨none, 0, by rw [h0], hl, fun i u hu => ?_⟩
    have := (List.getElem?_eq_some_iff.1 hu).1
    omega
  · refine ⟨some ⟨g, 0, none⟩, cap, rfl, hl, fun i u hu => ⟨g, 0, rfl, ?_, hb, rfl⟩⟩
    have hlt := (List.getElem?_eq_some_iff.1 hu).1
    have cell : ∀ j x, j < us.length * 4 → xs[j]? = some x → w.cell? ⟨g, j, none⟩ = some x := by
      intro j x hj hx
      rw [cell_of_row w g j cur 32 (0, 0) hh]
      rw [← htk, List.getElem?_take, if_pos hj] at hx
      simpa using hx
    obtain ⟨h1, h2, h3, h4, r, f, h5, h6, h7, h8⟩ := hf.2 i u hu
    rw [Nat.zero_add]
    exact ⟨cell _ _ (by omega) h1, cell _ _ (by omega) h2, h3, h4, r, f, cell _ _ (by omega) h5, cell _ _ (by omega) h6, h7, h8⟩

/-- A list of strings of the call's own, read: the first of them. -/
theorem SLP.of_own {w : World} {base : Nat} {g n cap m : Nat} {ss : List ByteArray} {xs : List Value} (hown : w.ownsRow base 9 1 (.slice (some ⟨g, 0, none⟩) n cap) n xs) (hx : ∃ r, xs = ss.map Value.string ++ r) (hl : ss.length ≤ 8796093021952) (hm : m = ss.length) (hs : ∀ s ∈ ss, s.size ≤ maxLen) :
    SLP (fun b => b = g) w (.slice (some ⟨g, 0, none⟩) m cap) ss := by
  subst hm
  obtain ⟨r, rfl⟩ := hx
  obtain ⟨hxl, hc⟩ := hown
  rcases hc with ⟨hh, _⟩ | ⟨g', cap', cur, hv, hb, hh, hle, hm, hsz, htk⟩
  · cases hh
  · simp at hv
    obtain ⟨rfl, rfl⟩ := hv
    refine ⟨_, _, rfl, (fun h => by cases h), hl, fun i s hi => ⟨g, 0, rfl, ?_, hs s (List.mem_of_getElem? hi), rfl⟩⟩
    rw [Nat.zero_add, cell_of_row w g i cur 9 (0, 0) hh]
    have hlt := (List.getElem?_eq_some_iff.1 hi).1
    have : (ss.map Value.string ++ r)[i]? = some (Value.string s) := by
      rw [List.getElem?_append_left (by simpa using hlt), List.getElem?_map, hi]; rfl
    rw [← htk, List.getElem?_take] at this
    split at this
    · simpa using this
    · cases this

theorem SLP.sizes {p : Nat → Prop} {w : World} {v : Value} {ss : List ByteArray} (h : SLP p w v ss) : ∀ s ∈ ss, s.size ≤ maxLen := by
  intro s hs
  obtain ⟨i, hi⟩ := List.getElem?_of_mem hs
  obtain ⟨_, _, _, _, _, hc⟩ := h
  obtain ⟨_, _, _, _, h2, _⟩ := hc i s hi
  exact h2

set_option maxHeartbeats 400000 in
theorem copied_law {v : Value} {us : List U} {w : World} (h1 : UL w v us) (hsz : sizeU us ≤ 2000) :
    Calls Try.prog 10 #[v] w fun e w' => ∃ v', e = .returned v' ∧ UL w' v' us ∧ Below w.heap.size w w' := by
  obtain ⟨a, cap, rfl, hm, hc⟩ := h1
  have hln : us.length ≤ 2000 := by unfold sizeU at hsz; omega
  generalize hn : us.length = n at *
  have HN := Lib.hid hn
  have HC := Lib.hid hc
  clear hn hc
  go_enter Try.func10, Try.ntmps10
  go_wp2
  go_loopw [3, 4] (fun t i wr => ∃ (k : Nat) (xs : List Value), k ≤ n ∧ i = .int .i64 k ∧ wr.ownsRow w.heap.size 32 4 t k xs ∧ Below w.heap.size w wr ∧ UFlat (fun b => w.heap.size ≤ b ∧ t.ownBlock ≠ some b) wr xs (us.take k)) (fun _ i _ => n - (intOf i).toNat)
  case atStart => exact ⟨0, [], Nat.zero_le _, rfl, World.ownsRow_nil _ _ _ _, Below.refl _ _, UFlat.nil _ _⟩
  case round =>
    obtain ⟨k, xs, hk, rfl, hown, hb, hflat⟩ := hrel
    by_cases hlt : k < n
    · obtain ⟨u, hu⟩ := get_lt us (k := k) (by have := HN.out; omega)
      obtain ⟨b, off, rfl, hcell, _⟩ := HC.out k _ hu
      have HU := Lib.hid hu
      clear hu
      obtain ⟨p0, p1, hsn, hss, r, f, p2, p3, hr, hf⟩ := UCP.keeps hb hcell
      have hr' := hr
      have hf' := hf
      obtain ⟨ra, rc, rfl, _, hrl, _⟩ := hr'
      obtain ⟨fa, fc, rfl, _, hfl, _⟩ := hf'
      have hlr : u.req.length ≤ 2000 := by have := sizeTo_le us (k + 1); rw [sizeTo_succ HU.out] at this; omega
      have hlf : u.aft.length ≤ 2000 := by have := sizeTo_le us (k + 1); rw [sizeTo_succ HU.out] at this; omega
      have hbs := hb.size
      have tok1 : True := trivial
      have tok2 : True := trivial
      have tok3 : True := trivial
      have tok4 : True := trivial
      have tok5 : True := trivial
      have hblt : b < wr.heap.size := World.block_lt_of_cell? wr _ p0
      have hne1 : ¬ b = wr.heap.size := by omega
      have hne2 : ¬ wr.heap.size = b := by omega
      go_wp2_with first
        | (at_builtin; have _t := tok1
           refine append_strs rfl _ _ rfl w.heap.size (.slice (some ⟨wr.heap.size + 1, 0, none⟩) 0 0) 0 [] rfl (ownsRow_new0 (by simp <;> omega) (by simp)) (.slice ra u.req.length rc) u.req _ rfl (SLP.keeps (by (repeat' (first | (with_reducible exact Below.refl _ _) | (with_reducible assumption) | (with_reducible refine below_drewN ?_ _) | (with_reducible refine Below.drew ?_) | (with_reducible refine Below.alloc ?_ ?_ _) | (with_reducible refine Below.setCell ?_ ?_ _) | omega | (simp; done) | (simp; omega)))) hr) (by omega) (by simp <;> omega) ?_
           intro v1 w1 hown1 hg1 hl1
           have H1 := Lib.hid (block_grown (block_alloc (block_new wr (Obj.cells #[Value.string u.name, Value.string u.start, Value.slice ra u.req.length rc, Value.slice fa u.aft.length fc] 32) rfl) (Obj.cells #[] 9)) hg1 (notRow (liesS (Nat.le_refl _)) (by omega)))
           have hbw1 : Below wr.heap.size wr w1 := Below.grown (w := (wr.alloc _).alloc _) (by (repeat' (first | (with_reducible exact Below.refl _ _) | (with_reducible assumption) | (with_reducible refine below_drewN ?_ _) | (with_reducible refine Below.drew ?_) | (with_reducible refine Below.alloc ?_ ?_ _) | (with_reducible refine Below.setCell ?_ ?_ _) | omega | (simp; done) | (simp; omega)))) hg1 (by simp <;> omega) (liesS (by omega))
           have hz1 : wr.heap.size + 2 ≤ w1.heap.size := by have := hg1.size; simp at this; omega
           have HL1 := Lib.hid (lies (L := wr.heap.size + 1) hl1 (liesS (Nat.le_refl _)) (by simp <;> omega))
           clear hl1 tok1)
        | (at_builtin; have _t := tok2
           refine append_str rfl _ _ rfl w.heap.size v1 (0 + u.req.length) _ rfl (hown1.alloc _) w1.heap.size _ ⟨#[33]⟩ rfl (block_cell (block_new _ _ rfl) rfl) (by omega) (by simp <;> omega) ?_
           intro v2 w2 hown2 hg2 hl2
           obtain ⟨g2, cap2, e2⟩ := Joins.ownsRow_form hown2 (by omega)
           subst e2
           have hc2 : u.req.length + 1 ≤ cap2 := by have := ownsRow_cap hown2; omega
           have H2 := Lib.hid (block_grown (block_alloc H1.out (Obj.cells #[Value.string ⟨#[33]⟩] 9)) hg2 (notRow HL1.out (by omega)))
           have hbw2 : Below wr.heap.size wr w2 := Below.grown (w := w1.alloc _) (hbw1.alloc (by omega) _) hg2 (by simp <;> omega) (fun j hj => by have := HL1.out j hj; omega)
           have hz2 : w1.heap.size + 1 ≤ w2.heap.size := by have := hg2.size; simp at this; omega
           have q23 := block_cell (i := 3) (block_alloc H2.out (Obj.cells #[] 9)) rfl
           have HL2 := Lib.hid (lies (L := wr.heap.size + 1) hl2 HL1.out (by simp <;> omega))
           clear hl2 tok2 H1)
        | (at_builtin; have _t := tok3
           refine append_strs rfl _ _ rfl w.heap.size (.slice (some ⟨w2.heap.size, 0, none⟩) 0 0) 0 [] rfl (ownsRow_new0 (by omega) rfl) (.slice fa u.aft.length fc) u.aft _ rfl (SLP.keeps (hbw2.alloc (by omega) _) hf) (by omega) (by simp <;> omega) ?_
           intro v3 w3 hown3 hg3 hl3
           have H3 := Lib.hid (block_grown (block_alloc H2.out (Obj.cells #[] 9)) hg3 (notRow (liesS (Nat.le_refl _)) (by omega)))
           have hbw3 : Below wr.heap.size wr w3 := Below.grown (w := w2.alloc _) (hbw2.alloc (by omega) _) hg3 (by simp <;> omega) (liesS (by omega))
           have hz3 : w2.heap.size + 1 ≤ w3.heap.size := by have := hg3.size; simp at this; omega
           have HL3 := Lib.hid (lies (L := w2.heap.size) hl3 (liesS (Nat.le_refl _)) (by simp))
           clear hl3 tok3 q23 H2)
        | (at_builtin; have _t := tok4
           refine append_str rfl _ _ rfl w.heap.size v3 (0 + u.aft.length) _ rfl (hown3.alloc _) w3.heap.size _ ⟨#[33]⟩ rfl (block_cell (block_new _ _ rfl) rfl) (by omega) (by simp <;> omega) ?_
           intro v4 w4 hown4 hg4 hl4
           obtain ⟨g4, cap4, e4⟩ := Joins.ownsRow_form hown4 (by omega)
           subst e4
           have hc4 : u.aft.length + 1 ≤ cap4 := by have := ownsRow_cap hown4; omega
           have H4 := Lib.hid (block_grown (block_alloc H3.out (Obj.cells #[Value.string ⟨#[33]⟩] 9)) hg4 (notRow HL3.out (by omega)))
           have hbw4 : Below wr.heap.size wr w4 := Below.grown (w := w3.alloc _) (hbw3.alloc (by omega) _) hg4 (by simp <;> omega) (fun j hj => by have := HL3.out j hj; omega)
           have hz4 : w3.heap.size + 1 ≤ w4.heap.size := by have := hg4.size; simp at this; omega
           have q40 := block_cell (i := 0) H4.out rfl
           have q41 := block_cell (i := 1) H4.out rfl
           have q42 := block_cell (i := 2) H4.out rfl
           have q43 := block_cell (i := 3) H4.out rfl
           have f42 := block_free (i := 2) H4.out
           have f43 := block_free (i := 3) H4.out
           have p42 := cell_keeps hbw4 p2
           have p43 := cell_keeps hbw4 p3
           have HL4 := Lib.hid (lies (L := w2.heap.size) hl4 HL3.out (by simp <;> omega))
           clear hl4 tok4 H3)
        | (at_builtin; have _t := tok5
           refine append_unit rfl _ _ rfl w.heap.size u3 k xs rfl (own_below hown (by (repeat' (first | (with_reducible exact Below.refl _ _) | (with_reducible assumption) | (with_reducible refine below_drewN ?_ _) | (with_reducible refine Below.drew ?_) | (with_reducible refine Below.alloc ?_ ?_ _) | (with_reducible refine Below.setCell ?_ ?_ _) | omega | (simp; done) | (simp; omega))))) _ _ (.string u.name) (.string u.start) (.slice (some ⟨g2, 0, none⟩) u.req.length cap2) (.slice (some ⟨g4, 0, none⟩) u.aft.length cap4) rfl (block_cell (block_new _ _ (by simp)) rfl) (block_cell (block_new _ _ (by simp)) rfl) (block_cell (block_new _ _ (by simp)) rfl) (block_cell (block_new _ _ (by simp)) rfl) rfl rfl rfl rfl (by omega) (by simp <;> omega) ?_
           intro v5 w5 hown5 hg5 hl5
           clear tok5)
      go_roundw
      case rel =>
        have hL2 := HL2.out g2 rfl
        have hL4 := HL4.out g4 rfl
        have hlo := hown.lt
        have hg2lt := (hown2.lt g2 rfl).2
        have hg4lt := (hown4.lt g4 rfl).2
        have hk2 : Kept (fun b => b = g2) w2 w5 := kept_one fun o ho => block_grown (block_alloc (block_setCell (block_setCell (block_grown (block_alloc (block_grown (block_alloc ho _) hg3 (notRow (liesS (Nat.le_refl _)) (by omega))) _) hg4 (notRow HL3.out (by omega))) (by simp; omega) _) (by simp; omega) _) _) hg5 (fun e => by have := hlo g2 e.symm; omega)
        have hk4 : Kept (fun b => b = g4) w4 w5 := kept_one fun o ho => block_grown (block_alloc (block_setCell (block_setCell ho (by simp; omega) _) (by simp; omega) _) _) hg5 (fun e => by have := hlo g4 e.symm; omega)
        have hsr := ((SLP.of_own hown2 ⟨[.string ⟨#[33]⟩], by simp⟩ (by omega) rfl hr.sizes).kept hk2)
        have hsf := ((SLP.of_own hown4 ⟨[.string ⟨#[33]⟩], by simp⟩ (by omega) rfl hf.sizes).kept hk4)
        refine ⟨k + 1, _, by omega, by go_num, hown5, ?_, ?_⟩
        · exact Below.grown (w := ((w4.setCell _ _).setCell _ _).alloc _) ((((hb.trans (hbw4.mono hb.size)).setCell (by simp; omega) _).setCell (by simp; omega) _).alloc (by simp; omega) _) hg5 (by simp; omega) (fun j hj => (hlo j hj).1)
        · rw [List.take_succ_eq_append_getElem (by rw [HN.out]; omega), show us[k]'(by rw [HN.out]; omega) = u from (List.getElem?_eq_some_iff.1 HU.out).2]
          refine UFlat.snoc ?_ hsn hss (hsr.mono fun b hbb => ?_) (hsf.mono fun b hbb => ?_)
          · refine (hflat.there.kept (w' := w5) (Kept.trans (Kept.of_below _ (((hbw4.setCell (by simp) _).setCell (by simp) _).alloc (by simp; omega) _)) (Kept.of_grown hg5 fun b hbb e => hbb.1.2 e.symm) (by simp; omega))).mono fun b hbb => ⟨hbb.1.1, fun e => ?_⟩
            rcases hl5 with h | h
            · rw [h] at e; exact hbb.1.2 e
            · rw [h] at e; simp at e; have := hbb.2; omega
          · subst hbb
            refine ⟨by omega, fun e => ?_⟩
            rcases hl5 with h | h
            · rw [h] at e; have := hlo _ e; omega
            · rw [h] at e; simp at e; omega
          · subst hbb
            refine ⟨by omega, fun e => ?_⟩
            rcases hl5 with h | h
            · rw [h] at e; have := hlo _ e; omega
            · rw [h] at e; simp at e; omega
      case measure => simp [intOf]; omega
    · obtain rfl : k = n := by omega
      rw [List.take_of_length_le (by rw [HN.out]; exact Nat.le_refl _)] at hflat
      have hres := Lib.hid (ULP.of_own hown hflat (by rw [HN.out]; omega)).any
      go_wp2
      go_ret
      exact ⟨_, rfl, hres.out, hb⟩
end Go.Proofs.Ytlhlbckmifgeeaa
