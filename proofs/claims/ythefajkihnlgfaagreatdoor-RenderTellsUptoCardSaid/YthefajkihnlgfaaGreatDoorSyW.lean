/- render.System: the walk. -/
import Derived.Test.YthefajkihnlgfaaGreatDoorSyR
import Derived.Test.YthefajkihnlgfaaGreatDoorM34
import Derived.Deep.RegionWith
import Derived.Deep.DeepCutAuto
import Derived.Deep.CutRange
namespace Go.Proofs.YthefajkihnlgfaaGreatDoor
open Go.RowKit Go.Shelf
set_option linter.unusedSimpArgs false
set_option linter.unusedVariables false
/-- Four cells a unit, whose lists are the call's own. -/
def UOw (base : Nat) (w : World) (xs : List Value) (us : List U) : Prop :=
  xs.length = us.length * 4 ∧ ∀ (i : Nat) (u : U), us[i]? = some u → xs[i * 4]? = some (.string u.name) ∧ xs[i * 4 + 1]? = some (.string u.start) ∧ u.name.size ≤ maxLen ∧ u.start.size ≤ maxLen ∧
    ∃ r f, xs[i * 4 + 2]? = some r ∧ xs[i * 4 + 3]? = some f ∧ OS base w r u.req ∧ OS base w f u.aft ∧ (u.req.length ≤ 8796093021952 ∧ ∀ s, s ∈ u.req → s.size ≤ maxLen) ∧ (u.aft.length ≤ 8796093021952 ∧ ∀ s, s ∈ u.aft → s.size ≤ maxLen)
theorem UOw.nil (base : Nat) (w : World) : UOw base w [] [] := ⟨rfl, fun i u h => by simp at h⟩
theorem UOw.kt {base : Nat} {w w' : World} {xs : List Value} {us : List U} (h : UOw base w xs us) (hk : KT 9 w w') : UOw base w' xs us :=
  ⟨h.1, fun i u hu => by obtain ⟨h1, h2, h3, h4, r, f, h5, h6, h7, h8, h9⟩ := h.2 i u hu; exact ⟨h1, h2, h3, h4, r, f, h5, h6, own_kt h7 hk, own_kt h8 hk, h9⟩⟩
theorem UOw.flat {base : Nat} {w : World} {xs : List Value} {us : List U} (h : UOw base w xs us) : UFlat (fun _ => True) w xs us :=
  ⟨h.1, fun i u hu => by obtain ⟨h1, h2, h3, h4, r, f, h5, h6, h7, h8, h9, h10⟩ := h.2 i u hu; exact ⟨h1, h2, h3, h4, r, f, h5, h6, (h7.slp h9.1 h9.2).any, (h8.slp h10.1 h10.2).any⟩⟩
theorem UOw.snoc {base : Nat} {w : World} {xs : List Value} {us : List U} {u : U} {r f : Value} (h : UOw base w xs us) (hn : u.name.size ≤ maxLen) (hs : u.start.size ≤ maxLen) (hr : OS base w r u.req) (hf : OS base w f u.aft) (h1 : u.req.length ≤ 8796093021952 ∧ ∀ s, s ∈ u.req → s.size ≤ maxLen) (h2 : u.aft.length ≤ 8796093021952 ∧ ∀ s, s ∈ u.aft → s.size ≤ maxLen) :
    UOw base w (xs ++ [.string u.name, .string u.start, r, f]) (us ++ [u]) := by
  refine ⟨by simp [h.1]; omega, fun i x hx => ?_⟩
  by_cases hi : i < us.length
  · rw [List.getElem?_append_left hi] at hx
    have hl := h.1
    obtain ⟨k1, k2, k3, k4, r', f', k5, k6, k7, k8, k9⟩ := h.2 i x hx
    exact ⟨by rw [List.getElem?_append_left (by omega)]; exact k1, by rw [List.getElem?_append_left (by omega)]; exact k2, k3, k4, r', f', by rw [List.getElem?_append_left (by omega)]; exact k5, by rw [List.getElem?_append_left (by omega)]; exact k6, k7, k8, k9⟩
  · have hlt := (List.getElem?_eq_some_iff.1 hx).1
    simp at hlt
    obtain rfl : i = us.length := by omega
    simp at hx
    subst hx
    have hl := h.1
    refine ⟨?_, ?_, hn, hs, r, f, ?_, ?_, hr, hf, h1, h2⟩
    · rw [List.getElem?_append_right (by omega), show us.length * 4 - xs.length = 0 by omega]; rfl
    · rw [List.getElem?_append_right (by omega), show us.length * 4 + 1 - xs.length = 1 by omega]; rfl
    · rw [List.getElem?_append_right (by omega), show us.length * 4 + 2 - xs.length = 2 by omega]; rfl
    · rw [List.getElem?_append_right (by omega), show us.length * 4 + 3 - xs.length = 3 by omega]; rfl
theorem slp_sizes {p : Nat → Prop} {w : World} {v : Value} {ss : List ByteArray} (h : SLP p w v ss) : ss.length ≤ 8796093021952 ∧ ∀ s, s ∈ ss → s.size ≤ maxLen := by
  have h' := h
  obtain ⟨a, cap, rfl, _, hl, _⟩ := h'
  exact ⟨hl, SLP.sizes h⟩
/-- A system of the call's own. -/
structure SW (base : Nat) (w : World) (a b u : Value) (cf : Cf) : Prop where
  fi : FL w a (cf.fs.map fileOf)
  us : OS base w b cf.us
  usz : cf.us.length ≤ 8796093021952 ∧ ∀ s, s ∈ cf.us → s.size ≤ maxLen
  un : ∃ ys, w.ownsRow base 37 4 u cf.un.length ys ∧ UOw base w ys (cf.un.map unitOf)
  unz : cf.un.length ≤ 1048576
theorem SW.sv {base : Nat} {w : World} {a b u : Value} {cf : Cf} (h : SW base w a b u cf) : SV w a b u cf := by
  obtain ⟨ys, h1, h2⟩ := h.un
  exact ⟨h.fi, (h.us.slp h.usz.1 h.usz.2).any, (ULP.of_own h1 h2.flat (by rw [List.length_map]; have := h.unz; omega)).any⟩
set_option maxHeartbeats 8000000 in
set_option maxRecDepth 100000 in
theorem sys_any {d : Nat} {v0 v1 v2 v3 : Value} {c : Cf} {w : World} (h : CV d w v0 v1 v2 v3 c) :
    Calls Tryz.prog 7 #[.agg #[v0, v1, v2, v3]] w fun e w' => ∃ a b u, e = .returned (.agg #[a, b, u]) ∧ SW w.heap.size w' a b u c ∧ Below w.heap.size w w' := by
  have hst : ∃ a n k, v0 = .slice a n k := by obtain ⟨a, k, h, _⟩ := h.st; exact ⟨_, _, _, h⟩
  obtain ⟨sa, sn, sk, rfl⟩ := hst
  have hfi := h.fi
  obtain ⟨fa, fk, rfl, hpf⟩ := hfi
  have hus := h.us
  obtain ⟨ua, uk, rfl, _, huz, _⟩ := hus
  have hun := h.un
  obtain ⟨na, nk, rfl, hnz, hpu⟩ := hun
  have HF := Lib.hid hpf
  have HU := Lib.hid hpu
  have HUS := Lib.hid h.us
  obtain ⟨hl1, hl2, hl3, hl4⟩ := h.len
  clear h hpf hpu
  obtain ⟨nf, hnf⟩ : ∃ nf, c.fs.length = nf := ⟨_, rfl⟩
  obtain ⟨nu, hnu⟩ : ∃ nu, c.un.length = nu := ⟨_, rfl⟩
  obtain ⟨ns, hns⟩ : ∃ ns, c.us.length = ns := ⟨_, rfl⟩
  rw [hnf] at hl2 ⊢
  rw [hnu] at hl4 hnz ⊢
  rw [hns] at hl3 huz HUS ⊢
  have HNF := Lib.hid hnf
  have HNU := Lib.hid hnu
  have HNS := Lib.hid hns
  clear hnf hnu hns
  have HCL := Lib.hid (fun W (hW : Below w.heap.size w W) => clone_any (SLP.keeps hW HUS.out))
  go_enter Tryz.func7, Tryz.ntmps7
  go_wp2_with fail
  refine (HCL.out _ (((Below.refl _ _).alloc (Nat.le_refl _) _).alloc (by simp) _)).mono ?_
  rintro e w1 ⟨ub, rfl, hub, hb1⟩
  have hB1 : Below w.heap.size w w1 := Below.next (((Below.refl _ _).alloc (Nat.le_refl _) _).alloc (by simp) _) hb1
  have hcf1 := block_below (block_alloc (block_new w (.cells #[.slice sa sn sk, .slice fa nf fk, .slice ua ns uk, .slice na nu nk] 27 (0, 0)) rfl) (.cells #[.slice none 0 0, .slice none 0 0, .slice none 0 0] 32 (0, 0))) hb1
  have hrc1 := block_below (block_new (w.alloc (.cells #[.slice sa sn sk, .slice fa nf fk, .slice ua ns uk, .slice na nu nk] 27 (0, 0))) (.cells #[.slice none 0 0, .slice none 0 0, .slice none 0 0] 32 (0, 0)) (g := w.heap.size + 1) (by simp)) hb1
  have hz1 : w.heap.size + 2 ≤ w1.heap.size := by have := hb1.size; simp at this; omega
  have hub1 : OS w.heap.size w1 ub c.us := OS.mono hub (by simp; omega)
  obtain ⟨uba, ubk, rfl⟩ := own_shape hub1
  rw [HNS.out] at hub1 ⊢
  have cc1 := block_cell (i := 1) hcf1 rfl
  have hlt0 : w.heap.size < w1.heap.size := by omega
  go_wp2_with fail
  go_loopw [5, 6, 16] (fun _ _ i wr => ∃ (k : Nat) (fv : Value) (xs : List Value), k ≤ nf ∧ i = .int .i64 (k : Int) ∧ wr.heap[w.heap.size]? = some (.cells #[.slice sa sn sk, .slice fa nf fk, .slice ua ns uk, .slice na nu nk] 27 (0, 0)) ∧
      wr.heap[w.heap.size + 1]? = some (.cells #[.slice none 0 0, .slice none 0 0, .slice none 0 0] 32 (0, 0)) ∧ wr.heap[w1.heap.size]? = some (.cells #[fv, .slice uba ns ubk, .slice none 0 0] 32 (0, 0)) ∧
      OS w.heap.size wr (.slice uba ns ubk) c.us ∧ wr.ownsRow (w1.heap.size + 1) 42 3 fv k xs ∧ Hid (FFlat wr xs ((c.fs.take k).map fileOf)) ∧ Below w.heap.size w wr) (fun _ _ i _ => nf - (intOf i).toNat)
  case atStart => exact ⟨0, .slice none 0 0, [], Nat.zero_le _, rfl, block_alloc hcf1 _, block_alloc hrc1 _, block_new _ _ rfl, own_below hub1 ((Below.refl _ _).alloc (Nat.le_refl _) _), ⟨rfl, Or.inl ⟨rfl, rfl⟩⟩, Lib.hid (FFlat.nil _), hB1.alloc hB1.size _⟩
  case round =>
    clear hcf1 hrc1 hub1 cc1 hub
    obtain ⟨k, fv, xs, hk, rfl, hcf, hrc, hsy, hubr, hown, HFF, hb⟩ := hrel
    have c1 := block_cell (i := 1) hcf rfl
    have s0 := block_cell (i := 0) hsy rfl
    by_cases hlt : k < nf
    · have hltI : (k : Int) < (nf : Int) := by omega
      obtain ⟨p, hp⟩ := get_lt c.fs (k := k) (by have := HNF.out; omega)
      obtain ⟨hz1, hz2, b, off, rfl, k1, k2⟩ := HF.out k p hp
      have k1 := cell_keeps hb k1
      have k2 := cell_keeps hb k2
      have hlt1 := World.block_lt_of_cell? wr _ k1
      have hlt2 := World.block_lt_of_cell? wr _ c1
      have hlt3 := block_lt hsy
      have hfs : wr.frozen? ⟨w1.heap.size, 0, none⟩ = false := block_free hsy
      have HMT := Lib.hid (map_take_succ fileOf hp)
      by_cases ht : p.2 = ⟨#[]⟩
      · have hfile : fileOf p = ⟨p.1, []⟩ := by unfold fileOf; rw [if_pos ht]
        rw [ht] at k2
        have HFI := Lib.hid hfile
        clear ht hfile hp
        go_wp2_with (at_builtin
                     go_loud (refine append_entry rfl _ _ rfl (w1.heap.size + 1) fv k xs rfl (((hown.alloc _).alloc _).alloc _) (wr.heap.size + 2) 1 (.string p.1) (.int .i64 1) (.slice none 0 0) rfl (block_cell (block_new _ _ (by simp)) rfl) (block_cell (block_new _ _ (by simp)) rfl) (block_cell (block_new _ _ (by simp)) rfl) rfl rfl rfl (by omega) (by have := hlt3; simp; omega) ?_)
                     intro v' w4 hown4 hg4 hl4
                     have hn0 := own_ne hown hsy (by decide)
                     have hn1 := own_ne hown hcf (by decide)
                     have hn2 := own_ne hown hrc (by decide)
                     have hsy4 := block_grown (block_alloc (block_alloc (block_alloc hsy _) _) _) hg4 hn0.symm
                     have hcf4 := block_grown (block_alloc (block_alloc (block_alloc hcf _) _) _) hg4 hn1.symm
                     have hrc4 := block_grown (block_alloc (block_alloc (block_alloc hrc _) _) _) hg4 hn2.symm
                     have hB4 : Below w.heap.size w w4 := below_grown (((hb.alloc hb.size _).alloc (by have := hb.size; simp; omega) _).alloc (by have := hb.size; simp; omega) _) hg4 (by have := hb.size; simp; omega) (fun j hj => by have := (hown.lt j hj).1; omega)
                     have hkt : ∀ T : TypeId, 42 ≠ T → KT T wr w4 := fun T hT => ((((KT.refl _ wr).alloc _).alloc _).alloc _).grown (((hown.alloc _).alloc _).alloc _) hT hg4
                     have s04 := block_cell (i := 0) hsy4 rfl
                     have f04 := block_free (i := 0) hsy4
                     obtain ⟨a4, z4, rfl⟩ := own_shape hown4
                     have hne4 : (Value.slice a4 (k + 1) z4).ownBlock ≠ some w1.heap.size := own_ne hown4 hsy4 (by decide))
        go_roundw
        case rel =>
          refine ⟨k + 1, .slice a4 (k + 1) z4, _, by omega, by go_num, block_setCell hcf4 (by simp; omega) _, block_setCell hrc4 (by simp; omega) _, by simpa using block_set hsy4 (i := 0) (.slice a4 (k + 1) z4), own_kt (own_kt hubr (hkt _ (by decide))) ((KT.refl _ _).setCell hsy4 (by decide) _), ownsRow_setCell_below hown4 (by simp) _, Lib.hid ?_, hB4.setCell (p := ⟨w1.heap.size, 0, none⟩) (by simp; omega) _⟩
          rw [HMT.out, HFI.out]
          exact ((HFF.out.kt (hkt _ (by decide))).snoc (Or.inl ⟨rfl, rfl⟩)).kt ((KT.refl _ _).setCell hsy4 (by decide) _)
        case measure => simp [intOf]; omega
      · have hfile : fileOf p = ⟨p.1, (p.2 ++ ⟨#[10]⟩).data.toList⟩ := by
          unfold fileOf
          rw [if_neg ht, nw_app]
        have htl : (p.2.toList == []) = false := by simpa using eqs_false.2 ht
        have hte : p.2.toList.isEmpty = false := by simpa [List.isEmpty_iff] using htl
        have HFI := Lib.hid hfile
        have hsz1 : (p.2 ++ ⟨#[10]⟩).size = p.2.size + 1 := by rw [ByteArray.size_append]; rfl
        have hcv := fun W => run_bytes_of_string (P := Tryz.prog) W 9 40 5 (p.2 ++ ⟨#[10]⟩) Tryz.underlying9 Tryz.underlying40 Tryz.underlying5
        clear ht hfile hp
        go_upto_region 8 with fail
        obtain ⟨z, hz⟩ : ∃ z, grownCap ((wr.alloc (Obj.cells #[Value.string p.1, Value.string p.2] 39)).alloc (Obj.cells #[Value.string p.1, Value.int IntKind.i64 1, Value.slice none 0 0] 42)) (p.2.size + 1) 0 5 = z := ⟨_, rfl⟩
        rw [hz]
        refine with_world fun w3 hw3 => ?_
        have hbx3 : w3.heap[wr.heap.size + 1]? = some (.cells #[.string p.1, .int .i64 1, .slice (some ⟨wr.heap.size + 2, 0, none⟩) (p.2.size + 1) z] 42 (0, 0)) := by
          rw [hw3]
          exact block_alloc (block_new _ _ (by simp)) _
        have hB3 : Below wr.heap.size wr w3 := by rw [hw3]; (repeat' (first | (with_reducible exact Below.refl _ _) | (with_reducible assumption) | (with_reducible refine below_drewN ?_ _) | (with_reducible refine Below.drew ?_) | (with_reducible refine Below.alloc ?_ ?_ _) | (with_reducible refine Below.setCell ?_ ?_ _) | omega | (simp; done) | (simp; omega)))
        have hdb3 : DBy w3 (.slice (some ⟨wr.heap.size + 2, 0, none⟩) (p.2.size + 1) z) (p.2 ++ ⟨#[10]⟩).data.toList := by
          refine Or.inr ⟨wr.heap.size + 2, z, bytesRow (p.2 ++ ⟨#[10]⟩) z, ((bytesRow (p.2 ++ ⟨#[10]⟩) z).size, (bytesRow (p.2 ++ ⟨#[10]⟩) z).size + 1), ?_, ?_, fun j b hj => bytesRow_at _ _ j b hj⟩
          · rw [show (p.2 ++ (⟨#[10]⟩ : ByteArray)).data.toList.length = (p.2 ++ (⟨#[10]⟩ : ByteArray)).size from Array.length_toList, hsz1]
          · rw [hw3]
            exact block_new _ _ (by simp)
        have hz3 : w3.heap.size = wr.heap.size + 3 := by rw [hw3]; simp
        clear hw3 hcv hz k1 k2 c1 hfs s0
        have hown3 := own_below hown hB3
        have hsy3 := block_below hsy hB3
        have hcf3 := block_below hcf hB3
        have hrc3 := block_below hrc hB3
        have hb3 := hb.next hB3
        have s0 := block_cell (i := 0) hsy3 rfl
        have e0 := block_cell (i := 0) hbx3 rfl
        have e1 := block_cell (i := 1) hbx3 rfl
        have e2 := block_cell (i := 2) hbx3 rfl
        go_wp2_with (at_builtin
                     go_loud (refine append_entry rfl _ _ rfl (w1.heap.size + 1) fv k xs rfl (hown3.alloc _) (wr.heap.size + 3) 1 (.string p.1) (.int .i64 1) (.slice (some ⟨wr.heap.size + 2, 0, none⟩) (p.2.size + 1) z) rfl (block_cell (block_new _ _ hz3.symm) rfl) (block_cell (block_new _ _ hz3.symm) rfl) (block_cell (block_new _ _ hz3.symm) rfl) rfl rfl rfl (by omega) (by have := hlt3; simp; omega) ?_)
                     intro v' w4 hown4 hg4 hl4
                     have hn0 := own_ne hown3 hsy3 (by decide)
                     have hn1 := own_ne hown3 hcf3 (by decide)
                     have hn2 := own_ne hown3 hrc3 (by decide)
                     have hsy4 := block_grown (block_alloc hsy3 _) hg4 hn0.symm
                     have hcf4 := block_grown (block_alloc hcf3 _) hg4 hn1.symm
                     have hrc4 := block_grown (block_alloc hrc3 _) hg4 hn2.symm
                     have hB4 : Below w.heap.size w w4 := below_grown (hb3.alloc hb3.size _) hg4 (by have := hb3.size; simp; omega) (fun j hj => by have := (hown3.lt j hj).1; omega)
                     have s04 := block_cell (i := 0) hsy4 rfl
                     have f04 := block_free (i := 0) hsy4
                     have hkt : ∀ T : TypeId, 42 ≠ T → KT T wr w4 := fun T hT => (KT.below hB3).trans (((KT.refl _ w3).alloc _).grown (hown3.alloc _) hT hg4)
                     obtain ⟨a4, z4, rfl⟩ := own_shape hown4)
        go_roundw
        case rel =>
          refine ⟨k + 1, .slice a4 (k + 1) z4, _, by omega, by go_num, block_setCell hcf4 (by simp; omega) _, block_setCell hrc4 (by simp; omega) _, by simpa using block_set hsy4 (i := 0) (.slice a4 (k + 1) z4), own_kt (own_kt hubr (hkt _ (by decide))) ((KT.refl _ _).setCell hsy4 (by decide) _), ownsRow_setCell_below hown4 (by simp) _, Lib.hid ?_, hB4.setCell (p := ⟨w1.heap.size, 0, none⟩) (by simp; omega) _⟩
          rw [HMT.out, HFI.out]
          exact (((HFF.out.kt (KT.below hB3)).snoc hdb3).kt (((KT.refl _ w3).alloc _).grown (hown3.alloc _) (by decide) hg4)).kt ((KT.refl _ _).setCell hsy4 (by decide) _)
        case measure => simp [intOf]; omega
    · have hltI : ¬ ((k : Int) < (nf : Int)) := by omega
      obtain rfl : k = nf := by omega
      have HFX : Hid (FFlat wr xs (c.fs.map fileOf)) := Lib.hid (by
        have := HFF.out
        rw [List.take_of_length_le (by rw [HNF.out]; exact Nat.le_refl _)] at this
        exact this)
      have hfs : ∀ wx : World, wx.heap[w.heap.size + 2]? = wx.heap[w.heap.size + 2]? := fun _ => rfl
      clear HFF HF hfs
      have c3' := block_cell (i := 3) hcf rfl
      go_wp2_with fail
      go_loopw [8, 41] (fun _ i wr => ∃ (j : Nat) (uv : Value) (ys : List Value), j ≤ nu ∧ i = .int .i64 (j : Int) ∧ wr.heap[w.heap.size]? = some (.cells #[.slice sa sn sk, .slice fa k fk, .slice ua ns uk, .slice na nu nk] 27 (0, 0)) ∧
        wr.heap[w.heap.size + 1]? = some (.cells #[.slice none 0 0, .slice none 0 0, .slice none 0 0] 32 (0, 0)) ∧ wr.heap[w1.heap.size]? = some (.cells #[fv, .slice uba ns ubk, uv] 32 (0, 0)) ∧
        OS w.heap.size wr (.slice uba ns ubk) c.us ∧ wr.ownsRow (w1.heap.size + 1) 42 3 fv k xs ∧ Hid (FFlat wr xs (c.fs.map fileOf)) ∧ wr.ownsRow (w1.heap.size + 1) 37 4 uv j ys ∧ Hid (UOw w.heap.size wr ys ((c.un.take j).map unitOf)) ∧ Below w.heap.size w wr) (fun _ i _ => nu - (intOf i).toNat)
      case atStart => exact ⟨0, .slice none 0 0, [], Nat.zero_le _, rfl, hcf, hrc, hsy, hubr, hown, HFX, ⟨rfl, Or.inl ⟨rfl, rfl⟩⟩, Lib.hid (UOw.nil _ _), hb⟩
      case round =>
        clear hcf hrc hsy hown HFX hb c1 s0 hubr
        obtain ⟨j, uv, ys, hj, rfl, hcf, hrc, hsy, hubr, hown, HFX, hownU, HUF, hb⟩ := hrel
        have c3 := block_cell (i := 3) hcf rfl
        have s2 := block_cell (i := 2) hsy rfl
        by_cases hlj : j < nu
        · have hljI : (j : Int) < (nu : Int) := by omega
          obtain ⟨u, hu⟩ := get_lt c.un (k := j) (by have := HNU.out; omega)
          obtain ⟨b, off, rfl, hucp, _⟩ := HU.out j u hu
          obtain ⟨k1, k2, hz1, hz2, r, f, k3, k4, hr, hf⟩ := hucp.there
          have hr' := hr
          have hf' := hf
          obtain ⟨rb, rc, rfl, _⟩ := hr'
          obtain ⟨fb, fc, rfl, _⟩ := hf'
          have k1 := cell_keeps hb k1
          have k2 := cell_keeps hb k2
          have k3 := cell_keeps hb k3
          have k4 := cell_keeps hb k4
          have hlt1 := World.block_lt_of_cell? wr _ k1
          have hlt3 := block_lt hsy
          have hlt2 := World.block_lt_of_cell? wr _ c3
          have HMT := Lib.hid (map_take_succ unitOf hu)
          have hm0 : Kept (fun k => k < w.heap.size) w wr := kept_below (Below.refl _ _) hb
          have HRR := Lib.hid (hr.kept hm0)
          have HFR := Lib.hid (hf.kept hm0)
          clear hr hf hu hucp
          obtain ⟨st, hst⟩ : ∃ st, (unitOf u).start = st := ⟨_, rfl⟩
          have hstz : st.size ≤ maxLen := by
            rw [← hst]
            unfold unitOf
            split
            · exact hz1
            · exact hz2
          have hunit : unitOf u = ⟨u.name, st, u.req, u.aft⟩ := by
            rw [← hst]
            unfold unitOf
            split <;> rfl
          have HUN := Lib.hid hunit
          have HQR := Lib.hid (slp_sizes HRR.out)
          have HQF := Lib.hid (slp_sizes HFR.out)
          by_cases hs : u.start = ⟨#[]⟩
          · have hst1 : st = u.name := by rw [← hst]; unfold unitOf; rw [if_pos hs]
            rw [hs] at k2
            clear hs hst hunit
            go_upto_region 15 with fail
            refine with_world fun w5 hw5 => ?_
            have hbx5 : w5.heap[wr.heap.size]? = some (.cells #[.string u.name, .string st, .slice rb u.req.length rc, .slice fb u.aft.length fc] 37 (0, 0)) := by
              rw [hw5, hst1]
              exact block_new _ _ rfl
            have hB5 : Below wr.heap.size wr w5 := by rw [hw5]; (repeat' (first | (with_reducible exact Below.refl _ _) | (with_reducible assumption) | (with_reducible refine below_drewN ?_ _) | (with_reducible refine Below.drew ?_) | (with_reducible refine Below.alloc ?_ ?_ _) | (with_reducible refine Below.setCell ?_ ?_ _) | omega | (simp; done) | (simp; omega)))
            have hz5 : w5.heap.size = wr.heap.size + 1 := by rw [hw5]; simp
            have h2 := block_cell (i := 2) hbx5 rfl
            have h3 := block_cell (i := 3) hbx5 rfl
            have HBX := Lib.hid hbx5
            have HB5 := Lib.hid hB5
            have HZ5 := Lib.hid hz5
            have HC1 := Lib.hid (fun W (hW : Below w5.heap.size w5 W) => clone_any (SLP.keeps (hB5.trans (hW.mono (by omega))) HRR.out))
            have HC2 := Lib.hid (fun W (hW : Below w5.heap.size w5 W) => clone_any (SLP.keeps (hB5.trans (hW.mono (by omega))) HFR.out))
            clear hw5 hbx5 hB5 hz5 k1 k2 k3 k4 hst1
            go_cut [] from 51 to 58 (fun wx => ∃ v1 v2 : Value, wx.heap[wr.heap.size]? = some (.cells #[.string u.name, .string st, v1, v2] 37 (0, 0)) ∧ OS (wr.heap.size + 1) wx v1 u.req ∧ OS (wr.heap.size + 1) wx v2 u.aft ∧ Below wr.heap.size wr wx)
            case first =>
              have tok1 : True := trivial
              go_region_with (first
                | (go_at_call 12; have _t := tok1
                   refine (HC1.out _ (Below.refl _ _).drew).mono ?_
                   rintro e w6 ⟨v6, rfl, hos1, hb6⟩
                   obtain ⟨a6, k6, rfl⟩ := hos1.shape
                   have hb6 : Below w5.heap.size w5 w6 := (Below.refl _ _).drew.trans hb6
                   have G0 := Lib.hid (block_below HBX.out hb6)
                   have d3 := block_cell (i := 3) G0.out rfl
                   have hz6 := hb6.size
                   clear tok1)
                | (go_at_call 12
                   refine (HC2.out _ hb6).mono ?_
                   rintro e w7 ⟨v7, rfl, hos2, hb7⟩
                   obtain ⟨a7, k7, rfl⟩ := hos2.shape
                   have hz7 := hb7.size
                   have J0 := Lib.hid (block_below G0.out hb7)
                   have e0 := block_cell (i := 0) J0.out rfl
                   have e1 := block_cell (i := 1) J0.out rfl
                   have e2 := block_cell (i := 2) J0.out rfl
                   have e3 := block_cell (i := 3) J0.out rfl
                   have f2 := block_free (i := 2) J0.out
                   have f3 := block_free (i := 3) J0.out))
              all_goals
                go_wp2_with fail
                go_meet
                refine ⟨.slice a6 u.req.length k6, .slice a7 u.aft.length k7, ?_, ?_, ?_, ?_⟩
                · first
                    | simpa using block_set (block_set J0.out (i := 2) (.slice a6 u.req.length k6)) (i := 3) (.slice a7 u.aft.length k7)
                    | simpa using block_set (block_set J0.out (i := 3) (.slice a7 u.aft.length k7)) (i := 2) (.slice a6 u.req.length k6)
                · exact (((OS.mono hos1 (by have := HZ5.out; simp; omega)).below hb7).set (by simp) _).set (by simp) _
                · exact ((OS.mono hos2 (by have := HZ5.out; have := hb6.size; omega)).set (by simp) _).set (by simp) _
                · exact ((HB5.out.trans ((hb6.next hb7).mono (by have := HZ5.out; omega))).setCell (p := ⟨wr.heap.size, _, none⟩) (by simp) _).setCell (p := ⟨wr.heap.size, _, none⟩) (by simp) _
            case rest =>
              obtain ⟨v1, v2, hbx, ho1, ho2, hBx⟩ := hcut
              obtain ⟨p1, g1, rfl⟩ := ho1.shape
              obtain ⟨p2, g2, rfl⟩ := ho2.shape
              clear HC1 HC2 HBX h2 h3 c3 s2
              have hsyc := block_below hsy hBx
              have hcfc := block_below hcf hBx
              have hrcc := block_below hrc hBx
              have hownc := own_below hownU hBx
              have hbc := hb.next hBx
              have hltc := block_lt hsyc
              have s2 := block_cell (i := 2) hsyc rfl
              have e0 := block_cell (i := 0) hbx rfl
              have e1 := block_cell (i := 1) hbx rfl
              have e2 := block_cell (i := 2) hbx rfl
              have e3 := block_cell (i := 3) hbx rfl
              go_wp2_with (at_builtin
                           go_loud (refine append_unit rfl _ _ rfl (w1.heap.size + 1) uv j ys rfl (hownc.alloc _) wc.heap.size 1 (.string u.name) (.string st) (.slice p1 u.req.length g1) (.slice p2 u.aft.length g2) rfl (block_cell (block_new _ _ rfl) rfl) (block_cell (block_new _ _ rfl) rfl) (block_cell (block_new _ _ rfl) rfl) (block_cell (block_new _ _ rfl) rfl) rfl rfl rfl rfl (by omega) (by have := hltc; simp; omega) ?_)
                           intro v' w4 hown4 hg4 hl4
                           have hn0 := own_ne hownc hsyc (by decide)
                           have hn1 := own_ne hownc hcfc (by decide)
                           have hn2 := own_ne hownc hrcc (by decide)
                           have hsy4 := block_grown (block_alloc hsyc _) hg4 hn0.symm
                           have hcf4 := block_grown (block_alloc hcfc _) hg4 hn1.symm
                           have hrc4 := block_grown (block_alloc hrcc _) hg4 hn2.symm
                           have hB4 : Below w.heap.size w w4 := below_grown (hbc.alloc hbc.size _) hg4 (by have := hbc.size; simp; omega) (fun j hj => by have := (hownc.lt j hj).1; omega)
                           have hkt : ∀ T : TypeId, 37 ≠ T → KT T wc w4 := fun T hT => ((KT.refl _ wc).alloc _).grown (hownc.alloc _) hT hg4
                           have s24 := block_cell (i := 2) hsy4 rfl
                           have f24 := block_free (i := 2) hsy4
                           obtain ⟨a4, z4, rfl⟩ := own_shape hown4)
              go_roundw
              case rel =>
                have hks : ∀ T : TypeId, 32 ≠ T → KT T w4 (w4.setCell ⟨w1.heap.size, 2, none⟩ (.slice a4 (j + 1) z4)) := fun T hT => (KT.refl _ _).setCell hsy4 hT _
                refine ⟨j + 1, .slice a4 (j + 1) z4, _, by omega, by go_num, block_setCell hcf4 (by simp; omega) _, block_setCell hrc4 (by simp; omega) _, by simpa using block_set hsy4 (i := 2) (.slice a4 (j + 1) z4),
                  own_kt (own_kt (own_below hubr hBx) (hkt _ (by decide))) (hks _ (by decide)), ownsRow_setCell_below (own_kt (own_below hown hBx) (hkt _ (by decide))) (by simp) _, Lib.hid (((HFX.out.kt (KT.below hBx)).kt (hkt _ (by decide))).kt (hks _ (by decide))), ownsRow_setCell_below hown4 (by simp) _, Lib.hid ?_, hB4.setCell (p := ⟨w1.heap.size, 2, none⟩) (by simp; omega) _⟩
                rw [HMT.out, HUN.out]
                have hos1 : OS w.heap.size wc (.slice p1 u.req.length g1) u.req := OS.mono ho1 (by have := hb.size; omega)
                have hos2 : OS w.heap.size wc (.slice p2 u.aft.length g2) u.aft := OS.mono ho2 (by have := hb.size; omega)
                exact (((HUF.out.kt (KT.below hBx)).snoc (u := ⟨u.name, st, u.req, u.aft⟩) hz1 hstz hos1 hos2 HQR.out HQF.out).kt (hkt _ (by decide))).kt (hks _ (by decide))
              case measure => simp [intOf]; omega
          · have hst1 : st = u.start := by rw [← hst]; unfold unitOf; rw [if_neg hs]
            have htl : (u.start.toList == []) = false := by simpa using eqs_false.2 hs
            have hte : u.start.toList.isEmpty = false := by simpa [List.isEmpty_iff] using htl
            clear hs hst hunit
            go_upto_region 15 with fail
            refine with_world fun w5 hw5 => ?_
            have hbx5 : w5.heap[wr.heap.size]? = some (.cells #[.string u.name, .string st, .slice rb u.req.length rc, .slice fb u.aft.length fc] 37 (0, 0)) := by
              rw [hw5, hst1]
              exact block_new _ _ rfl
            have hB5 : Below wr.heap.size wr w5 := by rw [hw5]; (repeat' (first | (with_reducible exact Below.refl _ _) | (with_reducible assumption) | (with_reducible refine below_drewN ?_ _) | (with_reducible refine Below.drew ?_) | (with_reducible refine Below.alloc ?_ ?_ _) | (with_reducible refine Below.setCell ?_ ?_ _) | omega | (simp; done) | (simp; omega)))
            have hz5 : w5.heap.size = wr.heap.size + 1 := by rw [hw5]; simp
            have h2 := block_cell (i := 2) hbx5 rfl
            have h3 := block_cell (i := 3) hbx5 rfl
            have HBX := Lib.hid hbx5
            have HB5 := Lib.hid hB5
            have HZ5 := Lib.hid hz5
            have HC1 := Lib.hid (fun W (hW : Below w5.heap.size w5 W) => clone_any (SLP.keeps (hB5.trans (hW.mono (by omega))) HRR.out))
            have HC2 := Lib.hid (fun W (hW : Below w5.heap.size w5 W) => clone_any (SLP.keeps (hB5.trans (hW.mono (by omega))) HFR.out))
            clear hw5 hbx5 hB5 hz5 k1 k2 k3 k4 hst1
            go_cut [] from 51 to 58 (fun wx => ∃ v1 v2 : Value, wx.heap[wr.heap.size]? = some (.cells #[.string u.name, .string st, v1, v2] 37 (0, 0)) ∧ OS (wr.heap.size + 1) wx v1 u.req ∧ OS (wr.heap.size + 1) wx v2 u.aft ∧ Below wr.heap.size wr wx)
            case first =>
              have tok1 : True := trivial
              go_region_with (first
                | (go_at_call 12; have _t := tok1
                   refine (HC1.out _ (Below.refl _ _).drew).mono ?_
                   rintro e w6 ⟨v6, rfl, hos1, hb6⟩
                   obtain ⟨a6, k6, rfl⟩ := hos1.shape
                   have hb6 : Below w5.heap.size w5 w6 := (Below.refl _ _).drew.trans hb6
                   have G0 := Lib.hid (block_below HBX.out hb6)
                   have d3 := block_cell (i := 3) G0.out rfl
                   have hz6 := hb6.size
                   clear tok1)
                | (go_at_call 12
                   refine (HC2.out _ hb6).mono ?_
                   rintro e w7 ⟨v7, rfl, hos2, hb7⟩
                   obtain ⟨a7, k7, rfl⟩ := hos2.shape
                   have hz7 := hb7.size
                   have J0 := Lib.hid (block_below G0.out hb7)
                   have e0 := block_cell (i := 0) J0.out rfl
                   have e1 := block_cell (i := 1) J0.out rfl
                   have e2 := block_cell (i := 2) J0.out rfl
                   have e3 := block_cell (i := 3) J0.out rfl
                   have f2 := block_free (i := 2) J0.out
                   have f3 := block_free (i := 3) J0.out))
              all_goals
                go_wp2_with fail
                go_meet
                refine ⟨.slice a6 u.req.length k6, .slice a7 u.aft.length k7, ?_, ?_, ?_, ?_⟩
                · first
                    | simpa using block_set (block_set J0.out (i := 2) (.slice a6 u.req.length k6)) (i := 3) (.slice a7 u.aft.length k7)
                    | simpa using block_set (block_set J0.out (i := 3) (.slice a7 u.aft.length k7)) (i := 2) (.slice a6 u.req.length k6)
                · exact (((OS.mono hos1 (by have := HZ5.out; simp; omega)).below hb7).set (by simp) _).set (by simp) _
                · exact ((OS.mono hos2 (by have := HZ5.out; have := hb6.size; omega)).set (by simp) _).set (by simp) _
                · exact ((HB5.out.trans ((hb6.next hb7).mono (by have := HZ5.out; omega))).setCell (p := ⟨wr.heap.size, _, none⟩) (by simp) _).setCell (p := ⟨wr.heap.size, _, none⟩) (by simp) _
            case rest =>
              obtain ⟨v1, v2, hbx, ho1, ho2, hBx⟩ := hcut
              obtain ⟨p1, g1, rfl⟩ := ho1.shape
              obtain ⟨p2, g2, rfl⟩ := ho2.shape
              clear HC1 HC2 HBX h2 h3 c3 s2
              have hsyc := block_below hsy hBx
              have hcfc := block_below hcf hBx
              have hrcc := block_below hrc hBx
              have hownc := own_below hownU hBx
              have hbc := hb.next hBx
              have hltc := block_lt hsyc
              have s2 := block_cell (i := 2) hsyc rfl
              have e0 := block_cell (i := 0) hbx rfl
              have e1 := block_cell (i := 1) hbx rfl
              have e2 := block_cell (i := 2) hbx rfl
              have e3 := block_cell (i := 3) hbx rfl
              go_wp2_with (at_builtin
                           go_loud (refine append_unit rfl _ _ rfl (w1.heap.size + 1) uv j ys rfl (hownc.alloc _) wc.heap.size 1 (.string u.name) (.string st) (.slice p1 u.req.length g1) (.slice p2 u.aft.length g2) rfl (block_cell (block_new _ _ rfl) rfl) (block_cell (block_new _ _ rfl) rfl) (block_cell (block_new _ _ rfl) rfl) (block_cell (block_new _ _ rfl) rfl) rfl rfl rfl rfl (by omega) (by have := hltc; simp; omega) ?_)
                           intro v' w4 hown4 hg4 hl4
                           have hn0 := own_ne hownc hsyc (by decide)
                           have hn1 := own_ne hownc hcfc (by decide)
                           have hn2 := own_ne hownc hrcc (by decide)
                           have hsy4 := block_grown (block_alloc hsyc _) hg4 hn0.symm
                           have hcf4 := block_grown (block_alloc hcfc _) hg4 hn1.symm
                           have hrc4 := block_grown (block_alloc hrcc _) hg4 hn2.symm
                           have hB4 : Below w.heap.size w w4 := below_grown (hbc.alloc hbc.size _) hg4 (by have := hbc.size; simp; omega) (fun j hj => by have := (hownc.lt j hj).1; omega)
                           have hkt : ∀ T : TypeId, 37 ≠ T → KT T wc w4 := fun T hT => ((KT.refl _ wc).alloc _).grown (hownc.alloc _) hT hg4
                           have s24 := block_cell (i := 2) hsy4 rfl
                           have f24 := block_free (i := 2) hsy4
                           obtain ⟨a4, z4, rfl⟩ := own_shape hown4)
              go_roundw
              case rel =>
                have hks : ∀ T : TypeId, 32 ≠ T → KT T w4 (w4.setCell ⟨w1.heap.size, 2, none⟩ (.slice a4 (j + 1) z4)) := fun T hT => (KT.refl _ _).setCell hsy4 hT _
                refine ⟨j + 1, .slice a4 (j + 1) z4, _, by omega, by go_num, block_setCell hcf4 (by simp; omega) _, block_setCell hrc4 (by simp; omega) _, by simpa using block_set hsy4 (i := 2) (.slice a4 (j + 1) z4),
                  own_kt (own_kt (own_below hubr hBx) (hkt _ (by decide))) (hks _ (by decide)), ownsRow_setCell_below (own_kt (own_below hown hBx) (hkt _ (by decide))) (by simp) _, Lib.hid (((HFX.out.kt (KT.below hBx)).kt (hkt _ (by decide))).kt (hks _ (by decide))), ownsRow_setCell_below hown4 (by simp) _, Lib.hid ?_, hB4.setCell (p := ⟨w1.heap.size, 2, none⟩) (by simp; omega) _⟩
                rw [HMT.out, HUN.out]
                have hos1 : OS w.heap.size wc (.slice p1 u.req.length g1) u.req := OS.mono ho1 (by have := hb.size; omega)
                have hos2 : OS w.heap.size wc (.slice p2 u.aft.length g2) u.aft := OS.mono ho2 (by have := hb.size; omega)
                exact (((HUF.out.kt (KT.below hBx)).snoc (u := ⟨u.name, st, u.req, u.aft⟩) hz1 hstz hos1 hos2 HQR.out HQF.out).kt (hkt _ (by decide))).kt (hks _ (by decide))
              case measure => simp [intOf]; omega
        · have hljI : ¬ ((j : Int) < (nu : Int)) := by omega
          obtain rfl : j = nu := by omega
          have HUX : Hid (UOw w.heap.size wr ys (c.un.map unitOf)) := Lib.hid (by
            have := HUF.out
            rw [List.take_of_length_le (by rw [HNU.out]; exact Nat.le_refl _)] at this
            exact this)
          obtain ⟨fa1, fz1, rfl⟩ := own_shape hown
          obtain ⟨ua1, uz1, rfl⟩ := own_shape hownU
          have q0 := block_cell (i := 0) hsy rfl
          have q1 := block_cell (i := 1) hsy rfl
          have r0 := block_cell (i := 0) hrc rfl
          have r1 := block_cell (i := 1) hrc rfl
          have r2 := block_cell (i := 2) hrc rfl
          have z0 := block_free (i := 0) hrc
          have z1 := block_free (i := 1) hrc
          have z2 := block_free (i := 2) hrc
          have h1 := block_set hrc (i := 0) (.slice fa1 k fz1)
          have h2 := block_set h1 (i := 1) (.slice uba ns ubk)
          have h3 := block_set h2 (i := 2) (.slice ua1 j uz1)
          have hkt : ∀ T : TypeId, 32 ≠ T → KT T wr (((wr.setCell ⟨w.heap.size + 1, 0, none⟩ (.slice fa1 k fz1)).setCell ⟨w.heap.size + 1, 1, none⟩ (.slice uba ns ubk)).setCell ⟨w.heap.size + 1, 2, none⟩ (.slice ua1 j uz1)) :=
            fun T hT => (((KT.refl T wr).setCell hrc hT _).setCell h1 hT _).setCell h2 hT _
          have hbw := ((hb.setCell (p := ⟨w.heap.size + 1, 0, none⟩) (by simp) (.slice fa1 k fz1)).setCell (p := ⟨w.heap.size + 1, 1, none⟩) (by simp) (.slice uba ns ubk)).setCell (p := ⟨w.heap.size + 1, 2, none⟩) (by simp) (.slice ua1 j uz1)
          have hfl := FL.of_own (own_kt hown (hkt _ (by decide))) (HFX.out.kt (hkt _ (by decide))) (by rw [List.length_map, HNF.out]; exact hl2)
          have hul := HUX.out.kt (hkt _ (by decide))
          have hsl : OS w.heap.size _ (.slice uba ns ubk) c.us := own_kt hubr (hkt _ (by decide))
          have HSV := Lib.hid (SW.mk (cf := c) hfl hsl (slp_sizes HUS.out) ⟨ys, by rw [HNU.out]; exact own_mono (own_kt hownU (hkt _ (by decide))) (by omega), hul⟩ (by rw [HNU.out]; exact hl4))
          have HB := Lib.hid hbw
          have HH := Lib.hid h3
          clear hrc hsy hcf hown hownU HFX HUF HUX hfl hul hsl h1 h2 h3 hkt hbw
          go_wp2_with fail
          refine bodyPost_ret (results_cell_row rfl _ _ (w.heap.size + 1) 32 #[.slice fa1 k fz1, .slice uba ns ubk, .slice ua1 j uz1] (0, 0) _ rfl (by simpa using HH.out) Tryz.underlying32 rfl (by kernel_rfl)) rfl ?_
          exact ⟨_, _, _, rfl, HSV.out, HB.out⟩
end Go.Proofs.YthefajkihnlgfaaGreatDoor

