/- bootjackref19.System: the walk. -/
import Derived.Test.YthefajkihnlgfaaGreatDoorSyP
import Derived.Test.YthefajkihnlgfaaGreatDoorM32
import Derived.Laws.MakeOwn
namespace Go.Proofs.YthefajkihnlgfaaGreatDoor
open Go.RowKit Go.Shelf
set_option linter.unusedSimpArgs false
set_option linter.unusedVariables false
theorem infoE : (Tryz.prog.info? 42).map (fun i => (i.zero, i.size, i.bytes)) = some (some (.agg #[.string ⟨#[]⟩, .int .i64 0, .slice none 0 0]), 3, 48) := by kernel_rfl
theorem add_none (b i : Nat) : (⟨b, 0, none⟩ : Addr).add i = ⟨b, i, none⟩ := by unfold Addr.add; split <;> simp_all
/-- append(own list of entries, one). -/
theorem append_entry {w : World} {ops : Array Oper} {rest : List Oper} {o : Oper} {a : Act} {Q : Exit → Act → World → Prop} (hgd : o.guard = none) (s x : Operand)
    (ho : o.op = .call { callee := .builtin .append, args := #[s, x], argTypes := #[30, 30] })
    (base : Nat) (v : Value) (n : Nat) (xs : List Value) (hs : a.eval s = v) (hown : w.ownsRow base 42 3 v n xs)
    (b c : Nat) (c0 c1 c2 : Value) (hx : a.eval x = .slice (some ⟨b, 0, none⟩) 1 c)
    (h0 : w.cell? ⟨b, 0, none⟩ = some c0) (h1 : w.cell? ⟨b, 1, none⟩ = some c1) (h2 : w.cell? ⟨b, 2, none⟩ = some c2)
    (o0 : c0.oneCell' = true) (o1 : c1.oneCell' = true) (o2 : c2.oneCell' = true) (hn : n + 1 ≤ 100000000) (hbase : base ≤ w.heap.size)
    (h : ∀ v' w', w'.ownsRow base 42 3 v' (n + 1) (xs ++ [c0, c1, c2]) → w.grownBy w' v.ownBlock → (v'.ownBlock = v.ownBlock ∨ v'.ownBlock = some w.heap.size) → wpList Tryz.prog ops Q rest (a.put o.dst v') w') : wpList Tryz.prog ops Q (o :: rest) a w := by
  obtain ⟨i0, hi, hz0, hz1, hz2⟩ := info_parts infoE
  refine wpList_append_own_at w hgd s x 30 ho base 42 i0 _ 3 48 Tryz.underlying30 hi hz0 hz1 hz2 rfl (by decide) v n xs hs hown ⟨b, 0, none⟩ 1 c [c0, c1, c2] hx rfl ?_ ?_ (by unfold maxLen; omega) (by omega) hbase (fun v' w' h2 h3 _ h5 => h v' w' h2 h3 h5)
  · intro j u hu
    rw [add_none]
    match j, hu with
    | 0, hu => simp at hu; subst hu; exact h0
    | 1, hu => simp at hu; subst hu; exact h1
    | 2, hu => simp at hu; subst hu; exact h2
    | j + 3, hu => simp at hu
  · intro u hu
    simp at hu
    rcases hu with rfl | rfl | rfl <;> assumption
set_option maxHeartbeats 8000000 in
set_option maxRecDepth 100000 in
theorem rsys_any {d : Nat} {v0 v1 v2 v3 : Value} {c : Cf} {w : World} (h : CV d w v0 v1 v2 v3 c) :
    Calls Tryz.prog 6 #[.agg #[v0, v1, v2, v3]] w fun e w' => ∃ a b u, e = .returned (.agg #[a, b, u]) ∧ SV w' a b u c ∧ Below w.heap.size w w' := by
  have hst : ∃ a n k, v0 = .slice a n k := by obtain ⟨a, k, h, _⟩ := h.st; exact ⟨_, _, _, h⟩
  obtain ⟨sa, sn, sk, rfl⟩ := hst
  have hfi := h.fi
  obtain ⟨fa, fk, rfl, hpf⟩ := hfi
  have hus := h.us
  obtain ⟨ua, uk, rfl, _, huz, _⟩ := hus
  have hun := h.un
  obtain ⟨na, nk, rfl, hnz, hpu⟩ := hun
  have HF := Lib.hid hpf
  have HU := Lib.hid hpu
  have HUS := Lib.hid h.us
  obtain ⟨hl1, hl2, hl3, hl4⟩ := h.len
  clear h hpf hpu
  obtain ⟨nf, hnf⟩ : ∃ nf, c.fs.length = nf := ⟨_, rfl⟩
  obtain ⟨nu, hnu⟩ : ∃ nu, c.un.length = nu := ⟨_, rfl⟩
  obtain ⟨ns, hns⟩ : ∃ ns, c.us.length = ns := ⟨_, rfl⟩
  rw [hnf] at hl2 ⊢
  rw [hnu] at hl4 hnz ⊢
  rw [hns] at hl3 huz HUS ⊢
  have HNF := Lib.hid hnf
  have HNU := Lib.hid hnu
  clear hnf hnu hns
  go_enter Tryz.func6, Tryz.ntmps6
  go_wp2_with fail
  go_loopw [4, 5] (fun i _ wr => ∃ (k : Nat) (fv : Value) (xs : List Value), k ≤ nf ∧ i = .int .i64 (k : Int) ∧ wr.heap[w.heap.size]? = some (.cells #[.slice sa sn sk, .slice fa nf fk, .slice ua ns uk, .slice na nu nk] 27 (0, 0)) ∧
      wr.heap[w.heap.size + 1]? = some (.cells #[.slice none 0 0, .slice none 0 0, .slice none 0 0] 32 (0, 0)) ∧ wr.heap[w.heap.size + 2]? = some (.cells #[fv, .slice ua ns uk, .slice none 0 0] 32 (0, 0)) ∧
      wr.ownsRow (w.heap.size + 3) 42 3 fv k xs ∧ Hid (FFlat wr xs ((c.fs.take k).map fileOf)) ∧ Below w.heap.size w wr) (fun i _ _ => nf - (intOf i).toNat)
  case atStart => exact ⟨0, .slice none 0 0, [], Nat.zero_le _, rfl, block_alloc (block_alloc (block_new _ _ rfl) _) _, block_alloc (block_new _ _ (by simp)) _, block_new _ _ (by simp), ⟨rfl, Or.inl ⟨rfl, rfl⟩⟩, Lib.hid (FFlat.nil _), (by (repeat' (first | (with_reducible exact Below.refl _ _) | (with_reducible assumption) | (with_reducible refine below_drewN ?_ _) | (with_reducible refine Below.drew ?_) | (with_reducible refine Below.alloc ?_ ?_ _) | (with_reducible refine Below.setCell ?_ ?_ _) | omega | (simp; done) | (simp; omega))))⟩
  case round =>
    obtain ⟨k, fv, xs, hk, rfl, hcf, hrc, hsy, hown, HFF, hb⟩ := hrel
    have c1 := block_cell (i := 1) hcf rfl
    have s0 := block_cell (i := 0) hsy rfl
    by_cases hlt : k < nf
    · have hltI : (k : Int) < (nf : Int) := by omega
      obtain ⟨p, hp⟩ := get_lt c.fs (k := k) (by have := HNF.out; omega)
      obtain ⟨hz1, hz2, b, off, rfl, k1, k2⟩ := HF.out k p hp
      have k1 := cell_keeps hb k1
      have k2 := cell_keeps hb k2
      have hlt1 := World.block_lt_of_cell? wr _ k1
      have hlt2 := World.block_lt_of_cell? wr _ c1
      have hlt3 := block_lt hsy
      have hfs : wr.frozen? ⟨w.heap.size + 2, 0, none⟩ = false := block_free hsy
      have HMT := Lib.hid (map_take_succ fileOf hp)
      by_cases ht : p.2 = ⟨#[]⟩
      · have hfile : fileOf p = ⟨p.1, []⟩ := by unfold fileOf; rw [if_pos ht]
        rw [ht] at k2
        have HFI := Lib.hid hfile
        clear ht hfile hp
        go_wp2_with (at_builtin
                     go_loud (refine append_entry rfl _ _ rfl (w.heap.size + 3) fv k xs rfl ((hown.alloc _).alloc _) (wr.heap.size + 1) 1 (.string p.1) (.int .i64 1) (.slice none 0 0) rfl (block_cell (block_new _ _ (by simp)) rfl) (block_cell (block_new _ _ (by simp)) rfl) (block_cell (block_new _ _ (by simp)) rfl) rfl rfl rfl (by omega) (by have := hlt3; simp; omega) ?_)
                     intro v' w4 hown4 hg4 hl4
                     have hn0 := own_ne hown hsy (by decide)
                     have hn1 := own_ne hown hcf (by decide)
                     have hn2 := own_ne hown hrc (by decide)
                     have hsy4 := block_grown (block_alloc (block_alloc hsy _) _) hg4 hn0.symm
                     have hcf4 := block_grown (block_alloc (block_alloc hcf _) _) hg4 hn1.symm
                     have hrc4 := block_grown (block_alloc (block_alloc hrc _) _) hg4 hn2.symm
                     have hB4 : Below w.heap.size w w4 := below_grown ((hb.alloc hb.size _).alloc (by have := hb.size; simp; omega) _) hg4 (by have := hb.size; simp; omega) (fun j hj => by have := (hown.lt j hj).1; omega)
                     have hBx : Below wr.heap.size wr (wr.alloc (.cells #[.string p.1, .int .i64 1, .slice none 0 0] 42 (0, 0))) := (Below.refl _ _).alloc (Nat.le_refl _) _
                     have s04 := block_cell (i := 0) hsy4 rfl
                     have f04 := block_free (i := 0) hsy4
                     obtain ⟨a4, z4, rfl⟩ := own_shape hown4
                     have hne4 : (Value.slice a4 (k + 1) z4).ownBlock ≠ some (w.heap.size + 2) := own_ne hown4 hsy4 (by decide))
        go_roundw
        case rel =>
          refine ⟨k + 1, .slice a4 (k + 1) z4, _, by omega, by go_num, block_setCell hcf4 (by simp; omega) _, block_setCell hrc4 (by simp) _, by simpa using block_set hsy4 (i := 0) (.slice a4 (k + 1) z4), ownsRow_setCell_below hown4 (by simp) _, Lib.hid ?_, hB4.setCell (p := ⟨w.heap.size + 2, 0, none⟩) (by simp) _⟩
          rw [HMT.out, HFI.out]
          have hkt : KT 5 wr w4 := (((KT.refl _ wr).alloc _).alloc _).grown ((hown.alloc _).alloc _) (by decide) hg4
          exact ((HFF.out.kt hkt).snoc (Or.inl ⟨rfl, rfl⟩)).kt ((KT.refl _ _).setCell hsy4 (by decide) _)
        case measure => simp [intOf]; omega
      · have hfile : fileOf p = ⟨p.1, (p.2 ++ ⟨#[10]⟩).data.toList⟩ := by
          unfold fileOf
          rw [if_neg ht, nw_app]
        have htl : (p.2.toList == []) = false := by simpa using eqs_false.2 ht
        have hte : p.2.toList.isEmpty = false := by simpa [List.isEmpty_iff] using htl
        have HFI := Lib.hid hfile
        have hsz1 : (p.2 ++ ⟨#[10]⟩).size = p.2.size + 1 := by rw [ByteArray.size_append]; rfl
        have hcv := fun W => run_bytes_of_string (P := Tryz.prog) W 9 40 5 (p.2 ++ ⟨#[10]⟩) Tryz.underlying9 Tryz.underlying40 Tryz.underlying5
        clear ht hfile hp
        go_upto_region 8 with fail
        obtain ⟨z, hz⟩ : ∃ z, grownCap (wr.alloc (Obj.cells #[Value.string p.1, Value.int IntKind.i64 1, Value.slice none 0 0] 42)) (p.2.size + 1) 0 5 = z := ⟨_, rfl⟩
        rw [hz]
        refine with_world fun w3 hw3 => ?_
        have hbx3 : w3.heap[wr.heap.size]? = some (.cells #[.string p.1, .int .i64 1, .slice (some ⟨wr.heap.size + 1, 0, none⟩) (p.2.size + 1) z] 42 (0, 0)) := by
          rw [hw3]
          exact block_alloc (block_new _ _ rfl) _
        have hB3 : Below wr.heap.size wr w3 := by rw [hw3]; (repeat' (first | (with_reducible exact Below.refl _ _) | (with_reducible assumption) | (with_reducible refine below_drewN ?_ _) | (with_reducible refine Below.drew ?_) | (with_reducible refine Below.alloc ?_ ?_ _) | (with_reducible refine Below.setCell ?_ ?_ _) | omega | (simp; done) | (simp; omega)))
        have hdb3 : DBy w3 (.slice (some ⟨wr.heap.size + 1, 0, none⟩) (p.2.size + 1) z) (p.2 ++ ⟨#[10]⟩).data.toList := by
          refine Or.inr ⟨wr.heap.size + 1, z, bytesRow (p.2 ++ ⟨#[10]⟩) z, ((bytesRow (p.2 ++ ⟨#[10]⟩) z).size, (bytesRow (p.2 ++ ⟨#[10]⟩) z).size + 1), ?_, ?_, fun j b hj => bytesRow_at _ _ j b hj⟩
          · rw [show (p.2 ++ (⟨#[10]⟩ : ByteArray)).data.toList.length = (p.2 ++ (⟨#[10]⟩ : ByteArray)).size from Array.length_toList, hsz1]
          · rw [hw3]
            exact block_new _ _ (by simp)
        have hz3 : w3.heap.size = wr.heap.size + 2 := by rw [hw3]; simp
        clear hw3 hcv hz k1 k2 c1 hfs s0
        have hown3 := own_below hown hB3
        have hsy3 := block_below hsy hB3
        have hcf3 := block_below hcf hB3
        have hrc3 := block_below hrc hB3
        have hb3 := hb.next hB3
        have s0 := block_cell (i := 0) hsy3 rfl
        have e0 := block_cell (i := 0) hbx3 rfl
        have e1 := block_cell (i := 1) hbx3 rfl
        have e2 := block_cell (i := 2) hbx3 rfl
        go_wp2_with (at_builtin
                     go_loud (refine append_entry rfl _ _ rfl (w.heap.size + 3) fv k xs rfl (hown3.alloc _) (wr.heap.size + 2) 1 (.string p.1) (.int .i64 1) (.slice (some ⟨wr.heap.size + 1, 0, none⟩) (p.2.size + 1) z) rfl (block_cell (block_new _ _ hz3.symm) rfl) (block_cell (block_new _ _ hz3.symm) rfl) (block_cell (block_new _ _ hz3.symm) rfl) rfl rfl rfl (by omega) (by have := hlt3; simp; omega) ?_)
                     intro v' w4 hown4 hg4 hl4
                     have hn0 := own_ne hown3 hsy3 (by decide)
                     have hn1 := own_ne hown3 hcf3 (by decide)
                     have hn2 := own_ne hown3 hrc3 (by decide)
                     have hsy4 := block_grown (block_alloc hsy3 _) hg4 hn0.symm
                     have hcf4 := block_grown (block_alloc hcf3 _) hg4 hn1.symm
                     have hrc4 := block_grown (block_alloc hrc3 _) hg4 hn2.symm
                     have hB4 : Below w.heap.size w w4 := below_grown (hb3.alloc hb3.size _) hg4 (by have := hb3.size; simp; omega) (fun j hj => by have := (hown3.lt j hj).1; omega)
                     have s04 := block_cell (i := 0) hsy4 rfl
                     have f04 := block_free (i := 0) hsy4
                     obtain ⟨a4, z4, rfl⟩ := own_shape hown4)
        go_roundw
        case rel =>
          refine ⟨k + 1, .slice a4 (k + 1) z4, _, by omega, by go_num, block_setCell hcf4 (by simp; omega) _, block_setCell hrc4 (by simp) _, by simpa using block_set hsy4 (i := 0) (.slice a4 (k + 1) z4), ownsRow_setCell_below hown4 (by simp) _, Lib.hid ?_, hB4.setCell (p := ⟨w.heap.size + 2, 0, none⟩) (by simp) _⟩
          rw [HMT.out, HFI.out]
          have hkt : KT 5 w3 w4 := ((KT.refl _ w3).alloc _).grown (hown3.alloc _) (by decide) hg4
          exact (((HFF.out.kt (KT.below hB3)).snoc hdb3).kt hkt).kt ((KT.refl _ _).setCell hsy4 (by decide) _)
        case measure => simp [intOf]; omega
    · have hltI : ¬ ((k : Int) < (nf : Int)) := by omega
      obtain rfl : k = nf := by omega
      have HFX : Hid (FFlat wr xs (c.fs.map fileOf)) := Lib.hid (by
        have := HFF.out
        rw [List.take_of_length_le (by rw [HNF.out]; exact Nat.le_refl _)] at this
        exact this)
      have hfs : ∀ wx : World, wx.heap[w.heap.size + 2]? = wx.heap[w.heap.size + 2]? := fun _ => rfl
      clear HFF HF hfs
      go_wp2_with fail
      go_loopw [6, 7] (fun i _ wr => ∃ (j : Nat) (uv : Value) (ys : List Value), j ≤ nu ∧ i = .int .i64 (j : Int) ∧ wr.heap[w.heap.size]? = some (.cells #[.slice sa sn sk, .slice fa k fk, .slice ua ns uk, .slice na nu nk] 27 (0, 0)) ∧
        wr.heap[w.heap.size + 1]? = some (.cells #[.slice none 0 0, .slice none 0 0, .slice none 0 0] 32 (0, 0)) ∧ wr.heap[w.heap.size + 2]? = some (.cells #[fv, .slice ua ns uk, uv] 32 (0, 0)) ∧
        wr.ownsRow (w.heap.size + 3) 42 3 fv k xs ∧ Hid (FFlat wr xs (c.fs.map fileOf)) ∧ wr.ownsRow (w.heap.size + 3) 37 4 uv j ys ∧ Hid (UFlat (fun b => b < w.heap.size) wr ys ((c.un.take j).map unitOf)) ∧ Below w.heap.size w wr) (fun i _ _ => nu - (intOf i).toNat)
      case atStart => exact ⟨0, .slice none 0 0, [], Nat.zero_le _, rfl, hcf, hrc, hsy, hown, HFX, ⟨rfl, Or.inl ⟨rfl, rfl⟩⟩, Lib.hid (UFlat.nil _ _), hb⟩
      case round =>
        clear hcf hrc hsy hown HFX hb c1 s0
        obtain ⟨j, uv, ys, hj, rfl, hcf, hrc, hsy, hown, HFX, hownU, HUF, hb⟩ := hrel
        have c3 := block_cell (i := 3) hcf rfl
        have s2 := block_cell (i := 2) hsy rfl
        by_cases hlj : j < nu
        · have hljI : (j : Int) < (nu : Int) := by omega
          obtain ⟨u, hu⟩ := get_lt c.un (k := j) (by have := HNU.out; omega)
          obtain ⟨b, off, rfl, hucp, _⟩ := HU.out j u hu
          obtain ⟨k1, k2, hz1, hz2, r, f, k3, k4, hr, hf⟩ := hucp.there
          have hr' := hr
          have hf' := hf
          obtain ⟨rb, rc, rfl, _⟩ := hr'
          obtain ⟨fb, fc, rfl, _⟩ := hf'
          have k1 := cell_keeps hb k1
          have k2 := cell_keeps hb k2
          have k3 := cell_keeps hb k3
          have k4 := cell_keeps hb k4
          have hlt1 := World.block_lt_of_cell? wr _ k1
          have hlt3 := block_lt hsy
          have hlt2 := World.block_lt_of_cell? wr _ c3
          have HMT := Lib.hid (map_take_succ unitOf hu)
          have hm0 : Kept (fun k => k < w.heap.size) w wr := kept_below (Below.refl _ _) hb
          have HRR := Lib.hid (hr.kept hm0)
          have HFR := Lib.hid (hf.kept hm0)
          clear hr hf hu hucp
          by_cases hs : u.start = ⟨#[]⟩
          · have hun : unitOf u = ⟨u.name, u.name, u.req, u.aft⟩ := by unfold unitOf; rw [if_pos hs]
            rw [hs] at k2
            have HUN := Lib.hid hun
            clear hs hun
            go_wp2_with (at_builtin
                         go_loud (refine append_unit rfl _ _ rfl (w.heap.size + 3) uv j ys rfl ((hownU.alloc _).alloc _) (wr.heap.size + 1) 1 (.string u.name) (.string u.name) (.slice rb u.req.length rc) (.slice fb u.aft.length fc) rfl (block_cell (block_new _ _ (by simp)) rfl) (block_cell (block_new _ _ (by simp)) rfl) (block_cell (block_new _ _ (by simp)) rfl) (block_cell (block_new _ _ (by simp)) rfl) rfl rfl rfl rfl (by omega) (by have := hlt3; simp; omega) ?_)
                         intro v' w4 hown4 hg4 hl4
                         have hn0 := own_ne hownU hsy (by decide)
                         have hn1 := own_ne hownU hcf (by decide)
                         have hn2 := own_ne hownU hrc (by decide)
                         have hsy4 := block_grown (block_alloc (block_alloc hsy _) _) hg4 hn0.symm
                         have hcf4 := block_grown (block_alloc (block_alloc hcf _) _) hg4 hn1.symm
                         have hrc4 := block_grown (block_alloc (block_alloc hrc _) _) hg4 hn2.symm
                         have hB4 : Below w.heap.size w w4 := below_grown ((hb.alloc hb.size _).alloc (by have := hb.size; simp; omega) _) hg4 (by have := hb.size; simp; omega) (fun j hj => by have := (hownU.lt j hj).1; omega)
                         have s24 := block_cell (i := 2) hsy4 rfl
                         have f24 := block_free (i := 2) hsy4
                         have hktE : KT 42 wr w4 := (((KT.refl _ wr).alloc _).alloc _).grown ((hownU.alloc _).alloc _) (by decide) hg4
                         have hktB : KT 5 wr w4 := (((KT.refl _ wr).alloc _).alloc _).grown ((hownU.alloc _).alloc _) (by decide) hg4
                         obtain ⟨a4, z4, rfl⟩ := own_shape hown4)
            go_roundw
            case rel =>
              refine ⟨j + 1, .slice a4 (j + 1) z4, _, by omega, by go_num, block_setCell hcf4 (by simp; omega) _, block_setCell hrc4 (by simp) _, by simpa using block_set hsy4 (i := 2) (.slice a4 (j + 1) z4), ownsRow_setCell_below (own_kt hown hktE) (by simp) _, Lib.hid ((HFX.out.kt hktB).kt ((KT.refl _ _).setCell hsy4 (by decide) _)), ownsRow_setCell_below hown4 (by simp) _, Lib.hid ?_, hB4.setCell (p := ⟨w.heap.size + 2, 2, none⟩) (by simp) _⟩
              have hB5 := hB4.setCell (p := ⟨w.heap.size + 2, 2, none⟩) (by simp) (.slice a4 (j + 1) z4)
              rw [HMT.out, HUN.out]
              exact (HUF.out.kept (kept_below hb hB5)).snoc (u := ⟨u.name, u.name, u.req, u.aft⟩) hz1 hz1 (HRR.out.kept (kept_below hb hB5)) (HFR.out.kept (kept_below hb hB5))
            case measure => simp [intOf]; omega
          · have hun : unitOf u = ⟨u.name, u.start, u.req, u.aft⟩ := by unfold unitOf; rw [if_neg hs]
            have htl : (u.start.toList == []) = false := by simpa using eqs_false.2 hs
            have hte : u.start.toList.isEmpty = false := by simpa [List.isEmpty_iff] using htl
            have HUN := Lib.hid hun
            clear hs hun
            go_wp2_with (at_builtin
                         go_loud (refine append_unit rfl _ _ rfl (w.heap.size + 3) uv j ys rfl ((hownU.alloc _).alloc _) (wr.heap.size + 1) 1 (.string u.name) (.string u.start) (.slice rb u.req.length rc) (.slice fb u.aft.length fc) rfl (block_cell (block_new _ _ (by simp)) rfl) (block_cell (block_new _ _ (by simp)) rfl) (block_cell (block_new _ _ (by simp)) rfl) (block_cell (block_new _ _ (by simp)) rfl) rfl rfl rfl rfl (by omega) (by have := hlt3; simp; omega) ?_)
                         intro v' w4 hown4 hg4 hl4
                         have hn0 := own_ne hownU hsy (by decide)
                         have hn1 := own_ne hownU hcf (by decide)
                         have hn2 := own_ne hownU hrc (by decide)
                         have hsy4 := block_grown (block_alloc (block_alloc hsy _) _) hg4 hn0.symm
                         have hcf4 := block_grown (block_alloc (block_alloc hcf _) _) hg4 hn1.symm
                         have hrc4 := block_grown (block_alloc (block_alloc hrc _) _) hg4 hn2.symm
                         have hB4 : Below w.heap.size w w4 := below_grown ((hb.alloc hb.size _).alloc (by have := hb.size; simp; omega) _) hg4 (by have := hb.size; simp; omega) (fun j hj => by have := (hownU.lt j hj).1; omega)
                         have s24 := block_cell (i := 2) hsy4 rfl
                         have f24 := block_free (i := 2) hsy4
                         have hktE : KT 42 wr w4 := (((KT.refl _ wr).alloc _).alloc _).grown ((hownU.alloc _).alloc _) (by decide) hg4
                         have hktB : KT 5 wr w4 := (((KT.refl _ wr).alloc _).alloc _).grown ((hownU.alloc _).alloc _) (by decide) hg4
                         obtain ⟨a4, z4, rfl⟩ := own_shape hown4)
            go_roundw
            case rel =>
              refine ⟨j + 1, .slice a4 (j + 1) z4, _, by omega, by go_num, block_setCell hcf4 (by simp; omega) _, block_setCell hrc4 (by simp) _, by simpa using block_set hsy4 (i := 2) (.slice a4 (j + 1) z4), ownsRow_setCell_below (own_kt hown hktE) (by simp) _, Lib.hid ((HFX.out.kt hktB).kt ((KT.refl _ _).setCell hsy4 (by decide) _)), ownsRow_setCell_below hown4 (by simp) _, Lib.hid ?_, hB4.setCell (p := ⟨w.heap.size + 2, 2, none⟩) (by simp) _⟩
              have hB5 := hB4.setCell (p := ⟨w.heap.size + 2, 2, none⟩) (by simp) (.slice a4 (j + 1) z4)
              rw [HMT.out, HUN.out]
              exact (HUF.out.kept (kept_below hb hB5)).snoc (u := ⟨u.name, u.start, u.req, u.aft⟩) hz1 hz2 (HRR.out.kept (kept_below hb hB5)) (HFR.out.kept (kept_below hb hB5))
            case measure => simp [intOf]; omega
        · have hljI : ¬ ((j : Int) < (nu : Int)) := by omega
          obtain rfl : j = nu := by omega
          have HUX : Hid (UFlat (fun b => b < w.heap.size) wr ys (c.un.map unitOf)) := Lib.hid (by
            have := HUF.out
            rw [List.take_of_length_le (by rw [HNU.out]; exact Nat.le_refl _)] at this
            exact this)
          obtain ⟨fa1, fz1, rfl⟩ := own_shape hown
          obtain ⟨ua1, uz1, rfl⟩ := own_shape hownU
          have q0 := block_cell (i := 0) hsy rfl
          have q1 := block_cell (i := 1) hsy rfl
          have r0 := block_cell (i := 0) hrc rfl
          have r1 := block_cell (i := 1) hrc rfl
          have r2 := block_cell (i := 2) hrc rfl
          have z0 := block_free (i := 0) hrc
          have z1 := block_free (i := 1) hrc
          have z2 := block_free (i := 2) hrc
          have h1 := block_set hrc (i := 0) (.slice fa1 k fz1)
          have h2 := block_set h1 (i := 1) (.slice ua ns uk)
          have h3 := block_set h2 (i := 2) (.slice ua1 j uz1)
          have hkt : ∀ T : TypeId, 32 ≠ T → KT T wr (((wr.setCell ⟨w.heap.size + 1, 0, none⟩ (.slice fa1 k fz1)).setCell ⟨w.heap.size + 1, 1, none⟩ (.slice ua ns uk)).setCell ⟨w.heap.size + 1, 2, none⟩ (.slice ua1 j uz1)) :=
            fun T hT => (((KT.refl T wr).setCell hrc hT _).setCell h1 hT _).setCell h2 hT _
          have hbw := ((hb.setCell (p := ⟨w.heap.size + 1, 0, none⟩) (by simp) (.slice fa1 k fz1)).setCell (p := ⟨w.heap.size + 1, 1, none⟩) (by simp) (.slice ua ns uk)).setCell (p := ⟨w.heap.size + 1, 2, none⟩) (by simp) (.slice ua1 j uz1)
          have hfl := FL.of_own (own_kt hown (hkt _ (by decide))) (HFX.out.kt (hkt _ (by decide))) (by rw [List.length_map, HNF.out]; exact hl2)
          have hul := (ULP.of_own (own_kt hownU (hkt _ (by decide))) (HUX.out.kept (kept_below hb hbw)) (by rw [List.length_map, HNU.out]; omega)).any
          have hsl : SL _ (.slice ua ns uk) c.us := SL.keeps hbw HUS.out
          have HSV := Lib.hid (SV.mk (cf := c) hfl hsl hul)
          have HB := Lib.hid hbw
          have HH := Lib.hid h3
          clear hrc hsy hcf hown hownU HFX HUF HUX hfl hul hsl h1 h2 h3 hkt hbw
          go_wp2_with fail
          refine bodyPost_ret (results_cell_row rfl _ _ (w.heap.size + 1) 32 #[.slice fa1 k fz1, .slice ua ns uk, .slice ua1 j uz1] (0, 0) _ rfl (by simpa using HH.out) Tryz.underlying32 rfl (by kernel_rfl)) rfl ?_
          exact ⟨_, _, _, rfl, HSV.out, HB.out⟩
end Go.Proofs.YthefajkihnlgfaaGreatDoor

