/- strings.NewReplacer at the four signs that a string escapes: the walk. -/
import Derived.Test.YthefajkihnlgfaaGreatDoorM29
import Derived.Test.YthefajkihnlgfaaGreatDoorM17
import Derived.Deep.DeepCutAuto
import Derived.Deep.CutBlock
import Derived.Deep.CutRange
import Derived.Deep.WholeRow
namespace Go.Proofs.YthefajkihnlgfaaGreatDoor
open Go.RowKit
set_option linter.unusedSimpArgs false
set_option linter.unusedVariables false
def qeO : List ByteArray := [⟨#[10]⟩, ⟨#[92, 110]⟩, ⟨#[9]⟩, ⟨#[92, 116]⟩, ⟨#[34]⟩, ⟨#[92, 34]⟩, ⟨#[92]⟩, ⟨#[92, 92]⟩]
theorem infoSt : (Tryz.prog.info? 9).map (fun i => (i.zero, i.size, i.bytes)) = some (some (.string ⟨#[]⟩), 1, 16) := by kernel_rfl
theorem make_str4 (w : World) : (Instr.makeSlice 24 (.int .i64 0) (.int .i64 4)).run Tryz.prog w = .ok (.slice (some ⟨w.heap.size, 0, none⟩) 0 4) (w.alloc (.cells #[.string ⟨#[]⟩, .string ⟨#[]⟩, .string ⟨#[]⟩, .string ⟨#[]⟩] 9)) := by
  obtain ⟨i0, hi, hz0, hz1, hz2⟩ := info_parts infoSt
  have hr := run_make (P := Tryz.prog) (w := w) 24 9 i0 _ Tryz.underlying24 hi hz0 .i64 .i64 0 4 (by omega) (by omega) (by rw [hz2]; omega) (by omega)
  rw [hr, hz1]
  have e : madeCells (Value.string ⟨#[]⟩).cells (Int.toNat 4 * 1) = #[.string ⟨#[]⟩, .string ⟨#[]⟩, .string ⟨#[]⟩, .string ⟨#[]⟩] := by
    have := toList_madeCells_one (.string ⟨#[]⟩) 4
    apply Array.ext'
    exact this
  rw [e]
  rfl
theorem store_rep (v : Value) (hv : v.oneCell' = true) (W : World) {q : Nat} (hq : q = W.heap.size) : (storeCells ⟨q, 0, none⟩ (Tryz.zeroCells129.toList.set 256 v)).run Tryz.prog (W.alloc (.cells Tryz.zeroCells129 129)) = .ok () (W.alloc (.cells (Tryz.zeroCells129.setIfInBounds 256 v) 129)) := by
  subst hq
  have h := run_storeCells_new (P := Tryz.prog) W 129 Tryz.zeroCells129 (Tryz.zeroCells129.setIfInBounds 256 v) (by rw [Array.size_setIfInBounds]; kernel_rfl) (by rw [Array.size_setIfInBounds]) (by
    rw [Array.all_eq_true']
    intro x hx
    rcases Array.mem_or_eq_of_mem_setIfInBounds hx with h | h
    · have hall : (Tryz.zeroCells129.all (·.oneCell')) = true := by kernel_rfl
      exact Array.all_eq_true'.1 hall x h
    · rw [h]; exact hv)
  rw [Array.toList_setIfInBounds] at h
  exact h
theorem conv_one1 (c : UInt8) (w : World) : (convert 40 9 (.slice (some ⟨w.heap.size, 0, none⟩) 1 1)).run Tryz.prog (w.alloc (.cells #[.int .u8 c.toNat] 5)) = .ok (.string ⟨#[c]⟩) (w.alloc (.cells #[.int .u8 c.toNat] 5)) :=
  run_convert_bytes_back _ 40 9 5 ⟨w.heap.size, 0, none⟩ 1 [c] Tryz.underlying40 Tryz.underlying5 Tryz.underlying9 fun j hj => by
    have hj0 : j = 0 := by simp at hj; omega
    subst hj0
    exact block_cell (i := 0) (block_new _ _ rfl) rfl
/-- append(list of the call's own, one string), the string lying in a cell. -/
theorem append_str1 {w : World} {ops : Array Oper} {rest : List Oper} {o : Oper} {a : Act} {Q : Exit → Act → World → Prop} (hgd : o.guard = none) (s x : Operand)
    (ho : o.op = .call { callee := .builtin .append, args := #[s, x], argTypes := #[24, 24] })
    (base : Nat) (v : Value) (n : Nat) (xs : List Value) (hs : a.eval s = v) (hown : w.ownsRow base 9 1 v n xs)
    (b c : Nat) (t : ByteArray) (hx : a.eval x = .slice (some ⟨b, 0, none⟩) 1 c) (hy : w.cell? ⟨b, 0, none⟩ = some (.string t)) (hn : n + 1 ≤ 8796093022208) (hbase : base ≤ w.heap.size)
    (h : ∀ v' w', w'.ownsRow base 9 1 v' (n + 1) (xs ++ [.string t]) → w.grownBy w' v.ownBlock → (v'.ownBlock = v.ownBlock ∨ v'.ownBlock = some w.heap.size) → wpList Tryz.prog ops Q rest (a.put o.dst v') w') : wpList Tryz.prog ops Q (o :: rest) a w := by
  obtain ⟨i0, hi, hz0, hz1, hz2⟩ := info_parts infoSt
  refine wpList_append_own_at w hgd s x 24 ho base 9 i0 _ 1 16 Tryz.underlying24 hi hz0 hz1 hz2 rfl (by decide) v n xs hs hown ⟨b, 0, none⟩ 1 c [.string t] hx rfl ?_ ?_ (by unfold maxLen; omega) (by omega) hbase (fun v' w' h2 h3 _ h5 => h v' w' h2 h3 h5)
  · intro j u hu
    match j, hu with
    | 0, hu => simp at hu; subst hu; exact hy
    | j + 1, hu => simp at hu
  · intro u hu
    simp at hu
    subst hu; rfl
theorem keep_cx {w4 : World} {q c : Nat} {u : Value} (h : q < w4.heap.size) (hc : c ≠ 256) (hcell : w4.cell? ⟨q, c, none⟩ = some u) : ∀ v x, ((w4.setCell ⟨q, 256, none⟩ v).alloc x).cell? ⟨q, c, none⟩ = some u := fun v x => by
  rw [World.cell?_alloc_lt, World.cell?_setCell_other]
  · exact hcell
  · simp <;> omega
  · simpa using h
theorem keep_fx {w4 : World} {q c : Nat} (h : q < w4.heap.size) (hz : w4.frozen? ⟨q, c, none⟩ = false) : ∀ v x, ((w4.setCell ⟨q, 256, none⟩ v).alloc x).frozen? ⟨q, c, none⟩ = false := fun v x => by
  rw [World.frozen?_alloc_old, World.frozen?_setCell]
  · exact hz
  · simp; omega
theorem own_map {w w' : World} {lo n size : Nat} {e : TypeId} {v : Value} {xs : List Value} (h : w.ownsRow lo e size v n xs) (hk : ∀ g, v.ownBlock = some g → w'.heap[g]? = w.heap[g]?) : w'.ownsRow lo e size v n xs := by
  obtain ⟨h1, h2⟩ := h
  refine ⟨h1, ?_⟩
  rcases h2 with h2 | ⟨g, cap, cur, hv, hg, hh, r⟩
  · exact Or.inl h2
  · exact Or.inr ⟨g, cap, cur, hv, hg, by rw [hk g (by rw [hv]; rfl)]; exact hh, r⟩
/-- A built replacer of the four signs at rb. -/
def BSR (lo rb : Nat) (w : World) : Prop :=
  lo ≤ rb ∧ (∃ g tc, lo ≤ g ∧ w.cell? ⟨rb, 256, none⟩ = some (.slice (some ⟨g, 0, none⟩) 4 tc) ∧ ∀ j c, qeC[j]? = some c → w.cell? ⟨g, j, none⟩ = some (.string ⟨#[UInt8.ofNat c]⟩)) ∧
  ∀ c, c < 256 → if c ∈ qeC then ∃ y m, lo ≤ y ∧ w.cell? ⟨rb, c, none⟩ = some (.slice (some ⟨y, 0, none⟩) 2 m) ∧ w.cell? ⟨y, 0, none⟩ = some (.int .u8 92) ∧ w.cell? ⟨y, 1, none⟩ = some (.int .u8 (qeE c : Int)) else w.cell? ⟨rb, c, none⟩ = some (.slice none 0 0)
theorem BSR.keepsAt {lo rb : Nat} {w w' : World} (h : BSR lo rb w) (hb : ∀ k, lo ≤ k → k < w.heap.size → w'.heap[k]? = w.heap[k]?) : BSR lo rb w' := by
  have key : ∀ {g i : Nat} {v : Value}, lo ≤ g → w.cell? ⟨g, i, none⟩ = some v → w'.cell? ⟨g, i, none⟩ = some v := fun {g i v} hg hc =>
    (World.cell?_of_block (a := ⟨g, i, none⟩) (hb g hg (World.block_lt_of_cell? w _ hc))).trans hc
  obtain ⟨h0, ⟨g, tc, hg, h1, h2⟩, h3⟩ := h
  refine ⟨h0, ⟨g, tc, hg, key h0 h1, fun j c hj => key hg (h2 j c hj)⟩, fun c hc => ?_⟩
  have h := h3 c hc
  by_cases hm : c ∈ qeC
  · rw [if_pos hm] at h ⊢
    obtain ⟨y, m, a0, a1, a2, a3⟩ := h
    exact ⟨y, m, a0, key h0 a1, key a0 a2, key a0 a3⟩
  · rw [if_neg hm] at h ⊢
    exact key h0 h
theorem BSR.keeps {lo rb : Nat} {w w' : World} (h : BSR lo rb w) (hb : Below w.heap.size w w') : BSR lo rb w' := h.keepsAt fun k _ hk => hb.block k hk
/-- What stands behind k rounds: rb = Z + 1. -/
def RB (Z k : Nat) (w0 w : World) : Prop :=
  ∃ (C : Array Value) (tv : Value), w.heap[Z + 1]? = some (.cells C 129 (0, 0)) ∧ C.size = 257 ∧ C[256]? = some tv ∧ tv.ownBlock ≠ some (Z + 1) ∧ w.ownsRow Z 9 1 tv k ((qeC.take k).map fun c => Value.string ⟨#[UInt8.ofNat c]⟩) ∧
    (∀ c, c < 256 → if c ∈ qeC.take k then ∃ y m, Z + 1 < y ∧ some y ≠ tv.ownBlock ∧ C[c]? = some (.slice (some ⟨y, 0, none⟩) 2 m) ∧ w.cell? ⟨y, 0, none⟩ = some (.int .u8 92) ∧ w.cell? ⟨y, 1, none⟩ = some (.int .u8 (qeE c : Int)) else C[c]? = some (.slice none 0 0)) ∧ Below w0.heap.size w0 w ∧ Z + 2 ≤ w.heap.size
theorem esc_row0 (e m : Nat) : (bytesRow ⟨#[92, UInt8.ofNat e]⟩ m)[0]? = some (.int .u8 92) := by
  unfold bytesRow
  rw [Array.getElem?_append_left (by simp)]
  simp
theorem esc_row1 {e : Nat} (he : e < 256) (m : Nat) : (bytesRow ⟨#[92, UInt8.ofNat e]⟩ m)[1]? = some (.int .u8 (e : Int)) := by
  unfold bytesRow
  rw [Array.getElem?_append_left (by simp)]
  simp
  omega
theorem qeC_mem {k c d : Nat} (hec : qeC[k]? = some c) : d ∈ qeC.take (k + 1) ↔ d ∈ qeC.take k ∨ d = c := by
  rw [List.take_add_one, hec]
  simp
theorem RB_step {Z k c e : Nat} {w0 wr w4 : World} {C : Array Value} {tv v4 : Value} {m : Nat} (o1 o2 : Obj) (hk : k < 4) (hZ : w0.heap.size = Z) (hec : qeC[k]? = some c) (he : qeE c = e) (hc : c < 256) (he2 : e < 256)
    (hC : wr.heap[Z + 1]? = some (.cells C 129 (0, 0))) (hCs : C.size = 257) (hC6 : C[256]? = some tv) (hnb : tv.ownBlock ≠ some (Z + 1)) (hown : wr.ownsRow Z 9 1 tv k ((qeC.take k).map fun c => Value.string ⟨#[UInt8.ofNat c]⟩))
    (hCc : ∀ c, c < 256 → if c ∈ qeC.take k then ∃ y m, Z + 1 < y ∧ some y ≠ tv.ownBlock ∧ C[c]? = some (.slice (some ⟨y, 0, none⟩) 2 m) ∧ wr.cell? ⟨y, 0, none⟩ = some (.int .u8 92) ∧ wr.cell? ⟨y, 1, none⟩ = some (.int .u8 (qeE c : Int)) else C[c]? = some (.slice none 0 0))
    (hb : Below w0.heap.size w0 wr) (hz : Z + 2 ≤ wr.heap.size)
    (hown4 : w4.ownsRow Z 9 1 v4 (k + 1) (((qeC.take k).map fun c => Value.string ⟨#[UInt8.ofNat c]⟩) ++ [.string ⟨#[UInt8.ofNat c]⟩]))
    (hg4 : ((wr.alloc o1).alloc o2).grownBy w4 tv.ownBlock) (hl4 : v4.ownBlock = tv.ownBlock ∨ v4.ownBlock = some ((wr.alloc o1).alloc o2).heap.size)
    (hC4 : w4.heap[Z + 1]? = some (.cells C 129 (0, 0))) :
    RB Z (k + 1) w0 (((w4.setCell ⟨Z + 1, 256, none⟩ v4).setCell ⟨Z + 1, c, none⟩ (.slice (some ⟨w4.heap.size, 0, none⟩) 2 m)).alloc (.cells (bytesRow ⟨#[92, UInt8.ofNat e]⟩ m) 5 ((bytesRow ⟨#[92, UInt8.ofNat e]⟩ m).size, (bytesRow ⟨#[92, UInt8.ofNat e]⟩ m).size + 1))).drew := by
  have hsz4 : wr.heap.size + 2 ≤ w4.heap.size := by have := hg4.size; simp at this; omega
  have hlow : ∀ j, tv.ownBlock = some j → Z ≤ j ∧ j < wr.heap.size := fun j hj => hown.lt j hj
  have hlow4 : ∀ j, v4.ownBlock = some j → Z ≤ j ∧ j < w4.heap.size := fun j hj => hown4.lt j hj
  have hnb4 : v4.ownBlock ≠ some (Z + 1) := by
    rcases hl4 with h | h
    · rw [h]; exact hnb
    · rw [h]; simp; omega
  have hkeep : ∀ y, y < w4.heap.size → y ≠ Z + 1 → (((w4.setCell ⟨Z + 1, 256, none⟩ v4).setCell ⟨Z + 1, c, none⟩ (.slice (some ⟨w4.heap.size, 0, none⟩) 2 m)).alloc (.cells (bytesRow ⟨#[92, UInt8.ofNat e]⟩ m) 5 ((bytesRow ⟨#[92, UInt8.ofNat e]⟩ m).size, (bytesRow ⟨#[92, UInt8.ofNat e]⟩ m).size + 1))).drew.heap[y]? = w4.heap[y]? := fun y hy hne => by
    refine Eq.trans (Below.heap_alloc _ _ y (by simpa using hy)) ?_
    rw [Below.heap_setCell _ _ _ _ hne, Below.heap_setCell _ _ _ _ hne]
  refine ⟨(C.setIfInBounds 256 v4).setIfInBounds c (.slice (some ⟨w4.heap.size, 0, none⟩) 2 m), v4, ?_, by simp [hCs], ?_, hnb4, ?_, ?_, ?_, ?_⟩
  · exact block_alloc (block_set (block_set hC4 _) _) _
  · rw [Array.getElem?_setIfInBounds_ne (by omega), Array.getElem?_setIfInBounds_self_of_lt (by omega)]
  · rw [List.take_add_one, hec]
    have h := own_map (w' := (((w4.setCell ⟨Z + 1, 256, none⟩ v4).setCell ⟨Z + 1, c, none⟩ (.slice (some ⟨w4.heap.size, 0, none⟩) 2 m)).alloc (.cells (bytesRow ⟨#[92, UInt8.ofNat e]⟩ m) 5 ((bytesRow ⟨#[92, UInt8.ofNat e]⟩ m).size, (bytesRow ⟨#[92, UInt8.ofNat e]⟩ m).size + 1))).drew) hown4 (fun g hg => hkeep g (hlow4 g hg).2 (fun h => hnb4 (by rw [hg, h])))
    simpa using h
  · intro d hd
    have hi := hCc d hd
    by_cases hdc : d = c
    · subst hdc
      rw [if_pos ((qeC_mem hec).2 (Or.inr rfl))]
      refine ⟨w4.heap.size, m, by omega, ?_, ?_, ?_, ?_⟩
      · intro h
        have := (hlow4 _ h.symm).2
        omega
      · rw [Array.getElem?_setIfInBounds_self_of_lt (by simp; omega)]
      · exact block_cell (block_new _ _ (by simp)) (esc_row0 e m)
      · rw [he]
        exact block_cell (block_new _ _ (by simp)) (esc_row1 he2 m)
    · have e1 : ((C.setIfInBounds 256 v4).setIfInBounds c (.slice (some ⟨w4.heap.size, 0, none⟩) 2 m))[d]? = C[d]? := by
        rw [Array.getElem?_setIfInBounds_ne (by omega), Array.getElem?_setIfInBounds_ne (by omega)]
      rw [e1]
      by_cases hm : d ∈ qeC.take k
      · rw [if_pos ((qeC_mem hec).2 (Or.inl hm))]
        rw [if_pos hm] at hi
        obtain ⟨y, m', h1, h2, h3, h4, h5⟩ := hi
        have hyl := World.block_lt_of_cell? wr ⟨y, 0, none⟩ h4
        have hy : (((w4.setCell ⟨Z + 1, 256, none⟩ v4).setCell ⟨Z + 1, c, none⟩ (.slice (some ⟨w4.heap.size, 0, none⟩) 2 m)).alloc (.cells (bytesRow ⟨#[92, UInt8.ofNat e]⟩ m) 5 ((bytesRow ⟨#[92, UInt8.ofNat e]⟩ m).size, (bytesRow ⟨#[92, UInt8.ofNat e]⟩ m).size + 1))).drew.heap[y]? = wr.heap[y]? := by
          rw [hkeep y (by simp at hyl; omega) (by omega)]
          have hyw : y < wr.heap.size := hyl
          have := hg4.block y (by simp; omega) h2
          rw [this, Below.heap_alloc _ _ _ (by simp; omega), Below.heap_alloc _ _ _ hyw]
        refine ⟨y, m', h1, ?_, h3, ?_, ?_⟩
        · rcases hl4 with h | h
          · rw [h]; exact h2
          · rw [h]
            have hyw : y < wr.heap.size := hyl
            simp; omega
        · rw [World.cell?_of_block (a := ⟨y, 0, none⟩) hy]; exact h4
        · rw [World.cell?_of_block (a := ⟨y, 1, none⟩) hy]; exact h5
      · rw [if_neg (fun h => by rcases (qeC_mem hec).1 h with h | h; exact hm h; exact hdc h)]
        rw [if_neg hm] at hi
        exact hi
  · refine (Below.alloc (Below.setCell (Below.setCell (Below.grown (Below.alloc (Below.alloc hb (by omega) _) (by simp; omega) _) hg4 (by simp; omega) (fun j hj => by have := hlow j hj; omega)) (by simp; omega) _) (by simp; omega) _) (by simp; omega) _).drew
  · simp; omega
theorem zero_bsr : Tryz.zeroCells129.toList.take 256 = List.replicate 256 (.slice none 0 0) := by kernel_rfl
theorem zero_size : Tryz.zeroCells129.size = 257 := by kernel_rfl
theorem RB_zero (w : World) {Z : Nat} (hZ : w.heap.size = Z) : RB Z 0 w ((w.alloc (.cells #[.string ⟨#[]⟩, .string ⟨#[]⟩, .string ⟨#[]⟩, .string ⟨#[]⟩] 9)).alloc (.cells (Tryz.zeroCells129.setIfInBounds 256 (.slice (some ⟨Z, 0, none⟩) 0 4)) 129)) := by
  refine ⟨_, .slice (some ⟨Z, 0, none⟩) 0 4, block_new _ _ (by simp [hZ]), by rw [Array.size_setIfInBounds]; exact zero_size, ?_, by simp [Value.ownBlock], ⟨by simp, Or.inr ⟨Z, 4, _, rfl, Nat.le_refl _, block_alloc (block_new _ _ hZ.symm) _, by omega, by decide, rfl, by simp⟩⟩, ?_, ((Below.refl _ _).alloc (Nat.le_refl _) _).alloc (by simp) _, by simp [hZ]⟩
  · rw [Array.getElem?_setIfInBounds_self_of_lt (by rw [zero_size]; omega)]
  · intro c hc
    rw [if_neg (by simp)]
    rw [Array.getElem?_setIfInBounds_ne (by omega)]
    have h : (Tryz.zeroCells129.toList.take 256)[c]? = some (.slice none 0 0) := by
      rw [zero_bsr, List.getElem?_replicate, if_pos hc]
    rw [List.getElem?_take, if_pos hc, Array.getElem?_toList] at h
    exact h
theorem RB_full {Z : Nat} {w0 w : World} (h : RB Z 4 w0 w) : BSR Z (Z + 1) w := by
  obtain ⟨C, tv, hC, hCs, hC6, hnb, hown, hCc, hb, hz⟩ := h
  obtain ⟨hl, hw⟩ := hown
  rcases hw with ⟨_, h⟩ | ⟨g, cap, cur, hv, hg, hh, h1, h2, h3, h4⟩
  · omega
  refine ⟨by omega, ⟨g, cap, hg, by rw [← hv]; exact block_cell hC hC6, fun j c hj => ?_⟩, fun c hc => ?_⟩
  · refine block_cell hh ?_
    have hj4 : j < 4 := by
      have := (List.getElem?_eq_some_iff.1 hj).1
      exact this
    have e : (cur.toList.take (4 * 1))[j]? = some (.string ⟨#[UInt8.ofNat c]⟩) := by
      rw [h4, List.getElem?_map, List.getElem?_take, if_pos hj4, hj]
      rfl
    rw [List.getElem?_take, if_pos (by omega)] at e
    rw [← e]
    simp
  · have h := hCc c hc
    have e : qeC.take 4 = qeC := rfl
    rw [e] at h
    by_cases hm : c ∈ qeC
    · rw [if_pos hm] at h ⊢
      obtain ⟨y, m, a1, a2, a3, a4, a5⟩ := h
      exact ⟨y, m, by omega, block_cell hC a3, a4, a5⟩
    · rw [if_neg hm] at h ⊢
      exact block_cell hC h
set_option maxHeartbeats 4000000 in
set_option maxRecDepth 100000 in
theorem build_any (b nb nc : Nat) (w : World) (h4 : w.cell? ⟨b, 4, none⟩ = some (.slice (some ⟨nb, 0, none⟩) 8 nc)) (hn : ∀ j s, qeO[j]? = some s → w.cell? ⟨nb, j, none⟩ = some (.string s)) :
    Calls Tryz.prog 56 #[.pointer (some ⟨b, 0, none⟩)] w fun e w' => ∃ rb, w.heap.size ≤ rb ∧ e = .returned (.iface 130 (.pointer (some ⟨rb, 0, none⟩))) ∧ BSR w.heap.size rb w' ∧ Below w.heap.size w w' := by
  have n0 := hn 0 _ rfl
  have n1 := hn 1 _ rfl
  have n2 := hn 2 _ rfl
  have n3 := hn 3 _ rfl
  have n4 := hn 4 _ rfl
  have n5 := hn 5 _ rfl
  have n6 := hn 6 _ rfl
  have n7 := hn 7 _ rfl
  have HN := Lib.hid hn
  have hmk := make_str4
  have hst := store_rep (.slice (some ⟨w.heap.size, 0, none⟩) 0 4) rfl (w.alloc (.cells #[.string ⟨#[]⟩, .string ⟨#[]⟩, .string ⟨#[]⟩, .string ⟨#[]⟩] 9)) (q := w.heap.size + 1) (by simp)
  clear hn
  go_enter Tryz.func56, Tryz.ntmps56
  go_wp2_with fail
  go_loopw [4, 5] (fun f i wr => ∃ k : Nat, k ≤ 4 ∧ i = .int .i64 ((2 * k : Nat) : Int) ∧ f = .bool (decide (k = 0)) ∧ wr = w) (fun _ i _ => 8 - (intOf i).toNat)
  case atStart => exact ⟨0, by decide, rfl, rfl, rfl⟩
  case round =>
    obtain ⟨k, hk, hi5, hf4, rfl⟩ := hrel
    rcases (by omega : k = 0 ∨ k = 1 ∨ k = 2 ∨ k = 3 ∨ k = 4) with rfl | rfl | rfl | rfl | rfl
    · subst hi5 hf4
      go_wp2_with fail
      go_roundw
      case rel => exact ⟨1, by decide, rfl, rfl, trivial⟩
      case measure => simp [intOf]
    · subst hi5 hf4
      go_wp2_with fail
      go_roundw
      case rel => exact ⟨2, by decide, rfl, rfl, trivial⟩
      case measure => simp [intOf]
    · subst hi5 hf4
      go_wp2_with fail
      go_roundw
      case rel => exact ⟨3, by decide, rfl, rfl, trivial⟩
      case measure => simp [intOf]
    · subst hi5 hf4
      go_wp2_with fail
      go_roundw
      case rel => exact ⟨4, by decide, rfl, rfl, trivial⟩
      case measure => simp [intOf]
    · have hi5 : _ = Value.int .i64 8 := hi5
      have hf4 : _ = Value.bool false := hf4
      subst hi5 hf4
      go_upto_region 28 with fail
      obtain ⟨Z, hZ⟩ : ∃ Z, wr.heap.size = Z := ⟨_, rfl⟩
      rw [hZ]
      go_loopw [12] (fun i wq => ∃ k : Nat, k ≤ 4 ∧ i = .int .i64 (6 - 2 * (k : Int)) ∧ RB Z k wr wq) (fun i _ => (intOf i + 2).toNat)
      case atStart =>
        exact ⟨0, by decide, by rfl, RB_zero wr hZ⟩
      case round =>
        obtain ⟨k, hk, rfl, hRB⟩ := hrel
        obtain ⟨C, tv, hC, hCs, hC6, hnb, hown, hCc, hb, hz⟩ := hRB
        have hcell : ∀ j s, qeO[j]? = some s → wr.cell? ⟨nb, j, none⟩ = some (.string s) := fun j s h => cell_keeps hb (HN.out j s h)
        have c6 : wr.cell? ⟨Z + 1, 256, none⟩ = some tv := block_cell hC hC6
        have f6 : ∀ j, wr.frozen? ⟨Z + 1, j, none⟩ = false := fun j => block_free hC
        obtain ⟨ta, tc, rfl⟩ := own_shape hown
        rcases (by omega : k = 4 ∨ k < 4) with rfl | hk4
        · have HRB := Lib.hid (RB_full ⟨C, _, hC, hCs, hC6, hnb, hown, hCc, hb, hz⟩)
          clear hC hCc
          go_wp2_with fail
          go_ret
          exact ⟨Z + 1, by omega, rfl, by rw [hZ]; exact HRB.out, hb⟩
        · obtain ⟨j, c, e, hj, hj8, hc, he, hece, hec, hoc, hon⟩ : ∃ j c e : Nat, 6 - 2 * (k : Int) = (j : Int) ∧ j + 1 < 8 ∧ c < 256 ∧ e < 256 ∧ qeE c = e ∧ qeC[k]? = some c ∧ qeO[j]? = some ⟨#[UInt8.ofNat c]⟩ ∧ qeO[j + 1]? = some ⟨#[92, UInt8.ofNat e]⟩ := by
            rcases (by omega : k = 0 ∨ k = 1 ∨ k = 2 ∨ k = 3) with rfl | rfl | rfl | rfl
            · exact ⟨6, 92, 92, by decide, by decide, by decide, by decide, rfl, rfl, rfl, rfl⟩
            · exact ⟨4, 34, 34, by decide, by decide, by decide, by decide, rfl, rfl, rfl, rfl⟩
            · exact ⟨2, 9, 116, by decide, by decide, by decide, by decide, rfl, rfl, rfl, rfl⟩
            · exact ⟨0, 10, 110, by decide, by decide, by decide, by decide, rfl, rfl, rfl, rfl⟩
          have m6 := hcell _ _ hoc
          have m7 := hcell _ _ hon
          have hcC : C[c]? = some (.slice none 0 0) := by
            have h := hCc c hc
            rw [if_neg (by
              rcases (by omega : k = 0 ∨ k = 1 ∨ k = 2 ∨ k = 3) with rfl | rfl | rfl | rfl <;> (simp [qeC] at hec; subst hec; decide))] at h
            exact h
          have c92 : wr.cell? ⟨Z + 1, c, none⟩ = some (.slice none 0 0) := block_cell hC hcC
          have HC := Lib.hid hC
          have HCC := Lib.hid hCc
          have HEC := Lib.hid hec
          have hc256 : c ≠ 256 := by omega
          have HJ := Lib.hid hj
          have hct : (UInt8.ofNat c).toNat = c := by simp [UInt8.toNat_ofNat']; omega
          have hix : ∀ h, ((⟨#[UInt8.ofNat c]⟩ : ByteArray)[0]'h).toNat = c := fun _ => hct
          have hie : ∀ h, ((⟨#[UInt8.ofNat c]⟩ : ByteArray)[(Int.toNat 0)]'h).toNat = c := fun _ => hct
          have hw1 : IntKind.i64.wrap ((j : Int) + 1) = (j : Int) + 1 := IntWalk.i64_in _ (by omega)
          have hcv : ∀ W : World, (convert 40 9 (.slice (some ⟨W.heap.size, 0, none⟩) 1 1)).run Tryz.prog (W.alloc (.cells #[.int .u8 (c : Int)] 5)) = .ok (.string ⟨#[UInt8.ofNat c]⟩) (W.alloc (.cells #[.int .u8 (c : Int)] 5)) := fun W => by
            have h := conv_one1 (UInt8.ofNat c) W
            rw [hct] at h
            exact h
          have hbs : ∀ W : World, (convert 9 40 (.string ⟨#[92, UInt8.ofNat e]⟩)).run Tryz.prog W = _ := fun W => run_bytes_of_string W 9 40 5 ⟨#[92, UInt8.ofNat e]⟩ Tryz.underlying9 Tryz.underlying40 Tryz.underlying5
          have hsz : (⟨#[92, UInt8.ofNat e]⟩ : ByteArray).size = 2 := rfl
          have heq : ∀ W : World, (binOp .eql 40 (.slice none 0 0) (.slice none 0 0)).run Tryz.prog W = .ok (.bool true) W := fun _ => by rfl
          rw [hj]
          clear hCc hC n0 n1 n2 n3 n4 n5 n6 n7 hst hmk hec hj hoc hon
          go_wp2_with (at_builtin
                       go_loud (refine append_str1 rfl _ _ rfl Z (.slice ta k tc) k _ rfl (World.ownsRow.alloc (World.ownsRow.alloc hown _) _) (wr.heap.size + 1) _ ⟨#[UInt8.ofNat c]⟩ rfl (block_cell (block_new _ _ (by simp)) rfl) (by omega) (by simp; omega) ?_)
                       intro v4 w4 hown4 hg4 hl4
                       go_loud (obtain ⟨a4, c4, rfl⟩ := own_shape hown4)
                       have hC4 := block_grown (block_alloc (block_alloc HC.out (Obj.cells #[.int .u8 (c : Int)] 5)) (Obj.cells #[.string ⟨#[UInt8.ofNat c]⟩] 9)) hg4 hnb.symm
                       have c46 : w4.cell? ⟨Z + 1, 256, none⟩ = _ := block_cell hC4 hC6
                       have c4c : w4.cell? ⟨Z + 1, c, none⟩ = _ := block_cell hC4 hcC
                       have q4 : ∀ j, w4.frozen? ⟨Z + 1, j, none⟩ = false := fun j => block_free hC4
                       have hlt4 : Z + 1 < w4.heap.size := (Array.getElem?_eq_some_iff.1 hC4).1
                       have cx := keep_cx hlt4 hc256 c4c
                       have fx := keep_fx hlt4 (q4 c)
                       have HC4 := Lib.hid hC4
                       have HG4 := Lib.hid hg4
                       have HL4 := Lib.hid hl4
                       clear hC4 c4c hg4 hl4)
          go_roundw
          case rel =>
            refine ⟨k + 1, hk4, by have := HJ.out; congr 1; omega, ?_⟩
            exact RB_step _ _ hk4 hZ HEC.out hece hc he HC.out hCs hC6 hnb hown HCC.out hb hz hown4 HG4.out HL4.out HC4.out
          case measure =>
            simp [intOf]
            have := HJ.out
            omega
end Go.Proofs.YthefajkihnlgfaaGreatDoor

