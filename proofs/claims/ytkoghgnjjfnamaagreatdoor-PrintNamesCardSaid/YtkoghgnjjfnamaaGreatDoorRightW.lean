/- RightW: what is used of them. -/
import Derived.Test.YtkoghgnjjfnamaaGreatDoorKc
import Derived.Test.YtkoghgnjjfnamaaGreatDoorKb
import Derived.Test.YtkoghgnjjfnamaaGreatDoorKd
import Derived.StillTailTactics
set_option linter.unusedSimpArgs false
set_option linter.unusedVariables false
namespace Go.Proofs.YtkoghgnjjfnamaaGreatDoor
open Go.RowKit
attribute [local go_sem] Oper.semAt_some
theorem with_worldR {P : Program} {c : Code} {Q : Exit → Act → World → Prop} {a : Act} {w : World} (h : ∀ w0 : World, w0 = w → c.wp P Q a w0) : c.wp P Q a w := h w rfl
theorem bl_at {begs : List Nat} {n k : Nat} (hb : begs.length = n) (hk : k < n) : (begs.take k ++ List.replicate (n - k) 0)[k]? = some 0 := by
 rw [List.getElem?_append_right (by simp; omega), List.getElem?_replicate]; simp
 omega
theorem bl_next {begs : List Nat} {n k : Nat} (hb : begs.length = n) (hk : k < n) : (begs.take k ++ List.replicate (n - k) 0).set k (begs.getD k 0) = begs.take (k + 1) ++ List.replicate (n - (k + 1)) 0 := by
 have h1 : begs.take (k + 1) = begs.take k ++ [begs.getD k 0] := by
  rw [List.take_add_one, List.getElem?_eq_getElem (by omega), List.getD_eq_getElem?_getD, List.getElem?_eq_getElem (by omega)]; rfl
 rw [h1, List.set_append_right _ _ (by simp; omega), List.append_assoc]; congr 1
 obtain ⟨m, hm⟩ : ∃ m, n - k = m + 1 := ⟨n - k - 1, by omega⟩; rw [hm, List.length_take, Nat.min_eq_left (by omega), Nat.sub_self, List.replicate_succ, List.set_cons_zero, show n - (k + 1) = m by omega]; rfl
theorem infoN : (Tryz.prog.info? 3).map (fun i => (i.zero, i.size, i.bytes)) = some (some (.int .i64 0), 1, 8) := by kernel_rfl
theorem make_nums (n : Nat) (hn : n ≤ 1000) (w : World) : (Instr.makeSlice 29 (.int .i64 (n : Int)) (.int .i64 (n : Int))).run Tryz.prog w = .ok (.slice (some ⟨w.heap.size, 0, none⟩) n n) (w.alloc (.cells ((List.replicate n 0).map num).toArray 3)) := by
 obtain ⟨i0, hi, hz0, hz1, hz2⟩ := info_parts infoN; have hr := run_make (P := Tryz.prog) (w := w) 29 3 i0 _ Tryz.underlying29 hi hz0 .i64 .i64 n n (by omega) (by omega) (by rw [hz2]; omega) (by omega); simp only [Int.toNat_natCast] at hr; rw [hr, hz1, Nat.mul_one]; have e : madeCells (Value.int .i64 0).cells n = ((List.replicate n 0).map num).toArray := by
  have := toList_madeCells_one (.int .i64 0) n; rw [List.map_replicate, show num 0 = .int .i64 0 from rfl, ← this]; rfl
 rw [e]
structure RI (w : World) (fv : Value) (n : Nat) (bl rs : List Nat) (W : World) : Prop where
 f : W.heap[w.heap.size]? = some (.cells #[fv] 23 (0, 0))
 r : W.heap[w.heap.size + 1]? = some (.cells #[.bool false] 4 (0, 0))
 g : W.heap[w.heap.size + 2]? = some (.cells (bl.map num).toArray 3 (0, 0))
 b : W.heap[w.heap.size + 3]? = some (.cells #[.slice (some ⟨w.heap.size + 2, 0, none⟩) n n] 29 (0, 0))
 mks : MarkedAt w.heap.size rs W
 low : Below w.heap.size w W
 big : w.heap.size + 4 ≤ W.heap.size
theorem RI.kept {w : World} {fv : Value} {n : Nat} {bl rs : List Nat} {W W' : World} (h : RI w fv n bl rs W) (hk : ∀ k, k < W.heap.size → W'.heap[k]? = W.heap[k]?) (hl : Below w.heap.size w W') (hz : W.heap.size ≤ W'.heap.size) : RI w fv n bl rs W' := by
 have hb := h.big; exact ⟨(hk _ (by omega)).trans h.f, (hk _ (by omega)).trans h.r, (hk _ (by omega)).trans h.g, (hk _ (by omega)).trans h.b, ⟨h.mks.1, fun r hr => ⟨(h.mks.2 r hr).1, (hk r (Array.getElem?_eq_some_iff.1 (h.mks.2 r hr).2).1).trans (h.mks.2 r hr).2⟩⟩, hl, by omega⟩
theorem RI.next {w : World} {fv : Value} {n : Nat} {bl rs : List Nat} {W W' : World} (h : RI w fv n bl rs W) (hb : Below W.heap.size W W') : RI w fv n bl rs W' :=
 h.kept hb.block (h.low.trans (hb.mono h.low.size)) hb.size
theorem RI.setg {w : World} {fv : Value} {n : Nat} {bl rs : List Nat} {W : World} (h : RI w fv n bl rs W) (j v : Nat) : RI w fv n (bl.set j v) rs (W.setCell ⟨w.heap.size + 2, j, none⟩ (.int .i64 (v : Int))) := by
 have hne : ∀ k, k ≠ w.heap.size + 2 → (W.setCell ⟨w.heap.size + 2, j, none⟩ (.int .i64 (v : Int))).heap[k]? = W.heap[k]? := fun k hk => Below.heap_setCell _ _ _ _ hk
 refine ⟨(hne _ (by omega)).trans h.f, (hne _ (by omega)).trans h.r, ?_, (hne _ (by omega)).trans h.b, ⟨h.mks.1, fun r hr => ⟨(h.mks.2 r hr).1, (hne r (fun e => ?_)).trans (h.mks.2 r hr).2⟩⟩, h.low.setCell (p := ⟨w.heap.size + 2, j, none⟩) (by simp) _, by have := h.big; simpa [World.setCell] using this⟩
 · have := block_set h.g (i := j) (.int .i64 (v : Int))
   rw [this]; congr 2
   apply Array.ext'
   simp [num, List.map_set]
 · have h2 := (h.mks.2 r hr).2
   rw [e, h.g] at h2; cases h2
theorem results_c1 {fn : Func} {t : Tmp} (h : fn.results = #[.cell t 4]) {tmps : Array Value} {w : World} {a : Addr} {x : Value} (hp : tmps.getD t undef = .pointer (some a)) (hc : w.cell? a = some x) : (results fn tmps).run Tryz.prog w = .ok x w := by
 have hp' : tmps[t]?.getD undef = .pointer (some a) := by rw [← hp]; simp
 unfold results; rw [h]; simp [hp', loadVar, isAgg, asAddr, hc, Result.andThen, go_sem]
def bA (begs kids : List Nat) (i : Nat) : Nat → Nat
 | 0 => i
 | j + 1 => begs.getD (kids.getD (kids.length - 1 - j) 5000) 0
theorem rev_get {kids : List Nat} {j : Nat} (h : j < kids.length) : kids.reverse.getD j 5000 = kids.getD (kids.length - 1 - j) 5000 := by
 rw [List.getD_eq_getElem?_getD, List.getD_eq_getElem?_getD, List.getElem?_reverse h]
def RJ (w : World) (fv : Value) (n : Nat) (bl rs : List Nat) (Z k N1 : Nat) (cN : Array Value) (begs kids : List Nat) (pre : List Nat) (W : World) : Prop :=
 pre = upto' (fun j => kids.length - 1 - j) pre.length ∧ pre.length ≤ kids.length ∧ RI w fv n (bl.set k (bA begs kids k pre.length)) rs W ∧ W.heap[Z]? = some (.cells #[.int .i64 (k : Int)] 3 (0, 0)) ∧ W.heap[Z + 1]? = some (.cells cN 36 (0, 0)) ∧ N1 ≤ W.heap.size
theorem RI.grown {w : World} {fv : Value} {n : Nat} {bl rs : List Nat} {W W' : World} {row : Option Nat} {N1 : Nat} (h : RI w fv n bl rs W) (hg : W.grownBy W' row) (hr : ∀ r, row = some r → N1 ≤ r) (hN : w.heap.size + 4 ≤ N1) (hrs : ∀ r ∈ rs, r < N1) : RI w fv n bl rs W' := by
 have hb := h.big; have hk : ∀ k, k < W.heap.size → k < N1 → W'.heap[k]? = W.heap[k]? := fun k hk hkN => hg.block k hk (fun e => by have := hr k e.symm; omega)
 exact ⟨(hk _ (by omega) (by omega)).trans h.f, (hk _ (by omega) (by omega)).trans h.r, (hk _ (by omega) (by omega)).trans h.g, (hk _ (by omega) (by omega)).trans h.b, ⟨h.mks.1, fun r hr' => ⟨(h.mks.2 r hr').1, (hk r (Array.getElem?_eq_some_iff.1 (h.mks.2 r hr').2).1 (hrs r hr')).trans (h.mks.2 r hr').2⟩⟩, h.low.grown hg h.low.size (fun j hj => by have := hr j hj; omega), by have := hg.size; omega⟩
theorem RJ.own {w : World} {fv : Value} {n : Nat} {bl rs : List Nat} {Z k N1 : Nat} {cN : Array Value} {begs kids : List Nat} (hN : w.heap.size + 4 ≤ N1) (hZ : Z + 1 < N1) (hrs : ∀ r ∈ rs, r < N1) : OwnFrom N1 (RJ w fv n bl rs Z k N1 cN begs kids) := by
 rintro pre A B row ⟨h1, h2, h3, h4, h5, h6⟩ hg hr; have hr' : ∀ r, row = some r → N1 ≤ r := fun r e => (hr r e).1
 refine ⟨h1, h2, h3.grown hg hr' hN hrs, ?_, ?_, Nat.le_trans h6 hg.size⟩
 · rw [hg.block Z (block_lt h4) (fun e => by have := hr' Z e.symm; omega)]; exact h4
 · rw [hg.block (Z + 1) (block_lt h5) (fun e => by have := hr' (Z + 1) e.symm; omega)]; exact h5
end Go.Proofs.YtkoghgnjjfnamaaGreatDoor
