/- The reader puts a token behind its others, and makes a fault. -/
import Derived.Test.YtnhdedoobagbbaaGreatDoorBytes
import Derived.Deep.RegionLaw
import Derived.StillTailTactics
import Derived.Deep.DeepCutAuto
import Derived.Deep.RegionHeld3
namespace Go.Proofs.YtnhdedoobagbbaaGreatDoor
open Go.RowKit

/-- A token as plain data. -/
structure Tok where
  kind : Int
  text : ByteArray
  num : Int
  bits : Nat
  place : Nat
def Tok.cells (t : Tok) : List Value := [.int .i64 t.kind, .string t.text, .int .i64 t.num, .float .f64 t.bits, .int .i64 t.place]
def flatT (ts : List Tok) : List Value := ts.flatMap Tok.cells
theorem flatT_nil : flatT [] = [] := rfl
theorem flatT_snoc (ts : List Tok) (t : Tok) : flatT (ts ++ [t]) = flatT ts ++ t.cells := by simp [flatT]
theorem flatT_length (ts : List Tok) : (flatT ts).length = ts.length * 5 := by
  induction ts with
  | nil => rfl
  | cons t r ih => simp [flatT, List.flatMap_cons, Tok.cells] at ih ⊢; omega
theorem flatT_at {ts : List Tok} {i : Nat} {t : Tok} (h : ts[i]? = some t) (j : Nat) (hj : j < 5) : (flatT ts)[i * 5 + j]? = t.cells[j]? := by
  induction ts generalizing i with
  | nil => simp at h
  | cons x r ih =>
    have hf : flatT (x :: r) = x.cells ++ flatT r := by simp [flatT]
    have hx : x.cells.length = 5 := rfl
    rw [hf]
    cases i with
    | zero =>
      simp at h
      subst h
      rw [List.getElem?_append_left (by omega)]
      simp
    | succ i =>
      simp at h
      rw [List.getElem?_append_right (by omega), hx, show (i + 1) * 5 + j - 5 = i * 5 + j by omega]
      exact ih h

theorem infoT : (Tryz.prog.info? 34).map (fun i => (i.zero, i.size, i.bytes)) = some (some (.agg #[.int .i64 0, .string ⟨#[]⟩, .int .i64 0, .float .f64 0, .int .i64 0]), 5, 48) := by kernel_rfl
/-- append(list of the call's own, one token), as one step of a region that draws its order. -/
theorem step_append_tok {w : World} {ops : Array Oper} {o : Oper} {a : Act} {K : Act → World → Prop} {Q : Exit → Act → World → Prop} {E : Prop} (hgd : o.guard = none) (s x : Operand)
    (ho : o.op = .call { callee := .builtin .append, args := #[s, x], argTypes := #[23, 23] })
    (base : Nat) (v : Value) (n : Nat) (xs : List Value) (hs : a.eval s = v) (hown : w.ownsRow base 34 5 v n xs)
    (b c : Nat) (t : Tok) (hx : a.eval x = .slice (some ⟨b, 0, none⟩) 1 c)
    (hb : w.heap[b]? = some (.cells t.cells.toArray 34 (0, 0))) (hn : n + 1 ≤ 1759218604441) (hbase : base ≤ w.heap.size)
    (h : ∀ v' w', w'.ownsRow base 34 5 v' (n + 1) (xs ++ t.cells) → w.grownBy w' v.ownBlock → (v'.ownBlock = v.ownBlock ∨ v'.ownBlock = some w.heap.size) → K (a.put o.dst v') w') :
    if Region.wanted o (yielded ops a.tmps) = true then Oper.wp Tryz.prog o a w K Q else E := by
  have hw : Region.wanted o (yielded ops a.tmps) = true := by simp [Region.wanted, hgd]
  rw [if_pos hw]
  obtain ⟨i0, hi, hz0, hz1, hz2⟩ := info_parts infoT
  have hadd : ∀ i, (⟨b, 0, none⟩ : Addr).add i = ⟨b, i, none⟩ := fun i => by unfold Addr.add; split <;> simp_all
  obtain ⟨v', w', hr, r2, r3, r4, r5⟩ := run_append_own_at (P := Tryz.prog) w base 23 o.type 34 i0 _ 5 48 Tryz.underlying23 hi hz0 hz1 hz2 rfl (by decide) v n xs hown ⟨b, 0, none⟩ 1 c t.cells rfl
    (fun j u hu => by
      rw [hadd]
      exact block_cell hb (by simpa using hu))
    (fun u hu => by
      simp [Tok.cells] at hu
      rcases hu with rfl | rfl | rfl | rfl | rfl <;> rfl) (by unfold maxLen; omega) (by omega) hbase
  unfold Oper.wp execOp
  simp only [ho, resolve, invoke, builtin, Sem.run_bind, Sem.run_pure, Result.andThen_ok, List.map_toArray, List.map_cons, List.map_nil, hs, hx, hr]
  exact h v' w' r2 r3 r5

/-- What the reader's methods keep: all that lay ahead of the reader. -/
theorem RD.below' {w w' : World} {g at' B : Nat} {s : ByteArray} {out : Value} (h : RD w g s at' out) (hb : Below B w w') (hg : g < B) : RD w' g s at' out := by
  unfold RD; rw [hb.block g hg]; exact h

theorem keep_put {w1 W w' : World} {row : Option Nat} {b o : Nat} {v : Value} (hg : W.grownBy w' row) (hb : Below w1.heap.size w1 W) (hne : some b ≠ row) (hc : w1.cell? ⟨b, o, none⟩ = some v) : w'.cell? ⟨b, o, none⟩ = some v :=
  hg.cell (cell_keeps hb hc) hne

set_option maxHeartbeats 1000000 in
set_option maxRecDepth 100000 in
theorem put_any {g at' : Nat} {s : ByteArray} {out : Value} {ts : List Tok} {w : World} (z : Nat) (t : Tok) (p : Int) (hr : RD w g s at' out) (hown : w.ownsRow (g + 1) 34 5 out ts.length (flatT ts)) (hn : ts.length ≤ 100000) (hp : t.place = at') :
    Calls Tryz.prog 17 #[.pointer (some ⟨g, 0, none⟩), .int .i64 z, .agg #[.int .i64 t.kind, .string t.text, .int .i64 t.num, .float .f64 t.bits, .int .i64 p]] w fun e w' =>
      e = .returned (.tuple #[]) ∧ ∃ out', RD w' g s z out' ∧ w'.ownsRow (g + 1) 34 5 out' (ts ++ [t]).length (flatT (ts ++ [t])) ∧ Below g w w' := by
  have c1 := hr.c1
  have c2 := hr.c2
  have hlt := hr.lt
  subst hp
  go_enter Tryz.func17, Tryz.ntmps17
  go_upto_region 2 with fail
  have hB := block_new w (Obj.cells #[Value.int IntKind.i64 t.kind, Value.string t.text, Value.int IntKind.i64 t.num, Value.float FloatKind.f64 t.bits, Value.int IntKind.i64 t.place] 34) rfl
  have hb1 : Below w.heap.size w (w.alloc (Obj.cells #[Value.int IntKind.i64 t.kind, Value.string t.text, Value.int IntKind.i64 t.num, Value.float FloatKind.f64 t.bits, Value.int IntKind.i64 t.place] 34)) := (Below.refl _ _).alloc (Nat.le_refl _) _
  have hr1 := hr.below hb1
  have hown1 := own_below hown hb1
  have hz1 : w.heap.size < (w.alloc (Obj.cells #[Value.int IntKind.i64 t.kind, Value.string t.text, Value.int IntKind.i64 t.num, Value.float FloatKind.f64 t.bits, Value.int IntKind.i64 t.place] 34)).heap.size := by simp
  generalize (w.alloc (Obj.cells #[Value.int IntKind.i64 t.kind, Value.string t.text, Value.int IntKind.i64 t.num, Value.float FloatKind.f64 t.bits, Value.int IntKind.i64 t.place] 34)) = w1 at *
  obtain ⟨oa, oc, rfl⟩ := own_shape hown
  have hlo := hown.lt
  have hne1 : some g ≠ (Value.slice oa ts.length oc).ownBlock := fun e => by have := (hlo g e.symm).1; omega
  have hne2 : some w.heap.size ≠ (Value.slice oa ts.length oc).ownBlock := fun e => by have := (hlo _ e.symm).2; omega
  have d2 := hr1.c2
  have b0 := block_cell (i := 0) hB rfl
  have b1 := block_cell (i := 1) hB rfl
  have b2 := block_cell (i := 2) hB rfl
  have b3 := block_cell (i := 3) hB rfl
  have b4 := block_cell (i := 4) hB rfl
  have HO := Lib.hid hown1
  clear c1 c2 hr hown hB hown1
  have dA := cell_keeps (w' := w1.alloc (Obj.cells #[Value.int IntKind.i64 t.kind, Value.string t.text, Value.int IntKind.i64 t.num, Value.float FloatKind.f64 t.bits, Value.int IntKind.i64 t.place] 34)) (by (repeat' (first | (with_reducible exact Below.refl _ _) | (with_reducible assumption) | (with_reducible refine below_drewN ?_ _) | (with_reducible refine Below.drew ?_) | (with_reducible refine Below.alloc ?_ ?_ _) | (with_reducible refine Below.setCell ?_ ?_ _) | omega | (simp; done) | (simp; omega)))) d2
  have hfree := block_free (i := 2) (show w1.heap[g]? = some _ from hr1)
  go_region_law (refine step_append_tok rfl _ _ (by rfl) (g + 1) (.slice oa ts.length oc) ts.length (flatT ts) (by rfl) (own_below HO.out (by (repeat' (first | (with_reducible exact Below.refl _ _) | (with_reducible assumption) | (with_reducible refine below_drewN ?_ _) | (with_reducible refine Below.drew ?_) | (with_reducible refine Below.alloc ?_ ?_ _) | (with_reducible refine Below.setCell ?_ ?_ _) | omega | (simp; done) | (simp; omega))))) _ _ t (by rfl) (block_new _ _ (by rfl)) (by omega) (by simp; omega) ?_
                 intro v' w' hown' hg' hl'
                 have hr' := block_grown (block_below (show w1.heap[g]? = some _ from hr1) (by (repeat' (first | (with_reducible exact Below.refl _ _) | (with_reducible assumption) | (with_reducible refine below_drewN ?_ _) | (with_reducible refine Below.drew ?_) | (with_reducible refine Below.alloc ?_ ?_ _) | (with_reducible refine Below.setCell ?_ ?_ _) | omega | (simp; done) | (simp; omega))))) hg' hne1
                 have f2' := block_free (i := 2) hr'
                 have e2' := block_cell (i := 2) hr' rfl
                 obtain ⟨va, vc, rfl⟩ := own_shape hown')
  all_goals
    have hrd := (show RD w' g s t.place (.slice oa ts.length oc) from hr').set2 (.slice va (ts.length + 1) vc)
    have hown2 := ownsRow_setCell_below hown' (a := ⟨g, 2, none⟩) (Nat.lt_succ_self g) (.slice va (ts.length + 1) vc)
    have hbg : Below g w (w'.setCell ⟨g, 2, none⟩ (.slice va (ts.length + 1) vc)) := (Below.grown (((hb1.mono (Nat.le_of_lt hlt)).alloc (by omega) _).drew) hg' (by simp; omega) (fun j hj => by have := (hlo j hj).1; omega)).setCell (Nat.le_refl _) _
    generalize w'.setCell ⟨g, 2, none⟩ (.slice va (ts.length + 1) vc) = w2 at *
    have q1 := hrd.c1
    have q2 := hrd.free 1
    clear hr' f2' e2' hown' hg' hl' dA hfree b0 b1 b2 b3 b4 d2 hr1
    go_wp2_with fail
    go_end0
    exact ⟨rfl, _, hrd.set1 z, by rw [flatT_snoc, List.length_append]; exact ownsRow_setCell_below hown2 (a := ⟨g, 1, none⟩) (Nat.lt_succ_self g) _, hbg.setCell (Nat.le_refl _) _⟩

/-- A fault's two cells. -/
def FT (w : World) (v : Value) (place e : Int) : Prop := ∃ f, v = .pointer (some ⟨f, 0, none⟩) ∧ w.heap[f]? = some (.cells #[.int .i64 place, .int .i64 e] 30 (0, 0))
theorem FT.below {w w' : World} {v : Value} {place e : Int} (h : FT w v place e) (hb : Below w.heap.size w w') : FT w' v place e := by
  obtain ⟨f, h1, h2⟩ := h
  exact ⟨f, h1, block_below h2 hb⟩
theorem fault_any (place e : Int) (w : World) : Calls Tryz.prog 11 #[.int .i64 place, .int .i64 e] w fun en w' => ∃ v, en = .returned v ∧ FT w' v place e ∧ Below w.heap.size w w' := by
  go_enter Tryz.func11, Tryz.ntmps11
  go_wp2_with fail
  go_ret
  exact ⟨_, rfl, ⟨_, rfl, block_new _ _ rfl⟩, (Below.refl _ _).alloc (Nat.le_refl _) _⟩
end Go.Proofs.YtnhdedoobagbbaaGreatDoor
