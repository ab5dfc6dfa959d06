/- What units.Diff holds: its boxes, and what its loop over slices.Backward keeps. -/
import Derived.Test.YtlhlbckmifgeeaaDiffM
import Derived.Test.YtlhlbckmifgeeaaDiffD
import Derived.Test.YtlhlbckmifgeeaaCopied
import Derived.Maps.AppendAt
namespace Go.Proofs.Ytlhlbckmifgeeaa
open Go.RowKit Go.Shelf

theorem at_dropped (w : World) {ops : Array Oper} {rest : List Oper} {o : Oper} {a : Act} {Q : Exit → Act → World → Prop} (hw : o.guard = none) (m x : Operand) (t e : TypeId) (hop : o.op = Op.call { callee := Callee.builtin Builtin.delete, args := #[m, x], argTypes := #[t, 9] }) (ht : Try.prog.underlying t = some (.map 9 e))
    (b r n : Nat) (F : FMap) (left : ByteArray → Bool) (cnt : Nat) (hm : a.eval m = .map (some b)) (h : MR w b r n F left cnt) (s : ByteArray) (hx : a.eval x = .string s) (hs : s.size ≤ maxLen)
    (hK : ∀ w' cnt', MR w' b r n (updF F s none) (fun x => left x && !decide (x = s)) cnt' → cnt' ≤ cnt → w.grownBy w' (some b) → w'.heap.size = w.heap.size → wpList Try.prog ops Q rest (a.put o.dst (.tuple #[])) w') : wpList Try.prog ops Q (o :: rest) a w := by
  refine wpList_plain hw fun K' hK' => ?_
  obtain ⟨w', cnt', hr, h1, h2, h3, h4⟩ := h.drop ht hs o.type
  unfold Oper.wp
  simp [execOp, hop, resolve, invoke, builtin, hm, hx, hr, Result.andThen]
  exact hK' _ _ (hK w' cnt' h1 h2 h3 h4)
theorem ownsRow_base {w : World} {base base' : Nat} {e : TypeId} {size : Nat} {v : Value} {n : Nat} {xs : List Value} (h : w.ownsRow base e size v n xs) (hb : base' ≤ base) : w.ownsRow base' e size v n xs := by
  obtain ⟨h1, h2⟩ := h
  refine ⟨h1, ?_⟩
  rcases h2 with h2 | ⟨g, cap, cur, hv, hg, r⟩
  · exact Or.inl h2
  · exact Or.inr ⟨g, cap, cur, hv, Nat.le_trans hb hg, r⟩
theorem grown_of_below {w w' : World} (hb : Below w.heap.size w w') : w.grownBy w' none := ⟨hb.os, hb.tape, hb.output, hb.size, fun k hk _ => hb.block k hk⟩
theorem MR.below {w w' : World} {b r n : Nat} {F : FMap} {left : ByteArray → Bool} {cnt : Nat} (h : MR w b r n F left cnt) (hb : Below w.heap.size w w') : MR w' b r n F left cnt := h.kept (grown_of_below hb) (by simp) (by simp)
/-- The boxes of Diff. -/
structure Bx (w : World) (B : Nat) (vo vf : Value) : Prop where
  o : w.heap[B]? = some (.cells #[vo] 22 (0, 0))
  f : w.heap[B + 1]? = some (.cells #[vf] 22 (0, 0))
  m : w.heap[B + 4]? = some (.cells #[.map (some (B + 3))] 50 (0, 0))
theorem Bx.below {w w' : World} {B : Nat} {vo vf : Value} (h : Bx w B vo vf) (hb : Below w.heap.size w w') : Bx w' B vo vf := by
  have lt : ∀ {g : Nat} {o : Obj}, w.heap[g]? = some o → g < w.heap.size := fun h => (Array.getElem?_eq_some_iff.1 h).1
  exact ⟨by rw [hb.block _ (lt h.o)]; exact h.o, by rw [hb.block _ (lt h.f)]; exact h.f, by rw [hb.block _ (lt h.m)]; exact h.m⟩
theorem Bx.grown {w w' : World} {B : Nat} {vo vf : Value} {row : Option Nat} (h : Bx w B vo vf) (hg : w.grownBy w' row) (hr : ∀ k, row = some k → k = B + 3 ∨ B + 5 ≤ k) : Bx w' B vo vf :=
  ⟨block_grown h.o hg (fun e => by have := hr _ e.symm; omega), block_grown h.f hg (fun e => by have := hr _ e.symm; omega), block_grown h.m hg (fun e => by have := hr _ e.symm; omega)⟩

/-- Between two passes. -/
def FixR (B : Nat) (w : World) (old fresh : List U) (vo vf : Value) (N : Nat) (mb : Bool) (wq : World) (S : NSet) : Prop :=
  MF wq (B + 3) N (FS S) ∧ Bx wq B vo vf ∧ wq.heap[B + 2]? = some (.cells #[.slice none 0 0] 30 (0, 0)) ∧ Hid (Mid old fresh S) ∧ Hid (mb = false → Closed old fresh S) ∧ Below B w wq ∧ B + 5 ≤ wq.heap.size

theorem results_ctt {fn : Func} {t u v : Tmp} (h : fn.results = #[.cell t 30, .tmp u, .tmp v]) {tmps : Array Value} {w : World} {a : Addr} {x : Value} (hp : tmps.getD t undef = .pointer (some a)) (hc : w.cell? a = some x) :
    (results fn tmps).run Try.prog w = .ok (.tuple #[x, tmps.getD u undef, tmps.getD v undef]) w := by
  have hp' : tmps[t]?.getD undef = .pointer (some a) := by rw [← hp]; simp
  unfold results
  rw [h]
  simp [hp', loadVar, isAgg, asAddr, hc, Result.andThen, go_sem]
/-- What the loop over the old units has found, of the indices that have come. -/
def stopR (old : List U) (S : NSet) (pre : List Nat) : List ByteArray :=
  pre.flatMap fun i => match old[i]? with | some u => if findI old u.name = i ∧ S u.name = false then [u.name] else [] | none => []
theorem stopR_snoc (old : List U) (S : NSet) (pre : List Nat) (i : Nat) : stopR old S (pre ++ [i]) = stopR old S pre ++ (match old[i]? with | some u => if findI old u.name = i ∧ S u.name = false then [u.name] else [] | none => []) := by
  unfold stopR
  simp [List.flatMap_append]
theorem stopR_none {old : List U} {S : NSet} {pre : List Nat} {i : Nat} (h : old[i]? = none) : stopR old S (pre ++ [i]) = stopR old S pre := by
  rw [stopR_snoc, h]; simp
theorem stopR_no {old : List U} {S : NSet} {pre : List Nat} {i : Nat} {u : U} (hu : old[i]? = some u) (h : ¬ (findI old u.name = i ∧ S u.name = false)) : stopR old S (pre ++ [i]) = stopR old S pre := by
  rw [stopR_snoc, hu]; simp only; rw [if_neg h]; simp
theorem stopR_yes {old : List U} {S : NSet} {pre : List Nat} {i : Nat} {u : U} (hu : old[i]? = some u) (h : findI old u.name = i ∧ S u.name = false) : stopR old S (pre ++ [i]) = stopR old S pre ++ [u.name] := by
  rw [stopR_snoc, hu]; simp only; rw [if_pos h]
theorem stopR_back (old : List U) (S : NSet) (n : Nat) : ∀ m, m ≤ n → stopR old S (upto' (fun j => n - 1 - j) m) ++ stopP old S (n - m) = stopP old S n := by
  intro m
  induction m with
  | zero => intro _; simp [upto', stopR]
  | succ m ih =>
    intro hm
    have h := ih (by omega)
    obtain ⟨i, hi⟩ : ∃ i, n - m = i + 1 := ⟨n - m - 1, by omega⟩
    have e1 : n - 1 - m = i := by omega
    have e2 : n - (m + 1) = i := by omega
    rw [hi] at h
    rw [upto'_succ, stopR_snoc, e1, e2, List.append_assoc]
    have h2 : stopP old S (i + 1) = (match old[i]? with | some u => if findI old u.name = i ∧ S u.name = false then [u.name] else [] | none => []) ++ stopP old S i := rfl
    rw [h2] at h
    exact h
theorem stopR_all (old : List U) (S : NSet) (n : Nat) : stopR old S (upto' (fun j => n - 1 - j) n) = stopP old S n := by
  have h := stopR_back old S n n (Nat.le_refl _)
  rw [Nat.sub_self] at h
  simpa [stopP] using h
theorem stopR_len (old : List U) (S : NSet) (pre : List Nat) : (stopR old S pre).length ≤ pre.length := by
  induction pre with
  | nil => simp [stopR]
  | cons i r ih =>
    have h1 : (match old[i]? with | some u => if findI old u.name = i ∧ S u.name = false then [u.name] else [] | none => []).length ≤ 1 := by
      split
      · split <;> simp
      · simp
    have e : stopR old S (i :: r) = (match old[i]? with | some u => if findI old u.name = i ∧ S u.name = false then [u.name] else [] | none => []) ++ stopR old S r := by
      unfold stopR
      rw [List.flatMap_cons]
    rw [e, List.length_append, List.length_cons]
    omega
/-- Between two rounds. -/
structure StopI (B0 N1 k : Nat) (w : World) (old : List U) (S : NSet) (vo vf : Value) (pre : List Nat) (W : World) : Prop where
  row : ∃ sv, Boxed W (B0 + 2) 30 sv ∧ OS N1 W sv (stopR old S pre)
  box : Bx W B0 vo vf
  map : MF W (B0 + 3) k (FS S)
  low : Below B0 w W
  big : N1 ≤ W.heap.size
theorem StopI.own {B0 N1 k : Nat} {w : World} {old : List U} {S : NSet} {vo vf : Value} (hw : B0 ≤ w.heap.size) (hN : B0 + 5 ≤ N1) : OwnFrom N1 (StopI B0 N1 k w old S vo vf) := by
  rintro pre A B row ⟨⟨sv, h1, h2⟩, h3, h4, h5, h6⟩ hg hr
  refine ⟨⟨sv, h1.kept hg (fun e => by have := (hr _ e.symm).1; omega), World.ownsRow.kept h2 hg ?_⟩, h3.grown hg (fun j hj => Or.inr (by have := (hr _ hj).1; omega)), h4.kept hg (fun e => by have := (hr _ e.symm).1; omega), h5.grown hg (Nat.le_trans hw h5.size) (fun j hj => by have := (hr _ hj).1; omega), Nat.le_trans h6 hg.size⟩
  rcases h2.2 with ⟨rfl, _⟩ | ⟨g, cap, cur, rfl, _, hgb, _⟩
  · exact .inl rfl
  · refine .inr fun e' => ?_
    obtain ⟨_, o, ho, hc⟩ := hr g (by simpa [Value.ownBlock] using e'.symm)
    rw [hgb] at ho; cases ho; cases hc
theorem StopI.below {B0 N1 k : Nat} {w : World} {old : List U} {S : NSet} {vo vf : Value} {pre : List Nat} {W W' : World} (h : StopI B0 N1 k w old S vo vf pre W) (hB : B0 ≤ W.heap.size) (hb : Below W.heap.size W W') : StopI B0 N1 k w old S vo vf pre W' := by
  obtain ⟨⟨sv, h1, h2⟩, h3, h4, h5, h6⟩ := h
  exact ⟨⟨sv, h1.kept (grown_of_below hb) (by simp), OS.below h2 hb⟩, h3.below hb, h4.below hb, h5.trans (hb.mono hB), Nat.le_trans h6 hb.size⟩
theorem StopI.same {B0 N1 k : Nat} {w : World} {old : List U} {S : NSet} {vo vf : Value} {pre pre' : List Nat} {W : World} (h : StopI B0 N1 k w old S vo vf pre W) (e : stopR old S pre' = stopR old S pre) : StopI B0 N1 k w old S vo vf pre' W := by
  obtain ⟨⟨sv, h1, h2⟩, h3, h4, h5, h6⟩ := h
  exact ⟨⟨sv, h1, by rw [e]; exact h2⟩, h3, h4, h5, h6⟩
theorem Bx.grown' {w w' : World} {B : Nat} {vo vf : Value} {row : Option Nat} (h : Bx w B vo vf) (hg : w.grownBy w' row) (hr : ∀ k, row = some k → k ≠ B ∧ k ≠ B + 1 ∧ k ≠ B + 4) : Bx w' B vo vf :=
  ⟨block_grown h.o hg (fun e => (hr _ e.symm).1 rfl), block_grown h.f hg (fun e => (hr _ e.symm).2.1 rfl), block_grown h.m hg (fun e => (hr _ e.symm).2.2 rfl)⟩
theorem StopI.push {B0 N1 k : Nat} {w : World} {old : List U} {S : NSet} {vo vf : Value} {pre pre' : List Nat} {W w3 : World} {nm : ByteArray} {sv v' : Value} (h : StopI B0 N1 k w old S vo vf pre W) (hN : B0 + 5 ≤ N1) (e : stopR old S pre' = stopR old S pre ++ [nm])
    (h1 : Boxed W (B0 + 2) 30 sv) (h2 : OS N1 W sv (stopR old S pre)) (hown : w3.ownsRow N1 9 1 v' ((stopR old S pre).length + 1) ((stopR old S pre).map Value.string ++ [.string nm])) (hg : (W.alloc (.cells #[.string nm] 9)).grownBy w3 sv.ownBlock) :
    Boxed w3 (B0 + 2) 30 sv ∧ StopI B0 N1 k w old S vo vf pre' (w3.setCell ⟨B0 + 2, 0, none⟩ v') ∧ KeepsFrom N1 W (w3.setCell ⟨B0 + 2, 0, none⟩ v') ∧ Below B0 W (w3.setCell ⟨B0 + 2, 0, none⟩ v') ∧ ∀ i, B0 + 5 ≤ i → i < N1 → (w3.setCell ⟨B0 + 2, 0, none⟩ v').heap[i]? = W.heap[i]? := by
  obtain ⟨_, h3, h4, h5, h6⟩ := h
  have low := OS.lows h2
  have hW : B0 ≤ W.heap.size := by omega
  have hv1 : Boxed w3 (B0 + 2) 30 sv := (h1.alloc _).kept hg (fun e => by have := low _ e.symm; omega)
  have hset := grownBy_setCell' w3 (B0 + 2) v'
  have hlow3 : Below B0 W w3 := ((Below.refl _ W).alloc hW _).grown hg (by simp; omega) (fun j hj => by have := low j hj; omega)
  have hlow4 : Below B0 W (w3.setCell ⟨B0 + 2, 0, none⟩ v') := hlow3.setCell (p := ⟨B0 + 2, 0, none⟩) (by simp) v'
  refine ⟨hv1, ⟨⟨v', hv1.set v', ?_⟩, ?_, ?_, h5.trans hlow4, ?_⟩, ?_, hlow4, ?_⟩
  · rw [e]
    refine OS.snoc (World.ownsRow.kept hown hset ?_)
    cases hb : v'.ownBlock with
    | none => exact .inl rfl
    | some j => exact .inr (fun e => by have := (World.ownsRow.lt hown j hb).1; cases e; omega)
  · exact ((h3.grown' (World.grownBy_alloc _ _ none) (fun k hk => by cases hk)).grown' hg (fun j hj => by have := low j hj; omega)).grown' hset (fun j hj => by cases hj; omega)
  · exact ((h4.kept (World.grownBy_alloc _ _ none) (by simp)).kept hg (fun e => by have := low _ e.symm; omega)).kept hset (by simp)
  · have a := hg.size
    have b := hset.size
    simp at a
    omega
  · exact ((Boxed.appended h1 (by decide) (OS.mono h2 (by omega)) hW (by omega) (show w3.ownsRow B0 9 1 v' _ _ from ownsRow_base hown (by omega)) hg).2.2.2.1).from _
  · intro i hi hi2
    rw [hset.block i (by have a := hg.size; simp at a; omega) (by simp; omega), hg.block i (by simp; omega) (fun e => by have := low _ e.symm; omega), Below.heap_alloc _ _ _ (by omega)]
/-- What the iterator hands on. -/
def cU (w : World) (old : List U) (b off : Nat) (x j : Nat) : Value :=
  match old[x]? with
  | some u => (match j with | 0 => .string u.name | 1 => .string u.start | 2 => (w.cell? ⟨b, off + x * 4 + 2, none⟩).getD undef | _ => (w.cell? ⟨b, off + x * 4 + 3, none⟩).getD undef)
  | none => (match j with | 0 => .string ⟨#[]⟩ | 1 => .string ⟨#[]⟩ | _ => .slice none 0 0)
theorem cU_cells {p : Nat → Prop} {w : World} {old : List U} {b off x : Nat} {u : U} (hu : old[x]? = some u) (h : UCP p w b (off + x * 4) u) :
    w.cell? ⟨b, off + x * 4, none⟩ = some (cU w old b off x 0) ∧ w.cell? ⟨b, off + x * 4 + 1, none⟩ = some (cU w old b off x 1) ∧ w.cell? ⟨b, off + x * 4 + 2, none⟩ = some (cU w old b off x 2) ∧ w.cell? ⟨b, off + x * 4 + 3, none⟩ = some (cU w old b off x 3) := by
  obtain ⟨h1, h2, _, _, r, f, h5, h6, _⟩ := h
  unfold cU
  rw [hu]
  simp only
  rw [h5, h6]
  exact ⟨h1, h2, rfl, rfl⟩
theorem cU_name {w : World} {old : List U} {b off x : Nat} {u : U} (hu : old[x]? = some u) : cU w old b off x 0 = .string u.name := by simp only [cU, hu]
theorem cU_no {w : World} {old : List U} {b off x : Nat} (hu : old[x]? = none) : cU w old b off x 0 = .string ⟨#[]⟩ := by simp only [cU, hu]
theorem cU_shape {w : World} {old : List U} {b off : Nat} (h : ∀ x u, old[x]? = some u → UCP (fun _ => True) w b (off + x * 4) u) (x : Nat) : ∃ nm st ra rn rc fa fn fc, nm.size ≤ maxLen ∧ cU w old b off x 0 = .string nm ∧ cU w old b off x 1 = .string st ∧ cU w old b off x 2 = .slice ra rn rc ∧ cU w old b off x 3 = .slice fa fn fc := by
  unfold cU
  cases hu : old[x]? with
  | none => exact ⟨_, _, _, _, _, _, _, _, by decide, rfl, rfl, rfl, rfl⟩
  | some u =>
    obtain ⟨h1, h2, hn, _, r, f, h5, h6, h7, h8⟩ := h x u hu
    obtain ⟨ra, rc, rfl, _⟩ := h7
    obtain ⟨fa, fc, rfl, _⟩ := h8
    simp only
    rw [h5, h6]
    exact ⟨_, _, _, _, _, _, _, _, hn, rfl, rfl, rfl, rfl⟩
end Go.Proofs.Ytlhlbckmifgeeaa
