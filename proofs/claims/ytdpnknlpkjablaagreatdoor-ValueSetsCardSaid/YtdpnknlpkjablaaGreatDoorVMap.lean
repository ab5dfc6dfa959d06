/- Maps keyed by strings, as functions from strings to values: what a look, a store, a deletion and a range do. -/
import Derived.Test.YtdpnknlpkjablaaGreatDoorVBase
import Derived.Maps.RangeWalk
import Derived.Maps.OwnSet
namespace Go.Proofs.YtdpnknlpkjablaaGreatDoor
open Go.RowKit Go.Maps

/-- A value as a token. -/
def Rv (v : Value) : Option (DataW Value × List MemPlace) := some (.held v, [])
def keyS (s : ByteArray) : Lit := .string s.data.toList
theorem keyS_inj {a b : ByteArray} (h : keyS a = keyS b) : a = b := by
  unfold keyS at h
  cases a; cases b
  simp at h
  simp [h]
theorem keyS_isKey (s : ByteArray) : WideAt.IsKeyLit (keyS s) := trivial
def FMap : Type := ByteArray → Option Value
def updF (F : FMap) (s : ByteArray) (o : Option Value) : FMap := fun x => if x = s then o else F x
theorem updF_same (F : FMap) (s : ByteArray) (o : Option Value) : updF F s o s = o := by simp [updF]
theorem updF_other {F : FMap} {s x : ByteArray} (o : Option Value) (h : x ≠ s) : updF F s o x = F x := by simp [updF, h]

def Agree (D : DataW Value) (F : FMap) : Prop := ∀ s, Maps.has D (keyS s) = (F s).isSome ∧ ∀ zd, D.atKey (keyS s) zd = match F s with | some v => .held v | none => zd

/-- Block b is a map of at most n entries, that holds what F says. -/
def MF (w : World) (b n : Nat) (F : FMap) : Prop := ∃ D, w.ownsMap Tryz.prog 9 Rv b n D ∧ Agree D F
/-- .. and block r an iterator over it: 'left' tells what is still to come. -/
def MR (w : World) (b r n : Nat) (F : FMap) (left : ByteArray → Bool) (cnt : Nat) : Prop := ∃ D lf, w.ranges Tryz.prog 9 Rv b r n D lf cnt ∧ Agree D F ∧ ∀ s, lf (keyS s) = left s

theorem kStr : Keyed Tryz.prog 9 := string_keyed Tryz.underlying9
theorem keyOfS {s : ByteArray} (hs : s.size ≤ maxLen) : keyOf Tryz.prog 9 (.string s) = some (keyS s) := WideMaps.keyOf_string_mk Tryz.underlying9 hs
set_option maxRecDepth 100000 in
theorem keyOfS_inv {v : Value} {kl : Lit} (h : keyOf Tryz.prog 9 v = some kl) : ∃ s, v = .string s ∧ kl = keyS s ∧ s.size ≤ maxLen := by
  unfold keyOf at h
  rw [Tryz.underlying9] at h
  simp only [mapKey, Tryz.underlying9] at h
  cases v <;> simp at h
  exact ⟨_, rfl, h.2.symm, h.1⟩

theorem MF.made (w : World) {g : Nat} (hg : g = w.heap.size) : MF (w.alloc (.map #[] 0)) g 0 (fun _ => none) := by
  subst hg
  exact ⟨_, World.ownsMap_made w _ _ _, fun s => ⟨rfl, fun zd => rfl⟩⟩
theorem MF.lt {w : World} {b n : Nat} {F : FMap} (h : MF w b n F) : b < w.heap.size := by obtain ⟨D, h1, _⟩ := h; exact h1.lt
theorem MF.block {w w' : World} {b n : Nat} {F : FMap} (h : MF w b n F) (hb : w'.heap[b]? = w.heap[b]?) : MF w' b n F := by
  obtain ⟨D, ⟨es, clock, h1, h2⟩, hA⟩ := h
  exact ⟨D, ⟨es, clock, hb.trans h1, h2⟩, hA⟩
theorem MF.below {w w' : World} {b n : Nat} {F : FMap} (h : MF w b n F) (hb : Below w.heap.size w w') : MF w' b n F := h.block (hb.block b h.lt)
theorem MF.below' {w w' : World} {b n B : Nat} {F : FMap} (h : MF w b n F) (hb : Below B w w') (hB : b < B) : MF w' b n F := h.block (hb.block b hB)
theorem MF.kept {w w' : World} {b n : Nat} {F : FMap} {row : Option Nat} (h : MF w b n F) (hg : w.grownBy w' row) (hne : some b ≠ row) : MF w' b n F := h.block (hg.block b h.lt hne)
theorem MF.mono {w : World} {b n m : Nat} {F : FMap} (h : MF w b n F) (hn : n ≤ m) : MF w b m F := by obtain ⟨D, h1, h2⟩ := h; exact ⟨D, h1.mono hn, h2⟩

theorem Agree.put {D : DataW Value} {F : FMap} (h : Agree D F) (hD : IsMap D) (s : ByteArray) (v : Value) : Agree (D.put (keyS s) (.held v)) (updF F s (some v)) := by
  intro x
  by_cases hx : x = s
  · subst hx
    rw [updF_same]
    exact ⟨has_put_same hD (keyS_isKey _) _, fun zd => atKey_put_same hD (keyS_isKey _) _ _⟩
  · rw [updF_other _ hx]
    have hne : keyS x ≠ keyS s := fun e => hx (keyS_inj e)
    exact ⟨(has_put_other hne _).trans (h x).1, fun zd => (atKey_put_other hne _ _).trans ((h x).2 zd)⟩
theorem Agree.del {D : DataW Value} {F : FMap} (h : Agree D F) (s : ByteArray) : Agree (D.del (keyS s)) (updF F s none) := by
  intro x
  by_cases hx : x = s
  · subst hx
    rw [updF_same]
    exact ⟨has_del_same, fun zd => atKey_del_same _⟩
  · rw [updF_other _ hx]
    have hne : keyS x ≠ keyS s := fun e => hx (keyS_inj e)
    exact ⟨(has_del_other hne).trans (h x).1, fun zd => (atKey_del_other hne _).trans ((h x).2 zd)⟩

theorem held_inj {v v' : Value} {ps : List MemPlace} {d : DataW Value} (h : Rv v = some (d, ps)) (hd : d = .held v') : v = v' := by
  subst hd
  simp only [Rv, Option.some.injEq, Prod.mk.injEq, DataW.held.injEq] at h
  exact h.1

section
variable {w : World} {b n : Nat} {F : FMap} {t e : TypeId} {z : Value}
theorem MF.look (h : MF w b n F) (ht : Tryz.prog.underlying t = some (.map 9 e)) (hz : ∀ w, (zeroValue e).run Tryz.prog w = .ok z w) {s : ByteArray} (hs : s.size ≤ maxLen) :
    (Instr.lookup t (.map (some b)) (.string s) false).run Tryz.prog w = .ok ((F s).getD z) w := by
  obtain ⟨D, h1, h2⟩ := h
  obtain ⟨v, ps, hr, hv⟩ := h1.lookup kStr ht (hz w) (zd := .held z) (zp := []) rfl (keyOfS hs)
  rw [hr, (h2 s).2] at *
  cases hF : F s with
  | none => rw [hF] at hv; rw [held_inj hv rfl]; rfl
  | some x => rw [hF] at hv; rw [held_inj hv rfl]; rfl
theorem MF.look_ok (h : MF w b n F) (ht : Tryz.prog.underlying t = some (.map 9 e)) (hz : ∀ w, (zeroValue e).run Tryz.prog w = .ok z w) {s : ByteArray} (hs : s.size ≤ maxLen) :
    (Instr.lookup t (.map (some b)) (.string s) true).run Tryz.prog w = .ok (.tuple #[(F s).getD z, .bool (F s).isSome]) w := by
  obtain ⟨D, h1, h2⟩ := h
  obtain ⟨v, ps, hr, hv⟩ := h1.look_ok kStr ht (hz w) (zd := .held z) (zp := []) rfl (keyOfS hs)
  rw [hr, (h2 s).1]
  rw [(h2 s).2] at hv
  cases hF : F s with
  | none => rw [hF] at hv; rw [held_inj hv rfl]; rfl
  | some x => rw [hF] at hv; rw [held_inj hv rfl]; rfl
theorem MF.store (h : MF w b n F) (ht : Tryz.prog.underlying t = some (.map 9 e)) (hn : n < maxLen) {s : ByteArray} (hs : s.size ≤ maxLen) (v : Value) :
    ∃ w', (Instr.mapUpdate t (.map (some b)) (.string s) v).run Tryz.prog w = .ok () w' ∧ MF w' b (n + 1) (updF F s (some v)) ∧ w.grownBy w' (some b) ∧ w'.heap.size = w.heap.size := by
  obtain ⟨D, h1, h2⟩ := h
  obtain ⟨w', hr, ho, ht'⟩ := h1.store kStr ht hn (keyOfS hs) (val := v) (d := .held v) (ps := []) rfl
  refine ⟨w', hr, ⟨_, ho, h2.put h1.isMap s v⟩, ht'.grown, ?_⟩
  obtain ⟨es, clock, es', clock', _, rfl⟩ := ht'
  simp [ChangeMaps.setBlock]
theorem MF.drop (h : MF w b n F) (ht : Tryz.prog.underlying t = some (.map 9 e)) {s : ByteArray} (hs : s.size ≤ maxLen) (ty : TypeId) :
    ∃ w', (Builtin.delete_ #[t, 9] ty #[.map (some b), .string s]).run Tryz.prog w = .ok (.tuple #[]) w' ∧ MF w' b n (updF F s none) ∧ w.grownBy w' (some b) ∧ w'.heap.size = w.heap.size := by
  obtain ⟨D, h1, h2⟩ := h
  obtain ⟨w', hr, ho, ht'⟩ := h1.drop kStr ht (keyOfS hs) ty
  refine ⟨w', hr, ⟨_, ho, h2.del s⟩, ht'.grown, ?_⟩
  obtain ⟨es, clock, es', clock', _, rfl⟩ := ht'
  simp [ChangeMaps.setBlock]
theorem MF.range (h : MF w b n F) (ht : Tryz.prog.underlying t = some (.map 9 e)) :
    ∃ w' cnt, (Instr.range t (.map (some b))).run Tryz.prog w = .ok (.pointer (some ⟨w.heap.size, 0, none⟩)) w' ∧ MR w' b w.heap.size n F (fun s => (F s).isSome) cnt ∧ w.grownBy w' none ∧ w'.heap.size = w.heap.size + 1 := by
  obtain ⟨D, h1, h2⟩ := h
  obtain ⟨w', hr, ho, hg, hsz⟩ := h1.range kStr ht
  exact ⟨w', _, hr, ⟨D, _, ho, h2, fun s => (h2 s).1⟩, hg, hsz⟩
end
theorem MR.owns {w : World} {b r n : Nat} {F : FMap} {left : ByteArray → Bool} {cnt : Nat} (h : MR w b r n F left cnt) : MF w b n F := by
  obtain ⟨D, lf, h1, h2, _⟩ := h
  exact ⟨D, h1.owns, h2⟩
theorem MR.ne {w : World} {b r n : Nat} {F : FMap} {left : ByteArray → Bool} {cnt : Nat} (h : MR w b r n F left cnt) : r ≠ b := by
  obtain ⟨D, lf, h1, _⟩ := h; exact h1.ne
theorem MR.lt {w : World} {b r n : Nat} {F : FMap} {left : ByteArray → Bool} {cnt : Nat} (h : MR w b r n F left cnt) : r < w.heap.size := by
  obtain ⟨D, lf, h1, _⟩ := h; exact h1.lt
theorem MR.left_eq {w : World} {b r n : Nat} {F : FMap} {left : ByteArray → Bool} {cnt : Nat} (h : MR w b r n F left cnt) : w.rangeLeft b r = cnt := by
  obtain ⟨D, lf, h1, _⟩ := h; exact h1.left_eq
theorem MR.kept {w w' : World} {b r n : Nat} {F : FMap} {left : ByteArray → Bool} {cnt : Nat} {row : Option Nat} (h : MR w b r n F left cnt) (hg : w.grownBy w' row) (hb : some b ≠ row) (hr : some r ≠ row) : MR w' b r n F left cnt := by
  obtain ⟨D, lf, h1, h2⟩ := h
  exact ⟨D, lf, h1.kept hg hb hr, h2⟩
theorem keyS_same (a b : ByteArray) : (keyS a).sameKey (keyS b) = decide (a = b) := by
  by_cases h : a = b
  · subst h
    rw [WideAt.sameKey_self (keyS_isKey a)]; simp
  · rw [Maps.sameKey_ne (fun e => h (keyS_inj e))]; simp [h]
theorem MR.next {w : World} {b r n : Nat} {F : FMap} {left : ByteArray → Bool} {cnt : Nat} (h : MR w b r n F left cnt) (ty : TypeId) :
    (cnt = 0 ∧ (∀ s, left s = false) ∧ (Instr.next (.pointer (some ⟨r, 0, none⟩)) false ty).run Tryz.prog w = .ok (.tuple #[.bool false]) w) ∨
    ∃ s v w' cnt', s.size ≤ maxLen ∧ left s = true ∧ F s = some v ∧ (Instr.next (.pointer (some ⟨r, 0, none⟩)) false ty).run Tryz.prog w = .ok (.tuple #[.bool true, .string s, v]) w' ∧
      MR w' b r n F (fun x => left x && !decide (x = s)) cnt' ∧ cnt' < cnt ∧ w.grownBy w' (some r) ∧ w'.heap.size = w.heap.size ∧ (Instr.entry (.pointer (some ⟨r, 0, none⟩))).run Tryz.prog w' = .ok (.tuple #[.string s, v]) w' := by
  obtain ⟨D, lf, h1, h2, h3⟩ := h
  rcases h1.next kStr ty with ⟨hc, hl, hr⟩ | ⟨key, v, kl, y, w', cnt', hk, hlk, hv, hat, hr, hrg, hlt, hg, hsz, hen⟩
  · exact Or.inl ⟨hc, fun s => (h3 s).symm.trans (hl _), hr⟩
  · obtain ⟨s, rfl, rfl, hs⟩ := keyOfS_inv hk
    refine Or.inr ⟨s, v, w', cnt', hs, (h3 s).symm.trans hlk, ?_, hr, ⟨D, _, hrg, h2, fun x => by simp only [h3, keyS_same]⟩, hlt, hg, hsz, hen⟩
    have := (h2 s).2
    simp only [Rv, Option.some.injEq] at hv
    cases hF : F s with
    | none =>
      rw [hF] at this
      have a := (hat (.held v)).symm.trans (this (.held v))
      have b := (hat .nil).symm.trans (this .nil)
      rw [a] at b
      cases b
    | some x =>
      rw [hF] at this
      have a := (hat .nil).symm.trans (this .nil)
      rw [← hv] at a
      simp at a
      rw [a]
theorem MR.drop {w : World} {b r n : Nat} {F : FMap} {left : ByteArray → Bool} {cnt : Nat} {t e : TypeId} (h : MR w b r n F left cnt) (ht : Tryz.prog.underlying t = some (.map 9 e)) {s : ByteArray} (hs : s.size ≤ maxLen) (ty : TypeId) :
    ∃ w' cnt', (Builtin.delete_ #[t, 9] ty #[.map (some b), .string s]).run Tryz.prog w = .ok (.tuple #[]) w' ∧ MR w' b r n (updF F s none) (fun x => left x && !decide (x = s)) cnt' ∧ cnt' ≤ cnt ∧ w.grownBy w' (some b) ∧ w'.heap.size = w.heap.size := by
  obtain ⟨D, lf, h1, h2, h3⟩ := h
  obtain ⟨w', cnt', hr, hrg, hle, ht'⟩ := h1.drop kStr ht (keyOfS hs) ty
  refine ⟨w', cnt', hr, ⟨_, _, hrg, h2.del s, fun x => by simp only [h3, keyS_same]⟩, hle, ht'.grown, ?_⟩
  obtain ⟨es, clock, es', clock', _, rfl⟩ := ht'
  simp [ChangeMaps.setBlock]

/-- Each cell that was there holds what it held. -/
def CK (w w' : World) : Prop := ∀ (p : Addr) (v : Value), w.cell? p = some v → w'.cell? p = some v
theorem CK.refl (w : World) : CK w w := fun _ _ h => h
theorem CK.of_below {w w' : World} (h : Below w.heap.size w w') : CK w w' := fun _ _ hc => cell_keeps h hc
theorem CK.trans {a b c : World} (h : CK a b) (k : CK b c) : CK a c := fun p v hc => k p v (h p v hc)
theorem CK.of_map {w w' : World} {b n : Nat} {F : FMap} (h : MF w b n F) (hg : w.grownBy w' (some b)) : CK w w' := by
  intro p v hc
  refine hg.cell hc (fun e => ?_)
  obtain ⟨D, ⟨es, clock, h1, _⟩, _⟩ := h
  simp at e
  simp [World.cell?, e, h1] at hc
theorem SLP.ck {p : Nat → Prop} {w w' : World} {v : Value} {ss : List ByteArray} (hs : SLP p w v ss) (h : CK w w') : SLP p w' v ss := by
  obtain ⟨a, cap, hv, hz, hl, hc⟩ := hs
  refine ⟨a, cap, hv, hz, hl, fun i s hi => ?_⟩
  obtain ⟨b, off, ha, h1, h2, h3⟩ := hc i s hi
  exact ⟨b, off, ha, h _ _ h1, h2, h3⟩
theorem MR.noCell {w : World} {b r n : Nat} {F : FMap} {left : ByteArray → Bool} {cnt : Nat} (h : MR w b r n F left cnt) {p : Addr} {v : Value} (hc : w.cell? p = some v) : p.block ≠ r := by
  obtain ⟨D, lf, ⟨es, clock, since, seen, c0, _, _, _, _, hr, _⟩, _⟩ := h
  intro e
  simp [World.cell?, e, hr] at hc
theorem Kept.two {B : Nat} {w w1 w2 : World} (h1 : Below B w w1) (h2 : Below B w w2) : Kept (fun b => b < B) w1 w2 := fun b hb _ => (h2.block b hb).trans (h1.block b hb).symm

theorem grown_setCell (w : World) (a : Addr) (v : Value) : w.grownBy (w.setCell a v) (some a.block) :=
  ⟨rfl, rfl, rfl, (by simp), fun k _ hk => Below.heap_setCell _ _ _ k (fun e => hk (by rw [e]))⟩

/-! At the operation, for a walk. -/
section
variable (w : World) {ops : Array Oper} {rest : List Oper} {o : Oper} {a : Act} {Q : Exit → Act → World → Prop}
theorem at_look (hw : o.guard = none) (m x : Operand) (t e : TypeId) (hop : o.op = Op.lookup t m x false) (ht : Tryz.prog.underlying t = some (.map 9 e)) {z : Value} (hz : ∀ w, (zeroValue e).run Tryz.prog w = .ok z w)
    (b n : Nat) (F : FMap) (hm : a.eval m = .map (some b)) (h : MF w b n F) (s : ByteArray) (hx : a.eval x = .string s) (hs : s.size ≤ maxLen) (v : Value) (hv : (F s).getD z = v)
    (hK : wpList Tryz.prog ops Q rest (a.put o.dst v) w) : wpList Tryz.prog ops Q (o :: rest) a w := by
  refine wpList_plain hw fun K' hK' => ?_
  unfold Oper.wp
  simp [execOp, hop, hm, hx, h.look ht hz hs, Result.andThen]
  rw [hv]
  exact hK' _ _ hK
theorem at_look_ok (hw : o.guard = none) (m x : Operand) (t e : TypeId) (hop : o.op = Op.lookup t m x true) (ht : Tryz.prog.underlying t = some (.map 9 e)) {z : Value} (hz : ∀ w, (zeroValue e).run Tryz.prog w = .ok z w)
    (b n : Nat) (F : FMap) (hm : a.eval m = .map (some b)) (h : MF w b n F) (s : ByteArray) (hx : a.eval x = .string s) (hs : s.size ≤ maxLen) (v : Value) (c : Bool) (hv : (F s).getD z = v) (hc : (F s).isSome = c)
    (hK : wpList Tryz.prog ops Q rest (a.put o.dst (.tuple #[v, .bool c])) w) : wpList Tryz.prog ops Q (o :: rest) a w := by
  refine wpList_plain hw fun K' hK' => ?_
  unfold Oper.wp
  simp [execOp, hop, hm, hx, h.look_ok ht hz hs, Result.andThen]
  rw [hv, hc]
  exact hK' _ _ hK
theorem at_store (hw : o.guard = none) (m x y : Operand) (t e : TypeId) (hop : o.op = Op.mapUpdate t m x y) (ht : Tryz.prog.underlying t = some (.map 9 e))
    (b n : Nat) (F : FMap) (hm : a.eval m = .map (some b)) (h : MF w b n F) (hn : n < maxLen) (s : ByteArray) (hx : a.eval x = .string s) (hs : s.size ≤ maxLen) (v : Value) (hy : a.eval y = v)
    (hK : ∀ w', MF w' b (n + 1) (updF F s (some v)) → w.grownBy w' (some b) → w'.heap.size = w.heap.size → wpList Tryz.prog ops Q rest (a.put o.dst undef) w') : wpList Tryz.prog ops Q (o :: rest) a w := by
  refine wpList_plain hw fun K' hK' => ?_
  obtain ⟨w', hr, h1, h2, h3⟩ := h.store ht hn hs v
  unfold Oper.wp
  simp [execOp, hop, hm, hx, hy, hr, Result.andThen]
  exact hK' _ _ (hK w' h1 h2 h3)
theorem at_drop (hw : o.guard = none) (m x : Operand) (t e : TypeId) (hop : o.op = Op.call { callee := Callee.builtin Builtin.delete, args := #[m, x], argTypes := #[t, 9] }) (ht : Tryz.prog.underlying t = some (.map 9 e))
    (b n : Nat) (F : FMap) (hm : a.eval m = .map (some b)) (h : MF w b n F) (s : ByteArray) (hx : a.eval x = .string s) (hs : s.size ≤ maxLen)
    (hK : ∀ w', MF w' b n (updF F s none) → w.grownBy w' (some b) → w'.heap.size = w.heap.size → wpList Tryz.prog ops Q rest (a.put o.dst (.tuple #[])) w') : wpList Tryz.prog ops Q (o :: rest) a w := by
  refine wpList_plain hw fun K' hK' => ?_
  obtain ⟨w', hr, h1, h2, h3⟩ := h.drop ht hs o.type
  unfold Oper.wp
  simp [execOp, hop, resolve, invoke, builtin, hm, hx, hr, Result.andThen]
  exact hK' _ _ (hK w' h1 h2 h3)
theorem at_ranged (hw : o.guard = none) (m : Operand) (t e : TypeId) (hop : o.op = Op.range t m) (ht : Tryz.prog.underlying t = some (.map 9 e))
    (b n : Nat) (F : FMap) (hm : a.eval m = .map (some b)) (h : MF w b n F)
    (hK : ∀ w' cnt, MR w' b w.heap.size n F (fun s => (F s).isSome) cnt → w.grownBy w' none → w'.heap.size = w.heap.size + 1 → wpList Tryz.prog ops Q rest (a.put o.dst (.pointer (some ⟨w.heap.size, 0, none⟩))) w') : wpList Tryz.prog ops Q (o :: rest) a w := by
  refine wpList_plain hw fun K' hK' => ?_
  obtain ⟨w', cnt, hr, h1, h2, h3⟩ := h.range ht
  unfold Oper.wp
  simp [execOp, hop, hm, hr, Result.andThen]
  exact hK' _ _ (hK w' cnt h1 h2 h3)
theorem at_nexted (hw : o.guard = none) (it : Operand) (hop : o.op = Op.next it false) (b r n : Nat) (F : FMap) (left : ByteArray → Bool) (cnt : Nat) (hit : a.eval it = .pointer (some ⟨r, 0, none⟩)) (h : MR w b r n F left cnt)
    (hDone : (∀ s, left s = false) → wpList Tryz.prog ops Q rest (a.put o.dst (.tuple #[.bool false])) w)
    (hMore : ∀ s v w' cnt', s.size ≤ maxLen → left s = true → F s = some v → MR w' b r n F (fun x => left x && !decide (x = s)) cnt' → cnt' < cnt → w.grownBy w' (some r) → w'.heap.size = w.heap.size →
      (Instr.entry (.pointer (some ⟨r, 0, none⟩))).run Tryz.prog w' = .ok (.tuple #[.string s, v]) w' → wpList Tryz.prog ops Q rest (a.put o.dst (.tuple #[.bool true, .string s, v])) w') : wpList Tryz.prog ops Q (o :: rest) a w := by
  refine wpList_plain hw fun K' hK' => ?_
  unfold Oper.wp
  rcases h.next o.type with ⟨hc, hl, hr⟩ | ⟨s, v, w', cnt', h1, h2, h3, hr, h4, h5, h6, h7, h8⟩
  · simp [execOp, hop, hit, hr, Result.andThen]
    exact hK' _ _ (hDone hl)
  · simp [execOp, hop, hit, hr, Result.andThen]
    exact hK' _ _ (hMore s v w' cnt' h1 h2 h3 h4 h5 h6 h7 h8)
end
end Go.Proofs.YtdpnknlpkjablaaGreatDoor
