/- A drawn region by a table, as RegTab, with one operation that makes memory: the law of the world changes there. -/
import Derived.Test.YthefajkihnlgfaaGreatDoorM22
import Derived.Test.YthefajkihnlgfaaGreatDoorM03
import Derived.Maps.RangeWalk
import Derived.Maps.OwnSet
import Derived.Test.YthefajkihnlgfaaGreatDoorShelf
import Derived.Tactics
import Derived.Tactics2
import Derived.Defers
import Derived.Laws.Pointers
import Derived.Laws.LoneSync
import Derived.RegionTactic
import Derived.RegionCalls
namespace Go.Proofs.YthefajkihnlgfaaGreatDoor
open Go

section
variable {P : Program} {ops : Array Oper} {Q : Exit → Act → World → Prop}
theorem wp_region_taba {id : Nat} {a : Act} {w : World} (hmx : P.follows .mixedOrders = true) (n base m : Nat) (V : Nat → Value) (W : Bool → World → Prop) (hsz : ops.size = n + 1) (back : backB ops = true) (haw : awaitedB ops n = true) (hm : m < n) (hw0 : W false w.drew)
    (step : ∀ (i : Nat), i < n → ∀ (b : Bool) (v : Nat → Value) (w : World), W b w → (i = m → b = false) → (((ops[i]?).map fun o : Oper => o.after.any fun e => e.on == m && Region.binds .any e) = some true → b = true) → (∀ j, ((ops[i]?).map fun o : Oper => o.after.any fun e => e.on == j && Region.binds .any e) = some true → v (base + j) = V j) →
      wpOp P ops Q i (fun a' w' => a' = frameOf a (List.range' base n) (fun d => if d = base + i then V i else v d) ∧ W (b || i == m) w') (frameOf a (List.range' base n) v) w)
    (last : ∀ (w : World), W true w → wpOp P ops Q n (Q .normal) (frameOf a (List.range' base n) (fun d => V (d - base))) w) :
    (Code.region id ops true).wp P Q a w := by
  have hdep : ∀ i j, ((ops[i]?).map fun o : Oper => o.after.any fun e => e.on == j && Region.binds .any e) = some true → j < i := by
    intro i j h
    cases ho : ops[i]? with
    | none => rw [ho] at h; cases h
    | some o =>
      rw [ho] at h
      simp only [Option.map_some, Option.some.injEq, Array.any_eq_true'] at h
      obtain ⟨e, he, hb⟩ := h
      rw [Bool.and_eq_true, beq_iff_eq] at hb
      rw [← hb.1]
      exact backB_spec back i o ho e he hb.2
  refine wp_region_inv hmx (fun L a' w' => (L n = true ∧ (∀ i, i < n → L i = true) ∧ Q .normal a' w') ∨
    (L n = false ∧ (∀ i, i ≤ n → L i = true → ∀ j, ((ops[i]?).map fun o : Oper => o.after.any fun e => e.on == j && Region.binds .any e) = some true → L j = true) ∧
      ∃ v, a' = frameOf a (List.range' base n) v ∧ W (L m) w' ∧ ∀ i, i < n → L i = true → v (base + i) = V i)) back
    (Or.inr ⟨rfl, (fun _ _ h => by cases h), _, (frameOf_self a _).symm, hw0, fun _ _ h => by cases h⟩) ?_ ?_
  · intro i hi L a' w' hL hd hI
    rcases hI with ⟨hn, hall, _⟩ | ⟨hn, hcl, v, rfl, hW, hv⟩
    · by_cases e : i = n
      · subst e; rw [hn] at hL; cases hL
      · rw [hall i (by omega)] at hL; cases hL
    · by_cases e : i = n
      · subst e
        have hall := awaited_all (L := fun j => L j && decide (j ≤ i)) haw (fun k hk j hj => by
          rw [Bool.and_eq_true, decide_eq_true_eq] at hk ⊢
          exact ⟨hcl k hk.2 hk.1 j hj, by have := hdep k j hj; omega⟩) (fun j hj => by
          rw [Bool.and_eq_true, decide_eq_true_eq]
          exact ⟨hd j hj, by have := hdep i j hj; omega⟩)
        have hall' : ∀ k, k < i → L k = true := fun k hk => by
          have := hall k hk
          rw [Bool.and_eq_true] at this
          exact this.1
        rw [frameOf_same (v' := fun d => V (d - base)) (fun d hdd => by
          have hdm : d ∈ List.range' base i := by simpa using hdd
          rw [List.mem_range'_1] at hdm
          have := hv (d - base) (by omega) (hall' _ (by omega))
          rwa [show base + (d - base) = d by omega] at this)]
        refine wpOp_mono (fun a2 w2 h2 => Or.inl ⟨by simp, fun k hk => ?_, h2⟩) (last w' (by rw [hall' m hm] at hW; exact hW))
        simp [hall' k hk]
      · have hin : i < n := by omega
        refine wpOp_mono (fun a2 w2 h2 => Or.inr ⟨?_, ?_, _, h2.1, (by have h3 := h2.2; rw [show (i == m) = (m == i) from BEq.comm] at h3; exact h3), ?_⟩) (step i hin (L m) v w' hW (fun e => by subst e; exact hL) (fun hj => hd m hj) (fun j hj => hv j (by have := hdep i j hj; omega) (hd j hj)))
        · simp [hn]
          omega
        · intro k hkn hk j hj
          simp only [Bool.or_eq_true, beq_iff_eq] at hk ⊢
          rcases hk with hk | rfl
          · exact Or.inl (hcl k hkn hk j hj)
          · exact Or.inl (hd j hj)
        · intro k hk hk2
          simp only [Bool.or_eq_true, beq_iff_eq] at hk2
          by_cases e2 : k = i
          · subst e2; simp
          · rw [if_neg (by omega)]
            rcases hk2 with hk2 | hk2
            · exact hv k hk hk2
            · exact absurd hk2 e2
  · intro L a' w' hall hI
    rcases hI with ⟨_, _, h⟩ | ⟨hn, _⟩
    · exact h
    · rw [hall n (by omega)] at hn; cases hn

end
end Go.Proofs.YthefajkihnlgfaaGreatDoor

/- Maps keyed by strings, as functions from strings to values: what a look and a store do. -/
namespace Go.Proofs.YthefajkihnlgfaaGreatDoor
open Go.RowKit Go.Maps

/-- A value as a token. -/
def Rv (v : Value) : Option (DataW Value × List MemPlace) := some (.held v, [])
def keyS (s : ByteArray) : Lit := .string s.data.toList
theorem keyS_inj {a b : ByteArray} (h : keyS a = keyS b) : a = b := by
  unfold keyS at h
  cases a; cases b
  simp at h
  simp [h]
theorem keyS_isKey (s : ByteArray) : WideAt.IsKeyLit (keyS s) := trivial
def FMap : Type := ByteArray → Option Value
def updF (F : FMap) (s : ByteArray) (o : Option Value) : FMap := fun x => if x = s then o else F x
theorem updF_same (F : FMap) (s : ByteArray) (o : Option Value) : updF F s o s = o := by simp [updF]
theorem updF_other {F : FMap} {s x : ByteArray} (o : Option Value) (h : x ≠ s) : updF F s o x = F x := by simp [updF, h]

def MAgree (D : DataW Value) (F : FMap) : Prop := ∀ s, Maps.has D (keyS s) = (F s).isSome ∧ ∀ zd, D.atKey (keyS s) zd = match F s with | some v => .held v | none => zd

/-- Block b is a map of at most n entries, that holds what F says. -/
def MF (w : World) (b n : Nat) (F : FMap) : Prop := ∃ D, w.ownsMap Tryz.prog 9 Rv b n D ∧ MAgree D F
/-- .. and block r an iterator over it: 'left' tells what is still to come. -/
def MR (w : World) (b r n : Nat) (F : FMap) (left : ByteArray → Bool) (cnt : Nat) : Prop := ∃ D lf, w.ranges Tryz.prog 9 Rv b r n D lf cnt ∧ MAgree D F ∧ ∀ s, lf (keyS s) = left s

theorem kStr : Keyed Tryz.prog 9 := string_keyed Tryz.underlying9
theorem keyOfS {s : ByteArray} (hs : s.size ≤ maxLen) : keyOf Tryz.prog 9 (.string s) = some (keyS s) := WideMaps.keyOf_string_mk Tryz.underlying9 hs
set_option maxRecDepth 100000 in
theorem keyOfS_inv {v : Value} {kl : Lit} (h : keyOf Tryz.prog 9 v = some kl) : ∃ s, v = .string s ∧ kl = keyS s ∧ s.size ≤ maxLen := by
  unfold keyOf at h
  rw [Tryz.underlying9] at h
  simp only [mapKey, Tryz.underlying9] at h
  cases v <;> simp at h
  exact ⟨_, rfl, h.2.symm, h.1⟩

theorem MF.made (w : World) {g : Nat} (hg : g = w.heap.size) : MF (w.alloc (.map #[] 0)) g 0 (fun _ => none) := by
  subst hg
  exact ⟨_, World.ownsMap_made w _ _ _, fun s => ⟨rfl, fun zd => rfl⟩⟩
theorem MF.lt {w : World} {b n : Nat} {F : FMap} (h : MF w b n F) : b < w.heap.size := by obtain ⟨D, h1, _⟩ := h; exact h1.lt
theorem MF.block {w w' : World} {b n : Nat} {F : FMap} (h : MF w b n F) (hb : w'.heap[b]? = w.heap[b]?) : MF w' b n F := by
  obtain ⟨D, ⟨es, clock, h1, h2⟩, hA⟩ := h
  exact ⟨D, ⟨es, clock, hb.trans h1, h2⟩, hA⟩
theorem MF.below {w w' : World} {b n : Nat} {F : FMap} (h : MF w b n F) (hb : Below w.heap.size w w') : MF w' b n F := h.block (hb.block b h.lt)
theorem MF.below' {w w' : World} {b n B : Nat} {F : FMap} (h : MF w b n F) (hb : Below B w w') (hB : b < B) : MF w' b n F := h.block (hb.block b hB)
theorem MF.kept {w w' : World} {b n : Nat} {F : FMap} {row : Option Nat} (h : MF w b n F) (hg : w.grownBy w' row) (hne : some b ≠ row) : MF w' b n F := h.block (hg.block b h.lt hne)
theorem MF.mono {w : World} {b n m : Nat} {F : FMap} (h : MF w b n F) (hn : n ≤ m) : MF w b m F := by obtain ⟨D, h1, h2⟩ := h; exact ⟨D, h1.mono hn, h2⟩

theorem MAgree.put {D : DataW Value} {F : FMap} (h : MAgree D F) (hD : IsMap D) (s : ByteArray) (v : Value) : MAgree (D.put (keyS s) (.held v)) (updF F s (some v)) := by
  intro x
  by_cases hx : x = s
  · subst hx
    rw [updF_same]
    exact ⟨has_put_same hD (keyS_isKey _) _, fun zd => atKey_put_same hD (keyS_isKey _) _ _⟩
  · rw [updF_other _ hx]
    have hne : keyS x ≠ keyS s := fun e => hx (keyS_inj e)
    exact ⟨(has_put_other hne _).trans (h x).1, fun zd => (atKey_put_other hne _ _).trans ((h x).2 zd)⟩
theorem held_inj {v v' : Value} {ps : List MemPlace} {d : DataW Value} (h : Rv v = some (d, ps)) (hd : d = .held v') : v = v' := by
  subst hd
  simp only [Rv, Option.some.injEq, Prod.mk.injEq, DataW.held.injEq] at h
  exact h.1

section
variable {w : World} {b n : Nat} {F : FMap} {t e : TypeId} {z : Value}
theorem MF.look (h : MF w b n F) (ht : Tryz.prog.underlying t = some (.map 9 e)) (hz : ∀ w, (zeroValue e).run Tryz.prog w = .ok z w) {s : ByteArray} (hs : s.size ≤ maxLen) :
    (Instr.lookup t (.map (some b)) (.string s) false).run Tryz.prog w = .ok ((F s).getD z) w := by
  obtain ⟨D, h1, h2⟩ := h
  obtain ⟨v, ps, hr, hv⟩ := h1.lookup kStr ht (hz w) (zd := .held z) (zp := []) rfl (keyOfS hs)
  rw [hr, (h2 s).2] at *
  cases hF : F s with
  | none => rw [hF] at hv; rw [held_inj hv rfl]; rfl
  | some x => rw [hF] at hv; rw [held_inj hv rfl]; rfl
theorem MF.store (h : MF w b n F) (ht : Tryz.prog.underlying t = some (.map 9 e)) (hn : n < maxLen) {s : ByteArray} (hs : s.size ≤ maxLen) (v : Value) :
    ∃ w', (Instr.mapUpdate t (.map (some b)) (.string s) v).run Tryz.prog w = .ok () w' ∧ MF w' b (n + 1) (updF F s (some v)) ∧ w.grownBy w' (some b) ∧ w'.heap.size = w.heap.size := by
  obtain ⟨D, h1, h2⟩ := h
  obtain ⟨w', hr, ho, ht'⟩ := h1.store kStr ht hn (keyOfS hs) (val := v) (d := .held v) (ps := []) rfl
  refine ⟨w', hr, ⟨_, ho, h2.put h1.isMap s v⟩, ht'.grown, ?_⟩
  obtain ⟨es, clock, es', clock', _, rfl⟩ := ht'
  simp [ChangeMaps.setBlock]
end
section
variable (w : World) {ops : Array Oper} {rest : List Oper} {o : Oper} {a : Act} {Q : Exit → Act → World → Prop}
theorem at_store (hw : o.guard = none) (m x y : Operand) (t e : TypeId) (hop : o.op = Op.mapUpdate t m x y) (ht : Tryz.prog.underlying t = some (.map 9 e))
    (b n : Nat) (F : FMap) (hm : a.eval m = .map (some b)) (h : MF w b n F) (hn : n < maxLen) (s : ByteArray) (hx : a.eval x = .string s) (hs : s.size ≤ maxLen) (v : Value) (hy : a.eval y = v)
    (hK : ∀ w', MF w' b (n + 1) (updF F s (some v)) → w.grownBy w' (some b) → w'.heap.size = w.heap.size → wpList Tryz.prog ops Q rest (a.put o.dst undef) w') : wpList Tryz.prog ops Q (o :: rest) a w := by
  refine wpList_plain hw fun K' hK' => ?_
  obtain ⟨w', hr, h1, h2, h3⟩ := h.store ht hn hs v
  unfold Oper.wp
  simp [execOp, hop, hm, hx, hy, hr, Result.andThen]
  exact hK' _ _ (hK w' h1 h2 h3)
end
end Go.Proofs.YthefajkihnlgfaaGreatDoor

/- sync.Once at its first call: the walk (turned from the kit's Lazy texts). -/
namespace Go.Proofs.YthefajkihnlgfaaGreatDoor
open Go.RowKit
set_option linter.unusedSimpArgs false
set_option linter.unusedVariables false
theorem race_disable (w : World) : (callFunc 104 #[]).run Tryz.prog w = .ok (.value (.tuple #[])) w := run_call_mark0 Tryz.func104 (by kernel_rfl) (by kernel_rfl) (by kernel_rfl) .disable (by kernel_rfl) w
theorem race_enable (w : World) : (callFunc 106 #[]).run Tryz.prog w = .ok (.value (.tuple #[])) w := run_call_mark0 Tryz.func106 (by kernel_rfl) (by kernel_rfl) (by kernel_rfl) .enable (by kernel_rfl) w
theorem race_acquire (a : Addr) (w : World) : (callFunc 107 #[.pointer (some a)]).run Tryz.prog w = .ok (.value (.tuple #[])) w := run_call_marked Tryz.func107 (by kernel_rfl) (by kernel_rfl) (by kernel_rfl) .acquire (by kernel_rfl) a w
theorem race_release (a : Addr) (w : World) : (callFunc 109 #[.pointer (some a)]).run Tryz.prog w = .ok (.value (.tuple #[])) w := run_call_marked Tryz.func109 (by kernel_rfl) (by kernel_rfl) (by kernel_rfl) .releaseMerge (by kernel_rfl) a w
set_option maxRecDepth 100000 in
theorem store_deferred (a : Addr) (x : Value) (u : FrameMode) (w : World) (hc : w.cell? a = some x) (hz : w.frozen? a = false) :
    CallsD Tryz.prog 69 #[.pointer (some a), .bool true] u w fun e u' w' => u' = u ∧ (e = .returned (.tuple #[]) ∧ w' = w.drew.setCell a (.int .u32 1)) := by
  have hc' : w.drew.cell? a = some x := by go_simp
  have hz' : w.drew.frozen? a = false := by go_simp
  have hst := run_call_store (P := Tryz.prog) Tryz.func83 (by kernel_rfl) (by kernel_rfl) (by kernel_rfl) (by kernel_rfl) (k := .u32) (y := 1) hc' hz'
  go_enter_d Tryz.func69, Tryz.ntmps69
  go_wp2
  go_region_calls
  all_goals (go_end0; exact ⟨rfl, rfl⟩)
set_option maxRecDepth 100000 in
theorem unlock_deferred (a : Addr) (u : FrameMode) (w : World) (hc : w.cell? a = some (.int .i32 1)) (hz : w.frozen? a = false) :
    CallsD Tryz.prog 68 #[.pointer (some a)] u w fun e u' w' => u' = u ∧ (e = .returned (.tuple #[]) ∧ w' = w.setCell a (.int .i32 0)) := by
  have hd := race_disable
  have he := race_enable
  have hr := race_release
  have hadd := run_call_add (P := Tryz.prog) Tryz.func110 (by kernel_rfl) (by kernel_rfl) (by kernel_rfl) .i32 (by kernel_rfl) (y := -1) (s := 0) hc hz (by simp [go_sem]; rfl)
  have hcv := run_convert_to_unsafe (P := Tryz.prog) (src := 172) (dst := 66) Tryz.underlying172 Tryz.underlying66 (by kernel_rfl) hc
  go_enter_d Tryz.func68, Tryz.ntmps68
  go_wp2
  go_end0
  go_wp2
  go_end0
  exact ⟨rfl, rfl⟩
set_option maxRecDepth 100000 in
theorem lock_free (a : Addr) (w : World) (hc : w.cell? a = some (.int .i32 0)) (hz : w.frozen? a = false) :
    Calls Tryz.prog 67 #[.pointer (some a)] w fun e w' => e = .returned (.tuple #[]) ∧ w' = w.setCell a (.int .i32 1) := by
  have hd := race_disable
  have he := race_enable
  have ha := race_acquire
  have hcas := run_call_cas_hit (P := Tryz.prog) Tryz.func105 (by kernel_rfl) (by kernel_rfl) (by kernel_rfl) .i32 (by kernel_rfl) (y := 1) hc hz
  have hc' : (w.setCell a (.int .i32 1)).cell? a = some (.int .i32 1) := World.cell?_setCell_same w a _ hc
  have hcv := run_convert_to_unsafe (P := Tryz.prog) (src := 172) (dst := 66) Tryz.underlying172 Tryz.underlying66 (by kernel_rfl) hc'
  go_enter Tryz.func67, Tryz.ntmps67
  go_wp2
  first | go_end0 | (simp only [Exit.inBlock, Exit.then]; refine bodyPost_ret (results_none rfl _ _ _) rfl ?_) | refine bodyPost_ret (results_none rfl _ _ _) rfl ?_
  go_wp2
  go_end0
  exact ⟨rfl, rfl⟩
set_option maxHeartbeats 1600000 in
set_option maxRecDepth 100000 in
/-- (*sync.Once).doSlow, not yet done, the lock free: the function is called; then it is done, and the lock free again. -/
theorem slow_any (b off g : Nat) (recv : Value) (R : World → Prop) (w : World) (h0 : w.cell? ⟨b, off, none⟩ = some (.int .u32 0)) (h1 : w.cell? ⟨b, off + 1, none⟩ = some (.int .i32 0)) (f1 : w.frozen? ⟨b, off + 1, none⟩ = false)
    (hf : Calls Tryz.prog g #[recv] (w.setCell ⟨b, off + 1, none⟩ (.int .i32 1)) fun e w' => e = .returned (.tuple #[]) ∧ R w')
    (hR : ∀ w', R w' → w'.cell? ⟨b, off, none⟩ = some (.int .u32 0) ∧ w'.frozen? ⟨b, off, none⟩ = false ∧ w'.cell? ⟨b, off + 1, none⟩ = some (.int .i32 1) ∧ w'.frozen? ⟨b, off + 1, none⟩ = false)
    (eg : ∀ args w, (callFunc g args).run Tryz.prog w = .ok (.enter g args) w) :
    Calls Tryz.prog 55 #[.pointer (some ⟨b, off, none⟩), .func (.func g) #[recv] #[]] w fun e w' => e = .returned (.tuple #[]) ∧ ∃ w2, R w2 ∧ w' = (w2.drew.setCell ⟨b, off, none⟩ (.int .u32 1)).setCell ⟨b, off + 1, none⟩ (.int .i32 0) := by
  have hl := run_call_load (P := Tryz.prog) Tryz.func66 (by kernel_rfl) (by kernel_rfl) (by kernel_rfl) .u32 (by kernel_rfl) (w := w.setCell ⟨b, off + 1, none⟩ (.int .i32 1)) (a := ⟨b, off, none⟩) (x := 0) ((World.cell?_setCell_other _ ⟨b, off + 1, none⟩ ⟨b, off, none⟩ _ (by simp)).trans h0)
  have hnot : ∀ (x : Bool) (w : World), (Op.unary .not (.bool x)).run Tryz.prog w = .ok (.bool (!x)) w := fun _ _ => rfl
  go_enter_defers Tryz.func55, Tryz.ntmps55
  go_wp2_with (first | (go_at_call 67; refine (lock_free ⟨b, off + 1, none⟩ _ (by go_simp) (by go_simp)).mono ?_; rintro e w' ⟨rfl, rfl⟩) | (go_at_call 54; go_in) | (go_at_fn g; refine hf.mono ?_; rintro e w2 ⟨rfl, hRw⟩))
  obtain ⟨r0, rf0, r1, rf1⟩ := hR _ hRw
  refine leaves_cons (f := 69) (args := #[.pointer (some ⟨b, off, none⟩), .bool true]) (by simp) (by simp [go_sem]) ?_
  refine (store_deferred ⟨b, off, none⟩ (.int .u32 0) .returning _ r0 rf0).mono ?_
  rintro e u' w'' ⟨rfl, rfl, rfl⟩
  refine leaves_cons (f := 68) (args := #[.pointer (some ⟨b, off + 1, none⟩)]) (by simp [settle]) (by simp [go_sem]) ?_
  refine (unlock_deferred ⟨b, off + 1, none⟩ _ _ ?_ (by simp [rf1])).mono ?_
  · refine (World.cell?_setCell_other _ ⟨b, off, none⟩ ⟨b, off + 1, none⟩ _ (by simp)).trans ?_
    rw [World.cell?_drew]
    exact r1
  rintro e u' w'' ⟨rfl, rfl, rfl⟩
  simp [Leaves, settle, results, Tryz.results55]
  exact ⟨_, hRw, rfl⟩
set_option maxHeartbeats 1600000 in
set_option maxRecDepth 100000 in
/-- (*sync.Once).Do, the first time. -/
theorem onceDo_any (b off g : Nat) (recv : Value) (R : World → Prop) (w : World) (h0 : w.cell? ⟨b, off, none⟩ = some (.int .u32 0)) (h1 : w.cell? ⟨b, off + 1, none⟩ = some (.int .i32 0)) (f1 : w.frozen? ⟨b, off + 1, none⟩ = false)
    (hf : Calls Tryz.prog g #[recv] (w.setCell ⟨b, off + 1, none⟩ (.int .i32 1)) fun e w' => e = .returned (.tuple #[]) ∧ R w')
    (hR : ∀ w', R w' → w'.cell? ⟨b, off, none⟩ = some (.int .u32 0) ∧ w'.frozen? ⟨b, off, none⟩ = false ∧ w'.cell? ⟨b, off + 1, none⟩ = some (.int .i32 1) ∧ w'.frozen? ⟨b, off + 1, none⟩ = false)
    (eg : ∀ args w, (callFunc g args).run Tryz.prog w = .ok (.enter g args) w) :
    Calls Tryz.prog 43 #[.pointer (some ⟨b, off, none⟩), .func (.func g) #[recv] #[]] w fun e w' => e = .returned (.tuple #[]) ∧ ∃ w2, R w2 ∧ w' = (w2.drew.setCell ⟨b, off, none⟩ (.int .u32 1)).setCell ⟨b, off + 1, none⟩ (.int .i32 0) := by
  have hl := run_call_load (P := Tryz.prog) Tryz.func66 (by kernel_rfl) (by kernel_rfl) (by kernel_rfl) .u32 (by kernel_rfl) h0
  have hnot : ∀ (x : Bool) (w : World), (Op.unary .not (.bool x)).run Tryz.prog w = .ok (.bool (!x)) w := fun _ _ => rfl
  have HSL := Lib.hid (slow_any b off g recv R w h0 h1 f1 hf hR eg)
  clear hf hR eg
  go_enter Tryz.func43, Tryz.ntmps43
  go_wp2_with (first | (go_at_call 55; refine HSL.out.mono ?_; rintro e w' ⟨rfl, hw2⟩) | (go_at_call 54; go_in))
  go_end0
  exact ⟨rfl, hw2⟩
end Go.Proofs.YthefajkihnlgfaaGreatDoor

