/- Gi: what is used of them. -/
import Derived.Test.YtkoghgnjjfnamaaGreatDoorParX
namespace Go.Proofs.YtkoghgnjjfnamaaGreatDoor
set_option maxRecDepth 100000
open Go.RowKit Go.Shelf
section
variable {w w' : World} {pb g n : Nat} {t : Tok} {us ts : List Tok} {L : PF}
theorem expr_any {F : List Tok → Res T} (h0 : n = 0 → F = deepP) (hm : ∀ m, n = m + 1 → Reads pb g m 35 #[.pointer (some ⟨pb, 0, none⟩)] F) : Reads pb g n 14 #[.pointer (some ⟨pb, 0, none⟩)] F := by
 intro w ts h; have hmf : ∀ (fn : Fn) (first cap : Array Value) (w : World), (Instr.makeFunc fn first cap).run Tryz.prog w = .ok (.func fn first cap) w := fun _ _ _ _ => rfl
 have HC := Lib.hid (level_any (f := 35) (lb := #[.pointer (some ⟨pb, 0, none⟩)]) (cap := #[]) enters_top h0 (by simpa using hm) w ts h); obtain ⟨R, hR⟩ : ∃ R, F ts = R := ⟨_, rfl⟩; rw [hR] at HC; rw [hR]; clear hR h; go_enter Tryz.func14, Tryz.ntmps14
 go_wp2_with fail; cases R with
 | error er =>
   refine HC.out.mono ?_; rintro e w2 ⟨rfl, hb2⟩; exact ⟨rfl, rfl, hb2⟩
 | ok r =>
   obtain ⟨a, vs⟩ := r; refine HC.out.mono ?_; rintro e w2 ⟨⟨x, rfl, ht2⟩, hp2, hb2⟩; unfold ptr
   go_wp2_with fail; go_ret; exact ⟨⟨x, rfl, ht2.mono (fun k hk _ => hk)⟩, hp2, hb2⟩
structure RdL (pb g n : Nat) : Prop where
 top : Reads pb g n 35 #[.pointer (some ⟨pb, 0, none⟩)] (topP (Lv n))
 list : ∀ (w : World) (ts : List Tok), PS w pb g n ts → isP ⟨#[91]⟩ ts = true → Calls Tryz.prog 242 #[.pointer (some ⟨pb, 0, none⟩)] w fun e w' => RdPost pb g n w (listP (Lv n) ts) e w'
 upd : Reads pb g n 165 #[.pointer (some ⟨pb, 0, none⟩)] (updP (Lv n))
 cat : Reads pb g n 219 #[.pointer (some ⟨pb, 0, none⟩)] (catP (Lv n))
 sel : Reads pb g n 239 #[.pointer (some ⟨pb, 0, none⟩)] (selP (Lv n))
 notT : Reads pb g n 196 #[.pointer (some ⟨pb, 0, none⟩)] (notP (Lv n))
 negT : Reads pb g n 229 #[.pointer (some ⟨pb, 0, none⟩)] (negP (Lv n))
theorem expr_lv (ih : ∀ m, n = m + 1 → RdL pb g m) : Reads pb g n 14 #[.pointer (some ⟨pb, 0, none⟩)] (Lv n).top :=
 expr_any (fun h => by subst h; rfl) (fun m h => by subst h; exact (ih m rfl).top)
theorem rdl_step (ih : ∀ m, n = m + 1 → RdL pb g m) : RdL pb g n := by
 have hS := Lv_sh n; have hE := expr_lv ih; have hU : Reads pb g n 34 #[.pointer (some ⟨pb, 0, none⟩), .func (.func 165) #[.pointer (some ⟨pb, 0, none⟩)] #[]] (Lv n).upd :=
  level_any enters_upd (fun h => by subst h; rfl) (fun m h => by subst h; exact (show #[.pointer (some ⟨pb, 0, none⟩)] = #[.pointer (some ⟨pb, 0, none⟩)] ++ (#[] : Array Value) by simp) ▸ (ih m rfl).upd)
 have hC : Reads pb g n 34 #[.pointer (some ⟨pb, 0, none⟩), .func (.func 219) #[.pointer (some ⟨pb, 0, none⟩)] #[]] (Lv n).cat :=
  level_any enters_cat (fun h => by subst h; rfl) (fun m h => by subst h; exact (show #[.pointer (some ⟨pb, 0, none⟩)] = #[.pointer (some ⟨pb, 0, none⟩)] ++ (#[] : Array Value) by simp) ▸ (ih m rfl).cat)
 have hL : Reads pb g n 34 #[.pointer (some ⟨pb, 0, none⟩), .func (.func 239) #[.pointer (some ⟨pb, 0, none⟩)] #[]] (Lv n).sel :=
  level_any enters_sel (fun h => by subst h; rfl) (fun m h => by subst h; exact (show #[.pointer (some ⟨pb, 0, none⟩)] = #[.pointer (some ⟨pb, 0, none⟩)] ++ (#[] : Array Value) by simp) ▸ (ih m rfl).sel)
 have hA := atom_any hE hS.top (fun w ts h hc => level_at enters_list (fun h => by subst h; rfl) h (fun m hm w' _ hp => by
  subst hm; exact (show #[.pointer (some ⟨pb, 0, none⟩)] = #[.pointer (some ⟨pb, 0, none⟩)] ++ (#[] : Array Value) by simp) ▸ (ih m rfl).list w' ts hp hc))
 have h1 := sel_any hA hL hS.sel; have h2 := call_any h1 (selP_sh hS); have h3 := has_any h2; have h4 : Reads pb g n 229 #[.pointer (some ⟨pb, 0, none⟩)] (negP (Lv n)) := neg_any h3 (fun h => by subst h; rfl) (fun m h => by
  subst h; exact ⟨negP (Lv m), rfl, (ih m rfl).negT⟩)
 have h5 := cat_any h4 hC; have h6 := mul_any h5 (catP_sh hS); have h7 := add_any h6 (mulP_sh hS); have h8 : Reads pb g n 196 #[.pointer (some ⟨pb, 0, none⟩)] (notP (Lv n)) := not_any h7 (fun h => by subst h; rfl) (fun m h => by
  subst h; exact ⟨notP (Lv m), rfl, (ih m rfl).notT⟩)
 have h9 := upd_any h8 hU; have ha := cmp_any h9; have hb := eq_any ha; have hc := and_any hb (eqP_sh hS); have hd := or_any hc (andP_sh hS); exact ⟨top_any hE hS.top hd, fun w ts h hi => by
  obtain ⟨t, us, rfl, hk⟩ := isP_cons hi; exact list_any h1 (selP_sh hS) h (isT_kind hk), h9, h5, h1, h8, h4⟩
theorem rdl (pb g : Nat) : ∀ n, RdL pb g n
 | 0 => rdl_step (fun m h => by cases h)
 | n + 1 => rdl_step (fun m h => by cases h; exact rdl pb g n)
theorem reads (pb g n : Nat) : Reads pb g n 14 #[.pointer (some ⟨pb, 0, none⟩)] (Lv n).top := expr_lv (fun m _ => rdl pb g m)
end
open Go.RowKit
mutual
def cnt : T → Nat | .mk _ _ _ _ _ _ ks => cntK ks + 1
def cntK : List T → Nat
 | [] => 0
 | t :: ks => cnt t + cntK ks
end
mutual
theorem flatP_len : ∀ (t : T) (out : List Nd), (flatP t out).length = out.length + cnt t
 | .mk k tx n x ns p ks, out => by
   unfold flatP cnt; simp only [List.length_append, List.length_singleton]
   have := flatK_len ks out []; omega
theorem flatK_len : ∀ (ks : List T) (out : List Nd) (is : List Nat), (flatK ks out is).1.length = out.length + cntK ks
 | [], out, is => by simp [flatK, cntK]
 | t :: ks, out, is => by
   unfold flatK cntK; rw [flatK_len ks, flatP_len t]; omega
end
theorem cnt_pos (t : T) : 0 < cnt t := by cases t; simp [cnt]
theorem cntK_get : ∀ (ks : List T) (i : Nat) (t : T), ks[i]? = some t → cntK (ks.drop i) = cnt t + cntK (ks.drop (i + 1))
 | [], i, t, h => by simp at h
 | a :: ks, 0, t, h => by simp at h; subst h; simp [cntK]
 | a :: ks, i + 1, t, h => by simpa using cntK_get ks i t (by simpa using h)
theorem cntK_le (ks : List T) (i : Nat) : cntK (ks.drop i) ≤ cntK ks := by
 induction ks generalizing i with
 | nil => simp
 | cons a ks ih =>
   cases i with
   | zero => simp
   | succ i => have := ih i; simp [cntK]; omega
theorem len_cntK (ks : List T) : ks.length ≤ cntK ks := by
 induction ks with
 | nil => simp
 | cons a ks ih => have := cnt_pos a; simp [cntK]; omega
theorem flatK_get (ks : List T) (i : Nat) (t : T) (out : List Nd) (is : List Nat) (h : ks[i]? = some t) :
 flatK (ks.drop i) out is = flatK (ks.drop (i + 1)) (flatP t out) (is ++ [(flatP t out).length - 1]) := by
 obtain ⟨hl, rfl⟩ := List.getElem?_eq_some_iff.1 h; rw [List.drop_eq_getElem_cons hl]; conv => lhs; unfold flatK
structure NV where
 nd : Nd
 vn : Value
 vk : Value
def num (n : Nat) : Value := .int .i64 (n : Int)
def NV.cells (x : NV) : List Value := [.int .i64 x.nd.kind, .string x.nd.text, .int .i64 x.nd.int, .float .f64 x.nd.flt, x.vn, x.vk, .int .i64 (x.nd.place : Int)]
structure ND (q : Nat → Prop) (A B : Nat) (w : World) (v : Value) (ls : List NV) : Prop where
 own : w.ownsRow B 36 7 v ls.length (ls.flatMap NV.cells)
 blk : ∀ g, v.ownBlock = some g → q g
 nam : ∀ (i : Nat) (x : NV), ls[i]? = some x → RowR (fun k => A ≤ k ∧ k < B) w x.vn (x.nd.names.map Value.string)
 kid : ∀ (i : Nat) (x : NV), ls[i]? = some x → w.ownsRow B 3 1 x.vk x.nd.kids.length (x.nd.kids.map num)
 kq : ∀ (i : Nat) (x : NV) (g : Nat), ls[i]? = some x → x.vk.ownBlock = some g → q g ∧ v.ownBlock ≠ some g
 sep : ∀ (i j : Nat) (x y : NV) (g : Nat), ls[i]? = some x → ls[j]? = some y → x.vk.ownBlock = some g → y.vk.ownBlock = some g → i = j
section
variable {q q' : Nat → Prop} {A B : Nat} {w w' : World} {v v' : Value} {ls : List NV}
theorem ND.nil (q : Nat → Prop) (A B : Nat) (w : World) : ND q A B w (.slice none 0 0) [] :=
 ⟨World.ownsRow_nil _ _ _ _, fun g h => (by cases h), fun i x h => (by simp at h), fun i x h => (by simp at h), fun i x g h => (by simp at h), fun i j x y g h => (by simp at h)⟩
theorem ND.mono (h : ND q A B w v ls) (hq : ∀ k, q k → B ≤ k → k < w.heap.size → q' k) : ND q' A B w v ls :=
 ⟨h.own, fun g hg => hq g (h.blk g hg) (h.own.lt g hg).1 (h.own.lt g hg).2, h.nam, h.kid, fun i x g hi hx => ⟨hq g (h.kq i x g hi hx).1 ((h.kid i x hi).lt g hx).1 ((h.kid i x hi).lt g hx).2, (h.kq i x g hi hx).2⟩, h.sep⟩
theorem ND.keep (h : ND q A B w v ls) (hk : ∀ k, k < w.heap.size → (A ≤ k ∧ k < B ∨ q k ∧ B ≤ k) → w'.heap[k]? = w.heap[k]?) : ND q A B w' v ls :=
 ⟨own_blk h.own (fun g hg hl => hk g hl (Or.inr ⟨h.blk g hg, (h.own.lt g hg).1⟩)), h.blk, fun i x hi => (h.nam i x hi).keep (fun k hkb hl => hk k hl (Or.inl hkb)),
  fun i x hi => own_blk (h.kid i x hi) (fun g hg hl => hk g hl (Or.inr ⟨(h.kq i x g hi hg).1, ((h.kid i x hi).lt g hg).1⟩)), h.kq, h.sep⟩
theorem ND.app {x : NV} (h : ND q A B w v ls) (hn : RowR (fun k => A ≤ k ∧ k < B) w x.vn (x.nd.names.map Value.string)) (hk : w.ownsRow B 3 1 x.vk x.nd.kids.length (x.nd.kids.map num))
 (hx : ∀ g, x.vk.ownBlock = some g → q g ∧ v.ownBlock ≠ some g ∧ ∀ y ∈ ls, y.vk.ownBlock ≠ some g)
 (hown : w'.ownsRow B 36 7 v' (ls.length + 1) (ls.flatMap NV.cells ++ x.cells)) (hg : w.grownBy w' v.ownBlock) (hv : v'.ownBlock = v.ownBlock ∨ v'.ownBlock = some w.heap.size) (hq : q w.heap.size) :
 ND q A B w' v' (ls ++ [x]) := by
 have hvB : ∀ k, v.ownBlock = some k → B ≤ k := fun k hk => (h.own.lt k hk).1
 have hne : ∀ {g : Nat}, g < w.heap.size → v.ownBlock ≠ some g → v'.ownBlock ≠ some g := fun {g} hl hg e => by
  rcases hv with hv | hv
  · exact hg (hv ▸ e)
  · rw [hv] at e
    simp at e; omega
 have hrow : ∀ {u : Value} {n : Nat} {xs : List Value}, w.ownsRow B 3 1 u n xs → (∀ g, u.ownBlock = some g → v.ownBlock ≠ some g) → w'.ownsRow B 3 1 u n xs := fun {u n xs} hu hu2 =>
  own_blk hu (fun g hg' hl => hg.block g hl (fun e => hu2 g hg' e.symm))
 have hget : ∀ (i : Nat) (y : NV), (ls ++ [x])[i]? = some y → ls[i]? = some y ∨ i = ls.length ∧ y = x := fun i y hi => by
  by_cases hlt : i < ls.length
  · rw [List.getElem?_append_left hlt] at hi; exact Or.inl hi
  · rw [List.getElem?_append_right (by omega)] at hi
    rcases Nat.eq_zero_or_pos (i - ls.length) with h0 | h0
    · rw [h0] at hi
      simp at hi; exact Or.inr ⟨by omega, hi.symm⟩
    · rw [List.getElem?_eq_none (by simp; omega)] at hi; cases hi
 refine ⟨by simpa using hown, fun g hg' => ?_, fun i y hi => ?_, fun i y hi => ?_, fun i y g hi hy => ?_, fun i j y z g hi hj hy hz => ?_⟩
 · rcases hv with hv | hv
   · exact h.blk g (hv ▸ hg')
   · rw [hv] at hg'; cases hg'; exact hq
 · refine RowR.keep (w := w) ?_ (fun k hkB hl => hg.block k hl (fun e => by have := hvB k e.symm; omega))
   rcases hget i y hi with hi | ⟨_, rfl⟩
   · exact h.nam i y hi
   · exact hn
 · rcases hget i y hi with hi | ⟨_, rfl⟩
   · exact hrow (h.kid i y hi) (fun g hg' => (h.kq i y g hi hg').2)
   · exact hrow hk (fun g hg' => (hx g hg').2.1)
 · rcases hget i y hi with hi | ⟨_, rfl⟩
   · have h1 := h.kq i y g hi hy
     exact ⟨h1.1, hne ((h.kid i y hi).lt g hy).2 h1.2⟩
   · have h1 := hx g hy
     exact ⟨h1.1, hne (hk.lt g hy).2 h1.2.1⟩
 · rcases hget i y hi with hi2 | ⟨hi2, hi3⟩ <;> rcases hget j z hj with hj2 | ⟨hj2, hj3⟩
   · exact h.sep i j y z g hi2 hj2 hy hz
   · exact absurd hy ((hx g (hj3 ▸ hz)).2.2 y (List.mem_of_getElem? hi2))
   · exact absurd hz ((hx g (hi3 ▸ hy)).2.2 z (List.mem_of_getElem? hj2))
   · omega
end
theorem grown_trans2 {a b c : World} {r r' : Option Nat} (h : a.grownBy b r) (k : b.grownBy c r') (hr : ∀ g, r' = some g → r = some g ∨ a.heap.size ≤ g) : a.grownBy c r :=
 ⟨k.os.trans h.os, k.tape.trans h.tape, k.output.trans h.output, Nat.le_trans h.size k.size, fun i hi hn => (k.block i (Nat.lt_of_lt_of_le hi h.size) (fun e => by
  rcases hr i e.symm with h1 | h1
  · exact hn h1.symm
  · omega)).trans (h.block i hi hn)⟩
theorem grown_below {a b : World} {r : Option Nat} (h : Below a.heap.size a b) : a.grownBy b r := ⟨h.os, h.tape, h.output, h.size, fun i hi _ => h.block i hi⟩
def FlatPost (q : Nat → Prop) (A B : Nat) (w : World) (v : Value) (nds : List Nd) (e : Ending) (w' : World) : Prop :=
 ∃ v' ls', e = .returned v' ∧ ND q A B w' v' ls' ∧ ls'.map NV.nd = nds ∧ w.grownBy w' v.ownBlock ∧ (∀ g, v'.ownBlock = some g → v.ownBlock = some g ∨ w.heap.size ≤ g)
open Go.RowKit
theorem cntK_app (ks ls : List T) : cntK (ks ++ ls) = cntK ks + cntK ls := by
 induction ks with
 | nil => simp [cntK]
 | cons a ks ih => simp [cntK, ih]; omega
@[simp] theorem cnt_mk (k : Int) (tx : ByteArray) (i : Int) (f : Nat) (ns : List ByteArray) (p : Nat) (ks : List T) : cnt (.mk k tx i f ns p ks) = cntK ks + 1 := by simp [cnt]
@[simp] theorem cntK_nil : cntK [] = 0 := by simp [cntK]
@[simp] theorem cntK_cons (a : T) (ks : List T) : cntK (a :: ks) = cnt a + cntK ks := by simp [cntK]
theorem isP_len {s : ByteArray} {ts : List Tok} (h : isP s ts = true) : ts.tail.length + 1 = ts.length := by
 obtain ⟨t, us, rfl, _⟩ := isP_cons h; simp
theorem needP_len {s : ByteArray} {ts us : List Tok} (h : needP s ts = .ok us) : us.length + 1 = ts.length := by
 unfold needP at h; split at h
 · rename_i hc; cases h; exact isP_len hc
 · cases h
theorem attrP_len {ts us : List Tok} {n : ByteArray} (h : attrP ts = .ok (n, us)) : us.length + 1 = ts.length := by
 unfold attrP at h; split at h
 · split at h
   · cases h; simp
   · cases h
 · cases h
def Sz (f : List Tok → Res T) : Prop := ∀ ts a us, f ts = .ok (a, us) → cnt a + 2 * us.length + 1 ≤ 2 * ts.length
def Sz2 (f : List Tok → Res T) : Prop := ∀ ts a us, f ts = .ok (a, us) → 0 < ts.length → cnt a + 2 * us.length + 3 ≤ 2 * ts.length
theorem leftL_sz {above : List Tok → Res T} (h : Sz above) (ss : List ByteArray) : ∀ (k : Nat) (a : T) (ts : List Tok) (b : T) (us : List Tok), leftL above ss k a ts = .ok (b, us) → cnt b + 2 * us.length ≤ cnt a + 2 * ts.length := by
 intro k; induction k with
 | zero => intro a ts b us he; cases he; omega
 | succ k ih =>
   intro a ts b us he; unfold leftL at he; split at he
   · rename_i hc
     obtain ⟨t, vs, rfl, hk⟩ := anyP_cons hc; simp only at he; split at he
     · rename_i b' vs' hb
       have h2 := h _ _ _ hb; have h3 := ih _ _ _ _ he; simp [binT] at h3 ⊢
       omega
     · cases he
   · cases he; omega
theorem leftP_sz {above : List Tok → Res T} (h : Sz above) (ss : List ByteArray) : Sz (leftP above ss) := by
 intro ts b us he; unfold leftP at he; split at he
 · rename_i a vs ha
   have h1 := h _ _ _ ha; have h2 := leftL_sz h ss _ _ _ _ _ he; omega
 · cases he
theorem onceP_sz {above : List Tok → Res T} (h : Sz above) (ss : List ByteArray) : Sz (onceP above ss) := by
 intro ts b us he; unfold onceP at he; split at he
 · rename_i a vs ha
   have h1 := h _ _ _ ha; split at he
   · rename_i hc
     obtain ⟨t, xs, rfl, hk⟩ := anyP_cons hc; simp only at he; split at he
     · rename_i b' vs' hb
       cases he; have h2 := h _ _ _ hb; simp [binT] at h1 ⊢
       omega
     · cases he
   · cases he; exact h1
 · cases he
theorem rightP_sz {row above : List Tok → Res T} (hr : Sz row) (h : Sz above) (s : ByteArray) : Sz (rightP' row above s) := by
 intro ts b us he; unfold rightP' at he; split at he
 · rename_i a vs ha
   have h1 := h _ _ _ ha; split at he
   · rename_i hc
     obtain ⟨t, xs, rfl, hk⟩ := isP_cons hc; simp only at he; split at he
     · rename_i b' vs' hb
       cases he; have h2 := hr _ _ _ hb; simp [binT] at h1 ⊢
       omega
     · cases he
   · cases he; exact h1
 · cases he
theorem prefixP_sz {row above : List Tok → Res T} {s : ByteArray} (hr : Sz2 row) (h : Sz above) (kind : Int) : Sz (prefixP row above s kind) := by
 intro ts b us he; unfold prefixP at he; split at he
 · rename_i hc
   split at he
   · rename_i a vs ha
     cases he; have h1 := isP_len hc; have h2 := hr _ _ _ ha (by omega); simp
     omega
   · cases he
 · exact h _ _ _ he
def kidsM (o : SO) : List Nat := o.kids.filterMap fun | .made j => some j | .leaf _ => none
def kidW : Kid → Nat | .leaf t => cnt t | .made _ => 0
def wO (o : SO) : Nat := 1 + (o.kids.map kidW).sum
def wA (ar : Ar) : Nat := (ar.map wO).sum
def kidT (ar : Ar) (f : Nat) : Kid → T | .leaf t => t | .made j => treeOf ar f j
theorem treeOf_some {ar : Ar} {i : Nat} {o : SO} (f : Nat) (h : ar[i]? = some o) : treeOf ar (f + 1) i = .mk 6 ⟨#[]⟩ 0 0 o.names o.place (o.kids.map (kidT ar f)) := by
 conv => lhs; unfold treeOf
 rw [h]; have : (fun | .leaf t => t | .made j => treeOf ar f j : Kid → T) = kidT ar f := by
  funext k
  cases k <;> rfl
 rw [← this]; rfl
theorem cntK_kids (ar : Ar) (f : Nat) (ks : List Kid) : cntK (ks.map (kidT ar f)) = (ks.map kidW).sum + ((ks.filterMap fun | .made j => some j | .leaf _ => none).map fun j => cnt (treeOf ar f j)).sum := by
 induction ks with
 | nil => simp
 | cons k ks ih =>
   cases k with
   | leaf t => simp [kidW, kidT]; rw [ih]; omega
   | made j => simp [kidW, kidT]; rw [ih]; omega
theorem cnt_succ {ar : Ar} {i : Nat} {o : SO} (f : Nat) (h : ar[i]? = some o) : cnt (treeOf ar (f + 1) i) = wO o + ((kidsM o).map fun j => cnt (treeOf ar f j)).sum := by
 rw [treeOf_some f h, cnt_mk, cntK_kids]; unfold wO kidsM; omega
theorem cnt_mono (ar : Ar) : ∀ (f i : Nat), cnt (treeOf ar f i) ≤ cnt (treeOf ar (f + 1) i) := by
 intro f; induction f with
 | zero =>
   intro i; have h1 : cnt (treeOf ar 0 i) = 1 := by simp [treeOf]
   have h2 := cnt_pos (treeOf ar (0 + 1) i); omega
 | succ f ih =>
   intro i; cases h : ar[i]? with
   | none => simp [treeOf, h]
   | some o =>
     rw [cnt_succ f h, cnt_succ (f + 1) h]; have : ∀ (l : List Nat), (l.map fun j => cnt (treeOf ar f j)).sum ≤ (l.map fun j => cnt (treeOf ar (f + 1) j)).sum := by
      intro l; induction l with
      | nil => simp
      | cons a l ih2 => have := ih a; simp; omega
     have := this (kidsM o); omega
structure Uq (ar : Ar) : Prop where
 nd : (ar.flatMap kidsM).Nodup
 lt : ∀ (i : Nat) (o : SO) (j : Nat), ar[i]? = some o → j ∈ kidsM o → i < j ∧ j < ar.length
theorem uq_sum {ar : Ar} (hu : Uq ar) (f : Nat) : ∀ (k m : Nat) (js : List Nat), m + k = ar.length → (js ++ (ar.drop m).flatMap kidsM).Nodup → (∀ j ∈ js, m ≤ j ∧ j < ar.length) → (js.map fun j => cnt (treeOf ar f j)).sum ≤ ((ar.drop m).map wO).sum := by
 intro k; induction k with
 | zero =>
   intro m js hm hn hj; cases js with
   | nil => simp
   | cons a js => have := hj a (by simp); omega
 | succ k ih =>
   intro m js hm hn hj; have hml : m < ar.length := by omega
   have hd : ar.drop m = ar[m] :: ar.drop (m + 1) := List.drop_eq_getElem_cons hml; have hget : ar[m]? = some ar[m] := List.getElem?_eq_getElem hml; rw [hd] at hn ⊢; simp only [List.flatMap_cons, List.map_cons, List.sum_cons] at hn ⊢; by_cases hmem : m ∈ js
   · have hp := List.perm_cons_erase hmem
     have hnj : js.Nodup := (List.nodup_append.1 hn).1; have hs : (js.map fun j => cnt (treeOf ar f j)).sum = cnt (treeOf ar f m) + ((js.erase m).map fun j => cnt (treeOf ar f j)).sum := by
      have h9 := (hp.map fun j => cnt (treeOf ar f j)).sum_nat; simpa using h9
     have hc : cnt (treeOf ar f m) ≤ wO ar[m] + ((kidsM ar[m]).map fun j => cnt (treeOf ar f j)).sum := by
      have h1 := cnt_mono ar f m; rw [cnt_succ f hget] at h1; exact h1
     have h2 := ih (m + 1) (js.erase m ++ kidsM ar[m]) (by omega) (by
      rw [List.append_assoc]; exact hn.sublist (List.Sublist.append_right List.erase_sublist _)) (fun j hj' => by
      rcases List.mem_append.1 hj' with h3 | h3
      · have h4 := hj j (List.mem_of_mem_erase h3)
        have h5 : j ≠ m := fun e => by
         subst e; exact hnj.not_mem_erase h3
        omega
      · have h4 := hu.lt m _ j hget h3
        omega)
     simp only [List.map_append, List.sum_append] at h2; omega
   · have h2 := ih (m + 1) js (by omega) (hn.sublist (List.Sublist.append_left (List.sublist_append_right _ _) _)) (fun j hj' => by
      have h4 := hj j hj'; have h5 : j ≠ m := fun e => hmem (e ▸ hj')
      omega)
     omega
theorem uq_root {ar : Ar} (hu : Uq ar) (h0 : 0 < ar.length) (f : Nat) : cnt (treeOf ar f 0) ≤ wA ar := by
 have h := uq_sum hu f ar.length 0 [0] (by omega) (by
  simp only [List.drop_zero, List.singleton_append, List.nodup_cons]; refine ⟨fun hm => ?_, hu.nd⟩; obtain ⟨o, ho, hj⟩ := List.mem_flatMap.1 hm; obtain ⟨i, hi⟩ := List.mem_iff_getElem?.1 ho; have := (hu.lt i o 0 hi hj).1
  omega) (fun j hj => by simp at hj; omega)
 simpa [wA] using h
theorem addAt_len (ar : Ar) (i : Nat) (n : ByteArray) (k : Kid) : (ar.addAt i n k).length = ar.length := by simp [Ar.addAt]
theorem addAt_get (ar : Ar) (i : Nat) (n : ByteArray) (k : Kid) (j : Nat) : (ar.addAt i n k)[j]? = if i = j then (ar[j]?).map (fun o => o.add n k) else ar[j]? := by
 unfold Ar.addAt; rw [List.getElem?_modify]; split <;> simp
theorem kidsM_leaf (o : SO) (n : ByteArray) (t : T) : kidsM (o.add n (.leaf t)) = kidsM o := by simp [kidsM, SO.add]
theorem kidsM_made (o : SO) (n : ByteArray) (j : Nat) : kidsM (o.add n (.made j)) = kidsM o ++ [j] := by simp [kidsM, SO.add]
theorem addAt_split {ar : Ar} {i : Nat} (h : i < ar.length) (n : ByteArray) (k : Kid) : ∃ l o r, ar = l ++ o :: r ∧ ar.addAt i n k = l ++ o.add n k :: r ∧ l.length = i := by
 refine ⟨ar.take i, ar[i], ar.drop (i + 1), ?_, ?_, by simp; omega⟩
 · rw [← List.drop_eq_getElem_cons h, List.take_append_drop]
 · unfold Ar.addAt
   rw [List.modify_eq_take_cons_drop h]
theorem uq_leaf {ar : Ar} (hu : Uq ar) {i : Nat} (h : i < ar.length) (n : ByteArray) (t : T) : Uq (ar.addAt i n (.leaf t)) ∧ wA (ar.addAt i n (.leaf t)) = wA ar + cnt t := by
 obtain ⟨l, o, r, h1, h2, h3⟩ := addAt_split h n (.leaf t); refine ⟨⟨?_, fun j o' k hj hk => ?_⟩, ?_⟩
 · have := hu.nd
   rw [h2]; rw [h1] at this; simpa [kidsM_leaf] using this
 · rw [addAt_len]
   rw [addAt_get] at hj; split at hj
   · cases ho : ar[j]? with
     | none => rw [ho] at hj; cases hj
     | some o2 =>
       rw [ho] at hj; cases hj; rw [kidsM_leaf] at hk; exact hu.lt j o2 k ho hk
   · exact hu.lt j o' k hj hk
 · rw [h2, h1]
   simp [wA, wO, SO.add, kidW]
   omega
theorem uq_push {ar : Ar} (hu : Uq ar) {i : Nat} (h : i < ar.length) (n : ByteArray) (p : Nat) : Uq (ar.addAt i n (.made ar.length) ++ [⟨[], [], p⟩]) ∧ wA (ar.addAt i n (.made ar.length) ++ [⟨[], [], p⟩]) = wA ar + 1 := by
 obtain ⟨l, o, r, h1, h2, h3⟩ := addAt_split h n (.made ar.length); refine ⟨⟨?_, fun j o' k hj hk => ?_⟩, ?_⟩
 · have hnd := hu.nd
   have hno : ar.length ∉ ar.flatMap kidsM := fun hm => by
    obtain ⟨o, ho, hj⟩ := List.mem_flatMap.1 hm; obtain ⟨i, hi⟩ := List.mem_iff_getElem?.1 ho; have := (hu.lt i o _ hi hj).2; omega
   have hp : List.Perm ((ar.addAt i n (.made ar.length) ++ [(⟨[], [], p⟩ : SO)]).flatMap kidsM) (ar.length :: ar.flatMap kidsM) := by
    rw [h2]; generalize hN : ar.length = N; rw [h1]; simp only [List.append_assoc, List.cons_append, List.flatMap_append, List.flatMap_cons, kidsM_made, List.flatMap_nil]; have : kidsM ⟨[], [], p⟩ = [] := rfl; rw [this]; simp only [List.append_nil, List.nil_append]; have e : kidsM o ++ N :: List.flatMap kidsM r = (kidsM o ++ [N]) ++ List.flatMap kidsM r := by simp
    refine (List.Perm.append_left _ List.perm_middle).trans List.perm_middle
   exact hp.nodup_iff.2 (List.nodup_cons.2 ⟨hno, hnd⟩)
 · rw [List.length_append, addAt_len]
   by_cases hjl : j < ar.length
   · rw [List.getElem?_append_left (by rw [addAt_len]; exact hjl), addAt_get] at hj
     split at hj
     · cases ho : ar[j]? with
       | none => rw [ho] at hj; cases hj
       | some o2 =>
         rw [ho] at hj; cases hj; rw [kidsM_made] at hk; rcases List.mem_append.1 hk with hk | hk
         · have := hu.lt j o2 k ho hk
           simp; omega
         · simp at hk
           subst hk
           simp; omega
     · have := hu.lt j o' k hj hk
       simp; omega
   · rw [List.getElem?_append_right (by rw [addAt_len]; omega), addAt_len] at hj
     rcases Nat.eq_zero_or_pos (j - ar.length) with h0 | h0
     · rw [h0] at hj
       cases hj; simp [kidsM] at hk
     · rw [List.getElem?_eq_none (by simp; omega)] at hj; cases hj
 · rw [h2]
   generalize ar.length = N; rw [h1]; simp [wA, wO, SO.add, kidW]
   omega
theorem uq_make (p : Nat) : ∀ (rest : List ByteArray) (ar : Ar) (i : Nat), Uq ar → i < ar.length → Uq (makeP p ar i rest).1 ∧ wA (makeP p ar i rest).1 = wA ar + rest.length ∧ (makeP p ar i rest).2 < (makeP p ar i rest).1.length ∧ ar.length ≤ (makeP p ar i rest).1.length := by
 intro rest; induction rest with
 | nil => intro ar i hu hi; exact ⟨hu, by simp [makeP], hi, Nat.le_refl _⟩
 | cons n rest ih =>
   intro ar i hu hi; obtain ⟨h1, h2⟩ := uq_push hu hi n p; obtain ⟨h3, h4, h5, h6⟩ := ih _ ar.length h1 (by simp [addAt_len]); unfold makeP; refine ⟨h3, by rw [h4, h2]; simp; omega, h5, ?_⟩; simp [addAt_len] at h6
   omega
open Go.RowKit
theorem inhL_sz : ∀ (k : Nat) (ar : Ar) (ts : List Tok) (ar' : Ar) (us : List Tok), Uq ar → 0 < ar.length → inhL k ar ts = .ok (ar', us) → Uq ar' ∧ 0 < ar'.length ∧ wA ar' + 2 * us.length ≤ wA ar + 2 * ts.length := by
 intro k; induction k with
 | zero => intro ar ts ar' us hu h0 he; cases he; exact ⟨hu, h0, Nat.le_refl _⟩
 | succ k ih =>
   intro ar ts ar' us hu h0 he; unfold inhL at he; split at he
   · rename_i t vs
     split at he
     · split at he
       · cases he
       · obtain ⟨h1, h2⟩ := uq_leaf hu h0 t.text (leafI t)
         obtain ⟨h3, h4, h5⟩ := ih _ _ _ _ h1 (by rw [addAt_len]; exact h0) he; refine ⟨h3, h4, ?_⟩; rw [h2] at h5; simp [leafI] at h5 ⊢
         omega
     · cases he; exact ⟨hu, h0, Nat.le_refl _⟩
   · cases he; exact ⟨hu, h0, Nat.le_refl _⟩
theorem pathL_sz : ∀ (k : Nat) (path : List ByteArray) (ts : List Tok) (p' : List ByteArray) (us : List Tok), pathL k path ts = .ok (p', us) → p'.length + us.length ≤ path.length + ts.length := by
 intro k; induction k with
 | zero => intro path ts p' us he; cases he; exact Nat.le_refl _
 | succ k ih =>
   intro path ts p' us he; unfold pathL at he; split at he
   · rename_i hc
     have h1 := isP_len hc; split at he
     · rename_i n vs ha
       have h2 := attrP_len ha; have h3 := ih _ _ _ _ he; simp at h3; omega
     · cases he
   · cases he; exact Nat.le_refl _
theorem walkP_at {ar : Ar} (hu : Uq ar) {e : Er} : ∀ (path : List ByteArray) (i j : Nat) (rest : List ByteArray), i < ar.length → walkP ar e i path = .ok (j, rest) → j < ar.length ∧ rest.length ≤ path.length := by
 intro path; induction path with
 | nil => intro i j rest hi he; cases he; exact ⟨hi, Nat.le_refl _⟩
 | cons r path ih =>
   intro i j rest hi he; unfold walkP at he; split at he
   · cases he; exact ⟨hi, Nat.le_refl _⟩
   · rename_i o ho
     split at he
     · cases he; exact ⟨hi, Nat.le_refl _⟩
     · rename_i k hk
       split at he
       · rename_i j2 hj2
         have h1 := hu.lt i o j2 ho (by
          unfold kidsM; exact List.mem_filterMap.2 ⟨.made j2, List.mem_of_getElem? hj2, rfl⟩)
         obtain ⟨h2, h3⟩ := ih j2 j rest h1.2 he; exact ⟨h2, by simp; omega⟩
       · cases he
theorem bindP_sz {expr : List Tok → Res T} (h : Sz expr) (ar : Ar) (ts : List Tok) (ar' : Ar) (us : List Tok) (hu : Uq ar) (h0 : 0 < ar.length) (he : bindP expr ar ts = .ok (ar', us)) : Uq ar' ∧ 0 < ar'.length ∧ wA ar' + 2 * us.length ≤ wA ar + 2 * ts.length := by
 unfold bindP at he; split at he
 · cases he
 · rename_i n0 u1 ha
   have h1 := attrP_len ha; split at he
   · cases he
   · rename_i path u2 hp
     have h2 := pathL_sz _ _ _ _ _ hp; split at he
     · cases he
     · rename_i u3 hn
       have h3 := needP_len hn; split at he
       · cases he
       · rename_i at' rest hw
         obtain ⟨w1, w2⟩ := walkP_at hu _ _ _ _ h0 hw; split at he
         · cases he
         · split at he
           · cases he
           · rename_i v u4 hv
             have h4 := h _ _ _ hv; split at he
             · cases he
             · rename_i u5 hn5
               have h5 := needP_len hn5; cases he; obtain ⟨m1, m2, m3, m4⟩ := uq_make (placeP ts) rest ar at' hu w1; obtain ⟨m5, m6⟩ := uq_leaf m1 m3 (path.getLast?.getD ⟨#[]⟩) v; refine ⟨m5, by rw [addAt_len]; omega, ?_⟩; rw [m6, m2]; simp at h2 w2; omega
theorem bindsL_sz {expr : List Tok → Res T} (h : Sz expr) : ∀ (k : Nat) (ar : Ar) (ts : List Tok) (ar' : Ar) (us : List Tok), Uq ar → 0 < ar.length → bindsL expr k ar ts = .ok (ar', us) → Uq ar' ∧ 0 < ar'.length ∧ wA ar' + 2 * us.length ≤ wA ar + 2 * ts.length := by
 intro k; induction k with
 | zero => intro ar ts ar' us hu h0 he; cases he; exact ⟨hu, h0, Nat.le_refl _⟩
 | succ k ih =>
   intro ar ts ar' us hu h0 he; unfold bindsL at he; split at he
   · cases he; exact ⟨hu, h0, Nat.le_refl _⟩
   · rename_i t vs
     split at he
     · split at he
       · cases he
       · rename_i ar1 u1 h9
         obtain ⟨a1, a2, a3⟩ := inhL_sz _ _ _ _ _ hu h0 h9; split at he
         · cases he
         · rename_i u2 hn
           have h3 := needP_len hn; obtain ⟨b1, b2, b3⟩ := ih _ _ _ _ a1 a2 he; exact ⟨b1, b2, by simp; omega⟩
     · split at he
       · split at he
         · cases he
         · rename_i ar1 u1 hb
           obtain ⟨a1, a2, a3⟩ := bindP_sz h _ _ _ _ hu h0 hb; obtain ⟨b1, b2, b3⟩ := ih _ _ _ _ a1 a2 he; exact ⟨b1, b2, by omega⟩
       · cases he; exact ⟨hu, h0, Nat.le_refl _⟩
theorem uq_one (p : Nat) : Uq [⟨[], [], p⟩] ∧ wA [⟨[], [], p⟩] = 1 := by
 refine ⟨⟨by simp [kidsM], fun i o j hi hj => ?_⟩, by simp [wA, wO]⟩; cases i with
 | zero => simp at hi; subst hi; simp [kidsM] at hj
 | succ i => simp at hi
theorem cnt_root (kind : Int) (place : Nat) (more : List T) {ar : Ar} (hu : Uq ar) (h0 : 0 < ar.length) : cnt (rootOf kind place more ar) ≤ wA ar + cntK more := by
 have h := uq_root hu h0 (ar.length + 1); unfold rootOf; cases ht : treeOf ar (ar.length + 1) 0 with
 | mk k t n x ns p ks =>
   rw [ht] at h; simp only [cnt_mk] at h ⊢; rw [cntK_app]; omega
theorem bracesP_sz {expr : List Tok → Res T} (h : Sz expr) (kind : Int) (place : Nat) (ts : List Tok) (b : T) (us : List Tok) (he : bracesP expr kind place ts = .ok (b, us)) : cnt b + 2 * us.length + 1 ≤ 2 * ts.length := by
 unfold bracesP at he; split at he
 · cases he
 · rename_i t u1 hb
   unfold bindsP at hb; split at hb
   · cases hb
   · rename_i ar u2 h9
     cases hb; obtain ⟨a1, a2, a3⟩ := bindsL_sz h _ _ _ _ _ (uq_one place).1 (by simp) h9; rw [(uq_one place).2] at a3; have h3 := cnt_root kind place [] a1 a2; split at he
     · cases he
     · rename_i u3 hn
       cases he; have h4 := needP_len hn; simp at h3; omega
structure SzL (L : PF) : Prop where
 top : Sz L.top
 list : Sz2 L.list
 upd : Sz L.upd
 cat : Sz L.cat
 sel : Sz L.sel
 notT : Sz2 L.notT
 negT : Sz2 L.negT
section
variable {L : PF} (hL : SzL L)
include hL
theorem atomP_sz : Sz (atomP L) := by
 intro ts b us he; unfold atomP at he; split at he
 · rename_i hc
   obtain ⟨t, vs, rfl, hk⟩ := begP_cons hc; split at he
   · have := hL.list _ _ _ he (by simp)
     omega
   · simp only at he
     split at he
     · cases he; simp; omega
     · split at he
       · cases he; simp; omega
       · split at he
         · cases he; simp; omega
         · split at he
           · split at he
             · cases he
             · rename_i a u1 ha
               have h2 := hL.top _ _ _ ha; split at he
               · cases he
               · rename_i u2 hn
                 cases he; have h3 := needP_len hn; simp
                 omega
           · split at he
             · have h1 := bracesP_sz hL.top _ _ _ _ _ he
               simp
               omega
             · split at he
               · split at he
                 · cases he
                 · rename_i u1 hn
                   have h2 := needP_len hn; have h1 := bracesP_sz hL.top _ _ _ _ _ he; simp
                   omega
               · cases he; simp; omega
 · cases he
theorem selL_sz : ∀ (k : Nat) (a : T) (ts : List Tok) (b : T) (us : List Tok), selL L k a ts = .ok (b, us) → cnt b + 2 * us.length ≤ cnt a + 2 * ts.length := by
 intro k; induction k with
 | zero => intro a ts b us he; cases he; exact Nat.le_refl _
 | succ k ih =>
   intro a ts b us he; unfold selL at he; split at he
   · rename_i hc
     have h1 := isP_len hc; split at he
     · cases he
     · rename_i n u1 ha
       have h2 := attrP_len ha; split at he
       · rename_i ho
         have h3 := isP_len ho; split at he
         · cases he
         · rename_i b' u2 hb
           have h4 := hL.sel _ _ _ hb; have h5 := ih _ _ _ _ he; simp at h5; omega
       · have h5 := ih _ _ _ _ he
         simp at h5; omega
   · cases he; exact Nat.le_refl _
theorem selP_sz : Sz (selP L) := by
 intro ts b us he; unfold selP at he; split at he
 · cases he
 · rename_i a u1 ha
   have h1 := atomP_sz hL _ _ _ ha; have h2 := selL_sz hL _ _ _ _ _ he; omega
theorem callL_sz : ∀ (k : Nat) (a : T) (ts : List Tok) (b : T) (us : List Tok), callL L k a ts = .ok (b, us) → cnt b + 2 * us.length ≤ cnt a + 2 * ts.length := by
 intro k; induction k with
 | zero => intro a ts b us he; cases he; exact Nat.le_refl _
 | succ k ih =>
   intro a ts b us he; unfold callL at he; split at he
   · split at he
     · cases he
     · rename_i b' u1 hb
       have h1 := selP_sz hL _ _ _ hb; have h2 := ih _ _ _ _ he; simp at h2; omega
   · cases he; exact Nat.le_refl _
theorem callP_sz : Sz (callP L) := by
 intro ts b us he; unfold callP at he; split at he
 · cases he
 · rename_i a u1 ha
   have h1 := selP_sz hL _ _ _ ha; have h2 := callL_sz hL _ _ _ _ _ he; omega
theorem hasPr_sz : Sz (hasPr L) := by
 intro ts b us he; unfold hasPr at he; split at he
 · cases he
 · rename_i a u1 ha
   have h1 := callP_sz hL _ _ _ ha; split at he
   · rename_i hc
     have h2 := isP_len hc; split at he
     · cases he
     · rename_i n u2 hn
       cases he; have h3 := attrP_len hn; simp
       omega
   · cases he; exact h1
theorem negP_sz : Sz (negP L) := prefixP_sz hL.negT (hasPr_sz hL) 17
theorem catP_sz : Sz (catP L) := rightP_sz hL.cat (negP_sz hL) _
theorem mulP_sz : Sz (mulPr L) := leftP_sz (catP_sz hL) _
theorem addP_sz : Sz (addP L) := leftP_sz (mulP_sz hL) _
theorem notP_sz : Sz (notP L) := prefixP_sz hL.notT (addP_sz hL) 16
theorem updP_sz : Sz (updP L) := rightP_sz hL.upd (notP_sz hL) _
theorem cmpP_sz : Sz (cmpP L) := onceP_sz (updP_sz hL) _
theorem eqP_sz : Sz (eqP L) := onceP_sz (cmpP_sz hL) _
theorem andP_sz : Sz (andP L) := leftP_sz (eqP_sz hL) _
theorem orP_sz : Sz (orP L) := leftP_sz (andP_sz hL) _
theorem ifL_sz : ∀ (ss : List ByteArray) (ks : List T) (ts : List Tok) (ks' : List T) (us : List Tok), ifL L ss ks ts = .ok (ks', us) → cntK ks' + 2 * us.length + ss.length ≤ cntK ks + 2 * ts.length := by
 intro ss; induction ss with
 | nil => intro ks ts ks' us he; cases he; simp
 | cons s ss ih =>
   intro ks ts ks' us he; unfold ifL at he; split at he
   · cases he
   · rename_i u1 hn
     have h1 := needP_len hn; split at he
     · cases he
     · rename_i a u2 ha
       have h2 := hL.top _ _ _ ha; have h3 := ih _ _ _ _ he; rw [cntK_app] at h3; simp at h3 ⊢; omega
theorem twoP_sz (kind : Int) (ts us : List Tok) (b : T) (h0 : 0 < ts.length) (he : twoP L kind ts = .ok (b, us)) : cnt b + 2 * us.length + 1 ≤ 2 * ts.length := by
 unfold twoP at he; split at he
 · cases he
 · rename_i a u1 ha
   have h2 := hL.top _ _ _ ha; split at he
   · cases he
   · rename_i u2 hn
     have h3 := needP_len hn; split at he
     · cases he
     · rename_i b' u3 hb
       cases he; have h4 := hL.top _ _ _ hb; have h5 : ts.tail.length + 1 = ts.length := by cases ts <;> simp at h0 ⊢
       simp
       omega
theorem topP_sz : Sz (topP L) := by
 intro ts b us he; unfold topP at he; split at he
 · exact orP_sz hL _ _ _ he
 · rename_i t vs
   split at he
   · split at he
     · cases he
     · rename_i a u1 ha
       cases he; have h2 := hL.top _ _ _ ha; have h5 : vs.tail.length ≤ vs.length := by simp
       simp
       omega
   · split at he
     · split at he
       · cases he
       · rename_i ar u1 h9
         obtain ⟨a1, a2, a3⟩ := bindsL_sz hL.top _ _ _ _ _ (uq_one t.place).1 (by simp) h9; rw [(uq_one t.place).2] at a3; split at he
         · cases he
         · rename_i u2 hn
           have h3 := needP_len hn; split at he
           · cases he
           · rename_i b' u3 hb
             cases he; have h4 := hL.top _ _ _ hb; have h5 := cnt_root 12 t.place [b'] a1 a2; simp at h5 ⊢; omega
     · split at he
       · exact twoP_sz hL _ _ _ _ (by simp) he
       · split at he
         · exact twoP_sz hL _ _ _ _ (by simp) he
         · split at he
           · split at he
             · cases he
             · rename_i ks u1 hi
               cases he; have h1 := ifL_sz hL _ _ _ _ _ hi; simp at h1 ⊢; omega
           · exact orP_sz hL _ _ _ he
theorem listL_sz : ∀ (k : Nat) (ks : List T) (ts : List Tok) (ks' : List T) (us : List Tok), listL L k ks ts = .ok (ks', us) → cntK ks' + 2 * us.length ≤ cntK ks + 2 * ts.length ∧ us.length ≤ ts.length := by
 intro k; induction k with
 | zero => intro ks ts ks' us he; cases he; exact ⟨Nat.le_refl _, Nat.le_refl _⟩
 | succ k ih =>
   intro ks ts ks' us he; unfold listL at he; split at he
   · cases he; exact ⟨Nat.le_refl _, Nat.le_refl _⟩
   · split at he
     · cases he
     · rename_i a u1 ha
       have h1 := selP_sz hL _ _ _ ha; obtain ⟨h2, h3⟩ := ih _ _ _ _ he; rw [cntK_app] at h2; simp at h2; exact ⟨by omega, by omega⟩
end
theorem listL_stop2 {L : PF} : ∀ (k : Nat) (ks : List T) (ts : List Tok) (ks' : List T) (us : List Tok), listL L k ks ts = .ok (ks', us) → ts.length < k → Sz (selP L) → isP ⟨#[93]⟩ us = true := by
 intro k; induction k with
 | zero => intro ks ts ks' us he hk; omega
 | succ k ih =>
   intro ks ts ks' us he hk hz; unfold listL at he; split at he
   · cases he; assumption
   · split at he
     · cases he
     · rename_i a u1 ha
       have h1 := hz _ _ _ ha; exact ih _ _ _ _ he (by omega) hz
theorem listP_sz {L : PF} (hL : SzL L) : Sz2 (listP L) := by
 intro ts b us he h0; unfold listP at he; split at he
 · cases he
 · rename_i ks u1 hl
   cases he; obtain ⟨h1, h2⟩ := listL_sz hL _ _ _ _ _ hl; have h5 : ts.tail.length + 1 = ts.length := by cases ts <;> simp at h0 ⊢
   have h3 := isP_len (listL_stop2 _ _ _ _ _ hl (by omega) (selP_sz hL)); simp at h1 ⊢; omega
theorem mkP_sz {L : PF} (hL : SzL L) : SzL (mkP L) :=
 ⟨topP_sz hL, listP_sz hL, updP_sz hL, catP_sz hL, selP_sz hL,
  fun ts a us he h0 => by
   have h1 := notP_sz hL _ _ _ he; have h5 : ts.tail.length + 1 = ts.length := by cases ts <;> simp at h0 ⊢
   omega,
  fun ts a us he h0 => by
   have h1 := negP_sz hL _ _ _ he; have h5 : ts.tail.length + 1 = ts.length := by cases ts <;> simp at h0 ⊢
   omega⟩
theorem Lv_sz : ∀ n, SzL (Lv n)
 | 0 => ⟨fun ts a us h => (by cases h), fun ts a us h => (by cases h), fun ts a us h => (by cases h), fun ts a us h => (by cases h), fun ts a us h => (by cases h), fun ts a us h => (by cases h), fun ts a us h => (by cases h)⟩
 | n + 1 => mkP_sz (Lv_sz n)
end Go.Proofs.YtkoghgnjjfnamaaGreatDoor
