/- RitP, RitQ, OneP, RightP, PrP, SubP, PlainP, RepP, QuoP: what is used of them. -/
import Derived.Test.YtkoghgnjjfnamaaGreatDoorKa
import Derived.Shelf.GgClosure.StringsIndexFunc
set_option linter.unusedSectionVars false
set_option linter.unusedSimpArgs false
set_option linter.unusedVariables false
namespace Go.Proofs.YtkoghgnjjfnamaaGreatDoor
open Go.RowKit
structure RQ where
 nm : ByteArray → Prop
 pl : ByteArray → Prop
 fo : Nat → Prop
def sgAll : List ByteArray := [⟨#[124, 124]⟩, ⟨#[38, 38]⟩, ⟨#[61, 61]⟩, ⟨#[33, 61]⟩, ⟨#[60]⟩, ⟨#[60, 61]⟩, ⟨#[62]⟩, ⟨#[62, 61]⟩, ⟨#[47, 47]⟩, ⟨#[43]⟩, ⟨#[45]⟩, ⟨#[42]⟩, ⟨#[47]⟩, ⟨#[43, 43]⟩]
def sgB (b : ByteArray) : Prop := ∃ s ∈ sgAll, b.toList = s.toList
inductive OkN (Q : RQ) : Int → ByteArray → Int → Nat → List ByteArray → Nat → Prop
 | int {n : Int} : 0 ≤ n → OkN Q 1 ⟨#[]⟩ n 0 [] 0
 | flt {x : Nat} : Q.fo x → OkN Q 2 ⟨#[]⟩ 0 x [] 0
 | str {t : ByteArray} : Q.pl t → OkN Q 3 t 0 0 [] 0
 | nam {t : ByteArray} : Q.nm t → OkN Q 4 t 0 0 [] 0
 | list {m : Nat} : OkN Q 5 ⟨#[]⟩ 0 0 [] m
 | set {ns : List ByteArray} {m : Nat} : m = ns.length → OkN Q 6 ⟨#[]⟩ 0 0 ns m
 | recs {ns : List ByteArray} {m : Nat} : m = ns.length → OkN Q 7 ⟨#[]⟩ 0 0 ns m
 | sel {t : ByteArray} {m : Nat} : Q.pl t → m = 1 ∨ m = 2 → OkN Q 8 t 0 0 [] m
 | has {t : ByteArray} : Q.pl t → OkN Q 9 t 0 0 [] 1
 | call : OkN Q 10 ⟨#[]⟩ 0 0 [] 2
 | lam {t : ByteArray} : Q.nm t → OkN Q 11 t 0 0 [] 1
 | lets {ns : List ByteArray} {m : Nat} : m = ns.length + 1 → OkN Q 12 ⟨#[]⟩ 0 0 ns m
 | withs : OkN Q 13 ⟨#[]⟩ 0 0 [] 2
 | ite : OkN Q 14 ⟨#[]⟩ 0 0 [] 3
 | ass : OkN Q 15 ⟨#[]⟩ 0 0 [] 2
 | nots : OkN Q 16 ⟨#[]⟩ 0 0 [] 1
 | neg : OkN Q 17 ⟨#[]⟩ 0 0 [] 1
 | bin {t : ByteArray} : sgB t → OkN Q 18 t 0 0 [] 2
 | inh {t : ByteArray} : Q.nm t → OkN Q 19 t 0 0 [] 0
def NsOK (Q : RQ) (ns : List ByteArray) : Prop := (ns.map ByteArray.toList).Nodup ∧ ∀ s ∈ ns, Q.pl s
def InhOK (ns : List ByteArray) (ks : List T) : Prop := ∀ (i : Nat) (t : T), ks[i]? = some t → t.kind = 19 → ns[i]? = some t.text
mutual
def RTr (Q : RQ) : T → Prop
 | .mk k tx n x ns _ ks => OkN Q k tx n x ns ks.length ∧ NsOK Q ns ∧ InhOK ns ks ∧ RTK Q ks
def RTK (Q : RQ) : List T → Prop
 | [] => True
 | t :: ks => RTr Q t ∧ RTK Q ks
end
def EXr (Q : RQ) (a : T) : Prop := RTr Q a ∧ a.kind ≠ 19
def TokOK (Q : RQ) (t : Tok) : Prop := (nameT t = true → Q.nm t.text ∧ Q.pl t.text) ∧ (t.kind = 4 → Q.pl t.text) ∧ (t.kind = 2 → 0 ≤ t.num) ∧ (t.kind = 3 → Q.fo t.bits) ∧
 (t.kind ≠ 1 → t.kind ≠ 2 → t.kind ≠ 3 → t.kind ≠ 4 → begT t = true → (t.kind = 5 ∧ t.text.toList = (⟨#[91]⟩ : ByteArray).toList) ∨ t.text.toList = (⟨#[40]⟩ : ByteArray).toList ∨ t.text.toList = (⟨#[123]⟩ : ByteArray).toList)
def TQr (Q : RQ) (ts : List Tok) : Prop := ∀ t ∈ ts, TokOK Q t
section
variable {Q : RQ}
theorem rt_mk {k : Int} {tx : ByteArray} {n : Int} {x : Nat} {ns : List ByteArray} {p : Nat} {ks : List T} : RTr Q (.mk k tx n x ns p ks) ↔ OkN Q k tx n x ns ks.length ∧ NsOK Q ns ∧ InhOK ns ks ∧ RTK Q ks := by simp [RTr]
theorem rtK_all (ks : List T) : RTK Q ks ↔ ∀ t ∈ ks, RTr Q t := by
 induction ks with
 | nil => simp [RTK]
 | cons t ks ih => simp [RTK, ih]
theorem nsOK_nil : NsOK Q [] := ⟨List.nodup_nil, fun _ h => by cases h⟩
theorem ex_leaf {k : Int} {tx : ByteArray} {n : Int} {x : Nat} {p : Nat} {ks : List T} (ho : OkN Q k tx n x [] ks.length) (hk : k ≠ 19) (h : ∀ t ∈ ks, EXr Q t) : EXr Q (.mk k tx n x [] p ks) :=
 ⟨rt_mk.2 ⟨ho, nsOK_nil, fun _ t ht h19 => absurd h19 (h t (List.mem_of_getElem? ht)).2, (rtK_all ks).2 fun t ht => (h t ht).1⟩, hk⟩
theorem ex_one {k : Int} {tx : ByteArray} {n : Int} {x : Nat} {p : Nat} {a : T} (ho : OkN Q k tx n x [] 1) (hk : k ≠ 19) (h : EXr Q a) : EXr Q (.mk k tx n x [] p [a]) := ex_leaf ho hk (by simpa using h)
theorem ex_two {k : Int} {tx : ByteArray} {n : Int} {x : Nat} {p : Nat} {a b : T} (ho : OkN Q k tx n x [] 2) (hk : k ≠ 19) (h : EXr Q a) (h2 : EXr Q b) : EXr Q (.mk k tx n x [] p [a, b]) := ex_leaf ho hk (by simp; exact ⟨h, h2⟩)
theorem ex_nil {k : Int} {tx : ByteArray} {n : Int} {x : Nat} {p : Nat} (ho : OkN Q k tx n x [] 0) (hk : k ≠ 19) : EXr Q (.mk k tx n x [] p []) := ex_leaf ho hk (by simp)
theorem TQr.hd {t : Tok} {ts : List Tok} (h : TQr Q (t :: ts)) : TokOK Q t := h t (by simp)
theorem TQr.tl {t : Tok} {ts : List Tok} (h : TQr Q (t :: ts)) : TQr Q ts := fun x hx => h x (by simp [hx])
theorem TQr.tail {ts : List Tok} (h : TQr Q ts) : TQr Q ts.tail := fun x hx => h x (List.mem_of_mem_tail hx)
theorem TQr.attr {ts us : List Tok} {n : ByteArray} (h : TQr Q ts) (he : attrP ts = .ok (n, us)) : TQr Q us ∧ Q.pl n := by
 unfold attrP at he; split at he
 · split at he
   · rename_i t vs hc
     cases he; refine ⟨h.tl, ?_⟩; rw [Bool.or_eq_true, decide_eq_true_eq] at hc; rcases hc with hc | hc
     · exact (h.hd.1 hc).2
     · exact h.hd.2.1 hc
   · cases he
 · cases he
end
def PRr (Q : RQ) (f : List Tok → Res T) : Prop := ∀ ts a us, TQr Q ts → f ts = .ok (a, us) → EXr Q a ∧ TQr Q us
section
variable {Q : RQ} {above row : List Tok → Res T}
end
section
variable {Q : RQ}
end
structure RitL (Q : RQ) (L : PF) : Prop where
 top : PRr Q L.top
 list : PRr Q L.list
 upd : PRr Q L.upd
 cat : PRr Q L.cat
 sel : PRr Q L.sel
 notT : PRr Q L.notT
 negT : PRr Q L.negT
section
variable {Q : RQ} {L : PF} (hL : RitL Q L)
include hL
end
def plQ (b : ByteArray) : Prop := b.size ≤ 1024 ∧ ∀ c ∈ b.data.toList, ctlB c = false
def nmQ (b : ByteArray) : Prop := ∃ c l, b = ⟨(c :: l).toArray⟩ ∧ letterB c = true ∧ (∀ x ∈ l, moreB x = true) ∧ l.length < 1024 ∧ kwB b = false
theorem more_ctl (c : UInt8) : moreB c = true → ctlB c = false := by
 have := all256 (p := fun c => !(moreB c) || !(ctlB c)) (by decide +kernel) c; intro h; rw [h] at this; simpa using this
theorem letter_more (c : UInt8) (h : letterB c = true) : moreB c = true := by unfold moreB; rw [h]; rfl
theorem nm_pl {b : ByteArray} (h : nmQ b) : plQ b := by
 obtain ⟨c, l, rfl, h1, h2, h3, _⟩ := h; refine ⟨by show (c :: l).length ≤ 1024; simp; omega, fun x hx => more_ctl x ?_⟩; rcases List.mem_cons.1 (show x ∈ c :: l from hx) with rfl | hx
 · exact letter_more _ h1
 · exact h2 x hx
def QR (fo : Nat → Prop) : RQ := ⟨nmQ, plQ, fo⟩
theorem ext_list {s : ByteArray} {p e : Nat} : (s.extract p e).data.toList = (s.data.toList.drop p).take (e - p) := by
 rw [ByteArray.data_extract, Array.toList_extract]
 first | done | rw [List.extract_eq_drop_take]
theorem run_cons {pr : UInt8 → Bool} {s : ByteArray} {p : Nat} {c : UInt8} (hbt : bt s p = some c) (hc : pr c = true) : ∃ l, (s.extract p (runTo pr s p)).data.toList = c :: l ∧ (∀ x ∈ l, pr x = true) ∧ l.length + 1 = runTo pr s p - p := by
 have hlt := bt_lt hbt; have hgt := runTo_gt hbt hc; have hle := runTo_le pr s (Nat.le_of_lt hlt); have hb2 : s.data.toList[p]? = some c := hbt; have hsz : s.data.toList.length = s.size := Array.length_toList; obtain ⟨k, hk⟩ : ∃ k, runTo pr s p - p = k + 1 := ⟨runTo pr s p - p - 1, by omega⟩; refine ⟨(s.data.toList.drop (p + 1)).take k, ?_, fun x hx => ?_, ?_⟩
 · rw [ext_list, hk]
   obtain ⟨h1, h2⟩ := List.getElem?_eq_some_iff.1 hb2; rw [List.drop_eq_getElem_cons h1, h2, List.take_succ_cons]
 · obtain ⟨i, hi⟩ := List.mem_iff_getElem?.1 hx
   have hik : i < k := by
    have := (List.getElem?_eq_some_iff.1 hi).1; simp at this; omega
   rw [List.getElem?_take, if_pos hik, List.getElem?_drop] at hi; obtain ⟨c', h1, h2⟩ := run_mem (pr := pr) (s := s) (p := p) (i := p + 1 + i) (by omega) (by omega); have h3 : s.data.toList[p + 1 + i]? = some c' := h1; rw [hi] at h3; cases h3; exact h2
 · rw [List.length_take, List.length_drop, hsz]
   omega
theorem kw_ne {b s : ByteArray} (hb : kwB b = false) (hs : kwB s = true) : (b.toList == s.toList) = false := by
 cases h : b.toList == s.toList with
 | false => rfl
 | true =>
   have e : b.toList = s.toList := by simpa using h
   unfold kwB at hb hs; rw [e, hs] at hb; cases hb
theorem one_lex {pf : ByteArray → Nat} {b : ByteArray} (h : nmQ b) : Lx pf b 0 [⟨1, b, 0, 0, 0⟩, ⟨0, ⟨#[]⟩, 0, 0, b.size⟩] := by
 obtain ⟨c, l, rfl, h1, h2, h3, _⟩ := h; exact lx_name (r := []) (by simp) h1 h2 (fun x hx => by cases hx) h3 (lx_end (by show _ = (c :: l).length; simp))
theorem one_top {b : ByteArray} (h : nmQ b) (n p e : Nat) : (Lv (n + 1)).top [⟨1, b, 0, 0, p⟩, ⟨0, ⟨#[]⟩, 0, 0, e⟩] = .ok (nameN b p, [⟨0, ⟨#[]⟩, 0, 0, e⟩]) := by
 obtain ⟨c, l, hb, h1, _, _, hk⟩ := h; have hb1 : ∀ s : ByteArray, s.toList.head? ≠ some c → (b.toList == s.toList) = false := fun s hs => by
  rw [beq_eq_false_iff_ne]; intro e; apply hs
  rw [← e, hb, ByteArray.toList_eq]; rfl
 have hcl : ∀ d : UInt8, letterB d = false → d ≠ c := fun d hd e => by rw [e, h1] at hd; cases hd
 have hT : ∀ s : ByteArray, kwB s = true → isT s ⟨1, b, 0, 0, p⟩ = false := fun s hs => by unfold isT; rw [kw_ne hk hs]; rfl
 have hS : ∀ s : ByteArray, kwB s = false → isT s ⟨1, b, 0, 0, p⟩ = false := fun s hs => by unfold isT; rw [hs]; simp
 show topP (Lv n) [⟨1, b, 0, 0, p⟩, ⟨0, ⟨#[]⟩, 0, 0, e⟩] = _; unfold topP; simp only
 rw [hT ⟨#[108, 101, 116]⟩ (by kernel_rfl), hT ⟨#[119, 105, 116, 104]⟩ (by kernel_rfl), hT ⟨#[97, 115, 115, 101, 114, 116]⟩ (by kernel_rfl), hT ⟨#[105, 102]⟩ (by kernel_rfl)]; simp only [show colonP [⟨1, b, 0, 0, p⟩, ⟨0, ⟨#[]⟩, 0, 0, e⟩] = false from rfl, Bool.and_false, Bool.false_eq_true, if_false]; refine or_ok (inert_nx (inert_end e)) (atom_name ?_ (hS _ (by kernel_rfl)) (hb1 _ ?_) (hb1 _ ?_) (kw_ne hk (by kernel_rfl))) (hS _ (by kernel_rfl)) (hS _ (by kernel_rfl))
 · unfold begT
   simp [hk]
 · intro e
   rw [ByteArray.toList_eq] at e; exact hcl 40 (by decide) (Option.some.inj e)
 · intro e
   rw [ByteArray.toList_eq] at e; exact hcl 123 (by decide) (Option.some.inj e)
theorem one_name (pf : ByteArray → Nat) {b : ByteArray} (h : nmQ b) : lexP pf b = .ok [⟨1, b, 0, 0, 0⟩, ⟨0, ⟨#[]⟩, 0, 0, b.size⟩] ∧ parseP pf b = .ok [⟨4, b, 0, 0, [], [], 0⟩] := by
 have hz : b.size ≤ 4096 := Nat.le_trans (nm_pl h).1 (by omega); have hl := lexP_iff.2 ⟨hz, one_lex (pf := pf) h⟩; refine ⟨hl, ?_⟩; unfold parseP; rw [hl]; simp only
 rw [one_top h 31 0 b.size]; rfl
def plainF (s : ByteArray) : Bool := decide (s.size ≤ 1024) && s.data.toList.all fun c => !ctlB c
def signF (s : ByteArray) : Bool := sgAll.any fun t => s.toList == t.toList
def shapeOf (nm : ByteArray → Bool) (n : Nd) : Bool × Bool × Nat :=
 if n.kind = 1 ∨ n.kind = 2 then (n.kids.length == 0, n.text.toList.isEmpty, 0) else if n.kind = 3 then (n.kids.length == 0, plainF n.text, 0) else if n.kind = 4 ∨ n.kind = 19 then (n.kids.length == 0, nm n.text, 0) else if n.kind = 5 then (true, n.text.toList.isEmpty, 0) else if n.kind = 6 ∨ n.kind = 7 then (n.kids.length == n.names.length, n.text.toList.isEmpty, n.names.length) else if n.kind = 12 then (n.kids.length == n.names.length + 1, n.text.toList.isEmpty, n.names.length) else if n.kind = 8 then (n.kids.length == 1 || n.kids.length == 2, plainF n.text, 0) else if n.kind = 9 then (n.kids.length == 1, plainF n.text, 0) else if n.kind = 11 then (n.kids.length == 1, nm n.text, 0) else if n.kind = 16 ∨ n.kind = 17 then (n.kids.length == 1, n.text.toList.isEmpty, 0) else if n.kind = 10 ∨ n.kind = 13 ∨ n.kind = 15 then (n.kids.length == 2, n.text.toList.isEmpty, 0) else if n.kind = 18 then (n.kids.length == 2, signF n.text, 0) else if n.kind = 14 then (n.kids.length == 3, n.text.toList.isEmpty, 0) else (false, n.text.toList.isEmpty, 0)
def shapeF (nm : ByteArray → Bool) (fB : Nat → Bool) (n : Nd) : Bool :=
 if (n.kind ≠ 1 ∧ n.int ≠ 0) ∨ (n.kind ≠ 2 ∧ n.flt ≠ 0) ∨ n.names.length ≠ (shapeOf nm n).2.2 then false else (shapeOf nm n).1 && (shapeOf nm n).2.1 && decide (0 ≤ n.int) && fB n.flt
def namesF : List ByteArray → List ByteArray → Bool
 | _, [] => true
 | seen, s :: ns => if seen.any (fun t => t.toList == s.toList) || !plainF s then false else namesF (seen ++ [s]) ns
def kidsF (f : List Nd) (begs : List Nat) (names : List ByteArray) : List Nat → Nat → Option Nat
 | [], b => some b
 | kid :: rest, b =>
   if b = 0 ∨ kid ≠ b - 1 then none else match f[kid]? with
    | none => none
    | some x => if x.kind = 19 ∧ ((names[rest.length]?.map fun s => s.toList == x.text.toList) ≠ some true) then none else kidsF f begs names rest (begs.getD kid 0)
theorem plain_ok {b : ByteArray} (h : plQ b) : plainF b = true := by
 unfold plainF; rw [decide_eq_true h.1, Bool.true_and, List.all_eq_true]; intro c hc; rw [h.2 c hc]; rfl
theorem sign_ok {b : ByteArray} (h : sgB b) : signF b = true := by
 obtain ⟨s, h1, h2⟩ := h; unfold signF; rw [List.any_eq_true]; exact ⟨s, h1, by rw [h2]; simp⟩
theorem shape_ok {fo : Nat → Prop} {nm : ByteArray → Bool} {fB : Nat → Bool} (hnm : ∀ b, nmQ b → nm b = true) (hfo : ∀ x, fo x → fB x = true) (hf0 : fB 0 = true) {k : Int} {tx : ByteArray} {n : Int} {x : Nat} {ns : List ByteArray} {ks : List Nat} {p : Nat}
 (h : OkN (QR fo) k tx n x ns ks.length) : shapeF nm fB ⟨k, tx, n, x, ns, ks, p⟩ = true := by
 have he : (⟨#[]⟩ : ByteArray).toList.isEmpty = true := by rw [ByteArray.toList_eq]; rfl
 generalize hm : ks.length = m at h; cases h with
 | int h => simp [shapeF, shapeOf, hm, he, hf0, h]
 | flt h => simp [shapeF, shapeOf, hm, he, hfo _ h]
 | str h => simp [shapeF, shapeOf, hm, hf0, plain_ok h]
 | nam h => simp [shapeF, shapeOf, hm, hf0, hnm _ h]
 | list => simp [shapeF, shapeOf, hm, he, hf0]
 | set h => simp [shapeF, shapeOf, hm, he, hf0, h]
 | recs h => simp [shapeF, shapeOf, hm, he, hf0, h]
 | sel h h2 => rcases h2 with rfl | rfl <;> simp [shapeF, shapeOf, hm, hf0, plain_ok h]
 | has h => simp [shapeF, shapeOf, hm, hf0, plain_ok h]
 | call => simp [shapeF, shapeOf, hm, he, hf0]
 | lam h => simp [shapeF, shapeOf, hm, hf0, hnm _ h]
 | lets h => simp [shapeF, shapeOf, hm, he, hf0, h]
 | withs => simp [shapeF, shapeOf, hm, he, hf0]
 | ite => simp [shapeF, shapeOf, hm, he, hf0]
 | ass => simp [shapeF, shapeOf, hm, he, hf0]
 | nots => simp [shapeF, shapeOf, hm, he, hf0]
 | neg => simp [shapeF, shapeOf, hm, he, hf0]
 | bin h => simp [shapeF, shapeOf, hm, hf0, sign_ok h]
 | inh h => simp [shapeF, shapeOf, hm, hf0, hnm _ h]
theorem names_ok {Q : RQ} (hpl : ∀ b, Q.pl b → plainF b = true) : ∀ (ns seen : List ByteArray), NsOK Q (seen ++ ns) → namesF seen ns = true
 | [], _, _ => rfl
 | s :: ns, seen, h => by
   unfold namesF; have h1 : seen.any (fun t => t.toList == s.toList) = false := by
    rw [List.any_eq_false]; intro t ht e; have e2 : t.toList = s.toList := by simpa using e
    have hn := h.1; rw [List.map_append, List.nodup_append] at hn; exact hn.2.2 _ (List.mem_map_of_mem ht) _ (List.mem_map_of_mem (List.mem_cons_self)) e2
   rw [h1, hpl s (h.2 s (by simp))]; simp only [Bool.not_true, Bool.or_false, Bool.false_eq_true, if_false]; exact names_ok hpl ns (seen ++ [s]) (by rw [List.append_assoc]; exact h)
theorem nodesK_snoc : ∀ (ks : List T) (t : T) (b : Nat) (is : List Nat), nodesK (ks ++ [t]) b is = ((nodesK ks b is).1 ++ nodes t (b + (nodesK ks b is).1.length), (nodesK ks b is).2 ++ [b + (nodesK ks b is).1.length + (nodes t (b + (nodesK ks b is).1.length)).length - 1])
 | [], t, b, is => by simp [nodesK_nil, nodesK_cons]
 | a :: ks, t, b, is => by
   rw [List.cons_append, nodesK_cons, nodesK_cons]; simp only
   rw [nodesK_snoc ks t]; simp only [List.length_append]; rw [show b + (nodes a b).length + (nodesK ks (b + (nodes a b).length) (is ++ [b + (nodes a b).length - 1])).1.length = b + ((nodes a b).length + (nodesK ks (b + (nodes a b).length) (is ++ [b + (nodes a b).length - 1])).1.length) by omega]; simp
mutual
def begT' : T → Nat → List Nat
 | .mk _ _ _ _ _ _ ks, b => begK ks b ++ [b]
def begK : List T → Nat → List Nat
 | [], _ => []
 | t :: ks, b => begT' t b ++ begK ks (b + (nodes t b).length)
end
theorem begT_mk (k : Int) (tx : ByteArray) (n : Int) (x : Nat) (ns : List ByteArray) (p : Nat) (ks : List T) (b : Nat) : begT' (.mk k tx n x ns p ks) b = begK ks b ++ [b] := by simp [begT']
theorem begK_cons (t : T) (ks : List T) (b : Nat) : begK (t :: ks) b = begT' t b ++ begK ks (b + (nodes t b).length) := by simp [begK]
theorem root_of (t : T) (b : Nat) : ∃ l x, nodes t b = l ++ [x] ∧ x.kind = t.kind ∧ x.text = t.text := by
 cases t with
 | mk k tx n x ns p ks => exact ⟨_, _, nodes_mk _ _ _ _ _ _ _ _, rfl, rfl⟩
theorem kids_ok {f : List Nd} {begs : List Nat} {names : List ByteArray} {b : Nat} : ∀ (n : Nat) (ks : List T), ks.length = n → InhOK names ks →
 (∀ (l r : List T) (t : T), ks = l ++ t :: r → (∀ x, (nodes t (b + (nodesK l b []).1.length)).getLast? = some x → f[b + (nodesK l b []).1.length + (nodes t (b + (nodesK l b []).1.length)).length - 1]? = some x) ∧ begs.getD (b + (nodesK l b []).1.length + (nodes t (b + (nodesK l b []).1.length)).length - 1) 0 = b + (nodesK l b []).1.length) →
 kidsF f begs names (nodesK ks b []).2.reverse (b + (nodesK ks b []).1.length) = some b := by
 intro n; induction n with
 | zero =>
   intro ks hn _ _; obtain rfl := List.eq_nil_of_length_eq_zero hn; simp [nodesK_nil, kidsF]
 | succ n ih =>
   intro ks hn hi hf; obtain ⟨l, t, rfl⟩ : ∃ l t, ks = l ++ [t] := ⟨ks.dropLast, ks.getLast (by intro e; rw [e] at hn; cases hn), (List.dropLast_concat_getLast _).symm⟩; have hln : l.length = n := by simp at hn; exact hn
   obtain ⟨h1, h2⟩ := hf l [] t rfl; obtain ⟨l0, x, hx, hk, htx⟩ := root_of t (b + (nodesK l b []).1.length); have h1 := h1 x (by rw [hx]; simp); have hlen : 0 < (nodes t (b + (nodesK l b []).1.length)).length := by rw [hx]; simp
   rw [nodesK_snoc]; simp only [List.reverse_append, List.reverse_cons, List.reverse_nil, List.nil_append, List.cons_append, List.length_append]; have hkl : (nodesK l b []).2.reverse.length = l.length := by rw [List.length_reverse, nodesK_klen]; simp
   unfold kidsF; rw [if_neg (by
    rintro (h | h)
    · omega
    · apply h; omega), h1]
   simp only
   rw [if_neg (by
    rintro ⟨h19, hne⟩; apply hne
    rw [hkl]
    have := hi l.length t (by simp) (by rw [← hk]; exact h19); rw [this, htx]
    simp), h2]
   exact ih l hln (fun i t' ht' h19 => hi i t' (by
    have hlt := (List.getElem?_eq_some_iff.1 ht').1; rw [List.getElem?_append_left hlt]; exact ht') h19) (fun l' r' t' e => hf l' (r' ++ [t]) t' (by rw [e]; simp))
mutual
theorem begT_len : ∀ (t : T) (b : Nat), (begT' t b).length = (nodes t b).length
 | .mk k tx n x ns p ks, b => by rw [begT_mk, nodes_mk, List.length_append, List.length_append, begK_len ks b []]; rfl
theorem begK_len : ∀ (ks : List T) (b : Nat) (is : List Nat), (begK ks b).length = (nodesK ks b is).1.length
 | [], b, is => by simp [begK, nodesK_nil]
 | t :: ks, b, is => by
   rw [begK_cons, nodesK_cons]; simp only [List.length_append]; rw [begT_len t b, begK_len ks]
end
theorem begT_last (t : T) (b : Nat) : ∃ l, begT' t b = l ++ [b] := by
 cases t with
 | mk k tx n x ns p ks => exact ⟨_, begT_mk _ _ _ _ _ _ _ _⟩
theorem begK_app : ∀ (l r : List T) (b : Nat), begK (l ++ r) b = begK l b ++ begK r (b + (nodesK l b []).1.length)
 | [], r, b => by simp [begK, nodesK_nil]
 | t :: l, r, b => by
   rw [List.cons_append, begK_cons, begK_cons, begK_app l r, nodesK_cons]; simp only [List.length_append, List.append_assoc]; rw [nodesK_len l _ (_ ++ _), ← nodesK_len l (b + (nodes t b).length) [], Nat.add_assoc]
theorem nodesK_fst : ∀ (ks : List T) (b : Nat) (is js : List Nat), (nodesK ks b is).1 = (nodesK ks b js).1
 | [], b, is, js => by simp [nodesK_nil]
 | t :: ks, b, is, js => by
   rw [nodesK_cons, nodesK_cons]; simp only
   rw [nodesK_fst ks _ _ (js ++ [b + (nodes t b).length - 1])]
theorem nodesK_app1 : ∀ (l r : List T) (b : Nat) (is js : List Nat), (nodesK (l ++ r) b is).1 = (nodesK l b is).1 ++ (nodesK r (b + (nodesK l b []).1.length) js).1
 | [], r, b, is, js => by
   simp only [List.nil_append, nodesK_nil, List.length_nil, Nat.add_zero]; exact nodesK_fst r b is js
 | t :: l, r, b, is, js => by
   rw [List.cons_append, nodesK_cons, nodesK_cons, nodesK_cons]; simp only [List.length_append, List.append_assoc]; rw [nodesK_app1 l r _ _ js, nodesK_len l _ ([] ++ _), ← nodesK_len l (b + (nodes t b).length) [], Nat.add_assoc]
def NodeOK (nm : ByteArray → Bool) (fB : Nat → Bool) (f : List Nd) (begs : List Nat) (x : Nd) (i : Nat) : Prop := shapeF nm fB x = true ∧ namesF [] x.names = true ∧ kidsF f begs x.names x.kids.reverse i = some (begs.getD i 0)
theorem get_mid {α : Type} (a b c : List α) {i : Nat} (hi : i < b.length) : (a ++ b ++ c)[a.length + i]? = b[i]? := by
 rw [List.append_assoc, List.getElem?_append_right (by omega), Nat.add_sub_cancel_left, List.getElem?_append_left hi]
section
variable {fo : Nat → Prop} {nm : ByteArray → Bool} {fB : Nat → Bool} (hnm : ∀ b, nmQ b → nm b = true) (hfo : ∀ x, fo x → fB x = true) (hf0 : fB 0 = true)
include hnm hfo hf0
mutual
theorem nodes_right : ∀ (t : T) (pre suf : List Nd) (bp bs : List Nat), bp.length = pre.length → RTr (QR fo) t → ∀ (j : Nat) (x : Nd), (nodes t pre.length)[j]? = some x → NodeOK nm fB (pre ++ nodes t pre.length ++ suf) (bp ++ begT' t pre.length ++ bs) x (pre.length + j)
 | .mk k tx n x0 ns p ks, pre, suf, bp, bs, hb, h, j, x, hj => by
   obtain ⟨h1, h2, h3, h4⟩ := rt_mk.1 h; rw [nodes_mk] at hj ⊢; rw [begT_mk]; have hkl : (nodesK ks pre.length []).2.length = ks.length := by rw [nodesK_klen]; simp
   by_cases hlt : j < (nodesK ks pre.length []).1.length
   · rw [List.getElem?_append_left hlt] at hj
     have := nodesK_right ks pre ([⟨k, tx, n, x0, ns, (nodesK ks pre.length []).2, p⟩] ++ suf) bp ([pre.length] ++ bs) hb h4 j x hj; simpa only [List.append_assoc] using this
   · have hlt2 := (List.getElem?_eq_some_iff.1 hj).1
     simp only [List.length_append, List.length_cons, List.length_nil] at hlt2; obtain rfl : j = (nodesK ks pre.length []).1.length := by omega
     rw [List.getElem?_append_right (Nat.le_refl _), Nat.sub_self] at hj; simp only [List.getElem?_cons_zero, Option.some.injEq] at hj; subst hj; have hbl := begK_len ks pre.length []; refine ⟨shape_ok hnm hfo hf0 (by rw [hkl]; exact h1), names_ok (fun b hb => plain_ok hb) ns [] h2, ?_⟩; have hlast : (bp ++ (begK ks pre.length ++ [pre.length]) ++ bs).getD (pre.length + (nodesK ks pre.length []).1.length) 0 = pre.length := by
      rw [List.getD_eq_getElem?_getD, show pre.length + (nodesK ks pre.length []).1.length = bp.length + (begK ks pre.length).length by omega, get_mid _ _ _ (by simp), List.getElem?_append_right (Nat.le_refl _), Nat.sub_self]; rfl
     rw [hlast]; refine kids_ok ks.length ks rfl h3 fun l r t' e => ?_
     subst e; have hK : (nodesK (l ++ t' :: r) pre.length []).1 = (nodesK l pre.length []).1 ++ (nodes t' (pre.length + (nodesK l pre.length []).1.length) ++ (nodesK r (pre.length + (nodesK l pre.length []).1.length + (nodes t' (pre.length + (nodesK l pre.length []).1.length)).length) []).1) := by
      rw [nodesK_app1 l (t' :: r) _ _ [], nodesK_cons]; simp only
      rw [nodesK_fst r _ _ []]
     have hB : begK (l ++ t' :: r) pre.length = begK l pre.length ++ (begT' t' (pre.length + (nodesK l pre.length []).1.length) ++ begK r (pre.length + (nodesK l pre.length []).1.length + (nodes t' (pre.length + (nodesK l pre.length []).1.length)).length)) := by
      rw [begK_app, begK_cons]
     have hBl := begK_len l pre.length []; obtain ⟨l0, x, hx, _, _⟩ := root_of t' (pre.length + (nodesK l pre.length []).1.length); obtain ⟨b0, hb0⟩ := begT_last t' (pre.length + (nodesK l pre.length []).1.length); have hb0l := begT_len t' (pre.length + (nodesK l pre.length []).1.length); rw [hb0, hx] at hb0l; simp only [List.length_append, List.length_cons, List.length_nil] at hb0l; refine ⟨fun y hy => ?_, ?_⟩
     · rw [hx] at hy
       simp at hy; subst hy; rw [hK, hx]; simp only [List.length_append, List.length_cons, List.length_nil]; rw [show pre.length + (nodesK l pre.length []).1.length + (l0.length + (0 + 1)) - 1 = pre.length + ((nodesK l pre.length []).1.length + l0.length) by omega, get_mid _ _ _ (by simp <;> omega), List.append_assoc, List.getElem?_append_right (by omega), Nat.add_sub_cancel_left]; simp
     · rw [hB, hb0, hx]
       simp only [List.length_append, List.length_cons, List.length_nil]; rw [show pre.length + (nodesK l pre.length []).1.length + (l0.length + (0 + 1)) - 1 = bp.length + ((begK l pre.length).length + b0.length) by omega, List.getD_eq_getElem?_getD, get_mid _ _ _ (by simp <;> omega), List.append_assoc, List.getElem?_append_right (by omega), Nat.add_sub_cancel_left]; simp
theorem nodesK_right : ∀ (ks : List T) (pre suf : List Nd) (bp bs : List Nat), bp.length = pre.length → RTK (QR fo) ks → ∀ (j : Nat) (x : Nd), (nodesK ks pre.length []).1[j]? = some x → NodeOK nm fB (pre ++ (nodesK ks pre.length []).1 ++ suf) (bp ++ begK ks pre.length ++ bs) x (pre.length + j)
 | [], pre, suf, bp, bs, _, _, j, x, hj => by simp [nodesK_nil] at hj
 | t :: ks, pre, suf, bp, bs, hb, h, j, x, hj => by
   have h' : RTr (QR fo) t ∧ RTK (QR fo) ks := by simpa [RTK] using h
   rw [nodesK_cons] at hj ⊢; rw [begK_cons]; simp only at hj ⊢; rw [nodesK_fst ks _ _ []] at hj ⊢; by_cases hlt : j < (nodes t pre.length).length
   · rw [List.getElem?_append_left hlt] at hj
     have := nodes_right t pre ((nodesK ks (pre.length + (nodes t pre.length).length) []).1 ++ suf) bp (begK ks (pre.length + (nodes t pre.length).length) ++ bs) hb h'.1 j x hj; simpa only [List.append_assoc] using this
   · rw [List.getElem?_append_right (by omega)] at hj
     have hl2 : (pre ++ nodes t pre.length).length = pre.length + (nodes t pre.length).length := List.length_append
     have := nodesK_right ks (pre ++ nodes t pre.length) suf (bp ++ begT' t pre.length) bs (by rw [List.length_append, hl2, begT_len, hb]) h'.2 (j - (nodes t pre.length).length) x (by rw [hl2]; exact hj); rw [hl2, show pre.length + (nodes t pre.length).length + (j - (nodes t pre.length).length) = pre.length + j by omega] at this; simpa only [List.append_assoc] using this
end
theorem right_ex {t : T} (h : EXr (QR fo) t) (j : Nat) (x : Nd) (hj : (nodes t 0)[j]? = some x) : NodeOK nm fB (nodes t 0) (begT' t 0) x j := by
 have := nodes_right hnm hfo hf0 t [] [] [] [] rfl h.1 j x hj; simpa using this
end
structure PK where
 tx : List UInt8
 row : Nat
 kind : Int
 nk : Nat
 own : ByteArray
def sgRow (s : ByteArray) : Nat × Nat × Nat :=
 if s.toList == (⟨#[124, 124]⟩ : ByteArray).toList then (1, 1, 2) else if s.toList == (⟨#[38, 38]⟩ : ByteArray).toList then (2, 2, 3) else if s.toList == (⟨#[61, 61]⟩ : ByteArray).toList || s.toList == (⟨#[33, 61]⟩ : ByteArray).toList then (3, 4, 4) else if s.toList == (⟨#[60]⟩ : ByteArray).toList || s.toList == (⟨#[60, 61]⟩ : ByteArray).toList || s.toList == (⟨#[62]⟩ : ByteArray).toList || s.toList == (⟨#[62, 61]⟩ : ByteArray).toList then (4, 5, 5) else if s.toList == (⟨#[47, 47]⟩ : ByteArray).toList then (5, 6, 5) else if s.toList == (⟨#[43]⟩ : ByteArray).toList || s.toList == (⟨#[45]⟩ : ByteArray).toList then (7, 7, 8) else if s.toList == (⟨#[42]⟩ : ByteArray).toList || s.toList == (⟨#[47]⟩ : ByteArray).toList then (8, 8, 9) else if s.toList == (⟨#[43, 43]⟩ : ByteArray).toList then (9, 10, 9) else (0, 0, 0)
def rowN (kind : Int) (tx : ByteArray) : Nat :=
 if kind = 11 ∨ kind = 12 ∨ kind = 13 ∨ kind = 14 ∨ kind = 15 then 0 else if kind = 16 then 6 else if kind = 17 then 10 else if kind = 9 then 11 else if kind = 10 then 12 else if kind = 8 then 13 else if kind = 18 then (sgRow tx).1 else 14
def partP (k : PK) (r : Nat) : List UInt8 := if k.row < r then 40 :: (k.tx ++ [41]) else k.tx
def strU (s : ByteArray) : List UInt8 := s.data.toList
def bindsW (attr : ByteArray → List UInt8) : List ByteArray → List PK → List UInt8
 | s :: ns, k :: ks => (if k.kind = 19 then [105, 110, 104, 101, 114, 105, 116, 32] ++ strU s ++ [59, 32] else attr s ++ [32, 61, 32] ++ partP k 0 ++ [59, 32]) ++ bindsW attr ns ks
 | _, _ => []
def asmP (attr quoted : ByteArray → List UInt8) (ints : Int → List UInt8) (flts : Nat → List UInt8) (kind : Int) (tx : ByteArray) (n : Int) (x : Nat) (ns : List ByteArray) (ks : List PK) : List UInt8 :=
 let at' := fun (k r : Nat) => match ks[k]? with | some p => partP p r | none => []
 if kind = 1 then ints n else if kind = 2 then flts x else if kind = 3 then quoted tx else if kind = 4 then strU tx else if kind = 5 then 91 :: (ks.flatMap fun p => 32 :: partP p 13) ++ [32, 93] else if kind = 6 then [123, 32] ++ bindsW attr ns ks ++ [125] else if kind = 7 then [114, 101, 99, 32, 123, 32] ++ bindsW attr ns ks ++ [125] else if kind = 12 then [108, 101, 116, 32] ++ bindsW attr ns ks ++ [105, 110, 32] ++ at' ns.length 0 else if kind = 8 then at' 0 (match ks[0]? with | some p => if p.kind = 8 ∧ p.nk = 2 then 14 else 13 | none => 13) ++ [46] ++ attr tx ++ (if ks.length = 2 then [32, 111, 114, 32] ++ at' 1 13 else []) else if kind = 9 then at' 0 12 ++ [32, 63, 32] ++ attr tx else if kind = 10 then at' 0 12 ++ [32] ++ at' 1 13 else if kind = 11 then strU tx ++ [58, 32] ++ at' 0 0 else if kind = 13 then [119, 105, 116, 104, 32] ++ at' 0 0 ++ [59, 32] ++ at' 1 0 else if kind = 15 then [97, 115, 115, 101, 114, 116, 32] ++ at' 0 0 ++ [59, 32] ++ at' 1 0 else if kind = 14 then [105, 102, 32] ++ at' 0 0 ++ [32, 116, 104, 101, 110, 32] ++ at' 1 0 ++ [32, 101, 108, 115, 101, 32] ++ at' 2 0 else if kind = 16 then 33 :: at' 0 6 else if kind = 17 then 45 :: at' 0 10 else if kind = 18 then at' 0 (sgRow tx).2.1 ++ [32] ++ strU tx ++ [32] ++ at' 1 (sgRow tx).2.2 else []
section
variable (attr quoted : ByteArray → List UInt8) (ints : Int → List UInt8) (flts : Nat → List UInt8)
mutual
def prT : T → List UInt8
 | .mk k tx n x ns _ ks => asmP attr quoted ints flts k tx n x ns (prK ks)
def prK : List T → List PK
 | [] => []
 | t :: ks => ⟨prT t, rowN t.kind t.text, t.kind, t.kids.length, t.text⟩ :: prK ks
end
end
mutual
def SubT (l : List Nd) : T → Nat → Prop
 | .mk k tx n x ns p ks, i => ∃ is, l[i]? = some ⟨k, tx, n, x, ns, is, p⟩ ∧ SubK l ks is
def SubK (l : List Nd) : List T → List Nat → Prop
 | [], is => is = []
 | t :: ks, is => ∃ i js, is = i :: js ∧ SubT l t i ∧ SubK l ks js
end
theorem subT_mk {l : List Nd} {k : Int} {tx : ByteArray} {n : Int} {x : Nat} {ns : List ByteArray} {p : Nat} {ks : List T} {i : Nat} : SubT l (.mk k tx n x ns p ks) i ↔ ∃ is, l[i]? = some ⟨k, tx, n, x, ns, is, p⟩ ∧ SubK l ks is := by simp [SubT]
theorem subK_nil {l : List Nd} {is : List Nat} : SubK l [] is ↔ is = [] := by simp [SubK]
theorem subK_cons {l : List Nd} {t : T} {ks : List T} {is : List Nat} : SubK l (t :: ks) is ↔ ∃ i js, is = i :: js ∧ SubT l t i ∧ SubK l ks js := by simp [SubK]
theorem nodesK_snd : ∀ (ks : List T) (b : Nat) (is : List Nat), (nodesK ks b is).2 = is ++ (nodesK ks b []).2
 | [], b, is => by simp [nodesK_nil]
 | t :: ks, b, is => by
   rw [nodesK_cons, nodesK_cons]; simp only [List.nil_append]; rw [nodesK_snd ks _ (is ++ [_]), nodesK_snd ks _ [_]]; simp
mutual
theorem nodes_subT : ∀ (t : T) (pre suf : List Nd), SubT (pre ++ nodes t pre.length ++ suf) t (pre.length + (nodes t pre.length).length - 1)
 | .mk k tx n x ns p ks, pre, suf => by
   rw [nodes_mk, subT_mk]; refine ⟨(nodesK ks pre.length []).2, ?_, ?_⟩
   · rw [List.length_append, List.length_cons, List.length_nil, show pre.length + ((nodesK ks pre.length []).1.length + (0 + 1)) - 1 = pre.length + (nodesK ks pre.length []).1.length by omega, get_mid _ _ _ (by simp), List.getElem?_append_right (Nat.le_refl _), Nat.sub_self]
     rfl
   · have := nodes_subK ks pre ([⟨k, tx, n, x, ns, (nodesK ks pre.length []).2, p⟩] ++ suf)
     simpa only [List.append_assoc] using this
theorem nodes_subK : ∀ (ks : List T) (pre suf : List Nd), SubK (pre ++ (nodesK ks pre.length []).1 ++ suf) ks (nodesK ks pre.length []).2
 | [], pre, suf => by rw [subK_nil]; simp [nodesK_nil]
 | t :: ks, pre, suf => by
   rw [nodesK_cons, subK_cons]; simp only [List.nil_append]; refine ⟨pre.length + (nodes t pre.length).length - 1, (nodesK ks (pre.length + (nodes t pre.length).length) []).2, ?_, ?_, ?_⟩
   · rw [nodesK_snd ks _ [_]]; rfl
   · have := nodes_subT t pre ((nodesK ks (pre.length + (nodes t pre.length).length) [pre.length + (nodes t pre.length).length - 1]).1 ++ suf)
     simpa only [List.append_assoc] using this
   · have h2 : (pre ++ nodes t pre.length).length = pre.length + (nodes t pre.length).length := List.length_append
     have := nodes_subK ks (pre ++ nodes t pre.length) suf; rw [h2] at this; rw [nodesK_fst ks _ _ []]; simpa only [List.append_assoc] using this
end
theorem nodes_sub (t : T) : SubT (nodes t 0) t ((nodes t 0).length - 1) := by
 have := nodes_subT t [] []; simpa using this
def ctlR (r : Nat) : Bool := ((decide (r < 32) && !decide (r = 9)) && !decide (r = 10)) || decide (r = 127)
theorem ctl_rune (c : UInt8) : ctlR c.toNat = ctlB c := by
 have : ∀ n : Fin 256, ctlR n.val = ctlB (UInt8.ofNat n.val) := by decide +kernel
 have h := this ⟨c.toNat, c.toNat_lt⟩; rw [h]; congr 1
 exact UInt8.ofNat_toNat
theorem ctl_high (r : Nat) (h : 128 ≤ r) : ctlR r = false := by
 unfold ctlR; simp
 omega
theorem get_at {s : ByteArray} {i : Nat} (h : i < s.size) : s.get! i = s.data.toList[i]'(by simpa using h) := by
 show s.data[i]! = _; rw [getElem!_pos s.data i h]; simp
theorem dec_high (s : ByteArray) (i : Nat) (hi : i < s.size) (hb : 128 ≤ (s.get! i).toNat) : 128 ≤ (Utf8.decode s i).1 ∧ 1 ≤ (Utf8.decode s i).2 ∧ ∀ k, k < (Utf8.decode s i).2 → i + k < s.size ∧ 128 ≤ (s.get! (i + k)).toNat := by
 have one : ∀ r : Nat, 128 ≤ r → (128 ≤ (r, 1).1 ∧ 1 ≤ (r, 1).2 ∧ ∀ k, k < (r, 1).2 → i + k < s.size ∧ 128 ≤ (s.get! (i + k)).toNat) := fun r hr => ⟨hr, Nat.le_refl _, fun k hk => by
  obtain rfl : k = 0 := by
   have : k < 1 := hk; omega
  exact ⟨hi, hb⟩⟩
 have hE : 128 ≤ Utf8.runeError := by decide
 unfold Utf8.decode; simp only [Nat.add_zero]; rw [if_neg (by omega)]; split
 · rename_i h
   simp only [Bool.and_eq_true, beq_iff_eq, decide_eq_true_eq] at h; split
   · rename_i h2
     refine ⟨h2, (by show 1 ≤ 2; decide), fun k hk => ?_⟩; have hk : k < 2 := hk; rcases (by omega : k = 0 ∨ k = 1) with rfl | rfl
     · exact ⟨hi, hb⟩
     · exact ⟨h.2.1, by omega⟩
   · exact one _ hE
 · split
   · rename_i h
     simp only [Bool.and_eq_true, beq_iff_eq, decide_eq_true_eq] at h; split
     · rename_i h2
       simp only [Bool.and_eq_true, decide_eq_true_eq] at h2; refine ⟨by have := h2.1; show 128 ≤ _; omega, (by show 1 ≤ 3; decide), fun k hk => ?_⟩; have hk : k < 3 := hk; rcases (by omega : k = 0 ∨ k = 1 ∨ k = 2) with rfl | rfl | rfl
       · exact ⟨hi, hb⟩
       · exact ⟨h.1.2.1, by omega⟩
       · exact ⟨h.2.1, by omega⟩
     · exact one _ hE
   · split
     · rename_i h
       simp only [Bool.and_eq_true, beq_iff_eq, decide_eq_true_eq] at h; split
       · rename_i h2
         simp only [Bool.and_eq_true, decide_eq_true_eq] at h2; refine ⟨by have := h2.1; show 128 ≤ _; omega, (by show 1 ≤ 4; decide), fun k hk => ?_⟩; have hk : k < 4 := hk; rcases (by omega : k = 0 ∨ k = 1 ∨ k = 2 ∨ k = 3) with rfl | rfl | rfl | rfl
         · exact ⟨hi, hb⟩
         · exact ⟨h.1.1.2.1, by omega⟩
         · exact ⟨h.1.2.1, by omega⟩
         · exact ⟨h.2.1, by omega⟩
       · exact one _ hE
     · exact one _ hE
theorem drop_consB {s : ByteArray} {i : Nat} (hi : i < s.size) : s.data.toList.drop i = s.get! i :: s.data.toList.drop (i + 1) := by
 rw [get_at hi]; exact List.drop_eq_getElem_cons (by simpa using hi)
theorem drop_high (s : ByteArray) : ∀ (n i : Nat), (∀ k, k < n → i + k < s.size ∧ 128 ≤ (s.get! (i + k)).toNat) → (s.data.toList.drop i).any ctlB = (s.data.toList.drop (i + n)).any ctlB
 | 0, i, _ => rfl
 | n + 1, i, h => by
   obtain ⟨h1, h2⟩ := h 0 (by omega); rw [Nat.add_zero] at h1 h2; rw [drop_consB h1, List.any_cons, ← ctl_rune, ctl_high _ h2, Bool.false_or, drop_high s n (i + 1) (fun k hk => by
    have := h (k + 1) (by omega); rwa [show i + (k + 1) = i + 1 + k by omega] at this)]
   rw [show i + 1 + n = i + (n + 1) by omega]
theorem idx_ctl (s : ByteArray) : ∀ (f pos : Nat), s.size ≤ pos + f → decide (0 ≤ Lib.idxFuncFrom ctlR true s f pos) = (s.data.toList.drop pos).any ctlB
 | 0, pos, h => by
   rw [List.drop_eq_nil_of_le (by simpa using h)]; rfl
 | f + 1, pos, h => by
   unfold Lib.idxFuncFrom; by_cases hp : pos < s.size
   · rw [if_pos hp]
     by_cases hb : (s.get! pos).toNat < 128
     · have hd : Utf8.decode s pos = ((s.get! pos).toNat, 1) := by
        unfold Utf8.decode; simp only [Nat.add_zero]; rw [if_pos (by omega)]
       rw [hd, drop_consB hp, List.any_cons, ← ctl_rune]; simp only
       cases hc : ctlR (s.get! pos).toNat with
       | true => simp
       | false =>
         simp only [Bool.false_eq_true, if_false, Bool.false_or]; exact idx_ctl s f (pos + 1) (by omega)
     · obtain ⟨h1, h2, h3⟩ := dec_high s pos hp (by omega)
       rw [ctl_high _ h1]; simp only [Bool.false_eq_true, if_false]; rw [idx_ctl s f _ (by omega), drop_high s _ pos h3]
   · rw [if_neg hp, List.drop_eq_nil_of_le (by simpa using Nat.le_of_not_lt hp)]
     rfl
theorem plain_is (s : ByteArray) : plainF s = (decide (s.size ≤ 1024) && !decide (0 ≤ Lib.idxFunc ctlR true s)) := by
 unfold plainF Lib.idxFunc; rw [idx_ctl s s.size 0 (by omega), List.drop_zero, List.all_eq_not_any_not]; congr 2
 simp
def qeC : List Nat := [92, 34, 9, 10]
def qeE (c : Nat) : Nat := if c = 9 then 116 else if c = 10 then 110 else c
def qeB (b : UInt8) : List UInt8 := if b.toNat ∈ qeC then [92, UInt8.ofNat (qeE b.toNat)] else [b]
def qeL (l : List UInt8) : List UInt8 := l.flatMap qeB
def qeN : List UInt8 → Nat
 | [] => 0
 | b :: r => (if b.toNat ∈ qeC then 1 else 0) + qeN r
theorem qeL_len : ∀ l : List UInt8, (qeL l).length = l.length + qeN l
 | [] => rfl
 | b :: r => by
   have ih := qeL_len r; unfold qeL at ih ⊢; rw [List.flatMap_cons, List.length_append, ih, qeN]; unfold qeB; split <;> simp <;> omega
theorem qeL_app (l r : List UInt8) : qeL (l ++ r) = qeL l ++ qeL r := by unfold qeL; rw [List.flatMap_append]
theorem qeL_one (b : UInt8) : qeL [b] = qeB b := by unfold qeL; simp
theorem qeL_succ {l : List UInt8} {i : Nat} {b : UInt8} (h : l[i]? = some b) : qeL (l.take (i + 1)) = qeL (l.take i) ++ qeB b := by
 rw [List.take_add_one, h, ← qeL_one b, ← qeL_app]; rfl
theorem qeN_app : ∀ l r : List UInt8, qeN (l ++ r) = qeN l + qeN r
 | [], r => by simp [qeN]
 | b :: l, r => by rw [List.cons_append, qeN, qeN, qeN_app l r]; omega
theorem qeN_succ {l : List UInt8} {i : Nat} {b : UInt8} (h : l[i]? = some b) : qeN (l.take (i + 1)) = qeN (l.take i) + if b.toNat ∈ qeC then 1 else 0 := by
 rw [List.take_add_one, h, qeN_app]; rfl
theorem qeN_counts : ∀ l : List UInt8, qeN l = l.count 92 + l.count 34 + l.count 9 + l.count 10
 | [] => rfl
 | b :: r => by
   rw [qeN, qeN_counts r]; rw [List.count_cons, List.count_cons, List.count_cons, List.count_cons]; have h : ∀ b : UInt8, (if b.toNat ∈ qeC then 1 else 0) = (if (b == 92) = true then 1 else 0) + (if (b == 34) = true then 1 else 0) + (if (b == 9) = true then 1 else 0) + (if (b == 10) = true then (1 : Nat) else 0) := by
    intro b; have hb : b.toNat ∈ qeC ↔ (b = 92 ∨ b = 34 ∨ b = 9 ∨ b = 10) := by
     have e : ∀ n : UInt8, b = n ↔ b.toNat = n.toNat := fun n => UInt8.toNat_inj.symm
     rw [e, e, e, e]; simp [qeC]
    by_cases h1 : b = 92
    · subst h1; decide
    by_cases h2 : b = 34
    · subst h2; decide
    by_cases h3 : b = 9
    · subst h3; decide
    by_cases h4 : b = 10
    · subst h4; decide
    rw [if_neg (by rw [hb]; simp [h1, h2, h3, h4])]; simp [h1, h2, h3, h4]
   rw [h b]; omega
theorem qeL_id : ∀ {l : List UInt8}, qeN l = 0 → qeL l = l
 | [], _ => rfl
 | b :: r, h => by
   rw [qeN] at h; have hb : ¬ b.toNat ∈ qeC := fun hb => by rw [if_pos hb] at h; omega
   have hr := qeL_id (l := r) (by omega); unfold qeL at hr ⊢; rw [List.flatMap_cons, hr]; unfold qeB; rw [if_neg hb]; rfl
theorem qeN_take_le (l : List UInt8) (i : Nat) : qeN (l.take i) ≤ qeN l := by
 have h := qeN_app (l.take i) (l.drop i); rw [List.take_append_drop] at h; omega
theorem qeN_le : ∀ l : List UInt8, qeN l ≤ l.length
 | [] => Nat.le_refl _
 | b :: r => by
   have := qeN_le r; rw [qeN, List.length_cons]; split <;> omega
def cntS (l : List UInt8) (k : Nat) : Nat := ((qeC.take k).map fun c => l.count (UInt8.ofNat c)).sum
theorem cntS_four (l : List UInt8) : cntS l 4 = qeN l := by
 rw [qeN_counts]; simp [cntS, qeC]
 omega
theorem cntS_succ {l : List UInt8} {k c : Nat} (h : qeC[k]? = some c) : cntS l (k + 1) = cntS l k + l.count (UInt8.ofNat c) := by
 unfold cntS; rw [List.take_add_one, h]; simp
theorem cntS_le (l : List UInt8) (k : Nat) : cntS l k ≤ 4 * l.length := by
 have h : ∀ cs : List Nat, (cs.map fun c => l.count (UInt8.ofNat c)).sum ≤ cs.length * l.length := by
  intro cs; induction cs with
  | nil => simp
  | cons c r ih =>
    simp only [List.map_cons, List.sum_cons, List.length_cons, Nat.add_mul]
    have := List.count_le_length (a := UInt8.ofNat c) (l := l); omega
 have h2 := h (qeC.take k); have h3 : (qeC.take k).length ≤ 4 := by simp [qeC]; omega
 unfold cntS; exact Nat.le_trans h2 (Nat.mul_le_mul_right _ h3)
theorem qeB_no {b : UInt8} (h : ¬ b.toNat ∈ qeC) : qeB b = [b] := by unfold qeB; rw [if_neg h]
def qB (s : ByteArray) : List UInt8 := 34 :: (qeL (strU s) ++ [34])
theorem qB_len (s : ByteArray) : (qB s).length ≤ 2 * s.size + 2 := by
 have h : (strU s).length = s.size := by unfold strU; exact Array.length_toList
 have h1 := qeL_len (strU s); have h2 := qeN_le (strU s); unfold qB; simp only [List.length_cons, List.length_append, List.length_nil]; omega
theorem qeB_read {a0 p : Nat} {c : UInt8} {y acc : List UInt8} (hc : ctlB c = false) (hl : acc.length ≠ 1024) : textL a0 (qeB c ++ y) p acc = textL a0 y (p + (qeB c).length) (acc ++ [c]) := by
 by_cases h34 : c = 34
 · subst h34
   rw [show qeB 34 = [92, 34] from by decide]; exact textL_esc rfl hl
 · by_cases h92 : c = 92
   · subst h92
     rw [show qeB 92 = [92, 92] from by decide]; exact textL_esc rfl hl
   · by_cases h10 : c = 10
     · subst h10
       rw [show qeB 10 = [92, 110] from by decide]; exact textL_esc rfl hl
     · by_cases h9 : c = 9
       · subst h9
         rw [show qeB 9 = [92, 116] from by decide]; exact textL_esc rfl hl
       · have : qeB c = [c] := qeB_no (by
          have e : ∀ n : UInt8, c.toNat = n.toNat → c = n := fun n h => UInt8.toNat_inj.1 h
          intro hm; simp only [qeC, List.mem_cons, List.not_mem_nil, or_false] at hm; rcases hm with hm | hm | hm | hm
          · exact h92 (e 92 hm)
          · exact h34 (e 34 hm)
          · exact h9 (e 9 hm)
          · exact h10 (e 10 hm))
         rw [this]; exact textL_byte (by simpa using h34) hc (by simpa using h92) hl
theorem qe_read {a0 : Nat} {x : List UInt8} : ∀ (r : List UInt8) (p : Nat) (acc : List UInt8), (∀ c, c ∈ r → ctlB c = false) → acc.length + r.length ≤ 1024 → textL a0 (qeL r ++ 34 :: x) p acc = .ok (acc ++ r, p + (qeL r).length + 1)
 | [], p, acc, _, _ => by simp [qeL, textL_quote]
 | c :: r, p, acc, h, hl => by
   rw [List.length_cons] at hl; have e : qeL (c :: r) = qeB c ++ qeL r := by unfold qeL; rw [List.flatMap_cons]
   rw [e, List.append_assoc, qeB_read (h c (by simp)) (by omega), qe_read r _ _ (fun d hd => h d (by simp [hd])) (by simp; omega)]; simp [Nat.add_assoc]
end Go.Proofs.YtkoghgnjjfnamaaGreatDoor
