/- Gu, Gv, CallsP, TwiceP, FitP, PathsP: what is used of them. -/
import Derived.Test.YtkoghgnjjfnamaaGreatDoorGr
set_option linter.unusedSectionVars false
namespace Go.Proofs.YtkoghgnjjfnamaaGreatDoor
open Go.RowKit
def mvk (d : Nat) (t : Tok) : Tok := { t with place := t.place + d }
mutual
def T.mv (d : Nat) : T → T
 | .mk k t n x ns p ks => .mk k t n x ns (p + d) (mvKs d ks)
def mvKs (d : Nat) : List T → List T
 | [] => []
 | t :: ks => t.mv d :: mvKs d ks
end
def okS (s : ByteArray) : Prop := ((⟨#[41]⟩ : ByteArray).toList == s.toList) = false ∧ ((⟨#[59]⟩ : ByteArray).toList == s.toList) = false
def InertT (h : Tok) : Prop := h.kind = 0 ∨ h.kind = 5 ∧ (h.text = ⟨#[41]⟩ ∨ h.text = ⟨#[59]⟩)
def Inert (tl : List Tok) : Prop := ∃ h us, tl = h :: us ∧ InertT h
inductive Em (d : Nat) (tl : List Tok) : List Tok → List Tok → Prop
 | fin {e : Tok} : e.kind = 0 → Em d tl [e] tl
 | tok {t : Tok} {ts ts' : List Tok} : t.kind ≠ 0 → Em d tl ts ts' → Em d tl (t :: ts) (mvk d t :: ts')
theorem inert_isT {h : Tok} (hi : InertT h) {s : ByteArray} (hs : okS s) : isT s h = false := by
 unfold isT; rcases hi with h0 | ⟨h5, ht | ht⟩
 · rw [h0]; simp
 · rw [ht, hs.1]; rfl
 · rw [ht, hs.2]; rfl
theorem inert_begT {h : Tok} (hi : InertT h) : begT h = false := by
 unfold begT; rcases hi with h0 | ⟨h5, ht | ht⟩
 · rw [h0]; rfl
 · rw [h5, ht]; kernel_rfl
 · rw [h5, ht]; kernel_rfl
theorem inert_any {h : Tok} (hi : InertT h) {ss : List ByteArray} (hs : ∀ s ∈ ss, okS s) : (decide (h.kind = 5) && ss.any (fun s => h.text.toList == s.toList)) = false := by
 rcases hi with h0 | ⟨h5, ht | ht⟩
 · rw [h0]; rfl
 · rw [Bool.and_eq_false_iff]; right
   rw [List.any_eq_false]; intro s h1; rw [ht, (hs s h1).1]; simp
 · rw [Bool.and_eq_false_iff]; right
   rw [List.any_eq_false]; intro s h1; rw [ht, (hs s h1).2]; simp
section
variable {d : Nat} {tl : List Tok} (hT : Inert tl)
theorem Em.len {ts ts' : List Tok} (h : Em d tl ts ts') : ts'.length + 1 = ts.length + tl.length := by
 induction h with
 | fin _ => simp; omega
 | tok _ _ ih => simp; omega
theorem Em.ne {ts ts' : List Tok} (h : Em d tl ts ts') : 0 < ts.length := by cases h <;> simp
include hT
omit hT
def Ends {α : Type} (mv : α → α) (m : Bool) (d : Nat) (tl : List Tok) (r r' : Res α) : Prop :=
 ∀ a us, r = .ok (a, us) → (∃ us', r' = .ok (mv a, us') ∧ Em d tl us us') ∨ (m = true ∧ ∃ p, r' = .error (p, 9))
def Sim (m : Bool) (d : Nat) (tl : List Tok) (f g : List Tok → Res T) : Prop := ∀ ts ts', Em d tl ts ts' → Ends (T.mv d) m d tl (f ts) (g ts')
def Sim2 (m : Bool) (d : Nat) (tl : List Tok) (f g : List Tok → Res T) : Prop := ∀ t ts ts', Em d tl ts ts' → Ends (T.mv d) m d tl (f (t :: ts)) (g (mvk d t :: ts'))
variable {m : Bool}
include hT
end
def Kid.mv (d : Nat) : Kid → Kid | .leaf t => .leaf (t.mv d) | .made j => .made j
def SO.mv (d : Nat) (o : SO) : SO := ⟨o.names, o.kids.map (Kid.mv d), o.place + d⟩
section
variable {d : Nat} {tl : List Tok} (hT : Inert tl) {m : Bool}
include hT
end
structure SimL (m : Bool) (d : Nat) (tl : List Tok) (L M : PF) : Prop where
 top : Sim m d tl L.top M.top
 list : Sim2 m d tl L.list M.list
 upd : Sim m d tl L.upd M.upd
 cat : Sim m d tl L.cat M.cat
 sel : Sim m d tl L.sel M.sel
 notT : Sim2 m d tl L.notT M.notT
 negT : Sim2 m d tl L.negT M.negT
structure OkAll : Prop where
 dot : okS ⟨#[46]⟩
 inh : okS ⟨#[105, 110, 104, 101, 114, 105, 116]⟩
 lb : okS ⟨#[91]⟩
 rb : okS ⟨#[93]⟩
 or : okS ⟨#[111, 114]⟩
 qm : okS ⟨#[63]⟩
 neg : okS ⟨#[45]⟩
 cat : okS ⟨#[43, 43]⟩
 not : okS ⟨#[33]⟩
 upd : okS ⟨#[47, 47]⟩
 mul : ∀ s ∈ ([⟨#[42]⟩, ⟨#[47]⟩] : List ByteArray), okS s
 add : ∀ s ∈ ([⟨#[43]⟩, ⟨#[45]⟩] : List ByteArray), okS s
 cmp : ∀ s ∈ ([⟨#[60]⟩, ⟨#[60, 61]⟩, ⟨#[62]⟩, ⟨#[62, 61]⟩] : List ByteArray), okS s
 eq : ∀ s ∈ ([⟨#[61, 61]⟩, ⟨#[33, 61]⟩] : List ByteArray), okS s
 and : ∀ s ∈ ([⟨#[38, 38]⟩] : List ByteArray), okS s
 or2 : ∀ s ∈ ([⟨#[124, 124]⟩] : List ByteArray), okS s
def okB (s : ByteArray) : Bool := !((⟨#[41]⟩ : ByteArray).toList == s.toList) && !((⟨#[59]⟩ : ByteArray).toList == s.toList)
theorem okS_of {s : ByteArray} (h : okB s = true) : okS s := by
 unfold okB at h; simp only [Bool.and_eq_true, Bool.not_eq_true'] at h; exact h
theorem okSs_of {ss : List ByteArray} (h : ss.all okB = true) : ∀ s ∈ ss, okS s := fun s hs => okS_of (List.all_eq_true.1 h s hs)
theorem okAll : OkAll where
 dot := okS_of (by kernel_rfl)
 inh := okS_of (by kernel_rfl)
 lb := okS_of (by kernel_rfl)
 rb := okS_of (by kernel_rfl)
 or := okS_of (by kernel_rfl)
 qm := okS_of (by kernel_rfl)
 neg := okS_of (by kernel_rfl)
 cat := okS_of (by kernel_rfl)
 not := okS_of (by kernel_rfl)
 upd := okS_of (by kernel_rfl)
 mul := okSs_of (by kernel_rfl)
 add := okSs_of (by kernel_rfl)
 cmp := okSs_of (by kernel_rfl)
 eq := okSs_of (by kernel_rfl)
 and := okSs_of (by kernel_rfl)
 or2 := okSs_of (by kernel_rfl)
section
variable {d : Nat} {tl : List Tok} (hT : Inert tl) {m : Bool} {L M : PF} (hL : SzL L) (hS : SimL m d tl L M)
include hT hL hS
end
mutual
def nodes : T → Nat → List Nd
 | .mk k t n x ns p ks, b => let r := nodesK ks b []; r.1 ++ [⟨k, t, n, x, ns, r.2, p⟩]
def nodesK : List T → Nat → List Nat → List Nd × List Nat
 | [], _, is => ([], is)
 | t :: ks, b, is => let o := nodes t b; let r := nodesK ks (b + o.length) (is ++ [b + o.length - 1]); (o ++ r.1, r.2)
end
theorem nodes_mk (k : Int) (tx : ByteArray) (n : Int) (x : Nat) (ns : List ByteArray) (p : Nat) (ks : List T) (b : Nat) : nodes (.mk k tx n x ns p ks) b = (nodesK ks b []).1 ++ [⟨k, tx, n, x, ns, (nodesK ks b []).2, p⟩] := by simp [nodes]
theorem nodesK_nil (b : Nat) (is : List Nat) : nodesK [] b is = ([], is) := by simp [nodesK]
theorem nodesK_cons (t : T) (ks : List T) (b : Nat) (is : List Nat) : nodesK (t :: ks) b is = (nodes t b ++ (nodesK ks (b + (nodes t b).length) (is ++ [b + (nodes t b).length - 1])).1, (nodesK ks (b + (nodes t b).length) (is ++ [b + (nodes t b).length - 1])).2) := by simp [nodesK]
mutual
theorem flatP_nodes : ∀ (t : T) (out : List Nd), flatP t out = out ++ nodes t out.length
 | .mk k t n x ns p ks, out => by
   rw [nodes_mk]; unfold flatP; have h := flatK_nodes ks out []; simp only [h]; simp
theorem flatK_nodes : ∀ (ks : List T) (out : List Nd) (is : List Nat), flatK ks out is = (out ++ (nodesK ks out.length is).1, (nodesK ks out.length is).2)
 | [], out, is => by simp [flatK, nodesK_nil]
 | t :: ks, out, is => by
   rw [nodesK_cons]; unfold flatK; have h1 := flatP_nodes t out; simp only [h1]; rw [flatK_nodes ks]; simp
end
theorem flat0 (t : T) : flatP t [] = nodes t 0 := by rw [flatP_nodes]; rfl
theorem nodes_len (t : T) (b : Nat) : (nodes t b).length = cnt t := by
 have h1 := flatP_len t (List.replicate b ⟨0, ⟨#[]⟩, 0, 0, [], [], 0⟩); rw [flatP_nodes] at h1; simp at h1; exact h1
theorem nodesK_len : ∀ (ks : List T) (b : Nat) (is : List Nat), (nodesK ks b is).1.length = cntK ks
 | [], b, is => by simp [nodesK_nil]
 | t :: ks, b, is => by rw [nodesK_cons]; simp [nodesK_len ks, nodes_len]
def Nd.mv (d : Nat) (x : Nd) : Nd := { x with place := x.place + d }
theorem dr_bt {s : ByteArray} {p : Nat} {c : UInt8} {r : List UInt8} (h : s.data.toList.drop p = c :: r) : bt s p = some c ∧ s.data.toList.drop (p + 1) = r ∧ p < s.size := by
 have h1 : bt s p = some c := by
  have := congrArg (·[0]?) h; simp only [List.getElem?_drop] at this; exact this
 refine ⟨h1, ?_, bt_lt h1⟩; rw [← List.drop_drop, h]; rfl
theorem dr_add {s : ByteArray} {p : Nat} {a r : List UInt8} (h : s.data.toList.drop p = a ++ r) : s.data.toList.drop (p + a.length) = r := by
 rw [← List.drop_drop, h, List.drop_left]
theorem dr_get {s : ByteArray} {p : Nat} {l : List UInt8} (h : s.data.toList.drop p = l) (i : Nat) : bt s (p + i) = l[i]? := by
 rw [← h, List.getElem?_drop]; rfl
theorem lx_end {pf : ByteArray → Nat} {s : ByteArray} {p : Nat} (h : p = s.size) : Lx pf s p [⟨0, ⟨#[]⟩, 0, 0, s.size⟩] := by
 subst h; exact .fin (.here _)
theorem lx_blank {pf : ByteArray → Nat} {s : ByteArray} {p : Nat} {c : UInt8} {r : List UInt8} {tl : List Tok} (h : s.data.toList.drop p = c :: r) (hc : blankB c = true) (ht : Lx pf s (p + 1) tl) : Lx pf s p tl := ht.blank (dr_bt h).1 hc
def plainC (c : UInt8) : Bool := !(blankB c) && !(c == 35) && !(letterB c) && !(digitB c) && !(c == 34)
theorem lx_sign {pf : ByteArray → Nat} {s : ByteArray} {p : Nat} {c : UInt8} {r : List UInt8} {b : ByteArray} {tl : List Tok} (h : s.data.toList.drop p = c :: r) (hc : plainC c = true) (hs : signL (c :: r) = some b) (ht : Lx pf s (p + b.size) tl) :
 Lx pf s p (⟨5, b, 0, 0, p⟩ :: tl) := by
 unfold plainC at hc; simp only [Bool.and_eq_true, Bool.not_eq_true'] at hc; obtain ⟨⟨⟨⟨h1, h2⟩, h3⟩, h4⟩, h5⟩ := hc; refine .tok (.here p) (j := p + b.size) ?_ ht; unfold tokP; rw [(dr_bt h).1]; simp only [h1, h2, h3, h4, h5, Bool.false_eq_true, if_false]; unfold signP; rw [h, hs]
theorem lx_name {pf : ByteArray → Nat} {s : ByteArray} {p : Nat} {c : UInt8} {l r : List UInt8} {tl : List Tok} (h : s.data.toList.drop p = (c :: l) ++ r) (hc : letterB c = true) (hl : ∀ x ∈ l, moreB x = true) (hr : ∀ x, r[0]? = some x → moreB x = false) (hn : l.length < 1024)
 (ht : Lx pf s (p + (l.length + 1)) tl) : Lx pf s p (⟨1, ⟨(c :: l).toArray⟩, 0, 0, p⟩ :: tl) := by
 have hsz : s.data.toList.length = s.size := Array.length_toList; have hz : p + (l.length + 1) ≤ s.size := by
  have := congrArg List.length h; simp at this; omega
 have hr2 : runTo moreB s p = p + (l.length + 1) := by
  refine run_is (by omega) (fun i hi => ?_) fun x hx => ?_
  · rw [dr_get h, List.getElem?_append_left (by simp; omega)]
    cases i with
    | zero => exact ⟨c, rfl, by unfold moreB; rw [hc]; rfl⟩
    | succ i => exact ⟨l[i], by simp, hl _ (List.getElem_mem _)⟩
  · rw [dr_get h, List.getElem?_append_right (by simp)] at hx
    simp only [List.length_cons, Nat.sub_self] at hx; exact hr x hx
 have h1 : blankB c = false := by
  have := all256 (p := fun c => !(letterB c) || !(blankB c)) (by decide +kernel) c; rw [hc] at this; simpa using this
 have h2 : (c == 35) = false := by
  have := all256 (p := fun c => !(letterB c) || !(c == 35)) (by decide +kernel) c; rw [hc] at this; simpa using this
 refine .tok (.here p) (j := p + (l.length + 1)) ?_ ht; unfold tokP; rw [(dr_bt h).1]; simp only [h1, h2, hc, Bool.false_eq_true, if_false, if_true]; rw [hr2, if_neg (by omega)]; have e : s.extract p (p + (l.length + 1)) = ⟨(c :: l).toArray⟩ := by
  apply ba_ext
  rw [Lib.extract_data, h]; simp
 rw [e]
section
variable {f row : List Tok → Res T} {ts us vs : List Tok} {a b : T} {e : Er} {ss : List ByteArray} {s : ByteArray} {x : Tok}
theorem leftL_no (k : Nat) (hn : anyP ss us = false) : leftL f ss k a us = .ok (a, us) := by
 cases k with
 | zero => rfl
 | succ k => unfold leftL; rw [hn]; simp
theorem leftP_no (h : f ts = .ok (a, us)) (hn : anyP ss us = false) : leftP f ss ts = .ok (a, us) := by
 unfold leftP; rw [h]; exact leftL_no _ hn
theorem onceP_no (h : f ts = .ok (a, us)) (hn : anyP ss us = false) : onceP f ss ts = .ok (a, us) := by
 unfold onceP; rw [h]; simp only
 rw [hn]; simp
theorem rightP_no (h : f ts = .ok (a, us)) (hn : isP s us = false) : rightP' row f s ts = .ok (a, us) := by
 unfold rightP'; rw [h]; simp only
 rw [hn]; simp
theorem prefixP_no {kind : Int} (hn : isP s ts = false) : prefixP row f s kind ts = f ts := by
 unfold prefixP; rw [hn]; simp
end
section
variable {L : PF} {ts us : List Tok} {a : T} {e : Er}
theorem selL_no (k : Nat) (h : isP ⟨#[46]⟩ us = false) : selL L k a us = .ok (a, us) := by
 cases k with
 | zero => rfl
 | succ k => unfold selL; rw [h]; simp
theorem selP_ok (h : atomP L ts = .ok (a, us)) (h1 : isP ⟨#[46]⟩ us = false) : selP L ts = .ok (a, us) := by
 unfold selP; rw [h]; exact selL_no _ h1
theorem callL_no (k : Nat) (h : begP us = false) : callL L k a us = .ok (a, us) := by
 cases k with
 | zero => rfl
 | succ k => unfold callL; rw [h]; simp
theorem callP_ok (h : selP L ts = .ok (a, us)) (h1 : begP us = false) : callP L ts = .ok (a, us) := by
 unfold callP; rw [h]; exact callL_no _ h1
theorem hasP_ok (h : callP L ts = .ok (a, us)) (h1 : isP ⟨#[63]⟩ us = false) : hasPr L ts = .ok (a, us) := by
 unfold hasPr; rw [h]; simp only
 rw [h1]; simp
structure Nx (k : Nat) (us : List Tok) : Prop where
 dot : isP ⟨#[46]⟩ us = false
 beg : begP us = false
 qm : isP ⟨#[63]⟩ us = false
 cat : 1 ≤ k → isP ⟨#[43, 43]⟩ us = false
 mul : 2 ≤ k → anyP [⟨#[42]⟩, ⟨#[47]⟩] us = false
 add : 3 ≤ k → anyP [⟨#[43]⟩, ⟨#[45]⟩] us = false
 upd : 4 ≤ k → isP ⟨#[47, 47]⟩ us = false
 cmp : 5 ≤ k → anyP [⟨#[60]⟩, ⟨#[60, 61]⟩, ⟨#[62]⟩, ⟨#[62, 61]⟩] us = false
 eq : 6 ≤ k → anyP [⟨#[61, 61]⟩, ⟨#[33, 61]⟩] us = false
 and : 7 ≤ k → anyP [⟨#[38, 38]⟩] us = false
 or : 8 ≤ k → anyP [⟨#[124, 124]⟩] us = false
theorem inert_nx (h : Inert us) : Nx 8 us := by
 obtain ⟨x, r, rfl, hi⟩ := h; have hk := okAll; have ha : ∀ ss, (∀ s ∈ ss, okS s) → anyP ss (x :: r) = false := fun ss hs => inert_any hi hs
 exact ⟨inert_isT hi hk.dot, inert_begT hi, inert_isT hi hk.qm, fun _ => inert_isT hi hk.cat, fun _ => ha _ hk.mul, fun _ => ha _ hk.add, fun _ => inert_isT hi hk.upd, fun _ => ha _ hk.cmp, fun _ => ha _ hk.eq, fun _ => ha _ hk.and, fun _ => ha _ hk.or2⟩
variable {k : Nat} (hx : Nx k us)
include hx
theorem Nx.sel (h : atomP L ts = .ok (a, us)) : selP L ts = .ok (a, us) := selP_ok h hx.dot
theorem Nx.neg (h : atomP L ts = .ok (a, us)) (hm : isP ⟨#[45]⟩ ts = false) : negP L ts = .ok (a, us) := by
 unfold negP; rw [prefixP_no hm]; exact hasP_ok (callP_ok (hx.sel h) hx.beg) hx.qm
theorem Nx.xcat (h : atomP L ts = .ok (a, us)) (hm : isP ⟨#[45]⟩ ts = false) (hk : 1 ≤ k) : catP L ts = .ok (a, us) := rightP_no (hx.neg h hm) (hx.cat hk)
theorem Nx.xmul (h : atomP L ts = .ok (a, us)) (hm : isP ⟨#[45]⟩ ts = false) (hk : 2 ≤ k) : mulPr L ts = .ok (a, us) := leftP_no (hx.xcat h hm (by omega)) (hx.mul hk)
theorem Nx.xadd (h : atomP L ts = .ok (a, us)) (hm : isP ⟨#[45]⟩ ts = false) (hk : 3 ≤ k) : addP L ts = .ok (a, us) := leftP_no (hx.xmul h hm (by omega)) (hx.add hk)
theorem Nx.xnot (h : addP L ts = .ok (a, us)) (hn : isP ⟨#[33]⟩ ts = false) : notP L ts = .ok (a, us) := by
 unfold notP; rw [prefixP_no hn]; exact h
theorem Nx.xupd (h : addP L ts = .ok (a, us)) (hn : isP ⟨#[33]⟩ ts = false) (hk : 4 ≤ k) : updP L ts = .ok (a, us) := rightP_no (hx.xnot h hn) (hx.upd hk)
theorem Nx.xcmp (h : updP L ts = .ok (a, us)) (hk : 5 ≤ k) : cmpP L ts = .ok (a, us) := onceP_no h (hx.cmp hk)
theorem Nx.xeq (h : cmpP L ts = .ok (a, us)) (hk : 6 ≤ k) : eqP L ts = .ok (a, us) := onceP_no h (hx.eq hk)
theorem Nx.xand (h : eqP L ts = .ok (a, us)) (hk : 7 ≤ k) : andP L ts = .ok (a, us) := leftP_no h (hx.and hk)
theorem Nx.xor (h : andP L ts = .ok (a, us)) (hk : 8 ≤ k) : orP L ts = .ok (a, us) := leftP_no h (hx.or hk)
end
section
variable {L : PF} {ts us : List Tok} {a : T} {e : Er}
theorem or_ok (hx : Nx 8 us) (h : atomP L ts = .ok (a, us)) (hm : isP ⟨#[45]⟩ ts = false) (hn : isP ⟨#[33]⟩ ts = false) : orP L ts = .ok (a, us) :=
 hx.xor (hx.xand (hx.xeq (hx.xcmp (hx.xupd (hx.xadd h hm (by omega)) hn (by omega)) (by omega)) (by omega)) (by omega)) (by omega)
end
def sgT (b : ByteArray) (p : Nat) : Tok := ⟨5, b, 0, 0, p⟩
theorem top_sign {L : PF} {b : ByteArray} {p : Nat} {us : List Tok} (h1 : isT ⟨#[108, 101, 116]⟩ (sgT b p) = false) (h2 : isT ⟨#[119, 105, 116, 104]⟩ (sgT b p) = false) (h3 : isT ⟨#[97, 115, 115, 101, 114, 116]⟩ (sgT b p) = false) (h4 : isT ⟨#[105, 102]⟩ (sgT b p) = false) : topP L (sgT b p :: us) = orP L (sgT b p :: us) := by
 unfold topP; simp only
 rw [h1, h2, h3, h4]; simp [nameT, sgT]
theorem parse_of {pf : ByteArray → Nat} {s : ByteArray} {ts : List Tok} (hs : s.size ≤ 4096) (h : Lx pf s 0 ts) : parseP pf s = parseR ((Lv 32).top ts) := by
 rw [parseP_is, lexP_iff.2 ⟨hs, h⟩]; rfl
theorem parse_end {t : T} {u : Tok} {us : List Tok} (hk : u.kind = 0) : parseR (.ok (t, u :: us)) = if 1000 < cnt t then .error (0, 8) else .ok (nodes t 0) := by
 show parseE t (u :: us) = _; rw [parseE_cons, if_pos hk, flat0, nodes_len]
theorem sig_semi (r : List UInt8) : signL (59 :: r) = some ⟨#[59]⟩ := by kernel_rfl
theorem inert_end (p : Nat) : Inert [⟨0, ⟨#[]⟩, 0, 0, p⟩] := ⟨_, _, rfl, Or.inl rfl⟩
def nameN (b : ByteArray) (p : Nat) : T := .mk 4 b 0 0 [] p []
theorem atom_name {L : PF} {b : ByteArray} {p : Nat} {us : List Tok} (h1 : begT ⟨1, b, 0, 0, p⟩ = true) (h2 : isT ⟨#[91]⟩ ⟨1, b, 0, 0, p⟩ = false) (h3 : (b.toList == (⟨#[40]⟩ : ByteArray).toList) = false) (h4 : (b.toList == (⟨#[123]⟩ : ByteArray).toList) = false) (h5 : (b.toList == (⟨#[114, 101, 99]⟩ : ByteArray).toList) = false) :
 atomP L (⟨1, b, 0, 0, p⟩ :: us) = .ok (nameN b p, us) := by
 conv => lhs; unfold atomP
 rw [if_pos (show begP (⟨1, b, 0, 0, p⟩ :: us) = true from h1), if_neg (show ¬ isP ⟨#[91]⟩ (⟨1, b, 0, 0, p⟩ :: us) = true by rw [show isP ⟨#[91]⟩ (⟨1, b, 0, 0, p⟩ :: us) = false from h2]; simp)]; simp only
 rw [h3, h4, h5]; rfl
def inT (i p : Nat) : Tok := ⟨2, ⟨#[UInt8.ofNat (48 + i % 10)]⟩, ((i % 10 : Nat) : Int), 0, p⟩
theorem lx_digit {pf : ByteArray → Nat} {s : ByteArray} {p i : Nat} {c : UInt8} {r : List UInt8} {tl : List Tok} (h : s.data.toList.drop p = UInt8.ofNat (48 + i % 10) :: c :: r) (hc : stopB c = true) (ht : Lx pf s (p + 1) tl) : Lx pf s p (inT i p :: tl) := by
 have h0 : tokP pf ⟨#[UInt8.ofNat (48 + i % 10)]⟩ 0 = .ok (inT i 0, 1) := by
  have h1 : ∀ x : Fin 10, tokP pf ⟨#[UInt8.ofNat (48 + x.val)]⟩ 0 = .ok (⟨2, ⟨#[UInt8.ofNat (48 + x.val)]⟩, (x.val : Int), 0, 0⟩, 1) := by
   intro x; rcases x with ⟨x, hx⟩
   rcases (by omega : x = 0 ∨ x = 1 ∨ x = 2 ∨ x = 3 ∨ x = 4 ∨ x = 5 ∨ x = 6 ∨ x = 7 ∨ x = 8 ∨ x = 9) with rfl | rfl | rfl | rfl | rfl | rfl | rfl | rfl | rfl | rfl <;> kernel_rfl
  exact h1 ⟨i % 10, Nat.mod_lt _ (by omega)⟩
 obtain ⟨b1, hd1, _⟩ := dr_bt h; obtain ⟨b2, _, _⟩ := dr_bt hd1; have h2 := tok_local (s' := s) (p' := p) (m := 1) h0 (by omega) (fun j hj => by
  obtain rfl : j = 0 := by omega
  rw [Nat.add_zero, b1]
  rfl) (fun x hx => by rw [b2] at hx; cases hx; exact hc)
 exact .tok (.here p) h2 ht
def inN (i p : Nat) : T := .mk 1 ⟨#[]⟩ ((i % 10 : Nat) : Int) 0 [] p []
theorem atom_int (L : PF) (i p : Nat) (us : List Tok) : atomP L (inT i p :: us) = .ok (inN i p, us) := by
 unfold atomP; rw [if_pos (show begP (inT i p :: us) = true from rfl), if_neg (show ¬ isP ⟨#[91]⟩ (inT i p :: us) = true by
  rw [show isP ⟨#[91]⟩ (inT i p :: us) = false by show ((inT i p).text.toList == (⟨#[91]⟩ : ByteArray).toList && (decide ((2 : Int) = 5) || decide ((2 : Int) = 1) && kwB ⟨#[91]⟩)) = false; simp]; simp)]
 rfl
theorem int_isT (s : ByteArray) (i p : Nat) : isT s (inT i p) = false := by
 unfold isT; rw [show (decide ((inT i p).kind = 5) || decide ((inT i p).kind = 1) && kwB s) = false from rfl]; simp
theorem top_int (n i p : Nat) {us : List Tok} (h : Inert us) : (Lv (n + 1)).top (inT i p :: us) = .ok (inN i p, us) := by
 show topP (Lv n) (inT i p :: us) = _; unfold topP; simp only
 rw [int_isT, int_isT, int_isT, int_isT]; simp only [show nameT (inT i p) = false from rfl, Bool.false_and, Bool.false_eq_true, if_false]; exact or_ok (inert_nx h) (atom_int _ _ _ _) (int_isT _ _ _) (int_isT _ _ _)
mutual
def Fit (M : Nat) : T → Prop
 | .mk _ _ _ _ ns p ks => ns.length ≤ ks.length ∧ p ≤ M ∧ FitK M ks
def FitK (M : Nat) : List T → Prop
 | [] => True
 | t :: ks => Fit M t ∧ FitK M ks
end
def TM (M : Nat) (ts : List Tok) : Prop := ∀ t ∈ ts, t.place ≤ M
section
variable {M : Nat}
theorem TM.hd {t : Tok} {ts : List Tok} (h : TM M (t :: ts)) : t.place ≤ M := h t (by simp)
theorem TM.tl {t : Tok} {ts : List Tok} (h : TM M (t :: ts)) : TM M ts := fun x hx => h x (by simp [hx])
theorem TM.tail {ts : List Tok} (h : TM M ts) : TM M ts.tail := fun x hx => h x (List.mem_of_mem_tail hx)
theorem TM.attr {ts us : List Tok} {n : ByteArray} (h : TM M ts) (he : attrP ts = .ok (n, us)) : TM M us := by
 unfold attrP at he; split at he
 · split at he
   · cases he; exact h.tl
   · cases he
 · cases he
end
def PFit (M : Nat) (f : List Tok → Res T) : Prop := ∀ ts a us, TM M ts → f ts = .ok (a, us) → Fit M a ∧ TM M us
section
variable {M : Nat} {above row : List Tok → Res T}
end
section
variable {M : Nat}
end
structure FitL (M : Nat) (L : PF) : Prop where
 top : PFit M L.top
 list : PFit M L.list
 upd : PFit M L.upd
 cat : PFit M L.cat
 sel : PFit M L.sel
 notT : PFit M L.notT
 negT : PFit M L.negT
section
variable {M : Nat} {L : PF} (hL : FitL M L)
include hL
end
theorem nodesK_klen : ∀ (ks : List T) (b : Nat) (is : List Nat), (nodesK ks b is).2.length = is.length + ks.length
 | [], b, is => by simp [nodesK_nil]
 | t :: ks, b, is => by
   rw [nodesK_cons]; simp only
   rw [nodesK_klen ks]; simp
   omega
theorem need_sg {b : ByteArray} {p : Nat} {us : List Tok} (h : isT b (sgT b p) = true) : needP b (sgT b p :: us) = .ok us := by
 unfold needP; rw [if_pos (show isP b (sgT b p :: us) = true from h)]; rfl
def Nd.z (x : Nd) : Nd := { x with place := 0 }
theorem br_set {m p q : Nat} {us rest : List Tok} {t : Tok} (ht : (nameT t || decide (t.kind = 4)) = true) (hi : isT ⟨#[105, 110, 104, 101, 114, 105, 116]⟩ t = false) (hl : us.length ≠ 0) :
 (∀ e, bindP (Lv m).top [⟨[], [], p⟩] (t :: us) = .error e → atomP (Lv m) (sgT ⟨#[123]⟩ p :: t :: us) = .error e) ∧
 (∀ ar, bindP (Lv m).top [⟨[], [], p⟩] (t :: us) = .ok (ar, sgT ⟨#[125]⟩ q :: rest) → atomP (Lv m) (sgT ⟨#[123]⟩ p :: t :: us) = .ok (rootOf 6 p [] ar, rest)) := by
 have hat : atomP (Lv m) (sgT ⟨#[123]⟩ p :: t :: us) = bracesP (Lv m).top 6 p (t :: us) := by
  unfold atomP; rw [if_pos (show begP (sgT ⟨#[123]⟩ p :: t :: us) = true by show begT (sgT ⟨#[123]⟩ p) = true; kernel_rfl), if_neg (show ¬ isP ⟨#[91]⟩ (sgT ⟨#[123]⟩ p :: t :: us) = true by rw [show isP ⟨#[91]⟩ (sgT ⟨#[123]⟩ p :: t :: us) = false by show isT ⟨#[91]⟩ (sgT ⟨#[123]⟩ p) = false; kernel_rfl]; simp)]; simp only
  rw [if_neg (show ¬ (sgT ⟨#[123]⟩ p).kind = 2 by show ¬ (5 : Int) = 2; decide), if_neg (show ¬ (sgT ⟨#[123]⟩ p).kind = 3 by show ¬ (5 : Int) = 3; decide), if_neg (show ¬ (sgT ⟨#[123]⟩ p).kind = 4 by show ¬ (5 : Int) = 4; decide), if_neg (show ¬ ((sgT ⟨#[123]⟩ p).text.toList == (⟨#[40]⟩ : ByteArray).toList) = true by rw [show ((sgT ⟨#[123]⟩ p).text.toList == (⟨#[40]⟩ : ByteArray).toList) = false by kernel_rfl]; simp), if_pos (show ((sgT ⟨#[123]⟩ p).text.toList == (⟨#[123]⟩ : ByteArray).toList) = true by kernel_rfl)]; rfl
 obtain ⟨k, hk⟩ : ∃ k, us.length = k + 1 := ⟨us.length - 1, by omega⟩; have hb : bindsL (Lv m).top (t :: us).length [⟨[], [], p⟩] (t :: us) = match bindP (Lv m).top [⟨[], [], p⟩] (t :: us) with | .error e => .error e | .ok (ar, us') => bindsL (Lv m).top us.length ar us' := by
  show bindsL (Lv m).top (us.length + 1) _ _ = _; conv => lhs; unfold bindsL
  simp only
  rw [hi, ht]; simp only [Bool.false_eq_true, if_false, if_true]; rfl
 rw [hat]; unfold bracesP bindsP; rw [hb]; refine ⟨fun e he => by rw [he], fun ar ha => ?_⟩; rw [ha]; simp only
 have h2 : bindsL (Lv m).top us.length ar (sgT ⟨#[125]⟩ q :: rest) = .ok (ar, sgT ⟨#[125]⟩ q :: rest) := by
  rw [hk]; unfold bindsL; simp only
  rw [show isT ⟨#[105, 110, 104, 101, 114, 105, 116]⟩ (sgT ⟨#[125]⟩ q) = false by kernel_rfl, show nameT (sgT ⟨#[125]⟩ q) = false from rfl, show decide ((sgT ⟨#[125]⟩ q).kind = 4) = false from rfl]; simp
 rw [h2]; simp only
 rw [need_sg (by kernel_rfl)]
theorem path_stop (k : Nat) (path : List ByteArray) (q : Nat) (us : List Tok) : pathL k path (sgT ⟨#[61]⟩ q :: us) = .ok (path, sgT ⟨#[61]⟩ q :: us) := by
 cases k with
 | zero => rfl
 | succ k =>
   unfold pathL; rw [if_neg (show ¬ isP ⟨#[46]⟩ (sgT ⟨#[61]⟩ q :: us) = true by rw [show isP ⟨#[46]⟩ (sgT ⟨#[61]⟩ q :: us) = false by show isT ⟨#[46]⟩ (sgT ⟨#[61]⟩ q) = false; kernel_rfl]; simp)]
end Go.Proofs.YtkoghgnjjfnamaaGreatDoor
