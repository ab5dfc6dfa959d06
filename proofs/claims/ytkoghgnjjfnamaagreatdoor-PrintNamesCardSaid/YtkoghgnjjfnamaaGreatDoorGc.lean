/- Gc: what is used of them. -/
import Derived.Test.YtkoghgnjjfnamaaGreatDoorGb
import Derived.Lib.IndexMore
import Derived.Lib.SlicesS
namespace Go.Proofs.YtkoghgnjjfnamaaGreatDoor
open Go.RowKit
inductive T where
 | mk (kind : Int) (text : ByteArray) (int : Int) (flt : Nat) (names : List ByteArray) (place : Nat) (kids : List T)
def T.kind : T → Int | .mk k _ _ _ _ _ _ => k
def T.text : T → ByteArray | .mk _ t _ _ _ _ _ => t
def T.int : T → Int | .mk _ _ n _ _ _ _ => n
def T.flt : T → Nat | .mk _ _ _ x _ _ _ => x
def T.names : T → List ByteArray | .mk _ _ _ _ l _ _ => l
def T.place : T → Nat | .mk _ _ _ _ _ p _ => p
def T.kids : T → List T | .mk _ _ _ _ _ _ l => l
abbrev Er := Nat × Int
abbrev Res (α : Type) := Except Er (α × List Tok)
def kws : List ByteArray := [⟨#[108, 101, 116]⟩, ⟨#[105, 110]⟩, ⟨#[114, 101, 99]⟩, ⟨#[119, 105, 116, 104]⟩, ⟨#[105, 102]⟩, ⟨#[116, 104, 101, 110]⟩, ⟨#[101, 108, 115, 101]⟩, ⟨#[105, 110, 104, 101, 114, 105, 116]⟩, ⟨#[97, 115, 115, 101, 114, 116]⟩, ⟨#[111, 114]⟩]
def kwB (s : ByteArray) : Bool := kws.any fun k => s.toList == k.toList
def nameT (t : Tok) : Bool := decide (t.kind = 1) && !kwB t.text
def isT (s : ByteArray) (t : Tok) : Bool := (t.text.toList == s.toList) && (decide (t.kind = 5) || decide (t.kind = 1) && kwB s)
def isP (s : ByteArray) : List Tok → Bool | t :: _ => isT s t | [] => false
def anyP (ss : List ByteArray) : List Tok → Bool | t :: _ => decide (t.kind = 5) && ss.any (fun s => t.text.toList == s.toList) | [] => false
def placeP : List Tok → Nat | t :: _ => t.place | [] => 0
def wrongP : List Tok → Er | t :: _ => (t.place, if t.kind = 0 then 7 else 6) | [] => (0, 6)
def needP (s : ByteArray) (ts : List Tok) : Except Er (List Tok) := if isP s ts then .ok ts.tail else .error (wrongP ts)
def attrP (ts : List Tok) : Res ByteArray := match ts with
 | t :: us => if nameT t || decide (t.kind = 4) then .ok (t.text, us) else .error (wrongP ts)
 | [] => .error (wrongP ts)
def begT (t : Tok) : Bool :=
 if t.kind = 1 then (t.text.toList == (⟨#[114, 101, 99]⟩ : ByteArray).toList) || !kwB t.text
 else if t.kind = 5 then Lib.contains [40, 91, 123] t.text.data.toList
 else decide (t.kind ≠ 0)
def begP : List Tok → Bool | t :: _ => begT t | [] => false
def binT (t : Tok) (a b : T) : T := .mk 18 t.text 0 0 [] t.place [a, b]
structure PF where
 top : List Tok → Res T
 list : List Tok → Res T
 upd : List Tok → Res T
 cat : List Tok → Res T
 sel : List Tok → Res T
 notT : List Tok → Res T
 negT : List Tok → Res T
def leftL (above : List Tok → Res T) (ss : List ByteArray) : Nat → T → List Tok → Res T
 | 0, a, ts => .ok (a, ts)
 | k + 1, a, ts => if anyP ss ts then (match ts with
     | t :: us => (match above us with | .ok (b, vs) => leftL above ss k (binT t a b) vs | .error e => .error e)
     | [] => .ok (a, ts)) else .ok (a, ts)
def leftP (above : List Tok → Res T) (ss : List ByteArray) (ts : List Tok) : Res T := match above ts with
 | .ok (a, us) => leftL above ss us.length a us
 | .error e => .error e
def onceP (above : List Tok → Res T) (ss : List ByteArray) (ts : List Tok) : Res T := match above ts with
 | .ok (a, us) => if anyP ss us then (match us with
  | t :: vs => (match above vs with | .ok (b, xs) => .ok (binT t a b, xs) | .error e => .error e)
  | [] => .ok (a, us)) else .ok (a, us)
 | .error e => .error e
def rightP' (row above : List Tok → Res T) (s : ByteArray) (ts : List Tok) : Res T := match above ts with
 | .ok (a, us) => if isP s us then (match us with
  | t :: vs => (match row vs with | .ok (b, xs) => .ok (binT t a b, xs) | .error e => .error e)
  | [] => .ok (a, us)) else .ok (a, us)
 | .error e => .error e
def prefixP (row above : List Tok → Res T) (s : ByteArray) (kind : Int) (ts : List Tok) : Res T :=
 if isP s ts then (match row ts with | .ok (a, us) => .ok (.mk kind ⟨#[]⟩ 0 0 [] (placeP ts) [a], us) | .error e => .error e) else above ts
inductive Kid where
 | leaf (t : T)
 | made (i : Nat)
structure SO where
 names : List ByteArray
 kids : List Kid
 place : Nat
def SO.add (o : SO) (n : ByteArray) (k : Kid) : SO := ⟨o.names ++ [n], o.kids ++ [k], o.place⟩
abbrev Ar := List SO
def Ar.addAt (ar : Ar) (i : Nat) (n : ByteArray) (k : Kid) : Ar := ar.modify i fun o => o.add n k
def leafI (t : Tok) : T := .mk 19 t.text 0 0 [] t.place []
def inhL : Nat → Ar → List Tok → Except Er (Ar × List Tok)
 | 0, ar, ts => .ok (ar, ts)
 | k + 1, ar, ts => match ts with
   | t :: us => if nameT t then (if (ar.head?.map (·.names)).getD [] |>.any (fun s => s.toList == t.text.toList) then .error (t.place, 10) else inhL k (ar.addAt 0 t.text (.leaf (leafI t))) us) else .ok (ar, ts)
   | [] => .ok (ar, ts)
def pathL : Nat → List ByteArray → List Tok → Res (List ByteArray)
 | 0, path, ts => .ok (path, ts)
 | k + 1, path, ts => if isP ⟨#[46]⟩ ts then (match attrP ts.tail with | .ok (n, us) => pathL k (path ++ [n]) us | .error e => .error e) else .ok (path, ts)
def idxP (ns : List ByteArray) (s : ByteArray) : Option Nat := ns.findIdx? (fun x => x.toList == s.toList)
def walkP (ar : Ar) (err : Er) : Nat → List ByteArray → Except Er (Nat × List ByteArray)
 | at', [] => .ok (at', [])
 | at', r :: rest => match ar[at']? with
   | none => .ok (at', r :: rest)
   | some o => match idxP o.names r with
     | none => .ok (at', r :: rest)
     | some i => match o.kids[i]? with
       | some (.made j) => walkP ar err j rest
       | _ => .error err
def makeP (place : Nat) : Ar → Nat → List ByteArray → Ar × Nat
 | ar, at', [] => (ar, at')
 | ar, at', n :: rest => makeP place (ar.addAt at' n (.made ar.length) ++ [⟨[], [], place⟩]) ar.length rest
def hasP (ar : Ar) (i : Nat) (s : ByteArray) : Bool := match ar[i]? with | some o => o.names.any (fun x => x.toList == s.toList) | none => false
def bindP (expr : List Tok → Res T) (ar : Ar) (ts : List Tok) : Except Er (Ar × List Tok) :=
 match attrP ts with
 | .error e => .error e
 | .ok (n0, us) => match pathL us.length [n0] us with
   | .error e => .error e
   | .ok (path, us) => match needP ⟨#[61]⟩ us with
     | .error e => .error e
     | .ok us => match walkP ar (placeP ts, 10) 0 path.dropLast with
       | .error e => .error e
       | .ok (at', rest) => if rest.isEmpty && hasP ar at' (path.getLast?.getD ⟨#[]⟩) then .error (placeP ts, 10) else match expr us with
         | .error e => .error e
         | .ok (v, us) => match needP ⟨#[59]⟩ us with
           | .error e => .error e
           | .ok us => .ok ((makeP (placeP ts) ar at' rest).1.addAt (makeP (placeP ts) ar at' rest).2 (path.getLast?.getD ⟨#[]⟩) (.leaf v), us)
def bindsL (expr : List Tok → Res T) : Nat → Ar → List Tok → Except Er (Ar × List Tok)
 | 0, ar, ts => .ok (ar, ts)
 | k + 1, ar, ts => match ts with
   | [] => .ok (ar, ts)
   | t :: us =>
     if isT ⟨#[105, 110, 104, 101, 114, 105, 116]⟩ t then (match inhL us.length ar us with
      | .error e => .error e
      | .ok (ar, us) => match needP ⟨#[59]⟩ us with
        | .error e => .error e
        | .ok us => bindsL expr k ar us)
     else if nameT t || decide (t.kind = 4) then (match bindP expr ar ts with
      | .error e => .error e
      | .ok (ar, us) => bindsL expr k ar us)
     else .ok (ar, ts)
def treeOf (ar : Ar) : Nat → Nat → T
 | 0, _ => .mk 6 ⟨#[]⟩ 0 0 [] 0 []
 | f + 1, i => match ar[i]? with
   | none => .mk 6 ⟨#[]⟩ 0 0 [] 0 []
   | some o => .mk 6 ⟨#[]⟩ 0 0 o.names o.place (o.kids.map fun | .leaf t => t | .made j => treeOf ar f j)
def rootOf (kind : Int) (place : Nat) (more : List T) (ar : Ar) : T := match treeOf ar (ar.length + 1) 0 with | .mk _ t n x ns _ ks => .mk kind t n x ns place (ks ++ more)
def bindsP (expr : List Tok → Res T) (kind : Int) (place : Nat) (ts : List Tok) : Res T := match bindsL expr ts.length [⟨[], [], place⟩] ts with
 | .error e => .error e
 | .ok (ar, us) => .ok (rootOf kind place [] ar, us)
def bracesP (expr : List Tok → Res T) (kind : Int) (place : Nat) (ts : List Tok) : Res T := match bindsP expr kind place ts with
 | .error e => .error e
 | .ok (t, us) => match needP ⟨#[125]⟩ us with
   | .error e => .error e
   | .ok us => .ok (t, us)
section
variable (L : PF)
def atomP (ts : List Tok) : Res T :=
 if begP ts then (if isP ⟨#[91]⟩ ts then L.list ts else match ts with
  | [] => .error (wrongP ts)
  | t :: us =>
    if t.kind = 2 then .ok (.mk 1 ⟨#[]⟩ t.num 0 [] t.place [], us)
    else if t.kind = 3 then .ok (.mk 2 ⟨#[]⟩ 0 t.bits [] t.place [], us)
    else if t.kind = 4 then .ok (.mk 3 t.text 0 0 [] t.place [], us)
    else if t.text.toList == (⟨#[40]⟩ : ByteArray).toList then (match L.top us with
     | .error e => .error e
     | .ok (a, us) => match needP ⟨#[41]⟩ us with
       | .error e => .error e
       | .ok us => .ok (a, us))
    else if t.text.toList == (⟨#[123]⟩ : ByteArray).toList then bracesP L.top 6 t.place us
    else if t.text.toList == (⟨#[114, 101, 99]⟩ : ByteArray).toList then (match needP ⟨#[123]⟩ us with
     | .error e => .error e
     | .ok us => bracesP L.top 7 t.place us)
    else .ok (.mk 4 t.text 0 0 [] t.place [], us))
 else .error (wrongP ts)
def selL : Nat → T → List Tok → Res T
 | 0, a, ts => .ok (a, ts)
 | k + 1, a, ts => if isP ⟨#[46]⟩ ts then (match attrP ts.tail with
     | .error e => .error e
     | .ok (n, us) => if isP ⟨#[111, 114]⟩ us then (match L.sel us.tail with
      | .error e => .error e
      | .ok (b, us) => selL k (.mk 8 n 0 0 [] (placeP ts) [a, b]) us)
       else selL k (.mk 8 n 0 0 [] (placeP ts) [a]) us)
   else .ok (a, ts)
def selP (ts : List Tok) : Res T := match atomP L ts with
 | .error e => .error e
 | .ok (a, us) => selL L us.length a us
def callL : Nat → T → List Tok → Res T
 | 0, a, ts => .ok (a, ts)
 | k + 1, a, ts => if begP ts then (match selP L ts with
     | .error e => .error e
     | .ok (b, us) => callL k (.mk 10 ⟨#[]⟩ 0 0 [] a.place [a, b]) us)
   else .ok (a, ts)
def callP (ts : List Tok) : Res T := match selP L ts with
 | .error e => .error e
 | .ok (a, us) => callL L us.length a us
def hasPr (ts : List Tok) : Res T := match callP L ts with
 | .error e => .error e
 | .ok (a, us) => if isP ⟨#[63]⟩ us then (match attrP us.tail with
  | .error e => .error e
  | .ok (n, vs) => .ok (.mk 9 n 0 0 [] (placeP us) [a], vs))
   else .ok (a, us)
def negP : List Tok → Res T := prefixP L.negT (hasPr L) ⟨#[45]⟩ 17
def catP : List Tok → Res T := rightP' L.cat (negP L) ⟨#[43, 43]⟩
def mulPr : List Tok → Res T := leftP (catP L) [⟨#[42]⟩, ⟨#[47]⟩]
def addP : List Tok → Res T := leftP (mulPr L) [⟨#[43]⟩, ⟨#[45]⟩]
def notP : List Tok → Res T := prefixP L.notT (addP L) ⟨#[33]⟩ 16
def updP : List Tok → Res T := rightP' L.upd (notP L) ⟨#[47, 47]⟩
def cmpP : List Tok → Res T := onceP (updP L) [⟨#[60]⟩, ⟨#[60, 61]⟩, ⟨#[62]⟩, ⟨#[62, 61]⟩]
def eqP : List Tok → Res T := onceP (cmpP L) [⟨#[61, 61]⟩, ⟨#[33, 61]⟩]
def andP : List Tok → Res T := leftP (eqP L) [⟨#[38, 38]⟩]
def orP : List Tok → Res T := leftP (andP L) [⟨#[124, 124]⟩]
def ifL : List ByteArray → List T → List Tok → Res (List T)
 | [], ks, ts => .ok (ks, ts)
 | s :: ss, ks, ts => match needP s ts with
   | .error e => .error e
   | .ok us => match L.top us with
     | .error e => .error e
     | .ok (a, us) => ifL ss (ks ++ [a]) us
def twoP (kind : Int) (ts : List Tok) : Res T := match L.top ts.tail with
 | .error e => .error e
 | .ok (a, us) => match needP ⟨#[59]⟩ us with
   | .error e => .error e
   | .ok us => match L.top us with
     | .error e => .error e
     | .ok (b, us) => .ok (.mk kind ⟨#[]⟩ 0 0 [] (placeP ts) [a, b], us)
def colonP : List Tok → Bool | _ :: t :: _ => decide (t.kind = 5) && (t.text.toList == (⟨#[58]⟩ : ByteArray).toList) | _ => false
def topP (ts : List Tok) : Res T :=
 match ts with
 | [] => orP L ts
 | t :: us =>
   if nameT t && colonP ts then (match L.top us.tail with
    | .error e => .error e
    | .ok (a, vs) => .ok (.mk 11 t.text 0 0 [] t.place [a], vs))
   else if isT ⟨#[108, 101, 116]⟩ t then (match bindsL L.top us.length [⟨[], [], t.place⟩] us with
    | .error e => .error e
    | .ok (ar, vs) => match needP ⟨#[105, 110]⟩ vs with
      | .error e => .error e
      | .ok vs => match L.top vs with
        | .error e => .error e
        | .ok (b, vs) => .ok (rootOf 12 t.place [b] ar, vs))
   else if isT ⟨#[119, 105, 116, 104]⟩ t then twoP L 13 ts
   else if isT ⟨#[97, 115, 115, 101, 114, 116]⟩ t then twoP L 15 ts
   else if isT ⟨#[105, 102]⟩ t then (match ifL L [⟨#[105, 102]⟩, ⟨#[116, 104, 101, 110]⟩, ⟨#[101, 108, 115, 101]⟩] [] ts with
    | .error e => .error e
    | .ok (ks, vs) => .ok (.mk 14 ⟨#[]⟩ 0 0 [] t.place ks, vs))
   else orP L ts
def listL : Nat → List T → List Tok → Res (List T)
 | 0, ks, ts => .ok (ks, ts)
 | k + 1, ks, ts => if isP ⟨#[93]⟩ ts then .ok (ks, ts) else match selP L ts with
   | .error e => .error e
   | .ok (a, us) => listL k (ks ++ [a]) us
def listP (ts : List Tok) : Res T := match listL L ts.length [] ts.tail with
 | .error e => .error e
 | .ok (ks, us) => .ok (.mk 5 ⟨#[]⟩ 0 0 [] (placeP ts) ks, us.tail)
end
def deepP (ts : List Tok) : Res T := .error (placeP ts, 9)
def mkP (L : PF) : PF := ⟨topP L, listP L, updP L, catP L, selP L, fun ts => notP L ts.tail, fun ts => negP L ts.tail⟩
def Lv : Nat → PF
 | 0 => ⟨deepP, deepP, deepP, deepP, deepP, deepP, deepP⟩
 | n + 1 => mkP (Lv n)
structure Nd where
 kind : Int
 text : ByteArray
 int : Int
 flt : Nat
 names : List ByteArray
 kids : List Nat
 place : Nat
mutual
def flatP : T → List Nd → List Nd
 | .mk k t n x ns p ks, out => let r := flatK ks out []; r.1 ++ [⟨k, t, n, x, ns, r.2, p⟩]
def flatK : List T → List Nd → List Nat → List Nd × List Nat
 | [], out, is => (out, is)
 | t :: ks, out, is => let o := flatP t out; flatK ks o (is ++ [o.length - 1])
end
def parseP (pf : ByteArray → Nat) (s : ByteArray) : Except Er (List Nd) := match lexP pf s with
 | .error e => .error e
 | .ok ts => match (Lv 32).top ts with
   | .error e => .error e
   | .ok (t, us) => match us with
     | u :: _ => if u.kind = 0 then (if 1000 < (flatP t []).length then .error (0, 8) else .ok (flatP t [])) else .error (wrongP us)
     | [] => .error (wrongP us)
def Good (ts : List Tok) : Prop := ∃ us t, ts = us ++ [t] ∧ t.kind = 0 ∧ t.text = ⟨#[]⟩ ∧ ∀ u ∈ us, u.kind ≠ 0
theorem Good.ne {ts : List Tok} (h : Good ts) : ts ≠ [] := by
 obtain ⟨us, t, rfl, _⟩ := h; simp
theorem Good.cons {t : Tok} {ts : List Tok} (h : Good (t :: ts)) (hk : t.kind ≠ 0) : Good ts := by
 obtain ⟨us, u, he, h1, h2, h3⟩ := h; cases us with
 | nil =>
   simp at he; obtain ⟨rfl, rfl⟩ := he; exact absurd h1 hk
 | cons v vs =>
   simp at he; obtain ⟨rfl, rfl⟩ := he; exact ⟨vs, u, rfl, h1, h2, fun x hx => h3 x (List.mem_cons_of_mem _ hx)⟩
def Tl1 (ts us : List Tok) : Prop := us.length < ts.length ∧ Good us
def Tl0 (ts us : List Tok) : Prop := us.length ≤ ts.length ∧ Good us
theorem Tl1.le {ts us : List Tok} (h : Tl1 ts us) : Tl0 ts us := ⟨Nat.le_of_lt h.1, h.2⟩
theorem Tl1.trans {a b c : List Tok} (h : Tl1 a b) (k : Tl0 b c) : Tl1 a c := ⟨by have := h.1; have := k.1; omega, k.2⟩
theorem Tl0.trans {a b c : List Tok} (h : Tl0 a b) (k : Tl0 b c) : Tl0 a c := ⟨by have := h.1; have := k.1; omega, k.2⟩
theorem Tl0.trans1 {a b c : List Tok} (h : Tl0 a b) (k : Tl1 b c) : Tl1 a c := ⟨by have := h.1; have := k.1; omega, k.2⟩
theorem Tl0.refl {a : List Tok} (h : Good a) : Tl0 a a := ⟨Nat.le_refl _, h⟩
theorem Tl1.tail {t : Tok} {ts : List Tok} (h : Good (t :: ts)) (hk : t.kind ≠ 0) : Tl1 (t :: ts) ts := ⟨by simp, h.cons hk⟩
theorem isT_kind {s : ByteArray} {t : Tok} (h : isT s t = true) : t.kind ≠ 0 := by
 unfold isT at h; simp only [Bool.and_eq_true, Bool.or_eq_true, decide_eq_true_eq] at h; rcases h.2 with h | ⟨h, _⟩ <;> omega
theorem isP_cons {s : ByteArray} {ts : List Tok} (h : isP s ts = true) : ∃ t us, ts = t :: us ∧ isT s t = true := by
 cases ts with
 | nil => cases h
 | cons t us => exact ⟨t, us, rfl, h⟩
theorem isP_tail {s : ByteArray} {ts : List Tok} (hg : Good ts) (h : isP s ts = true) : Tl1 ts ts.tail := by
 obtain ⟨t, us, rfl, ht⟩ := isP_cons h; exact Tl1.tail hg (isT_kind ht)
theorem anyP_cons {ss : List ByteArray} {ts : List Tok} (h : anyP ss ts = true) : ∃ t us, ts = t :: us ∧ t.kind = 5 := by
 cases ts with
 | nil => cases h
 | cons t us =>
   unfold anyP at h; simp only [Bool.and_eq_true, decide_eq_true_eq] at h; exact ⟨t, us, rfl, h.1⟩
theorem needP_ok {s : ByteArray} {ts us : List Tok} (hg : Good ts) (h : needP s ts = .ok us) : Tl1 ts us := by
 unfold needP at h; split at h
 · cases h
   exact isP_tail hg (by assumption)
 · cases h
theorem nameT_kind {t : Tok} (h : nameT t = true) : t.kind = 1 := by
 unfold nameT at h; simp only [Bool.and_eq_true, decide_eq_true_eq] at h; exact h.1
theorem attrP_ok {ts us : List Tok} {n : ByteArray} (hg : Good ts) (h : attrP ts = .ok (n, us)) : Tl1 ts us := by
 cases ts with
 | nil => unfold attrP at h; cases h
 | cons t vs =>
   unfold attrP at h; simp only at h; split at h
   · rename_i hc
     cases h; refine Tl1.tail hg ?_; simp only [Bool.or_eq_true, decide_eq_true_eq] at hc; rcases hc with hc | hc
     · rw [nameT_kind hc]; decide
     · omega
   · cases h
theorem begP_cons {ts : List Tok} (h : begP ts = true) : ∃ t us, ts = t :: us ∧ t.kind ≠ 0 := by
 cases ts with
 | nil => cases h
 | cons t us =>
   refine ⟨t, us, rfl, fun h0 => ?_⟩; simp only [begP, begT, h0] at h; simp at h
def Sh {α : Type} (f : List Tok → Res α) : Prop := ∀ ts a us, Good ts → f ts = .ok (a, us) → Tl1 ts us
structure ShL (L : PF) : Prop where
 top : Sh L.top
 list : ∀ ts a us, Good ts → isP ⟨#[91]⟩ ts = true → L.list ts = .ok (a, us) → Tl1 ts us
 upd : Sh L.upd
 cat : Sh L.cat
 sel : Sh L.sel
 notT : ∀ s ts a us, Good ts → isP s ts = true → L.notT ts = .ok (a, us) → Tl1 ts us
 negT : ∀ s ts a us, Good ts → isP s ts = true → L.negT ts = .ok (a, us) → Tl1 ts us
theorem leftL_sh {above : List Tok → Res T} (h : Sh above) (ss : List ByteArray) : ∀ (k : Nat) (a : T) (ts : List Tok) (b : T) (us : List Tok), Good ts → leftL above ss k a ts = .ok (b, us) → Tl0 ts us := by
 intro k; induction k with
 | zero => intro a ts b us hg he; cases he; exact Tl0.refl hg
 | succ k ih =>
   intro a ts b us hg he; unfold leftL at he; split at he
   · rename_i hc
     obtain ⟨t, vs, rfl, hk⟩ := anyP_cons hc; simp only at he; have h1 := Tl1.tail hg (by omega); split at he
     · rename_i b' vs' hb
       have h2 := h _ _ _ h1.2 hb; exact (h1.trans (h2.le.trans (ih _ _ _ _ h2.2 he))).le
     · cases he
   · cases he; exact Tl0.refl hg
theorem leftP_sh {above : List Tok → Res T} (h : Sh above) (ss : List ByteArray) : Sh (leftP above ss) := by
 intro ts b us hg he; unfold leftP at he; split at he
 · rename_i a vs ha
   have h1 := h _ _ _ hg ha; exact h1.trans (leftL_sh h ss _ _ _ _ _ h1.2 he)
 · cases he
theorem onceP_sh {above : List Tok → Res T} (h : Sh above) (ss : List ByteArray) : Sh (onceP above ss) := by
 intro ts b us hg he; unfold onceP at he; split at he
 · rename_i a vs ha
   have h1 := h _ _ _ hg ha; split at he
   · rename_i hc
     obtain ⟨t, xs, rfl, hk⟩ := anyP_cons hc; simp only at he; have h2 := Tl1.tail h1.2 (by omega); split at he
     · rename_i b' vs' hb
       cases he; exact h1.trans (h2.trans (h _ _ _ h2.2 hb).le).le
     · cases he
   · cases he; exact h1
 · cases he
theorem rightP_sh {row above : List Tok → Res T} (hr : Sh row) (h : Sh above) (s : ByteArray) : Sh (rightP' row above s) := by
 intro ts b us hg he; unfold rightP' at he; split at he
 · rename_i a vs ha
   have h1 := h _ _ _ hg ha; split at he
   · rename_i hc
     have h2 := isP_tail h1.2 hc; obtain ⟨t, xs, rfl, hk⟩ := isP_cons hc; simp only at he; split at he
     · rename_i b' vs' hb
       cases he; exact h1.trans (h2.trans (hr _ _ _ h2.2 hb).le).le
     · cases he
   · cases he; exact h1
 · cases he
theorem prefixP_sh {row above : List Tok → Res T} {s : ByteArray} (hr : ∀ s ts a us, Good ts → isP s ts = true → row ts = .ok (a, us) → Tl1 ts us) (h : Sh above) (kind : Int) : Sh (prefixP row above s kind) := by
 intro ts b us hg he; unfold prefixP at he; split at he
 · rename_i hc
   split at he
   · rename_i a vs ha
     cases he; exact hr s _ _ _ hg hc ha
   · cases he
 · exact h _ _ _ hg he
theorem inhL_sh : ∀ (k : Nat) (ar : Ar) (ts : List Tok) (ar' : Ar) (us : List Tok), Good ts → inhL k ar ts = .ok (ar', us) → Tl0 ts us := by
 intro k; induction k with
 | zero => intro ar ts ar' us hg he; cases he; exact Tl0.refl hg
 | succ k ih =>
   intro ar ts ar' us hg he; unfold inhL at he; split at he
   · rename_i t vs
     split at he
     · rename_i hn
       have h1 := Tl1.tail hg (by rw [nameT_kind hn]; decide); split at he
       · cases he
       · exact (h1.trans (ih _ _ _ _ h1.2 he)).le
     · cases he; exact Tl0.refl hg
   · cases he; exact Tl0.refl hg
theorem pathL_sh : ∀ (k : Nat) (path : List ByteArray) (ts : List Tok) (p' : List ByteArray) (us : List Tok), Good ts → pathL k path ts = .ok (p', us) → Tl0 ts us := by
 intro k; induction k with
 | zero => intro path ts p' us hg he; cases he; exact Tl0.refl hg
 | succ k ih =>
   intro path ts p' us hg he; unfold pathL at he; split at he
   · rename_i hc
     have h1 := isP_tail hg hc; split at he
     · rename_i n vs ha
       have h2 := attrP_ok h1.2 ha; exact (h1.trans (h2.le.trans (ih _ _ _ _ h2.2 he))).le
     · cases he
   · cases he; exact Tl0.refl hg
theorem bindP_sh {expr : List Tok → Res T} (h : Sh expr) (ar : Ar) (ts : List Tok) (ar' : Ar) (us : List Tok) (hg : Good ts) (he : bindP expr ar ts = .ok (ar', us)) : Tl1 ts us := by
 unfold bindP at he; split at he
 · cases he
 · rename_i n0 u1 ha
   have h1 := attrP_ok hg ha; split at he
   · cases he
   · rename_i path u2 hp
     have h2 := pathL_sh _ _ _ _ _ h1.2 hp; split at he
     · cases he
     · rename_i u3 hn
       have h3 := needP_ok h2.2 hn; split at he
       · cases he
       · split at he
         · cases he
         · split at he
           · cases he
           · rename_i v u4 hv
             have h4 := h _ _ _ h3.2 hv; split at he
             · cases he
             · rename_i u5 hn5
               have h5 := needP_ok h4.2 hn5; cases he; exact h1.trans (h2.trans (h3.le.trans (h4.le.trans h5.le)))
theorem bindsL_sh {expr : List Tok → Res T} (h : Sh expr) : ∀ (k : Nat) (ar : Ar) (ts : List Tok) (ar' : Ar) (us : List Tok), Good ts → bindsL expr k ar ts = .ok (ar', us) → Tl0 ts us := by
 intro k; induction k with
 | zero => intro ar ts ar' us hg he; cases he; exact Tl0.refl hg
 | succ k ih =>
   intro ar ts ar' us hg he; unfold bindsL at he; split at he
   · cases he; exact Tl0.refl hg
   · rename_i t vs
     split at he
     · rename_i hc
       have h1 := Tl1.tail hg (isT_kind hc); split at he
       · cases he
       · rename_i ar1 u1 h9
         have h2 := inhL_sh _ _ _ _ _ h1.2 h9; split at he
         · cases he
         · rename_i u2 hn
           have h3 := needP_ok h2.2 hn; exact (h1.trans (h2.trans (h3.le.trans (ih _ _ _ _ h3.2 he)))).le
     · split at he
       · split at he
         · cases he
         · rename_i ar1 u1 hb
           have h1 := bindP_sh h _ _ _ _ hg hb; exact (h1.trans (ih _ _ _ _ h1.2 he)).le
       · cases he; exact Tl0.refl hg
theorem bracesP_sh {expr : List Tok → Res T} (h : Sh expr) (kind : Int) (place : Nat) : Sh (bracesP expr kind place) := by
 intro ts b us hg he; unfold bracesP at he; split at he
 · cases he
 · rename_i t u1 hb
   unfold bindsP at hb; split at hb
   · cases hb
   · rename_i ar u2 h9
     cases hb; have h1 := bindsL_sh h _ _ _ _ _ hg h9; split at he
     · cases he
     · rename_i u3 hn
       cases he; exact h1.trans1 (needP_ok h1.2 hn)
section
variable {L : PF} (hL : ShL L)
include hL
theorem atomP_sh : Sh (atomP L) := by
 intro ts b us hg he; unfold atomP at he; split at he
 · rename_i hc
   split at he
   · exact hL.list _ _ _ hg (by assumption) he
   · obtain ⟨t, vs, rfl, hk⟩ := begP_cons hc
     have h1 := Tl1.tail hg hk; simp only at he; split at he
     · cases he; exact h1
     · split at he
       · cases he; exact h1
       · split at he
         · cases he; exact h1
         · split at he
           · split at he
             · cases he
             · rename_i a u1 ha
               have h2 := hL.top _ _ _ h1.2 ha; split at he
               · cases he
               · rename_i u2 hn
                 cases he; exact h1.trans (h2.le.trans (needP_ok h2.2 hn).le)
           · split at he
             · exact h1.trans (bracesP_sh hL.top _ _ _ _ _ h1.2 he).le
             · split at he
               · split at he
                 · cases he
                 · rename_i u1 hn
                   have h2 := needP_ok h1.2 hn; exact h1.trans (h2.le.trans (bracesP_sh hL.top _ _ _ _ _ h2.2 he).le)
               · cases he; exact h1
 · cases he
theorem selL_sh : ∀ (k : Nat) (a : T) (ts : List Tok) (b : T) (us : List Tok), Good ts → selL L k a ts = .ok (b, us) → Tl0 ts us := by
 intro k; induction k with
 | zero => intro a ts b us hg he; cases he; exact Tl0.refl hg
 | succ k ih =>
   intro a ts b us hg he; unfold selL at he; split at he
   · rename_i hc
     have h1 := isP_tail hg hc; split at he
     · cases he
     · rename_i n u1 ha
       have h2 := attrP_ok h1.2 ha; split at he
       · rename_i ho
         have h3 := isP_tail h2.2 ho; split at he
         · cases he
         · rename_i b' u2 hb
           have h4 := hL.sel _ _ _ h3.2 hb; exact (h1.trans (h2.le.trans (h3.le.trans (h4.le.trans (ih _ _ _ _ h4.2 he))))).le
       · exact (h1.trans (h2.le.trans (ih _ _ _ _ h2.2 he))).le
   · cases he; exact Tl0.refl hg
theorem selP_sh : Sh (selP L) := by
 intro ts b us hg he; unfold selP at he; split at he
 · cases he
 · rename_i a u1 ha
   have h1 := atomP_sh hL _ _ _ hg ha; exact h1.trans (selL_sh hL _ _ _ _ _ h1.2 he)
theorem callL_sh : ∀ (k : Nat) (a : T) (ts : List Tok) (b : T) (us : List Tok), Good ts → callL L k a ts = .ok (b, us) → Tl0 ts us := by
 intro k; induction k with
 | zero => intro a ts b us hg he; cases he; exact Tl0.refl hg
 | succ k ih =>
   intro a ts b us hg he; unfold callL at he; split at he
   · split at he
     · cases he
     · rename_i b' u1 hb
       have h1 := selP_sh hL _ _ _ hg hb; exact (h1.trans (ih _ _ _ _ h1.2 he)).le
   · cases he; exact Tl0.refl hg
theorem callP_sh : Sh (callP L) := by
 intro ts b us hg he; unfold callP at he; split at he
 · cases he
 · rename_i a u1 ha
   have h1 := selP_sh hL _ _ _ hg ha; exact h1.trans (callL_sh hL _ _ _ _ _ h1.2 he)
theorem hasPr_sh : Sh (hasPr L) := by
 intro ts b us hg he; unfold hasPr at he; split at he
 · cases he
 · rename_i a u1 ha
   have h1 := callP_sh hL _ _ _ hg ha; split at he
   · rename_i hc
     have h2 := isP_tail h1.2 hc; split at he
     · cases he
     · rename_i n u2 hn
       cases he; exact h1.trans (h2.le.trans (attrP_ok h2.2 hn).le)
   · cases he; exact h1
theorem negP_sh : Sh (negP L) := prefixP_sh hL.negT (hasPr_sh hL) 17
theorem catP_sh : Sh (catP L) := rightP_sh hL.cat (negP_sh hL) _
theorem mulP_sh : Sh (mulPr L) := leftP_sh (catP_sh hL) _
theorem addP_sh : Sh (addP L) := leftP_sh (mulP_sh hL) _
theorem notP_sh : Sh (notP L) := prefixP_sh hL.notT (addP_sh hL) 16
theorem updP_sh : Sh (updP L) := rightP_sh hL.upd (notP_sh hL) _
theorem cmpP_sh : Sh (cmpP L) := onceP_sh (updP_sh hL) _
theorem eqP_sh : Sh (eqP L) := onceP_sh (cmpP_sh hL) _
theorem andP_sh : Sh (andP L) := leftP_sh (eqP_sh hL) _
theorem orP_sh : Sh (orP L) := leftP_sh (andP_sh hL) _
theorem ifL_sh : ∀ (ss : List ByteArray) (ks : List T) (ts : List Tok) (ks' : List T) (us : List Tok), Good ts → ifL L ss ks ts = .ok (ks', us) → Tl0 ts us := by
 intro ss; induction ss with
 | nil => intro ks ts ks' us hg he; cases he; exact Tl0.refl hg
 | cons s ss ih =>
   intro ks ts ks' us hg he; unfold ifL at he; split at he
   · cases he
   · rename_i u1 hn
     have h1 := needP_ok hg hn; split at he
     · cases he
     · rename_i a u2 ha
       have h2 := hL.top _ _ _ h1.2 ha; exact (h1.trans (h2.le.trans (ih _ _ _ _ h2.2 he))).le
theorem ifL_sh1 {s : ByteArray} {ss : List ByteArray} {ks : List T} {ts : List Tok} {ks' : List T} {us : List Tok} (hg : Good ts) (he : ifL L (s :: ss) ks ts = .ok (ks', us)) : Tl1 ts us := by
 unfold ifL at he; split at he
 · cases he
 · rename_i u1 hn
   have h1 := needP_ok hg hn; split at he
   · cases he
   · rename_i a u2 ha
     have h2 := hL.top _ _ _ h1.2 ha; exact h1.trans (h2.le.trans (ifL_sh hL _ _ _ _ _ h2.2 he))
theorem twoP_sh {s : ByteArray} {kind : Int} {ts us : List Tok} {b : T} (hg : Good ts) (hc : isP s ts = true) (he : twoP L kind ts = .ok (b, us)) : Tl1 ts us := by
 have h1 := isP_tail hg hc; unfold twoP at he; split at he
 · cases he
 · rename_i a u1 ha
   have h2 := hL.top _ _ _ h1.2 ha; split at he
   · cases he
   · rename_i u2 hn
     have h3 := needP_ok h2.2 hn; split at he
     · cases he
     · rename_i b' u3 hb
       cases he; exact h1.trans (h2.le.trans (h3.le.trans (hL.top _ _ _ h3.2 hb).le))
theorem topP_sh : Sh (topP L) := by
 intro ts b us hg he; cases ts with
 | nil => exact absurd rfl hg.ne
 | cons t vs =>
   unfold topP at he; simp only at he; split at he
   · rename_i hc
     simp only [Bool.and_eq_true] at hc; have h1 := Tl1.tail hg (by rw [nameT_kind hc.1]; decide); obtain ⟨c, xs, rfl, hk⟩ : ∃ c xs, vs = c :: xs ∧ c.kind = 5 := by
      cases vs with
      | nil => exact absurd hc.2 (by simp [colonP])
      | cons c xs =>
        have := hc.2; simp only [colonP, Bool.and_eq_true, decide_eq_true_eq] at this; exact ⟨c, xs, rfl, this.1⟩
     have h2 := Tl1.tail h1.2 (by omega); split at he
     · cases he
     · rename_i a u1 ha
       cases he; exact h1.trans (h2.le.trans (hL.top _ _ _ h2.2 ha).le)
   · split at he
     · rename_i hc
       have h1 := Tl1.tail hg (isT_kind hc); split at he
       · cases he
       · rename_i ar u1 h9
         have h2 := bindsL_sh hL.top _ _ _ _ _ h1.2 h9; split at he
         · cases he
         · rename_i u2 hn
           have h3 := needP_ok h2.2 hn; split at he
           · cases he
           · rename_i b' u3 hb
             cases he; exact h1.trans (h2.trans (h3.le.trans (hL.top _ _ _ h3.2 hb).le))
     · split at he
       · rename_i hc
         exact twoP_sh hL hg (s := ⟨#[119, 105, 116, 104]⟩) hc he
       · split at he
         · rename_i hc
           exact twoP_sh hL hg (s := ⟨#[97, 115, 115, 101, 114, 116]⟩) hc he
         · split at he
           · split at he
             · cases he
             · rename_i ks u1 hi
               cases he; exact ifL_sh1 hL hg hi
           · exact orP_sh hL _ _ _ hg he
theorem listL_sh : ∀ (k : Nat) (ks : List T) (ts : List Tok) (ks' : List T) (us : List Tok), Good ts → listL L k ks ts = .ok (ks', us) → Tl0 ts us ∧ (ts.length ≤ k → isP ⟨#[93]⟩ us = true) := by
 intro k; induction k with
 | zero => intro ks ts ks' us hg he; cases he; exact ⟨Tl0.refl hg, fun h => absurd (List.eq_nil_of_length_eq_zero (by omega)) hg.ne⟩
 | succ k ih =>
   intro ks ts ks' us hg he; unfold listL at he; split at he
   · cases he; exact ⟨Tl0.refl hg, fun _ => by assumption⟩
   · split at he
     · cases he
     · rename_i a u1 ha
       have h1 := selP_sh hL _ _ _ hg ha; obtain ⟨h2, h3⟩ := ih _ _ _ _ h1.2 he; exact ⟨(h1.trans h2).le, fun h => h3 (by have := h1.1; omega)⟩
theorem listP_sh (ts : List Tok) (b : T) (us : List Tok) (hg : Good ts) (hc : isP ⟨#[91]⟩ ts = true) (he : listP L ts = .ok (b, us)) : Tl1 ts us := by
 have h1 := isP_tail hg hc; unfold listP at he; split at he
 · cases he
 · rename_i ks u1 hl
   cases he; obtain ⟨h2, h3⟩ := listL_sh hL _ _ _ _ _ h1.2 hl; have h4 := isP_tail h2.2 (h3 (by have := h1.1; omega)); exact h1.trans (h2.trans h4.le)
theorem mkP_sh : ShL (mkP L) :=
 ⟨topP_sh hL, listP_sh hL, updP_sh hL, catP_sh hL, selP_sh hL,
  fun s ts a us hg hc he => by have h1 := isP_tail hg hc; exact h1.trans (notP_sh hL _ _ _ h1.2 he).le,
  fun s ts a us hg hc he => by have h1 := isP_tail hg hc; exact h1.trans (negP_sh hL _ _ _ h1.2 he).le⟩
end
theorem Lv_sh : ∀ n, ShL (Lv n)
 | 0 => ⟨fun ts a us _ h => (by cases h), fun ts a us _ _ h => (by cases h), fun ts a us _ h => (by cases h), fun ts a us _ h => (by cases h), fun ts a us _ h => (by cases h), fun s ts a us _ _ h => (by cases h), fun s ts a us _ _ h => (by cases h)⟩
 | n + 1 => mkP_sh (Lv_sh n)
theorem store_f64 (W : World) (a : Addr) (x : Nat) : (store a (.float .f64 x)).run Tryz.prog W = match W.cell? a with
 | some _ => if W.frozen? a then .halt (.unsupported (.unsafePointer "a write to bytes that a string shares")) W else .ok () (W.setCell a (.float .f64 x))
 | none => match W.farStore Tryz.prog a (.float .f64 x) (Mode.plain == .atomic) with
   | .ok (w', _) => .ok () w'
   | .error h => .halt h W := run_store Tryz.prog W a (.float .f64 x) .plain rfl
theorem fld0 (a b c d e : Value) (w : World) : (Instr.field 54 (.agg #[a, b, c, d, e]) 0).run Tryz.prog w = .ok a w := by kernel_rfl
theorem fld1 (a b c d e : Value) (w : World) : (Instr.field 54 (.agg #[a, b, c, d, e]) 1).run Tryz.prog w = .ok b w := by kernel_rfl
theorem fld4 (a b c d e : Value) (w : World) : (Instr.field 54 (.agg #[a, b, c, d, e]) 4).run Tryz.prog w = .ok e w := by kernel_rfl
structure But (pb B : Nat) (w w' : World) : Prop where
 os : w'.os = w.os
 tape : w'.tape = w.tape
 output : w'.output = w.output
 size : w.heap.size ≤ w'.heap.size
 block : ∀ k, k < B → k ≠ pb → w'.heap[k]? = w.heap[k]?
section
variable {pb B B' : Nat} {a w w' : World}
theorem But.refl (pb B : Nat) (w : World) : But pb B w w := ⟨rfl, rfl, rfl, Nat.le_refl _, fun _ _ _ => rfl⟩
theorem But.trans (h : But pb B a w) (k : But pb B w w') : But pb B a w' :=
 ⟨k.os.trans h.os, k.tape.trans h.tape, k.output.trans h.output, Nat.le_trans h.size k.size, fun i hi hn => (k.block i hi hn).trans (h.block i hi hn)⟩
theorem But.mono (h : But pb B w w') (hB : B' ≤ B) : But pb B' w w' := ⟨h.os, h.tape, h.output, h.size, fun k hk hn => h.block k (Nat.lt_of_lt_of_le hk hB) hn⟩
theorem But.of (h : Below B w w') : But pb B w w' := ⟨h.os, h.tape, h.output, h.size, fun k hk _ => h.block k hk⟩
theorem But.below (h : But pb B w w') (hB : B' ≤ B) (hp : B' ≤ pb) : Below B' w w' := ⟨h.os, h.tape, h.output, h.size, fun k hk => h.block k (by omega) (by omega)⟩
theorem But.then (h : But pb B a w) (k : Below B' w w') (hB : B ≤ B') : But pb B a w' := h.trans (But.of (k.mono hB))
theorem But.andThen (h : But pb B a w) (k : But pb B' w w') (hB : B ≤ B') : But pb B a w' := h.trans (k.mono hB)
theorem But.drew (h : But pb B a w) : But pb B a w.drew := h.trans (But.of (Below.drew (Below.refl _ _)))
theorem But.alloc (h : But pb B a w) (hB : B ≤ w.heap.size) (o : Obj) : But pb B a (w.alloc o) := h.trans (But.of ((Below.refl _ _).alloc hB o))
theorem But.setCell (h : But pb B a w) {p : Addr} (hp : p.block = pb ∨ B ≤ p.block) (u : Value) : But pb B a (w.setCell p u) := by
 have hs : (w.setCell p u).heap.size = w.heap.size := by simp [World.setCell]
 refine h.trans ⟨rfl, rfl, rfl, by omega, fun k hk hn => Below.heap_setCell w p u k ?_⟩; rcases hp with hp | hp <;> omega
theorem But.grown {row : Option Nat} (h : But pb B a w) (hg : w.grownBy w' row) (hB : B ≤ w.heap.size) (hr : ∀ k, row = some k → k = pb ∨ B ≤ k) : But pb B a w' :=
 h.trans ⟨hg.os, hg.tape, hg.output, hg.size, fun k hk hn => hg.block k (by omega) (fun e => by
  rcases hr k e.symm with h | h <;> omega)⟩
theorem But.cell (h : But pb B w w') {p : Addr} {v : Value} (hp : p.block < B) (hn : p.block ≠ pb) (hc : w.cell? p = some v) : w'.cell? p = some v :=
 (World.cell?_of_block (w := w) (h.block p.block hp hn)).trans hc
theorem But.get (h : But pb B w w') {k : Nat} {o : Obj} (hp : k < B) (hn : k ≠ pb) (hc : w.heap[k]? = some o) : w'.heap[k]? = some o := (h.block k hp hn).trans hc
end
def RowR (p : Nat → Prop) (w : World) (v : Value) (xs : List Value) : Prop :=
 (v = .slice none 0 0 ∧ xs = []) ∨ ∃ g cap cur e, v = .slice (some ⟨g, 0, none⟩) xs.length cap ∧ p g ∧ w.heap[g]? = some (.cells cur e (0, 0)) ∧ ∀ (j : Nat) u, xs[j]? = some u → cur[j]? = some u
def Keeps (p : Nat → Prop) (w w' : World) : Prop := ∀ k, p k → k < w.heap.size → w'.heap[k]? = w.heap[k]?
section
variable {p q : Nat → Prop} {w w' : World} {v : Value} {xs : List Value}
theorem RowR.keep (h : RowR p w v xs) (hk : Keeps p w w') : RowR p w' v xs := by
 rcases h with h | ⟨g, cap, cur, e, h1, h2, h3, h4⟩
 · exact Or.inl h
 · exact Or.inr ⟨g, cap, cur, e, h1, h2, (hk g h2 (block_lt h3)).trans h3, h4⟩
theorem RowR.mono (h : RowR p w v xs) (hpq : ∀ k, p k → k < w.heap.size → q k) : RowR q w v xs := by
 rcases h with h | ⟨g, cap, cur, e, h1, h2, h3, h4⟩
 · exact Or.inl h
 · exact Or.inr ⟨g, cap, cur, e, h1, hpq g h2 (block_lt h3), h3, h4⟩
theorem RowR.shape (h : RowR p w v xs) : ∃ a cap, v = .slice a xs.length cap := by
 rcases h with ⟨h1, h2⟩ | ⟨g, cap, cur, e, h1, h2, h3, h4⟩
 · exact ⟨none, 0, by rw [h1, h2]; rfl⟩
 · exact ⟨_, _, h1⟩
theorem RowR.cell {a : Option Addr} {n c : Nat} (h : RowR p w v xs) (hv : v = .slice a n c) {j : Nat} {u : Value} (hx : xs[j]? = some u) : ∃ g, a = some ⟨g, 0, none⟩ ∧ p g ∧ w.cell? ⟨g, j, none⟩ = some u := by
 rcases h with ⟨h1, h2⟩ | ⟨g, cap, cur, e, h1, h2, h3, h4⟩
 · subst h2; simp at hx
 · rw [h1] at hv
   simp only [Value.slice.injEq] at hv; obtain ⟨rfl, rfl, rfl⟩ := hv; exact ⟨g, rfl, h2, block_cell h3 (h4 j u hx)⟩
theorem RowR.own {base n size : Nat} {e : TypeId} (h : w.ownsRow base e size v n xs) (hs : size = 1) (hp : ∀ g, base ≤ g → v.ownBlock = some g → p g) : RowR p w v xs := by
 subst hs; obtain ⟨hl, h | ⟨g, cap, cur, h1, hb, hh, hle, hm, hsz, htk⟩⟩ := h
 · refine Or.inl ⟨h.1, ?_⟩
   rw [h.2] at hl; exact List.length_eq_zero_iff.1 (by omega)
 · refine Or.inr ⟨g, cap, cur, e, ?_, hp g hb ?_, hh, ?_⟩
   · rw [h1, hl, Nat.mul_one]
   · rw [h1]; rfl
   · intro j u hj
     rw [← htk, List.getElem?_take] at hj; split at hj
     · simpa using hj
     · cases hj
theorem But.keeps {pb B : Nat} (h : But pb B w w') (hB : w.heap.size ≤ B) (hp : ∀ k, p k → k ≠ pb) : Keeps p w w' := fun k hk hl => h.block k (by omega) (hp k hk)
theorem Below.keeps (h : Below w.heap.size w w') : Keeps p w w' := fun k _ hl => h.block k hl
end
def ptr (b : Nat) : Value := .pointer (some ⟨b, 0, none⟩)
def TC (kind : Int) (text : ByteArray) (int : Int) (flt : Nat) (vn : Value) (place : Int) (vk : Value) : Array Value :=
 #[.int .i64 kind, .string text, .int .i64 int, .float .f64 flt, vn, .slice none 0 0, .int .i64 place, vk]
inductive TR (p : Nat → Prop) (w : World) : Nat → T → Prop
 | mk {b : Nat} {kind : Int} {text : ByteArray} {int : Int} {flt : Nat} {names : List ByteArray} {place : Nat} {ks : List T} (vn vk : Value) (is : List Nat)
  (hb : p b) (h : w.heap[b]? = some (.cells (TC kind text int flt vn place vk) 85 (0, 0)))
  (hn : RowR p w vn (names.map Value.string)) (hk : RowR p w vk (is.map ptr)) (hl : is.length = ks.length)
  (hks : ∀ (i b : Nat) (t : T), is[i]? = some b → ks[i]? = some t → TR p w b t) : TR p w b (.mk kind text int flt names place ks)
section
variable {p q : Nat → Prop} {w w' : World} {b : Nat} {t : T}
theorem TR.keep (h : TR p w b t) (hk : Keeps p w w') : TR p w' b t := by
 induction h with
 | mk vn vk is hb h hn hk' hl _ ih => exact .mk vn vk is hb ((hk _ hb (block_lt h)).trans h) (hn.keep hk) (hk'.keep hk) hl ih
theorem TR.mono (h : TR p w b t) (hpq : ∀ k, p k → k < w.heap.size → q k) : TR q w b t := by
 induction h with
 | mk vn vk is hb h hn hk' hl _ ih => exact .mk vn vk is (hpq _ hb (block_lt h)) h (hn.mono hpq) (hk'.mono hpq) hl ih
theorem TR.lt (h : TR p w b t) : b < w.heap.size := by
 cases h with
 | mk vn vk is hb h hn hk' hl _ => exact block_lt h
theorem TR.at (h : TR p w b t) : p b := by
 cases h with
 | mk vn vk is hb h hn hk' hl _ => exact hb
end
section
variable {p : Nat → Prop} {w : World} {r kb c x y : Nat} {kind int : Int} {text : ByteArray} {flt place : Nat} {a b : T} {e : TypeId}
theorem TR.leaf (hr : w.heap[r]? = some (.cells #[.int .i64 kind, .string text, .int .i64 int, .float .f64 flt, .slice none 0 0, .slice none 0 0, .int .i64 (place : Int), .slice none 0 0] 85 (0, 0))) (hp : p r) :
 TR p w r (.mk kind text int flt [] place []) :=
 .mk _ _ [] hp hr (Or.inl ⟨rfl, rfl⟩) (Or.inl ⟨rfl, rfl⟩) rfl (fun i b t h => by simp at h)
theorem TR.one (hr : w.heap[r]? = some (.cells #[.int .i64 kind, .string text, .int .i64 int, .float .f64 flt, .slice none 0 0, .slice none 0 0, .int .i64 (place : Int), .slice (some ⟨kb, 0, none⟩) 1 c] 85 (0, 0))) (hp : p r)
 (hk : w.heap[kb]? = some (.cells #[.pointer (some ⟨x, 0, none⟩)] e (0, 0))) (hpk : p kb) (hx : TR p w x a) : TR p w r (.mk kind text int flt [] place [a]) :=
 .mk _ _ [x] hp hr (Or.inl ⟨rfl, rfl⟩) (Or.inr ⟨kb, c, _, e, rfl, hpk, hk, fun j u hj => by
  cases j with
  | zero => simpa [ptr] using hj
  | succ j => simp at hj⟩) rfl (fun i b t h h2 => by
  cases i with
  | zero => simp at h h2; subst h; subst h2; exact hx
  | succ j => simp at h)
theorem TR.two (hr : w.heap[r]? = some (.cells #[.int .i64 kind, .string text, .int .i64 int, .float .f64 flt, .slice none 0 0, .slice none 0 0, .int .i64 (place : Int), .slice (some ⟨kb, 0, none⟩) 2 c] 85 (0, 0))) (hp : p r)
 (hk : w.heap[kb]? = some (.cells #[.pointer (some ⟨x, 0, none⟩), .pointer (some ⟨y, 0, none⟩)] e (0, 0))) (hpk : p kb) (hx : TR p w x a) (hy : TR p w y b) : TR p w r (.mk kind text int flt [] place [a, b]) :=
 .mk _ _ [x, y] hp hr (Or.inl ⟨rfl, rfl⟩) (Or.inr ⟨kb, c, _, e, rfl, hpk, hk, fun j u hj => by
  match j with
  | 0 => simpa [ptr] using hj
  | 1 => simpa [ptr] using hj
  | j + 2 => simp at hj⟩) rfl (fun i b t h h2 => by
  match i with
  | 0 => simp at h h2; subst h; subst h2; exact hx
  | 1 => simp at h h2; subst h; subst h2; exact hy
  | j + 2 => simp at h)
end
def TB (w : World) (g off : Nat) (ts : List Tok) : Prop := ∃ cur, w.heap[g]? = some (.cells cur 54 (0, 0)) ∧ ∀ (j : Nat) u, (flatT ts)[j]? = some u → cur[off + j]? = some u
structure PS (w : World) (pb g n : Nat) (ts : List Tok) : Prop where
 cells : ∃ off cap, w.heap[pb]? = some (.cells #[.slice (some ⟨g, off, none⟩) ts.length cap, .int .i64 (32 - (n : Int))] 50 (0, 0)) ∧ ts.length ≤ cap ∧ cap ≤ maxLen ∧ TB w g off ts
 good : Good ts
 len : ts.length ≤ 5000
 lev : n ≤ 32
 low : g < pb
 ml : ∃ m, w.cell? ⟨4, 0, none⟩ = some (.int .i64 m)
 ml0 : (4 : Nat) < pb
section
variable {w w' : World} {pb g n : Nat} {ts : List Tok}
theorem PS.lt (h : PS w pb g n ts) : pb < w.heap.size := by
 obtain ⟨off, cap, h1, _⟩ := h.cells; exact block_lt h1
theorem PS.below {B : Nat} (h : PS w pb g n ts) (hb : Below B w w') (hB : pb < B) : PS w' pb g n ts := by
 obtain ⟨off, cap, h1, h2, h3, cur, h4, h5⟩ := h.cells; have hl := h.low; exact ⟨⟨off, cap, (hb.block pb hB).trans h1, h2, h3, cur, (hb.block g (by omega)).trans h4, h5⟩, h.good, h.len, h.lev, h.low, by
  obtain ⟨m, hm⟩ := h.ml; exact ⟨m, by rw [hb.cell (show (4 : Nat) < B by have := h.ml0; omega)]; exact hm⟩, h.ml0⟩
theorem PS.drew (h : PS w pb g n ts) : PS w.drew pb g n ts := h.below (Below.drew (Below.refl _ _)) h.lt
theorem flatT_cons (t : Tok) (ts : List Tok) : flatT (t :: ts) = t.cells ++ flatT ts := by simp [flatT]
theorem PS.split (h : PS w pb g n ts) : ∃ t us, ts = t :: us := by
 cases ts with
 | nil => exact absurd rfl h.good.ne
 | cons t us => exact ⟨t, us, rfl⟩
theorem TB.head {t : Tok} {us : List Tok} {off : Nat} (h : TB w g off (t :: us)) :
 w.cell? ⟨g, off, none⟩ = some (.int .i64 t.kind) ∧ w.cell? ⟨g, off + 1, none⟩ = some (.string t.text) ∧ w.cell? ⟨g, off + 2, none⟩ = some (.int .i64 t.num) ∧ w.cell? ⟨g, off + 3, none⟩ = some (.float .f64 t.bits) ∧ w.cell? ⟨g, off + 4, none⟩ = some (.int .i64 t.place) := by
 obtain ⟨cur, h1, h2⟩ := h; rw [flatT_cons] at h2; exact ⟨block_cell h1 (h2 0 _ rfl), block_cell h1 (h2 1 _ rfl), block_cell h1 (h2 2 _ rfl), block_cell h1 (h2 3 _ rfl), block_cell h1 (h2 4 _ rfl)⟩
theorem TB.tail {t : Tok} {us : List Tok} {off : Nat} (h : TB w g off (t :: us)) : TB w g (off + 5) us := by
 obtain ⟨cur, h1, h2⟩ := h; rw [flatT_cons] at h2; refine ⟨cur, h1, fun j u hj => ?_⟩
 have := h2 (5 + j) u (by rw [List.getElem?_append_right (by simp [Tok.cells])]; simpa [Tok.cells] using hj); rwa [← Nat.add_assoc] at this
theorem PS.set {n' off cap : Nat} {us : List Tok} (h : PS w pb g n ts) (hb : ∀ k, k < pb → w'.heap[k]? = w.heap[k]?) (hp : w'.heap[pb]? = some (.cells #[.slice (some ⟨g, off, none⟩) us.length cap, .int .i64 (32 - (n' : Int))] 50 (0, 0)))
 (h1 : us.length ≤ cap) (h2 : cap ≤ maxLen) (h3 : TB w g off us) (h4 : Good us) (h5 : us.length ≤ 5000) (h6 : n' ≤ 32) : PS w' pb g n' us := by
 obtain ⟨cur, h7, h8⟩ := h3; exact ⟨⟨off, cap, hp, h1, h2, cur, (hb g h.low).trans h7, h8⟩, h4, h5, h6, h.low, by
  obtain ⟨m, hm⟩ := h.ml; exact ⟨m, (World.cell?_of_block (w := w) (hb _ h.ml0)).trans hm⟩, h.ml0⟩
end
def stopV (p : Int) (er : Int) : List PanicEntry := [{ v := .iface 46 (.agg #[.int .i64 p, .int .i64 er]), recovered := false }]
def RdPost (pb g n : Nat) (w : World) (res : Res T) (e : Ending) (w' : World) : Prop :=
 match res with
 | .ok (t, us) => (∃ b, e = .returned (ptr b) ∧ TR (fun k => w.heap.size ≤ k) w' b t) ∧ PS w' pb g n us ∧ But pb w.heap.size w w'
 | .error (p, er) => e = .panicked (stopV p er) ∧ But pb w.heap.size w w'
def Reads (pb g n f : Nat) (args : Array Value) (F : List Tok → Res T) : Prop := ∀ (w : World) (ts : List Tok), PS w pb g n ts → Calls Tryz.prog f args w fun e w' => RdPost pb g n w (F ts) e w'
end Go.Proofs.YtkoghgnjjfnamaaGreatDoor
