/- The rings of units that the law makes, ordered: every one of them reckoned. -/
import Derived.Test.YtlhlbckmifgeeaaShown
namespace Go.Proofs.Ytlhlbckmifgeeaa
open Go.RowKit

def rn (i : Nat) : ByteArray := ⟨#[114, (97 + i).toUInt8]⟩
def an (i : Nat) : ByteArray := ⟨#[97, (97 + i).toUInt8]⟩
def ringU (n : Nat) (cut : Bool) (i : Nat) : U := ⟨rn i, ⟨#[]⟩, [], if cut && i == n - 1 then [] else [rn ((i + 1) % n)]⟩
def othU (i : Nat) : U := ⟨an i, ⟨#[]⟩, [], []⟩
def ringL (n : Nat) (cut : Bool) : List U := (List.range n).map (ringU n cut)
def othL (o : Nat) : List U := (List.range o).map othU
def rings (n o : Nat) (cut : Bool) : List U := ringL n cut ++ othL o
def wantR (n o : Nat) (cut : Bool) : List U × ByteArray × Int :=
  if cut then (othL o ++ (List.range n).map (fun i => ringU n cut (n - 1 - i)), ⟨#[]⟩, 0) else ([], rn 0, 29)
instance : DecidableEq U := fun a b =>
  if h : a.name = b.name ∧ a.start = b.start ∧ a.req = b.req ∧ a.aft = b.aft then isTrue (by cases a; cases b; simp at h; simp [h]) else isFalse (fun e => h (by subst e; simp))
def sortedR (n o : Nat) : List ByteArray := (List.range o).map an ++ (List.range n).map rn
def orderBy (us : List U) (ns : List ByteArray) : List U × ByteArray × Int :=
  if 24 < us.length then ([], ⟨#[]⟩, 30) else match twiceU us with
    | some s => ([], s, 10)
    | none => match ns.find? (lacks (byName us)) with
      | some s => ([], s, 28)
      | none => runU (byName us) us.length ns []
theorem orderBy_eq {us : List U} {ns : List ByteArray} (h : sortS (nm us) = ns) : orderU us = orderBy us ns := by
  subst h
  unfold orderU orderBy orderB orderC
  rfl
def perm? (a b : List ByteArray) : Bool := (a.map (·.data.toList)).isPerm (b.map (·.data.toList))
theorem perm_of {a b : List ByteArray} (h : perm? a b = true) : a.Perm b := by
  unfold perm? at h
  rw [List.isPerm_iff] at h
  have := h.map (fun l => (⟨l.toArray⟩ : ByteArray))
  have e := ofBytes_bytesOf a
  have e' := ofBytes_bytesOf b
  unfold ofBytes bytesOf at e e'
  rw [e, e'] at this
  exact this
def okR (n o : Nat) (c : Bool) : Bool := perm? (sortedR n o) (nm (rings n o c)) && decide ((bytesOf (sortedR n o)).Pairwise (fun x y => decide (x ≤ y) = true)) && decide (orderBy (rings n o c) (sortedR n o) = wantR n o c)
set_option maxRecDepth 100000 in
theorem okR_all : ∀ n : Fin 12, ∀ o : Fin 12, ∀ c : Bool, okR (n.val + 1) o.val c = true := by decide +kernel
theorem rings_order {n o : Nat} (h1 : 1 ≤ n) (h2 : n ≤ 12) (h3 : o < 12) (c : Bool) : orderU (rings n o c) = wantR n o c := by
  have h := okR_all ⟨n - 1, by omega⟩ ⟨o, h3⟩ c
  simp only at h
  rw [show n - 1 + 1 = n by omega] at h
  unfold okR at h
  rw [Bool.and_eq_true, Bool.and_eq_true, decide_eq_true_eq, decide_eq_true_eq] at h
  rw [orderBy_eq (sortS_eq (perm_of h.1.1) h.1.2)]
  exact h.2
end Go.Proofs.Ytlhlbckmifgeeaa
