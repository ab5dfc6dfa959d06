/- value.show and value.Show at any value: the walk. -/
import Derived.Test.YthefajkihnlgfaaGreatDoorM33
import Derived.Test.YthefajkihnlgfaaGreatDoorFlW
import Derived.Test.YthefajkihnlgfaaGreatDoorM21
import Derived.Lib.ItoaLen
import Derived.Test.YthefajkihnlgfaaGreatDoorM14
import Derived.Lib.SliceRun
import Derived.Deep.RegionWith
namespace Go.Proofs.YthefajkihnlgfaaGreatDoor
open Go.RowKit Go.Shelf
set_option linter.unusedSimpArgs false
set_option linter.unusedVariables false
attribute [local go_sem] store_flt
set_option maxHeartbeats 4000000 in
set_option maxRecDepth 100000 in
theorem show_text {d : Nat} (g m : Nat) (l : List UInt8) (v : V) (r f : Value) (w0 w : World) (h : VI d w0 v r f) (ht : v.text.size ≤ 1024) (hI : IB g l w) (hlen : l.length + (qB v.text).length ≤ 100000000000) (hk : v.kind = 4) :
    Calls Tryz.prog 21 #[.pointer (some ⟨g, 0, none⟩), .agg #[.int .i64 v.kind, .int .i64 v.int, .float .f64 v.flt, .string v.text, r, f]] w fun e w' =>
      e = .returned (.tuple #[]) ∧ IB g (l ++ qB v.text) w' ∧ KW g w w' := by
  have hgw := hI.lt
  have HQ := Lib.hid (fun W => quote_any v.text ht W)
  have HW := Lib.hid (fun W (hW : IB g l W) => ws_any hW ⟨(qB v.text).toArray⟩ (by rw [ba_len]; omega))
  have HD : Hid ((⟨(qB v.text).toArray⟩ : ByteArray).data.toList = qB v.text) := Lib.hid (by simp)
  obtain ⟨ra, rc, a, cap, rfl, rfl, hbd, hts⟩ := h.shape
  have HIB := Lib.hid hI
  clear h hI hlen
  generalize v.names.length = nn at *
  generalize v.items.length = ni at *
  obtain ⟨R, hR⟩ : ∃ R : ByteArray, ⟨(qB v.text).toArray⟩ = R := ⟨_, rfl⟩
  rw [hR] at HQ HW HD
  generalize qB v.text = T at *
  clear hR
  rw [hk]
  go_enter Tryz.func21, Tryz.ntmps21
  go_wp2_with fail
  refine (HQ.out _).mono ?_
  rintro e w1 ⟨rfl, hb1⟩
  have hB1 : Below w.heap.size w w1 := Below.next ((Below.refl _ _).alloc (Nat.le_refl _) _) hb1
  have hI1 := HIB.out.below hB1
  go_wp2_with fail
  refine (HW.out _ hI1).mono ?_
  rintro e w2 ⟨⟨v2, rfl⟩, hI2, hk2⟩
  rw [HD.out] at hI2
  go_wp2_with fail
  go_end0
  exact ⟨rfl, hI2, (KW.of_below (Nat.le_of_lt hgw) hB1).trans hk2⟩
set_option maxHeartbeats 4000000 in
set_option maxRecDepth 100000 in
theorem show_fun {d : Nat} (g m : Nat) (l : List UInt8) (v : V) (r f : Value) (w0 w : World) (h : VI d w0 v r f) (hI : IB g l w) (hlen : l.length + 8 ≤ 100000000000) (hk : v.kind = 7) :
    Calls Tryz.prog 21 #[.pointer (some ⟨g, 0, none⟩), .agg #[.int .i64 v.kind, .int .i64 v.int, .float .f64 v.flt, .string v.text, r, f]] w fun e w' =>
      e = .returned (.tuple #[]) ∧ IB g (l ++ [102, 117, 110, 99, 116, 105, 111, 110]) w' ∧ KW g w w' := by
  have hgw := hI.lt
  have HW := Lib.hid (fun W (hW : IB g l W) => ws_any hW ⟨#[102, 117, 110, 99, 116, 105, 111, 110]⟩ (by show _ + 8 ≤ _; omega))
  obtain ⟨ra, rc, a, cap, rfl, rfl, hbd, hts⟩ := h.shape
  have HIB := Lib.hid hI
  clear h hI hlen
  generalize v.names.length = nn at *
  generalize v.items.length = ni at *
  rw [hk]
  go_enter Tryz.func21, Tryz.ntmps21
  go_wp2_with fail
  refine (HW.out _ (HIB.out.below ((Below.refl _ _).alloc (Nat.le_refl _) _))).mono ?_
  rintro e w2 ⟨⟨v2, rfl⟩, hI2, hk2⟩
  go_wp2_with fail
  go_end0
  exact ⟨rfl, hI2, (KW.of_below (Nat.le_of_lt hgw) ((Below.refl _ _).alloc (Nat.le_refl _) _)).trans hk2⟩
theorem show_any : ∀ d, ShowAt d := by
  intro d
  induction d with
  | zero => intro B0 g m l v r f w0 w _ h; exact h.elim
  | succ d ih =>
    intro B0 g m l v r f w0 w hG h hb hg hN hr hI hlen
    obtain ⟨k, n, x, t, ns, is⟩ := v
    have hS : showP (d + 1) (.mk k n x t ns is) = if k = 4 then qB t else if k = 7 then [102, 117, 110, 99, 116, 105, 111, 110] else if k = 5 then 91 :: (shI (showP d) is is.length ++ [32, 93]) else if k = 6 then 123 :: (shS (showP d) (ns.zip is) is.length ++ [32, 125]) else textP (.mk k n x t ns is) := rfl
    by_cases h5 : k = 5
    · subst h5
      exact show_list ih B0 g m l n x t ns is r f w0 w hG h hb hg hN hr hI hlen
    by_cases h6 : k = 6
    · subst h6
      exact show_set ih B0 g m l n x t ns is r f w0 w hG h hb hg hN hr hI hlen
    by_cases h4 : k = 4
    · have ht := right_text (v := .mk k n x t ns is) h4 hr
      rw [if_pos h4] at hS
      rw [hS] at hlen ⊢
      exact show_text g m l (.mk k n x t ns is) r f w0 w h ht hI hlen h4
    by_cases h7 : k = 7
    · rw [if_neg h4, if_pos h7] at hS
      rw [hS] at hlen ⊢
      exact show_fun g m l (.mk k n x t ns is) r f w0 w h hI hlen h7
    · rw [if_neg h4, if_neg h7, if_neg h5, if_neg h6] at hS
      rw [hS] at hlen ⊢
      have hk := right_kind hr
      exact show_plain B0 g m l (.mk k n x t ns is) r f w0 w hG h hb hg hN hr hI hlen (by simp only [V.kind] at hk ⊢; omega)
/-- Show's text. -/
def shT (d : Nat) (v : V) : List UInt8 := if rightP d 32 v = true then showP d v else []
set_option maxHeartbeats 4000000 in
set_option maxRecDepth 100000 in
theorem Show_any {B0 d : Nat} {v : V} {r f : Value} {w : World} (hG : RG B0 w) (h : VI d w v r f) (hN : NumV d v) (hlen : (shT d v).length ≤ 100000000000) :
    Calls Tryz.prog 15 #[.agg #[.int .i64 v.kind, .int .i64 v.int, .float .f64 v.flt, .string v.text, r, f]] w fun e w' => e = .returned (.string ⟨(shT d v).toArray⟩) ∧ Below w.heap.size w w' := by
  have HR := Lib.hid (fun W (hW : Below w.heap.size w W) => Right_any (h.keeps hW))
  cases hr : rightP d 32 v with
  | false =>
    have e : shT d v = [] := by unfold shT; rw [hr]; rfl
    rw [e]
    rw [hr] at HR
    obtain ⟨ra, rc, a, cap, rfl, rfl, hbd, hts⟩ := h.shape
    clear h hG hN hlen hr e
    generalize v.names.length = nn at *
    generalize v.items.length = ni at *
    go_enter Tryz.func15, Tryz.ntmps15
    go_wp2_with fail
    refine (HR.out _ ((Below.refl _ _).alloc (Nat.le_refl _) _)).mono ?_
    rintro e w1 ⟨rfl, hb1⟩
    go_wp2_with fail
    go_ret
    exact ⟨rfl, Below.next ((Below.refl _ _).alloc (Nat.le_refl _) _) hb1⟩
  | true =>
    have e : shT d v = showP d v := by unfold shT; rw [hr]; rfl
    rw [e] at hlen ⊢
    rw [hr] at HR
    have HS : Hid (∀ (g : Nat) (W : World), Below w.heap.size w W → w.heap.size ≤ g → IB g [] W → Calls Tryz.prog 21 #[.pointer (some ⟨g, 0, none⟩), .agg #[.int .i64 v.kind, .int .i64 v.int, .float .f64 v.flt, .string v.text, r, f]] W fun e w' => e = .returned (.tuple #[]) ∧ IB g (showP d v) w' ∧ KW g W w') :=
      Lib.hid fun g W hW hg hI => show_any d B0 g 32 [] v r f w W hG h hW hg hN hr hI (by simpa using hlen)
    obtain ⟨ra, rc, a, cap, rfl, rfl, hbd, hts⟩ := h.shape
    clear h hG hN hlen hr e
    generalize v.names.length = nn at *
    generalize v.items.length = ni at *
    generalize showP d v = T at *
    go_enter Tryz.func15, Tryz.ntmps15
    go_wp2_with fail
    refine (HR.out _ ((Below.refl _ _).alloc (Nat.le_refl _) _)).mono ?_
    rintro e w1 ⟨rfl, hb1⟩
    have hB1 : Below w.heap.size w w1 := Below.next ((Below.refl _ _).alloc (Nat.le_refl _) _) hb1
    have hx1 := block_alloc (block_below (hb := hb1) (h := block_new _ _ rfl)) (.cells #[.pointer none, .slice none 0 0] 54 (0, 0))
    have hI1 : IB w1.heap.size [] (w1.alloc (.cells #[.pointer none, .slice none 0 0] 54 (0, 0))) := Lib.fresh_isBuilder 54 5 w1
    have q0 := block_cell (i := 0) hx1 rfl
    have q1 := block_cell (i := 1) hx1 rfl
    have q2 := block_cell (i := 2) hx1 rfl
    have q3 := block_cell (i := 3) hx1 rfl
    have q4 := block_cell (i := 4) hx1 rfl
    have q5 := block_cell (i := 5) hx1 rfl
    clear hx1 hb1
    go_wp2_with fail
    refine (HS.out w1.heap.size _ (hB1.alloc hB1.size _) hB1.size hI1).mono ?_
    rintro e w2 ⟨rfl, hI2, hk2⟩
    have hl2 := hI2.lt
    go_wp2_with fail
    refine (Tryz.Builder_String_any w1.heap.size w1.heap.size T w2 hI2 (Nat.le_of_lt hl2)).mono ?_
    rintro e w3 ⟨rfl, hb3⟩
    go_wp2_with fail
    go_ret
    exact ⟨rfl, hB1.trans ((((Below.refl w1.heap.size w1).alloc (Nat.le_refl _) _).trans (hk2.below.trans hb3)).mono hB1.size)⟩
end Go.Proofs.YthefajkihnlgfaaGreatDoor

/- Plain: how long a value's text is. -/
namespace Go.Proofs.YthefajkihnlgfaaGreatDoor
open Go.RowKit
/-- How many parts a value has. -/
def cntP : Nat → V → Nat
  | 0, _ => 1
  | d + 1, v => 1 + (v.items.map (cntP d)).sum
theorem fltT_len {b : Nat} (hb : b < 18446744073709551616) : (fltT b).length ≤ 2050 := by
  unfold fltT
  split
  · simp
  · split
    · simp
    · split
      · simp
      · rename_i h1 h2 h3
        have hE : ftE b ≠ 2047 := fun e => by
          rcases not_fin hb e with h | h | h
          · exact h1 h.1
          · exact h2 h
          · exact h3 h
        have dot : ∀ l : List UInt8, l.length ≤ 1000 → (dotT l).length ≤ 1002 := fun l hl => by
          unfold dotT
          split
          · omega
          · simp; omega
        split
        · rename_i hc
          have := fT101_len hb hE hc.1
          rw [List.length_append]
          have := dot _ (show (fmS (ftN b) ++ fmM (ftD b)).length ≤ 1000 by omega)
          omega
        · have := dot _ (fT102_len hb hE)
          omega
theorem sum_ge {l : List Nat} (h : ∀ x, x ∈ l → 1 ≤ x) : l.length ≤ l.sum := by
  induction l with
  | nil => simp
  | cons a r ih =>
    have h1 := h a List.mem_cons_self
    have h2 := ih (fun x hx => h x (List.mem_cons_of_mem _ hx))
    simp only [List.length_cons, List.sum_cons]
    omega
theorem shI_len {f : V → List UInt8} {g : V → Nat} : ∀ (xs : List V), (∀ x, x ∈ xs → (f x).length + 2100 ≤ 4200 * g x) → (shI f xs xs.length).length ≤ 4200 * (xs.map g).sum
  | [], _ => by simp [shI]
  | a :: r, h => by
    have h1 := h a List.mem_cons_self
    have h2 := shI_len r (fun x hx => h x (List.mem_cons_of_mem _ hx))
    unfold shI at h2 ⊢
    rw [List.take_length] at h2 ⊢
    rw [List.flatMap_cons, List.length_append, List.length_cons, List.map_cons, List.sum_cons]
    omega
theorem shS_len {f : V → List UInt8} {g : V → Nat} : ∀ (ns : List ByteArray) (xs : List V), ns.length = xs.length → (∀ s, s ∈ ns → s.size ≤ 1024) → (∀ x, x ∈ xs → (f x).length + 2100 ≤ 4200 * g x) → (shS f (ns.zip xs) xs.length).length ≤ 4200 * (xs.map g).sum
  | [], [], _, _, _ => by simp [shS]
  | n :: ns, a :: r, hl, hn, h => by
    have h0 := hn n List.mem_cons_self
    have hq := qB_len n
    have h1 := h a List.mem_cons_self
    have h2 := shS_len ns r (by simpa using hl) (fun s hs => hn s (List.mem_cons_of_mem _ hs)) (fun x hx => h x (List.mem_cons_of_mem _ hx))
    unfold shS at h2 ⊢
    rw [List.zip_cons_cons, List.length_cons, List.take_succ_cons, List.flatMap_cons, List.length_append, List.map_cons, List.sum_cons]
    simp only [List.length_cons, List.length_append, List.length_nil]
    omega
  | [], _ :: _, hl, _, _ => by simp at hl
  | _ :: _, [], hl, _, _ => by simp at hl
theorem showP_len : ∀ (d m : Nat) (v : V), NumV d v → rightP d m v = true → (showP d v).length + 2100 ≤ 4200 * cntP d v
  | 0, m, v, _, h => by simp [rightP] at h
  | d + 1, m, v, hN, h => by
    have ih : ∀ x, x ∈ v.items → (v.kind = 5 ∨ v.kind = 6) → (showP d x).length + 2100 ≤ 4200 * cntP d x := fun x hx hk => by
      obtain ⟨k, _, hr⟩ := right_items hk h hx
      exact showP_len d k x (hN.2.2 x hx) hr
    have hc : cntP (d + 1) v = 1 + (v.items.map (cntP d)).sum := rfl
    rw [hc]
    have hS : showP (d + 1) v = if v.kind = 4 then qB v.text else if v.kind = 7 then [102, 117, 110, 99, 116, 105, 111, 110] else if v.kind = 5 then 91 :: (shI (showP d) v.items v.items.length ++ [32, 93]) else if v.kind = 6 then 123 :: (shS (showP d) (v.names.zip v.items) v.items.length ++ [32, 125]) else textP v := rfl
    rw [hS]
    by_cases h4 : v.kind = 4
    · rw [if_pos h4]
      have := qB_len v.text
      have := right_text h4 h
      omega
    rw [if_neg h4]
    by_cases h7 : v.kind = 7
    · rw [if_pos h7]
      simp only [List.length_cons, List.length_nil]
      omega
    rw [if_neg h7]
    by_cases h5 : v.kind = 5
    · rw [if_pos h5]
      have := shI_len (f := showP d) (g := cntP d) v.items (fun x hx => ih x hx (Or.inl h5))
      simp only [List.length_cons, List.length_append, List.length_nil]
      omega
    rw [if_neg h5]
    by_cases h6 : v.kind = 6
    · rw [if_pos h6]
      obtain ⟨e1, e2, _⟩ := right_names h6 h
      have := shS_len (f := showP d) (g := cntP d) v.names v.items e1 (fun s hs => by obtain ⟨i, hi⟩ := List.getElem?_of_mem hs; exact e2 i s hi) (fun x hx => ih x hx (Or.inr h6))
      simp only [List.length_cons, List.length_append, List.length_nil]
      omega
    rw [if_neg h6]
    have ht : (textP v).length ≤ 2050 := by
      unfold textP
      split
      · simp
      · split
        · split <;> simp
        · split
          · have := Lib.itoa_length_le v.int hN.1.1 hN.1.2
            have e : ((⟨(Lib.itoa v.int).toArray⟩ : ByteArray).size) = (Lib.itoa v.int).length := ba_len _
            omega
          · exact fltT_len hN.2.1
    omega
theorem shT_len {d : Nat} {v : V} (hN : NumV d v) : (shT d v).length ≤ 4200 * cntP d v := by
  unfold shT
  split
  · rename_i h
    have := showP_len d 32 v hN h
    omega
  · simp
end Go.Proofs.YthefajkihnlgfaaGreatDoor

/- slices.Clone at strings, and the program's copy of a unit. -/
namespace Go.Proofs.YthefajkihnlgfaaGreatDoor
open Go.RowKit

/-- A list of strings of the call's own. -/
def OS (base : Nat) (w : World) (v : Value) (ss : List ByteArray) : Prop := w.ownsRow base 9 1 v ss.length (ss.map Value.string)
theorem OS.below {base : Nat} {w w' : World} {v : Value} {ss : List ByteArray} (h : OS base w v ss) (hb : Below w.heap.size w w') : OS base w' v ss := own_below h hb

set_option maxHeartbeats 400000 in
theorem clone_any {p : Nat → Prop} {v : Value} {ss : List ByteArray} {w : World} (h : SLP p w v ss) :
    Calls Tryz.prog 12 #[v] w fun e w' => ∃ v', e = .returned v' ∧ OS w.heap.size w' v' ss ∧ Below w.heap.size w w' := by
  have h' := h
  obtain ⟨a, cap, rfl, _, hl, _⟩ := h'
  cases a with
  | none =>
    obtain ⟨_, rfl, rfl⟩ := nil_of_none h
    have hres := Lib.hid (show OS w.heap.size w (.slice none 0 0) [] from World.ownsRow_nil _ _ _ _)
    have hnil := fun (w : World) (a : Option Addr) (n c : Nat) => Lib.run_eql_slice_nil (P := Tryz.prog) w 24 9 a n c 0 0 Tryz.underlying24
    go_enter Tryz.func12, Tryz.ntmps12
    go_wp2_with fail
    go_ret
    exact ⟨_, rfl, hres.out, Below.refl _ _⟩
  | some ad =>
    obtain ⟨b, o, s⟩ := ad
    have hnil := fun (w : World) (a : Option Addr) (n c : Nat) => Lib.run_eql_slice_nil (P := Tryz.prog) w 24 9 a n c 0 0 Tryz.underlying24
    go_enter Tryz.func12, Tryz.ntmps12
    have tok1 : True := trivial
    go_wp2_with (at_builtin; have _t := tok1
                 refine append_strs rfl _ _ rfl w.heap.size (.slice (some ⟨w.heap.size, 0, none⟩) 0 0) 0 [] rfl (ownsRow_new0 (Nat.le_refl _) rfl) (.slice (some ⟨b, o, s⟩) ss.length cap) ss _ rfl (SLP.keeps (by (repeat' (first | (with_reducible exact Below.refl _ _) | (with_reducible assumption) | (with_reducible refine below_drewN ?_ _) | (with_reducible refine Below.drew ?_) | (with_reducible refine Below.alloc ?_ ?_ _) | (with_reducible refine Below.setCell ?_ ?_ _) | omega | (simp; done) | (simp; omega)))) h) (by omega) (by simp) ?_
                 intro v1 w1 hown1 hg1 hl1
                 have hbw1 : Below w.heap.size w w1 := Below.grown (w := w.alloc _) (by (repeat' (first | (with_reducible exact Below.refl _ _) | (with_reducible assumption) | (with_reducible refine below_drewN ?_ _) | (with_reducible refine Below.drew ?_) | (with_reducible refine Below.alloc ?_ ?_ _) | (with_reducible refine Below.setCell ?_ ?_ _) | omega | (simp; done) | (simp; omega)))) hg1 (by simp) (liesS (Nat.le_refl _))
                 have HR := Lib.hid (show OS w.heap.size w1 v1 ss by simpa [OS] using hown1)
                 clear tok1 hown1 hl1)
    go_ret
    exact ⟨_, rfl, HR.out, hbw1⟩

theorem OS.mono {base base' : Nat} {w : World} {v : Value} {ss : List ByteArray} (h : OS base w v ss) (hb : base' ≤ base) : OS base' w v ss := by
  obtain ⟨h1, h2⟩ := h
  refine ⟨h1, ?_⟩
  rcases h2 with h2 | ⟨g, cap, cur, hv, hg, r⟩
  · exact Or.inl h2
  · exact Or.inr ⟨g, cap, cur, hv, Nat.le_trans hb hg, r⟩
theorem OS.set {base : Nat} {w : World} {v : Value} {ss : List ByteArray} (h : OS base w v ss) {a : Addr} (ha : a.block < base) (x : Value) : OS base (w.setCell a x) v ss := ownsRow_setCell_below h ha x
theorem OS.keptG {base : Nat} {w w' : World} {v : Value} {ss : List ByteArray} {row : Option Nat} (h : OS base w v ss) (hg : w.grownBy w' row) (hr : ∀ k, row = some k → k < base) : OS base w' v ss :=
  World.ownsRow.kept h hg (by
    cases hv : v.ownBlock with
    | none => exact Or.inl rfl
    | some j => exact Or.inr (fun e => by have h1 := (World.ownsRow.lt h j hv).1; have h2 := hr j e.symm; omega))
theorem OS.low {base : Nat} {w : World} {v : Value} {ss : List ByteArray} (h : OS base w v ss) {g : Nat} (hg : g < base) : some g ≠ v.ownBlock := fun e => by have := (World.ownsRow.lt h g e.symm).1; omega
theorem OS.lows {base : Nat} {w : World} {v : Value} {ss : List ByteArray} (h : OS base w v ss) : ∀ j, v.ownBlock = some j → base ≤ j := fun j hj => (World.ownsRow.lt h j hj).1
theorem OS.snoc {base : Nat} {w : World} {v : Value} {ss : List ByteArray} {s : ByteArray} (h : w.ownsRow base 9 1 v (ss.length + 1) (ss.map Value.string ++ [.string s])) : OS base w v (ss ++ [s]) := by
  unfold OS
  simpa using h
theorem OS.slp {base : Nat} {w : World} {v : Value} {ss : List ByteArray} (h : OS base w v ss) (hl : ss.length ≤ 8796093021952) (hs : ∀ s, s ∈ ss → s.size ≤ maxLen) : SLP (fun b => base ≤ b ∧ v.ownBlock = some b) w v ss := by
  obtain ⟨hx, hc⟩ := h
  rcases hc with ⟨rfl, h0⟩ | ⟨g, cap, cur, rfl, hb, hh, hle, hm, hsz, htk⟩
  · have : ss = [] := List.eq_nil_of_length_eq_zero h0
    subst this
    exact ⟨none, 0, rfl, fun _ => rfl, hl, fun i s h => by simp at h⟩
  · refine ⟨_, _, rfl, (fun h => by cases h), hl, fun i s hi => ⟨g, 0, rfl, ?_, hs s (List.mem_of_getElem? hi), hb, rfl⟩⟩
    rw [Nat.zero_add, cell_of_row w g i cur 9 (0, 0) hh]
    have hlt := (List.getElem?_eq_some_iff.1 hi).1
    have : (ss.map Value.string)[i]? = some (Value.string s) := by rw [List.getElem?_map, hi]; rfl
    rw [← htk, List.getElem?_take] at this
    split at this
    · simpa using this
    · cases this
theorem OS.slpF {base : Nat} {w : World} {v : Value} {ss : List ByteArray} (h : OS base w v ss) (hl : ss.length ≤ 8796093021952) (hs : ∀ s, s ∈ ss → s.size ≤ maxLen) : SLP (fun b => base ≤ b ∧ Fz w b) w v ss :=
  (h.slp hl hs).mono fun _ hb => ⟨hb.1, own_fz h hb.2⟩
theorem OS.shape {base : Nat} {w : World} {v : Value} {ss : List ByteArray} (h : OS base w v ss) : ∃ a cap, v = .slice a ss.length cap := by
  rcases h.2 with ⟨rfl, h0⟩ | ⟨g, cap, _, rfl, _⟩
  · exact ⟨none, 0, by rw [h0]⟩
  · exact ⟨_, _, rfl⟩

end Go.Proofs.YthefajkihnlgfaaGreatDoor

