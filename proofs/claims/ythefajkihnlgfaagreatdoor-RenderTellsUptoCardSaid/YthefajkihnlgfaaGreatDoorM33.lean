/- value.show and Show of a right value: the walk. -/
import Derived.Test.YthefajkihnlgfaaGreatDoorM22
import Derived.Test.YthefajkihnlgfaaGreatDoorTxW
import Derived.Test.YthefajkihnlgfaaGreatDoorM32
namespace Go.Proofs.YthefajkihnlgfaaGreatDoor
open Go.RowKit Go.Shelf
set_option linter.unusedSimpArgs false
set_option linter.unusedVariables false
attribute [local go_sem] store_flt
def ShowAt (d : Nat) : Prop := ∀ (B0 g m : Nat) (l : List UInt8) (v : V) (r f : Value) (w0 w : World), RG B0 w0 → VI d w0 v r f → Below w0.heap.size w0 w → w0.heap.size ≤ g → NumV d v → rightP d m v = true → IB g l w → l.length + (showP d v).length ≤ 100000000000 →
    Calls Tryz.prog 21 #[.pointer (some ⟨g, 0, none⟩), .agg #[.int .i64 v.kind, .int .i64 v.int, .float .f64 v.flt, .string v.text, r, f]] w fun e w' =>
      e = .returned (.tuple #[]) ∧ IB g (l ++ showP d v) w' ∧ KW g w w'
theorem KW.base {g : Nat} {w0 w w' : World} (h : KW g w w') (hb : Below w0.heap.size w0 w) (hg : w0.heap.size ≤ g) : Below w0.heap.size w0 w' := hb.trans (h.below.mono hg)
theorem KW.next {g : Nat} {a b c : World} (h : KW g a b) (hg : g < b.heap.size) (k : Below b.heap.size b c) : KW g a c := h.trans (KW.of_below (Nat.le_of_lt hg) k)
set_option maxHeartbeats 4000000 in
set_option maxRecDepth 100000 in
theorem show_plain {d : Nat} (B0 g m : Nat) (l : List UInt8) (v : V) (r f : Value) (w0 w : World) (hG : RG B0 w0) (h : VI d w0 v r f) (hb : Below w0.heap.size w0 w) (hg : w0.heap.size ≤ g) (hN : NumV d v) (hr : rightP d m v = true) (hI : IB g l w)
    (hlen : l.length + (textP v).length ≤ 100000000000) (hk : v.kind = 0 ∨ v.kind = 1 ∨ v.kind = 2 ∨ v.kind = 3) :
    Calls Tryz.prog 21 #[.pointer (some ⟨g, 0, none⟩), .agg #[.int .i64 v.kind, .int .i64 v.int, .float .f64 v.flt, .string v.text, r, f]] w fun e w' =>
      e = .returned (.tuple #[]) ∧ IB g (l ++ textP v) w' ∧ KW g w w' := by
  have hgw := hI.lt
  rw [right_plain (k := 32) (by omega)] at hr
  have HT := Lib.hid (fun W (hW : Below w0.heap.size w0 W) => text_any (hG.below hW) (h.keeps hW) hN hr hk)
  have HW := Lib.hid (fun W (hW : IB g l W) => ws_any hW ⟨(textP v).toArray⟩ (by rw [ba_len]; omega))
  have HD : Hid ((⟨(textP v).toArray⟩ : ByteArray).data.toList = textP v) := Lib.hid (by simp)
  obtain ⟨ra, rc, a, cap, rfl, rfl, hbd, hts⟩ := h.shape
  have HIB := Lib.hid hI
  clear hG h hN hr hI hlen
  generalize v.names.length = nn at *
  generalize v.items.length = ni at *
  obtain ⟨R, hR⟩ : ∃ R : ByteArray, ⟨(textP v).toArray⟩ = R := ⟨_, rfl⟩
  rw [hR] at HT HW HD
  generalize textP v = T at *
  clear hR
  rcases hk with hk | hk | hk | hk
  all_goals
    rw [hk] at HT ⊢
    go_enter Tryz.func21, Tryz.ntmps21
    go_wp2_with fail
    refine (HT.out _ (hb.alloc hb.size _)).mono ?_
    rintro e w1 ⟨rfl, hb1⟩
    have hB1 : Below w.heap.size w w1 := Below.next ((Below.refl _ _).alloc (Nat.le_refl _) _) hb1
    have hI1 := HIB.out.below hB1
    go_wp2_with fail
    refine (HW.out _ hI1).mono ?_
    rintro e w2 ⟨⟨v2, rfl⟩, hI2, hk2⟩
    rw [HD.out] at hI2
    go_wp2_with fail
    go_end0
    exact ⟨rfl, hI2, (KW.of_below (Nat.le_of_lt hgw) hB1).trans hk2⟩
set_option maxHeartbeats 4000000 in
set_option maxRecDepth 100000 in
theorem show_list {d : Nat} (ih : ShowAt d) (B0 g m : Nat) (l : List UInt8) (n : Int) (x : Nat) (t : ByteArray) (ns : List ByteArray) (is : List V) (r f : Value) (w0 w : World) (hG : RG B0 w0) (h : VI (d + 1) w0 (.mk 5 n x t ns is) r f) (hb : Below w0.heap.size w0 w) (hg : w0.heap.size ≤ g)
    (hN : NumV (d + 1) (.mk 5 n x t ns is)) (hr : rightP (d + 1) m (.mk 5 n x t ns is) = true) (hI : IB g l w) (hlen : l.length + (showP (d + 1) (.mk 5 n x t ns is)).length ≤ 100000000000) :
    Calls Tryz.prog 21 #[.pointer (some ⟨g, 0, none⟩), .agg #[.int .i64 5, .int .i64 n, .float .f64 x, .string t, r, f]] w fun e w' =>
      e = .returned (.tuple #[]) ∧ IB g (l ++ showP (d + 1) (.mk 5 n x t ns is)) w' ∧ KW g w w' := by
  have hgw := hI.lt
  have HS : Hid (showP (d + 1) (.mk 5 n x t ns is) = 91 :: (shI (showP d) is is.length ++ [32, 93])) := Lib.hid rfl
  rw [HS.out] at hlen
  have hlen2 : l.length + (shI (showP d) is is.length).length + 3 ≤ 100000000000 := by
    simp only [List.length_cons, List.length_append, List.length_nil] at hlen
    omega
  have HRI := Lib.hid (fun y (hy : y ∈ is) => right_items (v := .mk 5 n x t ns is) (Or.inl rfl) hr hy)
  have HNI := Lib.hid hN.2.2
  obtain ⟨ra, rc, a, cap, rfl, rfl, hbd, hts⟩ := h.shape
  have HI := Lib.hid (fun i y (hi : is[i]? = some y) => h.item (v := .mk 5 n x t ns is) hi)
  simp only [V.names, V.items, V.text] at hbd hts ⊢
  have HIB := Lib.hid hI
  have HGG := Lib.hid hG
  have IH := Lib.hid ih
  have HL := Lib.hid hlen2
  generalize showP (d + 1) (.mk 5 n x t ns is) = R at *
  clear hG h hN hr hI hlen hlen2 ih
  generalize ns.length = nn at *
  obtain ⟨ni, hni⟩ : ∃ ni, is.length = ni := ⟨_, rfl⟩
  rw [hni] at HS HL hbd ⊢
  have HNN := Lib.hid hni
  clear hni
  go_enter Tryz.func21, Tryz.ntmps21
  go_wp2_with fail
  refine (ws_any (HIB.out.below ((Below.refl _ _).alloc (Nat.le_refl _) _)) ⟨#[91]⟩ (by have := HL.out; show l.length + 1 ≤ _; omega)).mono ?_
  rintro e w1 ⟨⟨v1, rfl⟩, hI1, hk1⟩
  have hKW1 : KW g w w1 := (KW.of_below (Nat.le_of_lt hgw) ((Below.refl _ _).alloc (Nat.le_refl _) _)).trans hk1
  have hx1 := hk1.cell (k := w.heap.size) (by omega) (by decide) (block_new _ _ rfl)
  have hI1' : IB g (l ++ 91 :: shI (showP d) is 0) w1 := hI1
  have q5 := block_cell (i := 5) hx1 rfl
  clear hI1 hk1
  go_wp2_with fail
  go_loopw [5, 38] (fun _ i wr => ∃ k : Nat, k ≤ ni ∧ i = .int .i64 (k : Int) ∧ IB g (l ++ 91 :: shI (showP d) is k) wr ∧ KW g w wr) (fun _ i _ => ni - (intOf i).toNat)
  case atStart => exact ⟨0, Nat.zero_le _, rfl, hI1', hKW1⟩
  case round =>
    clear hx1 q5 hI1' hKW1
    obtain ⟨k, hk, rfl, hIr, hKr⟩ := hrel
    have hbr : Below w0.heap.size w0 wr := hKr.base hb hg
    have hgr := hIr.lt
    by_cases hlt : k < ni
    · have hltI : (k : Int) < (ni : Int) := by omega
      obtain ⟨y, hy⟩ := get_lt is (k := k) (by have := HNN.out; omega)
      obtain ⟨b', off, r', f', rfl, k1, k2, k3, k4, k5, k6, hv⟩ := HI.out k y hy
      have k1 := cell_keeps hbr k1
      have k2 := cell_keeps hbr k2
      have k3 := cell_keeps hbr k3
      have k4 := cell_keeps hbr k4
      have k5 := cell_keeps hbr k5
      have k6 := cell_keeps hbr k6
      have hym := List.mem_of_getElem? hy
      obtain ⟨m', hm', hry⟩ := HRI.out y hym
      have hle := shI_le (f := showP d) (n := ni) hy hlt
      have HST := Lib.hid (shI_succ (f := showP d) hy)
      have hLL := HL.out
      have HCY : Hid (∀ (L : List UInt8) (W : World), Below w0.heap.size w0 W → IB g L W → L.length = l.length + (shI (showP d) is k).length + 2 → Calls Tryz.prog 21 #[.pointer (some ⟨g, 0, none⟩), .agg #[.int .i64 y.kind, .int .i64 y.int, .float .f64 y.flt, .string y.text, r', f']] W fun e w' =>
          e = .returned (.tuple #[]) ∧ IB g (L ++ showP d y) w' ∧ KW g W w') :=
        Lib.hid fun L W hW hL hLn => IH.out B0 g m' L y r' f' w0 W HGG.out hv hW hg (HNI.out y hym) hry hL (by omega)
      have HWS := Lib.hid (fun W (hW : IB g (l ++ 91 :: shI (showP d) is k) W) => ws_any hW ⟨#[32]⟩ (by simp only [List.length_append, List.length_cons]; show _ + 1 ≤ _; omega))
      obtain ⟨ra1, rc1, fa1, fc1, rfl, rfl, _, _⟩ := hv.shape
      clear hy hym hry hm' hle hLL hv
      go_wp2_with fail
      refine (HWS.out _ (hIr.below ((Below.refl _ _).alloc (Nat.le_refl _) _))).mono ?_
      rintro e w2 ⟨⟨v2, rfl⟩, hI2, hk2⟩
      have hx2 := hk2.cell (k := wr.heap.size) (by omega) (by decide) (block_new _ _ rfl)
      have hKW2 : KW g w w2 := (hKr.next hgr ((Below.refl _ _).alloc (Nat.le_refl _) _)).trans hk2
      have q0 := block_cell (i := 0) hx2 rfl
      have q1 := block_cell (i := 1) hx2 rfl
      have q2 := block_cell (i := 2) hx2 rfl
      have q3 := block_cell (i := 3) hx2 rfl
      have q4 := block_cell (i := 4) hx2 rfl
      have q5 := block_cell (i := 5) hx2 rfl
      have HC2 := Lib.hid (HCY.out _ w2 (hKW2.base hb hg) hI2 (by show (_ ++ [(32 : UInt8)]).length = _; simp only [List.length_append, List.length_cons, List.length_nil]; omega))
      clear hx2 hk2 hI2
      go_wp2_with fail
      refine HC2.out.mono ?_
      rintro e w3 ⟨rfl, hI3, hk3⟩
      go_wp2_with fail
      go_roundw
      case rel =>
        refine ⟨k + 1, by omega, by go_num, ?_, hKW2.trans hk3⟩
        have e : l ++ 91 :: shI (showP d) is k ++ (⟨#[32]⟩ : ByteArray).data.toList ++ showP d y = l ++ 91 :: shI (showP d) is (k + 1) := by
          rw [HST.out]
          show l ++ 91 :: shI (showP d) is k ++ [32] ++ showP d y = _
          simp
        rw [e] at hI3
        exact hI3
      case measure => simp [intOf]; omega
    · have hltI : ¬ ((k : Int) < (ni : Int)) := by omega
      obtain rfl : k = ni := by omega
      have hLL := HL.out
      go_wp2_with fail
      refine (ws_any hIr ⟨#[32, 93]⟩ (by simp only [List.length_append, List.length_cons]; show _ + 2 ≤ _; omega)).mono ?_
      rintro e w2 ⟨⟨v2, rfl⟩, hI2, hk2⟩
      go_wp2_with fail
      go_end0
      refine ⟨rfl, ?_, hKr.trans hk2⟩
      have e : l ++ 91 :: shI (showP d) is k ++ (⟨#[32, 93]⟩ : ByteArray).data.toList = l ++ R := by
        rw [HS.out]
        show l ++ 91 :: shI (showP d) is k ++ [32, 93] = _
        simp
      rw [e] at hI2
      exact hI2
end Go.Proofs.YthefajkihnlgfaaGreatDoor

/- value.show of a right set: the walk. -/
namespace Go.Proofs.YthefajkihnlgfaaGreatDoor
open Go.RowKit Go.Shelf
set_option linter.unusedSimpArgs false
set_option linter.unusedVariables false
attribute [local go_sem] store_flt
set_option maxHeartbeats 4000000 in
set_option maxRecDepth 100000 in
theorem show_set {d : Nat} (ih : ShowAt d) (B0 g m : Nat) (l : List UInt8) (n : Int) (x : Nat) (t : ByteArray) (ns : List ByteArray) (is : List V) (r f : Value) (w0 w : World) (hG : RG B0 w0) (h : VI (d + 1) w0 (.mk 6 n x t ns is) r f) (hb : Below w0.heap.size w0 w) (hg : w0.heap.size ≤ g)
    (hN : NumV (d + 1) (.mk 6 n x t ns is)) (hr : rightP (d + 1) m (.mk 6 n x t ns is) = true) (hI : IB g l w) (hlen : l.length + (showP (d + 1) (.mk 6 n x t ns is)).length ≤ 100000000000) :
    Calls Tryz.prog 21 #[.pointer (some ⟨g, 0, none⟩), .agg #[.int .i64 6, .int .i64 n, .float .f64 x, .string t, r, f]] w fun e w' =>
      e = .returned (.tuple #[]) ∧ IB g (l ++ showP (d + 1) (.mk 6 n x t ns is)) w' ∧ KW g w w' := by
  have hgw := hI.lt
  have HS : Hid (showP (d + 1) (.mk 6 n x t ns is) = 123 :: (shS (showP d) (ns.zip is) is.length ++ [32, 125])) := Lib.hid rfl
  rw [HS.out] at hlen
  have hlen2 : l.length + (shS (showP d) (ns.zip is) is.length).length + 3 ≤ 100000000000 := by
    simp only [List.length_cons, List.length_append, List.length_nil] at hlen
    omega
  have HRI := Lib.hid (fun y (hy : y ∈ is) => right_items (v := .mk 6 n x t ns is) (Or.inr rfl) hr hy)
  obtain ⟨hnl, hnsz, _⟩ := right_names (v := .mk 6 n x t ns is) rfl hr
  have hnames := h.names
  have HNI := Lib.hid hN.2.2
  obtain ⟨ra, rc, a, cap, rfl, rfl, hbd, hts⟩ := h.shape
  have HI := Lib.hid (fun i y (hi : is[i]? = some y) => h.item (v := .mk 6 n x t ns is) hi)
  simp only [V.names, V.items, V.text] at hbd hts hnames hnl ⊢
  have HCN : Hid (∀ (i : Nat) (s : ByteArray), ns[i]? = some s → ∃ b off, ra = some ⟨b, off, none⟩ ∧ w0.cell? ⟨b, off + i, none⟩ = some (.string s) ∧ s.size ≤ maxLen ∧ True) := by
    obtain ⟨_, _, hce, _, _, hcn⟩ := hnames
    cases hce
    exact Lib.hid hcn
  have HNL := Lib.hid hnl
  simp only [V.names] at hnsz
  have HSZ := Lib.hid hnsz
  have HIB := Lib.hid hI
  have HGG := Lib.hid hG
  have IH := Lib.hid ih
  have HL := Lib.hid hlen2
  generalize showP (d + 1) (.mk 6 n x t ns is) = R at *
  clear hG h hN hr hI hlen hlen2 ih hnames hnsz
  rw [hnl]
  clear hnl
  obtain ⟨ni, hni⟩ : ∃ ni, is.length = ni := ⟨_, rfl⟩
  rw [hni] at HS HL hbd ⊢
  have HNN := Lib.hid hni
  clear hni
  go_enter Tryz.func21, Tryz.ntmps21
  go_wp2_with fail
  refine (ws_any (HIB.out.below ((Below.refl _ _).alloc (Nat.le_refl _) _)) ⟨#[123]⟩ (by have := HL.out; show l.length + 1 ≤ _; omega)).mono ?_
  rintro e w1 ⟨⟨v1, rfl⟩, hI1, hk1⟩
  have hKW1 : KW g w w1 := (KW.of_below (Nat.le_of_lt hgw) ((Below.refl _ _).alloc (Nat.le_refl _) _)).trans hk1
  have hx1 := hk1.cell (k := w.heap.size) (by omega) (by decide) (block_new _ _ rfl)
  have hI1' : IB g (l ++ 123 :: shS (showP d) (ns.zip is) 0) w1 := hI1
  have q5 := block_cell (i := 5) hx1 rfl
  clear hI1 hk1
  go_wp2_with fail
  go_loopw [6, 7, 57] (fun _ _ i wr => ∃ k : Nat, k ≤ ni ∧ i = .int .i64 (k : Int) ∧ IB g (l ++ 123 :: shS (showP d) (ns.zip is) k) wr ∧ KW g w wr ∧ wr.heap[w.heap.size]? = some (.cells #[.int .i64 6, .int .i64 n, .float .f64 x, .string t, .slice ra ni rc, .slice a ni cap] 47 (0, 0))) (fun _ _ i _ => ni - (intOf i).toNat)
  case atStart => exact ⟨0, Nat.zero_le _, rfl, hI1', hKW1, hx1⟩
  case round =>
    clear hx1 q5 hI1' hKW1
    obtain ⟨k, hk, rfl, hIr, hKr, hxr⟩ := hrel
    have hbr : Below w0.heap.size w0 wr := hKr.base hb hg
    have hgr := hIr.lt
    by_cases hlt : k < ni
    · have hltI : (k : Int) < (ni : Int) := by omega
      obtain ⟨y, hy⟩ := get_lt is (k := k) (by have := HNN.out; omega)
      obtain ⟨b', off, r', f', rfl, k1, k2, k3, k4, k5, k6, hv⟩ := HI.out k y hy
      have k1 := cell_keeps hbr k1
      have k2 := cell_keeps hbr k2
      have k3 := cell_keeps hbr k3
      have k4 := cell_keeps hbr k4
      have k5 := cell_keeps hbr k5
      have k6 := cell_keeps hbr k6
      have hym := List.mem_of_getElem? hy
      obtain ⟨m', hm', hry⟩ := HRI.out y hym
      obtain ⟨nm, hnm⟩ := get_lt ns (k := k) (by have := HNN.out; have := HNL.out; omega)
      obtain ⟨bn, on, hra, hcn, hns, _⟩ := HCN.out k nm hnm
      subst hra
      have hcn := cell_keeps hbr hcn
      have hn1 := HSZ.out k nm hnm
      have hqn := qB_len nm
      have hzz : (ns.zip is)[k]? = some (nm, y) := List.getElem?_zip_eq_some.2 ⟨hnm, hy⟩
      have hle := shS_le (f := showP d) (n := ni) hzz hlt
      have HST := Lib.hid (shS_succ (f := showP d) hzz)
      have hLL := HL.out
      have HCY : Hid (∀ (L : List UInt8) (W : World), Below w0.heap.size w0 W → IB g L W → L.length = l.length + (shS (showP d) (ns.zip is) k).length + 3 + (qB nm).length → Calls Tryz.prog 21 #[.pointer (some ⟨g, 0, none⟩), .agg #[.int .i64 y.kind, .int .i64 y.int, .float .f64 y.flt, .string y.text, r', f']] W fun e w' =>
          e = .returned (.tuple #[]) ∧ IB g (L ++ showP d y) w' ∧ KW g W w') :=
        Lib.hid fun L W hW hL hLn => IH.out B0 g m' L y r' f' w0 W HGG.out hv hW hg (HNI.out y hym) hry hL (by omega)
      have HQN := Lib.hid (fun W => quote_any nm hn1 W)
      have HQE : Hid ((⟨#[32]⟩ : ByteArray) ++ ⟨(qB nm).toArray⟩ ++ ⟨#[61]⟩ = ⟨(32 :: (qB nm ++ [61])).toArray⟩) := Lib.hid (by
        apply ba_ext
        rw [nw_app, nw_app]
        simp)
      have HWS := Lib.hid (fun W (hW : IB g (l ++ 123 :: shS (showP d) (ns.zip is) k) W) => ws_any hW (⟨#[32]⟩ ++ ⟨(qB nm).toArray⟩ ++ ⟨#[61]⟩) (by
        rw [HQE.out, ba_len]
        simp only [List.length_append, List.length_cons, List.length_nil]
        omega))
      have hyl : (showP d y).length ≤ 100000000000 := by omega
      have hkl : l.length + (shS (showP d) (ns.zip is) k).length ≤ 100000000000 := by omega
      have hW59 : Hid (∀ (L : List UInt8) (W : World), IB g L W → L.length = l.length + (shS (showP d) (ns.zip is) k).length + 3 + (qB nm).length + (showP d y).length → Calls Tryz.prog 14 #[.pointer (some ⟨g, 0, none⟩), .string ⟨#[59]⟩] W fun e w' => (∃ v, e = .returned v) ∧ IB g (L ++ [59]) w' ∧ KW g W w') :=
        Lib.hid fun L W hL hLn => ws_any hL ⟨#[59]⟩ (by show _ + 1 ≤ _; omega)
      obtain ⟨ra1, rc1, fa1, fc1, rfl, rfl, _, _⟩ := hv.shape
      obtain ⟨QB, hQB⟩ : ∃ QB : ByteArray, ⟨(qB nm).toArray⟩ = QB := ⟨_, rfl⟩
      have hQs : QB.size ≤ 3000 := by rw [← hQB, ba_len]; omega
      rw [hQB] at HQN HQE HWS
      have c4 := block_cell (i := 4) hxr rfl
      have hlt4 := World.block_lt_of_cell? wr _ c4
      have hltn := World.block_lt_of_cell? wr _ hcn
      clear hy hym hry hm' hle hLL hv hzz hnm hQB hn1 hns
      go_wp2_with fail
      refine (HQN.out _).mono ?_
      rintro e w2 ⟨rfl, hb2⟩
      have hxb := block_below (block_new wr (.cells #[.int .i64 y.kind, .int .i64 y.int, .float .f64 y.flt, .string y.text, .slice ra1 y.names.length rc1, .slice fa1 y.items.length fc1] 47 (0, 0)) rfl) hb2
      have hB2 : Below wr.heap.size wr w2 := Below.next ((Below.refl _ _).alloc (Nat.le_refl _) _) hb2
      have hI2 := hIr.below hB2
      have hxr2 := block_below hxr hB2
      have hKW2 := hKr.next hgr hB2
      clear hb2 hB2
      go_wp2_with fail
      refine (HWS.out _ hI2).mono ?_
      rintro e w3 ⟨⟨v3, rfl⟩, hI3, hk3⟩
      have hx3 := hk3.cell (k := wr.heap.size) (by omega) (by decide) hxb
      have hxr3 := hk3.cell (k := w.heap.size) (by omega) (by decide) hxr2
      have hKW3 : KW g w w3 := hKW2.trans hk3
      rw [HQE.out] at hI3
      have q0 := block_cell (i := 0) hx3 rfl
      have q1 := block_cell (i := 1) hx3 rfl
      have q2 := block_cell (i := 2) hx3 rfl
      have q3 := block_cell (i := 3) hx3 rfl
      have q4 := block_cell (i := 4) hx3 rfl
      have q5 := block_cell (i := 5) hx3 rfl
      have HC2 := Lib.hid (HCY.out _ w3 (hKW3.base hb hg) hI3 (by simp only [List.length_append, List.length_cons, List.length_nil]; omega))
      clear hx3 hk3 hI3 hxr2 hI2 hKW2 hxb
      go_wp2_with fail
      refine HC2.out.mono ?_
      rintro e w4 ⟨rfl, hI4, hk4⟩
      have hxr4 := hk4.cell (k := w.heap.size) (by omega) (by decide) hxr3
      go_wp2_with fail
      refine (hW59.out _ _ hI4 (by simp only [List.length_append, List.length_cons, List.length_nil]; omega)).mono ?_
      rintro e w5 ⟨⟨v5, rfl⟩, hI5, hk5⟩
      have hxr5 := hk5.cell (k := w.heap.size) (by omega) (by decide) hxr4
      go_wp2_with fail
      go_roundw
      case rel =>
        refine ⟨k + 1, by omega, by go_num, ?_, (hKW3.trans hk4).trans hk5, hxr5⟩
        have e : l ++ 123 :: shS (showP d) (ns.zip is) k ++ (⟨(32 :: (qB nm ++ [61])).toArray⟩ : ByteArray).data.toList ++ showP d y ++ [59] = l ++ 123 :: shS (showP d) (ns.zip is) (k + 1) := by
          rw [HST.out]
          simp
        rw [e] at hI5
        exact hI5
      case measure => simp [intOf]; omega
    · have hltI : ¬ ((k : Int) < (ni : Int)) := by omega
      obtain rfl : k = ni := by omega
      have hLL := HL.out
      go_wp2_with fail
      refine (ws_any hIr ⟨#[32, 125]⟩ (by simp only [List.length_append, List.length_cons]; show _ + 2 ≤ _; omega)).mono ?_
      rintro e w2 ⟨⟨v2, rfl⟩, hI2, hk2⟩
      go_wp2_with fail
      go_end0
      refine ⟨rfl, ?_, hKr.trans hk2⟩
      have e : l ++ 123 :: shS (showP d) (ns.zip is) k ++ (⟨#[32, 125]⟩ : ByteArray).data.toList = l ++ R := by
        rw [HS.out]
        show l ++ 123 :: shS (showP d) (ns.zip is) k ++ [32, 125] = _
        simp
      rw [e] at hI2
      exact hI2
end Go.Proofs.YthefajkihnlgfaaGreatDoor

