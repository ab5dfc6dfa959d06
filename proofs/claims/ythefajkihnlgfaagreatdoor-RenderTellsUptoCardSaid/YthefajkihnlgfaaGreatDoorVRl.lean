/- right of lists and sets. -/
import Derived.Test.YthefajkihnlgfaaGreatDoorM19
namespace Go.Proofs.YthefajkihnlgfaaGreatDoor
open Go.RowKit Go.Shelf
attribute [local go_sem] run_bits64 run_frombits64 store_flt
theorem entersR1 : Enters Tryz.prog 35 := enters_of Tryz.func35 (by kernel_rfl) rfl
set_option maxHeartbeats 1000000 in
set_option maxRecDepth 100000 in
theorem right1_any {d : Nat} (hR : RightAt d) {x : V} {r f : Value} {W : World} {T deep : Nat} (h0 : 1 ≤ deep) (h32 : deep ≤ 32) (hc : W.cell? ⟨T, 0, none⟩ = some (.int .i64 (deep : Int))) (hv : VI d W x r f) :
    Calls Tryz.prog 35 #[.agg #[.int .i64 x.kind, .int .i64 x.int, .float .f64 x.flt, .string x.text, r, f], .pointer (some ⟨T, 0, none⟩)] W fun e w' => e = .returned (.bool (!rightP d (deep - 1) x)) ∧ Below W.heap.size W w' := by
  obtain ⟨ra, rc, a, cap, rfl, rfl, hbd, hts⟩ := hv.shape
  have hlt := World.block_lt_of_cell? W _ hc
  have hz : (deep : Int) - 1 = ((deep - 1 : Nat) : Int) := by omega
  obtain ⟨m, hm⟩ : ∃ m, deep - 1 = m := ⟨_, rfl⟩
  rw [hm] at hz ⊢
  have hm32 : m ≤ 32 := by omega
  have hcall := Lib.hid (fun W' (hW : Below W.heap.size W W') => hR m hm32 (hv.keeps hW))
  clear hv hm
  cases hp : rightP d m x <;> rw [hp] at hcall
  all_goals
    go_enter Tryz.func35, Tryz.ntmps35
    go_wp2_with fail
    refine (hcall.out _ (by (repeat' (first | (with_reducible exact Below.refl _ _) | (with_reducible assumption) | (with_reducible refine below_drewN ?_ _) | (with_reducible refine Below.drew ?_) | (with_reducible refine Below.alloc ?_ ?_ _) | (with_reducible refine Below.setCell ?_ ?_ _) | omega | (simp; done) | (simp; omega))))).mono ?_
    rintro e w1 ⟨rfl, hb1⟩
    go_wp2_with fail
    go_ret
    exact ⟨rfl, Below.next (by (repeat' (first | (with_reducible exact Below.refl _ _) | (with_reducible assumption) | (with_reducible refine below_drewN ?_ _) | (with_reducible refine Below.drew ?_) | (with_reducible refine Below.alloc ?_ ?_ _) | (with_reducible refine Below.setCell ?_ ?_ _) | omega | (simp; done) | (simp; omega)))) hb1⟩
def ToOk (ns : List ByteArray) (k : Nat) : Prop := ∀ j, j < k → okAt ns j = true
theorem ToOk.step {ns : List ByteArray} {k : Nat} (h : ToOk ns k) (hk : okAt ns k = true) : ToOk ns (k + 1) := by
  intro j hj
  by_cases e : j = k
  · subst e; exact hk
  · exact h j (by omega)
set_option maxHeartbeats 4000000 in
set_option maxRecDepth 100000 in
theorem right_5 {d : Nat} (hR : RightAt d) (n : Int) (x : Nat) (t : ByteArray) (ns : List ByteArray) (is : List V) {r f : Value} {w : World} (deep : Nat) (hd32 : deep ≤ 32) (h : VI (d + 1) w (.mk 5 n x t ns is) r f) :
    Calls Tryz.prog 26 #[.agg #[.int .i64 5, .int .i64 n, .float .f64 x, .string t, r, f], .int .i64 (deep : Int)] w fun e w' => e = .returned (.bool (rightP (d + 1) deep (.mk 5 n x t ns is))) ∧ Below w.heap.size w w' := by
  have hnames := h.names
  have hlist := h.list
  obtain ⟨ra, rc, a, cap, rfl, rfl, hbd, hts⟩ := h.shape
  simp only [V.names, V.items, V.text] at hbd hts hnames hlist ⊢
  have HCN : Hid (∀ (i : Nat) (s : ByteArray), ns[i]? = some s → ∃ b off, ra = some ⟨b, off, none⟩ ∧ w.cell? ⟨b, off + i, none⟩ = some (.string s) ∧ s.size ≤ maxLen ∧ True) := by
    obtain ⟨_, _, hce, _, _, hcn⟩ := hnames
    cases hce
    exact Lib.hid hcn
  have hnb : ns.length ≤ 8796093021952 := by
    obtain ⟨_, _, hce, _, hm, _⟩ := hnames
    exact hm
  clear h hnames
  have HR : Hid (rightP (d + 1) deep (.mk 5 n x t ns is) = (decide (n = 0) && decide (x = 0) && decide (t.size = 0) && decide (ns.length = 0) && decide (deep ≠ 0) && decide (is.length ≤ 256) && namesP ns && is.all (rightP d (deep - 1)))) := Lib.hid (by first | rfl | (unfold rightP; rfl))
  generalize rightP (d + 1) deep (.mk 5 n x t ns is) = R at *
  generalize hnn : ns.length = nn at *
  generalize hni : is.length = ni at *
  have HNN := Lib.hid hnn
  clear hnn hni
  by_cases hn0 : n = 0
  · subst hn0
    by_cases hx0 : x = 0
    · subst hx0
      by_cases ht0 : t = ⟨#[]⟩
      · subst ht0
        have hE : decide ((⟨#[]⟩ : ByteArray).size = 0) = true := rfl
        by_cases hlc : nn = 0
        · have hl5 : ((nn : Int) == 0) = true := by simp [hlc]
          by_cases hd0 : deep = 0
          · subst hd0
            have HR2 : Hid (R = false) := Lib.hid (by rw [HR.out]; first | rfl | (simp []; done) | (simp []; rfl))
            clear HR
            go_enter Tryz.func26, Tryz.ntmps26
            go_wp2_with fail
            go_quiet (fail)
            go_wp2_with fail
            go_ret
            exact ⟨by rw [HR2.out]; rfl, (by (repeat' (first | (with_reducible exact Below.refl _ _) | (with_reducible assumption) | (with_reducible refine below_drewN ?_ _) | (with_reducible refine Below.drew ?_) | (with_reducible refine Below.alloc ?_ ?_ _) | (with_reducible refine Below.setCell ?_ ?_ _) | omega | (simp; done) | (simp; omega))))⟩
          · have hdb : ((deep : Int) == 0) = false := by simp [hd0]
            by_cases hl2 : ni ≤ 256
            · have hlb : decide ((256 : Int) < (ni : Int)) = false := decide_eq_false (by omega)
              have HR1 : Hid (R = (namesP ns && is.all (rightP d (deep - 1)))) := Lib.hid (by rw [HR.out, hE]; simp [hlc, hd0, hl2])
              have HLC := Lib.hid hlc
              have HD0 := Lib.hid hd0
              clear HR hl2 hd0 hlc hE
              go_enter Tryz.func26, Tryz.ntmps26
              go_wp2_with fail
              go_quiet (fail)
              go_wp2_with fail
              go_loopw [124] (fun i wr => ∃ kk : Nat, kk ≤ nn ∧ i = .int .i64 (kk : Int) ∧ ToOk ns kk ∧ wr.heap[w.heap.size]? = some (.cells #[.int .i64 5, .int .i64 0, .float .f64 0, .string ⟨#[]⟩, .slice ra nn rc, .slice a ni cap] 47 (0, 0)) ∧ wr.heap[w.heap.size + 1]? = some (.cells #[.int .i64 (deep : Int)] 3 (0, 0)) ∧ Below w.heap.size w wr) (fun i _ => nn - (intOf i).toNat)
              case atStart => exact ⟨0, Nat.zero_le _, rfl, fun j hj => absurd hj (Nat.not_lt_zero _), block_alloc (block_alloc (block_new _ _ rfl) _) _, block_alloc (block_new _ _ (by simp)) _, (by (repeat' (first | (with_reducible exact Below.refl _ _) | (with_reducible assumption) | (with_reducible refine below_drewN ?_ _) | (with_reducible refine Below.drew ?_) | (with_reducible refine Below.alloc ?_ ?_ _) | (with_reducible refine Below.setCell ?_ ?_ _) | omega | (simp; done) | (simp; omega))))⟩
              case round =>
                obtain ⟨kk, hkk, rfl, hto, hbx, hbd2, hb⟩ := hrel
                have HTO := Lib.hid hto
                have c4 := block_cell (i := 4) hbx rfl
                have c5 := block_cell (i := 5) hbx rfl
                clear hto
                by_cases hlt : kk < nn
                · obtain ⟨s, hs⟩ := get_lt ns (k := kk) (by have := HNN.out; omega)
                  obtain ⟨b, off, rfl, hcs, hss, _⟩ := HCN.out kk s hs
                  have hcs := cell_keeps hb hcs
                  by_cases hsz : s.size ≤ 1024
                  · have hsb : decide ((1024 : Int) < (s.size : Int)) = false := decide_eq_false (by omega)
                    cases kk with
                    | zero =>
                      rw [Nat.add_zero] at hcs
                      have HOK : Hid (okAt ns 0 = true) := Lib.hid (by rw [okAt_zero hs]; simpa using hsz)
                      clear hs hsz
                      go_wp2_with fail
                      go_roundw
                      case rel => exact ⟨1, by omega, by go_num, HTO.out.step HOK.out, hbx, hbd2, hb⟩
                      case measure => simp [intOf]; omega
                    | succ j =>
                      obtain ⟨s', hs'⟩ := get_lt ns (k := j) (by have := HNN.out; omega)
                      obtain ⟨_, _, he, hcs', _, _⟩ := HCN.out j s' hs'
                      simp only [Option.some.injEq, Addr.mk.injEq, and_true] at he
                      obtain ⟨rfl, rfl⟩ := he
                      have hcs' := cell_keeps hb hcs'
                      have hje : ((j + 1 : Nat) : Int) - 1 = (j : Int) := by omega
                      have hj1 : (j : Int) < (nn : Int) := by omega
                      have hj0 : (0 : Int) ≤ (j : Int) := by omega
                      have hpos : (0 : Int) < ((j + 1 : Nat) : Int) := by omega
                      have HOK : Hid (okAt ns (j + 1) = Op.bytesLess s'.toList s.toList) := Lib.hid (by rw [okAt_succ hs hs']; simp [hsz])
                      clear hs hs' hsz
                      cases hl : Op.bytesLess s'.toList s.toList
                      · have HB := Lib.hid hl
                        go_wp2_with fail
                        go_ret
                        exact ⟨by rw [HR1.out, namesP_no (i := j + 1) (by have := HNN.out; omega) (by rw [HOK.out, HB.out])]; rfl, hb⟩
                      · have HB := Lib.hid hl
                        go_wp2_with fail
                        go_roundw
                        case rel => exact ⟨j + 1 + 1, by omega, by go_num, HTO.out.step (by rw [HOK.out, HB.out]), hbx, hbd2, hb⟩
                        case measure => simp [intOf]; omega
                  · have hsb : decide ((1024 : Int) < (s.size : Int)) = true := decide_eq_true (by omega)
                    have HOK : Hid (okAt ns kk = false) := Lib.hid (by
                      cases kk with
                      | zero => rw [okAt_zero hs]; simpa using hsz
                      | succ j =>
                        obtain ⟨s', hs'⟩ := get_lt ns (k := j) (by have := HNN.out; omega)
                        rw [okAt_succ hs hs']; simp [hsz])
                    clear hs hsz
                    go_wp2_with fail
                    go_ret
                    exact ⟨by rw [HR1.out, namesP_no (i := kk) (by have := HNN.out; omega) HOK.out]; rfl, hb⟩
                · obtain rfl : kk = nn := by omega
                  have HNP : Hid (namesP ns = true) := Lib.hid (namesP_yes (fun i hi => HTO.out i (by rw [← HNN.out]; exact hi)))
                  have HR2 : Hid (R = !is.any (fun y => !rightP d (deep - 1) y)) := Lib.hid (by
                    rw [HR1.out, HNP.out, Bool.true_and]
                    induction is with
                    | nil => rfl
                    | cons y r ih2 => simp [List.all_eq_not_any_not])
                  have hl3 := hlist.keeps hb
                  have hdc : wr.cell? ⟨w.heap.size + 1, 0, none⟩ = some (.int .i64 (deep : Int)) := block_cell (i := 0) hbd2 rfl
                  have hd1 : 1 ≤ deep := by have := HD0.out; omega
                  have hpred : PredV 35 #[.pointer (some ⟨w.heap.size + 1, 0, none⟩)] d wr is (fun y => !rightP d (deep - 1) y) := by
                    intro y _ W r' f' hW hv
                    exact right1_any hR hd1 hd32 (cell_keeps hW hdc) hv
                  have HPRED := Lib.hid hpred
                  clear HR1 hpred
                  go_wp2_with fail
                  refine (containsV_any entersR1 hl3 HPRED.out).mono ?_
                  generalize is.any (fun y => !rightP d (deep - 1) y) = Z at HR2 ⊢
                  rintro e w4 ⟨rfl, hb4⟩
                  go_wp2_with fail
                  go_ret
                  exact ⟨by rw [HR2.out]; rfl, hb.next hb4⟩
            · have hlb : decide ((256 : Int) < (ni : Int)) = true := decide_eq_true (by omega)
              have HR2 : Hid (R = false) := Lib.hid (by rw [HR.out]; first | rfl | (simp [hl2]; done) | (simp [hl2]; rfl))
              clear HR
              go_enter Tryz.func26, Tryz.ntmps26
              go_wp2_with fail
              go_quiet (fail)
              go_wp2_with fail
              go_ret
              exact ⟨by rw [HR2.out]; rfl, (by (repeat' (first | (with_reducible exact Below.refl _ _) | (with_reducible assumption) | (with_reducible refine below_drewN ?_ _) | (with_reducible refine Below.drew ?_) | (with_reducible refine Below.alloc ?_ ?_ _) | (with_reducible refine Below.setCell ?_ ?_ _) | omega | (simp; done) | (simp; omega))))⟩
        · have hl5 : ((nn : Int) == 0) = false := by simp [hlc]
          have HR2 : Hid (R = false) := Lib.hid (by rw [HR.out]; first | rfl | (simp [hlc]; done) | (simp [hlc]; rfl))
          clear HR
          go_enter Tryz.func26, Tryz.ntmps26
          go_wp2_with fail
          go_quiet (fail)
          go_wp2_with fail
          go_ret
          exact ⟨by rw [HR2.out]; rfl, (by (repeat' (first | (with_reducible exact Below.refl _ _) | (with_reducible assumption) | (with_reducible refine below_drewN ?_ _) | (with_reducible refine Below.drew ?_) | (with_reducible refine Below.alloc ?_ ?_ _) | (with_reducible refine Below.setCell ?_ ?_ _) | omega | (simp; done) | (simp; omega))))⟩
      · have hsz := size_ne ht0
        have c3 := toList_ne ht0
        have HR2 : Hid (R = false) := Lib.hid (by rw [HR.out]; first | rfl | (simp [hsz]; done) | (simp [hsz]; rfl))
        clear HR
        go_enter Tryz.func26, Tryz.ntmps26
        go_wp2_with fail
        go_quiet (fail)
        go_wp2_with fail
        go_ret
        exact ⟨by rw [HR2.out]; rfl, (by (repeat' (first | (with_reducible exact Below.refl _ _) | (with_reducible assumption) | (with_reducible refine below_drewN ?_ _) | (with_reducible refine Below.drew ?_) | (with_reducible refine Below.alloc ?_ ?_ _) | (with_reducible refine Below.setCell ?_ ?_ _) | omega | (simp; done) | (simp; omega))))⟩
    · have c2 : ((0 : Int) != (x : Int)) = true := by simp; omega
      have HR2 : Hid (R = false) := Lib.hid (by rw [HR.out]; first | rfl | (simp [hx0]; done) | (simp [hx0]; rfl))
      clear HR
      go_enter Tryz.func26, Tryz.ntmps26
      go_wp2_with fail
      go_quiet (fail)
      go_wp2_with fail
      go_ret
      exact ⟨by rw [HR2.out]; rfl, (by (repeat' (first | (with_reducible exact Below.refl _ _) | (with_reducible assumption) | (with_reducible refine below_drewN ?_ _) | (with_reducible refine Below.drew ?_) | (with_reducible refine Below.alloc ?_ ?_ _) | (with_reducible refine Below.setCell ?_ ?_ _) | omega | (simp; done) | (simp; omega))))⟩
  · have c1 : ((0 : Int) != n) = true := by simp; omega
    have HR2 : Hid (R = false) := Lib.hid (by rw [HR.out]; first | rfl | (simp [hn0]; done) | (simp [hn0]; rfl))
    clear HR
    go_enter Tryz.func26, Tryz.ntmps26
    go_wp2_with fail
    go_quiet (fail)
    go_wp2_with fail
    go_ret
    exact ⟨by rw [HR2.out]; rfl, (by (repeat' (first | (with_reducible exact Below.refl _ _) | (with_reducible assumption) | (with_reducible refine below_drewN ?_ _) | (with_reducible refine Below.drew ?_) | (with_reducible refine Below.alloc ?_ ?_ _) | (with_reducible refine Below.setCell ?_ ?_ _) | omega | (simp; done) | (simp; omega))))⟩
set_option maxHeartbeats 4000000 in
set_option maxRecDepth 100000 in
theorem right_6 {d : Nat} (hR : RightAt d) (n : Int) (x : Nat) (t : ByteArray) (ns : List ByteArray) (is : List V) {r f : Value} {w : World} (deep : Nat) (hd32 : deep ≤ 32) (h : VI (d + 1) w (.mk 6 n x t ns is) r f) :
    Calls Tryz.prog 26 #[.agg #[.int .i64 6, .int .i64 n, .float .f64 x, .string t, r, f], .int .i64 (deep : Int)] w fun e w' => e = .returned (.bool (rightP (d + 1) deep (.mk 6 n x t ns is))) ∧ Below w.heap.size w w' := by
  have hnames := h.names
  have hlist := h.list
  obtain ⟨ra, rc, a, cap, rfl, rfl, hbd, hts⟩ := h.shape
  simp only [V.names, V.items, V.text] at hbd hts hnames hlist ⊢
  have HCN : Hid (∀ (i : Nat) (s : ByteArray), ns[i]? = some s → ∃ b off, ra = some ⟨b, off, none⟩ ∧ w.cell? ⟨b, off + i, none⟩ = some (.string s) ∧ s.size ≤ maxLen ∧ True) := by
    obtain ⟨_, _, hce, _, _, hcn⟩ := hnames
    cases hce
    exact Lib.hid hcn
  have hnb : ns.length ≤ 8796093021952 := by
    obtain ⟨_, _, hce, _, hm, _⟩ := hnames
    exact hm
  clear h hnames
  have HR : Hid (rightP (d + 1) deep (.mk 6 n x t ns is) = (decide (n = 0) && decide (x = 0) && decide (t.size = 0) && decide (ns.length = is.length) && decide (deep ≠ 0) && decide (is.length ≤ 256) && namesP ns && is.all (rightP d (deep - 1)))) := Lib.hid (by first | rfl | (unfold rightP; rfl))
  generalize rightP (d + 1) deep (.mk 6 n x t ns is) = R at *
  generalize hnn : ns.length = nn at *
  generalize hni : is.length = ni at *
  have HNN := Lib.hid hnn
  clear hnn hni
  by_cases hn0 : n = 0
  · subst hn0
    by_cases hx0 : x = 0
    · subst hx0
      by_cases ht0 : t = ⟨#[]⟩
      · subst ht0
        have hE : decide ((⟨#[]⟩ : ByteArray).size = 0) = true := rfl
        by_cases hlc : nn = ni
        · have hl5 : ((nn : Int) == (ni : Int)) = true := by simp [hlc]
          by_cases hd0 : deep = 0
          · subst hd0
            have HR2 : Hid (R = false) := Lib.hid (by rw [HR.out]; first | rfl | (simp []; done) | (simp []; rfl))
            clear HR
            go_enter Tryz.func26, Tryz.ntmps26
            go_wp2_with fail
            go_quiet (fail)
            go_wp2_with fail
            go_ret
            exact ⟨by rw [HR2.out]; rfl, (by (repeat' (first | (with_reducible exact Below.refl _ _) | (with_reducible assumption) | (with_reducible refine below_drewN ?_ _) | (with_reducible refine Below.drew ?_) | (with_reducible refine Below.alloc ?_ ?_ _) | (with_reducible refine Below.setCell ?_ ?_ _) | omega | (simp; done) | (simp; omega))))⟩
          · have hdb : ((deep : Int) == 0) = false := by simp [hd0]
            by_cases hl2 : ni ≤ 256
            · have hlb : decide ((256 : Int) < (ni : Int)) = false := decide_eq_false (by omega)
              have HR1 : Hid (R = (namesP ns && is.all (rightP d (deep - 1)))) := Lib.hid (by rw [HR.out, hE]; simp [hlc, hd0, hl2])
              have HLC := Lib.hid hlc
              have HD0 := Lib.hid hd0
              clear HR hl2 hd0 hlc hE
              go_enter Tryz.func26, Tryz.ntmps26
              go_wp2_with fail
              go_quiet (fail)
              go_wp2_with fail
              go_loopw [124] (fun i wr => ∃ kk : Nat, kk ≤ nn ∧ i = .int .i64 (kk : Int) ∧ ToOk ns kk ∧ wr.heap[w.heap.size]? = some (.cells #[.int .i64 6, .int .i64 0, .float .f64 0, .string ⟨#[]⟩, .slice ra nn rc, .slice a ni cap] 47 (0, 0)) ∧ wr.heap[w.heap.size + 1]? = some (.cells #[.int .i64 (deep : Int)] 3 (0, 0)) ∧ Below w.heap.size w wr) (fun i _ => nn - (intOf i).toNat)
              case atStart => exact ⟨0, Nat.zero_le _, rfl, fun j hj => absurd hj (Nat.not_lt_zero _), block_alloc (block_alloc (block_new _ _ rfl) _) _, block_alloc (block_new _ _ (by simp)) _, (by (repeat' (first | (with_reducible exact Below.refl _ _) | (with_reducible assumption) | (with_reducible refine below_drewN ?_ _) | (with_reducible refine Below.drew ?_) | (with_reducible refine Below.alloc ?_ ?_ _) | (with_reducible refine Below.setCell ?_ ?_ _) | omega | (simp; done) | (simp; omega))))⟩
              case round =>
                obtain ⟨kk, hkk, rfl, hto, hbx, hbd2, hb⟩ := hrel
                have HTO := Lib.hid hto
                have c4 := block_cell (i := 4) hbx rfl
                have c5 := block_cell (i := 5) hbx rfl
                clear hto
                by_cases hlt : kk < nn
                · obtain ⟨s, hs⟩ := get_lt ns (k := kk) (by have := HNN.out; omega)
                  obtain ⟨b, off, rfl, hcs, hss, _⟩ := HCN.out kk s hs
                  have hcs := cell_keeps hb hcs
                  by_cases hsz : s.size ≤ 1024
                  · have hsb : decide ((1024 : Int) < (s.size : Int)) = false := decide_eq_false (by omega)
                    cases kk with
                    | zero =>
                      rw [Nat.add_zero] at hcs
                      have HOK : Hid (okAt ns 0 = true) := Lib.hid (by rw [okAt_zero hs]; simpa using hsz)
                      clear hs hsz
                      go_wp2_with fail
                      go_roundw
                      case rel => exact ⟨1, by omega, by go_num, HTO.out.step HOK.out, hbx, hbd2, hb⟩
                      case measure => simp [intOf]; omega
                    | succ j =>
                      obtain ⟨s', hs'⟩ := get_lt ns (k := j) (by have := HNN.out; omega)
                      obtain ⟨_, _, he, hcs', _, _⟩ := HCN.out j s' hs'
                      simp only [Option.some.injEq, Addr.mk.injEq, and_true] at he
                      obtain ⟨rfl, rfl⟩ := he
                      have hcs' := cell_keeps hb hcs'
                      have hje : ((j + 1 : Nat) : Int) - 1 = (j : Int) := by omega
                      have hj1 : (j : Int) < (nn : Int) := by omega
                      have hj0 : (0 : Int) ≤ (j : Int) := by omega
                      have hpos : (0 : Int) < ((j + 1 : Nat) : Int) := by omega
                      have HOK : Hid (okAt ns (j + 1) = Op.bytesLess s'.toList s.toList) := Lib.hid (by rw [okAt_succ hs hs']; simp [hsz])
                      clear hs hs' hsz
                      cases hl : Op.bytesLess s'.toList s.toList
                      · have HB := Lib.hid hl
                        go_wp2_with fail
                        go_ret
                        exact ⟨by rw [HR1.out, namesP_no (i := j + 1) (by have := HNN.out; omega) (by rw [HOK.out, HB.out])]; rfl, hb⟩
                      · have HB := Lib.hid hl
                        go_wp2_with fail
                        go_roundw
                        case rel => exact ⟨j + 1 + 1, by omega, by go_num, HTO.out.step (by rw [HOK.out, HB.out]), hbx, hbd2, hb⟩
                        case measure => simp [intOf]; omega
                  · have hsb : decide ((1024 : Int) < (s.size : Int)) = true := decide_eq_true (by omega)
                    have HOK : Hid (okAt ns kk = false) := Lib.hid (by
                      cases kk with
                      | zero => rw [okAt_zero hs]; simpa using hsz
                      | succ j =>
                        obtain ⟨s', hs'⟩ := get_lt ns (k := j) (by have := HNN.out; omega)
                        rw [okAt_succ hs hs']; simp [hsz])
                    clear hs hsz
                    go_wp2_with fail
                    go_ret
                    exact ⟨by rw [HR1.out, namesP_no (i := kk) (by have := HNN.out; omega) HOK.out]; rfl, hb⟩
                · obtain rfl : kk = nn := by omega
                  have HNP : Hid (namesP ns = true) := Lib.hid (namesP_yes (fun i hi => HTO.out i (by rw [← HNN.out]; exact hi)))
                  have HR2 : Hid (R = !is.any (fun y => !rightP d (deep - 1) y)) := Lib.hid (by
                    rw [HR1.out, HNP.out, Bool.true_and]
                    induction is with
                    | nil => rfl
                    | cons y r ih2 => simp [List.all_eq_not_any_not])
                  have hl3 := hlist.keeps hb
                  have hdc : wr.cell? ⟨w.heap.size + 1, 0, none⟩ = some (.int .i64 (deep : Int)) := block_cell (i := 0) hbd2 rfl
                  have hd1 : 1 ≤ deep := by have := HD0.out; omega
                  have hpred : PredV 35 #[.pointer (some ⟨w.heap.size + 1, 0, none⟩)] d wr is (fun y => !rightP d (deep - 1) y) := by
                    intro y _ W r' f' hW hv
                    exact right1_any hR hd1 hd32 (cell_keeps hW hdc) hv
                  have HPRED := Lib.hid hpred
                  clear HR1 hpred
                  go_wp2_with fail
                  refine (containsV_any entersR1 hl3 HPRED.out).mono ?_
                  generalize is.any (fun y => !rightP d (deep - 1) y) = Z at HR2 ⊢
                  rintro e w4 ⟨rfl, hb4⟩
                  go_wp2_with fail
                  go_ret
                  exact ⟨by rw [HR2.out]; rfl, hb.next hb4⟩
            · have hlb : decide ((256 : Int) < (ni : Int)) = true := decide_eq_true (by omega)
              have HR2 : Hid (R = false) := Lib.hid (by rw [HR.out]; first | rfl | (simp [hl2]; done) | (simp [hl2]; rfl))
              clear HR
              go_enter Tryz.func26, Tryz.ntmps26
              go_wp2_with fail
              go_quiet (fail)
              go_wp2_with fail
              go_ret
              exact ⟨by rw [HR2.out]; rfl, (by (repeat' (first | (with_reducible exact Below.refl _ _) | (with_reducible assumption) | (with_reducible refine below_drewN ?_ _) | (with_reducible refine Below.drew ?_) | (with_reducible refine Below.alloc ?_ ?_ _) | (with_reducible refine Below.setCell ?_ ?_ _) | omega | (simp; done) | (simp; omega))))⟩
        · have hl5 : ((nn : Int) == (ni : Int)) = false := by simp; omega
          have HR2 : Hid (R = false) := Lib.hid (by rw [HR.out]; first | rfl | (simp [hlc]; done) | (simp [hlc]; rfl))
          clear HR
          go_enter Tryz.func26, Tryz.ntmps26
          go_wp2_with fail
          go_quiet (fail)
          go_wp2_with fail
          go_ret
          exact ⟨by rw [HR2.out]; rfl, (by (repeat' (first | (with_reducible exact Below.refl _ _) | (with_reducible assumption) | (with_reducible refine below_drewN ?_ _) | (with_reducible refine Below.drew ?_) | (with_reducible refine Below.alloc ?_ ?_ _) | (with_reducible refine Below.setCell ?_ ?_ _) | omega | (simp; done) | (simp; omega))))⟩
      · have hsz := size_ne ht0
        have c3 := toList_ne ht0
        have HR2 : Hid (R = false) := Lib.hid (by rw [HR.out]; first | rfl | (simp [hsz]; done) | (simp [hsz]; rfl))
        clear HR
        go_enter Tryz.func26, Tryz.ntmps26
        go_wp2_with fail
        go_quiet (fail)
        go_wp2_with fail
        go_ret
        exact ⟨by rw [HR2.out]; rfl, (by (repeat' (first | (with_reducible exact Below.refl _ _) | (with_reducible assumption) | (with_reducible refine below_drewN ?_ _) | (with_reducible refine Below.drew ?_) | (with_reducible refine Below.alloc ?_ ?_ _) | (with_reducible refine Below.setCell ?_ ?_ _) | omega | (simp; done) | (simp; omega))))⟩
    · have c2 : ((0 : Int) != (x : Int)) = true := by simp; omega
      have HR2 : Hid (R = false) := Lib.hid (by rw [HR.out]; first | rfl | (simp [hx0]; done) | (simp [hx0]; rfl))
      clear HR
      go_enter Tryz.func26, Tryz.ntmps26
      go_wp2_with fail
      go_quiet (fail)
      go_wp2_with fail
      go_ret
      exact ⟨by rw [HR2.out]; rfl, (by (repeat' (first | (with_reducible exact Below.refl _ _) | (with_reducible assumption) | (with_reducible refine below_drewN ?_ _) | (with_reducible refine Below.drew ?_) | (with_reducible refine Below.alloc ?_ ?_ _) | (with_reducible refine Below.setCell ?_ ?_ _) | omega | (simp; done) | (simp; omega))))⟩
  · have c1 : ((0 : Int) != n) = true := by simp; omega
    have HR2 : Hid (R = false) := Lib.hid (by rw [HR.out]; first | rfl | (simp [hn0]; done) | (simp [hn0]; rfl))
    clear HR
    go_enter Tryz.func26, Tryz.ntmps26
    go_wp2_with fail
    go_quiet (fail)
    go_wp2_with fail
    go_ret
    exact ⟨by rw [HR2.out]; rfl, (by (repeat' (first | (with_reducible exact Below.refl _ _) | (with_reducible assumption) | (with_reducible refine below_drewN ?_ _) | (with_reducible refine Below.drew ?_) | (with_reducible refine Below.alloc ?_ ?_ _) | (with_reducible refine Below.setCell ?_ ?_ _) | omega | (simp; done) | (simp; omega))))⟩
end Go.Proofs.YthefajkihnlgfaaGreatDoor

