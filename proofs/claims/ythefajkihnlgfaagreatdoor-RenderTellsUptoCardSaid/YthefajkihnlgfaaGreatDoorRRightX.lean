/- bootjackref12.right and Right of any value: the walks. -/
import Derived.Test.YthefajkihnlgfaaGreatDoorRRightW
import Derived.Deep.DeepCutAuto
import Derived.Deep.CutRange
namespace Go.Proofs.YthefajkihnlgfaaGreatDoor
open Go.RowKit Go.Shelf
set_option linter.unusedSimpArgs false
set_option linter.unusedVariables false
attribute [local go_sem] run_bits64 run_frombits64 store_flt
def RRightAt (d : Nat) : Prop := ∀ (v : V) (r f : Value) (w : World), VI d w v r f →
    Calls Tryz.prog 30 #[.agg #[.int .i64 v.kind, .int .i64 v.int, .float .f64 v.flt, .string v.text, r, f]] w fun e w' => e = .returned (.bool (rightR d v)) ∧ Below w.heap.size w w'
set_option maxHeartbeats 8000000 in
set_option maxRecDepth 100000 in
theorem rright_step {d : Nat} (ih : RRightAt d) (K I : Int) (X : Nat) (T : ByteArray) (ns : List ByteArray) (is : List V) {r f : Value} {w : World} (h : VI (d + 1) w (.mk K I X T ns is) r f) :
    Calls Tryz.prog 30 #[.agg #[.int .i64 K, .int .i64 I, .float .f64 X, .string T, r, f]] w fun e w' => e = .returned (.bool (rightR (d + 1) (.mk K I X T ns is))) ∧ Below w.heap.size w w' := by
  have hnames := h.names
  obtain ⟨ra, rc, a, cap, rfl, rfl, hbd, hts⟩ := h.shape
  have HI := Lib.hid (fun i x (hi : is[i]? = some x) => h.item (v := .mk K I X T ns is) hi)
  simp only [V.names, V.items, V.text] at hbd hts hnames ⊢
  have HCN : Hid (∀ (i : Nat) (s : ByteArray), ns[i]? = some s → ∃ b off, ra = some ⟨b, off, none⟩ ∧ w.cell? ⟨b, off + i, none⟩ = some (.string s) ∧ s.size ≤ maxLen ∧ True) := by
    obtain ⟨_, _, hce, _, _, hcn⟩ := hnames
    cases hce
    exact Lib.hid hcn
  have hnb : ns.length ≤ 8796093021952 := by
    obtain ⟨_, _, hce, _, hm, _⟩ := hnames
    exact hm
  have HR : Hid (rightR (d + 1) (.mk K I X T ns is) = (!bad1 K && !bad3 K I && !bad5 K X T.size ns.length is.length && !bad7 K T.size ns.length is.length && namesP ns && is.all (rightR d))) := Lib.hid rfl
  generalize rightR (d + 1) (.mk K I X T ns is) = R at *
  generalize hnn : ns.length = nn at *
  generalize hni : is.length = ni at *
  have HNN := Lib.hid hnn
  have HNI := Lib.hid hni
  have IH := Lib.hid ih
  clear hnn hni h hnames ih
  obtain ⟨B1, hB1⟩ : ∃ B, bad1 K = B := ⟨_, rfl⟩
  obtain ⟨B3, hB3⟩ : ∃ B, bad3 K I = B := ⟨_, rfl⟩
  obtain ⟨B5, hB5⟩ : ∃ B, bad5 K X T.size nn ni = B := ⟨_, rfl⟩
  obtain ⟨B7, hB7⟩ : ∃ B, bad7 K T.size nn ni = B := ⟨_, rfl⟩
  rw [hB1, hB3, hB5, hB7] at HR
  have H1 := Lib.hid hB1
  have H3 := Lib.hid hB3
  have H5 := Lib.hid hB5
  have H7 := Lib.hid hB7
  clear hB1 hB3 hB5 hB7
  go_enter Tryz.func30, Tryz.ntmps30
  go_upto_region 1 with fail
  refine with_world fun w1 hw1 => ?_
  have hbx : w1.heap[w.heap.size]? = some (.cells #[.int .i64 K, .int .i64 I, .float .f64 X, .string T, .slice ra nn rc, .slice a ni cap] 47 (0, 0)) := by rw [hw1]; exact block_new _ _ rfl
  have hb1 : Below w.heap.size w w1 := by rw [hw1]; exact (by (repeat' (first | (with_reducible exact Below.refl _ _) | (with_reducible assumption) | (with_reducible refine below_drewN ?_ _) | (with_reducible refine Below.drew ?_) | (with_reducible refine Below.alloc ?_ ?_ _) | (with_reducible refine Below.setCell ?_ ?_ _) | omega | (simp; done) | (simp; omega))))
  have c0 := block_cell (i := 0) hbx rfl
  have c1 := block_cell (i := 1) hbx rfl
  have c2 := block_cell (i := 2) hbx rfl
  have c3 := block_cell (i := 3) hbx rfl
  have c4 := block_cell (i := 4) hbx rfl
  have c5 := block_cell (i := 5) hbx rfl
  clear hw1
  go_cut [13] from 6 to 13 (fun x wx => x = .bool B1 ∧ w1 = wx)
  case first =>
    by_cases k0 : K < 0
    · have e : B1 = true := by rw [← H1.out]; simp [bad1, k0]
      subst e
      go_wp2_with fail
      go_meet
      exact ⟨rfl, rfl⟩
    · by_cases k7 : 7 < K
      · have e : B1 = true := by rw [← H1.out]; simp [bad1, k7]
        subst e
        go_wp2_with fail
        go_meet
        exact ⟨rfl, rfl⟩
      · have e : B1 = false := by rw [← H1.out]; simp [bad1, k7, k0]
        subst e
        go_wp2_with fail
        go_meet
        exact ⟨rfl, rfl⟩
  case rest =>
    obtain ⟨rfl, rfl⟩ := hcut
    cases B1
    case true =>
      go_wp2_with fail
      go_ret
      exact ⟨by rw [HR.out]; first | rfl | (simp; done) | (simp; rfl), hb1⟩
    case false =>
      clear H1
      go_upto_region 3 with fail
      go_cut [41] from 14 to 41 (fun x wx => x = .bool B3 ∧ w1 = wx)
      case first =>
        by_cases k1 : K = 1
        · subst k1
          by_cases i0 : I = 0
          · subst i0
            have e : B3 = false := by rw [← H3.out]; simp [bad3]
            subst e
            go_wp2_with fail
            go_meet
            exact ⟨rfl, rfl⟩
          · have i0n : (I != 0) = true := by simp [i0]
            have i0e : (I == 0) = false := by simp [i0]
            by_cases i1 : I = 1
            · subst i1
              have e : B3 = false := by rw [← H3.out]; simp [bad3]
              subst e
              go_wp2_with fail
              go_meet
              exact ⟨rfl, rfl⟩
            · have i1n : (I != 1) = true := by simp [i1]
              have i1e : (I == 1) = false := by simp [i1]
              have e : B3 = true := by rw [← H3.out]; simp [bad3, i0, i1]
              subst e
              go_wp2_with fail
              go_meet
              exact ⟨rfl, rfl⟩
        · have k1n : (K != 1) = true := by simp [k1]
          have k1e : (K == 1) = false := by simp [k1]
          by_cases k2 : K = 2
          · subst k2
            have e : B3 = false := by rw [← H3.out]; simp [bad3]
            subst e
            go_wp2_with fail
            go_meet
            exact ⟨rfl, rfl⟩
          · have k2n : (K != 2) = true := by simp [k2]
            have k2e : (K == 2) = false := by simp [k2]
            by_cases i0 : I = 0
            · subst i0
              have e : B3 = false := by rw [← H3.out]; simp [bad3, k1, k2]
              subst e
              go_wp2_with fail
              go_meet
              exact ⟨rfl, rfl⟩
            · have i0n : (I != 0) = true := by simp [i0]
              have i0e : (I == 0) = false := by simp [i0]
              have e : B3 = true := by rw [← H3.out]; simp [bad3, k1, k2, i0]
              subst e
              go_wp2_with fail
              go_meet
              exact ⟨rfl, rfl⟩
      case rest =>
        obtain ⟨rfl, rfl⟩ := hcut
        clear H3
        cases B3
        case true =>
          go_wp2_with fail
          go_ret
          exact ⟨by rw [HR.out]; first | rfl | (simp; done) | (simp; rfl), hb1⟩
        case false =>
          go_upto_region 5 with fail
          go_cut [87] from 42 to 87 (fun x wx => x = .bool B5 ∧ w1 = wx)
          case first =>
            by_cases k3 : K = 3
            · subst k3
              by_cases t0 : T = ⟨#[]⟩
              · subst t0
                by_cases n0 : nn = 0
                · subst n0
                  by_cases m0 : ni = 0
                  · subst m0
                    have e : B5 = false := by rw [← H5.out]; simp [bad5, (show (⟨#[]⟩ : ByteArray).size = 0 from rfl)]
                    subst e
                    go_wp2_with fail
                    go_meet
                    exact ⟨rfl, rfl⟩
                  · have m0n : ((ni : Int) != 0) = true := by simp [m0]
                    have m0e : ((ni : Int) == 0) = false := by simp [m0]
                    have e : B5 = true := by rw [← H5.out]; simp [bad5, m0, (show (⟨#[]⟩ : ByteArray).size = 0 from rfl)]
                    subst e
                    go_wp2_with fail
                    go_meet
                    exact ⟨rfl, rfl⟩
                · have n0n : ((nn : Int) != 0) = true := by simp [n0]
                  have n0e : ((nn : Int) == 0) = false := by simp [n0]
                  have e : B5 = true := by rw [← H5.out]; simp [bad5, n0, (show (⟨#[]⟩ : ByteArray).size = 0 from rfl)]
                  subst e
                  go_wp2_with fail
                  go_meet
                  exact ⟨rfl, rfl⟩
              · have t0a : (T.toList == []) = false := by simpa using eqs_false.2 t0
                have t0b : T.toList.isEmpty = false := by simpa [List.isEmpty_iff] using t0a
                have t0c := toList_ne t0
                have t0s := size_ne t0
                have e : B5 = true := by rw [← H5.out]; simp [bad5, t0s]
                subst e
                go_wp2_with fail
                go_meet
                exact ⟨rfl, rfl⟩
            · have k3n : (K != 3) = true := by simp [k3]
              have k3e : (K == 3) = false := by simp [k3]
              by_cases k4 : K = 4
              · subst k4
                by_cases x0 : X = 0
                · subst x0
                  by_cases n0 : nn = 0
                  · subst n0
                    by_cases m0 : ni = 0
                    · subst m0
                      have e : B5 = false := by rw [← H5.out]; simp [bad5]
                      subst e
                      go_wp2_with fail
                      go_meet
                      exact ⟨rfl, rfl⟩
                    · have m0n : ((ni : Int) != 0) = true := by simp [m0]
                      have m0e : ((ni : Int) == 0) = false := by simp [m0]
                      have e : B5 = true := by rw [← H5.out]; simp [bad5, m0]
                      subst e
                      go_wp2_with fail
                      go_meet
                      exact ⟨rfl, rfl⟩
                  · have n0n : ((nn : Int) != 0) = true := by simp [n0]
                    have n0e : ((nn : Int) == 0) = false := by simp [n0]
                    have e : B5 = true := by rw [← H5.out]; simp [bad5, n0]
                    subst e
                    go_wp2_with fail
                    go_meet
                    exact ⟨rfl, rfl⟩
                · have x0n : ((X : Int) != 0) = true := by simp [x0]
                  have x0e : ((X : Int) == 0) = false := by simp [x0]
                  have e : B5 = true := by rw [← H5.out]; simp [bad5, x0]
                  subst e
                  go_wp2_with fail
                  go_meet
                  exact ⟨rfl, rfl⟩
              · have k4n : (K != 4) = true := by simp [k4]
                have k4e : (K == 4) = false := by simp [k4]
                by_cases k5 : K = 5
                · subst k5
                  by_cases x0 : X = 0
                  · subst x0
                    by_cases t0 : T = ⟨#[]⟩
                    · subst t0
                      by_cases n0 : nn = 0
                      · subst n0
                        have e : B5 = false := by rw [← H5.out]; simp [bad5, (show (⟨#[]⟩ : ByteArray).size = 0 from rfl)]
                        subst e
                        go_wp2_with fail
                        go_meet
                        exact ⟨rfl, rfl⟩
                      · have n0n : ((nn : Int) != 0) = true := by simp [n0]
                        have n0e : ((nn : Int) == 0) = false := by simp [n0]
                        have e : B5 = true := by rw [← H5.out]; simp [bad5, n0, (show (⟨#[]⟩ : ByteArray).size = 0 from rfl)]
                        subst e
                        go_wp2_with fail
                        go_meet
                        exact ⟨rfl, rfl⟩
                    · have t0a : (T.toList == []) = false := by simpa using eqs_false.2 t0
                      have t0b : T.toList.isEmpty = false := by simpa [List.isEmpty_iff] using t0a
                      have t0c := toList_ne t0
                      have t0s := size_ne t0
                      have e : B5 = true := by rw [← H5.out]; simp [bad5, t0s]
                      subst e
                      go_wp2_with fail
                      go_meet
                      exact ⟨rfl, rfl⟩
                  · have x0n : ((X : Int) != 0) = true := by simp [x0]
                    have x0e : ((X : Int) == 0) = false := by simp [x0]
                    have e : B5 = true := by rw [← H5.out]; simp [bad5, x0]
                    subst e
                    go_wp2_with fail
                    go_meet
                    exact ⟨rfl, rfl⟩
                · have k5n : (K != 5) = true := by simp [k5]
                  have k5e : (K == 5) = false := by simp [k5]
                  by_cases k6 : K = 6
                  · subst k6
                    by_cases x0 : X = 0
                    · subst x0
                      by_cases t0 : T = ⟨#[]⟩
                      · subst t0
                        have e : B5 = false := by rw [← H5.out]; simp [bad5, (show (⟨#[]⟩ : ByteArray).size = 0 from rfl)]
                        subst e
                        go_wp2_with fail
                        go_meet
                        exact ⟨rfl, rfl⟩
                      · have t0a : (T.toList == []) = false := by simpa using eqs_false.2 t0
                        have t0b : T.toList.isEmpty = false := by simpa [List.isEmpty_iff] using t0a
                        have t0c := toList_ne t0
                        have t0s := size_ne t0
                        have e : B5 = true := by rw [← H5.out]; simp [bad5, t0s]
                        subst e
                        go_wp2_with fail
                        go_meet
                        exact ⟨rfl, rfl⟩
                    · have x0n : ((X : Int) != 0) = true := by simp [x0]
                      have x0e : ((X : Int) == 0) = false := by simp [x0]
                      have e : B5 = true := by rw [← H5.out]; simp [bad5, x0]
                      subst e
                      go_wp2_with fail
                      go_meet
                      exact ⟨rfl, rfl⟩
                  · have k6n : (K != 6) = true := by simp [k6]
                    have k6e : (K == 6) = false := by simp [k6]
                    by_cases x0 : X = 0
                    · subst x0
                      by_cases t0 : T = ⟨#[]⟩
                      · subst t0
                        by_cases n0 : nn = 0
                        · subst n0
                          by_cases m0 : ni = 0
                          · subst m0
                            have e : B5 = false := by rw [← H5.out]; simp [bad5, k3, k4, k5, k6, (show (⟨#[]⟩ : ByteArray).size = 0 from rfl)]
                            subst e
                            go_wp2_with fail
                            go_meet
                            exact ⟨rfl, rfl⟩
                          · have m0n : ((ni : Int) != 0) = true := by simp [m0]
                            have m0e : ((ni : Int) == 0) = false := by simp [m0]
                            have e : B5 = true := by rw [← H5.out]; simp [bad5, m0, k3, k4, k5, k6, (show (⟨#[]⟩ : ByteArray).size = 0 from rfl)]
                            subst e
                            go_wp2_with fail
                            go_meet
                            exact ⟨rfl, rfl⟩
                        · have n0n : ((nn : Int) != 0) = true := by simp [n0]
                          have n0e : ((nn : Int) == 0) = false := by simp [n0]
                          have e : B5 = true := by rw [← H5.out]; simp [bad5, n0, k3, k4, k5, k6, (show (⟨#[]⟩ : ByteArray).size = 0 from rfl)]
                          subst e
                          go_wp2_with fail
                          go_meet
                          exact ⟨rfl, rfl⟩
                      · have t0a : (T.toList == []) = false := by simpa using eqs_false.2 t0
                        have t0b : T.toList.isEmpty = false := by simpa [List.isEmpty_iff] using t0a
                        have t0c := toList_ne t0
                        have t0s := size_ne t0
                        have e : B5 = true := by rw [← H5.out]; simp [bad5, t0s, k3, k4, k5, k6]
                        subst e
                        go_wp2_with fail
                        go_meet
                        exact ⟨rfl, rfl⟩
                    · have x0n : ((X : Int) != 0) = true := by simp [x0]
                      have x0e : ((X : Int) == 0) = false := by simp [x0]
                      have e : B5 = true := by rw [← H5.out]; simp [bad5, x0, k3, k4, k5, k6]
                      subst e
                      go_wp2_with fail
                      go_meet
                      exact ⟨rfl, rfl⟩
          case rest =>
            obtain ⟨rfl, rfl⟩ := hcut
            clear H5
            cases B5
            case true =>
              go_wp2_with fail
              go_ret
              exact ⟨by rw [HR.out]; first | rfl | (simp; done) | (simp; rfl), hb1⟩
            case false =>
              go_upto_region 7 with fail
              go_cut [111] from 88 to 111 (fun x wx => x = .bool B7 ∧ w1 = wx)
              case first =>
                by_cases s0 : 1024 < T.size
                · have s0a : decide ((1024 : Int) < (T.size : Int)) = true := decide_eq_true (by omega)
                  have s0i : (1024 : Int) < (T.size : Int) := by omega
                  have e : B7 = true := by rw [← H7.out]; simp [bad7, s0]
                  subst e
                  go_wp2_with fail
                  go_meet
                  exact ⟨rfl, rfl⟩
                · have s0a : decide ((1024 : Int) < (T.size : Int)) = false := decide_eq_false (by omega)
                  have s0i : ¬ ((1024 : Int) < (T.size : Int)) := by omega
                  by_cases s1 : 256 < ni
                  · have s1a : decide ((256 : Int) < (ni : Int)) = true := decide_eq_true (by omega)
                    have s1i : (256 : Int) < (ni : Int) := by omega
                    have e : B7 = true := by rw [← H7.out]; simp [bad7, s1]
                    subst e
                    go_wp2_with fail
                    go_meet
                    exact ⟨rfl, rfl⟩
                  · have s1a : decide ((256 : Int) < (ni : Int)) = false := decide_eq_false (by omega)
                    have s1i : ¬ ((256 : Int) < (ni : Int)) := by omega
                    by_cases k6 : K = 6
                    · subst k6
                      by_cases q0 : nn = ni
                      · have q0n : ((nn : Int) != (ni : Int)) = false := by simp [q0]
                        have Q0 := Lib.hid q0
                        clear q0
                        have e : B7 = false := by rw [← H7.out]; simp [bad7, Q0.out, s0, s1]
                        subst e
                        go_wp2_with fail
                        go_meet
                        exact ⟨rfl, rfl⟩
                      · have q0n : ((nn : Int) != (ni : Int)) = true := by simp; omega
                        have e : B7 = true := by rw [← H7.out]; simp [bad7, q0]
                        subst e
                        go_wp2_with fail
                        go_meet
                        exact ⟨rfl, rfl⟩
                    · have k6n : (K != 6) = true := by simp [k6]
                      have k6e : (K == 6) = false := by simp [k6]
                      have e : B7 = false := by rw [← H7.out]; simp [bad7, k6, s0, s1]
                      subst e
                      go_wp2_with fail
                      go_meet
                      exact ⟨rfl, rfl⟩
              case rest =>
                obtain ⟨rfl, rfl⟩ := hcut
                clear H7
                cases B7
                case true =>
                  go_wp2_with fail
                  go_ret
                  exact ⟨by rw [HR.out]; first | rfl | (simp; done) | (simp; rfl), hb1⟩
                case false =>
                  have HR1 : Hid (R = (namesP ns && is.all (rightR d))) := Lib.hid (by rw [HR.out]; simp)
                  clear HR
                  go_upto_region 9 with fail
                  go_wp2_with fail
                  go_loopw [3] (fun i wr => ∃ kk : Nat, kk ≤ nn ∧ i = .int .i64 (kk : Int) ∧ ToOk ns kk ∧ wr.heap[w.heap.size]? = some (.cells #[.int .i64 K, .int .i64 I, .float .f64 X, .string T, .slice ra nn rc, .slice a ni cap] 47 (0, 0)) ∧ Below w.heap.size w wr) (fun i _ => nn - (intOf i).toNat)
                  case atStart => exact ⟨0, Nat.zero_le _, rfl, fun j hj => absurd hj (Nat.not_lt_zero _), hbx, hb1⟩
                  case round =>
                    clear c0 c1 c2 c3 c4 c5 hbx hb1
                    obtain ⟨kk, hkk, rfl, hto, hbx, hb⟩ := hrel
                    have HTO := Lib.hid hto
                    have c4 := block_cell (i := 4) hbx rfl
                    have c5 := block_cell (i := 5) hbx rfl
                    clear hto
                    by_cases hlt : kk < nn
                    · obtain ⟨s, hs⟩ := get_lt ns (k := kk) (by have := HNN.out; omega)
                      obtain ⟨b, off, rfl, hcs, hss, _⟩ := HCN.out kk s hs
                      have hcs := cell_keeps hb hcs
                      have hltI : (kk : Int) < (nn : Int) := by omega
                      by_cases hsz : s.size ≤ 1024
                      · have hsb : decide ((1024 : Int) < (s.size : Int)) = false := decide_eq_false (by omega)
                        have hsi : ¬ ((1024 : Int) < (s.size : Int)) := by omega
                        cases kk with
                        | zero =>
                          rw [Nat.add_zero] at hcs
                          have HOK : Hid (okAt ns 0 = true) := Lib.hid (by rw [okAt_zero hs]; simpa using hsz)
                          clear hs hsz
                          go_wp2_with fail
                          go_quiet (fail)
                          go_wp2_with fail
                          go_roundw
                          case rel => exact ⟨1, by omega, by go_num, HTO.out.step HOK.out, hbx, below_drewN hb _⟩
                          case measure => simp [intOf]; omega
                        | succ j =>
                          obtain ⟨s', hs'⟩ := get_lt ns (k := j) (by have := HNN.out; omega)
                          obtain ⟨_, _, he, hcs', _, _⟩ := HCN.out j s' hs'
                          simp only [Option.some.injEq, Addr.mk.injEq, and_true] at he
                          obtain ⟨rfl, rfl⟩ := he
                          have hcs' := cell_keeps hb hcs'
                          have hje : ((j + 1 : Nat) : Int) - 1 = (j : Int) := by omega
                          have hjw : IntKind.i64.wrap (((j + 1 : Nat) : Int) - 1) = (j : Int) := by rw [hje]; exact IntWalk.i64_in _ (by omega)
                          have hj1 : (j : Int) < (nn : Int) := by omega
                          have hj0 : (0 : Int) ≤ (j : Int) := by omega
                          have hpos : (0 : Int) < ((j + 1 : Nat) : Int) := by omega
                          have hposb : decide ((0 : Int) < ((j + 1 : Nat) : Int)) = true := decide_eq_true hpos
                          have HOK : Hid (okAt ns (j + 1) = Op.bytesLess s'.toList s.toList) := Lib.hid (by rw [okAt_succ hs hs']; simp [hsz])
                          clear hs hs' hsz
                          cases hl : Op.bytesLess s'.toList s.toList
                          · have HB := Lib.hid hl
                            go_wp2_with fail
                            go_quiet (fail)
                            go_wp2_with fail
                            go_ret
                            exact ⟨by rw [HR1.out, namesP_no (i := j + 1) (by have := HNN.out; omega) (by rw [HOK.out, HB.out])]; rfl, below_drewN hb _⟩
                          · have HB := Lib.hid hl
                            go_wp2_with fail
                            go_quiet (fail)
                            go_wp2_with fail
                            go_roundw
                            case rel => exact ⟨j + 1 + 1, by omega, by go_num, HTO.out.step (by rw [HOK.out, HB.out]), hbx, below_drewN hb _⟩
                            case measure => simp [intOf]; omega
                      · have hsb : decide ((1024 : Int) < (s.size : Int)) = true := decide_eq_true (by omega)
                        have hsi : (1024 : Int) < (s.size : Int) := by omega
                        have HOK : Hid (okAt ns kk = false) := Lib.hid (by
                          cases kk with
                          | zero => rw [okAt_zero hs]; simpa using hsz
                          | succ j =>
                            obtain ⟨s', hs'⟩ := get_lt ns (k := j) (by have := HNN.out; omega)
                            rw [okAt_succ hs hs']; simp [hsz])
                        clear hs hsz
                        go_wp2_with fail
                        go_quiet (fail)
                        go_wp2_with fail
                        go_ret
                        exact ⟨by rw [HR1.out, namesP_no (i := kk) (by have := HNN.out; omega) HOK.out]; rfl, below_drewN hb _⟩
                    · obtain rfl : kk = nn := by omega
                      have HNP : Hid (namesP ns = true) := Lib.hid (namesP_yes (fun i hi => HTO.out i (by rw [← HNN.out]; exact hi)))
                      have HR2 : Hid (R = is.all (rightR d)) := Lib.hid (by rw [HR1.out, HNP.out, Bool.true_and])
                      clear HR1 HTO
                      go_wp2_with fail
                      go_loopw [4] (fun i wr => ∃ jj : Nat, jj ≤ ni ∧ i = .int .i64 (jj : Int) ∧ (∀ (j : Nat) (x : V), j < jj → is[j]? = some x → rightR d x = true) ∧ wr.heap[w.heap.size]? = some (.cells #[.int .i64 K, .int .i64 I, .float .f64 X, .string T, .slice ra kk rc, .slice a ni cap] 47 (0, 0)) ∧ Below w.heap.size w wr) (fun i _ => ni - (intOf i).toNat)
                      case atStart => exact ⟨0, Nat.zero_le _, rfl, fun j x hj => absurd hj (Nat.not_lt_zero _), hbx, hb⟩
                      case round =>
                        clear c4 c5 hbx hb
                        obtain ⟨jj, hjj, rfl, hall, hbx, hb⟩ := hrel
                        have HALL := Lib.hid hall
                        have c5 := block_cell (i := 5) hbx rfl
                        clear hall
                        by_cases hlj : jj < ni
                        · obtain ⟨x, hx⟩ := get_lt is (k := jj) (by have := HNI.out; omega)
                          obtain ⟨b, off, r', f', rfl, k1, k2, k3, k4, k5, k6, hv⟩ := HI.out jj x hx
                          have k1 := cell_keeps hb k1
                          have k2 := cell_keeps hb k2
                          have k3 := cell_keeps hb k3
                          have k4 := cell_keeps hb k4
                          have k5 := cell_keeps hb k5
                          have k6 := cell_keeps hb k6
                          have hv := hv.keeps hb
                          have HC := Lib.hid (IH.out x _ _ _ hv)
                          have HX := Lib.hid hx
                          clear hx hv
                          have hljI : (jj : Int) < (ni : Int) := by omega
                          cases hq : rightR d x
                          · have HQ := Lib.hid hq
                            rw [hq] at HC
                            clear hq
                            have HF : Hid (R = false) := Lib.hid (by
                              rw [HR2.out, List.all_eq_false]
                              exact ⟨x, List.mem_of_getElem? HX.out, by rw [HQ.out]; simp⟩)
                            go_wp2_with fail
                            refine HC.out.mono ?_
                            rintro e w2 ⟨rfl, hb2⟩
                            go_wp2_with fail
                            go_ret
                            exact ⟨by rw [HF.out]; rfl, hb.next hb2⟩
                          · have HQ := Lib.hid hq
                            rw [hq] at HC
                            clear hq
                            go_wp2_with fail
                            refine HC.out.mono ?_
                            rintro e w2 ⟨rfl, hb2⟩
                            go_wp2_with fail
                            go_roundw
                            case rel =>
                              refine ⟨jj + 1, by omega, by go_num, fun j y hj hy => ?_, block_below hbx hb2, hb.next hb2⟩
                              by_cases hjj2 : j = jj
                              · subst hjj2
                                have := HX.out
                                rw [hy] at this
                                cases this
                                exact HQ.out
                              · exact HALL.out j y (by omega) hy
                            case measure => simp [intOf]; omega
                        · have hljI : ¬ ((jj : Int) < (ni : Int)) := by omega
                          have HF : Hid (R = true) := Lib.hid (by
                            rw [HR2.out, List.all_eq_true]
                            intro x hx
                            obtain ⟨j, hj⟩ := List.getElem?_of_mem hx
                            exact HALL.out j x (by have := (List.getElem?_eq_some_iff.1 hj).1; have := HNI.out; omega) hj)
                          go_wp2_with fail
                          go_ret
                          exact ⟨by rw [HF.out]; rfl, hb⟩
end Go.Proofs.YthefajkihnlgfaaGreatDoor

