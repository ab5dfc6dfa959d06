/- bootjacklaw19.parts, large: the walks. -/
import Derived.Test.YthefajkihnlgfaaGreatDoorSyP
import Derived.Test.YthefajkihnlgfaaGreatDoorM21
namespace Go.Proofs.YthefajkihnlgfaaGreatDoor
open Go.RowKit Go.Shelf
set_option linter.unusedSimpArgs false
set_option linter.unusedVariables false
attribute [local go_sem] store_flt
set_option maxHeartbeats 2000000 in
set_option maxRecDepth 100000 in
theorem parts_any : ∀ (d : Nat) (v : V) (r f : Value) (w : World) (most : Nat), 1 ≤ most → most ≤ 2000 → VI d w v r f →
    Calls Tryz.prog 11 #[.agg #[.int .i64 v.kind, .int .i64 v.int, .float .f64 v.flt, .string v.text, r, f], .int .i64 (most : Int)] w fun e w' => (∃ q : Nat, 1 ≤ q ∧ q ≤ most ∧ e = .returned (.int .i64 (q : Int))) ∧ Below w.heap.size w w' := by
  intro d
  induction d with
  | zero => intro v r f w most _ _ h; exact h.elim
  | succ d ih =>
    intro v r f w most hm1 hm2 h
    obtain ⟨ra, rc, a, cap, rfl, rfl, hbd, hs⟩ := h.shape
    have HI := Lib.hid (fun i x (hi : v.items[i]? = some x) => h.item hi)
    have IH := Lib.hid ih
    generalize hn : v.items.length = n at *
    generalize v.names.length = nn at *
    have HN := Lib.hid hn
    clear hn h ih
    go_enter Tryz.func11, Tryz.ntmps11
    go_wp2_with fail
    go_loopw [5, 6] (fun t i wr => ∃ (k q : Nat), k ≤ n ∧ 1 ≤ q ∧ q ≤ most ∧ i = .int .i64 (k : Int) ∧ t = .int .i64 (q : Int) ∧ wr.heap[w.heap.size]? = some (.cells #[.int .i64 v.kind, .int .i64 v.int, .float .f64 v.flt, .string v.text, .slice ra nn rc, .slice a n cap] 47 (0, 0)) ∧ Below w.heap.size w wr) (fun _ i _ => n - (intOf i).toNat)
    case atStart => exact ⟨0, 1, Nat.zero_le _, Nat.le_refl _, hm1, rfl, rfl, block_new _ _ rfl, (by (repeat' (first | (with_reducible exact Below.refl _ _) | (with_reducible assumption) | (with_reducible refine below_drewN ?_ _) | (with_reducible refine Below.drew ?_) | (with_reducible refine Below.alloc ?_ ?_ _) | (with_reducible refine Below.setCell ?_ ?_ _) | omega | (simp; done) | (simp; omega))))⟩
    case round =>
      obtain ⟨k, q, hk, hq1, hq2, rfl, rfl, hbox, hb⟩ := hrel
      have c5 := block_cell (i := 5) hbox rfl
      by_cases hlt : k < n
      · have hltI : (k : Int) < (n : Int) := by omega
        have hltb : decide ((k : Int) < (n : Int)) = true := decide_eq_true hltI
        by_cases hqm : q < most
        · have hqI : (q : Int) < (most : Int) := by omega
          obtain ⟨x, hx⟩ := get_lt v.items (k := k) (by have := HN.out; omega)
          obtain ⟨b, off, r', f', rfl, k1, k2, k3, k4, k5, k6, hv⟩ := HI.out k x hx
          have k1 := cell_keeps hb k1
          have k2 := cell_keeps hb k2
          have k3 := cell_keeps hb k3
          have k4 := cell_keeps hb k4
          have k5 := cell_keeps hb k5
          have k6 := cell_keeps hb k6
          obtain ⟨e, he⟩ : ∃ e : Nat, most - q = e := ⟨_, rfl⟩
          have hsub : (most : Int) - (q : Int) = (e : Int) := by omega
          have HC := Lib.hid (IH.out x _ _ wr e (by omega) (by omega) (hv.keeps hb))
          clear hx hv
          go_wp2_with fail
          refine HC.out.mono ?_
          rintro e' w1 ⟨⟨q', h1, h2, rfl⟩, hb1⟩
          go_wp2_with fail
          go_roundw
          case rel => exact ⟨k + 1, q + q', by omega, by omega, by omega, by go_num, by go_num, block_below hbox hb1, hb.next hb1⟩
          case measure => simp [intOf]; omega
        · have hqI : ¬ ((q : Int) < (most : Int)) := by omega
          go_wp2_with fail
          go_ret
          exact ⟨⟨q, hq1, hq2, rfl⟩, hb⟩
      · have hltI : ¬ ((k : Int) < (n : Int)) := by omega
        have hltb : decide ((k : Int) < (n : Int)) = false := decide_eq_false hltI
        go_wp2_with fail
        go_ret
        exact ⟨⟨q, hq1, hq2, rfl⟩, hb⟩
set_option maxHeartbeats 4000000 in
set_option maxRecDepth 100000 in
theorem large_any {d : Nat} {v0 v1 v2 v3 : Value} {c : Cf} {w : World} (h : CV d w v0 v1 v2 v3 c) :
    Calls Tryz.prog 5 #[.agg #[v0, v1, v2, v3]] w fun e w' => (e = .returned (.bool true) ∨ e = .returned (.bool false) ∧ c.ss.length + c.fs.length + c.us.length + c.un.length ≤ 2000) ∧ Below w.heap.size w w' := by
  obtain ⟨ss, fs, us, un⟩ := c
  have hst : StL d w v0 ss := h.st
  have hfi : PL w v1 fs := h.fi
  have hus : SL w v2 us := h.us
  have hun : UL w v3 un := h.un
  obtain ⟨sa, sk, rfl, hps⟩ := hst
  obtain ⟨fa, fk, rfl, _⟩ := hfi
  obtain ⟨ua, uk, rfl, _, _, _⟩ := hus
  obtain ⟨na, nk, rfl, _, _⟩ := hun
  have HS := Lib.hid hps
  have hl : ss.length ≤ 1048576 ∧ fs.length ≤ 1048576 ∧ us.length ≤ 1048576 ∧ un.length ≤ 1048576 := h.len
  obtain ⟨hl1, hl2, hl3, hl4⟩ := hl
  clear h hps
  show Calls _ _ _ _ fun (e : Ending) w' => (e = .returned (.bool true) ∨ e = .returned (.bool false) ∧ ss.length + fs.length + us.length + un.length ≤ 2000) ∧ Below w.heap.size w w'
  obtain ⟨n1, hn1⟩ : ∃ n, ss.length = n := ⟨_, rfl⟩
  obtain ⟨n2, hn2⟩ : ∃ n, fs.length = n := ⟨_, rfl⟩
  obtain ⟨n3, hn3⟩ : ∃ n, us.length = n := ⟨_, rfl⟩
  obtain ⟨n4, hn4⟩ : ∃ n, un.length = n := ⟨_, rfl⟩
  rw [hn1] at hl1 ⊢
  rw [hn2] at hl2 ⊢
  rw [hn3] at hl3 ⊢
  rw [hn4] at hl4 ⊢
  have HN1 := Lib.hid hn1
  clear hn1 hn2 hn3 hn4
  go_enter Tryz.func5, Tryz.ntmps5
  go_wp2_with fail
  go_loopw [3, 4] (fun t i wr => ∃ (k q : Nat), k ≤ n1 ∧ n1 + n2 + n3 + n4 ≤ q ∧ q ≤ 4194304 + 2000 * k ∧ i = .int .i64 (k : Int) ∧ t = .int .i64 (q : Int) ∧ wr.heap[w.heap.size]? = some (.cells #[.slice sa n1 sk, .slice fa n2 fk, .slice ua n3 uk, .slice na n4 nk] 27 (0, 0)) ∧ Below w.heap.size w wr) (fun _ i _ => n1 - (intOf i).toNat)
  case atStart => exact ⟨0, n1 + n2 + n3 + n4, Nat.zero_le _, Nat.le_refl _, by omega, rfl, by go_num, block_new _ _ rfl, (Below.refl _ _).alloc (Nat.le_refl _) _⟩
  case round =>
    obtain ⟨k, q, hk, hq1, hq2, rfl, rfl, hbox, hb⟩ := hrel
    have c0 := block_cell (i := 0) hbox rfl
    by_cases hlt : k < n1
    · have hltI : (k : Int) < (n1 : Int) := by omega
      have hltb : decide ((k : Int) < (n1 : Int)) = true := decide_eq_true hltI
      by_cases hqm : q ≤ 2000
      · have hqI : (q : Int) ≤ 2000 := by omega
        obtain ⟨s, hs⟩ := get_lt ss (k := k) (by have := HN1.out; omega)
        obtain ⟨_, _, _, b, off, r, f, rfl, k0, k1, k2, k3, k4, k5, k6, hv⟩ := HS.out k s hs
        have k1 := cell_keeps hb k1
        have k2 := cell_keeps hb k2
        have k3 := cell_keeps hb k3
        have k4 := cell_keeps hb k4
        have k5 := cell_keeps hb k5
        have k6 := cell_keeps hb k6
        have HC := Lib.hid (parts_any d s.2 _ _ wr 2000 (by omega) (by omega) (hv.keeps hb))
        clear hs hv
        go_wp2_with fail
        refine HC.out.mono ?_
        rintro e' w1 ⟨⟨q', h1, h2, rfl⟩, hb1⟩
        go_wp2_with fail
        go_roundw
        case rel => exact ⟨k + 1, q + q', by omega, by omega, by omega, by go_num, by go_num, block_below hbox hb1, hb.next hb1⟩
        case measure => simp [intOf]; omega
      · have hqI : ¬ ((q : Int) ≤ 2000) := by omega
        have hqJ : (2000 : Int) < (q : Int) := by omega
        go_wp2_with fail
        go_ret
        exact ⟨Or.inl rfl, hb⟩
    · have hltI : ¬ ((k : Int) < (n1 : Int)) := by omega
      have hltb : decide ((k : Int) < (n1 : Int)) = false := decide_eq_false hltI
      by_cases hqm : q ≤ 2000
      · have hqJ : ¬ ((2000 : Int) < (q : Int)) := by omega
        go_wp2_with fail
        go_ret
        exact ⟨Or.inr ⟨rfl, by omega⟩, hb⟩
      · have hqJ : (2000 : Int) < (q : Int) := by omega
        go_wp2_with fail
        go_ret
        exact ⟨Or.inl rfl, hb⟩
end Go.Proofs.YthefajkihnlgfaaGreatDoor

/- Plain: a configuration's manifest. -/
namespace Go.Proofs.YthefajkihnlgfaaGreatDoor
open Go.RowKit
def pre {α : Type} (f : α → List UInt8) (xs : List α) (k : Nat) : List UInt8 := (xs.take k).flatMap f
theorem pre_zero {α : Type} (f : α → List UInt8) (xs : List α) : pre f xs 0 = [] := rfl
theorem pre_succ {α : Type} {f : α → List UInt8} {xs : List α} {k : Nat} {x : α} (h : xs[k]? = some x) : pre f xs (k + 1) = pre f xs k ++ f x := by
  unfold pre
  rw [List.take_add_one, h]
  simp
theorem pre_mono {α : Type} (f : α → List UInt8) (xs : List α) {j k : Nat} (h : j ≤ k) : (pre f xs j).length ≤ (pre f xs k).length := by
  obtain ⟨e, rfl⟩ : ∃ e, k = j + e := ⟨k - j, by omega⟩
  unfold pre
  rw [List.take_add, List.flatMap_append, List.length_append]
  omega
theorem pre_le {α : Type} {f : α → List UInt8} {xs : List α} {k n : Nat} {x : α} (h : xs[k]? = some x) (hn : k < n) : (pre f xs k).length + (f x).length ≤ (pre f xs n).length := by
  have h1 := pre_mono f xs (show k + 1 ≤ n from hn)
  rw [pre_succ h, List.length_append] at h1
  exact h1
theorem pre_bound {α : Type} (f : α → List UInt8) (B : Nat) : ∀ (xs : List α), (∀ x, x ∈ xs → (f x).length ≤ B) → ∀ k, (pre f xs k).length ≤ xs.length * B
  | [], _, k => by simp [pre]
  | a :: r, h, k => by
    cases k with
    | zero => simp [pre]
    | succ k =>
      have h1 := pre_bound f B r (fun x hx => h x (List.mem_cons_of_mem _ hx)) k
      have h2 := h a List.mem_cons_self
      unfold pre at h1 ⊢
      rw [List.take_succ_cons, List.flatMap_cons, List.length_append, List.length_cons, Nat.add_mul]
      omega
def manS (d : Nat) (s : ByteArray × V) : List UInt8 := s.1.data.toList ++ [32, 61, 32] ++ shT d s.2 ++ [10]
def manF (p : ByteArray × ByteArray) : List UInt8 := [102, 105, 108, 101, 32] ++ p.1.data.toList ++ [10]
def manU (s : ByteArray) : List UInt8 := [117, 115, 101, 114, 32] ++ s.data.toList ++ [10]
def manN (u : U) : List UInt8 := [117, 110, 105, 116, 32] ++ u.name.data.toList ++ [10]
def manT (d : Nat) (c : Cf) : List UInt8 := pre (manS d) c.ss c.ss.length ++ pre manF c.fs c.fs.length ++ pre manU c.us c.us.length ++ pre manN c.un c.un.length
end Go.Proofs.YthefajkihnlgfaaGreatDoor

