/- print.Right: the walk. -/
import Derived.Test.YtkoghgnjjfnamaaGreatDoorKc
import Derived.Test.YtkoghgnjjfnamaaGreatDoorKb
import Derived.Test.YtkoghgnjjfnamaaGreatDoorBackI
import Derived.Test.YtkoghgnjjfnamaaGreatDoorRegTabIn
import Derived.StillTailTactics
namespace Go.Proofs.YtkoghgnjjfnamaaGreatDoor
open Go.RowKit
set_option linter.unusedSimpArgs false
set_option linter.unusedVariables false
attribute [local go_sem] Oper.semAt_some
theorem with_worldR {P : Program} {c : Code} {Q : Exit → Act → World → Prop} {a : Act} {w : World} (h : ∀ w0 : World, w0 = w → c.wp P Q a w0) : c.wp P Q a w := h w rfl
theorem bl_at {begs : List Nat} {n k : Nat} (hb : begs.length = n) (hk : k < n) : (begs.take k ++ List.replicate (n - k) 0)[k]? = some 0 := by
  rw [List.getElem?_append_right (by simp; omega), List.getElem?_replicate]
  simp
  omega
theorem bl_next {begs : List Nat} {n k : Nat} (hb : begs.length = n) (hk : k < n) : (begs.take k ++ List.replicate (n - k) 0).set k (begs.getD k 0) = begs.take (k + 1) ++ List.replicate (n - (k + 1)) 0 := by
  have h1 : begs.take (k + 1) = begs.take k ++ [begs.getD k 0] := by
    rw [List.take_add_one, List.getElem?_eq_getElem (by omega), List.getD_eq_getElem?_getD, List.getElem?_eq_getElem (by omega)]
    rfl
  rw [h1, List.set_append_right _ _ (by simp; omega), List.append_assoc]
  congr 1
  obtain ⟨m, hm⟩ : ∃ m, n - k = m + 1 := ⟨n - k - 1, by omega⟩
  rw [hm, List.length_take, Nat.min_eq_left (by omega), Nat.sub_self, List.replicate_succ, List.set_cons_zero, show n - (k + 1) = m by omega]
  rfl
theorem infoN : (Tryz.prog.info? 3).map (fun i => (i.zero, i.size, i.bytes)) = some (some (.int .i64 0), 1, 8) := by kernel_rfl
theorem make_nums (n : Nat) (hn : n ≤ 1000) (w : World) : (Instr.makeSlice 29 (.int .i64 (n : Int)) (.int .i64 (n : Int))).run Tryz.prog w = .ok (.slice (some ⟨w.heap.size, 0, none⟩) n n) (w.alloc (.cells ((List.replicate n 0).map num).toArray 3)) := by
  obtain ⟨i0, hi, hz0, hz1, hz2⟩ := info_parts infoN
  have hr := run_make (P := Tryz.prog) (w := w) 29 3 i0 _ Tryz.underlying29 hi hz0 .i64 .i64 n n (by omega) (by omega) (by rw [hz2]; omega) (by omega)
  simp only [Int.toNat_natCast] at hr
  rw [hr, hz1, Nat.mul_one]
  have e : madeCells (Value.int .i64 0).cells n = ((List.replicate n 0).map num).toArray := by
    have := toList_madeCells_one (.int .i64 0) n
    rw [List.map_replicate, show num 0 = .int .i64 0 from rfl, ← this]
    rfl
  rw [e]
/-- What stands while Right goes over the nodes: its variables, where the nodes so far begin, the marks of loops that are done. -/
structure RI (w : World) (fv : Value) (n : Nat) (bl rs : List Nat) (W : World) : Prop where
  f : W.heap[w.heap.size]? = some (.cells #[fv] 23 (0, 0))
  r : W.heap[w.heap.size + 1]? = some (.cells #[.bool false] 4 (0, 0))
  g : W.heap[w.heap.size + 2]? = some (.cells (bl.map num).toArray 3 (0, 0))
  b : W.heap[w.heap.size + 3]? = some (.cells #[.slice (some ⟨w.heap.size + 2, 0, none⟩) n n] 29 (0, 0))
  mks : MarkedAt w.heap.size rs W
  low : Below w.heap.size w W
  big : w.heap.size + 4 ≤ W.heap.size
theorem RI.kept {w : World} {fv : Value} {n : Nat} {bl rs : List Nat} {W W' : World} (h : RI w fv n bl rs W) (hk : ∀ k, k < W.heap.size → W'.heap[k]? = W.heap[k]?) (hl : Below w.heap.size w W') (hz : W.heap.size ≤ W'.heap.size) : RI w fv n bl rs W' := by
  have hb := h.big
  exact ⟨(hk _ (by omega)).trans h.f, (hk _ (by omega)).trans h.r, (hk _ (by omega)).trans h.g, (hk _ (by omega)).trans h.b, ⟨h.mks.1, fun r hr => ⟨(h.mks.2 r hr).1, (hk r (Array.getElem?_eq_some_iff.1 (h.mks.2 r hr).2).1).trans (h.mks.2 r hr).2⟩⟩, hl, by omega⟩
theorem RI.next {w : World} {fv : Value} {n : Nat} {bl rs : List Nat} {W W' : World} (h : RI w fv n bl rs W) (hb : Below W.heap.size W W') : RI w fv n bl rs W' :=
  h.kept hb.block (h.low.trans (hb.mono h.low.size)) hb.size
theorem RI.setg {w : World} {fv : Value} {n : Nat} {bl rs : List Nat} {W : World} (h : RI w fv n bl rs W) (j v : Nat) : RI w fv n (bl.set j v) rs (W.setCell ⟨w.heap.size + 2, j, none⟩ (.int .i64 (v : Int))) := by
  have hne : ∀ k, k ≠ w.heap.size + 2 → (W.setCell ⟨w.heap.size + 2, j, none⟩ (.int .i64 (v : Int))).heap[k]? = W.heap[k]? := fun k hk => Below.heap_setCell _ _ _ _ hk
  refine ⟨(hne _ (by omega)).trans h.f, (hne _ (by omega)).trans h.r, ?_, (hne _ (by omega)).trans h.b, ⟨h.mks.1, fun r hr => ⟨(h.mks.2 r hr).1, (hne r (fun e => ?_)).trans (h.mks.2 r hr).2⟩⟩, h.low.setCell (p := ⟨w.heap.size + 2, j, none⟩) (by simp) _, by have := h.big; simpa [World.setCell] using this⟩
  · have := block_set h.g (i := j) (.int .i64 (v : Int))
    rw [this]
    congr 2
    apply Array.ext'
    simp [num, List.map_set]
  · have h2 := (h.mks.2 r hr).2
    rw [e, h.g] at h2
    cases h2
theorem results_c1 {fn : Func} {t : Tmp} (h : fn.results = #[.cell t 4]) {tmps : Array Value} {w : World} {a : Addr} {x : Value} (hp : tmps.getD t undef = .pointer (some a)) (hc : w.cell? a = some x) : (results fn tmps).run Tryz.prog w = .ok x w := by
  have hp' : tmps[t]?.getD undef = .pointer (some a) := by rw [← hp]; simp
  unfold results
  rw [h]
  simp [hp', loadVar, isAgg, asAddr, hc, Result.andThen, go_sem]
/-- Where a node begins, after j of its kids from the last on. -/
def bA (begs kids : List Nat) (i : Nat) : Nat → Nat
  | 0 => i
  | j + 1 => begs.getD (kids.getD (kids.length - 1 - j) 5000) 0
theorem kidsF_steps {f : List Nd} {begs : List Nat} {names : List ByteArray} : ∀ (l : List Nat) (b fin : Nat), kidsF f begs names l b = some fin →
    ∀ (B : Nat → Nat), B 0 = b → (∀ j, j < l.length → B (j + 1) = begs.getD (l.getD j 5000) 0) → (∀ j, j < l.length → B j ≠ 0 ∧ l.getD j 5000 = B j - 1 ∧ ∃ x, f[l.getD j 5000]? = some x ∧ (names = [] → x.kind ≠ 19)) ∧ fin = B l.length
  | [], b, fin, h, B, h0, hs => by
    unfold kidsF at h
    cases h
    exact ⟨fun j hj => absurd hj (by simp), h0.symm⟩
  | kid :: rest, b, fin, h, B, h0, hs => by
    unfold kidsF at h
    split at h
    · cases h
    · rename_i hc
      split at h
      · cases h
      · rename_i x hx
        split at h
        · cases h
        · rename_i h19
          have h1 : B 1 = begs.getD kid 0 := hs 0 (by simp)
          obtain ⟨ih1, ih2⟩ := kidsF_steps rest _ fin h (fun j => B (j + 1)) h1 (fun j hj => by
            have := hs (j + 1) (by simp; omega)
            simpa using this)
          refine ⟨fun j hj => ?_, by simpa using ih2⟩
          cases j with
          | zero =>
            rw [h0]
            refine ⟨fun e => hc (Or.inl e), ?_, x, by simpa using hx, fun hn hk => h19 ⟨hk, by rw [hn]; simp⟩⟩
            show kid = b - 1
            rcases Nat.lt_or_ge kid (b - 1) with h' | h' <;> first | omega | (have : ¬ kid ≠ b - 1 := fun e => hc (Or.inr e); omega)
          | succ j => exact ih1 j (by simp at hj; omega)
theorem rev_get {kids : List Nat} {j : Nat} (h : j < kids.length) : kids.reverse.getD j 5000 = kids.getD (kids.length - 1 - j) 5000 := by
  rw [List.getD_eq_getElem?_getD, List.getD_eq_getElem?_getD, List.getElem?_reverse h]
/-- The kids of a node that stands: each is the one ahead of where the node begins so far. -/
theorem kids_at {f : List Nd} {begs kids : List Nat} {names : List ByteArray} {i fin : Nat} (h : kidsF f begs names kids.reverse i = some fin) : (∀ j, j < kids.length → bA begs kids i j ≠ 0 ∧ kids.getD (kids.length - 1 - j) 5000 = bA begs kids i j - 1 ∧ ∃ x, f[kids.getD (kids.length - 1 - j) 5000]? = some x ∧ (names = [] → x.kind ≠ 19)) ∧ fin = bA begs kids i kids.length := by
  obtain ⟨h1, h2⟩ := kidsF_steps kids.reverse i fin h (bA begs kids i) rfl (fun j hj => by rw [rev_get (by simpa using hj)]; rfl)
  refine ⟨fun j hj => ?_, by simpa using h2⟩
  have := h1 j (by simpa using hj)
  rwa [rev_get hj] at this
/-- What stands in a round over the kids. -/
def RJ (w : World) (fv : Value) (n : Nat) (bl rs : List Nat) (Z k N1 : Nat) (cN : Array Value) (begs kids : List Nat) (pre : List Nat) (W : World) : Prop :=
  pre = upto' (fun j => kids.length - 1 - j) pre.length ∧ pre.length ≤ kids.length ∧ RI w fv n (bl.set k (bA begs kids k pre.length)) rs W ∧ W.heap[Z]? = some (.cells #[.int .i64 (k : Int)] 3 (0, 0)) ∧ W.heap[Z + 1]? = some (.cells cN 36 (0, 0)) ∧ N1 ≤ W.heap.size
theorem RI.grown {w : World} {fv : Value} {n : Nat} {bl rs : List Nat} {W W' : World} {row : Option Nat} {N1 : Nat} (h : RI w fv n bl rs W) (hg : W.grownBy W' row) (hr : ∀ r, row = some r → N1 ≤ r) (hN : w.heap.size + 4 ≤ N1) (hrs : ∀ r ∈ rs, r < N1) : RI w fv n bl rs W' := by
  have hb := h.big
  have hk : ∀ k, k < W.heap.size → k < N1 → W'.heap[k]? = W.heap[k]? := fun k hk hkN => hg.block k hk (fun e => by have := hr k e.symm; omega)
  exact ⟨(hk _ (by omega) (by omega)).trans h.f, (hk _ (by omega) (by omega)).trans h.r, (hk _ (by omega) (by omega)).trans h.g, (hk _ (by omega) (by omega)).trans h.b, ⟨h.mks.1, fun r hr' => ⟨(h.mks.2 r hr').1, (hk r (Array.getElem?_eq_some_iff.1 (h.mks.2 r hr').2).1 (hrs r hr')).trans (h.mks.2 r hr').2⟩⟩, h.low.grown hg h.low.size (fun j hj => by have := hr j hj; omega), by have := hg.size; omega⟩
theorem RJ.own {w : World} {fv : Value} {n : Nat} {bl rs : List Nat} {Z k N1 : Nat} {cN : Array Value} {begs kids : List Nat} (hN : w.heap.size + 4 ≤ N1) (hZ : Z + 1 < N1) (hrs : ∀ r ∈ rs, r < N1) : OwnFrom N1 (RJ w fv n bl rs Z k N1 cN begs kids) := by
  rintro pre A B row ⟨h1, h2, h3, h4, h5, h6⟩ hg hr
  have hr' : ∀ r, row = some r → N1 ≤ r := fun r e => (hr r e).1
  refine ⟨h1, h2, h3.grown hg hr' hN hrs, ?_, ?_, Nat.le_trans h6 hg.size⟩
  · rw [hg.block Z (block_lt h4) (fun e => by have := hr' Z e.symm; omega)]; exact h4
  · rw [hg.block (Z + 1) (block_lt h5) (fun e => by have := hr' (Z + 1) e.symm; omega)]; exact h5
set_option maxHeartbeats 4000000 in
set_option maxRecDepth 100000 in
theorem Right_any {pn : Nat → Prop} {pk : Nat → Nat → Prop} {w : World} {fb c : Nat} {ls : List NV} (HN : NRd pn pk w fb 0 ls) (hl0 : 0 < ls.length) (hl : ls.length ≤ 1000) {begs : List Nat} (hbl : begs.length = ls.length)
    (hsh : ∀ (i : Nat) (x : NV), ls[i]? = some x → ∀ (a1 a2 : Option Addr) (c1 c2 : Nat) (w' : World), Below w.heap.size w w' → Calls Tryz.prog 21 #[.agg #[.int .i64 x.nd.kind, .string x.nd.text, .int .i64 x.nd.int, .float .f64 x.nd.flt, .slice a1 x.nd.names.length c1, .slice a2 x.nd.kids.length c2, .int .i64 (x.nd.place : Int)]] w' fun e w2 => e = .returned (.bool true) ∧ Below w'.heap.size w' w2)
    (hnm : ∀ (i : Nat) (x : NV), ls[i]? = some x → x.nd.names = [])
    (hkd : ∀ (i : Nat) (x : NV), ls[i]? = some x → kidsF (ls.map NV.nd) begs x.nd.names x.nd.kids.reverse i = some (begs.getD i 0) ∧ x.nd.kids.length ≤ 1000 ∧ x.nd.kids.Nodup ∧ ∀ j ∈ x.nd.kids, j < i)
    (hb0 : begs.getD (ls.length - 1) 0 = 0) (hk19 : ∀ (i : Nat) (x : NV), ls[i]? = some x → i + 1 = ls.length → x.nd.kind ≠ 19) :
    Calls Tryz.prog 11 #[.slice (some ⟨fb, 0, none⟩) ls.length c] w fun e w' => e = .returned (.bool true) ∧ Below w.heap.size w w' := by
  have HN1 := Lib.hid HN
  have HSH := Lib.hid hsh
  have HNM := Lib.hid hnm
  have HKD := Lib.hid hkd
  have HK19 := Lib.hid hk19
  have HB0 := Lib.hid hb0
  have HBL := Lib.hid hbl
  obtain ⟨n, hn⟩ : ∃ n, ls.length = n := ⟨_, rfl⟩
  rw [hn] at hl0 hl ⊢
  have HLN := Lib.hid hn
  clear hn hsh hnm hkd hk19 hb0 hbl HN
  have hl0I : ¬ ((n : Int) = 0) := by omega
  have hlI : ¬ ((1000 : Int) < (n : Int)) := by omega
  have hmk := make_nums n hl
  have hsf := store_f64
  have hmm := @run_makeMap Tryz.prog
  refine (callsIn_wide (n := 3)).1 (callsIn_of_wp_marks Tryz.func11 rfl trivial (wpIn_wide.2 ?_) rfl)
  simp only [Tryz.ntmps11, List.size_toArray, List.length_cons, List.length_nil, Nat.reduceAdd, Nat.reduceSub, Array.replicate_succ, Array.replicate_zero, List.push_toArray, List.append_toArray, List.nil_append, List.cons_append]
  go_wp2_with fail
  simp only [Nat.add_assoc, Nat.reduceAdd]
  refine wp_loop (fun a' wr => ∃ (u4 u5 u6 u7 u8 u9 u10 u11 u12 u13 u14 u15 u16 u17 u18 u19 u20 u21 u22 u23 u26 u27 u28 u29 u30 u31 u32 u33 u34 u35 u36 u37 u38 u39 u40 u41 u42 u43 u44 u45 u46 u47 u48 u49 u50 u51 u52 u53 u54 u55 u56 u57 u58 u59 u60 u61 u62 u63 u64 u65 u66 u67 u68 u69 u70 u71 u72 u73 u74 u75 u76 u77 u78 u79 u80 u81 u82 u83 u84 u85 u86 u87 u88 u89 u90 u91 u92 u93 u94 u95 u96 u97 u98 u99 u100 u101 u102 u103 u104 u105 u106 u107 u108 u109 u110 u111 u112 u113 u114 u115 u116 u117 u118 u119 u120 u121 u122 u123 : Value) (ds : List Deferred), (∃ (k : Nat) (rs : List Nat), k ≤ n ∧ u26 = .int .i64 (k : Int) ∧ ds = rs.map markOf ∧ RI w (.slice (some ⟨fb, 0, none⟩) n c) n (begs.take k ++ List.replicate (n - k) 0) rs wr) ∧ a' = { tmps := #[.slice (some ⟨fb, 0, none⟩) n c, .pointer (some ⟨w.heap.size, 0, none⟩), .pointer (some ⟨w.heap.size + 1, 0, none⟩), .pointer (some ⟨w.heap.size + 3, 0, none⟩), u4, u5, u6, u7, u8, u9, u10, u11, u12, u13, u14, u15, u16, u17, u18, u19, u20, u21, u22, u23, .slice (some ⟨fb, 0, none⟩) n c, .int .i64 (n : Int), u26, u27, u28, u29, u30, u31, u32, u33, u34, u35, u36, u37, u38, u39, u40, u41, u42, u43, u44, u45, u46, u47, u48, u49, u50, u51, u52, u53, u54, u55, u56, u57, u58, u59, u60, u61, u62, u63, u64, u65, u66, u67, u68, u69, u70, u71, u72, u73, u74, u75, u76, u77, u78, u79, u80, u81, u82, u83, u84, u85, u86, u87, u88, u89, u90, u91, u92, u93, u94, u95, u96, u97, u98, u99, u100, u101, u102, u103, u104, u105, u106, u107, u108, u109, u110, u111, u112, u113, u114, u115, u116, u117, u118, u119, u120, u121, u122, u123], defers := ds }) (fun a' _ => n - (intOf (a'.tmps.getD 26 undef)).toNat) ?_ ?_
  · (repeat apply Exists.intro)
    refine ⟨?_, rfl⟩
    refine ⟨0, [], Nat.zero_le _, rfl, rfl, block_alloc (block_alloc (block_alloc (block_new _ _ rfl) _) _) _, block_alloc (block_alloc (block_new _ _ (by simp)) _) _, ?_, block_new _ _ (by simp), ⟨List.nodup_nil, fun r hr => by cases hr⟩, (by (repeat' (first | (with_reducible exact Below.refl _ _) | (with_reducible assumption) | (with_reducible refine below_drewN ?_ _) | (with_reducible refine Below.drew ?_) | (with_reducible refine Below.alloc ?_ ?_ _) | (with_reducible refine Below.setCell ?_ ?_ _) | omega | (simp; done) | (simp; omega)))), by simp⟩
    have := block_alloc (block_new (((w.alloc (.cells #[.slice (some ⟨fb, 0, none⟩) n c] 23)).alloc (.cells #[.bool false] 4))) (.cells ((List.replicate n 0).map num).toArray 3) (g := w.heap.size + 2) (by simp)) (.cells #[.slice (some ⟨w.heap.size + 2, 0, none⟩) n n] 29)
    simpa using this
  · intro a0 wr hinv
    obtain ⟨u4, hinv⟩ := hinv
    obtain ⟨u5, hinv⟩ := hinv
    obtain ⟨u6, hinv⟩ := hinv
    obtain ⟨u7, hinv⟩ := hinv
    obtain ⟨u8, hinv⟩ := hinv
    obtain ⟨u9, hinv⟩ := hinv
    obtain ⟨u10, hinv⟩ := hinv
    obtain ⟨u11, hinv⟩ := hinv
    obtain ⟨u12, hinv⟩ := hinv
    obtain ⟨u13, hinv⟩ := hinv
    obtain ⟨u14, hinv⟩ := hinv
    obtain ⟨u15, hinv⟩ := hinv
    obtain ⟨u16, hinv⟩ := hinv
    obtain ⟨u17, hinv⟩ := hinv
    obtain ⟨u18, hinv⟩ := hinv
    obtain ⟨u19, hinv⟩ := hinv
    obtain ⟨u20, hinv⟩ := hinv
    obtain ⟨u21, hinv⟩ := hinv
    obtain ⟨u22, hinv⟩ := hinv
    obtain ⟨u23, hinv⟩ := hinv
    obtain ⟨u26, hinv⟩ := hinv
    obtain ⟨u27, hinv⟩ := hinv
    obtain ⟨u28, hinv⟩ := hinv
    obtain ⟨u29, hinv⟩ := hinv
    obtain ⟨u30, hinv⟩ := hinv
    obtain ⟨u31, hinv⟩ := hinv
    obtain ⟨u32, hinv⟩ := hinv
    obtain ⟨u33, hinv⟩ := hinv
    obtain ⟨u34, hinv⟩ := hinv
    obtain ⟨u35, hinv⟩ := hinv
    obtain ⟨u36, hinv⟩ := hinv
    obtain ⟨u37, hinv⟩ := hinv
    obtain ⟨u38, hinv⟩ := hinv
    obtain ⟨u39, hinv⟩ := hinv
    obtain ⟨u40, hinv⟩ := hinv
    obtain ⟨u41, hinv⟩ := hinv
    obtain ⟨u42, hinv⟩ := hinv
    obtain ⟨u43, hinv⟩ := hinv
    obtain ⟨u44, hinv⟩ := hinv
    obtain ⟨u45, hinv⟩ := hinv
    obtain ⟨u46, hinv⟩ := hinv
    obtain ⟨u47, hinv⟩ := hinv
    obtain ⟨u48, hinv⟩ := hinv
    obtain ⟨u49, hinv⟩ := hinv
    obtain ⟨u50, hinv⟩ := hinv
    obtain ⟨u51, hinv⟩ := hinv
    obtain ⟨u52, hinv⟩ := hinv
    obtain ⟨u53, hinv⟩ := hinv
    obtain ⟨u54, hinv⟩ := hinv
    obtain ⟨u55, hinv⟩ := hinv
    obtain ⟨u56, hinv⟩ := hinv
    obtain ⟨u57, hinv⟩ := hinv
    obtain ⟨u58, hinv⟩ := hinv
    obtain ⟨u59, hinv⟩ := hinv
    obtain ⟨u60, hinv⟩ := hinv
    obtain ⟨u61, hinv⟩ := hinv
    obtain ⟨u62, hinv⟩ := hinv
    obtain ⟨u63, hinv⟩ := hinv
    obtain ⟨u64, hinv⟩ := hinv
    obtain ⟨u65, hinv⟩ := hinv
    obtain ⟨u66, hinv⟩ := hinv
    obtain ⟨u67, hinv⟩ := hinv
    obtain ⟨u68, hinv⟩ := hinv
    obtain ⟨u69, hinv⟩ := hinv
    obtain ⟨u70, hinv⟩ := hinv
    obtain ⟨u71, hinv⟩ := hinv
    obtain ⟨u72, hinv⟩ := hinv
    obtain ⟨u73, hinv⟩ := hinv
    obtain ⟨u74, hinv⟩ := hinv
    obtain ⟨u75, hinv⟩ := hinv
    obtain ⟨u76, hinv⟩ := hinv
    obtain ⟨u77, hinv⟩ := hinv
    obtain ⟨u78, hinv⟩ := hinv
    obtain ⟨u79, hinv⟩ := hinv
    obtain ⟨u80, hinv⟩ := hinv
    obtain ⟨u81, hinv⟩ := hinv
    obtain ⟨u82, hinv⟩ := hinv
    obtain ⟨u83, hinv⟩ := hinv
    obtain ⟨u84, hinv⟩ := hinv
    obtain ⟨u85, hinv⟩ := hinv
    obtain ⟨u86, hinv⟩ := hinv
    obtain ⟨u87, hinv⟩ := hinv
    obtain ⟨u88, hinv⟩ := hinv
    obtain ⟨u89, hinv⟩ := hinv
    obtain ⟨u90, hinv⟩ := hinv
    obtain ⟨u91, hinv⟩ := hinv
    obtain ⟨u92, hinv⟩ := hinv
    obtain ⟨u93, hinv⟩ := hinv
    obtain ⟨u94, hinv⟩ := hinv
    obtain ⟨u95, hinv⟩ := hinv
    obtain ⟨u96, hinv⟩ := hinv
    obtain ⟨u97, hinv⟩ := hinv
    obtain ⟨u98, hinv⟩ := hinv
    obtain ⟨u99, hinv⟩ := hinv
    obtain ⟨u100, hinv⟩ := hinv
    obtain ⟨u101, hinv⟩ := hinv
    obtain ⟨u102, hinv⟩ := hinv
    obtain ⟨u103, hinv⟩ := hinv
    obtain ⟨u104, hinv⟩ := hinv
    obtain ⟨u105, hinv⟩ := hinv
    obtain ⟨u106, hinv⟩ := hinv
    obtain ⟨u107, hinv⟩ := hinv
    obtain ⟨u108, hinv⟩ := hinv
    obtain ⟨u109, hinv⟩ := hinv
    obtain ⟨u110, hinv⟩ := hinv
    obtain ⟨u111, hinv⟩ := hinv
    obtain ⟨u112, hinv⟩ := hinv
    obtain ⟨u113, hinv⟩ := hinv
    obtain ⟨u114, hinv⟩ := hinv
    obtain ⟨u115, hinv⟩ := hinv
    obtain ⟨u116, hinv⟩ := hinv
    obtain ⟨u117, hinv⟩ := hinv
    obtain ⟨u118, hinv⟩ := hinv
    obtain ⟨u119, hinv⟩ := hinv
    obtain ⟨u120, hinv⟩ := hinv
    obtain ⟨u121, hinv⟩ := hinv
    obtain ⟨u122, hinv⟩ := hinv
    obtain ⟨u123, hinv⟩ := hinv
    obtain ⟨ds, ⟨k, rs, hk, rfl, rfl, hI⟩, ha⟩ := hinv
    subst ha
    clear hmk
    try dsimp only
    by_cases hlt : k < n
    · obtain ⟨x, hx⟩ : ∃ x, ls[k]? = some x := ⟨ls[k]'(by have := HLN.out; omega), List.getElem?_eq_getElem _⟩
      have hNR := HN1.out.below hI.low
      obtain ⟨a1, c1, a2, c2, _, hvk, k0, k1, k2, k3, k4, k5, k6, _, _⟩ := hNR.seven hx
      have HVK := Lib.hid hvk
      simp only [Nat.zero_add] at k0 k1 k2 k3 k4 k5 k6
      have hnx := HNM.out k x hx
      have hkx := HKD.out k x hx
      have HS := Lib.hid (HSH.out k x hx)
      have HX := Lib.hid hx
      have HKX := Lib.hid hkx
      have HNX := Lib.hid hnx
      have hltI : (k : Int) < (n : Int) := by omega
      have hk0 : (0 : Int) ≤ (k : Int) := by omega
      have hzz := hI.big
      clear hx hnx hkx hNR hvk
      go_wp2_with fail
      have hlow := hI.low
      refine (HS.out a1 a2 c1 c2 _ (by (repeat' (first | (with_reducible exact Below.refl _ _) | (with_reducible assumption) | (with_reducible refine below_drewN ?_ _) | (with_reducible refine Below.drew ?_) | (with_reducible refine Below.alloc ?_ ?_ _) | (with_reducible refine Below.setCell ?_ ?_ _) | omega | (simp; done) | (simp; omega))))).mono ?_
      rintro e w1 ⟨rfl, hb1⟩
      obtain ⟨Z, hZ⟩ : ∃ Z, wr.heap.size = Z := ⟨_, rfl⟩
      have hbA : Below wr.heap.size wr w1 := Below.next (by (repeat' (first | (with_reducible exact Below.refl _ _) | (with_reducible assumption) | (with_reducible refine below_drewN ?_ _) | (with_reducible refine Below.drew ?_) | (with_reducible refine Below.alloc ?_ ?_ _) | (with_reducible refine Below.setCell ?_ ?_ _) | omega | (simp; done) | (simp; omega)))) hb1
      have hI1 := hI.next hbA
      have hbi : w1.heap[Z]? = some (.cells #[.int .i64 (k : Int)] 3 (0, 0)) := by rw [hb1.block Z (by simp; omega)]; exact block_alloc (block_new _ _ hZ.symm) _
      have hbn : w1.heap[Z + 1]? = some (.cells #[.int .i64 x.nd.kind, .string x.nd.text, .int .i64 x.nd.int, .float .f64 x.nd.flt, .slice a1 x.nd.names.length c1, .slice a2 x.nd.kids.length c2, .int .i64 (x.nd.place : Int)] 36 (0, 0)) := by rw [hb1.block (Z + 1) (by simp; omega)]; exact block_new _ _ (by simp; omega)
      rw [hZ] at hzz
      rw [hZ]
      clear hI hb1 hbA hZ k0 k1 k2 k3 k4 k5 k6 hsf
      have hn0 : x.nd.names.length = 0 := by rw [HNX.out]; rfl
      have hn4 : w1.cell? ⟨Z + 1, 4, none⟩ = some (.slice a1 0 c1) := by rw [← hn0]; exact block_cell hbn rfl
      have hz1 : Z + 1 < w1.heap.size := block_lt hbn
      have hz0 : Z < w1.heap.size := block_lt hbi
      go_wp2_with fail
      go_loopw [38] (fun v wq => v = .int .i64 0 ∧ Below w1.heap.size w1 wq) (fun _ _ => 0)
      case atStart => exact ⟨rfl, (by (repeat' (first | (with_reducible exact Below.refl _ _) | (with_reducible assumption) | (with_reducible refine below_drewN ?_ _) | (with_reducible refine Below.drew ?_) | (with_reducible refine Below.alloc ?_ ?_ _) | (with_reducible refine Below.setCell ?_ ?_ _) | omega | (simp; done) | (simp; omega))))⟩
      case round =>
        obtain ⟨rfl, hbq⟩ := hrel
        have hI2 := hI1.next hbq
        have hbi2 := block_below hbi hbq
        have hbn2 := block_below hbn hbq
        have hq3 : wr.cell? ⟨Z, 0, none⟩ = some (.int .i64 (k : Int)) := block_cell hbi2 rfl
        have hbl := bl_at HBL.out (by rw [HLN.out]; exact hlt)
        rw [HLN.out] at hbl
        have cb : wr.cell? ⟨w.heap.size + 3, 0, none⟩ = some (.slice (some ⟨w.heap.size + 2, 0, none⟩) n n) := block_cell hI2.b rfl
        have cg : wr.cell? ⟨w.heap.size + 2, k, none⟩ = some (.int .i64 0) := block_cell hI2.g (by rw [List.getElem?_toArray, List.getElem?_map, hbl]; rfl)
        have fg : wr.frozen? ⟨w.heap.size + 2, k, none⟩ = false := block_free hI2.g
        clear hI1 hbi hbn hn4 hbl
        go_upto_region 18 with fail
        have hI3 := hI2.setg k k
        have hbn3 := block_setCell hbn2 (a := ⟨w.heap.size + 2, k, none⟩) (by simp; omega) (.int .i64 (k : Int))
        have hbi3 := block_setCell hbi2 (a := ⟨w.heap.size + 2, k, none⟩) (by simp; omega) (.int .i64 (k : Int))
        refine with_worldR fun w3 hw3 => ?_
        rw [← hw3] at hI3 hbn3 hbi3
        have k5 : w3.cell? ⟨Z + 1, 5, none⟩ = some (.slice a2 x.nd.kids.length c2) := block_cell hbn3 rfl
        clear hw3 hI2 hbn2 hbi2 cb cg fg hq3
        go_wp2_with fail
        refine ((callsIn_wide (n := 3)).1 (backward_in Fence.wide 3 trivial rfl a2 x.nd.kids.length c2 w3)).mono ?_
        rintro e w4 ⟨rfl, rfl⟩
        go_wp2_with fail
        have hbox := Boxed.new w3 29 (.slice a2 x.nd.kids.length c2)
        have hIA := hI3.next (W' := w3.alloc (.cells #[.slice a2 x.nd.kids.length c2] 29)) (by (repeat' (first | (with_reducible exact Below.refl _ _) | (with_reducible assumption) | (with_reducible refine below_drewN ?_ _) | (with_reducible refine Below.drew ?_) | (with_reducible refine Below.alloc ?_ ?_ _) | (with_reducible refine Below.setCell ?_ ?_ _) | omega | (simp; done) | (simp; omega))))
        have hbnA := block_alloc hbn3 (.cells #[.slice a2 x.nd.kids.length c2] 29)
        have hbiA := block_alloc hbi3 (.cells #[.slice a2 x.nd.kids.length c2] 29)
        have hsz : (w3.alloc (.cells #[.slice a2 x.nd.kids.length c2] 29)).heap.size = w3.heap.size + 1 := by simp
        obtain ⟨W1, hW1⟩ : ∃ W1, w3.alloc (.cells #[.slice a2 x.nd.kids.length c2] 29) = W1 := ⟨_, rfl⟩
        obtain ⟨Bs, hBs⟩ : ∃ Bs, w3.heap.size = Bs := ⟨_, rfl⟩
        have hrsB : ∀ r ∈ rs, r < Bs + 1 := fun r hr => by
          have := (Array.getElem?_eq_some_iff.1 (hI3.mks.2 r hr).2).1
          omega
        have hZB : Z + 1 < Bs := by rw [← hBs]; exact block_lt hbn3
        rw [hW1] at hbox hIA hbnA hbiA hsz ⊢
        rw [hBs] at hbox hsz ⊢
        clear hW1 hBs hI3 hbn3 hbi3 k5
        obtain ⟨hkF, hkl, hnd, hkn⟩ := HKX.out
        have HKA := Lib.hid (kids_at hkF)
        have hIC : ICells w.heap.size W1 (.slice a2 x.nd.kids.length c2) x.nd.kids.length (fun i => x.nd.kids.getD i 5000) := by
          rcases HN1.out.kid k x HX.out with ⟨h1, h2⟩ | ⟨g, cap, cur, e, h1, _, h3, h4⟩
          · have h5 : x.nd.kids.length = 0 := by
              have := congrArg List.length h2
              simpa using this
            rw [h5]
            exact .inl ⟨_, _, rfl, rfl⟩
          · rw [HVK.out] at h1
            simp only [Value.slice.injEq] at h1
            obtain ⟨rfl, _, rfl⟩ := h1
            refine .inr ⟨g, 0, c2, rfl, block_lt h3, fun j hj => ?_⟩
            have h6 : w.cell? ⟨g, j, none⟩ = some (num (x.nd.kids.getD j 5000)) := block_cell h3 (h4 j _ (by rw [List.getElem?_map, List.getD_eq_getElem?_getD, List.getElem?_eq_getElem hj]; rfl))
            rw [Nat.zero_add]
            exact (hIA.low.cell (p := ⟨g, j, none⟩) (block_lt h3)).trans h6
        have hI0 : RJ w (.slice (some ⟨fb, 0, none⟩) n c) n (begs.take k ++ List.replicate (n - k) 0) rs Z k (Bs + 1) #[.int .i64 x.nd.kind, .string x.nd.text, .int .i64 x.nd.int, .float .f64 x.nd.flt, .slice a1 x.nd.names.length c1, .slice a2 x.nd.kids.length c2, .int .i64 (x.nd.place : Int)] begs x.nd.kids [] W1 := ⟨rfl, Nat.zero_le _, hIA, hbiA, hbnA, by omega⟩
        refine with_frame fun a0 ha0 => ?_
        rw [← wpIn_wide (n := 3)]
        refine wpIn_rangeFunc_ownH (gf := 51) (lb := #[.pointer (some ⟨Bs, 0, none⟩)]) rfl (by decide) (by rw [ha0]; rfl) trivial (enters_of Tryz.func51 (by kernel_rfl) rfl)
          (backward_stops Fence.wide 2 trivial rfl (by decide) Bs w.heap.size (.slice a2 x.nd.kids.length c2) x.nd.kids.length (fun i => x.nd.kids.getD i 5000) (by omega) W1 (by omega) (by omega) hbox.cell hIC)
          (fun h k => KB.trans h k) (KB.put (by omega) (by omega)) (Below.refl _ _) (fun _ => rfl)
          (RJ w (.slice (some ⟨fb, 0, none⟩) n c) n (begs.take k ++ List.replicate (n - k) 0) rs Z k (Bs + 1) #[.int .i64 x.nd.kind, .string x.nd.text, .int .i64 x.nd.int, .float .f64 x.nd.flt, .slice a1 x.nd.names.length c1, .slice a2 x.nd.kids.length c2, .int .i64 (x.nd.place : Int)] begs x.nd.kids)
          (fun _ pre _ => ¬ ∃ j, j ≤ x.nd.kids.length ∧ pre = upto' (fun j => x.nd.kids.length - 1 - j) j) (by rw [hsz]; exact RJ.own (by have := hI0.2.2.1.big; omega) (by omega) hrsB) (fun _ _ _ _ _ hs _ _ => hs) hI0
          (fun y a' W => a' = { tmps := ((((a0.tmps.setIfInBounds 60 (.int .i64 (y : Int))).setIfInBounds 61 (.int .i64 (x.nd.kids.getD y 5000 : Int))).setIfInBounds 9 (.int .i64 (y : Int))).setIfInBounds 10 (.int .i64 (x.nd.kids.getD y 5000 : Int))), defers := [] })
          (fun y a' _ X Y row hs hg hr => hs) ?assign ?body ?done ?stop
        case assign =>
          rintro l pre y W K hI hK
          subst ha0
          simp only [encI]
          have HK := Lib.hid hK
          clear hK
          gi_wp2
          exact HK.out _ _ (KeepsFrom.refl _ _) (KB.refl _ _ _) hI rfl
        case body =>
          rintro l pre y a' W hl _ hI rfl hlt2
          obtain ⟨hp1, hp2, hRI, hbiW, hbnW, hNW⟩ := hI
          obtain ⟨hb0, hkid, xk, hxk, h19⟩ := HKA.out.1 pre.length hlt2
          obtain ⟨b, hbe⟩ : ∃ b, bA begs x.nd.kids k pre.length = b := ⟨_, rfl⟩
          rw [hbe] at hb0 hkid hRI
          have HBE := Lib.hid hbe
          have HP1 := Lib.hid hp1
          subst ha0
          simp only [List.setIfInBounds_toArray, List.set_cons_zero, List.set_cons_succ]
          have hset : ((begs.take k ++ List.replicate (n - k) 0).set k b)[k]? = some b := by
            rw [List.getElem?_set_self]
            simp
            have := HBL.out
            have := HLN.out
            omega
          have cb : W.cell? ⟨w.heap.size + 3, 0, none⟩ = some (.slice (some ⟨w.heap.size + 2, 0, none⟩) n n) := block_cell hRI.b rfl
          have ci : W.cell? ⟨Z, 0, none⟩ = some (.int .i64 (k : Int)) := block_cell hbiW rfl
          have cg : W.cell? ⟨w.heap.size + 2, k, none⟩ = some (.int .i64 (b : Int)) := block_cell hRI.g (by rw [List.getElem?_toArray, List.getElem?_map, hset]; rfl)
          have hmid : x.nd.kids.length - 1 - pre.length < x.nd.kids.length := by omega
          have hkl2 : b - 1 < k := by
            rw [← hkid, List.getD_eq_getElem?_getD, List.getElem?_eq_getElem hmid]
            exact hkn _ (List.getElem_mem _)
          have hbw : IntKind.i64.wrap ((b : Int) - 1) = (b : Int) - 1 := IntWalk.i64_in _ (by omega)
          have hb0I : ((b : Int) == 0) = false := by simp; omega
          have hb0J : ¬ ((b : Int) = 0) := by omega
          by_cases hy : y = x.nd.kids.length - 1 - pre.length
          · rw [← hy] at hkid hxk
            generalize hkd : x.nd.kids.getD y 5000 = kd at *
            have hkdI : ((kd : Int) != (b : Int) - 1) = false := by simp; omega
            rw [List.getElem?_map] at hxk
            obtain ⟨xv, hxv, rfl⟩ := Option.map_eq_some_iff.1 hxk
            have h19 := h19 HNX.out
            have h19I : (xv.nd.kind == 19) = false := by simpa using h19
            have hkn2 : kd < n := by have := (List.getElem?_eq_some_iff.1 hxv).1; have := HLN.out; omega
            have hkI : (kd : Int) < (n : Int) := by omega
            have hk0' : (0 : Int) ≤ (kd : Int) := by omega
            have hNR := HN1.out.below hRI.low
            obtain ⟨b1, d1, b2, d2, _, _, k0, k1, k2, k3, k4, k5, k6, _, _⟩ := hNR.seven hxv
            simp only [Nat.zero_add] at k0 k1 k2 k3 k4 k5 k6
            have cf : W.cell? ⟨w.heap.size, 0, none⟩ = some (.slice (some ⟨fb, 0, none⟩) n c) := block_cell hRI.f rfl
            have hkk : kd < k := by omega
            have hget : ((begs.take k ++ List.replicate (n - k) 0).set k b)[kd]? = some (begs.getD kd 0) := by
              rw [List.getElem?_set_ne (by omega), List.getElem?_append_left (by simp; have := HBL.out; have := HLN.out; omega), List.getElem?_take, if_pos hkk, List.getD_eq_getElem?_getD, List.getElem?_eq_getElem (by have := HBL.out; have := HLN.out; omega)]
              rfl
            have cgk : W.cell? ⟨w.heap.size + 2, kd, none⟩ = some (.int .i64 (begs.getD kd 0 : Int)) := block_cell hRI.g (by rw [List.getElem?_toArray, List.getElem?_map, hget]; rfl)
            have fgk : W.frozen? ⟨w.heap.size + 2, k, none⟩ = false := block_free hRI.g
            have hsf := store_f64
            have HKID := Lib.hid hkid
            have HY := Lib.hid hy
            have HSET := Lib.hid hset
            have HGET := Lib.hid hget
            clear hxk hxv h19 hNR hset hget hkid hy
            gi_wp2_with fail
            refine with_worldIn fun w5 hw5 => ?_
            obtain ⟨WZ, hWZ⟩ : ∃ WZ, W.heap.size = WZ := ⟨_, rfl⟩
            rw [hWZ]
            have hZW : Z + 1 < W.heap.size := block_lt hbnW
            have cx : w5.cell? ⟨WZ, 0, none⟩ = some (.int .i64 xv.nd.kind) := by rw [hw5]; exact block_cell (block_new _ _ hWZ.symm) rfl
            have hb5 : Below W.heap.size W w5 := by rw [hw5]; (repeat' (first | (with_reducible exact Below.refl _ _) | (with_reducible assumption) | (with_reducible refine below_drewN ?_ _) | (with_reducible refine Below.drew ?_) | (with_reducible refine Below.alloc ?_ ?_ _) | (with_reducible refine Below.setCell ?_ ?_ _) | omega | (simp; done) | (simp; omega)))
            have hK5 : KeepsFrom W1.heap.size W w5 := by rw [hw5]; exact (KeepsOthers.alloc _ _).from _
            have hRI5 := hRI.next hb5
            have hbi5 := block_below hbiW hb5
            have hbn5 := block_below hbnW hb5
            clear hw5 k0 k1 k2 k3 k4 k5 k6 cb ci cg cf cgk fgk hsf
            refine with_frameIn fun a0 ha0 => ?_
            have e11 : a0.eval (.tmp 11) = .pointer (some ⟨WZ, 0, none⟩) := by rw [ha0]; rfl
            have e5 : a0.eval (.tmp 5) = .pointer (some ⟨Z + 1, 0, none⟩) := by rw [ha0]; rfl
            have e9 : a0.eval (.tmp 9) = .int .i64 (y : Int) := by rw [ha0]; rfl
            have hsz0 : a0.tmps.size = 124 := by rw [ha0]; rfl
            have HA := Lib.hid ha0
            clear ha0
            have hD : ∀ d, (List.range' 80 19).contains d = true → d < a0.tmps.size := by
              intro d h
              rw [hsz0]
              have hm : d ∈ List.range' 80 19 := by simpa using h
              rw [List.mem_range'_1] at hm
              omega
            refine wpIn_region_tab (by kernel_rfl) 19 80 (fun jj => ([.pointer (some ⟨WZ, 0, none⟩), .int .i64 xv.nd.kind, .bool false, .bool false, undef, undef, undef, undef, undef, undef, undef, undef, undef, undef, undef, undef, undef, undef, undef] : List Value).getD jj undef) (fun w' => Below w5.heap.size w5 w') rfl (by kernel_rfl) (by kernel_rfl) (by (repeat' (first | (with_reducible exact Below.refl _ _) | (with_reducible assumption) | (with_reducible refine below_drewN ?_ _) | (with_reducible refine Below.drew ?_) | (with_reducible refine Below.alloc ?_ ?_ _) | (with_reducible refine Below.setCell ?_ ?_ _) | omega | (simp; done) | (simp; omega)))) ?_ ?_
            · intro i0 hi0 v w0 hW hv
              have cx := cell_keeps hW cx
              have inn : ∀ d, (List.range' 80 19).contains d = true → (frameOf a0 (List.range' 80 19) v).tmps[d]?.getD undef = v d := fun d h => frameOf_in' h (hD d h)
              rcases (by omega : i0 = 0 ∨ i0 = 1 ∨ i0 = 2 ∨ i0 = 3 ∨ i0 = 4 ∨ i0 = 5 ∨ i0 = 6 ∨ i0 = 7 ∨ i0 = 8 ∨ i0 = 9 ∨ i0 = 10 ∨ i0 = 11 ∨ i0 = 12 ∨ i0 = 13 ∨ i0 = 14 ∨ i0 = 15 ∨ i0 = 16 ∨ i0 = 17 ∨ i0 = 18) with rfl | rfl | rfl | rfl | rfl | rfl | rfl | rfl | rfl | rfl | rfl | rfl | rfl | rfl | rfl | rfl | rfl | rfl | rfl
              · -- operation 0
                have E11 : (frameOf a0 (List.range' 80 19) v).tmps[11]?.getD undef = .pointer (some ⟨WZ, 0, none⟩) := (frameOf_out' rfl).trans e11
                refine wpOpIn_value (v := .pointer (some ⟨WZ, 0, none⟩)) (w' := w0) rfl rfl (fun _ => trivial) (by go_simp) ?_
                exact ⟨frameOf_put rfl, hW⟩
              · -- operation 1
                have x80 : v 80 = .pointer (some ⟨WZ, 0, none⟩) := hv 0 (by kernel_rfl)
                have E80 := (inn 80 rfl).trans x80
                refine wpOpIn_value (v := .int .i64 xv.nd.kind) (w' := w0) rfl rfl (fun _ => trivial) (by go_simp) ?_
                exact ⟨frameOf_put rfl, hW⟩
              · -- operation 2
                have x81 : v 81 = .int .i64 xv.nd.kind := hv 1 (by kernel_rfl)
                have E81 := (inn 81 rfl).trans x81
                refine wpOpIn_value (v := .bool false) (w' := w0) rfl rfl (fun _ => trivial) (by go_simp) ?_
                exact ⟨frameOf_put rfl, hW⟩
              · -- operation 3
                have x82 : v 82 = .bool false := hv 2 (by kernel_rfl)
                have E82 := (inn 82 rfl).trans x82
                refine wpOpIn_value (v := .bool false) (w' := w0) rfl rfl (fun _ => trivial) (by go_simp) ?_
                exact ⟨frameOf_put rfl, hW⟩
              · -- operation 4
                have x83 : v 83 = .bool false := hv 3 (by kernel_rfl)
                have E83 := (inn 83 rfl).trans x83
                refine wpOpIn_out rfl rfl (yielded_at rfl rfl (by simp [frameOf, hsz0]) E83) (fun _ => trivial) (by decide) ?_
                exact ⟨frameOf_put rfl, hW⟩
              · -- operation 5
                have x83 : v 83 = .bool false := hv 3 (by kernel_rfl)
                have E83 := (inn 83 rfl).trans x83
                refine wpOpIn_out rfl rfl (yielded_at rfl rfl (by simp [frameOf, hsz0]) E83) (fun _ => trivial) (by decide) ?_
                exact ⟨frameOf_put rfl, hW⟩
              · -- operation 6
                have x83 : v 83 = .bool false := hv 3 (by kernel_rfl)
                have E83 := (inn 83 rfl).trans x83
                refine wpOpIn_out rfl rfl (yielded_at rfl rfl (by simp [frameOf, hsz0]) E83) (fun _ => trivial) (by decide) ?_
                exact ⟨frameOf_put rfl, hW⟩
              · -- operation 7
                have x83 : v 83 = .bool false := hv 3 (by kernel_rfl)
                have E83 := (inn 83 rfl).trans x83
                refine wpOpIn_out rfl rfl (yielded_at rfl rfl (by simp [frameOf, hsz0]) E83) (fun _ => trivial) (by decide) ?_
                exact ⟨frameOf_put rfl, hW⟩
              · -- operation 8
                have x83 : v 83 = .bool false := hv 3 (by kernel_rfl)
                have E83 := (inn 83 rfl).trans x83
                refine wpOpIn_out rfl rfl (yielded_at rfl rfl (by simp [frameOf, hsz0]) E83) (fun _ => trivial) (by decide) ?_
                exact ⟨frameOf_put rfl, hW⟩
              · -- operation 9
                have x83 : v 83 = .bool false := hv 3 (by kernel_rfl)
                have E83 := (inn 83 rfl).trans x83
                refine wpOpIn_out rfl rfl (yielded_at rfl rfl (by simp [frameOf, hsz0]) E83) (fun _ => trivial) (by decide) ?_
                exact ⟨frameOf_put rfl, hW⟩
              · -- operation 10
                have x89 : v 89 = undef := hv 9 (by kernel_rfl)
                have E89 := (inn 89 rfl).trans x89
                refine wpOpIn_outU rfl rfl rfl rfl E89 (fun _ => trivial) ?_
                exact ⟨frameOf_put rfl, hW⟩
              · -- operation 11
                have x89 : v 89 = undef := hv 9 (by kernel_rfl)
                have E89 := (inn 89 rfl).trans x89
                refine wpOpIn_outU rfl rfl rfl rfl E89 (fun _ => trivial) ?_
                exact ⟨frameOf_put rfl, hW⟩
              · -- operation 12
                have x89 : v 89 = undef := hv 9 (by kernel_rfl)
                have E89 := (inn 89 rfl).trans x89
                refine wpOpIn_outU rfl rfl rfl rfl E89 (fun _ => trivial) ?_
                exact ⟨frameOf_put rfl, hW⟩
              · -- operation 13
                have x89 : v 89 = undef := hv 9 (by kernel_rfl)
                have E89 := (inn 89 rfl).trans x89
                refine wpOpIn_outU rfl rfl rfl rfl E89 (fun _ => trivial) ?_
                exact ⟨frameOf_put rfl, hW⟩
              · -- operation 14
                have x89 : v 89 = undef := hv 9 (by kernel_rfl)
                have E89 := (inn 89 rfl).trans x89
                refine wpOpIn_outU rfl rfl rfl rfl E89 (fun _ => trivial) ?_
                exact ⟨frameOf_put rfl, hW⟩
              · -- operation 15
                have x89 : v 89 = undef := hv 9 (by kernel_rfl)
                have E89 := (inn 89 rfl).trans x89
                refine wpOpIn_outU rfl rfl rfl rfl E89 (fun _ => trivial) ?_
                exact ⟨frameOf_put rfl, hW⟩
              · -- operation 16
                have x89 : v 89 = undef := hv 9 (by kernel_rfl)
                have E89 := (inn 89 rfl).trans x89
                refine wpOpIn_outU rfl rfl rfl rfl E89 (fun _ => trivial) ?_
                exact ⟨frameOf_put rfl, hW⟩
              · -- operation 17
                have x89 : v 89 = undef := hv 9 (by kernel_rfl)
                have E89 := (inn 89 rfl).trans x89
                refine wpOpIn_outU rfl rfl rfl rfl E89 (fun _ => trivial) ?_
                exact ⟨frameOf_put rfl, hW⟩
              · -- operation 18
                have x83 : v 83 = .bool false := hv 3 (by kernel_rfl)
                have E83 := (inn 83 rfl).trans x83
                refine wpOpIn_out rfl rfl (yielded_at rfl rfl (by simp [frameOf, hsz0]) E83) (fun _ => trivial) (by decide) ?_
                exact ⟨frameOf_put rfl, hW⟩
            · intro w0 hW
              have h0 := HA.out
              subst h0
              have hrg : List.range' 80 19 = [80, 81, 82, 83, 84, 85, 86, 87, 88, 89, 90, 91, 92, 93, 94, 95, 96, 97, 98] := rfl
              rw [hrg]
              clear hrg
              simp only [frameOf_cons, frameOf_nil, Act.put, List.setIfInBounds_toArray, List.set_cons_zero, List.set_cons_succ]
              refine wpOpIn_value (v := .bool false) (w' := w0) rfl rfl (fun _ => trivial) (by go_simp) ?_
              gi_wp2_with fail
              revert w0
              intro w6 hW6
              have hRI6 := hRI5.next hW6
              have cb : w6.cell? ⟨w.heap.size + 3, 0, none⟩ = some (.slice (some ⟨w.heap.size + 2, 0, none⟩) n n) := block_cell hRI6.b rfl
              have ci : w6.cell? ⟨Z, 0, none⟩ = some (.int .i64 (k : Int)) := block_cell (block_below hbi5 hW6) rfl
              have cg : w6.cell? ⟨w.heap.size + 2, k, none⟩ = some (.int .i64 (b : Int)) := block_cell hRI6.g (by rw [List.getElem?_toArray, List.getElem?_map, HSET.out]; rfl)
              obtain ⟨gv, hgv⟩ : ∃ gv, begs.getD kd 0 = gv := ⟨_, rfl⟩
              have cgk : w6.cell? ⟨w.heap.size + 2, kd, none⟩ = some (.int .i64 (gv : Int)) := block_cell hRI6.g (by rw [List.getElem?_toArray, List.getElem?_map, HGET.out, hgv]; rfl)
              have HGV := Lib.hid hgv
              clear hgv
              clear e11 e5 e9 hsz0 hD
              refine with_frameIn fun a0 ha0 => ?_
              have e3 : a0.eval (.tmp 3) = .pointer (some ⟨w.heap.size + 3, 0, none⟩) := by rw [ha0]; rfl
              have e4 : a0.eval (.tmp 4) = .pointer (some ⟨Z, 0, none⟩) := by rw [ha0]; rfl
              have e10 : a0.eval (.tmp 10) = .int .i64 (kd : Int) := by rw [ha0]; rfl
              have hsz0 : a0.tmps.size = 124 := by rw [ha0]; rfl
              have HA := Lib.hid ha0
              clear ha0
              have hD : ∀ d, (List.range' 100 7).contains d = true → d < a0.tmps.size := by
                intro d h
                rw [hsz0]
                have hm : d ∈ List.range' 100 7 := by simpa using h
                rw [List.mem_range'_1] at hm
                omega
              refine wpIn_region_tab (by kernel_rfl) 7 100 (fun jj => ([.slice (some ⟨w.heap.size + 2, 0, none⟩) n n, .int .i64 (k : Int), .slice (some ⟨w.heap.size + 2, 0, none⟩) n n, .int .i64 (kd : Int), .pointer (some ⟨w.heap.size + 2, kd, none⟩), .int .i64 (gv : Int), .pointer (some ⟨w.heap.size + 2, k, none⟩)] : List Value).getD jj undef) (fun w' => Below w6.heap.size w6 w') rfl (by kernel_rfl) (by kernel_rfl) (by (repeat' (first | (with_reducible exact Below.refl _ _) | (with_reducible assumption) | (with_reducible refine below_drewN ?_ _) | (with_reducible refine Below.drew ?_) | (with_reducible refine Below.alloc ?_ ?_ _) | (with_reducible refine Below.setCell ?_ ?_ _) | omega | (simp; done) | (simp; omega)))) ?_ ?_
              · intro i0 hi0 v w0 hW hv
                have cb := cell_keeps hW cb
                have ci := cell_keeps hW ci
                have cg := cell_keeps hW cg
                have cgk := cell_keeps hW cgk
                have inn : ∀ d, (List.range' 100 7).contains d = true → (frameOf a0 (List.range' 100 7) v).tmps[d]?.getD undef = v d := fun d h => frameOf_in' h (hD d h)
                rcases (by omega : i0 = 0 ∨ i0 = 1 ∨ i0 = 2 ∨ i0 = 3 ∨ i0 = 4 ∨ i0 = 5 ∨ i0 = 6) with rfl | rfl | rfl | rfl | rfl | rfl | rfl
                · -- operation 0
                  have E3 : (frameOf a0 (List.range' 100 7) v).tmps[3]?.getD undef = .pointer (some ⟨w.heap.size + 3, 0, none⟩) := (frameOf_out' rfl).trans e3
                  refine wpOpIn_value (v := .slice (some ⟨w.heap.size + 2, 0, none⟩) n n) (w' := w0) rfl rfl (fun _ => trivial) (by go_simp) ?_
                  exact ⟨frameOf_put rfl, hW⟩
                · -- operation 1
                  have E4 : (frameOf a0 (List.range' 100 7) v).tmps[4]?.getD undef = .pointer (some ⟨Z, 0, none⟩) := (frameOf_out' rfl).trans e4
                  refine wpOpIn_value (v := .int .i64 (k : Int)) (w' := w0) rfl rfl (fun _ => trivial) (by go_simp) ?_
                  exact ⟨frameOf_put rfl, hW⟩
                · -- operation 2
                  have E3 : (frameOf a0 (List.range' 100 7) v).tmps[3]?.getD undef = .pointer (some ⟨w.heap.size + 3, 0, none⟩) := (frameOf_out' rfl).trans e3
                  refine wpOpIn_value (v := .slice (some ⟨w.heap.size + 2, 0, none⟩) n n) (w' := w0) rfl rfl (fun _ => trivial) (by go_simp) ?_
                  exact ⟨frameOf_put rfl, hW⟩
                · -- operation 3
                  have E10 : (frameOf a0 (List.range' 100 7) v).tmps[10]?.getD undef = .int .i64 (kd : Int) := (frameOf_out' rfl).trans e10
                  refine wpOpIn_value (v := .int .i64 (kd : Int)) (w' := w0) rfl rfl (fun _ => trivial) (by go_simp) ?_
                  exact ⟨frameOf_put rfl, hW⟩
                · -- operation 4
                  have x102 : v 102 = .slice (some ⟨w.heap.size + 2, 0, none⟩) n n := hv 2 (by kernel_rfl)
                  have E102 := (inn 102 rfl).trans x102
                  have x103 : v 103 = .int .i64 (kd : Int) := hv 3 (by kernel_rfl)
                  have E103 := (inn 103 rfl).trans x103
                  refine wpOpIn_value (v := .pointer (some ⟨w.heap.size + 2, kd, none⟩)) (w' := w0) rfl rfl (fun _ => trivial) (by go_simp) ?_
                  exact ⟨frameOf_put rfl, hW⟩
                · -- operation 5
                  have x104 : v 104 = .pointer (some ⟨w.heap.size + 2, kd, none⟩) := hv 4 (by kernel_rfl)
                  have E104 := (inn 104 rfl).trans x104
                  refine wpOpIn_value (v := .int .i64 (gv : Int)) (w' := w0) rfl rfl (fun _ => trivial) (by go_simp) ?_
                  exact ⟨frameOf_put rfl, hW⟩
                · -- operation 6
                  have x100 : v 100 = .slice (some ⟨w.heap.size + 2, 0, none⟩) n n := hv 0 (by kernel_rfl)
                  have E100 := (inn 100 rfl).trans x100
                  have x101 : v 101 = .int .i64 (k : Int) := hv 1 (by kernel_rfl)
                  have E101 := (inn 101 rfl).trans x101
                  refine wpOpIn_value (v := .pointer (some ⟨w.heap.size + 2, k, none⟩)) (w' := w0) rfl rfl (fun _ => trivial) (by go_simp) ?_
                  exact ⟨frameOf_put rfl, hW⟩
              · intro w0 hW
                have h0 := HA.out
                subst h0
                have hrg : List.range' 100 7 = [100, 101, 102, 103, 104, 105, 106] := rfl
                rw [hrg]
                clear hrg
                simp only [frameOf_cons, frameOf_nil, Act.put, List.setIfInBounds_toArray, List.set_cons_zero, List.set_cons_succ]
                have hB0 : Below W.heap.size W w0 := hb5.trans ((hW6.trans (hW.mono hW6.size)).mono hb5.size)
                have hRI7 := hRI.next hB0
                have cg0 : w0.cell? ⟨w.heap.size + 2, k, none⟩ = some (.int .i64 (b : Int)) := cell_keeps hW cg
                have fg0 : w0.frozen? ⟨w.heap.size + 2, k, none⟩ = false := block_free hRI7.g
                have hbi7 := block_below hbiW hB0
                have hbn7 := block_below hbnW hB0
                have hgr : w5.grownBy w0 none := ⟨(hW6.trans (hW.mono hW6.size)).os, (hW6.trans (hW.mono hW6.size)).tape, (hW6.trans (hW.mono hW6.size)).output, (hW6.trans (hW.mono hW6.size)).size, fun j hj _ => (hW6.trans (hW.mono hW6.size)).block j hj⟩
                refine wpOpIn_skip (w' := w0.setCell ⟨w.heap.size + 2, k, none⟩ (.int .i64 (gv : Int))) rfl rfl rfl (fun _ => trivial) (by go_simp) ?_
                have hWlow : w.heap.size ≤ W.heap.size := hRI.low.size
                have hWbig := hRI.big
                show KeepsFrom _ _ _ ∧ KB _ _ _ _ ∧ RJ _ _ _ _ _ _ _ _ _ _ _ _ _
                refine ⟨(hK5.trans (KeepsFrom.of_grownBy hgr (fun j e => by cases e))).trans ((KeepsOthers.setCell _ _ _).from _), ⟨(hB0.mono hWlow).setCell (p := ⟨w.heap.size + 2, k, none⟩) (by simp) _, (Below.heap_setCell _ _ _ _ (by show Bs ≠ w.heap.size + 2; omega)).trans (hB0.block _ (by omega))⟩, ?_, ?_, ?_, block_setCell hbi7 (by show Z ≠ w.heap.size + 2; omega) _, block_setCell hbn7 (by show Z + 1 ≠ w.heap.size + 2; omega) _, ?_⟩
                · rw [List.length_append, List.length_cons, List.length_nil, Nat.zero_add, upto'_succ, ← HP1.out, ← HY.out]
                · rw [List.length_append, List.length_cons, List.length_nil]; omega
                · have h8 := hRI7.setg k gv
                  rw [List.set_set] at h8
                  rw [List.length_append, List.length_cons, List.length_nil, Nat.zero_add]
                  have e9 : bA begs x.nd.kids k (pre.length + 1) = gv := by
                    show begs.getD (x.nd.kids.getD (x.nd.kids.length - 1 - pre.length) 5000) 0 = _
                    rw [← HY.out, hkd]
                    exact HGV.out
                  rw [e9]
                  exact h8
                · have := hB0.size
                  simp [World.setCell]
                  omega
          · have hne : ((x.nd.kids.getD y 5000 : Nat) : Int) ≠ (b : Int) - 1 := by
              intro e
              have e2 : x.nd.kids.getD y 5000 = x.nd.kids.getD (x.nd.kids.length - 1 - pre.length) 5000 := by omega
              rw [List.getD_eq_getElem?_getD, List.getD_eq_getElem?_getD, List.getElem?_eq_getElem hmid] at e2
              by_cases hyl : y < x.nd.kids.length
              · rw [List.getElem?_eq_getElem hyl] at e2
                exact hy ((List.getElem_inj hnd).1 e2)
              · rw [List.getElem?_eq_none (by omega)] at e2
                have := hkn _ (List.getElem_mem hmid)
                have e3 : (5000 : Nat) = x.nd.kids[x.nd.kids.length - 1 - pre.length] := e2
                omega
            generalize hkd : x.nd.kids.getD y 5000 = kd at *
            have hkdI : ((kd : Int) != (b : Int) - 1) = true := by simpa using hne
            have cr : W.cell? ⟨w.heap.size + 1, 0, none⟩ = some (.bool false) := block_cell hRI.r rfl
            have fr : W.frozen? ⟨w.heap.size + 1, 0, none⟩ = false := block_free hRI.r
            gi_wp2_with fail
            refine ⟨(KeepsOthers.setCell _ _ _).from _, fun ⟨j, hj, e⟩ => ?_⟩
            have e1 := congrArg List.length e
            rw [upto'_length, List.length_append, List.length_cons, List.length_nil] at e1
            rw [← e1, Nat.zero_add, upto'_succ] at e
            have e3 := (List.append_inj' e rfl).2
            simp only [List.cons.injEq, and_true] at e3
            exact hy e3
        case stop =>
          rintro D cc pre W _ hpre hx2 _
          exact absurd hpre hx2
        case done =>
          rintro D ys W hD rfl hI hK
          subst ha0
          obtain ⟨_, _, hRI, _, _, hNW⟩ := hI
          rw [upto'_length, ← HKA.out.2, bl_next (by rw [HBL.out, HLN.out]) hlt] at hRI
          go_wp2_with fail
          refine ⟨?_, ?measure⟩
          (repeat apply Exists.intro)
          refine ⟨?rel, rfl⟩
          case rel =>
            refine ⟨k + 1, D :: rs, by omega, by go_num, rfl, hRI.f, hRI.r, hRI.g, hRI.b, ⟨List.nodup_cons.2 ⟨fun h => ?_, hRI.mks.1⟩, fun r hr => ?_⟩, hRI.low, hRI.big⟩
            · have := hrsB D h
              omega
            · rcases List.mem_cons.1 hr with rfl | hr
              · exact ⟨by have := hI0.2.2.1.big; omega, hK⟩
              · exact hRI.mks.2 r hr
          case measure => simp [intOf]; omega
    · obtain rfl : k = n := by omega
      have hbe : begs.take k ++ List.replicate (k - k) 0 = begs := by
        rw [Nat.sub_self, List.take_of_length_le (by rw [HBL.out, HLN.out]; exact Nat.le_refl _)]
        simp
      rw [hbe] at hI
      obtain ⟨m, hm⟩ : ∃ m, k = m + 1 := ⟨k - 1, by omega⟩
      subst hm
      obtain ⟨x, hx⟩ : ∃ x, ls[m]? = some x := ⟨ls[m]'(by have := HLN.out; omega), List.getElem?_eq_getElem _⟩
      have hNR := HN1.out.below hI.low
      obtain ⟨a1, c1, a2, c2, _, hvk, k0, k1, k2, k3, k4, k5, k6, _, _⟩ := hNR.seven hx
      simp only [Nat.zero_add] at k0
      have h19 := HK19.out m x hx (by rw [HLN.out])
      have h19B : (x.nd.kind != 19) = true := by simpa using h19
      have hb0 : begs[m]? = some 0 := by
        have h := HB0.out
        rw [HLN.out, Nat.add_sub_cancel, List.getD_eq_getElem?_getD] at h
        rw [List.getElem?_eq_getElem (by have := HBL.out; have := HLN.out; omega)] at h ⊢
        exact congrArg some h
      have cb : wr.cell? ⟨w.heap.size + 3, 0, none⟩ = some (.slice (some ⟨w.heap.size + 2, 0, none⟩) (m + 1) (m + 1)) := block_cell hI.b rfl
      have cf : wr.cell? ⟨w.heap.size, 0, none⟩ = some (.slice (some ⟨fb, 0, none⟩) (m + 1) c) := block_cell hI.f rfl
      have cg : wr.cell? ⟨w.heap.size + 2, m, none⟩ = some (.int .i64 0) := block_cell hI.g (by rw [List.getElem?_toArray, List.getElem?_map, hb0]; rfl)
      have cr : wr.cell? ⟨w.heap.size + 1, 0, none⟩ = some (.bool false) := block_cell hI.r rfl
      have fr : wr.frozen? ⟨w.heap.size + 1, 0, none⟩ = false := block_free hI.r
      have hmw : IntKind.i64.wrap (((m + 1 : Nat) : Int) - 1) = (m : Int) := by rw [IntWalk.i64_in _ (by omega)]; omega
      have hmI : (m : Int) < ((m + 1 : Nat) : Int) := by omega
      have hm0 : (0 : Int) ≤ (m : Int) := by omega
      clear hx hb0 hvk k1 k2 k3 k4 k5 k6
      go_wp2_with fail
      have hmk2 : MarkedAt w.heap.size rs (wr.setCell ⟨w.heap.size + 1, 0, none⟩ (.bool true)) := ⟨hI.mks.1, fun r hr => ⟨(hI.mks.2 r hr).1, (Below.heap_setCell _ _ _ _ (fun e => by
        have h2 := (hI.mks.2 r hr).2
        rw [e, hI.r] at h2
        cases h2)).trans (hI.mks.2 r hr).2⟩⟩
      have hb2 : (wr.setCell ⟨w.heap.size + 1, 0, none⟩ (.bool true)).heap[w.heap.size + 1]? = some (.cells #[.bool true] 4 (0, 0)) := by
        have := block_set hI.r (i := 0) (.bool true)
        simpa using this
      have hmk3 : MarkedAt w.heap.size rs (wr.setCell ⟨w.heap.size + 1, 0, none⟩ (.bool true)) := hmk2
      refine leaves_marks rs _ hmk3 (fun w' hb hk => ?_)
      have hb3 : w'.heap[w.heap.size + 1]? = some (.cells #[.bool true] 4 (0, 0)) := hk _ _ _ _ hb2
      exact ⟨_, results_c1 rfl rfl (block_cell hb3 rfl), rfl, (hI.low.setCell (p := ⟨w.heap.size + 1, 0, none⟩) (by simp) _).trans hb⟩
end Go.Proofs.YtkoghgnjjfnamaaGreatDoor
