/- RightV: what is used of them. -/
import Derived.Test.YtkoghgnjjfnamaaGreatDoorRightW
import Derived.Test.YtkoghgnjjfnamaaGreatDoorNameW
set_option linter.unusedSimpArgs false
set_option linter.unusedVariables false
namespace Go.Proofs.YtkoghgnjjfnamaaGreatDoor
set_option maxRecDepth 100000
set_option maxHeartbeats 4000000
open Go.RowKit Go.Maps
attribute [local go_sem] Oper.semAt_some
theorem namesF_cons (seen : List ByteArray) (s : ByteArray) (ns : List ByteArray) : namesF seen (s :: ns) = if seen.any (fun t => t.toList == s.toList) || !plainF s then false else namesF (seen ++ [s]) ns := rfl
theorem namesF_app : ∀ (l seen r : List ByteArray), namesF seen (l ++ r) = (namesF seen l && namesF (seen ++ l) r)
 | [], seen, r => by simp [namesF]
 | s :: l, seen, r => by
   rw [List.cons_append, namesF_cons, namesF_cons, namesF_app l (seen ++ [s]) r, List.append_assoc]; cases (seen.any (fun t => t.toList == s.toList) || !plainF s) <;> simp
def FN (l : List ByteArray) : FMap := fun x => if l.any (fun t => t.toList == x.toList) then some (.bool true) else none
theorem FN_nil : FN [] = fun _ => none := rfl
theorem FN_snoc (l : List ByteArray) (s : ByteArray) : FN (l ++ [s]) = updF (FN l) s (some (.bool true)) := by
 funext x
 unfold FN updF; rw [List.any_append]; by_cases h : x = s
 · subst h
   simp
 · have h2 : (s.toList == x.toList) = false := toL_ne (fun e => h e.symm)
   simp [h, h2]
theorem FN_any (l : List ByteArray) (s : ByteArray) : (FN l s).getD (.bool false) = .bool (l.any fun t => t.toList == s.toList) := by
 unfold FN; cases l.any (fun t => t.toList == s.toList) <;> rfl
theorem kidsF_stepsN {f : List Nd} {begs : List Nat} {names : List ByteArray} : ∀ (l : List Nat) (b fin : Nat), kidsF f begs names l b = some fin →
 ∀ (B : Nat → Nat), B 0 = b → (∀ j, j < l.length → B (j + 1) = begs.getD (l.getD j 5000) 0) → (∀ j, j < l.length → B j ≠ 0 ∧ l.getD j 5000 = B j - 1 ∧ ∃ x, f[l.getD j 5000]? = some x ∧ (x.kind = 19 → (names[l.length - 1 - j]?.map fun s => s.toList == x.text.toList) = some true)) ∧ fin = B l.length
 | [], b, fin, h, B, h0, hs => by
   unfold kidsF at h; cases h; exact ⟨fun j hj => absurd hj (by simp), h0.symm⟩
 | kid :: rest, b, fin, h, B, h0, hs => by
   unfold kidsF at h; split at h
   · cases h
   · rename_i hc
     split at h
     · cases h
     · rename_i x hx
       split at h
       · cases h
       · rename_i h19
         have h1 : B 1 = begs.getD kid 0 := hs 0 (by simp); obtain ⟨ih1, ih2⟩ := kidsF_stepsN rest _ fin h (fun j => B (j + 1)) h1 (fun j hj => by
          have := hs (j + 1) (by simp; omega); simpa using this)
         refine ⟨fun j hj => ?_, by simpa using ih2⟩; cases j with
         | zero =>
           rw [h0]; refine ⟨fun e => hc (Or.inl e), ?_, x, by simpa using hx, fun hk => by
            by_cases hm : (names[rest.length]?.map fun s => s.toList == x.text.toList) = some true
            · simpa using hm
            · exact absurd ⟨hk, hm⟩ h19⟩
           show kid = b - 1; rcases Nat.lt_or_ge kid (b - 1) with h' | h' <;> first | omega | (have : ¬ kid ≠ b - 1 := fun e => hc (Or.inr e); omega)
         | succ j =>
           obtain ⟨e1, e2, y, e3, e4⟩ := ih1 j (by simp at hj; omega); exact ⟨e1, e2, y, e3, fun hk => by
            have := e4 hk; rwa [show (kid :: rest).length - 1 - (j + 1) = rest.length - 1 - j by simp; omega]⟩
theorem kids_atN {f : List Nd} {begs kids : List Nat} {names : List ByteArray} {i fin : Nat} (h : kidsF f begs names kids.reverse i = some fin) : (∀ j, j < kids.length → bA begs kids i j ≠ 0 ∧ kids.getD (kids.length - 1 - j) 5000 = bA begs kids i j - 1 ∧ ∃ x, f[kids.getD (kids.length - 1 - j) 5000]? = some x ∧ (x.kind = 19 → (names[kids.length - 1 - j]?.map fun s => s.toList == x.text.toList) = some true)) ∧ fin = bA begs kids i kids.length := by
 obtain ⟨h1, h2⟩ := kidsF_stepsN kids.reverse i fin h (bA begs kids i) rfl (fun j hj => by rw [rev_get (by simpa using hj)]; rfl); refine ⟨fun j hj => ?_, by simpa using h2⟩
 have := h1 j (by simpa using hj); rw [List.length_reverse] at this; rwa [rev_get hj] at this
theorem zeroBoolP (w : World) : (zeroValue 4).run Tryz.prog w = .ok (.bool false) w := by kernel_rfl
theorem right_leave {w : World} {fv : Value} {n : Nat} {bl rs : List Nat} {W : World} (h : RI w fv n bl rs W) {b c : Bool} (hbc : b = c) {tmps : Array Value} (ht : tmps.getD 2 undef = .pointer (some ⟨w.heap.size + 1, 0, none⟩)) :
 LeavesInM Fence.wide 3 Tryz.prog Tryz.f11 tmps (fun e w' => e = .returned (.bool c) ∧ Below w.heap.size w w') (rs.map markOf) .returning (W.setCell ⟨w.heap.size + 1, 0, none⟩ (.bool b)) := by
 subst hbc; have hmk : MarkedAt w.heap.size rs (W.setCell ⟨w.heap.size + 1, 0, none⟩ (.bool b)) := ⟨h.mks.1, fun r hr => ⟨(h.mks.2 r hr).1, (Below.heap_setCell _ _ _ _ (fun e => by
  have h2 := (h.mks.2 r hr).2; rw [e, h.r] at h2; cases h2)).trans (h.mks.2 r hr).2⟩⟩
 have hb2 : (W.setCell ⟨w.heap.size + 1, 0, none⟩ (.bool b)).heap[w.heap.size + 1]? = some (.cells #[.bool b] 4 (0, 0)) := by
  have := block_set h.r (i := 0) (.bool b); simpa using this
 refine leaves_marks rs _ hmk (fun w' hb hk => ?_); have hb3 : w'.heap[w.heap.size + 1]? = some (.cells #[.bool b] 4 (0, 0)) := hk _ _ _ _ hb2; exact ⟨_, results_c1 rfl ht (block_cell hb3 rfl), rfl, (h.low.setCell (p := ⟨w.heap.size + 1, 0, none⟩) (by simp) _).trans hb⟩
theorem Right_full {pn : Nat → Prop} {pk : Nat → Nat → Prop} {w : World} {fb c : Nat} {ls : List NV} (HN : NRd pn pk w fb 0 ls) (hl0 : 0 < ls.length) (hl : ls.length ≤ 1000) {B : Nat} (hB : B ≤ ls.length) {begs : List Nat} (hbl : begs.length = ls.length)
 (hsh : ∀ (i : Nat) (x : NV), ls[i]? = some x → i ≤ B → ∀ (a1 a2 : Option Addr) (c1 c2 : Nat) (w' : World), Below w.heap.size w w' → Calls Tryz.prog 21 #[.agg #[.int .i64 x.nd.kind, .string x.nd.text, .int .i64 x.nd.int, .float .f64 x.nd.flt, .slice a1 x.nd.names.length c1, .slice a2 x.nd.kids.length c2, .int .i64 (x.nd.place : Int)]] w' fun e w2 => e = .returned (.bool true) ∧ Below w'.heap.size w' w2)
 (hnz : ∀ (i : Nat) (x : NV), ls[i]? = some x → x.nd.names.length ≤ 1000000 ∧ ∀ s ∈ x.nd.names, s.size ≤ maxLen)
 (hnm : ∀ (i : Nat) (x : NV), ls[i]? = some x → i < B → namesF [] x.nd.names = true) (hbad : ∀ x : NV, ls[B]? = some x → namesF [] x.nd.names = false)
 (hkd : ∀ (i : Nat) (x : NV), ls[i]? = some x → i < B → kidsF (ls.map NV.nd) begs x.nd.names x.nd.kids.reverse i = some (begs.getD i 0) ∧ x.nd.kids.length ≤ 1000 ∧ x.nd.kids.Nodup ∧ ∀ j ∈ x.nd.kids, j < i)
 (hb0 : B = ls.length → begs.getD (ls.length - 1) 0 = 0) (hk19 : B = ls.length → ∀ (i : Nat) (x : NV), ls[i]? = some x → i + 1 = ls.length → x.nd.kind ≠ 19) :
 Calls Tryz.prog 11 #[.slice (some ⟨fb, 0, none⟩) ls.length c] w fun e w' => e = .returned (.bool (decide (B = ls.length))) ∧ Below w.heap.size w w' := by
 have HN1 := Lib.hid HN; have HSH := Lib.hid hsh; have HNM := Lib.hid hnm; have HKD := Lib.hid hkd; have HK19 := Lib.hid hk19; have HB0 := Lib.hid hb0; have HBL := Lib.hid hbl; have HNZ := Lib.hid hnz; have HBAD := Lib.hid hbad; obtain ⟨n, hn⟩ : ∃ n, ls.length = n := ⟨_, rfl⟩; rw [hn] at hl0 hl hB ⊢; have HLN := Lib.hid hn; clear hn hsh hnm hkd hk19 hb0 hbl HN hnz hbad; have hl0I : ¬ ((n : Int) = 0) := by omega
 have hlI : ¬ ((1000 : Int) < (n : Int)) := by omega
 have hmk := make_nums n hl; have hsf := store_f64; have hmm := @run_makeMap Tryz.prog; refine (callsIn_wide (n := 3)).1 (callsIn_of_wp_marks Tryz.func11 rfl trivial (wpIn_wide.2 ?_) rfl); simp only [Tryz.ntmps11, List.size_toArray, List.length_cons, List.length_nil, Nat.reduceAdd, Nat.reduceSub, Array.replicate_succ, Array.replicate_zero, List.push_toArray, List.append_toArray, List.nil_append, List.cons_append]
 go_wp2_with fail; simp only [Nat.add_assoc, Nat.reduceAdd]; refine wp_loop (fun a' wr => ∃ (u4 u5 u6 u7 u8 u9 u10 u11 u12 u13 u14 u15 u16 u17 u18 u19 u20 u21 u22 u23 u26 u27 u28 u29 u30 u31 u32 u33 u34 u35 u36 u37 u38 u39 u40 u41 u42 u43 u44 u45 u46 u47 u48 u49 u50 u51 u52 u53 u54 u55 u56 u57 u58 u59 u60 u61 u62 u63 u64 u65 u66 u67 u68 u69 u70 u71 u72 u73 u74 u75 u76 u77 u78 u79 u80 u81 u82 u83 u84 u85 u86 u87 u88 u89 u90 u91 u92 u93 u94 u95 u96 u97 u98 u99 u100 u101 u102 u103 u104 u105 u106 u107 u108 u109 u110 u111 u112 u113 u114 u115 u116 u117 u118 u119 u120 u121 u122 u123 : Value) (ds : List Deferred), (∃ (k : Nat) (rs : List Nat), k ≤ B ∧ u26 = .int .i64 (k : Int) ∧ ds = rs.map markOf ∧ RI w (.slice (some ⟨fb, 0, none⟩) n c) n (begs.take k ++ List.replicate (n - k) 0) rs wr) ∧ a' = { tmps := #[.slice (some ⟨fb, 0, none⟩) n c, .pointer (some ⟨w.heap.size, 0, none⟩), .pointer (some ⟨w.heap.size + 1, 0, none⟩), .pointer (some ⟨w.heap.size + 3, 0, none⟩), u4, u5, u6, u7, u8, u9, u10, u11, u12, u13, u14, u15, u16, u17, u18, u19, u20, u21, u22, u23, .slice (some ⟨fb, 0, none⟩) n c, .int .i64 (n : Int), u26, u27, u28, u29, u30, u31, u32, u33, u34, u35, u36, u37, u38, u39, u40, u41, u42, u43, u44, u45, u46, u47, u48, u49, u50, u51, u52, u53, u54, u55, u56, u57, u58, u59, u60, u61, u62, u63, u64, u65, u66, u67, u68, u69, u70, u71, u72, u73, u74, u75, u76, u77, u78, u79, u80, u81, u82, u83, u84, u85, u86, u87, u88, u89, u90, u91, u92, u93, u94, u95, u96, u97, u98, u99, u100, u101, u102, u103, u104, u105, u106, u107, u108, u109, u110, u111, u112, u113, u114, u115, u116, u117, u118, u119, u120, u121, u122, u123], defers := ds }) (fun a' _ => n - (intOf (a'.tmps.getD 26 undef)).toNat) ?_ ?_
 · (repeat apply Exists.intro)
   refine ⟨?_, rfl⟩; refine ⟨0, [], Nat.zero_le _, rfl, rfl, block_alloc (block_alloc (block_alloc (block_new _ _ rfl) _) _) _, block_alloc (block_alloc (block_new _ _ (by simp)) _) _, ?_, block_new _ _ (by simp), ⟨List.nodup_nil, fun r hr => by cases hr⟩, (by (repeat' first | (with_reducible first | exact Below.refl _ _ | assumption | refine below_drewN ?_ _ | refine Below.drew ?_ | refine Below.alloc ?_ ?_ _ | refine Below.setCell ?_ ?_ _) | omega | (simp; done) | (simp; omega))), by simp⟩
   have := block_alloc (block_new (((w.alloc (.cells #[.slice (some ⟨fb, 0, none⟩) n c] 23)).alloc (.cells #[.bool false] 4))) (.cells ((List.replicate n 0).map num).toArray 3) (g := w.heap.size + 2) (by simp)) (.cells #[.slice (some ⟨w.heap.size + 2, 0, none⟩) n n] 29); simpa using this
 · intro a0 wr hinv
   obtain ⟨u4, hinv⟩ := hinv; obtain ⟨u5, hinv⟩ := hinv; obtain ⟨u6, hinv⟩ := hinv; obtain ⟨u7, hinv⟩ := hinv; obtain ⟨u8, hinv⟩ := hinv; obtain ⟨u9, hinv⟩ := hinv; obtain ⟨u10, hinv⟩ := hinv; obtain ⟨u11, hinv⟩ := hinv; obtain ⟨u12, hinv⟩ := hinv; obtain ⟨u13, hinv⟩ := hinv; obtain ⟨u14, hinv⟩ := hinv; obtain ⟨u15, hinv⟩ := hinv; obtain ⟨u16, hinv⟩ := hinv; obtain ⟨u17, hinv⟩ := hinv; obtain ⟨u18, hinv⟩ := hinv; obtain ⟨u19, hinv⟩ := hinv; obtain ⟨u20, hinv⟩ := hinv; obtain ⟨u21, hinv⟩ := hinv; obtain ⟨u22, hinv⟩ := hinv; obtain ⟨u23, hinv⟩ := hinv; obtain ⟨u26, hinv⟩ := hinv; obtain ⟨u27, hinv⟩ := hinv; obtain ⟨u28, hinv⟩ := hinv; obtain ⟨u29, hinv⟩ := hinv; obtain ⟨u30, hinv⟩ := hinv; obtain ⟨u31, hinv⟩ := hinv; obtain ⟨u32, hinv⟩ := hinv; obtain ⟨u33, hinv⟩ := hinv; obtain ⟨u34, hinv⟩ := hinv; obtain ⟨u35, hinv⟩ := hinv; obtain ⟨u36, hinv⟩ := hinv; obtain ⟨u37, hinv⟩ := hinv; obtain ⟨u38, hinv⟩ := hinv; obtain ⟨u39, hinv⟩ := hinv; obtain ⟨u40, hinv⟩ := hinv; obtain ⟨u41, hinv⟩ := hinv; obtain ⟨u42, hinv⟩ := hinv; obtain ⟨u43, hinv⟩ := hinv; obtain ⟨u44, hinv⟩ := hinv; obtain ⟨u45, hinv⟩ := hinv; obtain ⟨u46, hinv⟩ := hinv; obtain ⟨u47, hinv⟩ := hinv; obtain ⟨u48, hinv⟩ := hinv; obtain ⟨u49, hinv⟩ := hinv; obtain ⟨u50, hinv⟩ := hinv; obtain ⟨u51, hinv⟩ := hinv; obtain ⟨u52, hinv⟩ := hinv; obtain ⟨u53, hinv⟩ := hinv; obtain ⟨u54, hinv⟩ := hinv; obtain ⟨u55, hinv⟩ := hinv; obtain ⟨u56, hinv⟩ := hinv; obtain ⟨u57, hinv⟩ := hinv; obtain ⟨u58, hinv⟩ := hinv; obtain ⟨u59, hinv⟩ := hinv; obtain ⟨u60, hinv⟩ := hinv; obtain ⟨u61, hinv⟩ := hinv; obtain ⟨u62, hinv⟩ := hinv; obtain ⟨u63, hinv⟩ := hinv; obtain ⟨u64, hinv⟩ := hinv; obtain ⟨u65, hinv⟩ := hinv; obtain ⟨u66, hinv⟩ := hinv; obtain ⟨u67, hinv⟩ := hinv; obtain ⟨u68, hinv⟩ := hinv; obtain ⟨u69, hinv⟩ := hinv; obtain ⟨u70, hinv⟩ := hinv; obtain ⟨u71, hinv⟩ := hinv; obtain ⟨u72, hinv⟩ := hinv; obtain ⟨u73, hinv⟩ := hinv; obtain ⟨u74, hinv⟩ := hinv; obtain ⟨u75, hinv⟩ := hinv; obtain ⟨u76, hinv⟩ := hinv; obtain ⟨u77, hinv⟩ := hinv; obtain ⟨u78, hinv⟩ := hinv; obtain ⟨u79, hinv⟩ := hinv; obtain ⟨u80, hinv⟩ := hinv; obtain ⟨u81, hinv⟩ := hinv; obtain ⟨u82, hinv⟩ := hinv; obtain ⟨u83, hinv⟩ := hinv; obtain ⟨u84, hinv⟩ := hinv; obtain ⟨u85, hinv⟩ := hinv; obtain ⟨u86, hinv⟩ := hinv; obtain ⟨u87, hinv⟩ := hinv; obtain ⟨u88, hinv⟩ := hinv; obtain ⟨u89, hinv⟩ := hinv; obtain ⟨u90, hinv⟩ := hinv; obtain ⟨u91, hinv⟩ := hinv; obtain ⟨u92, hinv⟩ := hinv; obtain ⟨u93, hinv⟩ := hinv; obtain ⟨u94, hinv⟩ := hinv; obtain ⟨u95, hinv⟩ := hinv; obtain ⟨u96, hinv⟩ := hinv; obtain ⟨u97, hinv⟩ := hinv; obtain ⟨u98, hinv⟩ := hinv; obtain ⟨u99, hinv⟩ := hinv; obtain ⟨u100, hinv⟩ := hinv; obtain ⟨u101, hinv⟩ := hinv; obtain ⟨u102, hinv⟩ := hinv; obtain ⟨u103, hinv⟩ := hinv; obtain ⟨u104, hinv⟩ := hinv; obtain ⟨u105, hinv⟩ := hinv; obtain ⟨u106, hinv⟩ := hinv; obtain ⟨u107, hinv⟩ := hinv; obtain ⟨u108, hinv⟩ := hinv; obtain ⟨u109, hinv⟩ := hinv; obtain ⟨u110, hinv⟩ := hinv; obtain ⟨u111, hinv⟩ := hinv; obtain ⟨u112, hinv⟩ := hinv; obtain ⟨u113, hinv⟩ := hinv; obtain ⟨u114, hinv⟩ := hinv; obtain ⟨u115, hinv⟩ := hinv; obtain ⟨u116, hinv⟩ := hinv; obtain ⟨u117, hinv⟩ := hinv; obtain ⟨u118, hinv⟩ := hinv; obtain ⟨u119, hinv⟩ := hinv; obtain ⟨u120, hinv⟩ := hinv; obtain ⟨u121, hinv⟩ := hinv; obtain ⟨u122, hinv⟩ := hinv; obtain ⟨u123, hinv⟩ := hinv; obtain ⟨ds, ⟨k, rs, hk, rfl, rfl, hI⟩, ha⟩ := hinv; subst ha; clear hmk
   try dsimp only
   by_cases hlt : k < n
   · obtain ⟨x, hx⟩ : ∃ x, ls[k]? = some x := ⟨ls[k]'(by have := HLN.out; omega), List.getElem?_eq_getElem _⟩
     have hNR := HN1.out.below hI.low; obtain ⟨a1, c1, a2, c2, hvn, hvk, k0, k1, k2, k3, k4, k5, k6, _, _⟩ := hNR.seven hx; have HVK := Lib.hid hvk; have HVN := Lib.hid hvn; simp only [Nat.zero_add] at k0 k1 k2 k3 k4 k5 k6; obtain ⟨hq1, hqz⟩ := HNZ.out k x hx; have HS := Lib.hid (HSH.out k x hx hk); have HQZ := Lib.hid hqz; obtain ⟨q, hq⟩ : ∃ q, x.nd.names.length = q := ⟨_, rfl⟩; have HQ := Lib.hid hq; have HX := Lib.hid hx; have HNB := Lib.hid (fun h : k < B => HNM.out k x hx h); have HBB := Lib.hid (fun h : namesF [] x.nd.names = false => show k = B by
      rcases Nat.lt_or_ge k B with h2 | h2
      · rw [HNM.out k x hx h2] at h; cases h
      · omega)
     have HBC := Lib.hid (fun h : k = B => HBAD.out x (by rw [← h]; exact hx)); have hltI : (k : Int) < (n : Int) := by omega
     have hk0 : (0 : Int) ≤ (k : Int) := by omega
     have hzz := hI.big; rw [hq] at k4 HS hq1; clear hx hNR hvk hvn hq hqz
     go_wp2_with fail; have hlow := hI.low; refine (HS.out a1 a2 c1 c2 _ (by (repeat' first | (with_reducible first | exact Below.refl _ _ | assumption | refine below_drewN ?_ _ | refine Below.drew ?_ | refine Below.alloc ?_ ?_ _ | refine Below.setCell ?_ ?_ _) | omega | (simp; done) | (simp; omega)))).mono ?_; rintro e w1 ⟨rfl, hb1⟩; obtain ⟨Z, hZ⟩ : ∃ Z, wr.heap.size = Z := ⟨_, rfl⟩; have hbA : Below wr.heap.size wr w1 := Below.next (by (repeat' first | (with_reducible first | exact Below.refl _ _ | assumption | refine below_drewN ?_ _ | refine Below.drew ?_ | refine Below.alloc ?_ ?_ _ | refine Below.setCell ?_ ?_ _) | omega | (simp; done) | (simp; omega))) hb1; have hI1 := hI.next hbA; have hbi : w1.heap[Z]? = some (.cells #[.int .i64 (k : Int)] 3 (0, 0)) := by rw [hb1.block Z (by simp; omega)]; exact block_alloc (block_new _ _ hZ.symm) _
     have hbn : w1.heap[Z + 1]? = some (.cells #[.int .i64 x.nd.kind, .string x.nd.text, .int .i64 x.nd.int, .float .f64 x.nd.flt, .slice a1 q c1, .slice a2 x.nd.kids.length c2, .int .i64 (x.nd.place : Int)] 36 (0, 0)) := by rw [hb1.block (Z + 1) (by simp; omega)]; exact block_new _ _ (by simp; omega)
     rw [hZ] at hzz; rw [hZ]; clear hI hb1 hbA hZ k0 k1 k2 k3 k4 k5 k6 hsf; have hn4 : w1.cell? ⟨Z + 1, 4, none⟩ = some (.slice a1 q c1) := block_cell hbn rfl; have hz1 : Z + 1 < w1.heap.size := block_lt hbn; have hz0 : Z < w1.heap.size := block_lt hbi
     go_wp2_with fail; obtain ⟨M, hM⟩ : ∃ M, w1.heap.size = M := ⟨_, rfl⟩; rw [hM]; have HMM := Lib.hid hM; go_loopw [38] (fun v wq => ∃ j : Nat, j ≤ q ∧ v = .int .i64 (j : Int) ∧ MF wq M j (FN (x.nd.names.take j)) ∧ namesF [] (x.nd.names.take j) = true ∧ Below M w1 wq) (fun v _ => q - (intOf v).toNat)
     case atStart =>
      refine ⟨0, Nat.zero_le _, rfl, ?_, rfl, by rw [← hM]; exact (Below.refl _ _).alloc (Nat.le_refl _) _⟩; rw [List.take_zero, FN_nil]; exact MF.made _ hM.symm
     case round =>
      obtain ⟨j, hj, rfl, hMF, hnf, hbq⟩ := hrel; rw [← hM] at hbq; clear hM; by_cases hjq : j < q
      · have hjl : j < x.nd.names.length := by have := HQ.out; omega
        obtain ⟨s, hs⟩ : ∃ s, x.nd.names[j]? = some s := ⟨x.nd.names[j], List.getElem?_eq_getElem hjl⟩; have hmx : s.size ≤ maxLen := HQZ.out s (List.mem_of_getElem? hs); have hsp : x.nd.names = x.nd.names.take j ++ s :: x.nd.names.drop (j + 1) := by
         have h1 : x.nd.names[j] = s := by
          rw [List.getElem?_eq_getElem hjl] at hs; exact Option.some.inj hs
         rw [← h1, List.getElem_cons_drop, List.take_append_drop]
        have hbadE : (x.nd.names.take j).any (fun t => t.toList == s.toList) = true ∨ plainF s = false → decide (B = n) = false := fun h => by
         have h2 : namesF [] x.nd.names = false := by
          rw [hsp, namesF_app, hnf, List.nil_append, namesF_cons, if_pos (by rcases h with h | h <;> simp [h])]; rfl
         have := HBB.out h2; simp
         omega
        have hgood : (x.nd.names.take j).any (fun t => t.toList == s.toList) = false → plainF s = true → namesF [] (x.nd.names.take (j + 1)) = true := fun h1 h2 => by
         rw [List.take_add_one, hs, Option.toList_some, namesF_app, hnf, List.nil_append, namesF_cons, if_neg (by simp [h1, h2])]; rfl
        have htk : x.nd.names.take (j + 1) = x.nd.names.take j ++ [s] := by rw [List.take_add_one, hs]; rfl
        have HBE := Lib.hid hbadE; have HGO := Lib.hid hgood; have HTK := Lib.hid htk; have HHS := Lib.hid hs; obtain ⟨nb, hnb, hnc⟩ : ∃ nb, a1 = some ⟨nb, 0, none⟩ ∧ w.cell? ⟨nb, j, none⟩ = some (.string s) := by
         rcases HN1.out.nam k x HX.out with ⟨h1, h2⟩ | ⟨g, cap, cur, e, h1, _, h3, h4⟩
         · have h5 : x.nd.names.length = 0 := by
            have := congrArg List.length h2; simpa using this
           omega
         · rw [HVN.out] at h1
           simp only [Value.slice.injEq] at h1; exact ⟨g, h1.1, block_cell h3 (h4 j _ (by rw [List.getElem?_map, hs]; rfl))⟩
        subst hnb; have hI2 := hI1.next hbq; have hsc : wr.cell? ⟨nb, j, none⟩ = some (.string s) := (hI2.low.cell (p := ⟨nb, j, none⟩) (World.block_lt_of_cell? w _ hnc)).trans hnc; have hlk := hMF.look Tryz.underlying69 zeroBoolP hmx; rw [FN_any] at hlk; have hjI : (j : Int) < (q : Int) := by omega
        have hj0 : (0 : Int) ≤ (j : Int) := by omega
        have cr : wr.cell? ⟨w.heap.size + 1, 0, none⟩ = some (.bool false) := block_cell hI2.r rfl; have fr : wr.frozen? ⟨w.heap.size + 1, 0, none⟩ = false := block_free hI2.r; clear hsp hbadE hgood htk hs hnc hn4 hbi hbn hI1; generalize hc : (x.nd.names.take j).any (fun t => t.toList == s.toList) = cc at *; have HC := Lib.hid hc; clear hc; cases cc
        · obtain ⟨pp, hpp⟩ : ∃ pp, plainF s = pp := ⟨_, rfl⟩
          have HPL := Lib.hid (pplain_any s wr); rw [hpp] at HPL; have HPP := Lib.hid hpp; clear hpp; cases pp
          · go_wp2_with fail
            refine HPL.out.mono ?_; rintro e w2 ⟨rfl, hb2⟩; have hI3 := hI2.next hb2; have cr : w2.cell? ⟨w.heap.size + 1, 0, none⟩ = some (.bool false) := block_cell hI3.r rfl; have fr : w2.frozen? ⟨w.heap.size + 1, 0, none⟩ = false := block_free hI3.r
            go_wp2_with fail; exact right_leave hI3 (HBE.out (Or.inr HPP.out)).symm rfl
          · go_wp2_with fail
            refine HPL.out.mono ?_; rintro e w2 ⟨rfl, hb2⟩; have hMF2 := hMF.below hb2; have hMlt := hMF.lt; have hq2 : j < maxLen := by unfold maxLen; omega
            have tok1 : True := trivial
            go_wp2_with (
             at_mapUpdate; have _t := tok1
             refine at_store _ rfl _ _ _ _ _ rfl Tryz.underlying69 M j _ rfl hMF2 hq2 s rfl hmx (.bool true) rfl ?_; intro w3 hM3 hg3 hz3; clear tok1)
            go_roundw
            case rel =>
             refine ⟨j + 1, by omega, by go_num, by rw [HTK.out, FN_snoc]; exact hM3, HGO.out (by simp) HPP.out, ?_⟩; have hz4 := hbq.size; have hz5 := hb2.size; have hz6 := HMM.out; exact Below.grown (w := w2) ((hbq.trans (hb2.mono hz4)).mono (by omega)) hg3 (by omega) (fun i hi => by cases hi; exact Nat.le_refl _)
            case measure => simp [intOf]; omega
        · go_wp2_with fail
          exact right_leave hI2 (HBE.out (Or.inl (by simp))).symm rfl
      obtain rfl : q = j := by omega
      have hkB : k < B := by
       rcases Nat.lt_or_ge k B with h | h
       · exact h
       · have h2 := HBC.out (by omega)
         rw [List.take_of_length_le (by rw [HQ.out]; exact Nat.le_refl _)] at hnf; rw [hnf] at h2; cases h2
      have HKX := Lib.hid (HKD.out k x HX.out hkB); have hjj : ¬ ((q : Int) < (q : Int)) := by omega
      clear hMF hnf; have hI2 := hI1.next hbq; have hbi2 := block_below hbi hbq; have hbn2 := block_below hbn hbq; have hq3 : wr.cell? ⟨Z, 0, none⟩ = some (.int .i64 (k : Int)) := block_cell hbi2 rfl; have hbl := bl_at HBL.out (by rw [HLN.out]; exact hlt); rw [HLN.out] at hbl; have cb : wr.cell? ⟨w.heap.size + 3, 0, none⟩ = some (.slice (some ⟨w.heap.size + 2, 0, none⟩) n n) := block_cell hI2.b rfl; have cg : wr.cell? ⟨w.heap.size + 2, k, none⟩ = some (.int .i64 0) := block_cell hI2.g (by rw [List.getElem?_toArray, List.getElem?_map, hbl]; rfl); have fg : wr.frozen? ⟨w.heap.size + 2, k, none⟩ = false := block_free hI2.g; clear hI1 hbi hbn hn4 hbl; go_upto_region 18 with fail
      have hI3 := hI2.setg k k; have hbn3 := block_setCell hbn2 (a := ⟨w.heap.size + 2, k, none⟩) (by simp; omega) (.int .i64 (k : Int)); have hbi3 := block_setCell hbi2 (a := ⟨w.heap.size + 2, k, none⟩) (by simp; omega) (.int .i64 (k : Int)); refine with_worldR fun w3 hw3 => ?_
      rw [← hw3] at hI3 hbn3 hbi3; have k5 : w3.cell? ⟨Z + 1, 5, none⟩ = some (.slice a2 x.nd.kids.length c2) := block_cell hbn3 rfl; clear hw3 hI2 hbn2 hbi2 cb cg fg hq3
      go_wp2_with fail; refine ((callsIn_wide (n := 3)).1 (backward_in Fence.wide 3 trivial rfl a2 x.nd.kids.length c2 w3)).mono ?_; rintro e w4 ⟨rfl, rfl⟩
      go_wp2_with fail; have hbox := Boxed.new w3 29 (.slice a2 x.nd.kids.length c2); have hIA := hI3.next (W' := w3.alloc (.cells #[.slice a2 x.nd.kids.length c2] 29)) (by (repeat' first | (with_reducible first | exact Below.refl _ _ | assumption | refine below_drewN ?_ _ | refine Below.drew ?_ | refine Below.alloc ?_ ?_ _ | refine Below.setCell ?_ ?_ _) | omega | (simp; done) | (simp; omega))); have hbnA := block_alloc hbn3 (.cells #[.slice a2 x.nd.kids.length c2] 29); have hbiA := block_alloc hbi3 (.cells #[.slice a2 x.nd.kids.length c2] 29); have hsz : (w3.alloc (.cells #[.slice a2 x.nd.kids.length c2] 29)).heap.size = w3.heap.size + 1 := by simp
      obtain ⟨W1, hW1⟩ : ∃ W1, w3.alloc (.cells #[.slice a2 x.nd.kids.length c2] 29) = W1 := ⟨_, rfl⟩; obtain ⟨Bs, hBs⟩ : ∃ Bs, w3.heap.size = Bs := ⟨_, rfl⟩; have hrsB : ∀ r ∈ rs, r < Bs + 1 := fun r hr => by
       have := (Array.getElem?_eq_some_iff.1 (hI3.mks.2 r hr).2).1; omega
      have hZB : Z + 1 < Bs := by rw [← hBs]; exact block_lt hbn3
      rw [hW1] at hbox hIA hbnA hbiA hsz ⊢; rw [hBs] at hbox hsz ⊢; clear hW1 hBs hI3 hbn3 hbi3 k5; obtain ⟨hkF, hkl, hnd, hkn⟩ := HKX.out; have HKA := Lib.hid (kids_atN hkF); have hIC : ICells w.heap.size W1 (.slice a2 x.nd.kids.length c2) x.nd.kids.length (fun i => x.nd.kids.getD i 5000) := by
       rcases HN1.out.kid k x HX.out with ⟨h1, h2⟩ | ⟨g, cap, cur, e, h1, _, h3, h4⟩
       · have h5 : x.nd.kids.length = 0 := by
          have := congrArg List.length h2; simpa using this
         rw [h5]; exact .inl ⟨_, _, rfl, rfl⟩
       · rw [HVK.out] at h1
         simp only [Value.slice.injEq] at h1; obtain ⟨rfl, _, rfl⟩ := h1; refine .inr ⟨g, 0, c2, rfl, block_lt h3, fun j hj => ?_⟩; have h6 : w.cell? ⟨g, j, none⟩ = some (num (x.nd.kids.getD j 5000)) := block_cell h3 (h4 j _ (by rw [List.getElem?_map, List.getD_eq_getElem?_getD, List.getElem?_eq_getElem hj]; rfl)); rw [Nat.zero_add]; exact (hIA.low.cell (p := ⟨g, j, none⟩) (block_lt h3)).trans h6
      have hI0 : RJ w (.slice (some ⟨fb, 0, none⟩) n c) n (begs.take k ++ List.replicate (n - k) 0) rs Z k (Bs + 1) #[.int .i64 x.nd.kind, .string x.nd.text, .int .i64 x.nd.int, .float .f64 x.nd.flt, .slice a1 q c1, .slice a2 x.nd.kids.length c2, .int .i64 (x.nd.place : Int)] begs x.nd.kids [] W1 := ⟨rfl, Nat.zero_le _, hIA, hbiA, hbnA, by omega⟩; refine with_frame fun a0 ha0 => ?_
      rw [← wpIn_wide (n := 3)]; refine wpIn_rangeFunc_ownH (gf := 51) (lb := #[.pointer (some ⟨Bs, 0, none⟩)]) rfl (by decide) (by rw [ha0]; rfl) trivial (enters_of Tryz.func51 (by kernel_rfl) rfl)
       (backward_stops Fence.wide 2 trivial rfl (by decide) Bs w.heap.size (.slice a2 x.nd.kids.length c2) x.nd.kids.length (fun i => x.nd.kids.getD i 5000) (by omega) W1 (by omega) (by omega) hbox.cell hIC)
       (fun h k => KB.trans h k) (KB.put (by omega) (by omega)) (Below.refl _ _) (fun _ => rfl)
       (RJ w (.slice (some ⟨fb, 0, none⟩) n c) n (begs.take k ++ List.replicate (n - k) 0) rs Z k (Bs + 1) #[.int .i64 x.nd.kind, .string x.nd.text, .int .i64 x.nd.int, .float .f64 x.nd.flt, .slice a1 q c1, .slice a2 x.nd.kids.length c2, .int .i64 (x.nd.place : Int)] begs x.nd.kids)
       (fun _ pre _ => ¬ ∃ j, j ≤ x.nd.kids.length ∧ pre = upto' (fun j => x.nd.kids.length - 1 - j) j) (by rw [hsz]; exact RJ.own (by have := hI0.2.2.1.big; omega) (by omega) hrsB) (fun _ _ _ _ _ hs _ _ => hs) hI0
       (fun y a' W => a' = { tmps := ((((a0.tmps.setIfInBounds 60 (.int .i64 (y : Int))).setIfInBounds 61 (.int .i64 (x.nd.kids.getD y 5000 : Int))).setIfInBounds 9 (.int .i64 (y : Int))).setIfInBounds 10 (.int .i64 (x.nd.kids.getD y 5000 : Int))), defers := [] })
       (fun y a' _ X Y row hs hg hr => hs) ?assign ?body ?done ?stop
      case assign =>
       rintro l pre y W K hI hK; subst ha0; simp only [encI]; have HK := Lib.hid hK; clear hK; gi_wp2
       exact HK.out _ _ (KeepsFrom.refl _ _) (KB.refl _ _ _) hI rfl
      case body =>
       rintro l pre y a' W hl _ hI rfl hlt2; obtain ⟨hp1, hp2, hRI, hbiW, hbnW, hNW⟩ := hI; obtain ⟨hb0, hkid, xk, hxk, h19⟩ := HKA.out.1 pre.length hlt2; obtain ⟨b, hbe⟩ : ∃ b, bA begs x.nd.kids k pre.length = b := ⟨_, rfl⟩; rw [hbe] at hb0 hkid hRI; have HBE := Lib.hid hbe; have HP1 := Lib.hid hp1; subst ha0; simp only [List.setIfInBounds_toArray, List.set_cons_zero, List.set_cons_succ]; have hset : ((begs.take k ++ List.replicate (n - k) 0).set k b)[k]? = some b := by
        rw [List.getElem?_set_self]; simp
        have := HBL.out
        have := HLN.out; omega
       have cb : W.cell? ⟨w.heap.size + 3, 0, none⟩ = some (.slice (some ⟨w.heap.size + 2, 0, none⟩) n n) := block_cell hRI.b rfl; have ci : W.cell? ⟨Z, 0, none⟩ = some (.int .i64 (k : Int)) := block_cell hbiW rfl; have cg : W.cell? ⟨w.heap.size + 2, k, none⟩ = some (.int .i64 (b : Int)) := block_cell hRI.g (by rw [List.getElem?_toArray, List.getElem?_map, hset]; rfl); have hmid : x.nd.kids.length - 1 - pre.length < x.nd.kids.length := by omega
       have hkl2 : b - 1 < k := by
        rw [← hkid, List.getD_eq_getElem?_getD, List.getElem?_eq_getElem hmid]; exact hkn _ (List.getElem_mem _)
       have hbw : IntKind.i64.wrap ((b : Int) - 1) = (b : Int) - 1 := IntWalk.i64_in _ (by omega); have hb0I : ((b : Int) == 0) = false := by simp; omega
       have hb0J : ¬ ((b : Int) = 0) := by omega
       by_cases hy : y = x.nd.kids.length - 1 - pre.length
       · rw [← hy] at hkid hxk
         generalize hkd : x.nd.kids.getD y 5000 = kd at *; have hkdI : ((kd : Int) != (b : Int) - 1) = false := by simp; omega
         rw [List.getElem?_map] at hxk; obtain ⟨xv, hxv, rfl⟩ := Option.map_eq_some_iff.1 hxk; have H19 := Lib.hid h19; have hkn2 : kd < n := by have := (List.getElem?_eq_some_iff.1 hxv).1; have := HLN.out; omega
         have hkI : (kd : Int) < (n : Int) := by omega
         have hk0' : (0 : Int) ≤ (kd : Int) := by omega
         have hNR := HN1.out.below hRI.low; obtain ⟨b1, d1, b2, d2, _, _, k0, k1, k2, k3, k4, k5, k6, _, _⟩ := hNR.seven hxv; simp only [Nat.zero_add] at k0 k1 k2 k3 k4 k5 k6; have cf : W.cell? ⟨w.heap.size, 0, none⟩ = some (.slice (some ⟨fb, 0, none⟩) n c) := block_cell hRI.f rfl; have hkk : kd < k := by omega
         have hget : ((begs.take k ++ List.replicate (n - k) 0).set k b)[kd]? = some (begs.getD kd 0) := by
          rw [List.getElem?_set_ne (by omega), List.getElem?_append_left (by simp; have := HBL.out; have := HLN.out; omega), List.getElem?_take, if_pos hkk, List.getD_eq_getElem?_getD, List.getElem?_eq_getElem (by have := HBL.out; have := HLN.out; omega)]; rfl
         have cgk : W.cell? ⟨w.heap.size + 2, kd, none⟩ = some (.int .i64 (begs.getD kd 0 : Int)) := block_cell hRI.g (by rw [List.getElem?_toArray, List.getElem?_map, hget]; rfl); have fgk : W.frozen? ⟨w.heap.size + 2, k, none⟩ = false := block_free hRI.g; have hsf := store_f64; have HKID := Lib.hid hkid; have HY := Lib.hid hy; have HSET := Lib.hid hset; have HGET := Lib.hid hget; clear hxk hxv h19 hNR hset hget hkid hy
         gi_wp2_with fail
         refine with_worldIn fun w5 hw5 => ?_
         obtain ⟨WZ, hWZ⟩ : ∃ WZ, W.heap.size = WZ := ⟨_, rfl⟩; rw [hWZ]; have hZW : Z + 1 < W.heap.size := block_lt hbnW; have cx : w5.cell? ⟨WZ, 0, none⟩ = some (.int .i64 xv.nd.kind) := by rw [hw5]; exact block_cell (block_new _ _ hWZ.symm) rfl
         have cxt : w5.cell? ⟨WZ, 1, none⟩ = some (.string xv.nd.text) := by rw [hw5]; exact block_cell (block_new _ _ hWZ.symm) rfl
         have hb5 : Below W.heap.size W w5 := by rw [hw5]; (repeat' first | (with_reducible first | exact Below.refl _ _ | assumption | refine below_drewN ?_ _ | refine Below.drew ?_ | refine Below.alloc ?_ ?_ _ | refine Below.setCell ?_ ?_ _) | omega | (simp; done) | (simp; omega))
         have hK5 : KeepsFrom W1.heap.size W w5 := by rw [hw5]; exact (KeepsOthers.alloc _ _).from _
         have hRI5 := hRI.next hb5; have hbi5 := block_below hbiW hb5; have hbn5 := block_below hbnW hb5; clear hw5 k0 k1 k2 k3 k4 k5 k6 cb ci cg cf cgk fgk hsf; by_cases hk9 : xv.nd.kind = 19
         · have hnm19 := H19.out hk9
           rw [← HY.out] at hnm19; obtain ⟨nm, hnm, hnt⟩ := Option.map_eq_some_iff.1 hnm19; have hyl : y < x.nd.names.length := (List.getElem?_eq_some_iff.1 hnm).1; have hyq : y < q := by rw [HQ.out] at hyl; exact hyl
           obtain ⟨nb, hnb, hnc⟩ : ∃ nb, a1 = some ⟨nb, 0, none⟩ ∧ w.cell? ⟨nb, y, none⟩ = some (.string nm) := by
            rcases HN1.out.nam k x HX.out with ⟨h1, h2⟩ | ⟨g, cap, cur, e, h1, _, h3, h4⟩
            · have h5 : x.nd.names.length = 0 := by
               have := congrArg List.length h2; simpa using this
              omega
            · rw [HVN.out] at h1
              simp only [Value.slice.injEq] at h1; exact ⟨g, h1.1, block_cell h3 (h4 y _ (by rw [List.getElem?_map, hnm]; rfl))⟩
           subst hnb; have cn4 : w5.cell? ⟨Z + 1, 4, none⟩ = some (.slice (some ⟨nb, 0, none⟩) q c1) := block_cell hbn5 rfl; have cnm : w5.cell? ⟨nb, y, none⟩ = some (.string nm) := (hRI5.low.cell (p := ⟨nb, y, none⟩) (World.block_lt_of_cell? w _ hnc)).trans hnc; have hnt2 : (nm.toList == xv.nd.text.toList) = true := hnt; have hnt3 : nm = xv.nd.text := by
            cases Decidable.em (nm = xv.nd.text) with
            | inl h => exact h
            | inr h => rw [toL_ne h] at hnt2; cases hnt2
           subst hnt3; have hyI : (y : Int) < (q : Int) := by omega
           have hyI2 : ¬ ((q : Int) ≤ (y : Int)) := by omega
           have hy0 : (0 : Int) ≤ (y : Int) := by omega
           rw [hk9] at cx; clear hnm19 hnm hnt hnt2 hyl hnc hk9; refine with_frameIn fun a0 ha0 => ?_
           have e11 : a0.eval (.tmp 11) = .pointer (some ⟨WZ, 0, none⟩) := by rw [ha0]; rfl
           have e5 : a0.eval (.tmp 5) = .pointer (some ⟨Z + 1, 0, none⟩) := by rw [ha0]; rfl
           have e9 : a0.eval (.tmp 9) = .int .i64 (y : Int) := by rw [ha0]; rfl
           have hsz0 : a0.tmps.size = 124 := by rw [ha0]; rfl
           have HA := Lib.hid ha0; clear ha0; have hD : ∀ d, (List.range' 80 19).contains d = true → d < a0.tmps.size := by
            intro d h; rw [hsz0]; have hm : d ∈ List.range' 80 19 := by simpa using h
            rw [List.mem_range'_1] at hm; omega
           refine wpIn_region_tab (by kernel_rfl) 19 80 (fun jj => ([.pointer (some ⟨WZ, 0, none⟩), .int .i64 19, .bool true, .bool true, .int .i64 (y : Int), .pointer (some ⟨Z + 1, 4, none⟩), .slice (some ⟨nb, 0, none⟩) q c1, .int .i64 (q : Int), .bool false, .bool false, .pointer (some ⟨Z + 1, 4, none⟩), .slice (some ⟨nb, 0, none⟩) q c1, .int .i64 (y : Int), .pointer (some ⟨nb, y, none⟩), .string xv.nd.text, .pointer (some ⟨WZ, 1, none⟩), .string xv.nd.text, .bool false, .bool false] : List Value).getD jj undef) (fun w' => Below w5.heap.size w5 w') rfl (by kernel_rfl) (by kernel_rfl) (by (repeat' first | (with_reducible first | exact Below.refl _ _ | assumption | refine below_drewN ?_ _ | refine Below.drew ?_ | refine Below.alloc ?_ ?_ _ | refine Below.setCell ?_ ?_ _) | omega | (simp; done) | (simp; omega))) ?_ ?_
           · intro i0 hi0 v w0 hW hv
             have cx := cell_keeps hW cx; have cxt := cell_keeps hW cxt; have cn4 := cell_keeps hW cn4; have cnm := cell_keeps hW cnm; have inn : ∀ d, (List.range' 80 19).contains d = true → (frameOf a0 (List.range' 80 19) v).tmps[d]?.getD undef = v d := fun d h => frameOf_in' h (hD d h)
             rcases (by omega : i0 = 0 ∨ i0 = 1 ∨ i0 = 2 ∨ i0 = 3 ∨ i0 = 4 ∨ i0 = 5 ∨ i0 = 6 ∨ i0 = 7 ∨ i0 = 8 ∨ i0 = 9 ∨ i0 = 10 ∨ i0 = 11 ∨ i0 = 12 ∨ i0 = 13 ∨ i0 = 14 ∨ i0 = 15 ∨ i0 = 16 ∨ i0 = 17 ∨ i0 = 18) with rfl | rfl | rfl | rfl | rfl | rfl | rfl | rfl | rfl | rfl | rfl | rfl | rfl | rfl | rfl | rfl | rfl | rfl | rfl
             ·
              have E11 : (frameOf a0 (List.range' 80 19) v).tmps[11]?.getD undef = .pointer (some ⟨WZ, 0, none⟩) := (frameOf_out' rfl).trans e11; refine wpOpIn_value (v := .pointer (some ⟨WZ, 0, none⟩)) (w' := w0) rfl rfl (fun _ => trivial) (by go_simp) ?_; exact ⟨frameOf_put rfl, hW⟩
             ·
              have x80 : v 80 = .pointer (some ⟨WZ, 0, none⟩) := hv 0 (by kernel_rfl); have E80 := (inn 80 rfl).trans x80; refine wpOpIn_value (v := .int .i64 19) (w' := w0) rfl rfl (fun _ => trivial) (by go_simp) ?_; exact ⟨frameOf_put rfl, hW⟩
             ·
              have x81 : v 81 = .int .i64 19 := hv 1 (by kernel_rfl); have E81 := (inn 81 rfl).trans x81; refine wpOpIn_value (v := .bool true) (w' := w0) rfl rfl (fun _ => trivial) (by go_simp) ?_; exact ⟨frameOf_put rfl, hW⟩
             ·
              have x82 : v 82 = .bool true := hv 2 (by kernel_rfl); have E82 := (inn 82 rfl).trans x82; refine wpOpIn_value (v := .bool true) (w' := w0) rfl rfl (fun _ => trivial) (by go_simp) ?_; exact ⟨frameOf_put rfl, hW⟩
             ·
              have E9 : (frameOf a0 (List.range' 80 19) v).tmps[9]?.getD undef = .int .i64 (y : Int) := (frameOf_out' rfl).trans e9; have x83 : v 83 = .bool true := hv 3 (by kernel_rfl); have E83 := (inn 83 rfl).trans x83; refine wpOpIn_guard (v := .int .i64 (y : Int)) (w' := w0) rfl rfl (yielded_at rfl rfl (by simp [frameOf, hsz0]) E83) (fun _ => trivial) (by go_simp) ?_; exact ⟨frameOf_put rfl, hW⟩
             ·
              have E5 : (frameOf a0 (List.range' 80 19) v).tmps[5]?.getD undef = .pointer (some ⟨Z + 1, 0, none⟩) := (frameOf_out' rfl).trans e5; have x83 : v 83 = .bool true := hv 3 (by kernel_rfl); have E83 := (inn 83 rfl).trans x83; refine wpOpIn_guard (v := .pointer (some ⟨Z + 1, 4, none⟩)) (w' := w0) rfl rfl (yielded_at rfl rfl (by simp [frameOf, hsz0]) E83) (fun _ => trivial) (by go_simp) ?_; exact ⟨frameOf_put rfl, hW⟩
             ·
              have x83 : v 83 = .bool true := hv 3 (by kernel_rfl); have E83 := (inn 83 rfl).trans x83; have x85 : v 85 = .pointer (some ⟨Z + 1, 4, none⟩) := hv 5 (by kernel_rfl); have E85 := (inn 85 rfl).trans x85; refine wpOpIn_guard (v := .slice (some ⟨nb, 0, none⟩) q c1) (w' := w0) rfl rfl (yielded_at rfl rfl (by simp [frameOf, hsz0]) E83) (fun _ => trivial) (by go_simp) ?_; exact ⟨frameOf_put rfl, hW⟩
             ·
              have x83 : v 83 = .bool true := hv 3 (by kernel_rfl); have E83 := (inn 83 rfl).trans x83; have x86 : v 86 = .slice (some ⟨nb, 0, none⟩) q c1 := hv 6 (by kernel_rfl); have E86 := (inn 86 rfl).trans x86; refine wpOpIn_guard (v := .int .i64 (q : Int)) (w' := w0) rfl rfl (yielded_at rfl rfl (by simp [frameOf, hsz0]) E83) (fun _ => trivial) (by go_simp) ?_; exact ⟨frameOf_put rfl, hW⟩
             ·
              have x83 : v 83 = .bool true := hv 3 (by kernel_rfl); have E83 := (inn 83 rfl).trans x83; have x84 : v 84 = .int .i64 (y : Int) := hv 4 (by kernel_rfl); have E84 := (inn 84 rfl).trans x84; have x87 : v 87 = .int .i64 (q : Int) := hv 7 (by kernel_rfl); have E87 := (inn 87 rfl).trans x87; refine wpOpIn_guard (v := .bool false) (w' := w0) rfl rfl (yielded_at rfl rfl (by simp [frameOf, hsz0]) E83) (fun _ => trivial) (by go_simp) ?_; exact ⟨frameOf_put rfl, hW⟩
             ·
              have x83 : v 83 = .bool true := hv 3 (by kernel_rfl); have E83 := (inn 83 rfl).trans x83; have x88 : v 88 = .bool false := hv 8 (by kernel_rfl); have E88 := (inn 88 rfl).trans x88; refine wpOpIn_guard (v := .bool false) (w' := w0) rfl rfl (yielded_at rfl rfl (by simp [frameOf, hsz0]) E83) (fun _ => trivial) (by go_simp) ?_; exact ⟨frameOf_put rfl, hW⟩
             ·
              have E5 : (frameOf a0 (List.range' 80 19) v).tmps[5]?.getD undef = .pointer (some ⟨Z + 1, 0, none⟩) := (frameOf_out' rfl).trans e5; have x89 : v 89 = .bool false := hv 9 (by kernel_rfl); have E89 := (inn 89 rfl).trans x89; refine wpOpIn_guard (v := .pointer (some ⟨Z + 1, 4, none⟩)) (w' := w0) rfl rfl (yielded_at rfl rfl (by simp [frameOf, hsz0]) E89) (fun _ => trivial) (by go_simp) ?_; exact ⟨frameOf_put rfl, hW⟩
             ·
              have x89 : v 89 = .bool false := hv 9 (by kernel_rfl); have E89 := (inn 89 rfl).trans x89; have x90 : v 90 = .pointer (some ⟨Z + 1, 4, none⟩) := hv 10 (by kernel_rfl); have E90 := (inn 90 rfl).trans x90; refine wpOpIn_guard (v := .slice (some ⟨nb, 0, none⟩) q c1) (w' := w0) rfl rfl (yielded_at rfl rfl (by simp [frameOf, hsz0]) E89) (fun _ => trivial) (by go_simp) ?_; exact ⟨frameOf_put rfl, hW⟩
             ·
              have E9 : (frameOf a0 (List.range' 80 19) v).tmps[9]?.getD undef = .int .i64 (y : Int) := (frameOf_out' rfl).trans e9; have x89 : v 89 = .bool false := hv 9 (by kernel_rfl); have E89 := (inn 89 rfl).trans x89; refine wpOpIn_guard (v := .int .i64 (y : Int)) (w' := w0) rfl rfl (yielded_at rfl rfl (by simp [frameOf, hsz0]) E89) (fun _ => trivial) (by go_simp) ?_; exact ⟨frameOf_put rfl, hW⟩
             ·
              have x89 : v 89 = .bool false := hv 9 (by kernel_rfl); have E89 := (inn 89 rfl).trans x89; have x91 : v 91 = .slice (some ⟨nb, 0, none⟩) q c1 := hv 11 (by kernel_rfl); have E91 := (inn 91 rfl).trans x91; have x92 : v 92 = .int .i64 (y : Int) := hv 12 (by kernel_rfl); have E92 := (inn 92 rfl).trans x92; refine wpOpIn_guard (v := .pointer (some ⟨nb, y, none⟩)) (w' := w0) rfl rfl (yielded_at rfl rfl (by simp [frameOf, hsz0]) E89) (fun _ => trivial) (by go_simp) ?_; exact ⟨frameOf_put rfl, hW⟩
             ·
              have x89 : v 89 = .bool false := hv 9 (by kernel_rfl); have E89 := (inn 89 rfl).trans x89; have x93 : v 93 = .pointer (some ⟨nb, y, none⟩) := hv 13 (by kernel_rfl); have E93 := (inn 93 rfl).trans x93; refine wpOpIn_guard (v := .string xv.nd.text) (w' := w0) rfl rfl (yielded_at rfl rfl (by simp [frameOf, hsz0]) E89) (fun _ => trivial) (by go_simp) ?_; exact ⟨frameOf_put rfl, hW⟩
             ·
              have E11 : (frameOf a0 (List.range' 80 19) v).tmps[11]?.getD undef = .pointer (some ⟨WZ, 0, none⟩) := (frameOf_out' rfl).trans e11; have x89 : v 89 = .bool false := hv 9 (by kernel_rfl); have E89 := (inn 89 rfl).trans x89; refine wpOpIn_guard (v := .pointer (some ⟨WZ, 1, none⟩)) (w' := w0) rfl rfl (yielded_at rfl rfl (by simp [frameOf, hsz0]) E89) (fun _ => trivial) (by go_simp) ?_; exact ⟨frameOf_put rfl, hW⟩
             ·
              have x89 : v 89 = .bool false := hv 9 (by kernel_rfl); have E89 := (inn 89 rfl).trans x89; have x95 : v 95 = .pointer (some ⟨WZ, 1, none⟩) := hv 15 (by kernel_rfl); have E95 := (inn 95 rfl).trans x95; refine wpOpIn_guard (v := .string xv.nd.text) (w' := w0) rfl rfl (yielded_at rfl rfl (by simp [frameOf, hsz0]) E89) (fun _ => trivial) (by go_simp) ?_; exact ⟨frameOf_put rfl, hW⟩
             ·
              have x89 : v 89 = .bool false := hv 9 (by kernel_rfl); have E89 := (inn 89 rfl).trans x89; have x94 : v 94 = .string xv.nd.text := hv 14 (by kernel_rfl); have E94 := (inn 94 rfl).trans x94; have x96 : v 96 = .string xv.nd.text := hv 16 (by kernel_rfl); have E96 := (inn 96 rfl).trans x96; refine wpOpIn_guard (v := .bool false) (w' := w0) rfl rfl (yielded_at rfl rfl (by simp [frameOf, hsz0]) E89) (fun _ => trivial) (by go_simp) ?_; exact ⟨frameOf_put rfl, hW⟩
             ·
              have x83 : v 83 = .bool true := hv 3 (by kernel_rfl); have E83 := (inn 83 rfl).trans x83; have x89 : v 89 = .bool false := hv 9 (by kernel_rfl); have E89 := (inn 89 rfl).trans x89; have x97 : v 97 = .bool false := hv 17 (by kernel_rfl); have E97 := (inn 97 rfl).trans x97; refine wpOpIn_guard (v := .bool false) (w' := w0) rfl rfl (yielded_at rfl rfl (by simp [frameOf, hsz0]) E83) (fun _ => trivial) (by go_simp) ?_; exact ⟨frameOf_put rfl, hW⟩
           · intro w0 hW
             have h0 := HA.out; subst h0; have hrg : List.range' 80 19 = [80, 81, 82, 83, 84, 85, 86, 87, 88, 89, 90, 91, 92, 93, 94, 95, 96, 97, 98] := rfl; rw [hrg]; clear hrg; simp only [frameOf_cons, frameOf_nil, Act.put, List.setIfInBounds_toArray, List.set_cons_zero, List.set_cons_succ]; refine wpOpIn_value (v := .bool false) (w' := w0) rfl rfl (fun _ => trivial) (by go_simp) ?_
             gi_wp2_with fail
             revert w0
             intro w6 hW6; have hRI6 := hRI5.next hW6; have cb : w6.cell? ⟨w.heap.size + 3, 0, none⟩ = some (.slice (some ⟨w.heap.size + 2, 0, none⟩) n n) := block_cell hRI6.b rfl; have ci : w6.cell? ⟨Z, 0, none⟩ = some (.int .i64 (k : Int)) := block_cell (block_below hbi5 hW6) rfl; have cg : w6.cell? ⟨w.heap.size + 2, k, none⟩ = some (.int .i64 (b : Int)) := block_cell hRI6.g (by rw [List.getElem?_toArray, List.getElem?_map, HSET.out]; rfl); obtain ⟨gv, hgv⟩ : ∃ gv, begs.getD kd 0 = gv := ⟨_, rfl⟩; have cgk : w6.cell? ⟨w.heap.size + 2, kd, none⟩ = some (.int .i64 (gv : Int)) := block_cell hRI6.g (by rw [List.getElem?_toArray, List.getElem?_map, HGET.out, hgv]; rfl); have HGV := Lib.hid hgv; clear hgv; clear e11 e5 e9 hsz0 hD; refine with_frameIn fun a0 ha0 => ?_
             have e3 : a0.eval (.tmp 3) = .pointer (some ⟨w.heap.size + 3, 0, none⟩) := by rw [ha0]; rfl
             have e4 : a0.eval (.tmp 4) = .pointer (some ⟨Z, 0, none⟩) := by rw [ha0]; rfl
             have e10 : a0.eval (.tmp 10) = .int .i64 (kd : Int) := by rw [ha0]; rfl
             have hsz0 : a0.tmps.size = 124 := by rw [ha0]; rfl
             have HA := Lib.hid ha0; clear ha0; have hD : ∀ d, (List.range' 100 7).contains d = true → d < a0.tmps.size := by
              intro d h; rw [hsz0]; have hm : d ∈ List.range' 100 7 := by simpa using h
              rw [List.mem_range'_1] at hm; omega
             refine wpIn_region_tab (by kernel_rfl) 7 100 (fun jj => ([.slice (some ⟨w.heap.size + 2, 0, none⟩) n n, .int .i64 (k : Int), .slice (some ⟨w.heap.size + 2, 0, none⟩) n n, .int .i64 (kd : Int), .pointer (some ⟨w.heap.size + 2, kd, none⟩), .int .i64 (gv : Int), .pointer (some ⟨w.heap.size + 2, k, none⟩)] : List Value).getD jj undef) (fun w' => Below w6.heap.size w6 w') rfl (by kernel_rfl) (by kernel_rfl) (by (repeat' first | (with_reducible first | exact Below.refl _ _ | assumption | refine below_drewN ?_ _ | refine Below.drew ?_ | refine Below.alloc ?_ ?_ _ | refine Below.setCell ?_ ?_ _) | omega | (simp; done) | (simp; omega))) ?_ ?_
             · intro i0 hi0 v w0 hW hv
               have cb := cell_keeps hW cb; have ci := cell_keeps hW ci; have cg := cell_keeps hW cg; have cgk := cell_keeps hW cgk; have inn : ∀ d, (List.range' 100 7).contains d = true → (frameOf a0 (List.range' 100 7) v).tmps[d]?.getD undef = v d := fun d h => frameOf_in' h (hD d h)
               rcases (by omega : i0 = 0 ∨ i0 = 1 ∨ i0 = 2 ∨ i0 = 3 ∨ i0 = 4 ∨ i0 = 5 ∨ i0 = 6) with rfl | rfl | rfl | rfl | rfl | rfl | rfl
               ·
                have E3 : (frameOf a0 (List.range' 100 7) v).tmps[3]?.getD undef = .pointer (some ⟨w.heap.size + 3, 0, none⟩) := (frameOf_out' rfl).trans e3; refine wpOpIn_value (v := .slice (some ⟨w.heap.size + 2, 0, none⟩) n n) (w' := w0) rfl rfl (fun _ => trivial) (by go_simp) ?_; exact ⟨frameOf_put rfl, hW⟩
               ·
                have E4 : (frameOf a0 (List.range' 100 7) v).tmps[4]?.getD undef = .pointer (some ⟨Z, 0, none⟩) := (frameOf_out' rfl).trans e4; refine wpOpIn_value (v := .int .i64 (k : Int)) (w' := w0) rfl rfl (fun _ => trivial) (by go_simp) ?_; exact ⟨frameOf_put rfl, hW⟩
               ·
                have E3 : (frameOf a0 (List.range' 100 7) v).tmps[3]?.getD undef = .pointer (some ⟨w.heap.size + 3, 0, none⟩) := (frameOf_out' rfl).trans e3; refine wpOpIn_value (v := .slice (some ⟨w.heap.size + 2, 0, none⟩) n n) (w' := w0) rfl rfl (fun _ => trivial) (by go_simp) ?_; exact ⟨frameOf_put rfl, hW⟩
               ·
                have E10 : (frameOf a0 (List.range' 100 7) v).tmps[10]?.getD undef = .int .i64 (kd : Int) := (frameOf_out' rfl).trans e10; refine wpOpIn_value (v := .int .i64 (kd : Int)) (w' := w0) rfl rfl (fun _ => trivial) (by go_simp) ?_; exact ⟨frameOf_put rfl, hW⟩
               ·
                have x102 : v 102 = .slice (some ⟨w.heap.size + 2, 0, none⟩) n n := hv 2 (by kernel_rfl); have E102 := (inn 102 rfl).trans x102; have x103 : v 103 = .int .i64 (kd : Int) := hv 3 (by kernel_rfl); have E103 := (inn 103 rfl).trans x103; refine wpOpIn_value (v := .pointer (some ⟨w.heap.size + 2, kd, none⟩)) (w' := w0) rfl rfl (fun _ => trivial) (by go_simp) ?_; exact ⟨frameOf_put rfl, hW⟩
               ·
                have x104 : v 104 = .pointer (some ⟨w.heap.size + 2, kd, none⟩) := hv 4 (by kernel_rfl); have E104 := (inn 104 rfl).trans x104; refine wpOpIn_value (v := .int .i64 (gv : Int)) (w' := w0) rfl rfl (fun _ => trivial) (by go_simp) ?_; exact ⟨frameOf_put rfl, hW⟩
               ·
                have x100 : v 100 = .slice (some ⟨w.heap.size + 2, 0, none⟩) n n := hv 0 (by kernel_rfl); have E100 := (inn 100 rfl).trans x100; have x101 : v 101 = .int .i64 (k : Int) := hv 1 (by kernel_rfl); have E101 := (inn 101 rfl).trans x101; refine wpOpIn_value (v := .pointer (some ⟨w.heap.size + 2, k, none⟩)) (w' := w0) rfl rfl (fun _ => trivial) (by go_simp) ?_; exact ⟨frameOf_put rfl, hW⟩
             · intro w0 hW
               have h0 := HA.out; subst h0; have hrg : List.range' 100 7 = [100, 101, 102, 103, 104, 105, 106] := rfl; rw [hrg]; clear hrg; simp only [frameOf_cons, frameOf_nil, Act.put, List.setIfInBounds_toArray, List.set_cons_zero, List.set_cons_succ]; have hB0 : Below W.heap.size W w0 := hb5.trans ((hW6.trans (hW.mono hW6.size)).mono hb5.size); have hRI7 := hRI.next hB0; have cg0 : w0.cell? ⟨w.heap.size + 2, k, none⟩ = some (.int .i64 (b : Int)) := cell_keeps hW cg; have fg0 : w0.frozen? ⟨w.heap.size + 2, k, none⟩ = false := block_free hRI7.g; have hbi7 := block_below hbiW hB0; have hbn7 := block_below hbnW hB0; have hgr : w5.grownBy w0 none := ⟨(hW6.trans (hW.mono hW6.size)).os, (hW6.trans (hW.mono hW6.size)).tape, (hW6.trans (hW.mono hW6.size)).output, (hW6.trans (hW.mono hW6.size)).size, fun j hj _ => (hW6.trans (hW.mono hW6.size)).block j hj⟩; refine wpOpIn_skip (w' := w0.setCell ⟨w.heap.size + 2, k, none⟩ (.int .i64 (gv : Int))) rfl rfl rfl (fun _ => trivial) (by go_simp) ?_; have hWlow : w.heap.size ≤ W.heap.size := hRI.low.size; have hWbig := hRI.big; show KeepsFrom _ _ _ ∧ KB _ _ _ _ ∧ RJ _ _ _ _ _ _ _ _ _ _ _ _ _; refine ⟨(hK5.trans (KeepsFrom.of_grownBy hgr (fun j e => by cases e))).trans ((KeepsOthers.setCell _ _ _).from _), ⟨(hB0.mono hWlow).setCell (p := ⟨w.heap.size + 2, k, none⟩) (by simp) _, (Below.heap_setCell _ _ _ _ (by show Bs ≠ w.heap.size + 2; omega)).trans (hB0.block _ (by omega))⟩, ?_, ?_, ?_, block_setCell hbi7 (by show Z ≠ w.heap.size + 2; omega) _, block_setCell hbn7 (by show Z + 1 ≠ w.heap.size + 2; omega) _, ?_⟩
               · rw [List.length_append, List.length_cons, List.length_nil, Nat.zero_add, upto'_succ, ← HP1.out, ← HY.out]
               · rw [List.length_append, List.length_cons, List.length_nil]; omega
               · have h8 := hRI7.setg k gv
                 rw [List.set_set] at h8; rw [List.length_append, List.length_cons, List.length_nil, Nat.zero_add]; have e9 : bA begs x.nd.kids k (pre.length + 1) = gv := by
                  show begs.getD (x.nd.kids.getD (x.nd.kids.length - 1 - pre.length) 5000) 0 = _; rw [← HY.out, hkd]; exact HGV.out
                 rw [e9]; exact h8
               · have := hB0.size
                 simp [World.setCell]
                 omega
         · have h19I : (xv.nd.kind == 19) = false := by simpa using hk9
           clear hk9; refine with_frameIn fun a0 ha0 => ?_
           have e11 : a0.eval (.tmp 11) = .pointer (some ⟨WZ, 0, none⟩) := by rw [ha0]; rfl
           have e5 : a0.eval (.tmp 5) = .pointer (some ⟨Z + 1, 0, none⟩) := by rw [ha0]; rfl
           have e9 : a0.eval (.tmp 9) = .int .i64 (y : Int) := by rw [ha0]; rfl
           have hsz0 : a0.tmps.size = 124 := by rw [ha0]; rfl
           have HA := Lib.hid ha0; clear ha0; have hD : ∀ d, (List.range' 80 19).contains d = true → d < a0.tmps.size := by
            intro d h; rw [hsz0]; have hm : d ∈ List.range' 80 19 := by simpa using h
            rw [List.mem_range'_1] at hm; omega
           refine wpIn_region_tab (by kernel_rfl) 19 80 (fun jj => ([.pointer (some ⟨WZ, 0, none⟩), .int .i64 xv.nd.kind, .bool false, .bool false, undef, undef, undef, undef, undef, undef, undef, undef, undef, undef, undef, undef, undef, undef, undef] : List Value).getD jj undef) (fun w' => Below w5.heap.size w5 w') rfl (by kernel_rfl) (by kernel_rfl) (by (repeat' first | (with_reducible first | exact Below.refl _ _ | assumption | refine below_drewN ?_ _ | refine Below.drew ?_ | refine Below.alloc ?_ ?_ _ | refine Below.setCell ?_ ?_ _) | omega | (simp; done) | (simp; omega))) ?_ ?_
           · intro i0 hi0 v w0 hW hv
             have cx := cell_keeps hW cx; have inn : ∀ d, (List.range' 80 19).contains d = true → (frameOf a0 (List.range' 80 19) v).tmps[d]?.getD undef = v d := fun d h => frameOf_in' h (hD d h)
             rcases (by omega : i0 = 0 ∨ i0 = 1 ∨ i0 = 2 ∨ i0 = 3 ∨ i0 = 4 ∨ i0 = 5 ∨ i0 = 6 ∨ i0 = 7 ∨ i0 = 8 ∨ i0 = 9 ∨ i0 = 10 ∨ i0 = 11 ∨ i0 = 12 ∨ i0 = 13 ∨ i0 = 14 ∨ i0 = 15 ∨ i0 = 16 ∨ i0 = 17 ∨ i0 = 18) with rfl | rfl | rfl | rfl | rfl | rfl | rfl | rfl | rfl | rfl | rfl | rfl | rfl | rfl | rfl | rfl | rfl | rfl | rfl
             ·
              have E11 : (frameOf a0 (List.range' 80 19) v).tmps[11]?.getD undef = .pointer (some ⟨WZ, 0, none⟩) := (frameOf_out' rfl).trans e11; refine wpOpIn_value (v := .pointer (some ⟨WZ, 0, none⟩)) (w' := w0) rfl rfl (fun _ => trivial) (by go_simp) ?_; exact ⟨frameOf_put rfl, hW⟩
             ·
              have x80 : v 80 = .pointer (some ⟨WZ, 0, none⟩) := hv 0 (by kernel_rfl); have E80 := (inn 80 rfl).trans x80; refine wpOpIn_value (v := .int .i64 xv.nd.kind) (w' := w0) rfl rfl (fun _ => trivial) (by go_simp) ?_; exact ⟨frameOf_put rfl, hW⟩
             ·
              have x81 : v 81 = .int .i64 xv.nd.kind := hv 1 (by kernel_rfl); have E81 := (inn 81 rfl).trans x81; refine wpOpIn_value (v := .bool false) (w' := w0) rfl rfl (fun _ => trivial) (by go_simp) ?_; exact ⟨frameOf_put rfl, hW⟩
             ·
              have x82 : v 82 = .bool false := hv 2 (by kernel_rfl); have E82 := (inn 82 rfl).trans x82; refine wpOpIn_value (v := .bool false) (w' := w0) rfl rfl (fun _ => trivial) (by go_simp) ?_; exact ⟨frameOf_put rfl, hW⟩
             ·
              have x83 : v 83 = .bool false := hv 3 (by kernel_rfl); have E83 := (inn 83 rfl).trans x83; refine wpOpIn_out rfl rfl (yielded_at rfl rfl (by simp [frameOf, hsz0]) E83) (fun _ => trivial) (by decide) ?_; exact ⟨frameOf_put rfl, hW⟩
             ·
              have x83 : v 83 = .bool false := hv 3 (by kernel_rfl); have E83 := (inn 83 rfl).trans x83; refine wpOpIn_out rfl rfl (yielded_at rfl rfl (by simp [frameOf, hsz0]) E83) (fun _ => trivial) (by decide) ?_; exact ⟨frameOf_put rfl, hW⟩
             ·
              have x83 : v 83 = .bool false := hv 3 (by kernel_rfl); have E83 := (inn 83 rfl).trans x83; refine wpOpIn_out rfl rfl (yielded_at rfl rfl (by simp [frameOf, hsz0]) E83) (fun _ => trivial) (by decide) ?_; exact ⟨frameOf_put rfl, hW⟩
             ·
              have x83 : v 83 = .bool false := hv 3 (by kernel_rfl); have E83 := (inn 83 rfl).trans x83; refine wpOpIn_out rfl rfl (yielded_at rfl rfl (by simp [frameOf, hsz0]) E83) (fun _ => trivial) (by decide) ?_; exact ⟨frameOf_put rfl, hW⟩
             ·
              have x83 : v 83 = .bool false := hv 3 (by kernel_rfl); have E83 := (inn 83 rfl).trans x83; refine wpOpIn_out rfl rfl (yielded_at rfl rfl (by simp [frameOf, hsz0]) E83) (fun _ => trivial) (by decide) ?_; exact ⟨frameOf_put rfl, hW⟩
             ·
              have x83 : v 83 = .bool false := hv 3 (by kernel_rfl); have E83 := (inn 83 rfl).trans x83; refine wpOpIn_out rfl rfl (yielded_at rfl rfl (by simp [frameOf, hsz0]) E83) (fun _ => trivial) (by decide) ?_; exact ⟨frameOf_put rfl, hW⟩
             ·
              have x89 : v 89 = undef := hv 9 (by kernel_rfl); have E89 := (inn 89 rfl).trans x89; refine wpOpIn_outU rfl rfl rfl rfl E89 (fun _ => trivial) ?_; exact ⟨frameOf_put rfl, hW⟩
             ·
              have x89 : v 89 = undef := hv 9 (by kernel_rfl); have E89 := (inn 89 rfl).trans x89; refine wpOpIn_outU rfl rfl rfl rfl E89 (fun _ => trivial) ?_; exact ⟨frameOf_put rfl, hW⟩
             ·
              have x89 : v 89 = undef := hv 9 (by kernel_rfl); have E89 := (inn 89 rfl).trans x89; refine wpOpIn_outU rfl rfl rfl rfl E89 (fun _ => trivial) ?_; exact ⟨frameOf_put rfl, hW⟩
             ·
              have x89 : v 89 = undef := hv 9 (by kernel_rfl); have E89 := (inn 89 rfl).trans x89; refine wpOpIn_outU rfl rfl rfl rfl E89 (fun _ => trivial) ?_; exact ⟨frameOf_put rfl, hW⟩
             ·
              have x89 : v 89 = undef := hv 9 (by kernel_rfl); have E89 := (inn 89 rfl).trans x89; refine wpOpIn_outU rfl rfl rfl rfl E89 (fun _ => trivial) ?_; exact ⟨frameOf_put rfl, hW⟩
             ·
              have x89 : v 89 = undef := hv 9 (by kernel_rfl); have E89 := (inn 89 rfl).trans x89; refine wpOpIn_outU rfl rfl rfl rfl E89 (fun _ => trivial) ?_; exact ⟨frameOf_put rfl, hW⟩
             ·
              have x89 : v 89 = undef := hv 9 (by kernel_rfl); have E89 := (inn 89 rfl).trans x89; refine wpOpIn_outU rfl rfl rfl rfl E89 (fun _ => trivial) ?_; exact ⟨frameOf_put rfl, hW⟩
             ·
              have x89 : v 89 = undef := hv 9 (by kernel_rfl); have E89 := (inn 89 rfl).trans x89; refine wpOpIn_outU rfl rfl rfl rfl E89 (fun _ => trivial) ?_; exact ⟨frameOf_put rfl, hW⟩
             ·
              have x83 : v 83 = .bool false := hv 3 (by kernel_rfl); have E83 := (inn 83 rfl).trans x83; refine wpOpIn_out rfl rfl (yielded_at rfl rfl (by simp [frameOf, hsz0]) E83) (fun _ => trivial) (by decide) ?_; exact ⟨frameOf_put rfl, hW⟩
           · intro w0 hW
             have h0 := HA.out; subst h0; have hrg : List.range' 80 19 = [80, 81, 82, 83, 84, 85, 86, 87, 88, 89, 90, 91, 92, 93, 94, 95, 96, 97, 98] := rfl; rw [hrg]; clear hrg; simp only [frameOf_cons, frameOf_nil, Act.put, List.setIfInBounds_toArray, List.set_cons_zero, List.set_cons_succ]; refine wpOpIn_value (v := .bool false) (w' := w0) rfl rfl (fun _ => trivial) (by go_simp) ?_
             gi_wp2_with fail
             revert w0
             intro w6 hW6; have hRI6 := hRI5.next hW6; have cb : w6.cell? ⟨w.heap.size + 3, 0, none⟩ = some (.slice (some ⟨w.heap.size + 2, 0, none⟩) n n) := block_cell hRI6.b rfl; have ci : w6.cell? ⟨Z, 0, none⟩ = some (.int .i64 (k : Int)) := block_cell (block_below hbi5 hW6) rfl; have cg : w6.cell? ⟨w.heap.size + 2, k, none⟩ = some (.int .i64 (b : Int)) := block_cell hRI6.g (by rw [List.getElem?_toArray, List.getElem?_map, HSET.out]; rfl); obtain ⟨gv, hgv⟩ : ∃ gv, begs.getD kd 0 = gv := ⟨_, rfl⟩; have cgk : w6.cell? ⟨w.heap.size + 2, kd, none⟩ = some (.int .i64 (gv : Int)) := block_cell hRI6.g (by rw [List.getElem?_toArray, List.getElem?_map, HGET.out, hgv]; rfl); have HGV := Lib.hid hgv; clear hgv; clear e11 e5 e9 hsz0 hD; refine with_frameIn fun a0 ha0 => ?_
             have e3 : a0.eval (.tmp 3) = .pointer (some ⟨w.heap.size + 3, 0, none⟩) := by rw [ha0]; rfl
             have e4 : a0.eval (.tmp 4) = .pointer (some ⟨Z, 0, none⟩) := by rw [ha0]; rfl
             have e10 : a0.eval (.tmp 10) = .int .i64 (kd : Int) := by rw [ha0]; rfl
             have hsz0 : a0.tmps.size = 124 := by rw [ha0]; rfl
             have HA := Lib.hid ha0; clear ha0; have hD : ∀ d, (List.range' 100 7).contains d = true → d < a0.tmps.size := by
              intro d h; rw [hsz0]; have hm : d ∈ List.range' 100 7 := by simpa using h
              rw [List.mem_range'_1] at hm; omega
             refine wpIn_region_tab (by kernel_rfl) 7 100 (fun jj => ([.slice (some ⟨w.heap.size + 2, 0, none⟩) n n, .int .i64 (k : Int), .slice (some ⟨w.heap.size + 2, 0, none⟩) n n, .int .i64 (kd : Int), .pointer (some ⟨w.heap.size + 2, kd, none⟩), .int .i64 (gv : Int), .pointer (some ⟨w.heap.size + 2, k, none⟩)] : List Value).getD jj undef) (fun w' => Below w6.heap.size w6 w') rfl (by kernel_rfl) (by kernel_rfl) (by (repeat' first | (with_reducible first | exact Below.refl _ _ | assumption | refine below_drewN ?_ _ | refine Below.drew ?_ | refine Below.alloc ?_ ?_ _ | refine Below.setCell ?_ ?_ _) | omega | (simp; done) | (simp; omega))) ?_ ?_
             · intro i0 hi0 v w0 hW hv
               have cb := cell_keeps hW cb; have ci := cell_keeps hW ci; have cg := cell_keeps hW cg; have cgk := cell_keeps hW cgk; have inn : ∀ d, (List.range' 100 7).contains d = true → (frameOf a0 (List.range' 100 7) v).tmps[d]?.getD undef = v d := fun d h => frameOf_in' h (hD d h)
               rcases (by omega : i0 = 0 ∨ i0 = 1 ∨ i0 = 2 ∨ i0 = 3 ∨ i0 = 4 ∨ i0 = 5 ∨ i0 = 6) with rfl | rfl | rfl | rfl | rfl | rfl | rfl
               ·
                have E3 : (frameOf a0 (List.range' 100 7) v).tmps[3]?.getD undef = .pointer (some ⟨w.heap.size + 3, 0, none⟩) := (frameOf_out' rfl).trans e3; refine wpOpIn_value (v := .slice (some ⟨w.heap.size + 2, 0, none⟩) n n) (w' := w0) rfl rfl (fun _ => trivial) (by go_simp) ?_; exact ⟨frameOf_put rfl, hW⟩
               ·
                have E4 : (frameOf a0 (List.range' 100 7) v).tmps[4]?.getD undef = .pointer (some ⟨Z, 0, none⟩) := (frameOf_out' rfl).trans e4; refine wpOpIn_value (v := .int .i64 (k : Int)) (w' := w0) rfl rfl (fun _ => trivial) (by go_simp) ?_; exact ⟨frameOf_put rfl, hW⟩
               ·
                have E3 : (frameOf a0 (List.range' 100 7) v).tmps[3]?.getD undef = .pointer (some ⟨w.heap.size + 3, 0, none⟩) := (frameOf_out' rfl).trans e3; refine wpOpIn_value (v := .slice (some ⟨w.heap.size + 2, 0, none⟩) n n) (w' := w0) rfl rfl (fun _ => trivial) (by go_simp) ?_; exact ⟨frameOf_put rfl, hW⟩
               ·
                have E10 : (frameOf a0 (List.range' 100 7) v).tmps[10]?.getD undef = .int .i64 (kd : Int) := (frameOf_out' rfl).trans e10; refine wpOpIn_value (v := .int .i64 (kd : Int)) (w' := w0) rfl rfl (fun _ => trivial) (by go_simp) ?_; exact ⟨frameOf_put rfl, hW⟩
               ·
                have x102 : v 102 = .slice (some ⟨w.heap.size + 2, 0, none⟩) n n := hv 2 (by kernel_rfl); have E102 := (inn 102 rfl).trans x102; have x103 : v 103 = .int .i64 (kd : Int) := hv 3 (by kernel_rfl); have E103 := (inn 103 rfl).trans x103; refine wpOpIn_value (v := .pointer (some ⟨w.heap.size + 2, kd, none⟩)) (w' := w0) rfl rfl (fun _ => trivial) (by go_simp) ?_; exact ⟨frameOf_put rfl, hW⟩
               ·
                have x104 : v 104 = .pointer (some ⟨w.heap.size + 2, kd, none⟩) := hv 4 (by kernel_rfl); have E104 := (inn 104 rfl).trans x104; refine wpOpIn_value (v := .int .i64 (gv : Int)) (w' := w0) rfl rfl (fun _ => trivial) (by go_simp) ?_; exact ⟨frameOf_put rfl, hW⟩
               ·
                have x100 : v 100 = .slice (some ⟨w.heap.size + 2, 0, none⟩) n n := hv 0 (by kernel_rfl); have E100 := (inn 100 rfl).trans x100; have x101 : v 101 = .int .i64 (k : Int) := hv 1 (by kernel_rfl); have E101 := (inn 101 rfl).trans x101; refine wpOpIn_value (v := .pointer (some ⟨w.heap.size + 2, k, none⟩)) (w' := w0) rfl rfl (fun _ => trivial) (by go_simp) ?_; exact ⟨frameOf_put rfl, hW⟩
             · intro w0 hW
               have h0 := HA.out; subst h0; have hrg : List.range' 100 7 = [100, 101, 102, 103, 104, 105, 106] := rfl; rw [hrg]; clear hrg; simp only [frameOf_cons, frameOf_nil, Act.put, List.setIfInBounds_toArray, List.set_cons_zero, List.set_cons_succ]; have hB0 : Below W.heap.size W w0 := hb5.trans ((hW6.trans (hW.mono hW6.size)).mono hb5.size); have hRI7 := hRI.next hB0; have cg0 : w0.cell? ⟨w.heap.size + 2, k, none⟩ = some (.int .i64 (b : Int)) := cell_keeps hW cg; have fg0 : w0.frozen? ⟨w.heap.size + 2, k, none⟩ = false := block_free hRI7.g; have hbi7 := block_below hbiW hB0; have hbn7 := block_below hbnW hB0; have hgr : w5.grownBy w0 none := ⟨(hW6.trans (hW.mono hW6.size)).os, (hW6.trans (hW.mono hW6.size)).tape, (hW6.trans (hW.mono hW6.size)).output, (hW6.trans (hW.mono hW6.size)).size, fun j hj _ => (hW6.trans (hW.mono hW6.size)).block j hj⟩; refine wpOpIn_skip (w' := w0.setCell ⟨w.heap.size + 2, k, none⟩ (.int .i64 (gv : Int))) rfl rfl rfl (fun _ => trivial) (by go_simp) ?_; have hWlow : w.heap.size ≤ W.heap.size := hRI.low.size; have hWbig := hRI.big; show KeepsFrom _ _ _ ∧ KB _ _ _ _ ∧ RJ _ _ _ _ _ _ _ _ _ _ _ _ _; refine ⟨(hK5.trans (KeepsFrom.of_grownBy hgr (fun j e => by cases e))).trans ((KeepsOthers.setCell _ _ _).from _), ⟨(hB0.mono hWlow).setCell (p := ⟨w.heap.size + 2, k, none⟩) (by simp) _, (Below.heap_setCell _ _ _ _ (by show Bs ≠ w.heap.size + 2; omega)).trans (hB0.block _ (by omega))⟩, ?_, ?_, ?_, block_setCell hbi7 (by show Z ≠ w.heap.size + 2; omega) _, block_setCell hbn7 (by show Z + 1 ≠ w.heap.size + 2; omega) _, ?_⟩
               · rw [List.length_append, List.length_cons, List.length_nil, Nat.zero_add, upto'_succ, ← HP1.out, ← HY.out]
               · rw [List.length_append, List.length_cons, List.length_nil]; omega
               · have h8 := hRI7.setg k gv
                 rw [List.set_set] at h8; rw [List.length_append, List.length_cons, List.length_nil, Nat.zero_add]; have e9 : bA begs x.nd.kids k (pre.length + 1) = gv := by
                  show begs.getD (x.nd.kids.getD (x.nd.kids.length - 1 - pre.length) 5000) 0 = _; rw [← HY.out, hkd]; exact HGV.out
                 rw [e9]; exact h8
               · have := hB0.size
                 simp [World.setCell]
                 omega
       · have hne : ((x.nd.kids.getD y 5000 : Nat) : Int) ≠ (b : Int) - 1 := by
          intro e; have e2 : x.nd.kids.getD y 5000 = x.nd.kids.getD (x.nd.kids.length - 1 - pre.length) 5000 := by omega
          rw [List.getD_eq_getElem?_getD, List.getD_eq_getElem?_getD, List.getElem?_eq_getElem hmid] at e2; by_cases hyl : y < x.nd.kids.length
          · rw [List.getElem?_eq_getElem hyl] at e2
            exact hy ((List.getElem_inj hnd).1 e2)
          · rw [List.getElem?_eq_none (by omega)] at e2
            have := hkn _ (List.getElem_mem hmid); have e3 : (5000 : Nat) = x.nd.kids[x.nd.kids.length - 1 - pre.length] := e2; omega
         generalize hkd : x.nd.kids.getD y 5000 = kd at *; have hkdI : ((kd : Int) != (b : Int) - 1) = true := by simpa using hne
         have cr : W.cell? ⟨w.heap.size + 1, 0, none⟩ = some (.bool false) := block_cell hRI.r rfl; have fr : W.frozen? ⟨w.heap.size + 1, 0, none⟩ = false := block_free hRI.r
         gi_wp2_with fail
         refine ⟨(KeepsOthers.setCell _ _ _).from _, fun ⟨j, hj, e⟩ => ?_⟩; have e1 := congrArg List.length e; rw [upto'_length, List.length_append, List.length_cons, List.length_nil] at e1; rw [← e1, Nat.zero_add, upto'_succ] at e; have e3 := (List.append_inj' e rfl).2; simp only [List.cons.injEq, and_true] at e3; exact hy e3
      case stop =>
       rintro D cc pre W _ hpre hx2 _; exact absurd hpre hx2
      case done =>
       rintro D ys W hD rfl hI hK; subst ha0; obtain ⟨_, _, hRI, _, _, hNW⟩ := hI; rw [upto'_length, ← HKA.out.2, bl_next (by rw [HBL.out, HLN.out]) hlt] at hRI
       go_wp2_with fail; refine ⟨?_, ?measure⟩
       (repeat apply Exists.intro)
       refine ⟨?rel, rfl⟩
       case rel =>
        refine ⟨k + 1, D :: rs, by omega, by go_num, rfl, hRI.f, hRI.r, hRI.g, hRI.b, ⟨List.nodup_cons.2 ⟨fun h => ?_, hRI.mks.1⟩, fun r hr => ?_⟩, hRI.low, hRI.big⟩
        · have := hrsB D h
          omega
        · rcases List.mem_cons.1 hr with rfl | hr
          · exact ⟨by have := hI0.2.2.1.big; omega, hK⟩
          · exact hRI.mks.2 r hr
       case measure => simp [intOf]; omega
   · obtain rfl : k = n := by omega
     obtain rfl : k = B := by omega
     have hbe : begs.take k ++ List.replicate (k - k) 0 = begs := by
      rw [Nat.sub_self, List.take_of_length_le (by rw [HBL.out, HLN.out]; exact Nat.le_refl _)]; simp
     rw [hbe] at hI; obtain ⟨m, hm⟩ : ∃ m, k = m + 1 := ⟨k - 1, by omega⟩; subst hm; obtain ⟨x, hx⟩ : ∃ x, ls[m]? = some x := ⟨ls[m]'(by have := HLN.out; omega), List.getElem?_eq_getElem _⟩; have hNR := HN1.out.below hI.low; obtain ⟨a1, c1, a2, c2, _, hvk, k0, k1, k2, k3, k4, k5, k6, _, _⟩ := hNR.seven hx; simp only [Nat.zero_add] at k0; have h19 := HK19.out HLN.out.symm m x hx (by rw [HLN.out]); have h19B : (x.nd.kind != 19) = true := by simpa using h19
     have hb0 : begs[m]? = some 0 := by
      have h := HB0.out HLN.out.symm; rw [HLN.out, Nat.add_sub_cancel, List.getD_eq_getElem?_getD] at h; rw [List.getElem?_eq_getElem (by have := HBL.out; have := HLN.out; omega)] at h ⊢; exact congrArg some h
     have cb : wr.cell? ⟨w.heap.size + 3, 0, none⟩ = some (.slice (some ⟨w.heap.size + 2, 0, none⟩) (m + 1) (m + 1)) := block_cell hI.b rfl; have cf : wr.cell? ⟨w.heap.size, 0, none⟩ = some (.slice (some ⟨fb, 0, none⟩) (m + 1) c) := block_cell hI.f rfl; have cg : wr.cell? ⟨w.heap.size + 2, m, none⟩ = some (.int .i64 0) := block_cell hI.g (by rw [List.getElem?_toArray, List.getElem?_map, hb0]; rfl); have cr : wr.cell? ⟨w.heap.size + 1, 0, none⟩ = some (.bool false) := block_cell hI.r rfl; have fr : wr.frozen? ⟨w.heap.size + 1, 0, none⟩ = false := block_free hI.r; have hmw : IntKind.i64.wrap (((m + 1 : Nat) : Int) - 1) = (m : Int) := by rw [IntWalk.i64_in _ (by omega)]; omega
     have hmI : (m : Int) < ((m + 1 : Nat) : Int) := by omega
     have hm0 : (0 : Int) ≤ (m : Int) := by omega
     clear hx hb0 hvk k1 k2 k3 k4 k5 k6
     go_wp2_with fail; exact right_leave hI (by simp) rfl
end Go.Proofs.YtkoghgnjjfnamaaGreatDoor
