/- ParU: what is used of them. -/
import Derived.Test.YtkoghgnjjfnamaaGreatDoorGh
import Derived.Deep.CutBlock
set_option linter.unusedSimpArgs false
namespace Go.Proofs.YtkoghgnjjfnamaaGreatDoor
set_option maxRecDepth 100000
set_option maxHeartbeats 1000000
open Go.RowKit Go.Shelf
def BdPost (pb g n lo : Nat) (kind : Int) (N : Nat) (w : World) (L : Loc) (res : Except Er (Ar × List Tok)) (e : Ending) (w' : World) : Prop :=
 match res with
 | .ok (ar, us) => e = .returned (.tuple #[]) ∧ (∃ L', AR lo kind N w' L' ar ∧ L'.B 0 = L.B 0 ∧ L'.m = L.m) ∧ PS w' pb g n us ∧ But pb lo w w'
 | .error (p, er) => e = .panicked (stopV p er) ∧ But pb lo w w'
section
variable {w w' : World} {pb g n : Nat} {t : Tok} {us ts : List Tok}
theorem pathL_stop {k : Nat} {path : List ByteArray} (h : isP ⟨#[46]⟩ ts = false) : pathL k path ts = .ok (path, ts) := by
 cases k with
 | zero => rfl
 | succ k => unfold pathL; rw [h]; rfl
def pathN (k : Nat) (path : List ByteArray) (r : Res ByteArray) : Res (List ByteArray) := match r with | .ok (n, us) => pathL k (path ++ [n]) us | .error e => .error e
theorem pathL_go {k : Nat} {path : List ByteArray} (h : isP ⟨#[46]⟩ (t :: us) = true) (hk : (t :: us).length ≤ k) : pathL k path (t :: us) = pathN (k - 1) path (attrP us) := by
 cases k with
 | zero => simp at hk
 | succ k =>
   conv => lhs; unfold pathL
   rw [h]; rfl
def bindQ (F : List Tok → Res T) (ar : Ar) (place : Nat) (r : Res (List ByteArray)) : Except Er (Ar × List Tok) :=
 match r with
 | .error e => .error e
 | .ok (path, us) => match needP ⟨#[61]⟩ us with
   | .error e => .error e
   | .ok us => match walkP ar (place, 10) 0 path.dropLast with
     | .error e => .error e
     | .ok (at', rest) => if rest.isEmpty && hasP ar at' (path.getLast?.getD ⟨#[]⟩) then .error (place, 10) else match F us with
       | .error e => .error e
       | .ok (v, us) => match needP ⟨#[59]⟩ us with
         | .error e => .error e
         | .ok us => .ok ((makeP place ar at' rest).1.addAt (makeP place ar at' rest).2 (path.getLast?.getD ⟨#[]⟩) (.leaf v), us)
theorem AR.push' {L : Loc} {lo N : Nat} {kind : Int} {w : World} {ar : Ar} (h : AR lo kind N w L ar) (place : Nat) (hlo : lo ≤ w.heap.size) :
 ∃ w2 L2, (Instr.mapUpdate 126 (.map (some L.m)) (.pointer (some ⟨w.heap.size, 0, none⟩)) (.bool true)).run Tryz.prog (w.alloc (.cells #[.int .i64 6, .string ⟨#[]⟩, .int .i64 0, .float .f64 0, .slice none 0 0, .slice none 0 0, .int .i64 (place : Int), .slice none 0 0] 85)) = .ok () w2 ∧
   AR lo kind N w2 L2 (ar ++ [⟨[], [], place⟩]) ∧ w2.heap.size = w.heap.size + 1 ∧ L2.m = L.m ∧ (∀ j, j < ar.length → L2.B j = L.B j) ∧ L2.B ar.length = w.heap.size ∧ (∀ k, k < w.heap.size → L2.own k = L.own k) ∧ (∀ k, k < w.heap.size → L.own k = none → w2.heap[k]? = w.heap[k]?) ∧ Below lo w w2 := by
 obtain ⟨w2, h1, h2, h3, h4⟩ := h.push place hlo; have hml := (h.lt L.m (by rw [h.mown]; simp)).1; refine ⟨w2, _, h1, h2, h3, rfl, fun j hj => if_neg (by omega), if_pos rfl, fun k hk => if_neg (by omega), fun k hk hn => ?_, ?_⟩
 · exact (h4.block k (by simp; omega) (by
    intro e; cases e; rw [h.mown] at hn; cases hn)).trans (Below.heap_alloc _ _ _ hk)
 · exact Below.grown ((Below.refl lo w).alloc hlo _) h4 (by simp; omega) (fun k hk => by cases hk; exact hml)
theorem addAt_app {ar : Ar} {x : SO} {a : Nat} {s : ByteArray} {k : Kid} (h : a < ar.length) : Ar.addAt (ar ++ [x]) a s k = Ar.addAt ar a s k ++ [x] := by
 unfold Ar.addAt; apply List.ext_getElem?
 intro i; rw [List.getElem?_modify]; by_cases hi : i < ar.length
 · rw [List.getElem?_append_left hi, List.getElem?_append_left (by simpa using hi), List.getElem?_modify]
 · rw [List.getElem?_append_right (by omega), List.getElem?_append_right (by simp; omega), List.length_modify]
   have hne : ¬ a = i := by omega
   simp [hne]
theorem makeP_go {place a : Nat} {ar : Ar} {s : ByteArray} {rest : List ByteArray} (h : a < ar.length) : makeP place ar a (s :: rest) = makeP place (Ar.addAt (ar ++ [⟨[], [], place⟩]) a s (.made ar.length)) ar.length rest := by
 rw [addAt_app h]; rfl
def bindZ (ar : Ar) (place a : Nat) (rest : List ByteArray) (last : ByteArray) (v : T) (r : Except Er (List Tok)) : Except Er (Ar × List Tok) := match r with
 | .error e => .error e
 | .ok us => .ok ((makeP place ar a rest).1.addAt (makeP place ar a rest).2 last (.leaf v), us)
def bindY (ar : Ar) (place a : Nat) (rest : List ByteArray) (last : ByteArray) (r : Res T) : Except Er (Ar × List Tok) := match r with
 | .error e => .error e
 | .ok (v, us) => bindZ ar place a rest last v (needP ⟨#[59]⟩ us)
theorem bindQ_ok {F : List Tok → Res T} {ar : Ar} {place a : Nat} {path rest : List ByteArray} {last : ByteArray} {us us2 : List Tok} (hn : needP ⟨#[61]⟩ us = .ok us2) (hw : walkP ar (place, 10) 0 path.dropLast = .ok (a, rest)) (hl : path.getLast?.getD ⟨#[]⟩ = last) :
 bindQ F ar place (.ok (path, us)) = if rest.isEmpty && hasP ar a last then .error (place, 10) else bindY ar place a rest last (F us2) := by
 unfold bindQ; simp only [hn, hw, hl]; cases rest.isEmpty && hasP ar a last with
 | true => rfl
 | false =>
   cases F us2 with
   | error e => rfl
   | ok r =>
     obtain ⟨v, us⟩ := r; unfold bindY bindZ; cases needP ⟨#[59]⟩ us <;> rfl
def bindH (F : List Tok → Res T) (ar : Ar) (place : Nat) (r : Res ByteArray) : Except Er (Ar × List Tok) := match r with
 | .error e => .error e
 | .ok (n0, us) => bindQ F ar place (pathL us.length [n0] us)
theorem bindP_is (F : List Tok → Res T) (ar : Ar) (t : Tok) (us : List Tok) : bindP F ar (t :: us) = bindH F ar t.place (attrP (t :: us)) := by
 unfold bindP bindH bindQ; cases attrP (t :: us) with
 | error e => rfl
 | ok r => rfl
theorem row_open {w : World} {lo n c : Nat} {e : TypeId} {a : Option Addr} {xs : List Value} (h : w.ownsRow lo e 1 (.slice a n c) n xs) (h0 : 0 < n) :
 ∃ g, a = some ⟨g, 0, none⟩ ∧ lo ≤ g ∧ n ≤ c ∧ c ≤ maxLen ∧ g < w.heap.size ∧ ∀ (j : Nat) x, xs[j]? = some x → w.cell? ⟨g, j, none⟩ = some x := by
 obtain ⟨hl, h2 | ⟨g, cap, cur, hv, hg, hh, hle, hm, hsz, htk⟩⟩ := h
 · omega
 · simp only [Value.slice.injEq] at hv
   obtain ⟨rfl, _, rfl⟩ := hv; refine ⟨g, rfl, hg, hle, hm, block_lt hh, fun j x hx => block_cell hh ?_⟩; rw [← htk, List.getElem?_take] at hx; split at hx
   · simpa using hx
   · cases hx
theorem idxP_from (x : ByteArray) : ∀ (ns : List ByteArray) (i0 : Nat), Lib.idxFromS ns x i0 = match idxP ns x with | some i => ((i0 + i : Nat) : Int) | none => -1
 | [], i0 => rfl
 | n :: ns, i0 => by
   have ih := idxP_from x ns (i0 + 1); unfold idxP at ih ⊢; by_cases h : n = x
   · subst h
     simp [Lib.idxFromS, List.findIdx?_cons]
   · have h2 : (n.toList == x.toList) = false := eqs_false.2 h
     rw [Lib.idxFromS, if_neg h, ih, List.findIdx?_cons, h2]; cases List.findIdx? (fun y => y.toList == x.toList) ns with
     | none => rfl
     | some i =>
       show ((i0 + 1 + i : Nat) : Int) = ((i0 + (i + 1) : Nat) : Int); congr 1
       omega
theorem idxP_none {ns : List ByteArray} {x : ByteArray} (h : idxP ns x = none) : Lib.idxOfS ns x = -1 := by
 unfold Lib.idxOfS; rw [idxP_from, h]
theorem idxP_some {ns : List ByteArray} {x : ByteArray} {i : Nat} (h : idxP ns x = some i) : Lib.idxOfS ns x = (i : Int) ∧ i < ns.length := by
 refine ⟨?_, ?_⟩
 · unfold Lib.idxOfS
   rw [idxP_from, h]; simp
 · unfold idxP at h
   exact (List.findIdx?_eq_some_iff_getElem.1 h).1
theorem walkP_none {ar : Ar} {err : Er} {a : Nat} {o : SO} {s : ByteArray} {rest : List ByteArray} (ho : ar[a]? = some o) (h : idxP o.names s = none) : walkP ar err a (s :: rest) = .ok (a, s :: rest) := by
 unfold walkP; rw [ho]; simp only; rw [h]
theorem walkP_made {ar : Ar} {err : Er} {a i j : Nat} {o : SO} {s : ByteArray} {rest : List ByteArray} (ho : ar[a]? = some o) (h : idxP o.names s = some i) (hk : o.kids[i]? = some (.made j)) : walkP ar err a (s :: rest) = walkP ar err j rest := by
 conv => lhs; unfold walkP
 rw [ho]; simp only; rw [h]; simp only; rw [hk]
theorem walkP_leaf {ar : Ar} {err : Er} {a i : Nat} {o : SO} {s : ByteArray} {rest : List ByteArray} {t : T} (ho : ar[a]? = some o) (h : idxP o.names s = some i) (hk : o.kids[i]? = some (.leaf t)) : walkP ar err a (s :: rest) = .error err := by
 unfold walkP; rw [ho]; simp only; rw [h]; simp only; rw [hk]
section
variable {lo n : Nat} {v : Value} {names : List ByteArray}
theorem str_cells {a : Option Addr} {c : Nat} (h : w.ownsRow lo 9 1 (.slice a n c) n (names.map Value.string)) (h0 : 0 < n) :
 ∃ g, a = some ⟨g, 0, none⟩ ∧ n = names.length ∧ ∀ j, j < names.length → w.cell? ⟨g, 0 + j, none⟩ = some (.string (names.getD j ByteArray.empty)) := by
 have hl := h.1; simp at hl; obtain ⟨g, h1, _, _, _, _, h2⟩ := row_open h h0; refine ⟨g, h1, hl.symm, fun j hj => ?_⟩
 have := h2 j (.string (names.getD j ByteArray.empty)) (by simp [List.getD, hj]); simpa using this
theorem index_row (h : w.ownsRow lo 9 1 v n (names.map Value.string)) (hn : n ≤ 10000) (x : ByteArray) (W : World) (hW : ∀ p u, w.cell? p = some u → W.cell? p = some u) :
 Calls Tryz.prog 104 #[v, .string x] W fun e w' => e = .returned (.int .i64 (Lib.idxOfS names x)) ∧ w' = W := by
 obtain ⟨a, c, rfl⟩ := own_shape h; have hl := h.1; simp at hl; cases n with
 | zero =>
   have : names = [] := List.length_eq_zero_iff.1 (by omega); subst this; exact Tryz.slices_Index_string_empty a c x W
 | succ n =>
   obtain ⟨g, rfl, h2, h3⟩ := str_cells h (Nat.succ_pos n)
   have := Tryz.slices_Index_string g 0 (n + 1) c names x W (by omega) (by omega) (fun j hj => hW _ _ (h3 j hj)); rw [List.take_of_length_le (by omega)] at this; exact this
theorem contains_row (h : w.ownsRow lo 9 1 v n (names.map Value.string)) (hn : n ≤ 10000) (x : ByteArray) (W : World) (hW : ∀ p u, w.cell? p = some u → W.cell? p = some u) :
 Calls Tryz.prog 80 #[v, .string x] W fun e w' => e = .returned (.bool (names.any (fun s => s.toList == x.toList))) ∧ w' = W := by
 have hc : Lib.containsS names x = names.any (fun s => s.toList == x.toList) := by
  rw [Bool.eq_iff_iff, Lib.containsS_iff, List.any_eq_true]; constructor
  · intro h; exact ⟨x, h, by simp⟩
  · rintro ⟨s, h1, h2⟩
    rw [← eqs_true.1 h2]; exact h1
 rw [← hc]; obtain ⟨a, c, rfl⟩ := own_shape h; have hl := h.1; simp at hl; cases n with
 | zero =>
   have : names = [] := List.length_eq_zero_iff.1 (by omega); subst this; exact Tryz.slices_Contains_string_empty a c x W
 | succ n =>
   obtain ⟨g, rfl, h2, h3⟩ := str_cells h (Nat.succ_pos n)
   have := Tryz.slices_Contains_string g 0 (n + 1) c names x W (by omega) (by omega) (fun j hj => hW _ _ (h3 j hj)); rw [List.take_of_length_le (by omega)] at this; exact this
end
theorem bind_any {F : List Tok → Res T} {lo N : Nat} {kind : Int} {L : Loc} {ar : Ar} (hE : Reads pb g n 14 #[.pointer (some ⟨pb, 0, none⟩)] F) (h : PS w pb g n (t :: us)) (hA : AR lo kind N w L ar) (hplo : pb < lo) (hlo : lo ≤ w.heap.size) (hN : N + us.length + 1 ≤ 5001) :
 Calls Tryz.prog 82 #[.pointer (some ⟨pb, 0, none⟩), .pointer (some ⟨L.B 0, 0, none⟩), .map (some L.m), .agg #[.int .i64 t.kind, .string t.text, .int .i64 t.num, .float .f64 t.bits, .int .i64 t.place]] w fun e w' =>
  BdPost pb g n lo kind (N + 1) w L (bindP F ar (t :: us)) e w' := by
 rw [bindP_is]; obtain ⟨R, hR⟩ : ∃ R, bindH F ar t.place (attrP (t :: us)) = R := ⟨_, rfl⟩; rw [hR]; obtain ⟨R0, hR0⟩ : ∃ R, attrP (t :: us) = R := ⟨_, rfl⟩; rw [hR0] at hR; have HE := Lib.hid hE; have hb1 : Below w.heap.size w (w.alloc (.cells #[.int .i64 t.kind, .string t.text, .int .i64 t.num, .float .f64 t.bits, .int .i64 t.place] 54)) := (Below.refl _ _).alloc (Nat.le_refl _) _; have ht1 := block_new w (.cells #[.int .i64 t.kind, .string t.text, .int .i64 t.num, .float .f64 t.bits, .int .i64 t.place] 54) rfl; have hp1 := h.below hb1 h.lt; have ha1 := hA.below hb1; have hz1 : w.heap.size < (w.alloc (.cells #[.int .i64 t.kind, .string t.text, .int .i64 t.num, .float .f64 t.bits, .int .i64 t.place] 54)).heap.size := by simp
 have HR := Lib.hid hR; have HA0 := Lib.hid (attr_any hp1); rw [hR0] at HA0; have HATT := Lib.hid hR0; have hpl := h.lt; have hdec : ∀ n0 vs, R0 = .ok (n0, vs) → vs.length ≤ us.length := fun n0 vs e => by
  have := (attrP_ok h.good (hR0.trans e)).1; simp at this; omega
 have HDEC := Lib.hid hdec; have HARW := Lib.hid hA; clear hE h hA hR hR0 hdec; go_enter Tryz.func82, Tryz.ntmps82
 go_wp2_with fail; generalize hw1 : w.alloc (.cells #[.int .i64 t.kind, .string t.text, .int .i64 t.num, .float .f64 t.bits, .int .i64 t.place] 54) = w1 at *; obtain ⟨tb, htb⟩ : ∃ tb, w.heap.size = tb := ⟨_, rfl⟩; cases R0 with
 | error x =>
   have hR : R = .error x := by rw [← HR.out]; rfl
   subst hR; refine HA0.out.mono ?_; rintro e w2 ⟨rfl, hb2⟩; exact ⟨rfl, rfl, ((But.of hb1).mono hlo).andThen hb2 (by omega)⟩
 | ok r0 =>
   obtain ⟨n0, us0⟩ := r0; refine HA0.out.mono ?_; rintro e w2 ⟨rfl, hp2, hb2⟩; have hz2 := hb2.size; have HW1 := Lib.hid hw1; have HT1 := Lib.hid ht1; have HAR := Lib.hid ha1; have HP2 := Lib.hid hp2; have hb3 := hb2.alloc hz2 (.cells #[.string n0] 9); have hp3 := hp2.below ((Below.refl _ _).alloc (Nat.le_refl _) (.cells #[.string n0] 9)) hp2.lt; have ho3 : (w2.alloc (.cells #[.string n0] 9)).ownsRow w1.heap.size 9 1 (.slice (some ⟨w2.heap.size, 0, none⟩) 1 1) 1 [.string n0] := ⟨rfl, Or.inr ⟨w2.heap.size, 1, _, rfl, hz2, block_new _ _ rfl, Nat.le_refl _, by decide, rfl, rfl⟩⟩; have hus0 : us0.length ≤ us.length := HDEC.out n0 us0 rfl; obtain ⟨RP, hRP⟩ : ∃ RP, pathL us0.length [n0] us0 = RP := ⟨_, rfl⟩; have HRB := Lib.hid (show bindQ F ar t.place RP = R by rw [← HR.out, ← hRP]; rfl); have HRP := Lib.hid hRP; clear hw1 ht1 ha1 hp2 HA0 HATT HDEC HR hRP
   go_wp2_with fail; go_loopw [8] (fun v8 wr => ∃ (k : Nat) (path : List ByteArray) (us' : List Tok), wr.ownsRow w1.heap.size 9 1 v8 path.length (path.map Value.string) ∧ 0 < path.length ∧ PS wr pb g n us' ∧ But pb w1.heap.size w1 wr ∧ us'.length ≤ k ∧ path.length + us'.length ≤ us.length + 1 ∧ Hid (pathL k path us' = RP)) (fun _ wr => lenP wr pb)
   case atStart => exact ⟨_, [n0], us0, ho3, by simp, hp3, hb3, Nat.le_refl _, by simp; omega, HRP.out⟩
   case round =>
    clear hb3 hp3 ho3 hb2 hz2 HRP HP2; obtain ⟨k, path, us', ho, hpos, hp, hb, hk, hlen, HRP⟩ := hrel; obtain ⟨oa, oc, hsh⟩ := own_shape ho; subst hsh; have hzr := hb.size; have HANY := Lib.hid (is_any ⟨#[46]⟩ hp); have HP := Lib.hid hp; have HO := Lib.hid ho; have HB := Lib.hid hb; have HK := Lib.hid hk; have HLEN := Lib.hid hlen; have HLP := Lib.hid hp.lenP; have hplr := hp.lt; have hp5 := hp.len; clear hp ho hb hk hlen; cases hany : isP ⟨#[46]⟩ us' with
    | true =>
      rw [hany] at HANY; obtain ⟨t4, us4, rfl, hk4⟩ := isP_cons hany; have HRN := Lib.hid ((pathL_go hany HK.out).symm.trans HRP.out); have HK4 := Lib.hid (isT_kind hk4); clear hany hk4 HRP
      go_wp2_with fail; refine HANY.out.mono ?_; rintro e w3 ⟨rfl, hb3⟩; have hz3 := hb3.size
      go_wp2_with fail; refine (take_any (HP.out.below hb3 HP.out.lt) HK4.out).mono ?_; rintro e w4 ⟨rfl, hp4, hb4⟩; have hz4 := hb4.size; have HA4 := Lib.hid (attr_any hp4); have HD4 := Lib.hid (show ∀ s v, attrP us4 = .ok (s, v) → v.length < us4.length from fun s v e => (attrP_ok hp4.good e).1); obtain ⟨R4, hR4⟩ : ∃ R, attrP us4 = R := ⟨_, rfl⟩; rw [hR4] at HA4 HRN HD4; clear hR4; have HB4 := Lib.hid ((HB.out.then hb3 hzr).andThen hb4 (by omega)); have HO4 := Lib.hid (own_keeps (lo := w1.heap.size) (HO.out) (w' := w4) (((But.of hb3).andThen hb4 hz3).keeps (pb := pb) (Nat.le_refl _) (fun k hk => by omega))); clear hp4 hb4 hb3
      go_wp2_with fail; cases R4 with
      | error x =>
        have hRx : R = .error x := by rw [← HRB.out, ← HRN.out]; rfl
        subst hRx; refine HA4.out.mono ?_; rintro e w5 ⟨rfl, hb5⟩; exact ⟨rfl, rfl, (((But.of hb1).mono hlo).andThen HB4.out (by omega)).andThen hb5 (by omega)⟩
      | ok r4 =>
        obtain ⟨n4, v4⟩ := r4; refine HA4.out.mono ?_; rintro e w5 ⟨rfl, hp5', hb5⟩; have hz5 := hb5.size; have HO5 := Lib.hid (own_keeps HO4.out (w' := w5) (hb5.keeps (Nat.le_refl _) (fun k hk => by omega))); have HB5 := Lib.hid (HB4.out.andThen hb5 (by omega)); have HP5 := Lib.hid hp5'; have hpl5 := hp5'.lt; have hlp : path.length ≤ 10000 := by have := HLEN.out; omega
        have hlo5 := HO5.out.lt; clear hb5 hp5'
        go_wp2_with (
         at_builtin
         refine append_text rfl _ _ rfl w1.heap.size (.slice oa path.length oc) path.length (path.map Value.string) (by rfl) (own_below HO5.out ((Below.refl _ _).alloc (Nat.le_refl _) _)) _ _ n4 (by rfl) (block_new _ _ (by rfl)) (by omega) (by simp; omega) ?_; intro v6 w6 ho6 hg6 hv6)
        have hg6' : ∀ j, (Value.slice oa path.length oc).ownBlock = some j → w1.heap.size ≤ j := fun j hj => (hlo5 j hj).1
        have hp6 := HP5.out.below (Below.grown ((Below.refl (pb + 1) w5).alloc hpl5 (.cells #[.string n4] 9)) hg6 (by simp; omega) (fun j hj => by have := hg6' j hj; omega)) (Nat.lt_succ_self pb); have hb6 : But pb w1.heap.size w1 w6 := (HB5.out.alloc (by omega) (.cells #[.string n4] 9)).grown hg6 (by simp; omega) (fun j hj => Or.inr (hg6' j hj)); have h6 := HD4.out n4 v4 rfl; have h7 := HK.out; have h8 := HLEN.out; have h9 := HLP.out; simp at h7 h8 h9; refine ⟨⟨k - 1, path ++ [n4], v4, by simpa using ho6, by simp, hp6, hb6, by omega, by simp; omega, HRN.out⟩, ?_⟩; rw [hp6.lenP, h9]; omega
    | false =>
      rw [hany] at HANY; have HRQ := Lib.hid (show bindQ F ar t.place (.ok (path, us')) = R by rw [← HRB.out, ← HRP.out, pathL_stop hany]); clear HRP HRB hany; obtain ⟨R2, hR2⟩ : ∃ R, needP ⟨#[61]⟩ us' = R := ⟨_, rfl⟩; have HND := Lib.hid (fun W (hW : PS W pb g n us') => hR2 ▸ need_any ⟨#[61]⟩ hW); have HR2 := Lib.hid hR2; have HD2 := Lib.hid (show ∀ v, R2 = .ok v → v.length < us'.length from fun v e => (needP_ok HP.out.good (hR2.trans e)).1); clear hR2; have hpi1 : (1 : Int) ≤ (path.length : Int) := by omega
      have hpi2 : (path.length : Int) ≤ 5001 := by have := HLEN.out; omega
      go_wp2_with fail; refine HANY.out.mono ?_; rintro e w3 ⟨rfl, hb3⟩; have hz3 := hb3.size
      go_wp2_with fail; cases R2 with
      | error x =>
        obtain ⟨p, er⟩ := x; have hRx : R = .error (p, er) := by
         rw [← HRQ.out]; unfold bindQ; simp only [HR2.out]
        subst hRx; refine (HND.out _ (HP.out.below hb3 HP.out.lt)).mono ?_; rintro e w4 ⟨rfl, hb4⟩; exact ⟨rfl, rfl, ((((But.of hb1).mono hlo).andThen HB.out (by omega)).then hb3 (by omega)).andThen hb4 (by omega)⟩
      | ok us2 =>
        refine (HND.out _ (HP.out.below hb3 HP.out.lt)).mono ?_; rintro e w4 ⟨rfl, hp4, hb4⟩; have hz4 := hb4.size; have HO4 := Lib.hid (own_keeps (lo := w1.heap.size) HO.out (w' := w4) (((But.of hb3).andThen hb4 hz3).keeps (pb := pb) (Nat.le_refl _) (fun k hk => by omega))); have HB4 := Lib.hid ((HB.out.then hb3 hzr).andThen hb4 (by omega)); have HP4 := Lib.hid hp4; have hd2 := HD2.out us2 rfl; have hL := HLEN.out; clear hb3 hb4 hp4 HND HANY; obtain ⟨pg, hoa, hpg, hoc, hocm, hpgl, hcells⟩ := row_open HO4.out hpos; subst hoa; have HCE := Lib.hid hcells; clear hcells; have hq0 : (0 : Int) ≤ (path.length : Int) - 1 := by omega
        have hq1 : (path.length : Int) - 1 ≤ (oc : Int) := by omega
        go_wp2_with fail; refine wp_region_held_drew (S := fun _ => True) (by kernel_rfl) trivial (fun hHeld => ?_); refine wpAnyH_take (i := 0) (v := ?_) rfl (by kernel_rfl) (by kernel_rfl) (by kernel_rfl) (fun _ _ _ h => h) (Or.inl ⟨by rfl, (by intro w hSw; (try dsimp only at hSw); go_simp; (with_reducible rfl))⟩) (by assumption) ?_
        try simp only [Act.put, List.setIfInBounds_toArray, List.set_cons_succ, List.set_cons_zero]
        refine wpAnyH_take (i := 1) (v := ?_) rfl (by kernel_rfl) (by kernel_rfl) (by kernel_rfl) (fun _ _ _ h => h) (Or.inl ⟨by rfl, (by intro w hSw; (try dsimp only at hSw); go_simp; (with_reducible rfl))⟩) (by assumption) ?_
        try simp only [Act.put, List.setIfInBounds_toArray, List.set_cons_succ, List.set_cons_zero]
        refine wpAnyH_take (i := 2) (v := ?_) rfl (by kernel_rfl) (by kernel_rfl) (by kernel_rfl) (fun _ _ _ h => h) (Or.inl ⟨by rfl, (by intro w hSw; (try dsimp only at hSw); go_simp; (with_reducible rfl))⟩) (by assumption) ?_
        try simp only [Act.put, List.setIfInBounds_toArray, List.set_cons_succ, List.set_cons_zero]
        refine wpAnyH_take (i := 3) (v := ?_) rfl (by kernel_rfl) (by kernel_rfl) (by kernel_rfl) (fun _ _ _ h => h) (Or.inl ⟨by rfl, (by intro w hSw; (try dsimp only at hSw); go_simp; (with_reducible rfl))⟩) (by assumption) ?_
        try simp only [Act.put, List.setIfInBounds_toArray, List.set_cons_succ, List.set_cons_zero]
        refine wpAnyH_take (i := 4) (v := ?_) rfl (by kernel_rfl) (by kernel_rfl) (by kernel_rfl) (fun _ _ _ h => h) (Or.inl ⟨by rfl, (by intro w hSw; (try dsimp only at hSw); go_simp; (with_reducible rfl))⟩) (by assumption) ?_
        try simp only [Act.put, List.setIfInBounds_toArray, List.set_cons_succ, List.set_cons_zero]
        refine wpAnyH_take (i := 5) (v := ?_) rfl (by kernel_rfl) (by kernel_rfl) (by kernel_rfl) (fun _ _ _ h => h) (Or.inl ⟨by rfl, (by intro w hSw; (try dsimp only at hSw); go_simp; (with_reducible rfl))⟩) (by assumption) ?_
        try simp only [Act.put, List.setIfInBounds_toArray, List.set_cons_succ, List.set_cons_zero]
        refine wpAnyH_done (by kernel_rfl) ?_ _
        try simp only [List.getElem_toArray, List.getElem_cons_succ, List.getElem_cons_zero, Act.put, List.setIfInBounds_toArray]
        repeat (first | simp only [List.set_cons_succ] | simp only [List.set_cons_zero])
        go_upto_block 2 with fail
        have HA4 := Lib.hid (HAR.out.but (pb := pb) (B := w1.heap.size) HB4.out (Nat.le_refl _) hplo); have hz4' := HB4.out.size; have HQ := Lib.hid (show path.dropLast.length = path.length - 1 by simp); have HPD := Lib.hid (show ∀ r s, path.dropLast[r]? = some s → w4.cell? ⟨pg, r, none⟩ = some (.string s) from fun r s e => HCE.out r _ (by
         rw [List.getElem?_dropLast] at e; split at e
         · rw [List.getElem?_map, e]; rfl
         · cases e))
        obtain ⟨RW, hRW⟩ : ∃ RW, walkP ar (t.place, 10) 0 path.dropLast = RW := ⟨_, rfl⟩; have HRW := Lib.hid hRW; have HRW0 := Lib.hid hRW; have HRW0' := Lib.hid hRW; have HTB := Lib.hid (HB4.out.get (k := tb) (by omega) (by omega) (htb ▸ HT1.out)); clear hRW; obtain ⟨q, hq⟩ : ∃ q, path.length - 1 = q := ⟨_, rfl⟩; have HQ' := Lib.hid hq; have hql : (q : Int) ≤ 5001 := by omega
        have hqc : q + 1 ≤ oc := by omega
        rw [hq]; go_cut [10, 11, 12] from 38 to 66 (fun v10 v11 _ wx => ∃ (a r nq : Nat), v10 = .pointer (some ⟨L.B a, 0, none⟩) ∧ v11 = .slice (some ⟨pg, r, none⟩) (q - r) (oc - r) ∧ r ≤ q ∧ a < ar.length ∧ wx = w4.drewN nq ∧ Hid (RW = .ok (a, path.dropLast.drop r)))
        case first =>
         go_wp2_with fail; go_loopw [10, 11, 12] (fun v10 v11 _ wx => ∃ (a r nq : Nat), v10 = .pointer (some ⟨L.B a, 0, none⟩) ∧ v11 = .slice (some ⟨pg, r, none⟩) (q - r) (oc - r) ∧ r ≤ q ∧ a < ar.length ∧ wx = w4.drewN nq ∧ Hid (walkP ar (t.place, 10) a (path.dropLast.drop r) = RW)) (fun _ v11 _ _ => lenOf v11)
         case atStart => exact ⟨0, 0, 1, rfl, rfl, by omega, HAR.out.pos, rfl, HRW.out⟩
         case round =>
          clear HRW; obtain ⟨a, r, nq, rfl, rfl, hrq, har, rfl, HRW⟩ := hrel; by_cases hrq2 : r = q
          · subst hrq2
            have hz0 : r - r = 0 := Nat.sub_self r; rw [hz0]; have hnil : path.dropLast.drop r = [] := List.drop_eq_nil_of_le (by rw [HQ.out, HQ'.out]; exact Nat.le_refl _); have HRR := Lib.hid (show RW = .ok (a, path.dropLast.drop r) by rw [← HRW.out, hnil]; rfl); clear hnil
            go_wp2_with fail; go_meet; exact ⟨a, r, nq, rfl, by rw [hz0], Nat.le_refl _, har, rfl, HRR.out⟩
          · have hrl : r < q := by omega
            obtain ⟨s, hs⟩ := get_lt path.dropLast (k := r) (by rw [HQ.out, HQ'.out]; exact hrl); have hdr : path.dropLast.drop r = s :: path.dropLast.drop (r + 1) := by
             obtain ⟨h1, h2⟩ := List.getElem?_eq_some_iff.1 hs; rw [List.drop_eq_getElem_cons h1, h2]
            have HDR := Lib.hid hdr; have hcs := HPD.out r s hs; have ho := List.getElem?_eq_getElem har; obtain ⟨o, hoe⟩ : ∃ o, ar[a] = o := ⟨_, rfl⟩; rw [hoe] at ho; have HST := Lib.hid (HA4.out.set a o ho); have hroom := HA4.out.room a o ho; have HO := Lib.hid ho; clear hs hdr ho hoe; have hn4 := block_cell (i := 4) HST.out.node rfl; have hn7 := block_cell (i := 7) HST.out.node rfl; have hlen0 : (0 : Int) < ((q - r : Nat) : Int) := by omega
            have hlen1 : (1 : Int) ≤ ((q - r : Nat) : Int) := by omega
            have hcap1 : ¬ oc - r = 1 := by omega
            have hsub : q - r - 1 = q - (r + 1) := by omega
            have hsub2 : oc - r - 1 = oc - (r + 1) := by omega
            have HIX := Lib.hid (fun W hW => index_row (x := s) (W := W) HST.out.names (by omega) hW); have hle := HLEN.out
            go_wp2_with fail; refine wp_region_held_drew (S := fun w' => w'.cell? ⟨L.B a, 4, none⟩ = some (L.VN a) ∧ w'.cell? ⟨pg, r, none⟩ = some (.string s)) (by kernel_rfl) ⟨hn4, hcs⟩ (fun hHeld => ?_); refine wpAnyH_take (i := 0) (v := ?_) rfl (by kernel_rfl) (by kernel_rfl) (by kernel_rfl) (fun _ _ _ h => h) (Or.inl ⟨by rfl, (by intro w hSw; (try dsimp only at hSw); go_simp; (with_reducible rfl))⟩) (by assumption) ?_
            try simp only [Act.put, List.setIfInBounds_toArray, List.set_cons_succ, List.set_cons_zero]
            refine wpAnyH_take (i := 1) (v := ?_) rfl (by kernel_rfl) (by kernel_rfl) (by kernel_rfl) (fun _ _ _ h => h) (Or.inl ⟨by rfl, (by intro w hSw; (try dsimp only at hSw); go_simp; (with_reducible rfl))⟩) (by assumption) ?_
            try simp only [Act.put, List.setIfInBounds_toArray, List.set_cons_succ, List.set_cons_zero]
            refine wpAnyH_take (i := 2) (v := ?_) rfl (by kernel_rfl) (by kernel_rfl) (by kernel_rfl) (fun _ _ _ h => h) (Or.inl ⟨by rfl, (by intro w hSw; (try dsimp only at hSw); go_simp; (with_reducible rfl))⟩) (by assumption) ?_
            try simp only [Act.put, List.setIfInBounds_toArray, List.set_cons_succ, List.set_cons_zero]
            refine wpAnyH_take (i := 3) (v := ?_) rfl (by kernel_rfl) (by kernel_rfl) (by kernel_rfl) (fun _ _ _ h => h) (Or.inl ⟨by rfl, (by intro w hSw; (try dsimp only at hSw); go_simp; (with_reducible rfl))⟩) (by assumption) ?_
            try simp only [Act.put, List.setIfInBounds_toArray, List.set_cons_succ, List.set_cons_zero]
            refine wpAnyH_take (i := 4) (v := ?_) rfl (by kernel_rfl) (by kernel_rfl) (by kernel_rfl) (fun _ _ _ h => h) (Or.inl ⟨by rfl, (by intro w hSw; (try dsimp only at hSw); go_simp; (with_reducible rfl))⟩) (by assumption) ?_
            try simp only [Act.put, List.setIfInBounds_toArray, List.set_cons_succ, List.set_cons_zero]
            refine wpAnyH_take (i := 5) (v := ?_) rfl (by kernel_rfl) (by kernel_rfl) (by kernel_rfl) (fun _ _ _ h => h) (Or.inl ⟨by rfl, (by intro w hSw; (try dsimp only at hSw); go_simp; (with_reducible rfl))⟩) (by assumption) ?_
            try simp only [Act.put, List.setIfInBounds_toArray, List.set_cons_succ, List.set_cons_zero]
            refine wpAnyH_take (i := 6) (v := ?_) rfl (by kernel_rfl) (by kernel_rfl) (by kernel_rfl) (fun _ _ _ h => h) (Or.inl ⟨by rfl, (by intro w hSw; (try dsimp only at hSw); go_simp; (with_reducible rfl))⟩) (by assumption) ?_
            try simp only [Act.put, List.setIfInBounds_toArray, List.set_cons_succ, List.set_cons_zero]
            refine wpAnyH_take (i := 7) (v := ?_) rfl (by kernel_rfl) (by kernel_rfl) (by kernel_rfl) (fun _ _ _ h => h) (Or.inl ⟨by rfl, (by intro w hSw; (try dsimp only at hSw); go_simp; (with_reducible rfl))⟩) (by assumption) ?_
            try simp only [Act.put, List.setIfInBounds_toArray, List.set_cons_succ, List.set_cons_zero]
            refine wpAnyH_ready (rs := [8]) (by kernel_rfl) (by simp) ?_; refine AllReadyH.cons (o := _) rfl (fun K hK => ?_) AllReadyH.nil; go_simp
            refine (HIX.out (w4.drewN (nq + 1)) (fun p u h => h)).mono ?_; rintro e w5 ⟨rfl, rfl⟩; refine hK.out _ _ (⟨hn4, hcs⟩) (fun hHeld => ?_); clear hK K
            try simp only [Act.put, List.setIfInBounds_toArray, List.set_cons_succ, List.set_cons_zero]
            refine wpAnyH_take (i := 9) (v := ?_) rfl (by kernel_rfl) (by kernel_rfl) (by kernel_rfl) (fun _ _ _ h => h) (Or.inl ⟨by rfl, (by intro w hSw; (try dsimp only at hSw); go_simp; (with_reducible rfl))⟩) (by assumption) ?_
            try simp only [Act.put, List.setIfInBounds_toArray, List.set_cons_succ, List.set_cons_zero]
            refine wpAnyH_done (by kernel_rfl) ?_ _
            try simp only [List.getElem_toArray, List.getElem_cons_succ, List.getElem_cons_zero, Act.put, List.setIfInBounds_toArray]
            repeat (first | simp only [List.set_cons_succ] | simp only [List.set_cons_zero])
            clear hHeld; cases hi : idxP o.names s with
            | none =>
              have hneg := idxP_none hi; have HRR := Lib.hid (show RW = .ok (a, path.dropLast.drop r) by rw [← HRW.out, HDR.out, walkP_none HO.out hi]); rw [hneg]; clear hi hneg
              go_wp2_with fail; go_meet; exact ⟨a, r, nq + 1, rfl, rfl, hrq, har, rfl, HRR.out⟩
            | some i =>
              obtain ⟨hpos', hil⟩ := idxP_some hi; obtain ⟨is, hi1, hi2, hi3⟩ := HST.out.kids; have heqn := HST.out.eqn; obtain ⟨ka, kc, hka⟩ := own_shape hi2; rw [hka] at hi2; obtain ⟨kg, hkg, _, _, _, _, hkcells⟩ := row_open hi2 (by omega); subst hkg; obtain ⟨c, hc⟩ := get_lt is (k := i) (by omega); obtain ⟨kid, hkid⟩ := get_lt o.kids (k := i) (by omega); have hcc := hkcells i (ptr c) (by rw [List.getElem?_map, hc]; rfl); have hn7' : w4.cell? ⟨L.B a, 7, none⟩ = some (.slice (some ⟨kg, 0, none⟩) o.kids.length kc) := by rw [← hka]; exact hn7
              have hka1 := hi3 i c kid hc hkid; have hAW : AR lo kind N (w4.drewN (nq + 1)) L ar := HA4.out.keep (fun k _ _ => rfl) (Nat.le_refl _); rw [hpos']; unfold ptr at hcc; have hii0 : (0 : Int) ≤ (i : Int) := by omega
              have hii1 : (i : Int) < (o.kids.length : Int) := by omega
              have hnn : ¬ (i : Int) < 0 := by omega
              have HI := Lib.hid hi; have HKD := Lib.hid hkid; have HN7 := Lib.hid hn7; clear hi hpos' hi1 hi2 hi3 hka hkcells hc hkid hn7; cases kid with
              | leaf lt =>
                have hcel : Cel (w4.drewN (nq + 1)) c := by
                 cases hka1 with
                 | mk vn vk is' hb' h' => exact ⟨_, _, h'⟩
                obtain ⟨rb, hlk, hrb⟩ := hAW.look hcel; have hrb' : rb = false := by
                 cases rb with
                 | false => rfl
                 | true =>
                   obtain ⟨j, _, hj, hjc⟩ := hrb.1 rfl; have h1 := (TR.at hka1).2; rw [← hjc, (hAW.set j _ (List.getElem?_eq_getElem hj)).blk] at h1; cases h1
                rw [hrb'] at hlk; unfold ptr at hlk; have hRx : RW = .error (t.place, 10) := by rw [← HRW.out, HDR.out, walkP_leaf HO.out HI.out HKD.out]
                have hRy : R = .error (t.place, 10) := by
                 rw [← HRQ.out]; unfold bindQ; simp only [HR2.out]; rw [HRW0.out, hRx]
                clear hrb hrb' hka1 hRx; subst hRy; have k0 := block_cell (i := 0) HTB.out rfl; have k1 := block_cell (i := 1) HTB.out rfl; have k2 := block_cell (i := 2) HTB.out rfl; have k3 := block_cell (i := 3) HTB.out rfl; have k4 := block_cell (i := 4) HTB.out rfl
                go_wp2_with fail; refine (fail_any t 10 _).mono ?_; rintro e w6 ⟨rfl, hb6⟩; exact ⟨rfl, rfl, ((((But.of hb1).mono hlo).andThen HB4.out (by omega)).then (below_drewN' w4 (nq + 1)) (by omega)).then hb6 (by simp; omega)⟩
              | made j =>
                obtain ⟨hj1, hj2, rfl⟩ := hka1; obtain ⟨rb, hlk, hrb⟩ := hAW.look (hAW.cel (List.getElem?_eq_getElem hj2)); have hrb' : rb = true := hrb.2 ⟨j, by omega, hj2, rfl⟩; rw [hrb'] at hlk; unfold ptr at hlk; have HRJ := Lib.hid (show walkP ar (t.place, 10) j (path.dropLast.drop (r + 1)) = RW by rw [← HRW.out, HDR.out, walkP_made HO.out HI.out HKD.out]); clear hrb hrb'
                go_wp2_with fail; refine ⟨⟨j, r + 1, nq + 1, rfl, ?_, by omega, hj2, rfl, HRJ.out⟩, ?_⟩
                · rfl
                · show q - (r + 1) < q - r
                  omega
        case rest =>
         obtain ⟨a, r, nq, rfl, rfl, hrq, har, rfl, HRW1⟩ := hcut; have HA5 := Lib.hid (show AR lo kind N (w4.drewN nq) L ar from HA4.out.keep (fun k _ _ => rfl) (Nat.le_refl _)); have HP5 := Lib.hid (HP4.out.below (below_drewN' w4 nq) HP4.out.lt); have HB5 := Lib.hid (HB4.out.then (below_drewN' w4 nq) hz4'); have HTB5 := Lib.hid (show (w4.drewN nq).heap[tb]? = _ from HTB.out); have HCE5 := Lib.hid (show ∀ j x, (path.map Value.string)[j]? = some x → (w4.drewN nq).cell? ⟨pg, j, none⟩ = some x from HCE.out); have hpg5 : pg < (w4.drewN nq).heap.size := hpgl; have hz5 : w1.heap.size ≤ (w4.drewN nq).heap.size := hz4'; have ho := List.getElem?_eq_getElem har; obtain ⟨o, hoe⟩ : ∃ o, ar[a] = o := ⟨_, rfl⟩; rw [hoe] at ho; have HST := Lib.hid (HA5.out.set a o ho); have hroom := HA5.out.room a o ho; have HO := Lib.hid ho; obtain ⟨last, hlast⟩ : ∃ last, path.getLast?.getD ⟨#[]⟩ = last := ⟨_, rfl⟩; have hlc : (w4.drewN nq).cell? ⟨pg, q, none⟩ = some (.string last) := HCE5.out q _ (by
          have h1 := HQ'.out; rw [List.getElem?_map, ← hlast, List.getLast?_eq_getElem?, h1]; rw [List.getElem?_eq_getElem (by omega)]
          rfl)
         have HLC := Lib.hid hlc; have HLAST := Lib.hid hlast; have hn4 := block_cell (i := 4) HST.out.node rfl; have hhas : hasP ar a last = o.names.any (fun x => x.toList == last.toList) := by unfold hasP; rw [HO.out]
         have HHAS := Lib.hid hhas; have HCT := Lib.hid (fun W hW => contains_row (x := last) (W := W) HST.out.names (by have := HLEN.out; omega) hW); clear ho hoe hlast hlc hhas HA4 HP4 HB4 HTB HCE HPD HO4 HRW HRW0 hpgl; generalize w4.drewN nq = w5 at *; have hq01 : (q : Int) < (path.length : Int) := by have := HQ'.out; omega
         have hqi0 : (0 : Int) ≤ (q : Int) := by omega
         go_upto_region 15 with fail
         go_cut [11, 81] from 67 to 81 (fun v11 v wx => ∃ nq, v11 = .slice (some ⟨pg, r, none⟩) (q - r) (oc - r) ∧ v = .bool ((path.dropLast.drop r).isEmpty && hasP ar a last) ∧ wx = w5.drewN nq)
         case first =>
          by_cases hrq2 : r = q
          · subst hrq2
            have hnil : path.dropLast.drop r = [] := List.drop_eq_nil_of_le (by rw [HQ.out, HQ'.out]; exact Nat.le_refl _); have HNIL := Lib.hid hnil; clear hnil; have htn : ((path.length : Int) - 1).toNat = r := by have := HQ'.out; omega
            have hidx0 : (0 : Int) ≤ (path.length : Int) - 1 := by omega
            have hidx1 : (path.length : Int) - 1 < (path.length : Int) := by omega
            refine wp_region_held_drew (S := fun w' => w'.cell? ⟨L.B a, 4, none⟩ = some (L.VN a) ∧ w'.cell? ⟨pg, r, none⟩ = some (.string last)) (by kernel_rfl) ⟨hn4, HLC.out⟩ (fun hHeld => ?_); refine wpAnyH_take (i := 0) (v := ?_) rfl (by kernel_rfl) (by kernel_rfl) (by kernel_rfl) (fun _ _ _ h => h) (Or.inl ⟨by rfl, (by intro w hSw; (try dsimp only at hSw); go_simp; (with_reducible rfl))⟩) (by assumption) ?_
            try simp only [Act.put, List.setIfInBounds_toArray, List.set_cons_succ, List.set_cons_zero]
            refine wpAnyH_take (i := 1) (v := ?_) rfl (by kernel_rfl) (by kernel_rfl) (by kernel_rfl) (fun _ _ _ h => h) (Or.inl ⟨by rfl, (by intro w hSw; (try dsimp only at hSw); go_simp; (with_reducible rfl))⟩) (by assumption) ?_
            try simp only [Act.put, List.setIfInBounds_toArray, List.set_cons_succ, List.set_cons_zero]
            refine wpAnyH_take (i := 2) (v := ?_) rfl (by kernel_rfl) (by kernel_rfl) (by kernel_rfl) (fun _ _ _ h => h) (Or.inl ⟨by rfl, (by intro w hSw; (try dsimp only at hSw); go_simp; (with_reducible rfl))⟩) (by assumption) ?_
            try simp only [Act.put, List.setIfInBounds_toArray, List.set_cons_succ, List.set_cons_zero]
            refine wpAnyH_take (i := 3) (v := ?_) rfl (by kernel_rfl) (by kernel_rfl) (by kernel_rfl) (fun _ _ _ h => h) (Or.inl ⟨by rfl, (by intro w hSw; (try dsimp only at hSw); go_simp; (with_reducible rfl))⟩) (by assumption) ?_
            try simp only [Act.put, List.setIfInBounds_toArray, List.set_cons_succ, List.set_cons_zero, List.getElem_toArray, List.getElem_cons_succ, List.getElem_cons_zero]
            repeat (first | simp only [List.set_cons_succ] | simp only [List.set_cons_zero])
            refine wpAnyH_take (i := 4) (v := ?_) rfl (by kernel_rfl) (by kernel_rfl) (by kernel_rfl) (fun _ _ _ h => h) (Or.inl ⟨by kernel_rfl, (by intro w hSw; (try dsimp only at hSw); go_simp; (with_reducible rfl))⟩) (by assumption) ?_
            try simp only [Act.put, List.setIfInBounds_toArray, List.set_cons_succ, List.set_cons_zero]
            --ST2
            refine wpAnyH_take (i := 5) (v := ?_) rfl (by kernel_rfl) (by kernel_rfl) (by kernel_rfl) (fun _ _ _ h => h) (Or.inl ⟨by kernel_rfl, (by intro w hSw; (try dsimp only at hSw); go_simp; (with_reducible rfl))⟩) (by assumption) ?_
            try simp only [Act.put, List.setIfInBounds_toArray, List.set_cons_succ, List.set_cons_zero]
            refine wpAnyH_take (i := 6) (v := ?_) rfl (by kernel_rfl) (by kernel_rfl) (by kernel_rfl) (fun _ _ _ h => h) (Or.inl ⟨by kernel_rfl, (by intro w hSw; (try dsimp only at hSw); go_simp; (with_reducible rfl))⟩) (by assumption) ?_
            try simp only [Act.put, List.setIfInBounds_toArray, List.set_cons_succ, List.set_cons_zero]
            refine wpAnyH_take (i := 7) (v := ?_) rfl (by kernel_rfl) (by kernel_rfl) (by kernel_rfl) (fun _ _ _ h => h) (Or.inl ⟨by kernel_rfl, (by intro w hSw; (try dsimp only at hSw); go_simp; (with_reducible rfl))⟩) (by assumption) ?_
            try simp only [Act.put, List.setIfInBounds_toArray, List.set_cons_succ, List.set_cons_zero]
            refine wpAnyH_take (i := 8) (v := ?_) rfl (by kernel_rfl) (by kernel_rfl) (by kernel_rfl) (fun _ _ _ h => h) (Or.inl ⟨by kernel_rfl, (by intro w hSw; (try dsimp only at hSw); go_simp; (with_reducible rfl))⟩) (by assumption) ?_
            try simp only [Act.put, List.setIfInBounds_toArray, List.set_cons_succ, List.set_cons_zero]
            refine wpAnyH_take (i := 9) (v := ?_) rfl (by kernel_rfl) (by kernel_rfl) (by kernel_rfl) (fun _ _ _ h => h) (Or.inl ⟨by kernel_rfl, (by intro w hSw; (try dsimp only at hSw); go_simp; (with_reducible rfl))⟩) (by assumption) ?_
            try simp only [Act.put, List.setIfInBounds_toArray, List.set_cons_succ, List.set_cons_zero]
            refine wpAnyH_take (i := 10) (v := ?_) rfl (by kernel_rfl) (by kernel_rfl) (by kernel_rfl) (fun _ _ _ h => h) (Or.inl ⟨by kernel_rfl, (by intro w hSw; (try dsimp only at hSw); go_simp; (with_reducible rfl))⟩) (by assumption) ?_
            try simp only [Act.put, List.setIfInBounds_toArray, List.set_cons_succ, List.set_cons_zero]
            refine wpAnyH_take (i := 11) (v := ?_) rfl (by kernel_rfl) (by kernel_rfl) (by kernel_rfl) (fun _ _ _ h => h) (Or.inl ⟨by kernel_rfl, (by intro w hSw; (try dsimp only at hSw); go_simp; (with_reducible rfl))⟩) (by assumption) ?_
            try simp only [Act.put, List.setIfInBounds_toArray, List.set_cons_succ, List.set_cons_zero]
            refine wpAnyH_take (i := 12) (v := ?_) rfl (by kernel_rfl) (by kernel_rfl) (by kernel_rfl) (fun _ _ _ h => h) (Or.inl ⟨by kernel_rfl, (by intro w hSw; (try dsimp only at hSw); go_simp; (with_reducible rfl))⟩) (by assumption) ?_
            try simp only [Act.put, List.setIfInBounds_toArray, List.set_cons_succ, List.set_cons_zero]
            refine wpAnyH_ready (rs := [13]) (by kernel_rfl) (by simp) ?_; refine AllReadyH.cons (o := _) rfl (fun K hK => ?_) AllReadyH.nil; go_simp
            refine (HCT.out w5.drew (fun p u h => h)).mono ?_; rintro e w6 ⟨rfl, rfl⟩; refine hK.out _ _ (⟨hn4, HLC.out⟩) (fun hHeld => ?_); clear hK K
            try simp only [Act.put, List.setIfInBounds_toArray, List.set_cons_succ, List.set_cons_zero]
            refine wpAnyH_take (i := 14) (v := ?_) rfl (by kernel_rfl) (by kernel_rfl) (by kernel_rfl) (fun _ _ _ h => h) (Or.inl ⟨by rfl, (by intro w hSw; (try dsimp only at hSw); go_simp; (with_reducible rfl))⟩) (by assumption) ?_
            try simp only [Act.put, List.setIfInBounds_toArray, List.set_cons_succ, List.set_cons_zero]
            refine wpAnyH_done (by kernel_rfl) ?_ _
            try simp only [List.getElem_toArray, List.getElem_cons_succ, List.getElem_cons_zero, Act.put, List.setIfInBounds_toArray]
            repeat (first | simp only [List.set_cons_succ] | simp only [List.set_cons_zero])
            go_wp2_with fail; go_meet
            --STOP
            exact ⟨1, by rw [Nat.sub_self], by rw [HNIL.out, HHAS.out]; rfl, rfl⟩
          · have hrl : r < q := by omega
            have hne : (((q - r : Nat) : Int) == 0) = false := by
             rw [beq_eq_false_iff_ne]; omega
            have HNE := Lib.hid (show (path.dropLast.drop r).isEmpty = false by
             cases h : path.dropLast.drop r with
             | nil =>
               have := congrArg List.length h; rw [List.length_drop, HQ.out, HQ'.out] at this; simp at this; omega
             | cons x y => rfl)
            refine wp_region_held_drew (S := fun _ => True) (by kernel_rfl) trivial (fun hHeld => ?_); refine wpAnyH_take (i := 0) (v := ?_) rfl (by kernel_rfl) (by kernel_rfl) (by kernel_rfl) (fun _ _ _ h => h) (Or.inl ⟨by rfl, (by intro w hSw; (try dsimp only at hSw); go_simp; (with_reducible rfl))⟩) (by assumption) ?_
            try simp only [Act.put, List.setIfInBounds_toArray, List.set_cons_succ, List.set_cons_zero]
            refine wpAnyH_take (i := 1) (v := ?_) rfl (by kernel_rfl) (by kernel_rfl) (by kernel_rfl) (fun _ _ _ h => h) (Or.inl ⟨by rfl, (by intro w hSw; (try dsimp only at hSw); go_simp; (with_reducible rfl))⟩) (by assumption) ?_
            try simp only [Act.put, List.setIfInBounds_toArray, List.set_cons_succ, List.set_cons_zero]
            refine wpAnyH_take (i := 2) (v := ?_) rfl (by kernel_rfl) (by kernel_rfl) (by kernel_rfl) (fun _ _ _ h => h) (Or.inl ⟨by rfl, (by intro w hSw; (try dsimp only at hSw); go_simp; (with_reducible rfl))⟩) (by assumption) ?_
            try simp only [Act.put, List.setIfInBounds_toArray, List.set_cons_succ, List.set_cons_zero]
            refine wpAnyH_take (i := 3) (v := ?_) rfl (by kernel_rfl) (by kernel_rfl) (by kernel_rfl) (fun _ _ _ h => h) (Or.inl ⟨by rfl, (by intro w hSw; (try dsimp only at hSw); go_simp; (with_reducible rfl))⟩) (by assumption) ?_
            try simp only [Act.put, List.setIfInBounds_toArray, List.set_cons_succ, List.set_cons_zero, List.getElem_toArray, List.getElem_cons_succ, List.getElem_cons_zero]
            repeat (first | simp only [List.set_cons_succ] | simp only [List.set_cons_zero])
            refine wpAnyH_take (i := 4) (v := undef) rfl (by kernel_rfl) (by kernel_rfl) (by kernel_rfl) (fun _ _ _ h => h) (Or.inr ⟨by kernel_rfl, rfl⟩) (by assumption) ?_
            try simp only [Act.put, List.setIfInBounds_toArray, List.set_cons_succ, List.set_cons_zero]
            refine wpAnyH_take (i := 5) (v := undef) rfl (by kernel_rfl) (by kernel_rfl) (by kernel_rfl) (fun _ _ _ h => h) (Or.inr ⟨by kernel_rfl, rfl⟩) (by assumption) ?_
            try simp only [Act.put, List.setIfInBounds_toArray, List.set_cons_succ, List.set_cons_zero]
            refine wpAnyH_take (i := 6) (v := undef) rfl (by kernel_rfl) (by kernel_rfl) (by kernel_rfl) (fun _ _ _ h => h) (Or.inr ⟨by kernel_rfl, rfl⟩) (by assumption) ?_
            try simp only [Act.put, List.setIfInBounds_toArray, List.set_cons_succ, List.set_cons_zero]
            refine wpAnyH_take (i := 7) (v := undef) rfl (by kernel_rfl) (by kernel_rfl) (by kernel_rfl) (fun _ _ _ h => h) (Or.inr ⟨by kernel_rfl, rfl⟩) (by assumption) ?_
            try simp only [Act.put, List.setIfInBounds_toArray, List.set_cons_succ, List.set_cons_zero]
            refine wpAnyH_take (i := 8) (v := undef) rfl (by kernel_rfl) (by kernel_rfl) (by kernel_rfl) (fun _ _ _ h => h) (Or.inr ⟨by kernel_rfl, rfl⟩) (by assumption) ?_
            try simp only [Act.put, List.setIfInBounds_toArray, List.set_cons_succ, List.set_cons_zero]
            refine wpAnyH_take (i := 9) (v := undef) rfl (by kernel_rfl) (by kernel_rfl) (by kernel_rfl) (fun _ _ _ h => h) (Or.inr ⟨by kernel_rfl, rfl⟩) (by assumption) ?_
            try simp only [Act.put, List.setIfInBounds_toArray, List.set_cons_succ, List.set_cons_zero]
            refine wpAnyH_take (i := 10) (v := undef) rfl (by kernel_rfl) (by kernel_rfl) (by kernel_rfl) (fun _ _ _ h => h) (Or.inr ⟨by kernel_rfl, rfl⟩) (by assumption) ?_
            try simp only [Act.put, List.setIfInBounds_toArray, List.set_cons_succ, List.set_cons_zero]
            refine wpAnyH_take (i := 11) (v := undef) rfl (by kernel_rfl) (by kernel_rfl) (by kernel_rfl) (fun _ _ _ h => h) (Or.inr ⟨by kernel_rfl, rfl⟩) (by assumption) ?_
            try simp only [Act.put, List.setIfInBounds_toArray, List.set_cons_succ, List.set_cons_zero]
            refine wpAnyH_take (i := 12) (v := undef) rfl (by kernel_rfl) (by kernel_rfl) (by kernel_rfl) (fun _ _ _ h => h) (Or.inr ⟨by kernel_rfl, rfl⟩) (by assumption) ?_
            try simp only [Act.put, List.setIfInBounds_toArray, List.set_cons_succ, List.set_cons_zero]
            refine wpAnyH_take (i := 13) (v := undef) rfl (by kernel_rfl) (by kernel_rfl) (by kernel_rfl) (fun _ _ _ h => h) (Or.inr ⟨by kernel_rfl, rfl⟩) (by assumption) ?_
            try simp only [Act.put, List.setIfInBounds_toArray, List.set_cons_succ, List.set_cons_zero]
            refine wpAnyH_take (i := 14) (v := ?_) rfl (by kernel_rfl) (by kernel_rfl) (by kernel_rfl) (fun _ _ _ h => h) (Or.inl ⟨by rfl, (by intro w hSw; (try dsimp only at hSw); go_simp; (with_reducible rfl))⟩) (by assumption) ?_
            try simp only [Act.put, List.setIfInBounds_toArray, List.set_cons_succ, List.set_cons_zero]
            refine wpAnyH_done (by kernel_rfl) ?_ _
            try simp only [List.getElem_toArray, List.getElem_cons_succ, List.getElem_cons_zero, Act.put, List.setIfInBounds_toArray]
            repeat (first | simp only [List.set_cons_succ] | simp only [List.set_cons_zero])
            go_wp2_with fail; go_meet; exact ⟨1, rfl, by rw [HNE.out]; rfl, rfl⟩
         case rest =>
          obtain ⟨nq6, rfl, rfl, rfl⟩ := hcut; have HRQ2 := Lib.hid ((bindQ_ok (F := F) HR2.out (HRW0'.out.trans HRW1.out) HLAST.out).symm.trans HRQ.out); have HA6 := Lib.hid (show AR lo kind N (w5.drewN nq6) L ar from HA5.out.keep (fun k _ _ => rfl) (Nat.le_refl _)); have HP6 := Lib.hid (HP5.out.below (below_drewN' w5 nq6) HP5.out.lt); have HB6 := Lib.hid (HB5.out.then (below_drewN' w5 nq6) hz5); have HTB6 := Lib.hid (show (w5.drewN nq6).heap[tb]? = _ from HTB5.out); have HCE6 := Lib.hid (show ∀ j x, (path.map Value.string)[j]? = some x → (w5.drewN nq6).cell? ⟨pg, j, none⟩ = some x from HCE5.out); have hpg6 : pg < (w5.drewN nq6).heap.size := hpg5; have hz6 : w1.heap.size ≤ (w5.drewN nq6).heap.size := hz5; clear HA5 HP5 HB5 HTB5 HCE5 HST HCT HHAS hn4 HLC hpg5 hz5; generalize w5.drewN nq6 = w6 at *; have k0 := block_cell (i := 0) HTB6.out rfl; have k1 := block_cell (i := 1) HTB6.out rfl; have k2 := block_cell (i := 2) HTB6.out rfl; have k3 := block_cell (i := 3) HTB6.out rfl; have k4 := block_cell (i := 4) HTB6.out rfl; cases hcond : ((path.dropLast.drop r).isEmpty && hasP ar a last) with
          | true =>
            have hRx : R = .error (t.place, 10) := by rw [← HRQ2.out, hcond]; rfl
            subst hRx; clear hcond
            go_wp2_with fail; refine (fail_any t 10 _).mono ?_; rintro e w7 ⟨rfl, hb7⟩; exact ⟨rfl, rfl, (((But.of hb1).mono hlo).andThen HB6.out (by omega)).then hb7 (by omega)⟩
          | false =>
            have HRQ3 := Lib.hid (show bindY ar t.place a (path.dropLast.drop r) last (F us2) = R by rw [← HRQ2.out, hcond]; rfl); clear hcond HRQ2; obtain ⟨RF, hRF⟩ : ∃ R, F us2 = R := ⟨_, rfl⟩; have HEX := Lib.hid (hRF ▸ HE.out w6 us2 HP6.out); rw [hRF] at HRQ3; clear hRF
            go_wp2_with fail; cases RF with
            | error x =>
              have hRx : R = .error x := by rw [← HRQ3.out]; rfl
              subst hRx; refine HEX.out.mono ?_; rintro e w7 ⟨rfl, hb7⟩; exact ⟨rfl, rfl, (((But.of hb1).mono hlo).andThen HB6.out (by omega)).andThen hb7 (by omega)⟩
            | ok rf =>
              obtain ⟨v, us7⟩ := rf; refine HEX.out.mono ?_; rintro e w7 ⟨⟨vb, rfl, htv⟩, hp7, hb7⟩; unfold ptr; have hz7 := hb7.size; obtain ⟨RS, hRS⟩ : ∃ R, needP ⟨#[59]⟩ us7 = R := ⟨_, rfl⟩; have HND7 := Lib.hid (hRS ▸ need_any ⟨#[59]⟩ hp7); have HR8 := Lib.hid (show bindZ ar t.place a (path.dropLast.drop r) last v RS = R by rw [← HRQ3.out, ← hRS]; rfl); have HA7 := Lib.hid (HA6.out.but hb7 (Nat.le_refl _) hplo); have HTV := Lib.hid (htv.mono (q := fun k => lo ≤ k ∧ L.own k = none) (fun k hk _ => ⟨by omega, by
               cases ho : L.own k with
               | none => rfl
               | some x =>
                 have := (HA6.out.lt k (by rw [ho]; simp)).2
                 omega⟩))
              have HB7 := Lib.hid (HB6.out.andThen hb7 hz6); have HTB7 := Lib.hid (hb7.get (block_lt HTB6.out) (by omega) HTB6.out); have HCE7 := Lib.hid (show ∀ j x, (path.map Value.string)[j]? = some x → w7.cell? ⟨pg, j, none⟩ = some x from fun j x h => hb7.cell (p := ⟨pg, j, none⟩) hpg6 (by simp; omega) (HCE6.out j x h)); have HP7 := Lib.hid hp7; have hown6 : L.own pg = none ∧ L.own tb = none := ⟨by
               cases ho : L.own pg with
               | none => rfl
               | some x =>
                 have := (HAR.out.lt pg (by rw [ho]; simp)).2
                 omega, by
               cases ho : L.own tb with
               | none => rfl
               | some x =>
                 have := (HARW.out.lt tb (by rw [ho]; simp)).2
                 omega⟩
              clear HRQ3 htv hp7 hb7 hRS k0 k1 k2 k3 k4
              go_wp2_with fail; cases RS with
              | error x =>
                have hRx : R = .error x := by rw [← HR8.out]; rfl
                subst hRx; refine HND7.out.mono ?_; rintro e w8 ⟨rfl, hb8⟩; exact ⟨rfl, rfl, (((But.of hb1).mono hlo).andThen HB7.out (by omega)).andThen hb8 (by omega)⟩
              | ok us8 =>
                refine HND7.out.mono ?_; rintro e w8 ⟨rfl, hp8, hb8⟩; have hz8 := hb8.size; have hA8 := HA7.out.but hb8 (Nat.le_refl _) hplo; have hV8 := HTV.out.keep (hb8.keeps (Nat.le_refl _) (fun k hk => by omega)); have hB8 := (((But.of hb1).mono hlo).andThen HB7.out (by omega)).andThen hb8 (by omega); have hT8 := hb8.get (block_lt HTB7.out) (by omega) HTB7.out; have hC8 : ∀ j x, (path.map Value.string)[j]? = some x → w8.cell? ⟨pg, j, none⟩ = some x := fun j x h => hb8.cell (p := ⟨pg, j, none⟩) (by simp; omega) (by simp; omega) (HCE7.out j x h)
                have hpg8 : pg < w8.heap.size := by omega
                have hrm := HA7.out.room; obtain ⟨RM, hRM⟩ : ∃ R, makeP t.place ar a (path.dropLast.drop r) = R := ⟨_, rfl⟩; have HRZ := Lib.hid (show Except.ok (RM.1.addAt RM.2 last (.leaf v), us8) = R by rw [← HR8.out, ← hRM]; rfl); have HRM := Lib.hid hRM; have hao : ∃ o, ar[a]? = some o ∧ o.names.length ≤ N := ⟨_, List.getElem?_eq_getElem har, hrm a _ (List.getElem?_eq_getElem har)⟩; have HAO := Lib.hid hao; clear hb8 HR8 HND7 hRM hrm hao HA7 HTV HB7 HTB7 HCE7 HP7
                go_wp2_with fail; go_loopw [10, 15, 16, 90] (fun v10 _ _ v90 wr => ∃ (j a' : Nat) (L' : Loc) (ar' : Ar), v10 = .pointer (some ⟨L'.B a', 0, none⟩) ∧ v90 = .int .i64 (j : Int) ∧ j ≤ q - r ∧ AR lo kind (N + 1) wr L' ar' ∧ (∃ o, ar'[a']? = some o ∧ o.names.length ≤ N) ∧ L'.m = L.m ∧ L'.B 0 = L.B 0 ∧ Hid (makeP t.place ar' a' ((path.dropLast.drop r).drop j) = RM) ∧
                 TR (fun k => lo ≤ k ∧ L'.own k = none) wr vb v ∧ wr.heap[tb]? = some (.cells #[.int .i64 t.kind, .string t.text, .int .i64 t.num, .float .f64 t.bits, .int .i64 t.place] 54 (0, 0)) ∧ Hid (∀ j x, (path.map Value.string)[j]? = some x → wr.cell? ⟨pg, j, none⟩ = some x) ∧ L'.own pg = none ∧ L'.own tb = none ∧ pg < wr.heap.size ∧ PS wr pb g n us8 ∧ But pb lo w wr) (fun _ _ _ v90 _ => (q - r) - (intOf v90).toNat)
                case atStart => exact ⟨0, a, L, ar, rfl, rfl, by omega, hA8.mono (by omega), HAO.out, rfl, rfl, HRM.out, hV8, hT8, hC8, hown6.1, hown6.2, hpg8, hp8, hB8⟩
                case round =>
                 clear hA8 hV8 hB8 hT8 hC8 hp8 hpg8 HAO HRM; obtain ⟨j, a', L', ar', rfl, rfl, hj, hA, hao, hm, hB0, HRM, hV, hT, HC, hopg, hotb, hpgl, hp, hB⟩ := hrel; obtain ⟨o', ho', hon⟩ := hao; have hal := (List.getElem?_eq_some_iff.1 ho').1; by_cases hjq : j = q - r
                 · have hnl : ¬ (j : Int) < ((q - r : Nat) : Int) := by omega
                   have hRM : RM = (ar', a') := by
                    rw [← HRM.out, List.drop_drop, List.drop_eq_nil_of_le (by rw [HQ.out, HQ'.out]; omega)]; rfl
                   subst hRM; have hRf := HRZ.out; subst hRf; have hlc : wr.cell? ⟨pg, q, none⟩ = some (.string last) := HC.out q _ (by
                    have h1 := HQ'.out; rw [List.getElem?_map, ← HLAST.out, List.getLast?_eq_getElem?, h1]; rw [List.getElem?_eq_getElem (by omega)]
                    rfl)
                   have htn : ((path.length : Int) - 1).toNat = q := by have := HQ'.out; omega
                   have hidx0 : (0 : Int) ≤ (path.length : Int) - 1 := by omega
                   have hidx1 : (path.length : Int) - 1 < (path.length : Int) := by omega
                   have HAD := Lib.hid (hA.add ho' last vb (.leaf v) hV (M := N + 1) (by omega) (Nat.le_refl _) (by omega))
                   go_wp2_with fail; refine HAD.out.mono ?_; rintro e w9 ⟨rfl, L9, hA9, hb9, hB9, hm9, _⟩
                   go_wp2_with fail; go_end0; exact ⟨rfl, ⟨L9, hA9, by rw [hB9]; exact hB0, hm9.trans hm⟩, hp.below hb9 hplo, hB.then hb9 (Nat.le_refl _)⟩
                 · have hjl : (j : Int) < ((q - r : Nat) : Int) := by omega
                   obtain ⟨s, hs⟩ := get_lt path.dropLast (k := r + j) (by rw [HQ.out, HQ'.out]; omega); have hdr : (path.dropLast.drop r).drop j = s :: (path.dropLast.drop r).drop (j + 1) := by
                    obtain ⟨h1, h2⟩ := List.getElem?_eq_some_iff.1 hs; rw [List.drop_drop, List.drop_drop, List.drop_eq_getElem_cons h1, h2]; rfl
                   have hcs : wr.cell? ⟨pg, r + j, none⟩ = some (.string s) := HC.out (r + j) _ (by
                    rw [List.getElem?_dropLast] at hs; split at hs
                    · rw [List.getElem?_map, hs]; rfl
                    · cases hs)
                   have hji0 : (0 : Int) ≤ (j : Int) := by omega
                   obtain ⟨w2', L2, hrun, hA2, hsz2, hm2, hB2, hBn, how2, hold, hbw⟩ := hA.push' t.place (by have := hB.size; omega); rw [hm] at hrun; have HRM2 := Lib.hid (show makeP t.place (Ar.addAt (ar' ++ [⟨[], [], t.place⟩]) a' s (.made ar'.length)) ar'.length ((path.dropLast.drop r).drop (j + 1)) = RM from (makeP_go (place := t.place) (ar := ar') (s := s) (rest := (path.dropLast.drop r).drop (j + 1)) hal).symm.trans (hdr ▸ HRM.out)); have ho2 : (ar' ++ [⟨[], [], t.place⟩])[a']? = some o' := by rw [List.getElem?_append_left hal]; exact ho'
                   have had := hA2.add ho2 s wr.heap.size (.made ar'.length) ⟨hal, by simp, hBn.symm⟩ (M := N + 1) (by omega) (Nat.le_refl _) (by omega); rw [hB2 a' hal] at had; have HAD := Lib.hid had; have HOW := Lib.hid how2; have HOLD := Lib.hid hold; have HSZ := Lib.hid hsz2; have HBN := Lib.hid hBn; have HB2 := Lib.hid hB2; have HM2 := Lib.hid hm2; have HBW := Lib.hid hbw; have hlow := hB.size; have k0 := block_cell (i := 0) hT rfl; have k1 := block_cell (i := 1) hT rfl; have k2 := block_cell (i := 2) hT rfl; have k3 := block_cell (i := 3) hT rfl; have k4 := block_cell (i := 4) hT rfl; have htl := block_lt hT; clear hdr hsz2 hA2 hs how2 hold hBn hB2 hm2 hbw had
                   go_wp2_with fail; refine HAD.out.mono ?_; rintro e w9 ⟨rfl, L9, hA9, hb9, hB9, hm9, hk9⟩; have hz9 := hb9.size; have hsz := HSZ.out; have hkeep : ∀ k, k < wr.heap.size → L'.own k = none → w9.heap[k]? = wr.heap[k]? ∧ L9.own k = none := fun k hk hn => by
                    obtain ⟨h1, h2⟩ := hk9 k (by omega) ((HOW.out k hk).trans hn); exact ⟨h1.trans (HOLD.out k hk hn), h2⟩
                   have HV9 := Lib.hid (((hV.mono (q := fun k => (lo ≤ k ∧ L9.own k = none) ∧ L'.own k = none) (fun k hk hl => ⟨⟨hk.1, (hkeep k hl hk.2).2⟩, hk.2⟩)).keep (fun k hk hl => (hkeep k hl hk.2).1)).mono fun k hk _ => hk.1); have HT9 := Lib.hid ((hkeep tb htl hotb).1.trans hT); have HC9 : Hid (∀ j x, (path.map Value.string)[j]? = some x → w9.cell? ⟨pg, j, none⟩ = some x) := fun j x h => (World.cell?_of_block (w := wr) (hkeep pg hpgl hopg).1).trans (HC.out j x h)
                   have hpos9 := hA.pos; have HA9 := Lib.hid hA9; have HB9 := Lib.hid hB9; have hb29 : Below lo wr w9 := HBW.out.trans hb9; have hog9 := (hkeep pg hpgl hopg).2; have hot9 := (hkeep tb htl hotb).2; have hv10 : L9.B ar'.length = wr.heap.size := by rw [hB9]; exact HBN.out
                   have hm99 : L9.m = L.m := hm9.trans (HM2.out.trans hm); have hB00 : L9.B 0 = L.B 0 := by rw [hB9, HB2.out 0 hpos9]; exact hB0
                   have hoo : ∃ o, (Ar.addAt (ar' ++ [⟨[], [], t.place⟩]) a' s (.made ar'.length))[ar'.length]? = some o ∧ o.names.length ≤ N := ⟨⟨[], [], t.place⟩, by
                    rw [addAt_app hal, List.getElem?_append_right (by simp [Ar.addAt])]; simp [Ar.addAt], by simp⟩
                   have HOO := Lib.hid hoo; clear hA9 hB9 hkeep hoo hb9
                   go_wp2_with fail; refine ⟨⟨j + 1, ar'.length, L9, _, by rw [hv10], by simp, by omega, HA9.out, HOO.out, hm99, hB00, HRM2.out, HV9.out, HT9.out, HC9, hog9, hot9, by omega, hp.below hb29 hplo, hB.then hb29 (Nat.le_refl _)⟩, ?_⟩; simp only [intOf]; omega
end
end Go.Proofs.YtkoghgnjjfnamaaGreatDoor
