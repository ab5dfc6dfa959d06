/- BuildQ, QuoteW, AttrW, ShelfF: what is used of them. -/
import Derived.Test.YtkoghgnjjfnamaaGreatDoorShelf
import Derived.Lib.Builder
import Derived.Lib.Walk
import Derived.Lib.AppendStr
import Derived.Test.YtkoghgnjjfnamaaGreatDoorRepR
import Derived.Test.YtkoghgnjjfnamaaGreatDoorKe
import Derived.Shelf.Strconv.Itoa0
import Derived.Shelf.Strconv.Itoa1
import Derived.Shelf.Strconv.Itoa3
set_option linter.unusedSimpArgs false
set_option linter.unusedVariables false
namespace Go.Proofs.YtkoghgnjjfnamaaGreatDoor
set_option maxRecDepth 100000
set_option maxHeartbeats 4000000
open Go.RowKit Go.Shelf
theorem writeString_any (B b : Nat) (bs : List Value) (s : ByteArray) (w : World) (h : Lib.IsBuilder 61 5 B b bs w) (hlen : bs.length + s.size ≤ 140737488355328) (hBw : B ≤ w.heap.size) :
 Calls Tryz.prog 64 #[.pointer (some ⟨b, 0, none⟩), .string s] w fun e w' => e = .returned (.tuple #[.int .i64 s.size, .nilIface]) ∧ (Lib.BuilderAt 61 5 B b (.pointer (some ⟨b, 0, none⟩)) (bs ++ Lib.strCells s) w' ∧ Below B w w') := by
 obtain ⟨i0, hi, hz0, hz1, hz2⟩ := info_parts infoB1; go_enter Tryz.func64, Tryz.ntmps64
 go_wp2_with fail; refine (check_any B b bs _ h).mono ?_; rintro e w1 ⟨rfl, h1, hb1⟩; obtain ⟨hB, v, hbk, hown, hne⟩ := h1; have c0 : w1.cell? ⟨b, 0, none⟩ = some (.pointer (some ⟨b, 0, none⟩)) := by rw [Lib.cell_of_heap hbk]; rfl
 have c1 : w1.cell? ⟨b, 1, none⟩ = some v := by rw [Lib.cell_of_heap hbk]; rfl
 have HBK := Lib.hid hbk; clear hbk
 go_wp2_with (at_builtin; refine Lib.wpList_append_own_string _ rfl _ _ 59 9 rfl B 5 i0 Tryz.underlying59 Tryz.underlying9 hi hz0 hz1 hz2 _ _ _ rfl hown s rfl ?c3 ?c4 ?c5 ?_)
 case c3 => unfold maxLen; omega
 case c4 => omega
 case c5 => have := hb1.size; omega
 intro v' w2 hown' hgrow _; have hlt : b < w1.heap.size := block_lt HBK.out; have hb2 : w2.heap[b]? = some (.cells #[.pointer (some ⟨b, 0, none⟩), v] 61 (0, 0)) := by
  rw [hgrow.block b hlt (fun e => hne e.symm)]; exact HBK.out
 have d0 : w2.cell? ⟨b, 0, none⟩ = some (.pointer (some ⟨b, 0, none⟩)) := by rw [Lib.cell_of_heap hb2]; rfl
 have d1 : w2.cell? ⟨b, 1, none⟩ = some v := by rw [Lib.cell_of_heap hb2]; rfl
 have f1 : w2.frozen? ⟨b, 1, none⟩ = false := Lib.frozen_of_heap hb2 1; obtain ⟨ao, n', cap, rfl⟩ : ∃ ao n' cap, v' = .slice ao n' cap := by
  rcases hown'.2 with ⟨hv, _⟩ | ⟨g, cap, cur, hv, _⟩
  · exact ⟨_, _, _, hv⟩
  · exact ⟨_, _, _, hv⟩
 have HB2 := Lib.hid hb2; clear hb2; go_wp2; go_ret2; refine ⟨rfl, ?_, ?_⟩
 · exact Lib.BuilderAt.put (T := 61) (e := 5) hB HB2.out (bs' := bs ++ Lib.strCells s) (by simpa [Lib.strCells_length] using hown') (by decide)
 · exact (hb1.grown hgrow (by have := hb1.size; omega) (fun k hk => (hown.lt k hk).1)).setCell (p := ⟨b, 1, none⟩) hB _
end Go.Proofs.YtkoghgnjjfnamaaGreatDoor
namespace Go.Proofs.YtkoghgnjjfnamaaGreatDoor
set_option maxRecDepth 100000
set_option maxHeartbeats 4000000
open Go.RowKit
def repC (d i : Int) (r on : Value) : Array Value := #[.int .u32 d, .int .i32 i, .int .u32 0, r, on]
theorem newRep_any (q qc : Nat) (w : World) (hq : ∀ j s, qeO[j]? = some s → w.cell? ⟨q, j, none⟩ = some (.string s)) :
 Calls Tryz.prog 148 #[.slice (some ⟨q, 0, none⟩) 8 qc] w fun e w' => ∃ b nb nc, e = .returned (.pointer (some ⟨b, 0, none⟩)) ∧ w.heap.size ≤ b ∧ w.heap.size ≤ nb ∧ nb < b ∧ Below w.heap.size w w' ∧
  w'.heap[b]? = some (.cells (repC 0 0 .nilIface (.slice (some ⟨nb, 0, none⟩) 8 nc)) 251 (0, 0)) ∧ ∀ j s, qeO[j]? = some s → w'.cell? ⟨nb, j, none⟩ = some (.string s) := by
 obtain ⟨i0, hi, hz0, hz1, hz2⟩ := info_parts infoSt; have HQ := Lib.hid hq; clear hq; go_enter Tryz.func148, Tryz.ntmps148
 go_wp2_with (
  at_builtin
  go_loud (refine wpList_append_own_at w rfl _ _ 34 rfl w.heap.size 9 i0 _ 1 16 Tryz.underlying34 hi hz0 hz1 hz2 rfl (by decide) (.slice none 0 0) 0 [] rfl ⟨rfl, Or.inl ⟨rfl, rfl⟩⟩ ⟨q, 0, none⟩ 8 qc (qeO.map Value.string) rfl rfl ?c1 ?c2 (by unfold maxLen; omega) (by omega) (Nat.le_refl _) ?_))
 case c1 =>
  intro j u hj; rw [List.getElem?_map] at hj; obtain ⟨s, hs, rfl⟩ := Option.map_eq_some_iff.1 hj; have e : (⟨q, 0, none⟩ : Addr).add j = ⟨q, j, none⟩ := by cases j <;> simp [Addr.add]
  rw [e]; exact HQ.out j s hs
 case c2 =>
  intro u hu; obtain ⟨s, _, rfl⟩ := List.mem_map.1 hu; rfl
 intro v' w2 hown hgr _ hbl; obtain ⟨a2, c2, rfl⟩ := own_shape hown; obtain ⟨nb, cap, cur, hv, hnb, hh, h1, h2, h3, h4⟩ : ∃ g cap cur, Value.slice a2 (0 + 8) c2 = .slice (some ⟨g, 0, none⟩) (0 + 8) cap ∧ w.heap.size ≤ g ∧ w2.heap[g]? = some (.cells cur 9 (0, 0)) ∧ 0 + 8 ≤ cap ∧ cap ≤ maxLen ∧ cur.size = cap * 1 ∧ cur.toList.take ((0 + 8) * 1) = [] ++ qeO.map Value.string := by
  rcases hown.2 with ⟨_, h⟩ | h
  · cases h
  · exact h
 cases hv; have hb2 : Below w.heap.size w w2 := ⟨hgr.os, hgr.tape, hgr.output, hgr.size, fun k hk => hgr.block k hk (by simp [Value.ownBlock])⟩; have hnl := block_lt hh; have HC : Hid (∀ j s, qeO[j]? = some s → cur[j]? = some (Value.string s)) := Lib.hid (fun j s hj => by
  have hj8 : j < 8 := (List.getElem?_eq_some_iff.1 hj).1; have e : (cur.toList.take ((0 + 8) * 1))[j]? = some (Value.string s) := by rw [h4, List.nil_append, List.getElem?_map, hj]; rfl
  rw [List.getElem?_take, if_pos (by omega), Array.getElem?_toList] at e; exact e)
 clear hown hgr hbl h1 h2 h3 h4; have HH := Lib.hid hh; clear hh
 go_wp2_with fail; go_ret; refine ⟨w2.heap.size, nb, c2, rfl, hb2.size, hnb, hnl, hb2.alloc hb2.size _, block_new _ _ rfl, fun j s hj => ?_⟩; exact block_cell (block_alloc HH.out _) (HC.out j s hj)
theorem buildOnce_any (b nb nc : Nat) (w : World) (hbk : w.heap[b]? = some (.cells (repC 0 1 .nilIface (.slice (some ⟨nb, 0, none⟩) 8 nc)) 251 (0, 0))) (hn : ∀ j s, qeO[j]? = some s → w.cell? ⟨nb, j, none⟩ = some (.string s)) :
 Calls Tryz.prog 187 #[.pointer (some ⟨b, 0, none⟩)] w fun e w' => e = .returned (.tuple #[]) ∧ ∃ rb, w.heap.size ≤ rb ∧ w'.heap[b]? = some (.cells (repC 0 1 (.iface 287 (.pointer (some ⟨rb, 0, none⟩))) (.slice none 0 0)) 251 (0, 0)) ∧ BSR w.heap.size rb w' ∧ Below b w w' := by
 have hbl := block_lt hbk; have HBD := Lib.hid (build_any b nb nc w (block_cell hbk rfl) hn); have HBK := Lib.hid hbk; clear hbk hn; go_enter Tryz.func187, Tryz.ntmps187
 go_wp2_with fail; refine HBD.out.mono ?_; rintro e w2 ⟨rb, hrb, rfl, hbs, hb⟩; have hk2 := block_below HBK.out hb; have c3 : w2.cell? ⟨b, 3, none⟩ = some .nilIface := block_cell hk2 rfl; have c4 : w2.cell? ⟨b, 4, none⟩ = some (.slice (some ⟨nb, 0, none⟩) 8 nc) := block_cell hk2 rfl; have hf : ∀ j, w2.frozen? ⟨b, j, none⟩ = false := fun j => block_free hk2
 have hz2 := hb.size; have HK2 := Lib.hid hk2; have HBS := Lib.hid hbs; clear hk2 hbs
 go_wp2_with fail; go_end0; refine ⟨rfl, rb, hrb, ?_, ?_, ?_⟩
 · have h1 := block_set (block_set HK2.out (i := 3) (.iface 287 (.pointer (some ⟨rb, 0, none⟩)))) (i := 4) (.slice none 0 0)
   simpa [repC] using h1
 · refine HBS.out.keepsAt fun k hk1 hk2 => ?_
   have hne : k ≠ b := by omega
   rw [Below.heap_setCell _ _ _ _ hne, Below.heap_setCell _ _ _ _ hne]
 · exact ((hb.mono (show b ≤ w.heap.size by omega)).setCell (p := ⟨b, 3, none⟩) (Nat.le_refl _) _).setCell (p := ⟨b, 4, none⟩) (Nat.le_refl _) _
theorem replace_any (b nb nc : Nat) (s : ByteArray) (hs : s.size ≤ 1000000) (w : World) (hnb : nb < b) (hbk : w.heap[b]? = some (.cells (repC 0 0 .nilIface (.slice (some ⟨nb, 0, none⟩) 8 nc)) 251 (0, 0))) (hn : ∀ j s, qeO[j]? = some s → w.cell? ⟨nb, j, none⟩ = some (.string s)) :
 Calls Tryz.prog 149 #[.pointer (some ⟨b, 0, none⟩), .string s] w fun e w' => e = .returned (.string ⟨(qeL s.data.toList).toArray⟩) ∧ Below b w w' := by
 have hbl := block_lt hbk; have HON := Lib.hid (onceDo_any b 0 187 (.pointer (some ⟨b, 0, none⟩)) (fun w' => ∃ rb, w.heap.size ≤ rb ∧ w'.heap[b]? = some (.cells (repC 0 1 (.iface 287 (.pointer (some ⟨rb, 0, none⟩))) (.slice none 0 0)) 251 (0, 0)) ∧ BSR w.heap.size rb w' ∧ Below b w w') w
  (block_cell hbk rfl) (block_cell hbk rfl) (block_free hbk) ?h1 ?h2 ?h3)
 case h1 =>
  have e : (w.setCell ⟨b, 0 + 1, none⟩ (.int .i32 1)).heap[b]? = some (.cells (repC 0 1 .nilIface (.slice (some ⟨nb, 0, none⟩) 8 nc)) 251 (0, 0)) := by
   have := block_set hbk (i := 1) (.int .i32 1); simpa [repC] using this
  refine (buildOnce_any b nb nc _ e (fun j s hj => ?_)).mono ?_
  · rw [World.cell?_setCell_other _ _ _ _ (by simp <;> omega)]
    exact hn j s hj
  · rintro e w' ⟨rfl, rb, h1, h2, h3, h4⟩
    exact ⟨rfl, rb, by simpa using h1, h2, by simpa using h3, ((Below.refl b w).setCell (p := ⟨b, 1, none⟩) (Nat.le_refl _) _).trans h4⟩
 case h2 =>
  rintro w' ⟨rb, _, h2, _, _⟩; exact ⟨block_cell h2 rfl, block_free h2, block_cell h2 rfl, block_free h2⟩
 case h3 => exact fun args w => by first | rfl | go_simp
 clear hbk hn; go_enter Tryz.func149, Tryz.ntmps149
 go_wp2_with fail; refine HON.out.mono ?_; rintro e w1 ⟨rfl, w2, ⟨rb, hrb, hk2, hbs, hb2⟩, rfl⟩; have hk3 : (((w2.drew.setCell ⟨b, 0, none⟩ (.int .u32 1)).setCell ⟨b, 0 + 1, none⟩ (.int .i32 0))).heap[b]? = some (.cells #[.int .u32 1, .int .i32 0, .int .u32 0, .iface 287 (.pointer (some ⟨rb, 0, none⟩)), .slice none 0 0] 251 (0, 0)) := by
  have h0 : w2.drew.heap[b]? = some (.cells (repC 0 1 (.iface 287 (.pointer (some ⟨rb, 0, none⟩))) (.slice none 0 0)) 251 (0, 0)) := hk2
  have := block_set (block_set h0 (i := 0) (.int .u32 1)) (i := 0 + 1) (.int .i32 0); simpa [repC] using this
 have hB3 : Below b w ((w2.drew.setCell ⟨b, 0, none⟩ (.int .u32 1)).setCell ⟨b, 0 + 1, none⟩ (.int .i32 0)) := (hb2.drew.setCell (p := ⟨b, 0, none⟩) (Nat.le_refl _) _).setCell (p := ⟨b, 0 + 1, none⟩) (Nat.le_refl _) _; have hbs3 : BSR w.heap.size rb ((w2.drew.setCell ⟨b, 0, none⟩ (.int .u32 1)).setCell ⟨b, 0 + 1, none⟩ (.int .i32 0)) := hbs.keepsAt fun k hk1 hk2 => by
  have hne : k ≠ b := by omega
  rw [Below.heap_setCell _ _ _ _ hne, Below.heap_setCell _ _ _ _ hne]; rfl
 generalize (w2.drew.setCell ⟨b, 0, none⟩ (.int .u32 1)).setCell ⟨b, 0 + 1, none⟩ (.int .i32 0) = w3 at *; have c3 : w3.cell? ⟨b, 3, none⟩ = _ := block_cell hk3 rfl; have HBR := Lib.hid (bsrRep_any _ _ s w3 hbs3 hs); clear hk2 hbs hb2 hk3 hbs3 HON
 go_wp2_with fail; refine HBR.out.mono ?_; rintro e w4 ⟨rfl, hb4⟩; have hsz := hB3.size
 go_wp2_with fail; go_ret; exact ⟨rfl, hB3.trans (hb4.mono (by omega))⟩
theorem quote_any (s : ByteArray) (hs : s.size ≤ 1024) (w : World) : Calls Tryz.prog 118 #[.string s] w fun e w' => e = .returned (.string ⟨(qB s).toArray⟩) ∧ Below w.heap.size w w' := by
 have HNR := Lib.hid (fun q qc W h => newRep_any q qc W h); have HRP := Lib.hid (fun b nb nc W h1 h2 h3 => replace_any b nb nc s (by omega) W h1 h2 h3); have hlen : (qeL s.data.toList).length ≤ 2048 := by
  have h1 := qeL_len s.data.toList; have h2 := qeN_le s.data.toList; have h3 : s.data.toList.length = s.size := Array.length_toList; omega
 have HE : Hid ((⟨#[34]⟩ : ByteArray) ++ ⟨(qeL s.data.toList).toArray⟩ ++ ⟨#[34]⟩ = ⟨(qB s).toArray⟩) := Lib.hid (by
  apply ba_ext
  rw [nw_app, nw_app]
  rfl)
 obtain ⟨R, hR⟩ : ∃ R : ByteArray, ⟨(qeL s.data.toList).toArray⟩ = R := ⟨_, rfl⟩; have hRs : R.size ≤ 2048 := by rw [← hR]; exact hlen
 rw [hR] at HRP HE; clear hlen hR; go_enter Tryz.func118, Tryz.ntmps118
 go_wp2_with fail; refine (HNR.out _ _ _ ?hq).mono ?_
 case hq =>
  intro j s hj; refine block_cell (block_new _ _ rfl) ?_; rcases (by have := (List.getElem?_eq_some_iff.1 hj).1; simp [qeO] at this; omega : j = 0 ∨ j = 1 ∨ j = 2 ∨ j = 3 ∨ j = 4 ∨ j = 5 ∨ j = 6 ∨ j = 7) with rfl | rfl | rfl | rfl | rfl | rfl | rfl | rfl <;> (cases hj; rfl)
 rintro e w2 ⟨b, nb, nc, rfl, hb, hnb, hlt, hb2, hbk, hn⟩; have HRR := Lib.hid (HRP.out b nb nc w2 hlt hbk hn); have hB2 : Below w.heap.size w w2 := ((Below.refl _ _).alloc (Nat.le_refl _) _).next hb2; clear HNR HRP hbk hn
 go_wp2_with fail; refine HRR.out.mono ?_; rintro e w3 ⟨rfl, hb3⟩
 go_wp2_with fail; go_ret; have hb' : w.heap.size + 1 ≤ b := by simpa using hb
 exact ⟨congrArg (fun x => Ending.returned (Value.string x)) HE.out, hB2.trans (hb3.mono (by omega))⟩
attribute [local go_sem] run_bits64 run_frombits64 store_f64
theorem right_str (t : ByteArray) (ht : t.size ≤ 1024) (d : Int) (w : World) : Calls Tryz.prog 117 #[(.agg #[.int .i64 4, .int .i64 0, .float .f64 0, .string (t), .slice none 0 0, .slice none 0 0]), .int .i64 d] w fun e w' => e = .returned (.bool true) ∧ Below w.heap.size w w' := by
 have hle : decide ((1024 : Int) < (t.size : Int)) = false := by simp; omega
 go_enter Tryz.func117, Tryz.ntmps117
 go_wp2_with fail; go_quiet (fail)
 go_wp2_with fail; go_ret; exact ⟨rfl, (by (repeat' first | (with_reducible first | exact Below.refl _ _ | assumption | refine below_drewN ?_ _ | refine Below.drew ?_ | refine Below.alloc ?_ ?_ _ | refine Below.setCell ?_ ?_ _) | omega | (simp; done) | (simp; omega)))⟩
theorem Right_str (t : ByteArray) (ht : t.size ≤ 1024) (w : World) : Calls Tryz.prog 93 #[(.agg #[.int .i64 4, .int .i64 0, .float .f64 0, .string (t), .slice none 0 0, .slice none 0 0])] w fun e w' => e = .returned (.bool true) ∧ Below w.heap.size w w' := by
 go_enter Tryz.func93, Tryz.ntmps93
 go_wp2_with fail; refine (right_str t ht 32 _).mono ?_; rintro e w2 ⟨rfl, hb⟩
 go_wp2_with fail; go_ret; refine ⟨rfl, Below.trans ?_ (hb.mono (by simp))⟩
 (repeat' first | (with_reducible first | exact Below.refl _ _ | assumption | refine below_drewN ?_ _ | refine Below.drew ?_ | refine Below.alloc ?_ ?_ _ | refine Below.setCell ?_ ?_ _) | omega | (simp; done) | (simp; omega))
theorem builder_belowQ {T e : TypeId} {B b : Nat} {bs : List Value} {w w' : World} (h : Lib.IsBuilder T e B b bs w) (hb : Below w.heap.size w w') : Lib.IsBuilder T e B b bs w' := by
 rcases h with ⟨h1, v, h2, h3, h4⟩ | ⟨h1, v, h2, h3, h4⟩
 · exact Or.inl ⟨h1, v, block_below h2 hb, own_below h3 hb, h4⟩
 · exact Or.inr ⟨h1, v, block_below h2 hb, own_below h3 hb, h4⟩
theorem show_str {w : World} {B b : Nat} (s : ByteArray) (hs : s.size ≤ 1024) (h : Lib.IsBuilder 61 5 B b [] w) (hB : B ≤ w.heap.size) : Calls Tryz.prog 94 #[.pointer (some ⟨b, 0, none⟩), (.agg #[.int .i64 4, .int .i64 0, .float .f64 0, .string (s), .slice none 0 0, .slice none 0 0])] w fun e w' =>
 e = .returned (.tuple #[]) ∧ Lib.IsBuilder 61 5 B b (Lib.byteCells (qB s)) w' ∧ Below B w w' := by
 have hb0 : Below w.heap.size w (w.alloc (.cells #[.int .i64 4, .int .i64 0, .float .f64 0, .string s, .slice none 0 0, .slice none 0 0] 122 (0, 0))) := (Below.refl _ w).alloc (Nat.le_refl _) _; have HBLD := Lib.hid h; have HQ := Lib.hid (fun W => quote_any s hs W); have hz := qB_len s; obtain ⟨R, hR⟩ : ∃ R : ByteArray, ⟨(qB s).toArray⟩ = R := ⟨_, rfl⟩; have hRs : R.size ≤ 3000 := by rw [← hR]; show (qB s).length ≤ 3000; omega
 have HRR : Hid ([] ++ Lib.strCells R = Lib.byteCells (qB s)) := Lib.hid (by rw [← hR, List.nil_append]; simp [Lib.strCells, Lib.byteCells]); rw [hR] at HQ; clear h hR hz; go_enter Tryz.func94, Tryz.ntmps94
 go_wp2_with fail; refine (HQ.out _).mono ?_; rintro e w1 ⟨rfl, hb1⟩; have hB1 := hb0.next hb1; have hbld : Lib.IsBuilder 61 5 B b [] w1 := builder_belowQ HBLD.out hB1
 go_wp2_with fail; refine (writeString_any B b [] R _ hbld (by simp; omega) (Nat.le_trans hB hB1.size)).mono ?_; rintro e w2 ⟨rfl, hbld2, hb2⟩
 go_wp2_with fail; refine bodyPost_end (results_none rfl _ _ _) rfl ?_; rw [HRR.out] at hbld2; exact ⟨rfl, Or.inr hbld2, (hB1.mono hB).trans hb2⟩
theorem Show_str {w : World} (s : ByteArray) (hs : s.size ≤ 1024) : Calls Tryz.prog 71 #[(.agg #[.int .i64 4, .int .i64 0, .float .f64 0, .string (s), .slice none 0 0, .slice none 0 0])] w fun e w' => e = .returned (.string ⟨(qB s).toArray⟩) ∧ Below w.heap.size w w' := by
 have hb0 : Below w.heap.size w (w.alloc (.cells #[.int .i64 4, .int .i64 0, .float .f64 0, .string s, .slice none 0 0, .slice none 0 0] 122 (0, 0))) := (Below.refl _ w).alloc (Nat.le_refl _) _; have hr0 := block_new w (.cells #[.int .i64 4, .int .i64 0, .float .f64 0, .string s, .slice none 0 0, .slice none 0 0] 122 (0, 0)) rfl; go_enter Tryz.func71, Tryz.ntmps71
 go_wp2_with fail; refine (Right_str s hs _).mono ?_; rintro e w1 ⟨rfl, hb1⟩; have hr1 := block_alloc (block_below hr0 hb1) (.cells #[.pointer none, .slice none 0 0] 61 (0, 0)); have hB1 := hb0.next hb1; have hbld := Lib.fresh_isBuilder 61 5 w1; have q0 := block_cell (i := 0) hr1 rfl; have q1 := block_cell (i := 1) hr1 rfl; have q2 := block_cell (i := 2) hr1 rfl; have q3 := block_cell (i := 3) hr1 rfl; have q4 := block_cell (i := 4) hr1 rfl; have q5 := block_cell (i := 5) hr1 rfl; clear hr0 hb0 hr1 hb1
 go_wp2_with fail; refine (show_str s hs hbld (by simp)).mono ?_; rintro e w2 ⟨rfl, hbld2, hb2⟩
 go_wp2_with fail; refine (Tryz.Builder_String_any w1.heap.size w1.heap.size (qB s) w2 hbld2 (by have := hb2.size; simp at this; omega)).mono ?_; rintro e w3 ⟨rfl, hb3⟩
 go_wp2_with fail; go_ret; exact ⟨rfl, hB1.trans ((((Below.refl w1.heap.size w1).alloc (Nat.le_refl _) _).trans (hb2.trans hb3)).mono hB1.size)⟩
theorem quoted_any (s : ByteArray) (hs : s.size ≤ 1024) (w : World) : Calls Tryz.prog 41 #[.string s] w fun e w' => e = .returned (.string ⟨(qB s).toArray⟩) ∧ Below w.heap.size w w' := by
 go_enter Tryz.func41, Tryz.ntmps41
 go_wp2_with fail; refine (Show_str s hs).mono ?_; rintro e w1 ⟨rfl, hb1⟩
 go_wp2_with fail; go_ret; exact ⟨rfl, hb1⟩
end Go.Proofs.YtkoghgnjjfnamaaGreatDoor
namespace Go.Proofs.YtkoghgnjjfnamaaGreatDoor
set_option maxRecDepth 100000
set_option maxHeartbeats 4000000
open Go.RowKit Go.Shelf
def atS (s : ByteArray) : ByteArray := ⟨(aB s).toArray⟩
theorem wattr_any {NG : Nat} {w : World} (hG : GP NG w) (s : ByteArray) (hpl : plQ s) : Calls Tryz.prog 43 #[.string s] w fun e w' => e = .returned (.string (atS s)) ∧ Below w.heap.size w w' := by
 by_cases hn : isNm s = true
 · have e : atS s = s := by unfold atS aB; rw [if_pos hn]; rfl
   rw [e]; exact pattr_any hG s hn
 · have e : atS s = ⟨(qB s).toArray⟩ := by unfold atS aB; rw [if_neg hn]
   rw [e]; have HN := Lib.hid (pname_any hG s); rw [show isNm s = false by simpa using hn] at HN; have HQ := Lib.hid (fun W => quoted_any s hpl.1 W); clear hn e hG; go_enter Tryz.func43, Tryz.ntmps43
   go_wp2_with fail; refine HN.out.mono ?_; rintro e w1 ⟨rfl, hb1⟩
   go_wp2_with fail; refine (HQ.out _).mono ?_; rintro e w2 ⟨rfl, hb2⟩
   go_wp2_with fail; go_ret; exact ⟨rfl, hb1.next hb2⟩
end Go.Proofs.YtkoghgnjjfnamaaGreatDoor
namespace Go.Proofs.YtkoghgnjjfnamaaGreatDoor
set_option maxRecDepth 100000
set_option maxHeartbeats 4000000
open Go.RowKit Go.Sort Go.Lib Go.Shelf
def Tryz.lays246_ren : Go.Shelf.Ren := ⟨fun | 246 => 66 | 283 => 85 | 284 => 86 | 285 => 87 | 286 => 88 | 129 => 110 | 317 => 109 | 318 => 111 | 319 => 112 | 320 => 113 | 337 => 129 | 338 => 130 | n => n, fun | 2 => 2 | 3 => 3 | 9 => 9 | 4 => 4 | 171 => 132 | 0 => 0 | 53 => 66 | 37 => 59 | 5 => 5 | 173 => 135 | 212 => 158 | 51 => 159 | 20 => 20 | 213 => 160 | 46 => 145 | 232 => 181 | 233 => 219 | n => n, fun | 17 => 1 | 18 => 8 | 19 => 9 | n => n⟩
theorem Tryz.lays246 : Go.Proofs.Lays.n246 Tryz.prog Tryz.lays246_ren := {
 mixed := by kernel_rfl
 f129 := Tryz.func110.trans (congrArg some (by kernel_rfl))
 f246 := Tryz.func66.trans (congrArg some (by kernel_rfl))
 f283 := Tryz.func85.trans (congrArg some (by kernel_rfl))
 f284 := Tryz.func86.trans (congrArg some (by kernel_rfl))
 f285 := Tryz.func87.trans (congrArg some (by kernel_rfl))
 f286 := Tryz.func88.trans (congrArg some (by kernel_rfl))
 f317 := Tryz.func109.trans (congrArg some (by kernel_rfl))
 f318 := Tryz.func111.trans (congrArg some (by kernel_rfl))
 f319 := Tryz.func112.trans (congrArg some (by kernel_rfl))
 f320 := Tryz.func113.trans (congrArg some (by kernel_rfl))
 f337 := Tryz.func129.trans (congrArg some (by kernel_rfl))
 f338 := Tryz.func130.trans (congrArg some (by kernel_rfl))
 t0 := Tryz.underlying0
 a0 := Tryz.isAgg0
 z0 := Tryz.sizeOf0
 v0 := Tryz.zeroValue0
 t2 := Tryz.underlying2
 a2 := Tryz.isAgg2
 z2 := Tryz.sizeOf2
 v2 := Tryz.zeroValue2
 t3 := Tryz.underlying3
 a3 := Tryz.isAgg3
 z3 := Tryz.sizeOf3
 v3 := Tryz.zeroValue3
 t4 := Tryz.underlying4
 a4 := Tryz.isAgg4
 z4 := Tryz.sizeOf4
 v4 := Tryz.zeroValue4
 t5 := Tryz.underlying5
 a5 := Tryz.isAgg5
 z5 := Tryz.sizeOf5
 v5 := Tryz.zeroValue5
 t9 := Tryz.underlying9
 a9 := Tryz.isAgg9
 z9 := Tryz.sizeOf9
 v9 := Tryz.zeroValue9
 t20 := Tryz.underlying20
 a20 := Tryz.isAgg20
 z20 := Tryz.sizeOf20
 v20 := Tryz.zeroValue20
 t37 := Tryz.underlying59
 a37 := Tryz.isAgg59
 z37 := Tryz.sizeOf59
 v37 := Tryz.zeroValue59
 t46 := Tryz.underlying145
 a46 := Tryz.isAgg145
 z46 := Tryz.sizeOf145
 v46 := Tryz.zeroValue145
 t51 := Tryz.underlying159
 a51 := Tryz.isAgg159
 z51 := Tryz.sizeOf159
 v51 := Tryz.zeroValue159
 t53 := Tryz.underlying66
 a53 := Tryz.isAgg66
 z53 := Tryz.sizeOf66
 v53 := Tryz.zeroValue66
 t171 := Tryz.underlying132
 a171 := Tryz.isAgg132
 z171 := Tryz.sizeOf132
 v171 := Tryz.zeroValue132
 t173 := Tryz.underlying135
 a173 := Tryz.isAgg135
 z173 := Tryz.sizeOf135
 v173 := Tryz.zeroValue135
 t212 := Tryz.underlying158
 a212 := Tryz.isAgg158
 z212 := Tryz.sizeOf158
 v212 := Tryz.zeroValue158
 t213 := Tryz.underlying160
 a213 := Tryz.isAgg160
 z213 := Tryz.sizeOf160
 t232 := Tryz.underlying181
 a232 := Tryz.isAgg181
 z232 := Tryz.sizeOf181
 v232 := Tryz.zeroValue181
 t233 := Tryz.underlying219
 a233 := Tryz.isAgg219
 z233 := Tryz.sizeOf219
 v233 := Tryz.zeroValue219
 g17 := by kernel_rfl
 g18 := by kernel_rfl
 g19 := by kernel_rfl }
theorem Tryz.internal_strconv_FormatInt_10_small (i : Nat) (hi : i < 100) (w : World) :
 Calls Tryz.prog 66 #[.int .i64 i, .int .i64 10] w fun e w' => e = .returned (.string ⟨(Lib.decDigits i).toArray⟩) ∧ w' = w := Any.internal_strconv_FormatInt_10_small Tryz.lays246 i hi w
end Go.Proofs.YtkoghgnjjfnamaaGreatDoor
