/- Wri, NamP, TreeP, PrintS: what is used of them. -/
import Derived.Test.YtkoghgnjjfnamaaGreatDoorShelf
import Derived.Lib.AppendStr
import Derived.Lib.Builder
import Derived.Lib.Walk
import Derived.Test.YtkoghgnjjfnamaaGreatDoorNameW
set_option linter.unusedSimpArgs false
set_option linter.unusedVariables false
namespace Go.Proofs.YtkoghgnjjfnamaaGreatDoor
set_option maxRecDepth 100000
set_option maxHeartbeats 2000000
open Go.RowKit Go.Shelf
theorem grown_bel {w w' : World} (hb : Below w.heap.size w w') : w.grownBy w' none := ⟨hb.os, hb.tape, hb.output, hb.size, fun k hk _ => hb.block k hk⟩
structure KW (g : Nat) (w w' : World) : Prop where
 below : Below g w w'
 keep : ∀ (k : Nat) (cs : Array Value) (ty : TypeId) (fr : Nat × Nat), k ≠ g → ty ≠ 5 → w.heap[k]? = some (.cells cs ty fr) → w'.heap[k]? = some (.cells cs ty fr)
theorem KW.refl (g : Nat) (w : World) : KW g w w := ⟨Below.refl _ _, fun _ _ _ _ _ _ h => h⟩
theorem KW.trans {g : Nat} {a b c : World} (h : KW g a b) (k : KW g b c) : KW g a c := ⟨h.below.trans k.below, fun i cs ty fr h1 h2 h3 => k.keep i cs ty fr h1 h2 (h.keep i cs ty fr h1 h2 h3)⟩
theorem KW.alloc {g : Nat} {a w : World} (h : KW g a w) (hg : g ≤ w.heap.size) (o : Obj) : KW g a (w.alloc o) :=
 ⟨h.below.alloc hg o, fun k cs ty fr h1 h2 h3 => by
  have h4 := h.keep k cs ty fr h1 h2 h3; rw [Below.heap_alloc _ _ _ (block_lt h4)]; exact h4⟩
theorem KW.setCell {g : Nat} {a w : World} (h : KW g a w) (off : Nat) (u : Value) : KW g a (w.setCell ⟨g, off, none⟩ u) :=
 ⟨h.below.setCell (p := ⟨g, off, none⟩) (Nat.le_refl _) u, fun k cs ty fr h1 h2 h3 => by rw [Below.heap_setCell _ _ _ _ h1]; exact h.keep k cs ty fr h1 h2 h3⟩
theorem KW.grown {g B : Nat} {a w w' : World} (h : KW g a w) {v : Value} {n : Nat} {xs : List Value} (hB : g ≤ B) (hg : g ≤ w.heap.size) (ho : w.ownsRow B 5 1 v n xs) (hgr : w.grownBy w' v.ownBlock) : KW g a w' :=
 ⟨h.below.grown hgr hg (fun k hk => Nat.le_trans hB (ho.lt k hk).1), fun k cs ty fr h1 h2 h3 => by
  have h4 := h.keep k cs ty fr h1 h2 h3; rw [hgr.block k (block_lt h4) (fun e => Lib.ownBlock_ne ho h4 h2 e.symm)]; exact h4⟩
theorem KW.cell {g : Nat} {w w' : World} (h : KW g w w') {k : Nat} {cs : Array Value} {ty : TypeId} {fr : Nat × Nat} (hk : k ≠ g) (ht : ty ≠ 5) (h1 : w.heap[k]? = some (.cells cs ty fr)) : w'.heap[k]? = some (.cells cs ty fr) := h.keep k cs ty fr hk ht h1
def WR (g : Nat) (fv : Value) (bs : List UInt8) (w : World) : Prop :=
 ∃ p v, (p = .pointer none ∨ p = .pointer (some ⟨g, 1, none⟩)) ∧ w.heap[g]? = some (.cells #[fv, p, v] 63 (0, 0)) ∧ w.ownsRow (g + 1) 5 1 v bs.length (Lib.byteCells bs)
theorem WR.lt {g : Nat} {fv : Value} {bs : List UInt8} {w : World} (h : WR g fv bs w) : g < w.heap.size := by
 obtain ⟨p, v, _, h1, _⟩ := h; exact block_lt h1
theorem WR.f {g : Nat} {fv : Value} {bs : List UInt8} {w : World} (h : WR g fv bs w) : w.cell? ⟨g, 0, none⟩ = some fv := by
 obtain ⟨p, v, _, h1, _⟩ := h; exact block_cell h1 rfl
theorem WR.alloc {g : Nat} {fv : Value} {bs : List UInt8} {w : World} (h : WR g fv bs w) (o : Obj) : WR g fv bs (w.alloc o) := by
 have hl := h.lt; obtain ⟨p, v, h0, h1, h2⟩ := h; exact ⟨p, v, h0, block_alloc h1 _, h2.alloc _⟩
theorem WR.keep {g : Nat} {fv : Value} {bs : List UInt8} {w w' : World} (h : WR g fv bs w) (hb : Below w.heap.size w w') : WR g fv bs w' := by
 have hl := h.lt; obtain ⟨p, v, h0, h1, h2⟩ := h; exact ⟨p, v, h0, (hb.block g hl).trans h1, h2.kept (grown_bel hb) (by cases v.ownBlock <;> simp)⟩
theorem KW.of_below {g : Nat} {w w' : World} (hg : g ≤ w.heap.size) (hb : Below w.heap.size w w') : KW g w w' :=
 ⟨hb.mono hg, fun k cs ty fr _ _ h => (hb.block k (block_lt h)).trans h⟩
def WU (g : Nat) (fv : Value) (bs : List UInt8) (w : World) : Prop :=
 ∃ v, w.heap[g]? = some (.cells #[fv, .pointer (some ⟨g, 1, none⟩), v] 63 (0, 0)) ∧ w.ownsRow (g + 1) 5 1 v bs.length (Lib.byteCells bs)
theorem WU.wr {g : Nat} {fv : Value} {bs : List UInt8} {w : World} (h : WU g fv bs w) : WR g fv bs w := by
 obtain ⟨v, h1, h2⟩ := h; exact ⟨_, v, Or.inr rfl, h1, h2⟩
theorem checkW_any (g : Nat) (fv : Value) (bs : List UInt8) (w : World) (h : WR g fv bs w) :
 Calls Tryz.prog 77 #[.pointer (some ⟨g, 1, none⟩)] w fun e w' => e = .returned (.tuple #[]) ∧ WU g fv bs w' ∧ KW g w w' := by
 obtain ⟨p, v, hp, hk, ho⟩ := h; have hlt := block_lt hk; obtain ⟨j, hj, hjs⟩ := Option.map_eq_some_iff.1 (show (Tryz.prog.info? 61).map (·.size) = some 2 by kernel_rfl); have c1 : w.cell? ⟨g, 1, none⟩ = some p := block_cell hk rfl; rcases hp with rfl | rfl
 · have hsh : w.shape? g = some (63, 3) := by simp [World.shape?, hk]
   have hfz : w.frozen? ⟨g, 1, none⟩ = false := block_free hk; have HK := Lib.hid hk; clear hk; go_enter Tryz.func77, Tryz.ntmps77; go_wp2; rw [Lib.run_to_unsafe w ⟨g, 1, none⟩ Tryz.underlying58 Tryz.underlying151 hj (by rw [hjs]; decide) hsh (by show 1 < 3; decide)]; simp only [Result.andThen]; rw [Oper.upon_value]; go_wp2; rw [run_callFunc_extern Tryz.func103 (by kernel_rfl) (by kernel_rfl) (by kernel_rfl) (e := Extern.AbiNoEscape.same) (by kernel_rfl)]; rw [Lib.run_noEscape]; simp only [Result.andThen]; rw [Oper.upon_value]; go_wp2; rw [Lib.run_from_unsafe w ⟨g, 1, none⟩ Tryz.underlying151 Tryz.underlying58 hj hsh (by kernel_rfl)]; simp only [Result.andThen]; rw [Oper.upon_value]; go_wp2; go_end0; refine ⟨rfl, ⟨v, ?_, ?_⟩, (KW.refl g w).setCell _ _⟩
   · have := block_set HK.out (i := 1) (.pointer (some ⟨g, 1, none⟩))
     simpa using this
   · exact ho.kept (row := some g) ⟨rfl, rfl, rfl, by simp [World.setCell], fun k _ hk => Below.heap_setCell _ _ _ _ (fun e => hk (by simp [e]))⟩ (Or.inr (fun e => by have := (ho.lt g e).1; omega))
 · have HK := Lib.hid hk
   clear hk; go_enter Tryz.func77, Tryz.ntmps77; go_wp2; rw [Lib.run_neq_ptr_same w _ Tryz.underlying58 hj]; go_wp2; go_end0; exact ⟨rfl, ⟨v, HK.out, ho⟩, KW.refl g w⟩
theorem writeS_any (g : Nat) (fv : Value) (bs : List UInt8) (s : ByteArray) (w : World) (h : WR g fv bs w) (hlen : bs.length + s.size ≤ 140737488355328) :
 Calls Tryz.prog 64 #[.pointer (some ⟨g, 1, none⟩), .string s] w fun e w' => (∃ v, e = .returned v) ∧ WU g fv (bs ++ s.data.toList) w' ∧ KW g w w' := by
 obtain ⟨i0, hi, hz0, hz1, hz2⟩ := info_parts infoB1; go_enter Tryz.func64, Tryz.ntmps64
 go_wp2_with fail; refine (checkW_any g fv bs _ h).mono ?_; rintro e w1 ⟨rfl, h1, hk1⟩; obtain ⟨v, hbk, hown⟩ := h1; have c1 : w1.cell? ⟨g, 1, none⟩ = some (.pointer (some ⟨g, 1, none⟩)) := by rw [Lib.cell_of_heap hbk]; rfl
 have c2 : w1.cell? ⟨g, 2, none⟩ = some v := by rw [Lib.cell_of_heap hbk]; rfl
 have hgl := block_lt hbk; have HBK := Lib.hid hbk; clear hbk
 go_wp2_with (at_builtin; refine Lib.wpList_append_own_string _ rfl _ _ 59 9 rfl (g + 1) 5 i0 Tryz.underlying59 Tryz.underlying9 hi hz0 hz1 hz2 _ _ _ rfl hown _ rfl ?c3 ?c4 ?c5 ?_)
 case c3 => unfold maxLen; omega
 case c4 => omega
 case c5 => omega
 intro v' w2 hown' hgrow _; have hb2 : w2.heap[g]? = some (.cells #[fv, .pointer (some ⟨g, 1, none⟩), v] 63 (0, 0)) := by
  rw [hgrow.block g (by omega) (fun e => by have := (hown.lt g e.symm).1; omega)]; exact HBK.out
 have d1 : w2.cell? ⟨g, 1, none⟩ = some (.pointer (some ⟨g, 1, none⟩)) := by rw [Lib.cell_of_heap hb2]; rfl
 have d2 : w2.cell? ⟨g, 2, none⟩ = some v := by rw [Lib.cell_of_heap hb2]; rfl
 have f2 : w2.frozen? ⟨g, 2, none⟩ = false := Lib.frozen_of_heap hb2 2; have HB2 := Lib.hid hb2; clear hb2; obtain ⟨va, vc, rfl⟩ := own_shape hown'; go_wp2; go_ret2; refine ⟨⟨_, rfl⟩, ⟨.slice va (bs.length + s.size) vc, ?_, ?_⟩, (hk1.grown (Nat.le_succ g) (by omega) hown hgrow).setCell _ _⟩
 · have := block_set HB2.out (i := 2) (.slice va (bs.length + s.size) vc)
   simpa using this
 · have h3 := hown'.kept (w' := w2.setCell ⟨g, 2, none⟩ (.slice va (bs.length + s.size) vc)) (row := some g) ⟨rfl, rfl, rfl, by simp [World.setCell], fun k _ hk => Below.heap_setCell _ _ _ _ (fun e => hk (by simp [e]))⟩ (Or.inr (fun e => by have := (hown'.lt g e).1; omega))
   have e1 : (bs ++ s.data.toList).length = bs.length + s.size := by rw [List.length_append, Array.length_toList]; rfl
   have e2 : Lib.byteCells (bs ++ s.data.toList) = Lib.byteCells bs ++ Lib.strCells s := by simp [Lib.byteCells, Lib.strCells]
   rw [e1, e2]; exact h3
open Go.RowKit
theorem kw_all : (kws.all fun k => !kdR (parseP pfA k)) = true := by kernel_rfl
theorem kw_no {s : ByteArray} (h : kwB s = true) : kdR (parseP pfA s) = false := by
 unfold kwB at h; rw [List.any_eq_true] at h; obtain ⟨k, hk, he⟩ := h; have e : s = k := by
  have he : s.toList = k.toList := by simpa using he
  rw [ByteArray.toList_eq, ByteArray.toList_eq] at he; exact ba_ext he
 subst e
 have := List.all_eq_true.1 kw_all s hk; simpa using this
theorem top32 (ts : List Tok) : (Lv 32).top ts = topP (Lv 31) ts := rfl
theorem tokP_nm {pf : ByteArray → Nat} {s : ByteArray} {p : Nat} {t : Tok} {q : Nat} (h : tokP pf s p = .ok (t, q)) (h1 : t.kind = 1) : kwB t.text = false → nmQ t.text := by
 intro hkw; unfold tokP at h; split at h
 · cases h
 · rename_i c hbt
   split at h
   · cases h
   · split at h
     · cases h
     · split at h
       · rename_i hlet
         split at h
         · cases h
         · rename_i hlen
           cases h; obtain ⟨l, e1, h2, h3⟩ := run_cons hbt (letter_more c hlet); exact ⟨c, l, by rw [← e1], hlet, h2, by omega, hkw⟩
       · exfalso
         split at h
         · unfold numP at h
           split at h
           · cases h
           · split at h
             · split at h
               · cases h
               · split at h
                 · cases h
                 · cases h
                   cases h1
             · split at h
               · cases h
                 cases h1
               · cases h
         · split at h
           · unfold textP at h
             split at h
             · cases h
               cases h1
             · cases h
           · unfold signP at h
             split at h
             · cases h
               cases h1
             · cases h
theorem nm_of_is {s : ByteArray} (h : isNm s = true) : nmQ s := by
 unfold isNm nmR at h; split at h
 · rename_i t0 e hl
   split at h
   · rename_i hk
     obtain ⟨h1, h2⟩ := hk; obtain ⟨hz, hx⟩ := lexP_iff.1 hl; cases hx with
     | tok a b c =>
       have hkw : kwB s = false := by
        cases hkw : kwB s with
        | false => rfl
        | true =>
          rw [kw_no hkw] at h; cases h
       have := tokP_nm b h1; rw [h2] at this; exact this hkw
   · cases h
 · cases h
def aB (s : ByteArray) : List UInt8 := if isNm s then strU s else qB s
def aT (s : ByteArray) (p : Nat) : Tok := ⟨if isNm s then 1 else 4, s, 0, 0, p⟩
theorem aB_len (s : ByteArray) : (aB s).length ≤ 2 * s.size + 2 := by
 unfold aB; split
 · have : (strU s).length = s.size := by unfold strU; exact Array.length_toList
   omega
 · exact qB_len s
theorem lx_attr {s s' : ByteArray} {p : Nat} {r : List UInt8} {tl : List Tok} (hpl : plQ s) (h : s'.data.toList.drop p = aB s ++ r) (hr : ∀ x, r[0]? = some x → moreB x = false) (ht : Lx pfA s' (p + (aB s).length) tl) : Lx pfA s' p (aT s p :: tl) := by
 unfold aB at h ht; unfold aT; by_cases hn : isNm s = true
 · rw [if_pos hn] at h ht ⊢
   obtain ⟨c, l, rfl, h1, h2, h3, h4⟩ := nm_of_is hn; exact lx_name (c := c) (l := l) (r := r) (by rw [h]; rfl) h1 h2 hr h3 (by rw [show (strU ⟨(c :: l).toArray⟩) = c :: l from rfl] at ht; exact ht)
 · rw [if_neg hn] at h ht ⊢
   have hq : s'.data.toList.drop p = 34 :: (qeL (strU s) ++ 34 :: r) := by rw [h]; unfold qB; simp
   obtain ⟨h34, hd, _⟩ := dr_bt hq; have h2 : textP s' p = .ok (⟨4, s, 0, 0, p⟩, p + (qB s).length) := by
    unfold textP; rw [hd, qe_read (strU s) (p + 1) [] (fun c hc => hpl.2 c hc) (by
     have h1 : (strU s).length = s.size := by unfold strU; exact Array.length_toList
     have h2 := hpl.1; rw [h1, List.length_nil]
     omega)]
    have e : (⟨(([] : List UInt8) ++ strU s).toArray⟩ : ByteArray) = s := by simp [strU]
    show Except.ok _ = Except.ok _; rw [e]; have e2 : p + 1 + (qeL (strU s)).length + 1 = p + (qB s).length := by unfold qB; simp; omega
    rw [e2]
   refine .tok (.here p) (j := p + (qB s).length) ?_ ht; unfold tokP; rw [h34]; exact h2
theorem aT_is (s : ByteArray) (p : Nat) : (nameT (aT s p) || decide ((aT s p).kind = 4)) = true := by
 unfold aT; by_cases hn : isNm s = true
 · obtain ⟨c, l, _, _, _, _, hk⟩ := nm_of_is hn
   rw [if_pos hn]; unfold nameT; simp [hk]
 · rw [if_neg hn]
   simp [nameT]
theorem aT_attr (s : ByteArray) (p : Nat) (us : List Tok) : attrP (aT s p :: us) = .ok (s, us) := by
 unfold attrP; simp only
 rw [if_pos (aT_is s p)]; rfl
theorem aT_inh (s : ByteArray) (p : Nat) : isT ⟨#[105, 110, 104, 101, 114, 105, 116]⟩ (aT s p) = false := by
 unfold aT isT; by_cases hn : isNm s = true
 · obtain ⟨c, l, _, _, _, _, hk⟩ := nm_of_is hn
   rw [if_pos hn, kw_ne hk (by kernel_rfl)]; rfl
 · rw [if_neg hn]
   simp
theorem bind_one {m pl : Nat} (s : ByteArray) (a q r u : Nat) (us : List Tok) :
 bindP (Lv (m + 1)).top [⟨[], [], pl⟩] (aT s a :: sgT ⟨#[61]⟩ q :: inT 1 r :: sgT ⟨#[59]⟩ u :: us) = .ok ([⟨[s], [.leaf (inN 1 r)], pl⟩], us) := by
 unfold bindP; rw [aT_attr]; simp only
 rw [path_stop]; simp only
 rw [need_sg (by kernel_rfl)]; simp only
 have hI : Inert (sgT ⟨#[59]⟩ u :: us) := ⟨_, _, rfl, Or.inr ⟨rfl, by simp [sgT]⟩⟩; rw [show ([s] : List ByteArray).dropLast = [] from rfl]; unfold walkP; simp only
 rw [show (([] : List ByteArray).isEmpty && hasP [⟨[], [], pl⟩] 0 (([s] : List ByteArray).getLast?.getD ⟨#[]⟩)) = false from rfl]; simp only [Bool.false_eq_true, if_false]; rw [top_int m 1 r hI]; simp only
 rw [need_sg (by kernel_rfl)]; rfl
def setN (s : ByteArray) (p r : Nat) : T := .mk 6 ⟨#[]⟩ 0 0 [s] p [inN 1 r]
theorem set_one {m : Nat} (s : ByteArray) (p a q r u v : Nat) (rest : List Tok) :
 atomP (Lv (m + 1)) (sgT ⟨#[123]⟩ p :: aT s a :: sgT ⟨#[61]⟩ q :: inT 1 r :: sgT ⟨#[59]⟩ u :: sgT ⟨#[125]⟩ v :: rest) = .ok (setN s p r, rest) :=
 (br_set (aT_is s a) (aT_inh s a) (by simp)).2 _ (bind_one s a q r u _)
theorem up_ok {L : PF} {ts us : List Tok} {a : T} (hx : Nx 8 us) (h : hasPr L ts = .ok (a, us)) (hm : isP ⟨#[45]⟩ ts = false) (hn : isP ⟨#[33]⟩ ts = false) : orP L ts = .ok (a, us) := by
 refine hx.xor (hx.xand (hx.xeq (hx.xcmp (hx.xupd (leftP_no (leftP_no (rightP_no ?_ (hx.cat (by omega))) (hx.mul (by omega))) (hx.add (by omega))) hn (by omega)) (by omega)) (by omega)) (by omega)) (by omega); unfold negP; rw [prefixP_no hm]; exact h
theorem sig_dot (r : List UInt8) : signL (46 :: r) = some ⟨#[46]⟩ := by kernel_rfl
theorem sig_qm (r : List UInt8) : signL (63 :: r) = some ⟨#[63]⟩ := by kernel_rfl
theorem sig_brace (r : List UInt8) : signL (123 :: r) = some ⟨#[123]⟩ := by kernel_rfl
theorem sig_brace2 (r : List UInt8) : signL (125 :: r) = some ⟨#[125]⟩ := by kernel_rfl
def setB (s : ByteArray) : List UInt8 := 123 :: 32 :: (aB s ++ [32, 61, 32, 49, 59, 32, 125])
theorem lx_set {s s' : ByteArray} {p : Nat} {r : List UInt8} {tl : List Tok} (hpl : plQ s) (h : s'.data.toList.drop p = setB s ++ r) (ht : Lx pfA s' (p + (setB s).length) tl) :
 ∃ a q n u v, Lx pfA s' p (sgT ⟨#[123]⟩ p :: aT s a :: sgT ⟨#[61]⟩ q :: inT 1 n :: sgT ⟨#[59]⟩ u :: sgT ⟨#[125]⟩ v :: tl) := by
 have d0 : s'.data.toList.drop p = 123 :: 32 :: (aB s ++ (32 :: 61 :: 32 :: UInt8.ofNat (48 + 1 % 10) :: 59 :: 32 :: 125 :: r)) := by rw [h]; simp [setB]
 obtain ⟨_, d1, _⟩ := dr_bt d0; obtain ⟨_, d2, _⟩ := dr_bt d1; have d3 := dr_add d2; obtain ⟨_, d4, _⟩ := dr_bt d3; obtain ⟨_, d5, _⟩ := dr_bt d4; obtain ⟨_, d6, _⟩ := dr_bt d5; obtain ⟨_, d7, _⟩ := dr_bt d6; obtain ⟨_, d8, _⟩ := dr_bt d7; obtain ⟨_, d9, _⟩ := dr_bt d8; have e : p + (setB s).length = p + 1 + 1 + (aB s).length + 1 + 1 + 1 + 1 + 1 + 1 + 1 := by simp [setB]; omega
 rw [e] at ht; have k9 := lx_sign (pf := pfA) d9 rfl (sig_brace2 _) ht; have k8 := lx_blank (pf := pfA) d8 rfl k9; have k7 := lx_sign (pf := pfA) d7 rfl (sig_semi _) k8; have k6 := lx_digit (pf := pfA) d6 (by rfl) k7; have k5 := lx_blank (pf := pfA) d5 rfl k6; have k4 := lx_sign (pf := pfA) d4 rfl (by kernel_rfl : signL (61 :: 32 :: _) = some ⟨#[61]⟩) k5; have k3 := lx_blank (pf := pfA) d3 rfl k4; have k2 := lx_attr hpl d2 (by intro x hx; cases hx; rfl) k3; have k1 := lx_blank (pf := pfA) d1 rfl k2; exact ⟨_, _, _, _, _, lx_sign (pf := pfA) d0 rfl (sig_brace _) k1⟩
def selB (s : ByteArray) : ByteArray := ⟨(setB s ++ 46 :: aB s).toArray⟩
def hasB (s : ByteArray) : ByteArray := ⟨(setB s ++ 32 :: 63 :: 32 :: aB s).toArray⟩
def is3 (s : ByteArray) (k : Int) (l : List Nd) : Prop := ∃ x y p, l = [x, y, ⟨k, s, 0, 0, [], [1], p⟩] ∧ y.names = [s]
theorem sel_read {s : ByteArray} (hpl : plQ s) (hz : (selB s).size ≤ 4096) : ∃ l, parseP pfA (selB s) = .ok l ∧ is3 s 8 l := by
 have hd : (selB s).data.toList.drop 0 = setB s ++ 46 :: aB s := by simp [selB]
 have d1 := dr_add hd; obtain ⟨_, d2, _⟩ := dr_bt d1; have hsz : (selB s).size = 0 + (setB s).length + 1 + (aB s).length := by show (setB s ++ 46 :: aB s).length = _; simp; omega
 have k2 := lx_attr (s' := selB s) (r := []) hpl (by rw [d2]; simp) (by intro x hx; cases hx) (lx_end hsz.symm); have k1 := lx_sign (pf := pfA) d1 rfl (sig_dot _) k2; obtain ⟨a, q, n, u, v, k0⟩ := lx_set hpl hd k1; rw [parse_of hz k0]; have hI : Inert [⟨0, ⟨#[]⟩, 0, 0, (selB s).size⟩] := inert_end _; have hx := inert_nx hI; have htop : (Lv 32).top (sgT ⟨#[123]⟩ 0 :: aT s a :: sgT ⟨#[61]⟩ q :: inT 1 n :: sgT ⟨#[59]⟩ u :: sgT ⟨#[125]⟩ v :: sgT ⟨#[46]⟩ (0 + (setB s).length) :: aT s (0 + (setB s).length + 1) :: [⟨0, ⟨#[]⟩, 0, 0, (selB s).size⟩]) = .ok (.mk 8 s 0 0 [] (0 + (setB s).length) [setN s 0 n], [⟨0, ⟨#[]⟩, 0, 0, (selB s).size⟩]) := by
  rw [top32]; rw [top_sign (by kernel_rfl) (by kernel_rfl) (by kernel_rfl) (by kernel_rfl)]; refine up_ok hx (hasP_ok (callP_ok ?_ hx.beg) hx.qm) (by show isT ⟨#[45]⟩ (sgT ⟨#[123]⟩ 0) = false; kernel_rfl) (by show isT ⟨#[33]⟩ (sgT ⟨#[123]⟩ 0) = false; kernel_rfl); unfold selP; rw [set_one (m := 30)]; show selL (Lv 31) 3 (setN s 0 n) (sgT ⟨#[46]⟩ (0 + (setB s).length) :: _) = _; unfold selL; rw [if_pos (show isP ⟨#[46]⟩ (sgT ⟨#[46]⟩ (0 + (setB s).length) :: _) = true by show isT ⟨#[46]⟩ (sgT ⟨#[46]⟩ _) = true; kernel_rfl)]; rw [List.tail_cons, aT_attr]; simp only
  rw [if_neg (by show ¬ isT ⟨#[111, 114]⟩ ⟨0, ⟨#[]⟩, 0, 0, (selB s).size⟩ = true; simp [isT])]; rw [selL_no _ hx.dot]; rfl
 refine ⟨[⟨1, ⟨#[]⟩, 1, 0, [], [], n⟩, ⟨6, ⟨#[]⟩, 0, 0, [s], [0], 0⟩, ⟨8, s, 0, 0, [], [1], 0 + (setB s).length⟩], ?_, ⟨_, _, _, rfl, rfl⟩⟩; refine Eq.trans (congrArg parseR htop) ?_; rw [parse_end rfl, if_neg (by simp [cnt, cntK, setN, inN])]; rfl
theorem has_read {s : ByteArray} (hpl : plQ s) (hz : (hasB s).size ≤ 4096) : ∃ l, parseP pfA (hasB s) = .ok l ∧ is3 s 9 l := by
 have hd : (hasB s).data.toList.drop 0 = setB s ++ 32 :: 63 :: 32 :: aB s := by simp [hasB]
 have d0 := dr_add hd; obtain ⟨_, d1, _⟩ := dr_bt d0; obtain ⟨_, d2, _⟩ := dr_bt d1; obtain ⟨_, d3, _⟩ := dr_bt d2; have hsz : (hasB s).size = 0 + (setB s).length + 1 + 1 + 1 + (aB s).length := by show (setB s ++ 32 :: 63 :: 32 :: aB s).length = _; simp; omega
 have k3 := lx_attr (s' := hasB s) (r := []) hpl (by rw [d3]; simp) (by intro x hx; cases hx) (lx_end hsz.symm); have k2 := lx_blank (pf := pfA) d2 rfl k3; have k1 := lx_sign (pf := pfA) d1 rfl (sig_qm _) k2; have k1 := lx_blank (pf := pfA) d0 rfl k1; obtain ⟨a, q, n, u, v, k0⟩ := lx_set hpl hd k1; rw [parse_of hz k0]; have hI : Inert [⟨0, ⟨#[]⟩, 0, 0, (hasB s).size⟩] := inert_end _; have hx := inert_nx hI; have htop : (Lv 32).top (sgT ⟨#[123]⟩ 0 :: aT s a :: sgT ⟨#[61]⟩ q :: inT 1 n :: sgT ⟨#[59]⟩ u :: sgT ⟨#[125]⟩ v :: sgT ⟨#[63]⟩ (0 + (setB s).length + 1) :: aT s (0 + (setB s).length + 1 + 1 + 1) :: [⟨0, ⟨#[]⟩, 0, 0, (hasB s).size⟩]) = .ok (.mk 9 s 0 0 [] (0 + (setB s).length + 1) [setN s 0 n], [⟨0, ⟨#[]⟩, 0, 0, (hasB s).size⟩]) := by
  rw [top32]; rw [top_sign (by kernel_rfl) (by kernel_rfl) (by kernel_rfl) (by kernel_rfl)]; refine up_ok hx ?_ (by show isT ⟨#[45]⟩ (sgT ⟨#[123]⟩ 0) = false; kernel_rfl) (by show isT ⟨#[33]⟩ (sgT ⟨#[123]⟩ 0) = false; kernel_rfl); unfold hasPr; rw [callP_ok (selP_ok (set_one (m := 30) s 0 a q n u v _) (by show isT ⟨#[46]⟩ (sgT ⟨#[63]⟩ _) = false; kernel_rfl)) (by show begT (sgT ⟨#[63]⟩ _) = false; kernel_rfl)]; simp only
  rw [if_pos (show isP ⟨#[63]⟩ (sgT ⟨#[63]⟩ (0 + (setB s).length + 1) :: _) = true by show isT ⟨#[63]⟩ (sgT ⟨#[63]⟩ _) = true; kernel_rfl)]; rw [List.tail_cons, aT_attr]; rfl
 refine ⟨[⟨1, ⟨#[]⟩, 1, 0, [], [], n⟩, ⟨6, ⟨#[]⟩, 0, 0, [s], [0], 0⟩, ⟨9, s, 0, 0, [], [1], 0 + (setB s).length + 1⟩], ?_, ⟨_, _, _, rfl, rfl⟩⟩; refine Eq.trans (congrArg parseR htop) ?_; rw [parse_end rfl, if_neg (by simp [cnt, cntK, setN, inN])]; rfl
theorem long_read {s : ByteArray} (h : 4096 < s.size) : ∃ e, parseP pfA s = .error e := by
 unfold parseP lexP; rw [if_pos h]; exact ⟨_, rfl⟩
theorem selB_size (s : ByteArray) : (selB s).size = 2 * (aB s).length + 10 := by
 show (setB s ++ 46 :: aB s).length = _; simp [setB]
 omega
theorem hasB_size (s : ByteArray) : (hasB s).size = 2 * (aB s).length + 12 := by
 show (setB s ++ 32 :: 63 :: 32 :: aB s).length = _; simp [setB]
 omega
open Go.RowKit
mutual
def PrOK : T → Prop
 | .mk k tx _ _ ns _ ks => ns = [] ∧ ((k = 4 ∧ ks = []) ∨ (k = 8 ∧ isNm tx = true ∧ ks.length = 1 ∧ ∀ t ∈ ks, t.kind ≠ 8) ∨ (k = 18 ∧ tx.size ≤ 1024 ∧ ks.length = 2)) ∧ PrOKs ks
def PrOKs : List T → Prop
 | [] => True
 | t :: ks => PrOK t ∧ PrOKs ks
end
theorem prOK_mk {k : Int} {tx : ByteArray} {n : Int} {x : Nat} {ns : List ByteArray} {p : Nat} {ks : List T} : PrOK (.mk k tx n x ns p ks) ↔ ns = [] ∧ ((k = 4 ∧ ks = []) ∨ (k = 8 ∧ isNm tx = true ∧ ks.length = 1 ∧ ∀ t ∈ ks, t.kind ≠ 8) ∨ (k = 18 ∧ tx.size ≤ 1024 ∧ ks.length = 2)) ∧ PrOKs ks := by simp [PrOK]
theorem prOKs_cons {t : T} {ks : List T} : PrOKs (t :: ks) ↔ PrOK t ∧ PrOKs ks := by simp [PrOKs]
theorem nodesK_kids : ∀ (ks : List T) (b : Nat), (nodesK ks b []).2.Pairwise (· < ·) ∧ ∀ k ∈ (nodesK ks b []).2, b ≤ k ∧ k < b + (nodesK ks b []).1.length
 | [], b => by simp [nodesK_nil]
 | t :: ks, b => by
   obtain ⟨l0, x, hx, _, _⟩ := root_of t b; have hl : 0 < (nodes t b).length := by rw [hx]; simp
   obtain ⟨h1, h2⟩ := nodesK_kids ks (b + (nodes t b).length); rw [nodesK_cons]; simp only [List.nil_append]; rw [nodesK_snd ks _ [_], nodesK_fst ks _ _ []]; refine ⟨?_, fun k hk => ?_⟩
   · rw [List.singleton_append, List.pairwise_cons]
     exact ⟨fun k hk => by have := (h2 k hk).1; omega, h1⟩
   · rw [List.length_append]
     rcases List.mem_append.1 hk with hk | hk
     · have := List.mem_singleton.1 hk
       omega
     · have := h2 k hk
       omega
def GoodN (x : Nd) (i : Nat) : Prop :=
 OkN (QR fun _ => False) x.kind x.text x.int x.flt x.names x.kids.length ∧ kP x.kind ∧ x.names = [] ∧ x.kids.Pairwise (· < ·) ∧ x.kids.length ≤ 2 ∧ ∀ k ∈ x.kids, k < i
mutual
theorem nodes_in : ∀ (t : T) (b : Nat), RTr (QR fun _ => False) t → PrOK t → ∀ (j : Nat) (x : Nd), (nodes t b)[j]? = some x → GoodN x (b + j)
 | .mk k tx n f ns p ks, b, hr, ho, j, x, hj => by
   obtain ⟨h1, h2, h3, h4⟩ := rt_mk.1 hr; obtain ⟨hns, hc, hks⟩ := prOK_mk.1 ho; rw [nodes_mk] at hj; by_cases hlt : j < (nodesK ks b []).1.length
   · rw [List.getElem?_append_left hlt] at hj
     exact nodesK_in ks b h4 hks j x hj
   · have hlt2 := (List.getElem?_eq_some_iff.1 hj).1
     simp only [List.length_append, List.length_cons, List.length_nil] at hlt2; obtain rfl : j = (nodesK ks b []).1.length := by omega
     rw [List.getElem?_append_right (Nat.le_refl _), Nat.sub_self] at hj; simp only [List.getElem?_cons_zero, Option.some.injEq] at hj; subst hj; have hkl : (nodesK ks b []).2.length = ks.length := by rw [nodesK_klen]; simp
     obtain ⟨q1, q2⟩ := nodesK_kids ks b; refine ⟨by rw [hkl]; exact h1, ?_, hns, q1, ?_, fun k hk => (q2 k hk).2⟩
     · rcases hc with ⟨rfl, _⟩ | ⟨rfl, _⟩ | ⟨rfl, _⟩
       · exact Or.inr (Or.inl rfl)
       · exact Or.inr (Or.inr (Or.inr (Or.inl rfl)))
       · exact Or.inr (Or.inr (Or.inr (Or.inr (Or.inr rfl))))
     · show (nodesK ks b []).2.length ≤ 2
       rw [hkl]; rcases hc with ⟨_, rfl⟩ | ⟨_, _, h, _⟩ | ⟨_, _, h⟩
       · simp
       · omega
       · omega
theorem nodesK_in : ∀ (ks : List T) (b : Nat), RTK (QR fun _ => False) ks → PrOKs ks → ∀ (j : Nat) (x : Nd), (nodesK ks b []).1[j]? = some x → GoodN x (b + j)
 | [], b, _, _, j, x, hj => by simp [nodesK_nil] at hj
 | t :: ks, b, hr, ho, j, x, hj => by
   have h' : RTr (QR fun _ => False) t ∧ RTK (QR fun _ => False) ks := by simpa [RTK] using hr
   obtain ⟨o1, o2⟩ := prOKs_cons.1 ho; rw [nodesK_cons] at hj; simp only at hj; rw [nodesK_fst ks _ _ []] at hj; by_cases hlt : j < (nodes t b).length
   · rw [List.getElem?_append_left hlt] at hj
     exact nodes_in t b h'.1 o1 j x hj
   · rw [List.getElem?_append_right (by omega)] at hj
     have := nodesK_in ks (b + (nodes t b).length) h'.2 o2 (j - (nodes t b).length) x hj; rwa [show b + (nodes t b).length + (j - (nodes t b).length) = b + j by omega] at this
end
theorem okN_flt {k : Int} {tx : ByteArray} {n : Int} {x : Nat} {ns : List ByteArray} {m : Nat} (h : OkN (QR fun _ => False) k tx n x ns m) : x = 0 := by
 cases h with
 | flt h => exact h.elim
 | _ => rfl
theorem strW_any {g : Nat} {fv : Value} {l : List UInt8} {w : World} (h : WR g fv l w) (h0 : l ≠ []) :
 Calls Tryz.prog 19 #[.pointer (some ⟨g, 1, none⟩)] w fun e w' => e = .returned (.string ⟨l.toArray⟩) ∧ Below g w w' := by
 obtain ⟨p, v, hp, hbk, hown⟩ := h; have hl0 : l.length ≠ 0 := by simpa using h0
 obtain ⟨b, cap, cur, rfl, hbg, hg, hnc, hcm, hcs, htake⟩ : ∃ b cap cur, v = .slice (some ⟨b, 0, none⟩) l.length cap ∧ g + 1 ≤ b ∧ w.heap[b]? = some (.cells cur 5 (0, 0)) ∧ l.length ≤ cap ∧ cap ≤ maxLen ∧ cur.size = cap * 1 ∧ cur.toList.take (l.length * 1) = Lib.byteCells l := by
  rcases hown.2 with ⟨_, hz⟩ | ⟨b, cap, cur, hv, r⟩
  · exact absurd hz hl0
  · exact ⟨b, cap, cur, hv, r⟩
 have c1 : w.drew.cell? ⟨g, 2, none⟩ = some (.slice (some ⟨b, 0, none⟩) l.length cap) := by
  have : w.drew.heap[g]? = some (.cells #[fv, p, .slice (some ⟨b, 0, none⟩) l.length cap] 63 (0, 0)) := hbk; rw [Lib.cell_of_heap this]; rfl
 have hSD : (Builtin.unsafeSliceData_ #[59] 95 #[.slice (some ⟨b, 0, none⟩) l.length cap]).run Tryz.prog w.drew = .ok (.pointer (some ⟨b, 0, none⟩)) w.drew :=
  Lib.run_unsafeSliceData_row _ _ _ _ _ _ (by omega)
 have hUS : (Builtin.unsafeString_ #[95, 3] 9 #[.pointer (some ⟨b, 0, none⟩), .int .i64 l.length]).run Tryz.prog w.drew = .ok (.string ⟨l.toArray⟩) (w.drew.freeze ⟨b, 0, none⟩ l.length) := by
  refine Lib.run_unsafeString_row w.drew 95 3 9 5 Tryz.underlying95 (by kernel_rfl) b cur.size (by have hg' : w.drew.heap[b]? = some (.cells cur 5 (0, 0)) := hg; simp [World.shape?, hg']) l h0 (by omega) (by unfold maxLen at hcm; omega) ?_; intro j x hx; exact hown.cells (g := b) rfl j (.int .u8 x.toNat) (by simp [Lib.byteCells, hx])
 clear hown htake hbk; go_enter Tryz.func19, Tryz.ntmps19; go_wp2; go_region
 all_goals (go_wp2; go_ret; exact ⟨rfl, Lib.below_freeze (Below.drew (Below.refl g w)) (p := ⟨b, 0, none⟩) (by show g ≤ b; omega) _⟩)
theorem WR.new (g : Nat) (fv : Value) (w : World) (hg : g = w.heap.size) : WR g fv [] (w.alloc (.cells #[fv, .pointer none, .slice none 0 0] 63)) :=
 ⟨.pointer none, .slice none 0 0, Or.inl rfl, block_new _ _ hg, World.ownsRow_nil _ _ _ _⟩
end Go.Proofs.YtkoghgnjjfnamaaGreatDoor
