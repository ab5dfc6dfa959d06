/- Gt, PLaidN: what is used of them. -/
import Derived.LaidLaws
import Derived.LaidMore
import Derived.ProofKit
import Derived.OpenShut
import Derived.Test.YtkoghgnjjfnamaaGreatDoorKc
import Derived.Test.YtkoghgnjjfnamaaGreatDoorRows
import Derived.LaidHandle
import Derived.Lay
import Derived.Stop.Joined
import Derived.ChangeMaps5
import Derived.Shelf.Vars
namespace Go.Proofs.YtkoghgnjjfnamaaGreatDoor
set_option maxRecDepth 100000
set_option maxHeartbeats 1000000
open Go.ChangeShapes Go.WideShapes Go.ChangeAt Go.RowKit
section
variable {enc : TypeId × Value → Unit} {w : World} {sp : Nat → Bool} {fuel : Nat} {cs : List Value} {p : List MemPlace}
theorem ga_lit {t : TypeId} {k : IntKind} {n : Int} (ht : Tryz.prog.underlying t = some (.int k)) (h : DataW.trod enc Tryz.prog w 0 sp false fuel t cs = some (.lit (.int k n), p)) : cs = [.int k n] := by
 obtain ⟨v, e, k0, _⟩ := DataW.trod_int ht h
 have := congrArg Prod.fst k0; simp at this; subst this; exact e
theorem ga_bool {t : TypeId} {b : Bool} (ht : Tryz.prog.underlying t = some .bool) (h : DataW.trod enc Tryz.prog w 0 sp false fuel t cs = some (.lit (.bool b), p)) : cs = [.bool b] := by
 obtain ⟨v, e, k0⟩ := DataW.trod_bool ht h
 have := congrArg Prod.fst k0; simp at this; subst this; exact e
theorem ga_str {t : TypeId} {l : List UInt8} (ht : Tryz.prog.underlying t = some .string) (h : DataW.trod enc Tryz.prog w 0 sp false fuel t cs = some (.lit (.string l), p)) : cs = [.string ⟨l.toArray⟩] := by
 obtain ⟨v, e, k0, _⟩ := DataW.trod_string ht h
 have := congrArg Prod.fst k0; simp at this; subst this; exact e
theorem ga_flt {b : Nat} (h : DataW.trod enc Tryz.prog w 0 sp false fuel 33 cs = some (.lit (.float .f64 b), p)) : cs = [.float .f64 b] := by
 have ht := Tryz.underlying33; cases fuel with
 | zero => simp [DataW.trod] at h
 | succ fuel =>
   match cs with
   | [] => simp [DataW.trod, ht] at h
   | _ :: _ :: _ => simp [DataW.trod, ht] at h
   | [c] =>
     cases c <;> simp [DataW.trod, ht] at h
     obtain ⟨⟨rfl, _⟩, rfl, _⟩ := h; rfl
theorem ga_one {l : List Value} {i : Nat} {v : Value} (h : (l.drop i).take 1 = [v]) : l[i]? = some v := by
 have := congrArg (·[0]?) h; simpa [List.getElem?_take, List.getElem?_drop] using this
theorem ga_types : Tryz.prog.cellsOf 261 = 2 ∧ Tryz.prog.cellsOf 66 = 1 ∧ Tryz.prog.cellsOf 267 = 2 ∧ Tryz.prog.cellsOf 3 = 1 ∧ Tryz.prog.cellsOf 9 = 1 ∧ Tryz.prog.cellsOf 145 = 1 := ⟨by kernel_rfl, by kernel_rfl, by kernel_rfl, by kernel_rfl, by kernel_rfl, by kernel_rfl⟩
theorem ga_rows : (Go.Pinned.pow10Rows).length = 696 := by kernel_rfl
theorem ga_cheats : (Go.Pinned.cheatRows).length = 61 := by kernel_rfl
theorem ga_pow (h : DataW.trod enc Tryz.prog w 0 sp false fuel 262 cs = some (Go.Pinned.pow10Tab, p)) {i : Nat} (hi : i < 696) :
 cs[i * 2]? = some (.int .u64 (pwR i).1) ∧ cs[i * 2 + 1]? = some (.int .u64 (pwR i).2) := by
 obtain ⟨xs, m, _, hx, _, hxl, hel⟩ := DataW.trod_array Tryz.underlying262 h; have h1 := congrArg Prod.fst hx; simp only [Go.Pinned.pow10Tab, DataW.agg.injEq] at h1; obtain ⟨r, hr⟩ : ∃ r, (Go.Pinned.pow10Rows)[i]? = some r := get_lt _ (by rw [ga_rows]; exact hi); have hpw : pwR i = r := by unfold pwR; rw [hr]; rfl
 have h2 : (xs.map (·.1))[i]? = some (.agg [.lit (.int .u64 r.1), .lit (.int .u64 r.2)]) := by
  rw [← h1, List.getElem?_map, hr]; rfl
 rw [hpw]; rw [List.getElem?_map] at h2; have h3 := hel i hi; cases hy : xs[i]? with
 | none => rw [hy] at h2; cases h2
 | some y =>
   obtain ⟨y1, y2⟩ := y; rw [hy] at h2 h3; have hy1 : y1 = .agg [.lit (.int .u64 r.1), .lit (.int .u64 r.2)] := Option.some.inj h2; subst hy1; rw [ga_types.1] at h3; obtain ⟨zs, n, _, hz, _, hzl, hf⟩ := DataW.trod_struct Tryz.underlying261 h3; match zs, hzl with
   | [z0, z1], _ =>
     obtain ⟨z0a, z0p⟩ := z0; obtain ⟨z1a, z1p⟩ := z1; have h4 := congrArg Prod.fst hz; simp at h4; obtain ⟨rfl, rfl⟩ := h4; have e0 : (((cs.drop (i * 2)).take 2).drop 0).take (Tryz.prog.cellsOf 66) = [.int .u64 r.1] := ga_lit Tryz.underlying66 (hf 0 _ rfl); have e1 : (((cs.drop (i * 2)).take 2).drop 1).take (Tryz.prog.cellsOf 66) = [.int .u64 r.2] := ga_lit Tryz.underlying66 (hf 1 _ rfl); rw [ga_types.2.1] at e0 e1; have g0 := ga_one e0; have g1 := ga_one e1; simp [List.getElem?_drop] at g0 g1
     exact ⟨g0, g1⟩
theorem ga_add (a : Addr) (ha : a.spot = none) (n : Nat) : a.add n = ⟨a.block, a.off + n, none⟩ := by
 obtain ⟨b, o, s⟩ := a; cases ha; unfold Addr.add; split <;> simp_all
theorem ga_cheat (h : DataW.trod enc Tryz.prog w 0 sp false fuel 268 cs = some (Go.Pinned.leftcheats, p)) :
 ∃ b o c : Nat, cs = [.slice (some ⟨b, o, none⟩) 61 c] ∧ ∀ k, k ≤ 60 → w.cell? ⟨b, o + k * 2, none⟩ = some (.int .i64 ((cheat k).1 : Nat)) ∧ w.cell? ⟨b, o + k * 2 + 1, none⟩ = some (.string ⟨(cheat k).2.toArray⟩) := by
 rcases DataW.trod_slice Tryz.underlying268 h with ⟨_, hx⟩ | ⟨a, len, cap, elems, rest, n, _, hcs, hx, _, hl, _, hlen, hel, _⟩
 · simp [Go.Pinned.leftcheats] at hx
 · simp only [Go.Pinned.leftcheats, Prod.mk.injEq, DataW.slice.injEq] at hx
   obtain ⟨⟨hrows, _⟩, _⟩ := hx; have el : len = 61 := by
    have := congrArg List.length hrows; simp only [List.length_map, ga_cheats] at this; omega
   subst el; have key : ∀ k, k ≤ 60 → w.cell? ((a.add (k * 2)).add 0) = some (.int .i64 ((cheat k).1 : Nat)) ∧ w.cell? ((a.add (k * 2)).add 1) = some (.string ⟨(cheat k).2.toArray⟩) := by
    intro k hk; obtain ⟨r, hr⟩ : ∃ r, (Go.Pinned.cheatRows)[k]? = some r := get_lt _ (by rw [ga_cheats]; omega); have hch : cheat k = r := by unfold cheat; rw [hr]; rfl
    rw [hch]; have h2 : (elems.map (·.1))[k]? = some (.agg [.lit (.int .i64 r.1), .lit (.string r.2)]) := by
     rw [← hrows, List.getElem?_map, hr]; rfl
    rw [List.getElem?_map] at h2; have h3 := hel k (by omega); cases hy : elems[k]? with
    | none => rw [hy] at h2; cases h2
    | some y =>
      obtain ⟨y1, y2⟩ := y; rw [hy] at h2 h3; have hy1 : y1 = .agg [.lit (.int .i64 r.1), .lit (.string r.2)] := Option.some.inj h2; subst hy1; rw [ga_types.2.2.1] at h3; simp only [Option.bind_eq_some_iff] at h3; obtain ⟨c1, hc1, h3⟩ := h3; have hc2 : ∃ x y, c1 = [x, y] ∧ w.cell? ((a.add (k * 2)).add 0) = some x ∧ w.cell? ((a.add (k * 2)).add 1) = some y := by
       unfold World.cells? at hc1; split at hc1
       · simp only [List.range_succ, List.range_zero, List.nil_append, List.mapM_cons, List.mapM_nil, List.cons_append] at hc1
         cases e0 : w.cell? ((a.add (k * 2)).add 0) with
         | none => simp [e0] at hc1
         | some x =>
           cases e1 : w.cell? ((a.add (k * 2)).add 1) with
           | none => simp [e0, e1] at hc1
           | some y => simp [e0, e1] at hc1; exact ⟨x, y, hc1.symm, rfl, rfl⟩
       · cases hc1
      obtain ⟨x, y, rfl, hx, hy⟩ := hc2; obtain ⟨zs, n, _, hz, _, hzl, hf⟩ := DataW.trod_struct Tryz.underlying267 h3; match zs, hzl with
      | [z0, z1], _ =>
        obtain ⟨z0a, z0p⟩ := z0; obtain ⟨z1a, z1p⟩ := z1; have h4 := congrArg Prod.fst hz; simp at h4; obtain ⟨rfl, rfl⟩ := h4; have e0 : (([x, y].drop 0).take (Tryz.prog.cellsOf 3)) = [.int .i64 r.1] := ga_lit Tryz.underlying3 (hf 0 _ rfl); have e1 : (([x, y].drop 1).take (Tryz.prog.cellsOf 9)) = [.string ⟨r.2.toArray⟩] := ga_str Tryz.underlying9 (hf 1 _ rfl); rw [ga_types.2.2.2.1] at e0; rw [ga_types.2.2.2.2.1] at e1; cases e0; cases e1; exact ⟨hx, hy⟩
   have hsp : a.spot = none := by
    have := World.cell?_spot (key 0 (by decide)).1; simpa [Addr.add] using this
   refine ⟨a.block, a.off, cap, ?_, fun k hk => ?_⟩
   · rw [hcs]
     obtain ⟨b, o, s⟩ := a; cases hsp; rfl
   · have := key k hk
     rw [ga_add a hsp] at this; rw [ga_add _ rfl, ga_add _ rfl] at this; exact this
theorem ga_row {t e : TypeId} {ds : List (DataW Unit)} {m : Nat} {v : Nat → Value} (ht : Tryz.prog.underlying t = some (.slice e)) (hc : Tryz.prog.cellsOf e = 1) (hm : 0 < m) (hds : ds.length = m)
 (hv : ∀ (i : Nat) (x : DataW Unit) (fuel : Nat) (cs : List Value) (q : List MemPlace), ds[i]? = some x → DataW.trod enc Tryz.prog w 0 sp false fuel e cs = some (x, q) → cs = [v i])
 (h : DataW.trod enc Tryz.prog w 0 sp false fuel t cs = some (.slice ds [], p)) : ∃ b o c : Nat, cs = [.slice (some ⟨b, o, none⟩) m c] ∧ ∀ k, k < m → w.cell? ⟨b, o + k, none⟩ = some (v k) := by
 obtain ⟨a, cap, hcs, _, hel⟩ := open_row ht hc h; have key : ∀ k, k < m → w.cell? (a.add k) = some (v k) := by
  intro k hk; obtain ⟨x, hx⟩ := get_lt ds (k := k) (by omega); obtain ⟨u, n, q, hcell, ht⟩ := hel k x hx
  have := hv k x _ _ _ hx ht; cases this; exact hcell
 have hsp : a.spot = none := by
  have := World.cell?_spot (key 0 hm); simpa [Addr.add] using this
 refine ⟨a.block, a.off, cap, ?_, fun k hk => ?_⟩
 · rw [hcs, hds]
   obtain ⟨b, o, s⟩ := a; cases hsp; rfl
 · have := key k hk
   rw [ga_add a hsp] at this; exact this
theorem ga_info {a b : Int} {c : Int} (h : DataW.trod enc Tryz.prog w 0 sp false fuel 206 cs = some (.agg [.lit (.int .u64 a), .lit (.int .u64 b), .lit (.int .i64 c)], p)) :
 cs[0]? = some (.int .u64 a) ∧ cs[1]? = some (.int .u64 b) ∧ cs[2]? = some (.int .i64 c) := by
 obtain ⟨zs, n, _, hz, _, hzl, hf⟩ := DataW.trod_struct Tryz.underlying206 h; match zs, hzl with
 | [z0, z1, z2], _ =>
   obtain ⟨z0a, z0p⟩ := z0; obtain ⟨z1a, z1p⟩ := z1; obtain ⟨z2a, z2p⟩ := z2; have h4 := congrArg Prod.fst hz; simp at h4; obtain ⟨rfl, rfl, rfl⟩ := h4; have e0 : ((cs.drop 0).take (Tryz.prog.cellsOf 145)) = [.int .u64 a] := ga_lit Tryz.underlying145 (hf 0 _ rfl); have e1 : ((cs.drop 1).take (Tryz.prog.cellsOf 145)) = [.int .u64 b] := ga_lit Tryz.underlying145 (hf 1 _ rfl); have e2 : ((cs.drop 2).take (Tryz.prog.cellsOf 3)) = [.int .i64 c] := ga_lit Tryz.underlying3 (hf 2 _ rfl); rw [ga_types.2.2.2.2.2] at e0 e1; rw [ga_types.2.2.2.1] at e2; exact ⟨ga_one e0, ga_one e1, ga_one e2⟩
end
theorem ga_lt {w : World} {a : Addr} {v : Value} (h : w.cell? a = some v) : a.block < w.heap.size := by
 rcases Nat.lt_or_ge a.block w.heap.size with h2 | h2
 · exact h2
 · rw [World.cell?, Array.getElem?_eq_none h2] at h
   cases h
open Go.ChangeShapes Go.WideShapes Go.ChangeAt Go.RowKit Go.ChangeMaps
theorem Tryz.own : ownKnob Tryz.prog.godebug = none := by kernel_rfl
theorem GA.of_Names {w : World} (h : laidMetH Tryz.prog Rows.printNamesRow.laid w) : GA w.heap.size w := by
 have h2 : laidMet Tryz.prog Rows.printNamesRow.laid w := h; obtain ⟨ps, hv, _, _⟩ := h2; obtain ⟨g0, t0, cs0, fu0, pp0, qq0, a0, b0, c0, d0, hv, _⟩ := hv; obtain ⟨g1, t1, cs1, fu1, pp1, qq1, a1, b1, c1, d1, hv, _⟩ := hv; obtain ⟨g2, t2, cs2, fu2, pp2, qq2, a2, b2, c2, d2, hv, _⟩ := hv; obtain ⟨g3, t3, cs3, fu3, pp3, qq3, a3, b3, c3, d3, hv, _⟩ := hv; obtain ⟨g4, t4, cs4, fu4, pp4, qq4, a4, b4, c4, d4, hv, _⟩ := hv; obtain ⟨g5, t5, cs5, fu5, pp5, qq5, a5, b5, c5, d5, hv, _⟩ := hv; obtain ⟨g6, t6, cs6, fu6, pp6, qq6, a6, b6, c6, d6, hv, _⟩ := hv; obtain ⟨g7, t7, cs7, fu7, pp7, qq7, a7, b7, c7, d7, hv, _⟩ := hv; obtain ⟨g8, t8, cs8, fu8, pp8, qq8, a8, b8, c8, d8, hv, _⟩ := hv; obtain ⟨g9, t9, cs9, fu9, pp9, qq9, a9, b9, c9, d9, hv, _⟩ := hv; obtain ⟨g10, t10, cs10, fu10, pp10, qq10, a10, b10, c10, d10, hv, _⟩ := hv; obtain ⟨g11, t11, cs11, fu11, pp11, qq11, a11, b11, c11, d11, hv, _⟩ := hv; obtain ⟨g12, t12, cs12, fu12, pp12, qq12, a12, b12, c12, d12, hv, _⟩ := hv; clear hv; obtain rfl : g4 = 5 := (Option.some.inj ((show Tryz.prog.globalNamed "internal/strconv.optimize" = some 5 by kernel_rfl).symm.trans a4)).symm; obtain rfl : t4 = 4 := (Option.some.inj ((show (Tryz.prog.globals[(5 : Nat)]?).map (·.type) = some 4 by kernel_rfl).symm.trans b4)).symm; obtain rfl : g6 = 12 := (Option.some.inj ((show Tryz.prog.globalNamed "internal/strconv.float64pow10" = some 12 by kernel_rfl).symm.trans a6)).symm; obtain rfl : t6 = 257 := (Option.some.inj ((show (Tryz.prog.globals[(12 : Nat)]?).map (·.type) = some 257 by kernel_rfl).symm.trans b6)).symm; obtain rfl : g5 = 11 := (Option.some.inj ((show Tryz.prog.globalNamed "internal/strconv.powtab" = some 11 by kernel_rfl).symm.trans a5)).symm; obtain rfl : t5 = 29 := (Option.some.inj ((show (Tryz.prog.globals[(11 : Nat)]?).map (·.type) = some 29 by kernel_rfl).symm.trans b5)).symm; obtain rfl : g11 = 14 := (Option.some.inj ((show Tryz.prog.globalNamed "internal/strconv.leftcheats" = some 14 by kernel_rfl).symm.trans a11)).symm; obtain rfl : t11 = 268 := (Option.some.inj ((show (Tryz.prog.globals[(14 : Nat)]?).map (·.type) = some 268 by kernel_rfl).symm.trans b11)).symm; obtain rfl : g12 = 13 := (Option.some.inj ((show Tryz.prog.globalNamed "internal/strconv.pow10Tab" = some 13 by kernel_rfl).symm.trans a12)).symm; obtain rfl : t12 = 262 := (Option.some.inj ((show (Tryz.prog.globals[(13 : Nat)]?).map (·.type) = some 262 by kernel_rfl).symm.trans b12)).symm; obtain rfl : g3 = 7 := (Option.some.inj ((show Tryz.prog.globalNamed "internal/strconv.float64info" = some 7 by kernel_rfl).symm.trans a3)).symm; obtain rfl : t3 = 206 := (Option.some.inj ((show (Tryz.prog.globals[(7 : Nat)]?).map (·.type) = some 206 by kernel_rfl).symm.trans b3)).symm; obtain rfl : g9 = 3 := (Option.some.inj ((show Tryz.prog.globalNamed "strconv.ErrRange" = some 3 by kernel_rfl).symm.trans a9)).symm; obtain rfl : t9 = 25 := (Option.some.inj ((show (Tryz.prog.globals[(3 : Nat)]?).map (·.type) = some 25 by kernel_rfl).symm.trans b9)).symm; obtain rfl : g10 = 2 := (Option.some.inj ((show Tryz.prog.globalNamed "strconv.ErrSyntax" = some 2 by kernel_rfl).symm.trans a10)).symm; obtain rfl : t10 = 25 := (Option.some.inj ((show (Tryz.prog.globals[(2 : Nat)]?).map (·.type) = some 25 by kernel_rfl).symm.trans b10)).symm; have hat : ∀ (cs : Array Value) (v : Value) (r : List Value), cs.toList = v :: r → cs[0]? = some v := fun cs v r e => by rw [← Array.getElem?_toList, e]; rfl
 have hopt : w.cell? ⟨5, 0, none⟩ = some (.bool true) := by
  rw [World.var?_cell a4 c4 0]; exact hat _ _ _ (ga_bool Tryz.underlying4 d4)
 obtain ⟨i0, i1, i2⟩ := ga_info d3; rw [Array.getElem?_toList] at i0 i1 i2; rw [← World.var?_cell a3 c3 0] at i0; rw [← World.var?_cell a3 c3 1] at i1; rw [← World.var?_cell a3 c3 2] at i2; have hpw : ∀ i : Nat, i < 696 → w.cell? ⟨13, i * 2, none⟩ = some (.int .u64 (pwR i).1) ∧ w.cell? ⟨13, i * 2 + 1, none⟩ = some (.int .u64 (pwR i).2) := by
  intro i hi; obtain ⟨z0, z1⟩ := ga_pow d12 hi; rw [Array.getElem?_toList] at z0 z1; exact ⟨(World.var?_cell a12 c12 _).trans z0, (World.var?_cell a12 c12 _).trans z1⟩
 have hch : ∃ b o c : Nat, b < w.heap.size ∧ w.cell? ⟨14, 0, none⟩ = some (.slice (some ⟨b, o, none⟩) 61 c) ∧
  ∀ k, k ≤ 60 → w.cell? ⟨b, o + k * 2, none⟩ = some (.int .i64 ((cheat k).1 : Nat)) ∧ w.cell? ⟨b, o + k * 2 + 1, none⟩ = some (.string ⟨(cheat k).2.toArray⟩) := by
  obtain ⟨b, o, c, h1, h2⟩ := ga_cheat d11; refine ⟨b, o, c, ga_lt (h2 0 (by decide)).1, ?_, h2⟩; rw [World.var?_cell a11 c11 0]; exact hat _ _ _ h1
 have hpt : ∃ b o c : Nat, b < w.heap.size ∧ w.cell? ⟨11, 0, none⟩ = some (.slice (some ⟨b, o, none⟩) 9 c) ∧ ∀ k : Nat, k < 9 → w.cell? ⟨b, o + k, none⟩ = some (.int .i64 (pwt k : Nat)) := by
  obtain ⟨b, o, c, h1, h2⟩ := ga_row (m := 9) (v := fun k => .int .i64 (pwt k : Nat)) Tryz.underlying29 (by kernel_rfl) (by decide) rfl (fun i x fuel cs q hx ht => by
   have hi : i < 9 := (List.getElem?_eq_some_iff.1 hx).1; rcases (by omega : i = 0 ∨ i = 1 ∨ i = 2 ∨ i = 3 ∨ i = 4 ∨ i = 5 ∨ i = 6 ∨ i = 7 ∨ i = 8) with rfl | rfl | rfl | rfl | rfl | rfl | rfl | rfl | rfl <;> (cases hx; exact ga_lit Tryz.underlying3 ht)) d5
  refine ⟨b, o, c, ga_lt (h2 0 (by decide)), ?_, h2⟩; rw [World.var?_cell a5 c5 0]; exact hat _ _ _ h1
 have hp10 : ∃ b o c : Nat, b < w.heap.size ∧ w.cell? ⟨12, 0, none⟩ = some (.slice (some ⟨b, o, none⟩) 23 c) ∧ ∀ k : Nat, k < 23 → w.cell? ⟨b, o + k, none⟩ = some (.float .f64 (p10 k)) := by
  obtain ⟨b, o, c, h1, h2⟩ := ga_row (m := 23) (v := fun k => .float .f64 (p10 k)) Tryz.underlying257 (by kernel_rfl) (by decide) rfl (fun i x fuel cs q hx ht => by
   have hi : i < 23 := (List.getElem?_eq_some_iff.1 hx).1; rcases (by omega : i = 0 ∨ i = 1 ∨ i = 2 ∨ i = 3 ∨ i = 4 ∨ i = 5 ∨ i = 6 ∨ i = 7 ∨ i = 8 ∨ i = 9 ∨ i = 10 ∨ i = 11 ∨ i = 12 ∨ i = 13 ∨ i = 14 ∨ i = 15 ∨ i = 16 ∨ i = 17 ∨ i = 18 ∨ i = 19 ∨ i = 20 ∨ i = 21 ∨ i = 22) with rfl | rfl | rfl | rfl | rfl | rfl | rfl | rfl | rfl | rfl | rfl | rfl | rfl | rfl | rfl | rfl | rfl | rfl | rfl | rfl | rfl | rfl | rfl <;> (cases hx; exact ga_flt ht)) d6
  refine ⟨b, o, c, ga_lt (h2 0 (by decide)), ?_, h2⟩; rw [World.var?_cell a6 c6 0]; exact hat _ _ _ h1
 have hR : ∃ ev, w.cell? ⟨3, 0, none⟩ = some ev ∧ (ev = .nilIface ∨ ∃ te pe, ev = .iface te pe) := by
  obtain ⟨_, u, v, e, _, _⟩ := iface_of_trod Tryz.underlying25 d9; exact ⟨_, by rw [World.var?_cell a9 c9 0]; exact hat _ _ _ e, Or.inr ⟨u, v, rfl⟩⟩
 have hS : ∃ ev, w.cell? ⟨2, 0, none⟩ = some ev ∧ (ev = .nilIface ∨ ∃ te pe, ev = .iface te pe) := by
  obtain ⟨_, u, v, e, _, _⟩ := iface_of_trod Tryz.underlying25 d10; exact ⟨_, by rw [World.var?_cell a10 c10 0]; exact hat _ _ _ e, Or.inr ⟨u, v, rfl⟩⟩
 have hl : ∀ {g : Nat} {v : Value}, w.cell? ⟨g, 0, none⟩ = some v → g < w.heap.size := fun h => ga_lt h
 exact { f := { opt0 := hl hopt, opt := hopt, fb := { ch := ⟨hl hch.choose_spec.choose_spec.choose_spec.2.1, hch⟩, inf := hl i0, mant := i0, ebits := i1, bias := i2, tab := hl hpt.choose_spec.choose_spec.choose_spec.2.1, pow := hpt }, p10 := ⟨hl hp10.choose_spec.choose_spec.choose_spec.2.1, hp10⟩, pw := ⟨hl (hpw 0 (by decide)).1, hpw⟩ }, errS0 := hl hS.choose_spec.1, errR0 := hl hR.choose_spec.1, errS := hS, errR := hR }
theorem gp_ofN {w : World} (h : laidMetH Tryz.prog Rows.printNamesRow.laid w) (hs : w.ShapedOpen Tryz.prog) : GP w.heap.size w := by
 obtain ⟨m, hm⟩ := cell_of_shapedOpen_int (P := Tryz.prog) (g := 4) (t := 3) (zero := #[.int .i64 0]) hs (of_decide_eq_true (by kernel_rfl)) (by kernel_rfl) rfl (by kernel_rfl) (by kernel_rfl) Tryz.underlying3; exact ⟨⟨GA.of_Names h, Nat.le_refl _⟩, ⟨m, hm⟩, World.block_lt_of_cell? w _ hm⟩
end Go.Proofs.YtkoghgnjjfnamaaGreatDoor
