/- LaidA. -/
import Derived.Test.YtkoghgnjjfnamaaGreatDoorGq
import Derived.LaidLaws
import Derived.LaidMore
import Derived.ProofKit
import Derived.OpenShut
/- What the premise on the package-level variables gives, of all tables that the reader of floats looks at. -/
namespace Go.Proofs.YtkoghgnjjfnamaaGreatDoor
open Go.ChangeShapes Go.WideShapes Go.ChangeAt Go.RowKit

section
variable {enc : TypeId × Value → Unit} {w : World} {sp : Nat → Bool} {fuel : Nat} {cs : List Value} {p : List MemPlace}
theorem ga_lit {t : TypeId} {k : IntKind} {n : Int} (ht : Tryz.prog.underlying t = some (.int k)) (h : DataW.trod enc Tryz.prog w 0 sp false fuel t cs = some (.lit (.int k n), p)) : cs = [.int k n] := by
  obtain ⟨v, e, k0, _⟩ := DataW.trod_int ht h
  have := congrArg Prod.fst k0
  simp at this
  subst this
  exact e
theorem ga_bool {t : TypeId} {b : Bool} (ht : Tryz.prog.underlying t = some .bool) (h : DataW.trod enc Tryz.prog w 0 sp false fuel t cs = some (.lit (.bool b), p)) : cs = [.bool b] := by
  obtain ⟨v, e, k0⟩ := DataW.trod_bool ht h
  have := congrArg Prod.fst k0
  simp at this
  subst this
  exact e
theorem ga_str {t : TypeId} {l : List UInt8} (ht : Tryz.prog.underlying t = some .string) (h : DataW.trod enc Tryz.prog w 0 sp false fuel t cs = some (.lit (.string l), p)) : cs = [.string ⟨l.toArray⟩] := by
  obtain ⟨v, e, k0, _⟩ := DataW.trod_string ht h
  have := congrArg Prod.fst k0
  simp at this
  subst this
  exact e
set_option maxRecDepth 100000 in
theorem ga_flt {b : Nat} (h : DataW.trod enc Tryz.prog w 0 sp false fuel 33 cs = some (.lit (.float .f64 b), p)) : cs = [.float .f64 b] := by
  have ht := Tryz.underlying33
  cases fuel with
  | zero => simp [DataW.trod] at h
  | succ fuel =>
    match cs with
    | [] => simp [DataW.trod, ht] at h
    | _ :: _ :: _ => simp [DataW.trod, ht] at h
    | [c] =>
      cases c <;> simp [DataW.trod, ht] at h
      obtain ⟨⟨rfl, _⟩, rfl, _⟩ := h
      rfl
theorem ga_one {l : List Value} {i : Nat} {v : Value} (h : (l.drop i).take 1 = [v]) : l[i]? = some v := by
  have := congrArg (·[0]?) h
  simpa [List.getElem?_take, List.getElem?_drop] using this
theorem ga_types : Tryz.prog.cellsOf 261 = 2 ∧ Tryz.prog.cellsOf 66 = 1 ∧ Tryz.prog.cellsOf 267 = 2 ∧ Tryz.prog.cellsOf 3 = 1 ∧ Tryz.prog.cellsOf 9 = 1 ∧ Tryz.prog.cellsOf 145 = 1 := ⟨by kernel_rfl, by kernel_rfl, by kernel_rfl, by kernel_rfl, by kernel_rfl, by kernel_rfl⟩
theorem ga_rows : (Go.Pinned.pow10Rows).length = 696 := by kernel_rfl
theorem ga_cheats : (Go.Pinned.cheatRows).length = 61 := by kernel_rfl
/-- The table of powers of ten. -/
theorem ga_pow (h : DataW.trod enc Tryz.prog w 0 sp false fuel 262 cs = some (Go.Pinned.pow10Tab, p)) {i : Nat} (hi : i < 696) :
    cs[i * 2]? = some (.int .u64 (pwR i).1) ∧ cs[i * 2 + 1]? = some (.int .u64 (pwR i).2) := by
  obtain ⟨xs, m, _, hx, _, hxl, hel⟩ := DataW.trod_array Tryz.underlying262 h
  have h1 := congrArg Prod.fst hx
  simp only [Go.Pinned.pow10Tab, DataW.agg.injEq] at h1
  obtain ⟨r, hr⟩ : ∃ r, (Go.Pinned.pow10Rows)[i]? = some r := get_lt _ (by rw [ga_rows]; exact hi)
  have hpw : pwR i = r := by unfold pwR; rw [hr]; rfl
  have h2 : (xs.map (·.1))[i]? = some (.agg [.lit (.int .u64 r.1), .lit (.int .u64 r.2)]) := by
    rw [← h1, List.getElem?_map, hr]
    rfl
  rw [hpw]
  rw [List.getElem?_map] at h2
  have h3 := hel i hi
  cases hy : xs[i]? with
  | none => rw [hy] at h2; cases h2
  | some y =>
    obtain ⟨y1, y2⟩ := y
    rw [hy] at h2 h3
    have hy1 : y1 = .agg [.lit (.int .u64 r.1), .lit (.int .u64 r.2)] := Option.some.inj h2
    subst hy1
    rw [ga_types.1] at h3
    obtain ⟨zs, n, _, hz, _, hzl, hf⟩ := DataW.trod_struct Tryz.underlying261 h3
    match zs, hzl with
    | [z0, z1], _ =>
      obtain ⟨z0a, z0p⟩ := z0
      obtain ⟨z1a, z1p⟩ := z1
      have h4 := congrArg Prod.fst hz
      simp at h4
      obtain ⟨rfl, rfl⟩ := h4
      have e0 : (((cs.drop (i * 2)).take 2).drop 0).take (Tryz.prog.cellsOf 66) = [.int .u64 r.1] := ga_lit Tryz.underlying66 (hf 0 _ rfl)
      have e1 : (((cs.drop (i * 2)).take 2).drop 1).take (Tryz.prog.cellsOf 66) = [.int .u64 r.2] := ga_lit Tryz.underlying66 (hf 1 _ rfl)
      rw [ga_types.2.1] at e0 e1
      have g0 := ga_one e0
      have g1 := ga_one e1
      simp [List.getElem?_drop] at g0 g1
      exact ⟨g0, g1⟩
theorem ga_add (a : Addr) (ha : a.spot = none) (n : Nat) : a.add n = ⟨a.block, a.off + n, none⟩ := by
  obtain ⟨b, o, s⟩ := a
  cases ha
  unfold Addr.add
  split <;> simp_all
/-- The table of how many digits come new. -/
theorem ga_cheat (h : DataW.trod enc Tryz.prog w 0 sp false fuel 268 cs = some (Go.Pinned.leftcheats, p)) :
    ∃ b o c : Nat, cs = [.slice (some ⟨b, o, none⟩) 61 c] ∧ ∀ k, k ≤ 60 → w.cell? ⟨b, o + k * 2, none⟩ = some (.int .i64 ((cheat k).1 : Nat)) ∧ w.cell? ⟨b, o + k * 2 + 1, none⟩ = some (.string ⟨(cheat k).2.toArray⟩) := by
  rcases DataW.trod_slice Tryz.underlying268 h with ⟨_, hx⟩ | ⟨a, len, cap, elems, rest, n, _, hcs, hx, _, hl, _, hlen, hel, _⟩
  · simp [Go.Pinned.leftcheats] at hx
  · simp only [Go.Pinned.leftcheats, Prod.mk.injEq, DataW.slice.injEq] at hx
    obtain ⟨⟨hrows, _⟩, _⟩ := hx
    have el : len = 61 := by
      have := congrArg List.length hrows
      simp only [List.length_map, ga_cheats] at this
      omega
    subst el
    have key : ∀ k, k ≤ 60 → w.cell? ((a.add (k * 2)).add 0) = some (.int .i64 ((cheat k).1 : Nat)) ∧ w.cell? ((a.add (k * 2)).add 1) = some (.string ⟨(cheat k).2.toArray⟩) := by
      intro k hk
      obtain ⟨r, hr⟩ : ∃ r, (Go.Pinned.cheatRows)[k]? = some r := get_lt _ (by rw [ga_cheats]; omega)
      have hch : cheat k = r := by unfold cheat; rw [hr]; rfl
      rw [hch]
      have h2 : (elems.map (·.1))[k]? = some (.agg [.lit (.int .i64 r.1), .lit (.string r.2)]) := by
        rw [← hrows, List.getElem?_map, hr]
        rfl
      rw [List.getElem?_map] at h2
      have h3 := hel k (by omega)
      cases hy : elems[k]? with
      | none => rw [hy] at h2; cases h2
      | some y =>
        obtain ⟨y1, y2⟩ := y
        rw [hy] at h2 h3
        have hy1 : y1 = .agg [.lit (.int .i64 r.1), .lit (.string r.2)] := Option.some.inj h2
        subst hy1
        rw [ga_types.2.2.1] at h3
        simp only [Option.bind_eq_some_iff] at h3
        obtain ⟨c1, hc1, h3⟩ := h3
        have hc2 : ∃ x y, c1 = [x, y] ∧ w.cell? ((a.add (k * 2)).add 0) = some x ∧ w.cell? ((a.add (k * 2)).add 1) = some y := by
          unfold World.cells? at hc1
          split at hc1
          · simp only [List.range_succ, List.range_zero, List.nil_append, List.mapM_cons, List.mapM_nil, List.cons_append] at hc1
            cases e0 : w.cell? ((a.add (k * 2)).add 0) with
            | none => simp [e0] at hc1
            | some x =>
              cases e1 : w.cell? ((a.add (k * 2)).add 1) with
              | none => simp [e0, e1] at hc1
              | some y => simp [e0, e1] at hc1; exact ⟨x, y, hc1.symm, rfl, rfl⟩
          · cases hc1
        obtain ⟨x, y, rfl, hx, hy⟩ := hc2
        obtain ⟨zs, n, _, hz, _, hzl, hf⟩ := DataW.trod_struct Tryz.underlying267 h3
        match zs, hzl with
        | [z0, z1], _ =>
          obtain ⟨z0a, z0p⟩ := z0
          obtain ⟨z1a, z1p⟩ := z1
          have h4 := congrArg Prod.fst hz
          simp at h4
          obtain ⟨rfl, rfl⟩ := h4
          have e0 : (([x, y].drop 0).take (Tryz.prog.cellsOf 3)) = [.int .i64 r.1] := ga_lit Tryz.underlying3 (hf 0 _ rfl)
          have e1 : (([x, y].drop 1).take (Tryz.prog.cellsOf 9)) = [.string ⟨r.2.toArray⟩] := ga_str Tryz.underlying9 (hf 1 _ rfl)
          rw [ga_types.2.2.2.1] at e0
          rw [ga_types.2.2.2.2.1] at e1
          cases e0
          cases e1
          exact ⟨hx, hy⟩
    have hsp : a.spot = none := by
      have := World.cell?_spot (key 0 (by decide)).1
      simpa [Addr.add] using this
    refine ⟨a.block, a.off, cap, ?_, fun k hk => ?_⟩
    · rw [hcs]
      obtain ⟨b, o, s⟩ := a
      cases hsp
      rfl
    · have := key k hk
      rw [ga_add a hsp] at this
      rw [ga_add _ rfl, ga_add _ rfl] at this
      exact this
theorem ga_row {t e : TypeId} {ds : List (DataW Unit)} {m : Nat} {v : Nat → Value} (ht : Tryz.prog.underlying t = some (.slice e)) (hc : Tryz.prog.cellsOf e = 1) (hm : 0 < m) (hds : ds.length = m)
    (hv : ∀ (i : Nat) (x : DataW Unit) (fuel : Nat) (cs : List Value) (q : List MemPlace), ds[i]? = some x → DataW.trod enc Tryz.prog w 0 sp false fuel e cs = some (x, q) → cs = [v i])
    (h : DataW.trod enc Tryz.prog w 0 sp false fuel t cs = some (.slice ds [], p)) : ∃ b o c : Nat, cs = [.slice (some ⟨b, o, none⟩) m c] ∧ ∀ k, k < m → w.cell? ⟨b, o + k, none⟩ = some (v k) := by
  obtain ⟨a, cap, hcs, _, hel⟩ := open_row ht hc h
  have key : ∀ k, k < m → w.cell? (a.add k) = some (v k) := by
    intro k hk
    obtain ⟨x, hx⟩ := get_lt ds (k := k) (by omega)
    obtain ⟨u, n, q, hcell, ht⟩ := hel k x hx
    have := hv k x _ _ _ hx ht
    cases this
    exact hcell
  have hsp : a.spot = none := by
    have := World.cell?_spot (key 0 hm)
    simpa [Addr.add] using this
  refine ⟨a.block, a.off, cap, ?_, fun k hk => ?_⟩
  · rw [hcs, hds]
    obtain ⟨b, o, s⟩ := a
    cases hsp
    rfl
  · have := key k hk
    rw [ga_add a hsp] at this
    exact this
theorem ga_info {a b : Int} {c : Int} (h : DataW.trod enc Tryz.prog w 0 sp false fuel 206 cs = some (.agg [.lit (.int .u64 a), .lit (.int .u64 b), .lit (.int .i64 c)], p)) :
    cs[0]? = some (.int .u64 a) ∧ cs[1]? = some (.int .u64 b) ∧ cs[2]? = some (.int .i64 c) := by
  obtain ⟨zs, n, _, hz, _, hzl, hf⟩ := DataW.trod_struct Tryz.underlying206 h
  match zs, hzl with
  | [z0, z1, z2], _ =>
    obtain ⟨z0a, z0p⟩ := z0
    obtain ⟨z1a, z1p⟩ := z1
    obtain ⟨z2a, z2p⟩ := z2
    have h4 := congrArg Prod.fst hz
    simp at h4
    obtain ⟨rfl, rfl, rfl⟩ := h4
    have e0 : ((cs.drop 0).take (Tryz.prog.cellsOf 145)) = [.int .u64 a] := ga_lit Tryz.underlying145 (hf 0 _ rfl)
    have e1 : ((cs.drop 1).take (Tryz.prog.cellsOf 145)) = [.int .u64 b] := ga_lit Tryz.underlying145 (hf 1 _ rfl)
    have e2 : ((cs.drop 2).take (Tryz.prog.cellsOf 3)) = [.int .i64 c] := ga_lit Tryz.underlying3 (hf 2 _ rfl)
    rw [ga_types.2.2.2.2.2] at e0 e1
    rw [ga_types.2.2.2.1] at e2
    exact ⟨ga_one e0, ga_one e1, ga_one e2⟩
end
theorem ga_lt {w : World} {a : Addr} {v : Value} (h : w.cell? a = some v) : a.block < w.heap.size := by
  rcases Nat.lt_or_ge a.block w.heap.size with h2 | h2
  · exact h2
  · rw [World.cell?, Array.getElem?_eq_none h2] at h
    cases h
end Go.Proofs.YtkoghgnjjfnamaaGreatDoor
