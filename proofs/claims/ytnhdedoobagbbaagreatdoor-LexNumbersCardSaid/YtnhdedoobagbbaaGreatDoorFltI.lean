/- A decimal's whole part, rounded. -/
import Derived.Test.YtnhdedoobagbbaaGreatDoorFltR
namespace Go.Proofs.YtnhdedoobagbbaaGreatDoor
open Go.RowKit

set_option maxHeartbeats 1000000 in
set_option maxRecDepth 100000 in
theorem rounded_any {w : World} {g : Nat} {D : Dc} (h : DB w g D) (h' : OkD D) (hd1 : -1000000000000 ≤ D.dp) (hd2 : D.dp ≤ 1000000000000) :
    Calls Tryz.prog 88 #[.pointer (some ⟨g, 0, none⟩)] w fun e w' => e = .returned (.int .u64 (riP D : Nat)) ∧ ∃ n, w' = w.drewN n := by
  obtain ⟨S, hS⟩ : ∃ S, riP D = S := ⟨_, rfl⟩
  have HS := Lib.hid hS
  rw [hS]
  clear hS
  have c1 := h.cell_nd
  have c2 := h.cell_dp
  by_cases hbig : 20 < D.dp
  · have e : S = 18446744073709551615 := by
      rw [← HS.out]
      unfold riP
      rw [if_pos hbig]
    subst e
    clear HS
    go_enter Tryz.func88, Tryz.ntmps88
    go_wp2_with fail
    go_ret
    exact ⟨rfl, 0, rfl⟩
  · have e : (riB (D.dp.toNat - min D.dp.toNat D.nd) (riA D.d (min D.dp.toNat D.nd)) + if ruB D D.dp = true then 1 else 0) % 18446744073709551616 = S := by
      rw [← HS.out]
      unfold riP
      rw [if_neg hbig]
    have HE := Lib.hid e
    have hle := h'.le
    have HR : Hid (∀ n, Calls Tryz.prog 97 #[.pointer (some ⟨g, 0, none⟩), .int .i64 D.dp] (w.drewN n) fun e w' => e = .returned (.bool (ruB D D.dp)) ∧ ∃ m, w' = w.drewN m) := Lib.hid fun n =>
      (roundUp_any (h.drewN n) h'.le h'.dig D.dp (by omega) (by omega)).mono fun _ _ ⟨he, m, hm⟩ => ⟨he, n + m, by rw [← World.drewN_drewN]; exact hm⟩
    clear e HS
    go_enter Tryz.func88, Tryz.ntmps88
    go_wp2_with fail
    go_loopw [3, 4] (fun i n wr => ∃ k : Nat, k ≤ min D.dp.toNat D.nd ∧ i = .int .i64 k ∧ n = .int .u64 (riA D.d k : Nat) ∧ ∃ m, wr = w.drewN m) (fun i _ _ => D.nd - (intOf i).toNat)
    case atStart => exact ⟨0, by omega, rfl, rfl, 0, rfl⟩
    case round =>
      obtain ⟨k, hk, rfl, rfl, m, rfl⟩ := hrel
      by_cases hlt : k < min D.dp.toNat D.nd
      · have c3 := h.cell_d (i := k) (by omega)
        have hdg := h'.dig k (by omega)
        have b1 : (k : Int) < 800 := by omega
        have b2 : (k : Int) < D.dp := by omega
        have b3 : (k : Int) < (D.nd : Int) := by omega
        have a4 : IntKind.u8.wrap ((D.d k : Int) - 48) = ((dg D.d k : Nat) : Int) := by
          unfold dg
          rw [IntWalk.u8_in _ (by omega)]; omega
        have HN : Hid (IntKind.u64.wrap (IntKind.u64.wrap ((riA D.d k : Nat) * 10 : Int) + IntKind.u64.wrap (dg D.d k : Nat)) = ((riA D.d (k + 1) : Nat) : Int)) := Lib.hid (by
          show _ = (((riA D.d k * 10 + dg D.d k) % 18446744073709551616 : Nat) : Int)
          simp [IntKind.wrap, IntKind.bits, IntKind.signed]
          )
        go_wp2_with fail
        go_roundw
        case rel => exact ⟨k + 1, by omega, by go_num, congrArg (Value.int .u64) HN.out, _, rfl⟩
        case measure => simp [intOf]; omega
      · have hkm : k = min D.dp.toNat D.nd := by omega
        have HK := Lib.hid hkm
        by_cases hb1 : (k : Int) < D.dp
        · have hb2 : (D.nd : Int) ≤ (k : Int) := by omega
          clear hkm hlt
          go_wp2_with fail
          go_loopw [3, 4] (fun i n wr => ∃ j : Nat, k ≤ j ∧ j ≤ max k D.dp.toNat ∧ i = .int .i64 j ∧ n = .int .u64 (riB (j - k) (riA D.d k) : Nat) ∧ ∃ m, wr = w.drewN m) (fun i _ _ => D.dp.toNat - (intOf i).toNat)
          case atStart => exact ⟨k, by omega, by omega, rfl, by rw [Nat.sub_self]; rfl, _, rfl⟩
          case round =>
            obtain ⟨j, hj1, hj2, rfl, rfl, m2, rfl⟩ := hrel
            by_cases hlt : j < D.dp.toNat
            · first
                | (exfalso; omega)
                | (have b2 : (j : Int) < D.dp := by omega
                   have HN : Hid (IntKind.u64.wrap ((riB (j - k) (riA D.d k) : Nat) * 10 : Int) = ((riB (j + 1 - k) (riA D.d k) : Nat) : Int)) := Lib.hid (by
                     rw [show j + 1 - k = (j - k) + 1 by omega, riB_succ]
                     simp [IntKind.wrap, IntKind.bits, IntKind.signed])
                   go_wp2_with fail
                   go_roundw
                   case rel => exact ⟨j + 1, by omega, by omega, by go_num, congrArg (Value.int .u64) HN.out, _, rfl⟩
                   case measure => simp [intOf]; omega)
            · have hjd : j = max k D.dp.toNat := by omega
              have HX : Hid (riB (j - k) (riA D.d k) = riB (D.dp.toNat - min D.dp.toNat D.nd) (riA D.d (min D.dp.toNat D.nd))) := Lib.hid (by
                have := HK.out
                rw [← this]
                congr 1
                omega)
              obtain ⟨N, hN⟩ : ∃ N, riB (j - k) (riA D.d k) = N := ⟨_, rfl⟩
              rw [hN] at HX ⊢
              have HNlt : N < 18446744073709551616 := by rw [← hN]; exact riB_lt _ (riA_lt _ _)
              clear hN hjd
              obtain ⟨rb, hrb⟩ : ∃ rb, ruB D D.dp = rb := ⟨_, rfl⟩
              rw [hrb] at HR
              have HE2 : Hid ((N + if rb = true then 1 else 0) % 18446744073709551616 = S) := Lib.hid (by
                have := HE.out
                rw [← HX.out, hrb] at this
                exact this)
              clear hrb HE HX
              go_wp2_with fail
              refine (HR.out _).mono ?_
              rintro e w3 ⟨rfl, m3, rfl⟩
              cases rb
              · go_wp2_with fail
                go_ret
                refine ⟨?_, _, rfl⟩
                have := HE2.out
                simp at this
                rw [← this]
                exact congrArg (fun x => Ending.returned (Value.int .u64 x)) (by omega)
              · go_wp2_with fail
                go_ret
                refine ⟨?_, _, rfl⟩
                have := HE2.out
                simp at this
                rw [← this]
                exact congrArg (fun x => Ending.returned (Value.int .u64 x)) (by simp [IntKind.wrap, IntKind.bits, IntKind.signed])
        · clear hkm hlt
          go_wp2_with fail
          go_loopw [3, 4] (fun i n wr => ∃ j : Nat, k ≤ j ∧ j ≤ max k D.dp.toNat ∧ i = .int .i64 j ∧ n = .int .u64 (riB (j - k) (riA D.d k) : Nat) ∧ ∃ m, wr = w.drewN m) (fun i _ _ => D.dp.toNat - (intOf i).toNat)
          case atStart => exact ⟨k, by omega, by omega, rfl, by rw [Nat.sub_self]; rfl, _, rfl⟩
          case round =>
            obtain ⟨j, hj1, hj2, rfl, rfl, m2, rfl⟩ := hrel
            by_cases hlt : j < D.dp.toNat
            · first
                | (exfalso; omega)
                | (have b2 : (j : Int) < D.dp := by omega
                   have HN : Hid (IntKind.u64.wrap ((riB (j - k) (riA D.d k) : Nat) * 10 : Int) = ((riB (j + 1 - k) (riA D.d k) : Nat) : Int)) := Lib.hid (by
                     rw [show j + 1 - k = (j - k) + 1 by omega, riB_succ]
                     simp [IntKind.wrap, IntKind.bits, IntKind.signed])
                   go_wp2_with fail
                   go_roundw
                   case rel => exact ⟨j + 1, by omega, by omega, by go_num, congrArg (Value.int .u64) HN.out, _, rfl⟩
                   case measure => simp [intOf]; omega)
            · have hjd : j = max k D.dp.toNat := by omega
              have HX : Hid (riB (j - k) (riA D.d k) = riB (D.dp.toNat - min D.dp.toNat D.nd) (riA D.d (min D.dp.toNat D.nd))) := Lib.hid (by
                have := HK.out
                rw [← this]
                congr 1
                omega)
              obtain ⟨N, hN⟩ : ∃ N, riB (j - k) (riA D.d k) = N := ⟨_, rfl⟩
              rw [hN] at HX ⊢
              have HNlt : N < 18446744073709551616 := by rw [← hN]; exact riB_lt _ (riA_lt _ _)
              clear hN hjd
              obtain ⟨rb, hrb⟩ : ∃ rb, ruB D D.dp = rb := ⟨_, rfl⟩
              rw [hrb] at HR
              have HE2 : Hid ((N + if rb = true then 1 else 0) % 18446744073709551616 = S) := Lib.hid (by
                have := HE.out
                rw [← HX.out, hrb] at this
                exact this)
              clear hrb HE HX
              go_wp2_with fail
              refine (HR.out _).mono ?_
              rintro e w3 ⟨rfl, m3, rfl⟩
              cases rb
              · go_wp2_with fail
                go_ret
                refine ⟨?_, _, rfl⟩
                have := HE2.out
                simp at this
                rw [← this]
                exact congrArg (fun x => Ending.returned (Value.int .u64 x)) (by omega)
              · go_wp2_with fail
                go_ret
                refine ⟨?_, _, rfl⟩
                have := HE2.out
                simp at this
                rw [← this]
                exact congrArg (fun x => Ending.returned (Value.int .u64 x)) (by simp [IntKind.wrap, IntKind.bits, IntKind.signed])
end Go.Proofs.YtnhdedoobagbbaaGreatDoor
