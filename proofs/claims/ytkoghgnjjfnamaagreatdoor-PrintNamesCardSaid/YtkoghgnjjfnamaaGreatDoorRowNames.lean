/- PrintNames, as its row has it, and its tied card. -/
import Derived.Test.YtkoghgnjjfnamaaGreatDoorNamesW
import Derived.Test.YtkoghgnjjfnamaaGreatDoorKj
import Derived.Test.YtkoghgnjjfnamaaGreatDoorFactsN
import Derived.Test.YtkoghgnjjfnamaaGreatDoorTie
import Derived.Test.YtkoghgnjjfnamaaGreatDoorCards
import Derived.ProofKit
import Derived.OpenShut
import Derived.LaidMore
import Derived.Lay
import Derived.SevenTiedAt
import Derived.Stop.Joined
import Derived.ChangeMaps5
import Derived.LaidHandle
import Derived.HandedShaped
import Derived.Shelf.Vars
namespace Go.Proofs.YtkoghgnjjfnamaaGreatDoor
set_option maxRecDepth 100000
open Go.ChangeShapes Go.WideShapes Go.ChangeAt Go.RowKit Go.ChangeMaps
theorem lifted (os : Os) (started : os.Started) (H : Type) (enc : TypeId × Value → H) :
 ReturnsInHanded {} Tryz.checked os 5 .any (fun w args => (Rows.printNamesSpec.pre enc Tryz.prog Tryz.f5 Rows.printNamesRow.domain false w args ∧ laidMetH Tryz.prog Rows.printNamesRow.laid w) ∧ sizedMet enc Tryz.prog Tryz.f5 (OpenSpec.ofChange Rows.printNamesSpec) false w args)
  (Rows.printNamesSpec.post enc Tryz.prog Tryz.f5 false true false false) := by
 refine returnsInHanded_of_calls (C := Tryz.checked) Tryz.own started (by kernel_rfl)
  (ChangeSpec.witness_shaped (enc := enc) (C := Tryz.checked) (os := os) (X := fun w _ => laidMetH Tryz.prog Rows.printNamesRow.laid w) false (World.laidAll Tryz.prog os Rows.printNamesRow.laid) #[.string ⟨#[]⟩] 8 (World.laidAll_os _ _ _)
   (World.shaped_of_ZipB (by kernel_rfl) (by kernel_rfl)) (by kernel_rfl) (by kernel_rfl) (by kernel_rfl)
   (by rw [MakeChecks.laidMetH_plain _ _ _ (by kernel_rfl)]; exact laidMet_laidAll _ (by kernel_rfl) (by kernel_rfl))) ?_
 intro w0 tape inp _ hsh _ hok hpre _; obtain ⟨_, _, _, fn', hfn', _, _, _, _, hval0⟩ := hok; obtain rfl : fn' = Tryz.f5 := Option.some.inj (hfn'.symm.trans Tryz.func5); obtain ⟨⟨⟨ds, gs, before, hw, hc⟩, hx⟩, hz⟩ := hpre; have hW := DataW.Whole.of_heap (w' := w0.forCall tape inp) (by rfl) hw; have hL : laidMetH Tryz.prog Rows.printNamesRow.laid (w0.forCall tape inp) := hx.of_heap (by rfl); have hsh' : (w0.forCall tape inp).ShapedOpen Tryz.prog := hsh; clear hw hx hz hc hsh; generalize w0.forCall tape inp = W at *; generalize inp.args = args at *; have gp : GP W.heap.size W := gp_ofN hL hsh'; have hval : ∀ (j : Nat) t v, Tryz.f5.params[j]? = some t → args[j]? = some v → Value.okWide Tryz.prog W .any _ t v := hval0; have hW' := hW; obtain ⟨p, q, hA0, hV, rfl, _, _⟩ := hW; have hA : DataW.TrodAll enc Tryz.prog W 0 (fun _ => true) true Tryz.f5.params.toList args.toList ds p := hA0; rw [Tryz.params5] at hA hval; obtain ⟨v0, vs0, d0, ds0, p0, q0, hargs, rfl, rfl, h0, r0⟩ := trodAll_cons hA; obtain ⟨rfl, rfl, rfl⟩ := trodAll_nil r0; obtain rfl : args = #[v0] := by cases args; simp_all
 obtain ⟨rfl, rfl⟩ := trodVars_none hV; obtain ⟨x0, rfl, rfl, rfl, s0⟩ := open_string Tryz.underlying9 (hval 0 9 v0 rfl rfl) h0; simp only [List.append_nil] at hW'; refine (names_law gp x0 s0).mono fun e W' ⟨he, hb⟩ => ?_
 subst he; exact ChangeSpec.post_blind ⟨_, _, _, [], [], [], hW', trodAll_mk1 (shut_bool Tryz.underlying4 true), trodAll_mk1 (shut_string Tryz.underlying9 s0), rfl, hb.frame _, fun h => by cases h⟩
theorem printNames_holds : Rows.PrintNamesSaid :=
 OpenClaim.holds_of_wide 5 Tryz.f5 rfl rfl rfl rfl rfl rfl rfl ⟨rfl, rfl, rfl, rfl, rfl⟩ rfl rfl rfl rfl rfl (by as_aux_lemma => kernel_rfl) Tryz.func5 names_closed
  (of_decide_eq_true (by as_aux_lemma => kernel_rfl)) (by unfold Func.isWrapper; first | (rw [if_pos (by decide +kernel)]; kernel_rfl) | (rw [if_neg (by decide +kernel)]; exact ⟨rfl, rfl⟩))
  (fun os started H enc _ => lifted os started H enc)
theorem printNames_card_holds : Rows.PrintNamesCardSaid :=
 Claim7.holds_tied_plain_at .later [] _ _ _ _ printNames_holds (fun _ h => by cases h) (by kernel_rfl) (fun _ h => by cases h) printNames_row_tie rfl ⟨rfl, rfl⟩ (by kernel_rfl) rfl
  (fun f fn hf hfn => by
   obtain rfl : f = 5 := Option.some.inj ((show Tryz.prog.funcNamed "bootjack/bootjacklaw13.PrintNames" = some 5 by kernel_rfl).symm.trans hf) |>.symm
   obtain rfl : fn = Tryz.f5 := (Option.some.inj (Tryz.func5.symm.trans hfn)).symm; exact ⟨by kernel_rfl, fun j t ht => by
    rw [Tryz.params5] at ht; have hm : t ∈ [9] := by simpa using Array.mem_of_getElem? ht
    have hall : ([9].all fun u => !Tryz.prog.wantsStandIn u) = true := by kernel_rfl
    exact (show Tryz.prog.wantsStandIn t = false by simpa using List.all_eq_true.1 hall t hm)⟩)
  (by kernel_rfl)
#print axioms printNames_card_holds
end Go.Proofs.YtkoghgnjjfnamaaGreatDoor
