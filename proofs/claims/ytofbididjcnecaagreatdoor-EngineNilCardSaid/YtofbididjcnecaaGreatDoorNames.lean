/- EngineNil returns true: the law takes no argument; an abstract machine, proved sound over the model, runs it in the kernel. Condition: the table math/bits.deBruijn64tab lies as the program lays it (the card ties it). -/
import Derived.Test.YtofbididjcnecaaGreatDoorRows
import Derived.Test.YtofbididjcnecaaGreatDoorTie
import Derived.Test.YtofbididjcnecaaGreatDoorCards
import Derived.Test.YtofbididjcnecaaGreatDoorRun
import Derived.Test.YtofbididjcnecaaGreatDoorJ
import Derived.Test.YtofbididjcnecaaGreatDoorJ8
import Derived.SevenTiedAt
import Derived.WalkKit
import Derived.ProofKit
import Derived.OpenShut
import Derived.LaidMore
import Derived.Stop.Joined
import Derived.ChangeMaps5
namespace Go.Proofs.YtofbididjcnecaaGreatDoor
open Go.ChangeShapes Go.WideShapes Go.ChangeAt Go.RowKit

theorem own : ownKnob Tryz.prog.godebug = none := by kernel_rfl
def laid1 : List (String × DataW Unit) := [("math/bits.deBruijn64tab", Rows.laid_math_bits_deBruijn64tab)]
theorem door_met (os : Os) (args : Array Value) : laidMetH Tryz.prog laid1 ((World.doorLaid Tryz.prog 14 os).forCall (fun _ _ => 0) ⟨#[], args, []⟩).memory :=
  laidMetH_of_parts3 (fuel := 8) (laidMet_of_run' 8 (by kernel_rfl) (by kernel_rfl)) (by kernel_rfl) (by kernel_rfl)
set_option maxRecDepth 100000 in
theorem engineNil_lifted (os : Os) (started : os.Started) (H : Type) (enc : TypeId × Value → H) :
    ReturnsInHanded {} Tryz.checked os 3 .any (fun w args => (Rows.engineNilSpec.pre enc Tryz.prog Tryz.f3 [] false w args ∧ laidMetH Tryz.prog laid1 w) ∧ sizedMet enc Tryz.prog Tryz.f3 (OpenSpec.ofChange Rows.engineNilSpec) false w args)
      (Rows.engineNilSpec.post enc Tryz.prog Tryz.f3 false true false false) := by
  refine returnsInHanded_of_change_and (C := Tryz.checked) (X := fun w _ => laidMetH Tryz.prog laid1 w) (fun _ _ _ hh h => h.of_heap hh) own started (by kernel_rfl) Tryz.func3
    (ChangeSpec.witness_shaped (enc := enc) (C := Tryz.checked) (os := os) (X := fun w _ => laidMetH Tryz.prog laid1 w) false (World.doorLaid Tryz.prog 14 os) #[.int .i64 0, .int .i64 0, .string .empty] 8 rfl (World.shaped_of_RefB (by kernel_rfl) (by kernel_rfl)) (by kernel_rfl) (by kernel_rfl) (by kernel_rfl) (door_met os _)) ?_
  intro W base args ds gs before hval0 hW _ _ hL _
  have hW' := hW
  obtain ⟨p, q, hA0, hV, rfl, hfz, hnd⟩ := hW
  have hA : DataW.TrodAll enc Tryz.prog W 0 (fun _ => true) true Tryz.f3.params.toList args.toList ds p := hA0
  rw [Tryz.params3] at hA
  have hval : ∀ (j : Nat) t v, Tryz.f3.params[j]? = some t → args[j]? = some v → Value.okWide Tryz.prog W .any base t v := hval0
  rw [Tryz.params3] at hval
  obtain ⟨v0, l0, d0, ds0, p0, q0, h0, rfl, rfl, k0, hA⟩ := trodAll_cons hA
  obtain ⟨v1, l1, d1, ds1, p1, q1, rfl, rfl, rfl, k1, hA⟩ := trodAll_cons hA
  obtain ⟨v2, l2, d2, ds2, p2, q2, rfl, rfl, rfl, k2, hA⟩ := trodAll_cons hA
  obtain ⟨rfl, rfl, rfl⟩ := trodAll_nil hA
  have ha : args = #[v0, v1, v2] := by cases args; simp_all
  subst ha
  obtain ⟨z0, rfl, rfl, rfl, w0⟩ := open_int Tryz.underlying3 (hval 0 3 v0 rfl rfl) k0
  obtain ⟨z1, rfl, rfl, rfl, w1⟩ := open_int Tryz.underlying3 (hval 1 3 v1 rfl rfl) k1
  obtain ⟨z2, rfl, rfl, rfl, w2⟩ := Go.ChangeMaps.open_string Tryz.underlying9 (hval 2 9 v2 rfl rfl) k2
  obtain ⟨rfl, rfl⟩ := trodVars_none hV
  clear hA0 hval0
  simp only [List.append_nil] at hW'
  refine (engineNil_walk W (numsAt hL) _ rfl).mono fun e W' ⟨he, hk⟩ => ?_
  subst he
  exact ⟨_, rfl, AX.post_of_kept (pa := []) (pv := []) hW' (fun _ _ _ => (trodAll_cons_mk (shut_bool Tryz.underlying4 _) trodAll_mk0)) (fun sp _ => (trodAll_cons_mk (p := []) (shut_int Tryz.underlying3 w0) (trodAll_cons_mk (p := []) (shut_int Tryz.underlying3 w1) (trodAll_cons_mk (p := []) (Go.ChangeMaps.shut_string Tryz.underlying9 w2) trodAll_mk0)))) (fun _ _ => rfl) rfl
    hk (ok_one (by kernel_rfl) rfl (okWide_bool_mk Tryz.underlying4 _))⟩

theorem engineNil_holds : Rows.EngineNilSaid :=
  OpenClaim.holds_of_wide 3 Tryz.f3 rfl rfl rfl rfl rfl rfl rfl ⟨rfl, rfl, rfl, rfl, rfl⟩ rfl rfl rfl rfl rfl c90 Tryz.func3 closed inst wrap
    (fun os started H enc _ => engineNil_lifted os started H enc)

theorem goes_is : false = Rows.engineNilRow.goesBy Tryz.prog := by
  have hg : Tryz.prog.goes 3 = false := by unfold Program.goes; rw [goes_any, goes_all, Bool.and_false, Bool.or_false]
  unfold OpenClaim.goesBy Program.goesAt Program.goesFrom
  rw [c90, Option.any_some, hg]
  rfl
theorem engineNil_card : Rows.EngineNilCardSaid :=
  Claim7.holds_tied_plain_at .later [] [.data] true (true, "e73541e69fbeecfba73808d97d7392d086b1d74470e8ebe3b7ec6080a119fa5d") true
    engineNil_holds (fun _ h => by cases h) (by kernel_rfl) (fun _ h => by cases h) engineNil_row_tie rfl ⟨rfl, rfl⟩ main_is rfl
    (fun f fn hf hfn => by
      obtain rfl : f = 3 := (Option.some.inj (c90.symm.trans hf)).symm
      obtain rfl : fn = Tryz.f3 := (Option.some.inj (Tryz.func3.symm.trans hfn)).symm
      exact ⟨looks_is, fun j t ht => by
        rw [Tryz.params3] at ht
        match j, ht with
        | 0, ht => cases ht; exact wants3
        | 1, ht => cases ht; exact wants3
        | 2, ht => cases ht; exact wants9⟩)
    goes_is
#print axioms engineNil_card
end Go.Proofs.YtofbididjcnecaaGreatDoor
