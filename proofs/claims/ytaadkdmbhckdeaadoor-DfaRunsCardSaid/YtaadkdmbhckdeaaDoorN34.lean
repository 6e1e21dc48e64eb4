/- DfaRuns returns true at every input: its calls are answered by contracts, each proved by walking the code; lives() is reckoned by an abstract machine, proved sound over the model. Condition: the table math/bits.deBruijn64tab lies as the program lays it (the card ties it). -/
import Derived.Test.YtaadkdmbhckdeaaDoorN25
import Derived.Test.YtaadkdmbhckdeaaDoorN33
namespace Go.Proofs.YtaadkdmbhckdeaaDoor
open Go Go.Proofs Go.ChangeShapes Go.WideShapes Go.ChangeAt Go.RowKit
set_option maxRecDepth 100000 in
theorem dfaRuns_lifted (os : Os) (started : os.Started) (H : Type) (enc : TypeId × Value → H) :
    ReturnsInHanded {} Tryd.checked os 4 .any (fun w args => (Rows.dfaRunsSpec.pre enc Tryd.prog Tryd.f4 [] false w args ∧ laidMetH Tryd.prog laid1 w) ∧ sizedMet enc Tryd.prog Tryd.f4 (OpenSpec.ofChange Rows.dfaRunsSpec) false w args)
      (Rows.dfaRunsSpec.post enc Tryd.prog Tryd.f4 false true false false) := by
  refine returnsInHanded_of_change_and (C := Tryd.checked) (X := fun w _ => laidMetH Tryd.prog laid1 w) (fun _ _ _ hh h => h.of_heap hh) own started (by kernel_rfl) Tryd.func4
    (ChangeSpec.witness_shaped (enc := enc) (C := Tryd.checked) (os := os) (X := fun w _ => laidMetH Tryd.prog laid1 w) false (World.doorLaid Tryd.prog 14 os) #[.agg #[.slice none 0 0, .slice none 0 0, .slice none 0 0], .int .i64 0, .string .empty] 8 rfl (World.shaped_of_RefB (by kernel_rfl) (by kernel_rfl)) (by kernel_rfl) (by kernel_rfl) (by kernel_rfl) (door_met os _)) ?_
  intro W base args ds gs before hval0 hW _ _ hL _
  have hval : ∀ (j : Nat) t v, Tryd.f4.params[j]? = some t → args[j]? = some v → Value.okWide Tryd.prog W .any base t v := hval0
  have hW' := hW
  obtain ⟨p, q, hA0, hV, rfl, hfz, hnd⟩ := hW
  have hA : DataW.TrodAll enc Tryd.prog W 0 (fun _ => true) true Tryd.f4.params.toList args.toList ds p := hA0
  rw [Tryd.params4] at hA hval
  obtain ⟨rfl, rfl⟩ := trodVars_none hV
  obtain ⟨v0, l, d0, dl, p0, q0, h0, rfl, rfl, k0, hA⟩ := trodAll_cons hA
  obtain ⟨v1, l, d1, dl, p1, q1, rfl, rfl, rfl, k1, hA⟩ := trodAll_cons hA
  obtain ⟨v2, l, d2, dl, p2, q2, rfl, rfl, rfl, k2, hA⟩ := trodAll_cons hA
  obtain ⟨rfl, rfl, rfl⟩ := trodAll_nil hA
  have ha : args = #[v0, v1, v2] := by cases args; simp_all
  subst ha
  obtain ⟨N, ac, an, ar, cc, cn, cr, rfl, hN⟩ := open_nfa (hval 0 26 v0 rfl rfl) k0
  obtain ⟨z, rfl, rfl, rfl, wz⟩ := open_int Tryd.underlying3 (hval 1 3 v1 rfl rfl) k1
  obtain ⟨s, rfl, rfl, rfl, hs⟩ := Go.ChangeMaps.open_string Tryd.underlying9 (hval 2 9 v2 rfl rfl) k2
  obtain ⟨hp, hT⟩ := tab_of (numsAt hL)
  have hcall := runs_k N ac an ar cc cn cr z s W hp hT hN (fun W1 hB => lives_k (numsAt hL) W1 hB)
  refine hcall.mono fun e W' ⟨he, hkp⟩ => ?_
  subst he
  exact ⟨_, rfl, AX.post_true (l := [26, 22, 50, 48, 23, 24, 3, 9]) (by kernel_rfl) (by rw [Tryd.params4]; simp) hW' (fun _ _ _ => (trodAll_cons_mk (shut_bool Tryd.underlying4 _) trodAll_mk0)) rfl rfl rfl (below_kept hkp) (Go.RowKit.ok_one (by kernel_rfl) rfl (okWide_bool_mk Tryd.underlying4 _))⟩

theorem dfaRuns_holds : Rows.DfaRunsSaid :=
  OpenClaim.holds_of_wide 4 Tryd.f4 rfl rfl rfl rfl rfl rfl rfl ⟨rfl, rfl, rfl, rfl, rfl⟩ rfl rfl rfl rfl rfl (by kernel_rfl) Tryd.func4 (by kernel_rfl)
    (of_decide_eq_true (by kernel_rfl)) (by unfold Func.isWrapper; first | (rw [if_pos (by decide +kernel)]; kernel_rfl) | (rw [if_neg (by decide +kernel)]; exact ⟨rfl, rfl⟩))
    (fun os started H enc _ => dfaRuns_lifted os started H enc)

theorem dfaRuns_card : Rows.DfaRunsCardSaid :=
  Claim7.holds_tied_plain_at .later [] [.data] true (true, "deddd5f4bc146ce5b41caf5f6a24b4d4233948e11efd213f1a18412c438707e0") false
    dfaRuns_holds (fun _ h => by cases h) (by kernel_rfl) (fun _ h => by cases h) dfaRuns_row_tie rfl ⟨rfl, rfl⟩ (by kernel_rfl) rfl
    (fun f fn hf hfn => by
      obtain rfl : f = 4 := Option.some.inj ((show Tryd.prog.funcNamed "viewport/viewportlaw04.DfaRuns" = some 4 by kernel_rfl).symm.trans hf) |>.symm
      obtain rfl : fn = Tryd.f4 := (Option.some.inj (Tryd.func4.symm.trans hfn)).symm
      exact ⟨by kernel_rfl, fun j t ht => by
        rw [Tryd.params4] at ht
        match j, ht with
        | 0, ht => cases ht; exact (show Tryd.prog.wantsStandIn 26 = false by kernel_rfl)
        | 1, ht => cases ht; exact (show Tryd.prog.wantsStandIn 3 = false by kernel_rfl)
        | 2, ht => cases ht; exact (show Tryd.prog.wantsStandIn 9 = false by kernel_rfl)⟩)
    (by kernel_rfl)
#print axioms dfaRuns_card
end Go.Proofs.YtaadkdmbhckdeaaDoor
