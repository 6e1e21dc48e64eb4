/- RegexBack returns true at every input: its calls are answered by contracts, each proved by walking the code; lives() is reckoned by an abstract machine, proved sound over the model. Condition: the table math/bits.deBruijn64tab lies as the program lays it (the card ties it). -/
import Derived.Test.YtpbkgegkjglibaaDoorU19
import Derived.Test.YtpbkgegkjglibaaDoorW20
namespace Go.Proofs.YtpbkgegkjglibaaDoor
open Go Go.Proofs Go.ChangeShapes Go.WideShapes Go.ChangeAt Go.RowKit
theorem nums_tab : ∀ j : Fin 64, nums[j.val]? = some ((Lib.deBruijn64tab.getD j.val 0 : Nat) : Int) := by decide +kernel
theorem tab_of {W : World} (h : AX.numsAt W 0 .u8 nums) : 0 < W.heap.size ∧ TabAt W := by
  obtain ⟨cs, e, fz, h1, h2⟩ := h
  refine ⟨(Array.getElem?_eq_some_iff.1 h1).1, fun j hj => ?_⟩
  have h3 : W.cell? ⟨0, j, none⟩ = cs[j]? := by simp [World.cell?, h1]
  rw [h3, ← Array.getElem?_toList, h2, List.getElem?_map, nums_tab ⟨j, hj⟩]
  rfl
set_option maxRecDepth 100000 in
theorem regexBack_lifted (os : Os) (started : os.Started) (H : Type) (enc : TypeId × Value → H) :
    ReturnsInHanded {} Tryd.checked os 4 .any (fun w args => (Rows.regexBackSpec.pre enc Tryd.prog Tryd.f4 [] false w args ∧ laidMetH Tryd.prog laid1 w) ∧ sizedMet enc Tryd.prog Tryd.f4 (OpenSpec.ofChange Rows.regexBackSpec) false w args)
      (Rows.regexBackSpec.post enc Tryd.prog Tryd.f4 false true false false) := by
  refine returnsInHanded_of_change_and (C := Tryd.checked) (X := fun w _ => laidMetH Tryd.prog laid1 w) (fun _ _ _ hh h => h.of_heap hh) own started (by kernel_rfl) Tryd.func4
    (ChangeSpec.witness_shaped (enc := enc) (C := Tryd.checked) (os := os) (X := fun w _ => laidMetH Tryd.prog laid1 w) false (World.doorLaid Tryd.prog 14 os) #[.slice none 0 0] 8 rfl (World.shaped_of_RefB (by kernel_rfl) (by kernel_rfl)) (by kernel_rfl) (by kernel_rfl) (by kernel_rfl) (door_met os _)) ?_
  intro W base args ds gs before hval0 hW _ _ hL _
  have hval : ∀ (j : Nat) t v, Tryd.f4.params[j]? = some t → args[j]? = some v → Value.okWide Tryd.prog W .any base t v := hval0
  have hW' := hW
  obtain ⟨p, q, hA0, hV, rfl, hfz, hnd⟩ := hW
  have hA : DataW.TrodAll enc Tryd.prog W 0 (fun _ => true) true Tryd.f4.params.toList args.toList ds p := hA0
  rw [Tryd.params4] at hA hval
  obtain ⟨rfl, rfl⟩ := trodVars_none hV
  obtain ⟨v0, l, d0, dl, p0, q0, h0, rfl, rfl, k0, hA⟩ := trodAll_cons hA
  obtain ⟨rfl, rfl, rfl⟩ := trodAll_nil hA
  have ha : args = #[v0] := by cases args; simp_all
  subst ha
  obtain ⟨a, hRa, hwa, hla⟩ := open_nodes (hval 0 24 v0 rfl rfl) k0
  obtain ⟨hp, hT⟩ := tab_of (numsAt hL)
  have hcall := back_k a v0 hla hwa W hp hT hRa (fun W1 hB => lives_k (numsAt hL) W1 hB)
  refine hcall.mono fun e W' ⟨he, hkp⟩ => ?_
  subst he
  exact ⟨_, rfl, AX.post_true (l := [24, 45, 38, 36, 43, 3]) (by kernel_rfl) (by rw [Tryd.params4]; simp) hW' (fun _ _ _ => (trodAll_cons_mk (shut_bool Tryd.underlying4 _) trodAll_mk0)) rfl rfl rfl (below_kept hkp) (Go.RowKit.ok_one (by kernel_rfl) rfl (okWide_bool_mk Tryd.underlying4 _))⟩

theorem regexBack_holds : Rows.RegexBackSaid :=
  OpenClaim.holds_of_wide 4 Tryd.f4 rfl rfl rfl rfl rfl rfl rfl ⟨rfl, rfl, rfl, rfl, rfl⟩ rfl rfl rfl rfl rfl (by kernel_rfl) Tryd.func4 (by kernel_rfl)
    (of_decide_eq_true (by kernel_rfl)) (by unfold Func.isWrapper; first | (rw [if_pos (by decide +kernel)]; kernel_rfl) | (rw [if_neg (by decide +kernel)]; exact ⟨rfl, rfl⟩))
    (fun os started H enc _ => regexBack_lifted os started H enc)

theorem regexBack_card : Rows.RegexBackCardSaid :=
  Claim7.holds_tied_plain_at .later [] [.data] true (true, "c277e0fbd44346db22150428dc3eb44bf575ca3c6306a9e8a2f2c195261c4681") false
    regexBack_holds (fun _ h => by cases h) (by kernel_rfl) (fun _ h => by cases h) regexBack_row_tie rfl ⟨rfl, rfl⟩ (by kernel_rfl) rfl
    (fun f fn hf hfn => by
      obtain rfl : f = 4 := Option.some.inj ((show Tryd.prog.funcNamed "viewport/viewportlaw02.RegexBack" = some 4 by kernel_rfl).symm.trans hf) |>.symm
      obtain rfl : fn = Tryd.f4 := (Option.some.inj (Tryd.func4.symm.trans hfn)).symm
      exact ⟨by kernel_rfl, fun j t ht => by
        rw [Tryd.params4] at ht
        match j, ht with
        | 0, ht => cases ht; exact (show Tryd.prog.wantsStandIn 24 = false by kernel_rfl)⟩)
    (by kernel_rfl)
#print axioms regexBack_card
end Go.Proofs.YtpbkgegkjglibaaDoor
