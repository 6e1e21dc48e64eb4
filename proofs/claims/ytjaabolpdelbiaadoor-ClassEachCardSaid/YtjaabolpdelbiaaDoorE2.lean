/- ClassEach returns true at every input: the code is walked, its calls by contracts; the examples that it asks first are run by an abstract machine, proved sound over the model. Condition: the table math bits.deBruijn64tab lies as the program lays it (the card ties it). -/
import Derived.Test.YtjaabolpdelbiaaDoorE1
import Derived.Test.YtjaabolpdelbiaaDoorS1
import Derived.Test.YtjaabolpdelbiaaDoorRows
import Derived.Test.YtjaabolpdelbiaaDoorTie
import Derived.Test.YtjaabolpdelbiaaDoorCards
import Derived.LaidMore
import Derived.Stop.Joined
namespace Go.Proofs.YtjaabolpdelbiaaDoor
open Go Go.Proofs Go.ChangeShapes Go.WideShapes Go.ChangeAt Go.RowKit

theorem own : ownKnob Tryd.prog.godebug = none := by kernel_rfl
def laid1 : List (String × DataW Unit) := [("math/bits.deBruijn64tab", Rows.laid_math_bits_deBruijn64tab)]
theorem numsAt {W : World} (h : laidMetH Tryd.prog laid1 W) : AX.numsAt W 0 .u8 nums := by
  rw [MakeChecks.laidMetH_plain _ _ _ (by kernel_rfl)] at h
  obtain ⟨ps, h, _⟩ := h
  exact AX.numsAt_of_laid (n := 64) (e := 5) (t := 63) (by kernel_rfl) (by kernel_rfl) Tryd.underlying63 Tryd.underlying5 (by kernel_rfl) (by kernel_rfl) h
theorem door_met (os : Os) (args : Array Value) : laidMetH Tryd.prog laid1 ((World.doorLaid Tryd.prog 14 os).forCall (fun _ _ => 0) ⟨#[], args, []⟩).memory :=
  laidMetH_of_parts3 (fuel := 8) (laidMet_of_run' 8 (by kernel_rfl) (by kernel_rfl)) (by kernel_rfl) (by kernel_rfl)
theorem lives_calls {w : World} (hg : AX.GlOk cx (AX.prOf w)) (W : World) (hB : Below w.heap.size w W) : Calls Tryd.prog 9 #[] W fun e w' => e = .returned (.bool true) ∧ Below W.heap.size W w' := by
  have hgW : AX.GlOk cx (AX.prOf W) := hg.of_prot fun k ob hk => (hB.block k (Array.getElem?_eq_some_iff.1 hk).1).trans hk
  refine (callsIn_wide.1 (ans_lives.2 (fun _ => none) W #[] hgW .nil)).mono ?_
  rintro e w' ⟨v', rfl, hv, hk⟩
  obtain rfl := hv.bool_inv
  exact ⟨rfl, hk.below⟩
theorem classEach_run {a0 a1 a2 a3 : Nat} (ha : wlt a0 a1 a2 a3) {early : Int} (he : -9223372036854775808 ≤ early ∧ early ≤ 9223372036854775807) (w : World) (hg : AX.GlOk cx (AX.prOf w)) :
    Calls Tryd.prog 4 #[cV a0 a1 a2 a3, .int .i64 early] w fun e w' => e = .returned (.bool true) ∧ AX.Kept w w' := by
  obtain ⟨hT, h0⟩ := tab_of hg
  refine (callsIn_wide.1 (each_law a0 a1 a2 a3 ha early he w h0 hT Fence.wide rfl (fun _ => trivial) (fun _ _ _ _ _ h => callsIn_wide.2 h) (lives_calls hg))).mono ?_
  rintro e w' ⟨h1, h2⟩
  exact ⟨h1, AX.Kept.of_below h2 (Nat.le_refl _)⟩

def z4 : Value := .agg #[.int .u64 0, .int .u64 0, .int .u64 0, .int .u64 0]
set_option maxRecDepth 100000 in
theorem classEach_lifted (os : Os) (started : os.Started) (H : Type) (enc : TypeId × Value → H) :
    ReturnsInHanded {} Tryd.checked os 4 .any (fun w args => (Rows.classEachSpec.pre enc Tryd.prog Tryd.f4 [] false w args ∧ laidMetH Tryd.prog laid1 w) ∧ sizedMet enc Tryd.prog Tryd.f4 (OpenSpec.ofChange Rows.classEachSpec) false w args)
      (Rows.classEachSpec.post enc Tryd.prog Tryd.f4 false true false false) := by
  refine returnsInHanded_of_change_and (C := Tryd.checked) (X := fun w _ => laidMetH Tryd.prog laid1 w) (fun _ _ _ hh h => h.of_heap hh) own started (by kernel_rfl) Tryd.func4
    (ChangeSpec.witness_shaped (enc := enc) (C := Tryd.checked) (os := os) (X := fun w _ => laidMetH Tryd.prog laid1 w) false (World.doorLaid Tryd.prog 14 os) #[z4, .int .i64 0] 8 rfl (World.shaped_of_RefB (by kernel_rfl) (by kernel_rfl)) (by kernel_rfl) (by kernel_rfl) (by kernel_rfl) (door_met os _)) ?_
  intro W base args ds gs before hval0 hW _ _ hL _
  have hval : ∀ (j : Nat) t v, Tryd.f4.params[j]? = some t → args[j]? = some v → Value.okWide Tryd.prog W .any base t v := hval0
  have hW' := hW
  obtain ⟨p, q, hA0, hV, rfl, hfz, hnd⟩ := hW
  have hA : DataW.TrodAll enc Tryd.prog W 0 (fun _ => true) true Tryd.f4.params.toList args.toList ds p := hA0
  rw [Tryd.params4] at hA hval
  obtain ⟨v0, v1, d0, d1, p0, p1, rfl, rfl, rfl, h0, h1⟩ := trodAll_two hA
  obtain ⟨rfl, rfl⟩ := trodVars_none hV
  obtain ⟨a0, a1, a2, a3, ha, rfl, rfl, rfl⟩ := open_cls (hval 0 27 v0 rfl rfl) h0
  obtain ⟨early, rfl, rfl, rfl, we⟩ := open_int Tryd.underlying3 (hval 1 3 v1 rfl rfl) h1
  clear hA0 hval0
  simp only [List.append_nil] at hW'
  refine (classEach_run ha (bounds_i64 we) W (AX.glOk_nums (numsAt hL))).mono fun e W' ⟨he, hk⟩ => ?_
  subst he
  exact ⟨_, rfl, AX.post_of_kept (pa := []) (pv := []) hW' (fun _ _ _ => (trodAll_cons_mk (shut_bool Tryd.underlying4 _) trodAll_mk0))
    (fun sp _ => (trodAll_cons_mk (p := []) (shut_cls ha) (trodAll_cons_mk (p := []) (shut_int Tryd.underlying3 we) trodAll_mk0))) (fun _ _ => rfl) rfl
    hk (ok_one (by kernel_rfl) rfl (okWide_bool_mk Tryd.underlying4 _))⟩

theorem classEach_holds : Rows.ClassEachSaid :=
  OpenClaim.holds_of_wide 4 Tryd.f4 rfl rfl rfl rfl rfl rfl rfl ⟨rfl, rfl, rfl, rfl, rfl⟩ rfl rfl rfl rfl rfl (by kernel_rfl) Tryd.func4 (by kernel_rfl)
    (of_decide_eq_true (by kernel_rfl)) (by unfold Func.isWrapper; first | (rw [if_pos (by decide +kernel)]; kernel_rfl) | (rw [if_neg (by decide +kernel)]; exact ⟨rfl, rfl⟩))
    (fun os started H enc _ => classEach_lifted os started H enc)

theorem classEach_card : Rows.ClassEachCardSaid :=
  Claim7.holds_tied_plain_at .later [] [.data] true (true, "5e29bf0000f66c8b99edb4d8382e1973713f85f0888d6d4c4ad9ad69016ea8ce") false
    classEach_holds (fun _ h => by cases h) (by kernel_rfl) (fun _ h => by cases h) classEach_row_tie rfl ⟨rfl, rfl⟩ (by kernel_rfl) rfl
    (fun f fn hf hfn => by
      obtain rfl : f = 4 := Option.some.inj ((show Tryd.prog.funcNamed "viewport/viewportlaw01.ClassEach" = some 4 by kernel_rfl).symm.trans hf) |>.symm
      obtain rfl : fn = Tryd.f4 := (Option.some.inj (Tryd.func4.symm.trans hfn)).symm
      exact ⟨by kernel_rfl, fun j t ht => by
        rw [Tryd.params4] at ht
        match j, ht with
        | 0, ht => cases ht; exact (show Tryd.prog.wantsStandIn 27 = false by kernel_rfl)
        | 1, ht => cases ht; exact (show Tryd.prog.wantsStandIn 3 = false by kernel_rfl)⟩)
    (by kernel_rfl)
#print axioms classEach_card
end Go.Proofs.YtjaabolpdelbiaaDoor
