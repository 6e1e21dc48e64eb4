/- ClassLaws returns true at every input: its calls are answered by contracts (each proved by walking the code), the rest of its body is run by an abstract machine, proved sound over the model. Condition: the table math bits.deBruijn64tab lies as the program lays it (the card ties it). -/
import Derived.Test.YtjaabolpdelbiaaDoorL3
namespace Go.Proofs.YtjaabolpdelbiaaDoor
open Go Go.Proofs Go.ChangeShapes Go.WideShapes Go.ChangeAt Go.RowKit

theorem own : ownKnob Tryd.prog.godebug = none := by kernel_rfl
def laid1 : List (String × DataW Unit) := [("math/bits.deBruijn64tab", Rows.laid_math_bits_deBruijn64tab)]
theorem numsAt {W : World} (h : laidMetH Tryd.prog laid1 W) : AX.numsAt W 0 .u8 nums := by
  rw [MakeChecks.laidMetH_plain _ _ _ (by kernel_rfl)] at h
  obtain ⟨ps, h, _⟩ := h
  exact AX.numsAt_of_laid (n := 64) (e := 5) (t := 63) (by kernel_rfl) (by kernel_rfl) Tryd.underlying63 Tryd.underlying5 (by kernel_rfl) (by kernel_rfl) h
theorem door_met (os : Os) (args : Array Value) : laidMetH Tryd.prog laid1 ((World.doorLaid Tryd.prog 14 os).forCall (fun _ _ => 0) ⟨#[], args, []⟩).memory :=
  laidMetH_of_parts3 (fuel := 8) (laidMet_of_run' 8 (by kernel_rfl) (by kernel_rfl)) (by kernel_rfl) (by kernel_rfl)
theorem six_args {H : Type} {enc : TypeId × Value → H} {W : World} {base : Nat} {sp : Nat → Bool} {held : Bool} {t0 t1 t2 t3 t4 t5 : TypeId} {args : Array Value} {ds : List (DataW H)} {ps : List MemPlace} (h : DataW.TrodAll enc Tryd.prog W base sp held [t0, t1, t2, t3, t4, t5] args.toList ds ps) :
    ∃ v0 v1 v2 v3 v4 v5 d0 d1 d2 d3 d4 d5 p0 p1 p2 p3 p4 p5, args = #[v0, v1, v2, v3, v4, v5] ∧ ds = [d0, d1, d2, d3, d4, d5] ∧ ps = p0 ++ (p1 ++ (p2 ++ (p3 ++ (p4 ++ p5)))) ∧ DataW.Trod enc Tryd.prog W base sp held t0 v0 d0 p0 ∧ DataW.Trod enc Tryd.prog W base sp held t1 v1 d1 p1 ∧ DataW.Trod enc Tryd.prog W base sp held t2 v2 d2 p2 ∧
      DataW.Trod enc Tryd.prog W base sp held t3 v3 d3 p3 ∧ DataW.Trod enc Tryd.prog W base sp held t4 v4 d4 p4 ∧ DataW.Trod enc Tryd.prog W base sp held t5 v5 d5 p5 := by
  obtain ⟨v0, l, d0, ds, p0, q, h0, rfl, rfl, k0, h⟩ := trodAll_cons h
  obtain ⟨v1, l, d1, ds, p1, q, rfl, rfl, rfl, k1, h⟩ := trodAll_cons h
  obtain ⟨v2, l, d2, ds, p2, q, rfl, rfl, rfl, k2, h⟩ := trodAll_cons h
  obtain ⟨v3, l, d3, ds, p3, q, rfl, rfl, rfl, k3, h⟩ := trodAll_cons h
  obtain ⟨v4, l, d4, ds, p4, q, rfl, rfl, rfl, k4, h⟩ := trodAll_cons h
  obtain ⟨v5, l, d5, ds, p5, q, rfl, rfl, rfl, k5, h⟩ := trodAll_cons h
  obtain ⟨rfl, rfl, rfl⟩ := trodAll_nil h
  exact ⟨v0, v1, v2, v3, v4, v5, d0, d1, d2, d3, d4, d5, p0, p1, p2, p3, p4, p5, by cases args; simp_all, rfl, by simp, k0, k1, k2, k3, k4, k5⟩

def z4 : Value := .agg #[.int .u64 0, .int .u64 0, .int .u64 0, .int .u64 0]
set_option maxRecDepth 100000 in
theorem classLaws_lifted (os : Os) (started : os.Started) (H : Type) (enc : TypeId × Value → H) :
    ReturnsInHanded {} Tryd.checked os 5 .any (fun w args => (Rows.classLawsSpec.pre enc Tryd.prog Tryd.f5 [] false w args ∧ laidMetH Tryd.prog laid1 w) ∧ sizedMet enc Tryd.prog Tryd.f5 (OpenSpec.ofChange Rows.classLawsSpec) false w args)
      (Rows.classLawsSpec.post enc Tryd.prog Tryd.f5 false true false false) := by
  refine returnsInHanded_of_change_and (C := Tryd.checked) (X := fun w _ => laidMetH Tryd.prog laid1 w) (fun _ _ _ hh h => h.of_heap hh) own started (by kernel_rfl) Tryd.func5
    (ChangeSpec.witness_shaped (enc := enc) (C := Tryd.checked) (os := os) (X := fun w _ => laidMetH Tryd.prog laid1 w) false (World.doorLaid Tryd.prog 14 os) #[z4, z4, z4, .int .u8 0, .int .u8 0, .int .u8 0] 8 rfl (World.shaped_of_RefB (by kernel_rfl) (by kernel_rfl)) (by kernel_rfl) (by kernel_rfl) (by kernel_rfl) (door_met os _)) ?_
  intro W base args ds gs before hval0 hW _ _ hL _
  have hval : ∀ (j : Nat) t v, Tryd.f5.params[j]? = some t → args[j]? = some v → Value.okWide Tryd.prog W .any base t v := hval0
  have hW' := hW
  obtain ⟨p, q, hA0, hV, rfl, hfz, hnd⟩ := hW
  have hA : DataW.TrodAll enc Tryd.prog W 0 (fun _ => true) true Tryd.f5.params.toList args.toList ds p := hA0
  rw [Tryd.params5] at hA hval
  obtain ⟨v0, v1, v2, v3, v4, v5, d0, d1, d2, d3, d4, d5, p0, p1, p2, p3, p4, p5, rfl, rfl, rfl, h0, h1, h2, h3, h4, h5⟩ := six_args hA
  obtain ⟨rfl, rfl⟩ := trodVars_none hV
  obtain ⟨a0, a1, a2, a3, ha, rfl, rfl, rfl⟩ := open_cls (hval 0 27 v0 rfl rfl) h0
  obtain ⟨b0, b1, b2, b3, hb, rfl, rfl, rfl⟩ := open_cls (hval 1 27 v1 rfl rfl) h1
  obtain ⟨c0, c1, c2, c3, hc, rfl, rfl, rfl⟩ := open_cls (hval 2 27 v2 rfl rfl) h2
  obtain ⟨z, rfl, rfl, rfl, wl⟩ := open_int Tryd.underlying5 (hval 3 5 v3 rfl rfl) h3
  obtain ⟨low, rfl, hl⟩ := nat_of_u8 wl
  obtain ⟨z, rfl, rfl, rfl, wh⟩ := open_int Tryd.underlying5 (hval 4 5 v4 rfl rfl) h4
  obtain ⟨high, rfl, hh⟩ := nat_of_u8 wh
  obtain ⟨z, rfl, rfl, rfl, wx⟩ := open_int Tryd.underlying5 (hval 5 5 v5 rfl rfl) h5
  obtain ⟨x, rfl, hx⟩ := nat_of_u8 wx
  clear hA0 hval0
  simp only [List.append_nil] at hW'
  refine (classLaws_run ha hb hc hl hh hx W (AX.glOk_nums (numsAt hL))).mono fun e W' ⟨he, hk⟩ => ?_
  subst he
  exact ⟨_, rfl, AX.post_of_kept (pa := []) (pv := []) hW' (fun _ _ _ => (trodAll_cons_mk (shut_bool Tryd.underlying4 _) trodAll_mk0))
    (fun sp _ => (trodAll_cons_mk (p := []) (shut_cls ha) (trodAll_cons_mk (p := []) (shut_cls hb) (trodAll_cons_mk (p := []) (shut_cls hc) (trodAll_cons_mk (p := []) (shut_int Tryd.underlying5 wl) (trodAll_cons_mk (p := []) (shut_int Tryd.underlying5 wh) (trodAll_cons_mk (p := []) (shut_int Tryd.underlying5 wx) trodAll_mk0))))))) (fun _ _ => rfl) rfl
    hk (ok_one (by kernel_rfl) rfl (okWide_bool_mk Tryd.underlying4 _))⟩

theorem classLaws_holds : Rows.ClassLawsSaid :=
  OpenClaim.holds_of_wide 5 Tryd.f5 rfl rfl rfl rfl rfl rfl rfl ⟨rfl, rfl, rfl, rfl, rfl⟩ rfl rfl rfl rfl rfl (by kernel_rfl) Tryd.func5 (by kernel_rfl)
    (of_decide_eq_true (by kernel_rfl)) (by unfold Func.isWrapper; first | (rw [if_pos (by decide +kernel)]; kernel_rfl) | (rw [if_neg (by decide +kernel)]; exact ⟨rfl, rfl⟩))
    (fun os started H enc _ => classLaws_lifted os started H enc)

theorem classLaws_card : Rows.ClassLawsCardSaid :=
  Claim7.holds_tied_plain_at .later [] [.data] true (true, "5e29bf0000f66c8b99edb4d8382e1973713f85f0888d6d4c4ad9ad69016ea8ce") false
    classLaws_holds (fun _ h => by cases h) (by kernel_rfl) (fun _ h => by cases h) classLaws_row_tie rfl ⟨rfl, rfl⟩ (by kernel_rfl) rfl
    (fun f fn hf hfn => by
      obtain rfl : f = 5 := Option.some.inj ((show Tryd.prog.funcNamed "viewport/viewportlaw01.ClassLaws" = some 5 by kernel_rfl).symm.trans hf) |>.symm
      obtain rfl : fn = Tryd.f5 := (Option.some.inj (Tryd.func5.symm.trans hfn)).symm
      exact ⟨by kernel_rfl, fun j t ht => by
        rw [Tryd.params5] at ht
        match j, ht with
        | 0, ht => cases ht; exact (show Tryd.prog.wantsStandIn 27 = false by kernel_rfl)
        | 1, ht => cases ht; exact (show Tryd.prog.wantsStandIn 27 = false by kernel_rfl)
        | 2, ht => cases ht; exact (show Tryd.prog.wantsStandIn 27 = false by kernel_rfl)
        | 3, ht => cases ht; exact (show Tryd.prog.wantsStandIn 5 = false by kernel_rfl)
        | 4, ht => cases ht; exact (show Tryd.prog.wantsStandIn 5 = false by kernel_rfl)
        | 5, ht => cases ht; exact (show Tryd.prog.wantsStandIn 5 = false by kernel_rfl)⟩)
    (by kernel_rfl)
#print axioms classLaws_card
end Go.Proofs.YtjaabolpdelbiaaDoor
