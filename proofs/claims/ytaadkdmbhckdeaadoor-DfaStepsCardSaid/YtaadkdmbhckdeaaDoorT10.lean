/- DfaSteps returns true at every input: its calls are answered by contracts, each proved by walking the code; lives() is reckoned by an abstract machine, proved sound over the model. Condition: the table math/bits.deBruijn64tab lies as the program lays it (the card ties it). -/
import Derived.Test.YtaadkdmbhckdeaaDoorT8
import Derived.Test.YtaadkdmbhckdeaaDoorT9
import Derived.Test.YtaadkdmbhckdeaaDoorPx1
import Derived.Test.YtaadkdmbhckdeaaDoorRows
import Derived.Test.YtaadkdmbhckdeaaDoorTie
import Derived.Test.YtaadkdmbhckdeaaDoorCards
import Derived.WalkKit
import Derived.ProofKit
import Derived.OpenShut
import Derived.LaidMore
import Derived.Stop.Joined
import Derived.ChangeMaps5
import Derived.ChangeSlices
namespace Go.Proofs.YtaadkdmbhckdeaaDoor
open Go Go.Proofs Go.ChangeShapes Go.WideShapes Go.ChangeAt Go.RowKit

theorem own : ownKnob Tryd.prog.godebug = none := by kernel_rfl
def laid1 : List (String × DataW Unit) := [("math/bits.deBruijn64tab", Rows.laid_math_bits_deBruijn64tab)]
theorem door_met (os : Os) (args : Array Value) : laidMetH Tryd.prog laid1 ((World.doorLaid Tryd.prog 14 os).forCall (fun _ _ => 0) ⟨#[], args, []⟩).memory :=
  laidMetH_of_parts3 (fuel := 8) (laidMet_of_run' 8 (by kernel_rfl) (by kernel_rfl)) (by kernel_rfl) (by kernel_rfl)
theorem below_kept {w w' : World} (h : Below w.heap.size w w') : AX.Kept w w' := ⟨h.os, h.output, h.tape, fun k _ hk => (h.block k (Array.getElem?_eq_some_iff.1 hk).1).trans hk⟩
section
variable {H : Type} {enc : TypeId × Value → H} {w : World} {sp : Nat → Bool} {held : Bool}
theorem open_row {n : Nat} {c : Value} {y : DataW H × List MemPlace} (h : DataW.trod enc Tryd.prog w 0 sp held n 24 [c] = some y) :
    ∃ (a : Option Addr) (l : List Int) (cap : Nat), c = .slice a l.length cap ∧ l.length ≤ 9223372036854775807 ∧ IRow w a l := by
  rcases open_ints Tryd.underlying24 Tryd.underlying3 (by kernel_rfl) h with ⟨h1, _⟩ | ⟨a, len, cap, zs, h1, _, hl, hm, hz, _, hc, _⟩
  · cases h1
    exact ⟨none, [], 0, rfl, by simp, fun h => absurd rfl h⟩
  · cases h1
    have hlen : len ≤ zs.length := by rw [hz]; split <;> omega
    have hm : cap ≤ 9223372036854775807 := hm
    refine ⟨some a, zs.take len, cap, by rw [List.length_take, Nat.min_eq_left hlen], by rw [List.length_take]; omega, fun hne => ?_⟩
    have h0 : 0 < len := by
      rcases Nat.eq_zero_or_pos len with e | e
      · subst e; simp at hne
      · exact e
    obtain ⟨b, off, spot⟩ := a
    have c0 := hc 0 (by omega)
    have hs : spot = none := by simpa [Addr.add] using World.cell?_spot c0
    subst hs
    refine ⟨b, off, rfl, by have := block_lt_of_cell c0; simpa [Addr.add] using this, fun j hj => ?_⟩
    have hj' : j < len := by rw [List.length_take] at hj; omega
    have := hc j (by omega)
    rw [Addr.add_lit] at this
    rw [this]
    simp [List.getD, show j < zs.length by omega]
set_option maxRecDepth 100000 in
theorem open_table {r : Reach} {b0 : Nat} {v : Value} {d : DataW H} {p : List MemPlace} (hv : Value.okWide Tryd.prog w r b0 32 v) (h : DataW.Trod enc Tryd.prog w 0 sp held 32 v d p) :
    ∃ (an ar : Option Addr) (next rule : List Int) (cn cr : Nat), v = .agg #[.slice an next.length cn, .slice ar rule.length cr] ∧ next.length ≤ 9223372036854775807 ∧ rule.length ≤ 9223372036854775807 ∧ IRow w an next ∧ IRow w ar rule := by
  simp only [Value.okWide, Tryd.underlying32] at hv
  obtain ⟨cs, rfl, hsz, _⟩ := hv
  have hc : Tryd.prog.cellsOf 32 = 2 := by kernel_rfl
  have hc1 : Tryd.prog.cellsOf 24 = 1 := by kernel_rfl
  obtain ⟨c0, c1, rfl⟩ : ∃ c0 c1, cs = #[c0, c1] := by
    obtain ⟨l⟩ := cs
    match l, hsz.trans hc with
    | [c0, c1], _ => exact ⟨c0, c1, rfl⟩
  obtain ⟨fuel, hf⟩ := h
  obtain ⟨y0, y1, n, _, _, h0, h1⟩ := trod_struct2 Tryd.underlying32 (by simpa [Value.cells] using hf)
  simp only [hc1] at h0 h1
  obtain ⟨a0, l0, k0, rfl, m0, r0⟩ := open_row h0
  obtain ⟨a1, l1, k1, rfl, m1, r1⟩ := open_row h1
  exact ⟨a0, a1, l0, l1, k0, k1, rfl, m0, m1, r0, r1⟩
end
set_option maxRecDepth 100000 in
theorem dfaSteps_lifted (os : Os) (started : os.Started) (H : Type) (enc : TypeId × Value → H) :
    ReturnsInHanded {} Tryd.checked os 5 .any (fun w args => (Rows.dfaStepsSpec.pre enc Tryd.prog Tryd.f5 [] false w args ∧ laidMetH Tryd.prog laid1 w) ∧ sizedMet enc Tryd.prog Tryd.f5 (OpenSpec.ofChange Rows.dfaStepsSpec) false w args)
      (Rows.dfaStepsSpec.post enc Tryd.prog Tryd.f5 false true false false) := by
  refine returnsInHanded_of_change_and (C := Tryd.checked) (X := fun w _ => laidMetH Tryd.prog laid1 w) (fun _ _ _ hh h => h.of_heap hh) own started (by kernel_rfl) Tryd.func5
    (ChangeSpec.witness_shaped (enc := enc) (C := Tryd.checked) (os := os) (X := fun w _ => laidMetH Tryd.prog laid1 w) false (World.doorLaid Tryd.prog 14 os) #[.agg #[.slice none 0 0, .slice none 0 0], .string .empty, .int .i64 0] 8 rfl (World.shaped_of_RefB (by kernel_rfl) (by kernel_rfl)) (by kernel_rfl) (by kernel_rfl) (by kernel_rfl) (door_met os _)) ?_
  intro W base args ds gs before hval0 hW _ _ hL _
  have hval : ∀ (j : Nat) t v, Tryd.f5.params[j]? = some t → args[j]? = some v → Value.okWide Tryd.prog W .any base t v := hval0
  have hW' := hW
  obtain ⟨p, q, hA0, hV, rfl, hfz, hnd⟩ := hW
  have hA : DataW.TrodAll enc Tryd.prog W 0 (fun _ => true) true Tryd.f5.params.toList args.toList ds p := hA0
  rw [Tryd.params5] at hA hval
  obtain ⟨rfl, rfl⟩ := trodVars_none hV
  obtain ⟨v0, l, d0, dl, p0, q0, h0, rfl, rfl, k0, hA⟩ := trodAll_cons hA
  obtain ⟨v1, l, d1, dl, p1, q1, rfl, rfl, rfl, k1, hA⟩ := trodAll_cons hA
  obtain ⟨v2, l, d2, dl, p2, q2, rfl, rfl, rfl, k2, hA⟩ := trodAll_cons hA
  obtain ⟨rfl, rfl, rfl⟩ := trodAll_nil hA
  have ha : args = #[v0, v1, v2] := by cases args; simp_all
  subst ha
  obtain ⟨an, ar, next, rule, cn, cr, rfl, hn, hr, hN, hR⟩ := open_table (hval 0 32 v0 rfl rfl) k0
  obtain ⟨s, rfl, rfl, rfl, hs⟩ := Go.ChangeMaps.open_string Tryd.underlying9 (hval 1 9 v1 rfl rfl) k1
  obtain ⟨z, rfl, rfl, rfl, wz⟩ := open_int Tryd.underlying3 (hval 2 3 v2 rfl rfl) k2
  have hs : s.size ≤ 9223372036854775807 := hs
  have hLv := fun W1 hB => lives_k (numsAt hL) W1 hB
  have hcall : Calls Tryd.prog 5 #[.agg #[.slice an next.length cn, .slice ar rule.length cr], .string s, .int .i64 z] W fun e w' => e = .returned (.bool true) ∧ Below W.heap.size W w' := by
    by_cases hin : rule.length ≤ 24 ∧ next.length ≤ 6144
    · by_cases h40 : s.size ≤ 40
      · cases hok : okT next rule with
        | true => exact steps_in hN hR s z hLv hin h40 hok
        | false => exact steps_out hn hr hN hR s hs z hLv (.inr (.inr ⟨hin, h40, hok⟩))
      · exact steps_out hn hr hN hR s hs z hLv (.inr (.inl ⟨hin, by omega⟩))
    · exact steps_out hn hr hN hR s hs z hLv (.inl hin)
  refine hcall.mono fun e W' ⟨he, hk⟩ => ?_
  subst he
  exact ⟨_, rfl, AX.post_true (l := [32, 24, 9, 3]) (by kernel_rfl) (by rw [Tryd.params5]; simp) hW' (fun _ _ _ => (trodAll_cons_mk (shut_bool Tryd.underlying4 _) trodAll_mk0)) rfl rfl rfl (below_kept hk) (ok_one (by kernel_rfl) rfl (okWide_bool_mk Tryd.underlying4 _))⟩

theorem dfaSteps_holds : Rows.DfaStepsSaid :=
  OpenClaim.holds_of_wide 5 Tryd.f5 rfl rfl rfl rfl rfl rfl rfl ⟨rfl, rfl, rfl, rfl, rfl⟩ rfl rfl rfl rfl rfl (by kernel_rfl) Tryd.func5 (by kernel_rfl)
    (of_decide_eq_true (by kernel_rfl)) (by unfold Func.isWrapper; first | (rw [if_pos (by decide +kernel)]; kernel_rfl) | (rw [if_neg (by decide +kernel)]; exact ⟨rfl, rfl⟩))
    (fun os started H enc _ => dfaSteps_lifted os started H enc)

theorem dfaSteps_card : Rows.DfaStepsCardSaid :=
  Claim7.holds_tied_plain_at .later [] [.data] true (true, "deddd5f4bc146ce5b41caf5f6a24b4d4233948e11efd213f1a18412c438707e0") false
    dfaSteps_holds (fun _ h => by cases h) (by kernel_rfl) (fun _ h => by cases h) dfaSteps_row_tie rfl ⟨rfl, rfl⟩ (by kernel_rfl) rfl
    (fun f fn hf hfn => by
      obtain rfl : f = 5 := Option.some.inj ((show Tryd.prog.funcNamed "viewport/viewportlaw04.DfaSteps" = some 5 by kernel_rfl).symm.trans hf) |>.symm
      obtain rfl : fn = Tryd.f5 := (Option.some.inj (Tryd.func5.symm.trans hfn)).symm
      exact ⟨by kernel_rfl, fun j t ht => by
        rw [Tryd.params5] at ht
        match j, ht with
        | 0, ht => cases ht; exact (show Tryd.prog.wantsStandIn 32 = false by kernel_rfl)
        | 1, ht => cases ht; exact (show Tryd.prog.wantsStandIn 9 = false by kernel_rfl)
        | 2, ht => cases ht; exact (show Tryd.prog.wantsStandIn 3 = false by kernel_rfl)⟩)
    (by kernel_rfl)
#print axioms dfaSteps_card
end Go.Proofs.YtaadkdmbhckdeaaDoor
