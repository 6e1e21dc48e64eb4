/- LexerCalls returns true at every input: its calls are answered by contracts, each proved by walking the code; lives() is reckoned by an abstract machine, proved sound over the model. Condition: the table math/bits.deBruijn64tab lies as the program lays it (the card ties it). -/
import Derived.Test.YtefjfbhffmkikaaGreatDoorL39
import Derived.Test.YtefjfbhffmkikaaGreatDoorL40
import Derived.Test.YtefjfbhffmkikaaGreatDoorPx1
import Derived.Test.YtefjfbhffmkikaaGreatDoorRows
import Derived.Test.YtefjfbhffmkikaaGreatDoorTie
import Derived.Test.YtefjfbhffmkikaaGreatDoorCards
import Derived.WalkKit
import Derived.ProofKit
import Derived.OpenShut
import Derived.LaidMore
import Derived.Stop.Joined
import Derived.ChangeMaps5
import Derived.ChangeSlices
import Derived.Deep.Strs
namespace Go.Proofs.YtefjfbhffmkikaaGreatDoor
open Go Go.Proofs Go.ChangeShapes Go.WideShapes Go.ChangeAt Go.RowKit

theorem own : ownKnob Tryz.prog.godebug = none := by kernel_rfl
def laid1 : List (String × DataW Unit) := [("math/bits.deBruijn64tab", Rows.laid_math_bits_deBruijn64tab)]
theorem door_met (os : Os) (args : Array Value) : laidMetH Tryz.prog laid1 ((World.doorLaid Tryz.prog 14 os).forCall (fun _ _ => 0) ⟨#[], args, []⟩).memory :=
  laidMetH_of_parts3 (fuel := 8) (laidMet_of_run' 8 (by kernel_rfl) (by kernel_rfl)) (by kernel_rfl) (by kernel_rfl)
theorem below_kept {w w' : World} (h : Below w.heap.size w w') : AX.Kept w w' := ⟨h.os, h.output, h.tape, fun k _ hk => (h.block k (Array.getElem?_eq_some_iff.1 hk).1).trans hk⟩
section
variable {H : Type} {enc : TypeId × Value → H} {w : World} {sp : Nat → Bool} {held : Bool}
theorem open_row {n : Nat} {c : Value} {y : DataW H × List MemPlace} (h : DataW.trod enc Tryz.prog w 0 sp held n 22 [c] = some y) :
    ∃ (a : Option Addr) (l : List Int) (cap : Nat), c = .slice a l.length cap ∧ l.length ≤ 9223372036854775807 ∧ IRow w a l := by
  rcases open_ints Tryz.underlying22 Tryz.underlying3 (by kernel_rfl) h with ⟨h1, _⟩ | ⟨a, len, cap, zs, h1, _, hl, hm, hz, _, hc, _⟩
  · cases h1
    exact ⟨none, [], 0, rfl, by simp, fun h => absurd rfl h⟩
  · cases h1
    have hlen : len ≤ zs.length := by rw [hz]; split <;> omega
    have hm : cap ≤ 9223372036854775807 := hm
    refine ⟨some a, zs.take len, cap, by rw [List.length_take, Nat.min_eq_left hlen], by rw [List.length_take]; omega, fun hne => ?_⟩
    have h0 : 0 < len := by
      rcases Nat.eq_zero_or_pos len with e | e
      · subst e; simp at hne
      · exact e
    obtain ⟨b, off, spot⟩ := a
    have c0 := hc 0 (by omega)
    have hs : spot = none := by simpa [Addr.add] using World.cell?_spot c0
    subst hs
    refine ⟨b, off, rfl, by have := block_lt_of_cell c0; simpa [Addr.add] using this, fun j hj => ?_⟩
    have hj' : j < len := by rw [List.length_take] at hj; omega
    have := hc j (by omega)
    rw [Addr.add_lit] at this
    rw [this]
    simp [List.getD, show j < zs.length by omega]
set_option maxRecDepth 100000 in
theorem open_lexer {r : Reach} {b0 : Nat} {v : Value} {d : DataW H} {p : List MemPlace} (hv : Value.okWide Tryz.prog w r b0 26 v) (h : DataW.Trod enc Tryz.prog w 0 sp held 26 v d p) :
    ∃ (an ar ak : Option Addr) (next rule kind : List Int) (kinds : Int) (cn cr ck : Nat), v = lV an ar ak next.length rule.length kind.length cn cr ck kinds ∧ next.length ≤ 9223372036854775807 ∧ rule.length ≤ 9223372036854775807 ∧ kind.length ≤ 9223372036854775807 ∧ IRow w an next ∧ IRow w ar rule ∧ IRow w ak kind := by
  simp only [Value.okWide, Tryz.underlying26] at hv
  obtain ⟨cs, rfl, hsz, _⟩ := hv
  have hc : Tryz.prog.cellsOf 26 = 4 := by kernel_rfl
  have hc1 : Tryz.prog.cellsOf 22 = 1 := by kernel_rfl
  have hc2 : Tryz.prog.cellsOf 24 = 2 := by kernel_rfl
  have hc3 : Tryz.prog.cellsOf 3 = 1 := by kernel_rfl
  obtain ⟨c0, c1, c2, c3, rfl⟩ : ∃ c0 c1 c2 c3, cs = #[c0, c1, c2, c3] := by
    obtain ⟨l⟩ := cs
    match l, hsz.trans hc with
    | [c0, c1, c2, c3], _ => exact ⟨c0, c1, c2, c3, rfl⟩
  obtain ⟨fuel, hf⟩ := h
  obtain ⟨y0, y1, y2, n, _, _, h0, h1, h2⟩ := Deep.trod_struct3 Tryz.underlying26 (by simpa [Value.cells] using hf)
  simp only [hc1, hc2, hc3] at h0 h1 h2
  obtain ⟨z0, z1, m, _, _, g0, g1⟩ := trod_struct2 Tryz.underlying24 h0
  simp only [hc1] at g0 g1
  obtain ⟨a0, l0, k0, rfl, m0, r0⟩ := open_row g0
  obtain ⟨a1, l1, k1, rfl, m1, r1⟩ := open_row g1
  obtain ⟨a2, l2, k2, rfl, m2, r2⟩ := open_row h1
  obtain ⟨z, hz, _, _⟩ := DataW.trod_int Tryz.underlying3 h2
  obtain rfl : c3 = .int .i64 z := by simpa using hz
  exact ⟨a0, a1, a2, l0, l1, l2, z, k0, k1, k2, rfl, m0, m1, m2, r0, r1, r2⟩
end
set_option maxRecDepth 100000 in
theorem lexerCalls_lifted (os : Os) (started : os.Started) (H : Type) (enc : TypeId × Value → H) :
    ReturnsInHanded {} Tryz.checked os 3 .any (fun w args => (Rows.lexerCallsSpec.pre enc Tryz.prog Tryz.f3 [] false w args ∧ laidMetH Tryz.prog laid1 w) ∧ sizedMet enc Tryz.prog Tryz.f3 (OpenSpec.ofChange Rows.lexerCallsSpec) false w args)
      (Rows.lexerCallsSpec.post enc Tryz.prog Tryz.f3 false true false false) := by
  refine returnsInHanded_of_change_and (C := Tryz.checked) (X := fun w _ => laidMetH Tryz.prog laid1 w) (fun _ _ _ hh h => h.of_heap hh) own started (by kernel_rfl) Tryz.func3
    (ChangeSpec.witness_shaped (enc := enc) (C := Tryz.checked) (os := os) (X := fun w _ => laidMetH Tryz.prog laid1 w) false (World.doorLaid Tryz.prog 14 os) #[.agg #[.slice none 0 0, .slice none 0 0, .slice none 0 0, .int .i64 0], .agg #[.slice none 0 0, .slice none 0 0, .slice none 0 0, .int .i64 0], .string .empty, .int .i64 0, .int .i64 0] 8 rfl (World.shaped_of_RefB (by kernel_rfl) (by kernel_rfl)) (by kernel_rfl) (by kernel_rfl) (by kernel_rfl) (door_met os _)) ?_
  intro W base args ds gs before hval0 hW _ _ hL _
  have hval : ∀ (j : Nat) t v, Tryz.f3.params[j]? = some t → args[j]? = some v → Value.okWide Tryz.prog W .any base t v := hval0
  have hW' := hW
  obtain ⟨p, q, hA0, hV, rfl, hfz, hnd⟩ := hW
  have hA : DataW.TrodAll enc Tryz.prog W 0 (fun _ => true) true Tryz.f3.params.toList args.toList ds p := hA0
  rw [Tryz.params3] at hA hval
  obtain ⟨rfl, rfl⟩ := trodVars_none hV
  obtain ⟨v0, l, d0, dl, p0, q0, h0, rfl, rfl, k0, hA⟩ := trodAll_cons hA
  obtain ⟨v1, l, d1, dl, p1, q1, rfl, rfl, rfl, k1, hA⟩ := trodAll_cons hA
  obtain ⟨v2, l, d2, dl, p2, q2, rfl, rfl, rfl, k2, hA⟩ := trodAll_cons hA
  obtain ⟨v3, l, d3, dl, p3, q3, rfl, rfl, rfl, k3, hA⟩ := trodAll_cons hA
  obtain ⟨v4, l, d4, dl, p4, q4, rfl, rfl, rfl, k4, hA⟩ := trodAll_cons hA
  obtain ⟨rfl, rfl, rfl⟩ := trodAll_nil hA
  have ha : args = #[v0, v1, v2, v3, v4] := by cases args; simp_all
  subst ha
  obtain ⟨an, ar, ak, next, rule, kind, kinds, cn, cr, ck, rfl, hn, hr, hk, hN, hR, hK⟩ := open_lexer (hval 0 26 v0 rfl rfl) k0
  obtain ⟨bn, br, bk, next', rule', kind', kinds', dn, dr, dk, rfl, hn', hr', hk', hN', hR', hK'⟩ := open_lexer (hval 1 26 v1 rfl rfl) k1
  obtain ⟨s, rfl, rfl, rfl, hs⟩ := Go.ChangeMaps.open_string Tryz.underlying9 (hval 2 9 v2 rfl rfl) k2
  obtain ⟨z, rfl, rfl, rfl, wz⟩ := open_int Tryz.underlying3 (hval 3 3 v3 rfl rfl) k3
  obtain ⟨k, rfl, rfl, rfl, wk⟩ := open_int Tryz.underlying3 (hval 4 3 v4 rfl rfl) k4
  have hLv := fun W1 hB => lives_k (numsAt hL) W1 hB
  have hcall := law_k (cn := cn) (cr := cr) (ck := ck) (dn := dn) (dr := dr) (dk := dk) (kinds := kinds) (kinds' := kinds') hn hr hk hn' hr' hk' hN hR hK hN' hR' hK' s z k hLv
  refine hcall.mono fun e W' ⟨he, hkp⟩ => ?_
  subst he
  exact ⟨_, rfl, AX.post_true (l := [26, 24, 22, 9, 3]) (by kernel_rfl) (by rw [Tryz.params3]; simp) hW' (fun _ _ _ => (trodAll_cons_mk (shut_bool Tryz.underlying4 _) trodAll_mk0)) rfl rfl rfl (below_kept hkp) (ok_one (by kernel_rfl) rfl (okWide_bool_mk Tryz.underlying4 _))⟩

theorem lexerCalls_holds : Rows.LexerCallsSaid :=
  OpenClaim.holds_of_wide 3 Tryz.f3 rfl rfl rfl rfl rfl rfl rfl ⟨rfl, rfl, rfl, rfl, rfl⟩ rfl rfl rfl rfl rfl (by kernel_rfl) Tryz.func3 (by kernel_rfl)
    (of_decide_eq_true (by kernel_rfl)) (by unfold Func.isWrapper; first | (rw [if_pos (by decide +kernel)]; kernel_rfl) | (rw [if_neg (by decide +kernel)]; exact ⟨rfl, rfl⟩))
    (fun os started H enc _ => lexerCalls_lifted os started H enc)

theorem lexerCalls_card : Rows.LexerCallsCardSaid :=
  Claim7.holds_tied_plain_at .later [] [.data] true (true, "4cba0c9ad3a2289ba094bdee1281fed0a6f64ec0865b7d447f8850e5bc712ef5") false
    lexerCalls_holds (fun _ h => by cases h) (by kernel_rfl) (fun _ h => by cases h) lexerCalls_row_tie rfl ⟨rfl, rfl⟩ (by kernel_rfl) rfl
    (fun f fn hf hfn => by
      obtain rfl : f = 3 := Option.some.inj ((show Tryz.prog.funcNamed "viewport/viewportlaw07.LexerCalls" = some 3 by kernel_rfl).symm.trans hf) |>.symm
      obtain rfl : fn = Tryz.f3 := (Option.some.inj (Tryz.func3.symm.trans hfn)).symm
      exact ⟨by kernel_rfl, fun j t ht => by
        rw [Tryz.params3] at ht
        match j, ht with
        | 0, ht => cases ht; exact (show Tryz.prog.wantsStandIn 26 = false by kernel_rfl)
        | 1, ht => cases ht; exact (show Tryz.prog.wantsStandIn 26 = false by kernel_rfl)
        | 2, ht => cases ht; exact (show Tryz.prog.wantsStandIn 9 = false by kernel_rfl)
        | 3, ht => cases ht; exact (show Tryz.prog.wantsStandIn 3 = false by kernel_rfl)
        | 4, ht => cases ht; exact (show Tryz.prog.wantsStandIn 3 = false by kernel_rfl)⟩)
    (by kernel_rfl)
#print axioms lexerCalls_card
end Go.Proofs.YtefjfbhffmkikaaGreatDoor
