/- DirtyOne returns true at every input: its calls are answered by contracts, each proved by walking the code; lives() is reckoned by an abstract machine, proved sound over the model. Condition: the table math/bits.deBruijn64tab lies as the program lays it (the card ties it). -/
import Derived.Test.YtpplkjjfaibmmaaDoorM6
import Derived.Test.YtpplkjjfaibmmaaDoorL3
import Derived.Test.YtpplkjjfaibmmaaDoorPx1
import Derived.Test.YtpplkjjfaibmmaaDoorRows
import Derived.Test.YtpplkjjfaibmmaaDoorTie
import Derived.Test.YtpplkjjfaibmmaaDoorCards
import Derived.WalkKit
import Derived.ProofKit
import Derived.OpenShut
import Derived.LaidMore
import Derived.Stop.Joined
import Derived.ChangeMaps5
import Derived.ChangeSlices
import Derived.Deep.Strs
import Derived.Deep.Slices
import Derived.Carry
import Derived.Lib.SmallJoins
namespace Go.Proofs.YtpplkjjfaibmmaaDoor
open Go Go.Proofs Go.ChangeShapes Go.WideShapes Go.ChangeAt Go.RowKit
theorem own : ownKnob Tryd.prog.godebug = none := by kernel_rfl
def laid1 : List (String × DataW Unit) := [("math/bits.deBruijn64tab", Rows.laid_math_bits_deBruijn64tab)]
theorem door_met (os : Os) (args : Array Value) : laidMetH Tryd.prog laid1 ((World.doorLaid Tryd.prog 14 os).forCall (fun _ _ => 0) ⟨#[], args, []⟩).memory :=
  laidMetH_of_parts3 (fuel := 8) (laidMet_of_run' 8 (by kernel_rfl) (by kernel_rfl)) (by kernel_rfl) (by kernel_rfl)
theorem below_kept {w w' : World} (h : Below w.heap.size w w') : AX.Kept w w' := ⟨h.os, h.output, h.tape, fun k _ hk => (h.block k (Array.getElem?_eq_some_iff.1 hk).1).trans hk⟩
theorem tab_of {nums : List Int} (hn : nums = (List.range 64).map fun j => ((Lib.deBruijn64tab.getD j 0 : Nat) : Int)) {W : World} (h : AX.numsAt W 0 .u8 nums) : TabAt W ∧ 0 < W.heap.size := by
  obtain ⟨cs, e, fz, h1, h2⟩ := h
  refine ⟨fun j hj => ?_, (Array.getElem?_eq_some_iff.1 h1).1⟩
  have hc : cs[j]? = some (.int .u8 (Lib.deBruijn64tab.getD j 0 : Nat)) := by
    rw [← Array.getElem?_toList, h2, hn]
    simp [hj]
  simp [World.cell?, h1, hc]
theorem choose_list {α : Type} {p : Nat → α → Prop} : ∀ n, (∀ i, i < n → ∃ x, p i x) → ∃ l : List α, l.length = n ∧ ∀ i (h : i < l.length), p i l[i]
  | 0, _ => ⟨[], rfl, fun i h => by cases h⟩
  | n + 1, h => by
    obtain ⟨l, hl, hp⟩ := choose_list n fun i hi => h i (by omega)
    obtain ⟨x, hx⟩ := h n (Nat.lt_succ_self n)
    refine ⟨l ++ [x], by simp [hl], fun i hi => ?_⟩
    by_cases e : i < l.length
    · rw [List.getElem_append_left e]; exact hp i e
    · have e2 : i = l.length := by simp at hi; omega
      subst e2
      rw [List.getElem_append_right (Nat.le_refl _)]
      simpa [hl] using hx
section
variable {H : Type} {enc : TypeId × Value → H} {w : World} {base : Nat} {sp : Nat → Bool} {held : Bool}
theorem hc3 : Tryd.prog.cellsOf 3 = 1 := by kernel_rfl
theorem hc33 : Tryd.prog.cellsOf 33 = 2 := by kernel_rfl
theorem hc38 : Tryd.prog.cellsOf 38 = 5 := by kernel_rfl
theorem hc27 : Tryd.prog.cellsOf 27 = 3 := by kernel_rfl
set_option maxRecDepth 100000 in
theorem open_edits {r : Reach} {b0 : Nat} {v : Value} {d : DataW H} {p : List MemPlace} (hv : Value.okWide Tryd.prog w r b0 22 v) (h : DataW.Trod enc Tryd.prog w base sp held 22 v d p) :
    ∃ (l : List (Int × Int × Int)) (la : Option Addr) (c : Nat), v = .slice la l.length c ∧ l.length ≤ 9223372036854775807 ∧ HE w la l := by
  simp only [Value.okWide, Tryd.underlying22] at hv
  obtain ⟨sa, sn, sc, rfl⟩ : ∃ a n c, v = .slice a n c := by cases v <;> first | exact ⟨_, _, _, rfl⟩ | exact hv.elim
  obtain ⟨fuel, hf⟩ := h
  rcases Deep.open_slice Tryd.underlying22 hf with ⟨h1, _⟩ | ⟨a, len, cap, m, n, D, Pl, h1, _, hl, hcap, hm, _, hx⟩
  · simp [Value.cells] at h1
    obtain ⟨rfl, rfl, rfl⟩ := h1
    exact ⟨[], none, 0, rfl, by simp, fun h => absurd rfl h⟩
  · simp [Value.cells] at h1
    obtain ⟨rfl, rfl, rfl⟩ := h1
    have hle : sn ≤ m := by rw [hm]; split <;> omega
    obtain ⟨l, hlen, hk⟩ := choose_list (p := fun i (x : Int × Int × Int) => ∀ j u, ([.int .i64 x.1, .int .i64 x.2.1, .int .i64 x.2.2] : List Value)[j]? = some u → w.cell? ((a.add (i * 3)).add j) = some u) sn fun i hi => by
      obtain ⟨cs', h2, h3⟩ := hx i (by omega)
      rw [hc27] at h2
      obtain ⟨_, hlen, hcell⟩ := World.cells?_some h2
      obtain ⟨c0, c1, c2, rfl⟩ : ∃ c0 c1 c2, cs' = [c0, c1, c2] := by
        match cs', hlen with
        | [c0, c1, c2], _ => exact ⟨c0, c1, c2, rfl⟩
      obtain ⟨y0, y1, y2, n', _, _, g0, g1, g2⟩ := Deep.trod_struct3 Tryd.underlying27 h3
      simp only [hc3] at g0 g1 g2
      obtain ⟨a0, e0, _, _⟩ := DataW.trod_int Tryd.underlying3 g0
      obtain ⟨a1, e1, _, _⟩ := DataW.trod_int Tryd.underlying3 g1
      obtain ⟨a2, e2, _, _⟩ := DataW.trod_int Tryd.underlying3 g2
      simp at e0 e1 e2
      subst e0 e1 e2
      refine ⟨(a0, a1, a2), fun j u hu => ?_⟩
      have hj : j < 3 := by have := (List.getElem?_eq_some_iff.1 hu).1; simpa using this
      rw [hcell j hj]
      exact hu
    subst hlen
    refine ⟨l, some a, sc, rfl, by unfold maxLen at hcap; omega, fun hne => ?_⟩
    have h0 : 0 < l.length := List.length_pos_iff.2 hne
    have hc0 := hk 0 h0 0 _ rfl
    have e0 : (a.add (0 * 3)).add 0 = a := by simp [Addr.add]
    rw [e0] at hc0
    have hsp := World.cell?_spot hc0
    have hlt : a.block < w.heap.size := by
      unfold World.cell? at hc0
      cases hh : w.heap[a.block]? with
      | none => rw [hh] at hc0; cases hc0
      | some o => exact (Array.getElem?_eq_some_iff.1 hh).1
    obtain ⟨B, off, spot⟩ := a
    simp only at hsp hlt
    subst hsp
    refine ⟨B, off, rfl, hlt, fun i hi => ?_⟩
    have H : ∀ j v, ([.int .i64 l[i].1, .int .i64 l[i].2.1, .int .i64 l[i].2.2] : List Value)[j]? = some v → w.cell? ⟨B, off + i * 3 + j, none⟩ = some v := fun j v hv => by
      have := hk i hi j v hv
      rwa [j_addr_add, j_addr_add] at this
    exact ⟨H 0 _ rfl, H 1 _ rfl, H 2 _ rfl⟩
end
theorem nums_tab : nums = (List.range 64).map fun j => ((Lib.deBruijn64tab.getD j 0 : Nat) : Int) := by decide
set_option maxRecDepth 100000 in
theorem dirtyOne_lifted (os : Os) (started : os.Started) (H : Type) (enc : TypeId × Value → H) :
    ReturnsInHanded {} Tryd.checked os 3 .any (fun w args => (Rows.dirtyOneSpec.pre enc Tryd.prog Tryd.f3 [] false w args ∧ laidMetH Tryd.prog laid1 w) ∧ sizedMet enc Tryd.prog Tryd.f3 (OpenSpec.ofChange Rows.dirtyOneSpec) false w args)
      (Rows.dirtyOneSpec.post enc Tryd.prog Tryd.f3 false true false false) := by
  refine returnsInHanded_of_change_and (C := Tryd.checked) (X := fun w _ => laidMetH Tryd.prog laid1 w) (fun _ _ _ hh h => h.of_heap hh) own started (by kernel_rfl) Tryd.func3
    (ChangeSpec.witness_shaped (enc := enc) (C := Tryd.checked) (os := os) (X := fun w _ => laidMetH Tryd.prog laid1 w) false (World.doorLaid Tryd.prog 14 os) #[.slice none 0 0] 8 rfl (World.shaped_of_RefB (by kernel_rfl) (by kernel_rfl)) (by kernel_rfl) (by kernel_rfl) (by kernel_rfl) (door_met os _)) ?_
  intro W base args ds gs before hval0 hW _ _ hL _
  have hval : ∀ (j : Nat) t v, Tryd.f3.params[j]? = some t → args[j]? = some v → Value.okWide Tryd.prog W .any base t v := hval0
  have hW' := hW
  obtain ⟨p, q, hA0, hV, rfl, hfz, hnd⟩ := hW
  have hA : DataW.TrodAll enc Tryd.prog W 0 (fun _ => true) true Tryd.f3.params.toList args.toList ds p := hA0
  rw [Tryd.params3] at hA hval
  obtain ⟨rfl, rfl⟩ := trodVars_none hV
  obtain ⟨v0, l, d0, dl, p0, q0, h0, rfl, rfl, k0, hA⟩ := trodAll_cons hA
  obtain ⟨rfl, rfl, rfl⟩ := trodAll_nil hA
  have ha : args = #[v0] := by cases args; simp_all
  subst ha
  obtain ⟨l, la, c, rfl, hl, hR⟩ := open_edits (hval 0 22 v0 rfl rfl) k0
  have hNum := numsAt hL
  obtain ⟨hTab, hw0⟩ := tab_of nums_tab hNum
  have hcall := one_k (c := c) hl hR hw0 hTab (fun W1 hB => lives_k hNum W1 hB)
  refine hcall.mono fun e W' ⟨he, hkp⟩ => ?_
  subst he
  exact ⟨_, rfl, AX.post_true (l := [22, 27, 3]) (by kernel_rfl) (by rw [Tryd.params3]; simp) hW' (fun _ _ _ => (trodAll_cons_mk (shut_bool Tryd.underlying4 _) trodAll_mk0)) rfl rfl rfl (below_kept hkp) (ok_one (by kernel_rfl) rfl (okWide_bool_mk Tryd.underlying4 _))⟩

theorem dirtyOne_holds : Rows.DirtyOneSaid :=
  OpenClaim.holds_of_wide 3 Tryd.f3 rfl rfl rfl rfl rfl rfl rfl ⟨rfl, rfl, rfl, rfl, rfl⟩ rfl rfl rfl rfl rfl (by kernel_rfl) Tryd.func3 (by kernel_rfl)
    (of_decide_eq_true (by kernel_rfl)) (by unfold Func.isWrapper; first | (rw [if_pos (by decide +kernel)]; kernel_rfl) | (rw [if_neg (by decide +kernel)]; exact ⟨rfl, rfl⟩))
    (fun os started H enc _ => dirtyOne_lifted os started H enc)

theorem dirtyOne_card : Rows.DirtyOneCardSaid :=
  Claim7.holds_tied_plain_at .later [] [.data] true (true, "ea3dcc871272c12313020538911a075ea0195e0f9186837e827b35efacb521e4") false
    dirtyOne_holds (fun _ h => by cases h) (by kernel_rfl) (fun _ h => by cases h) dirtyOne_row_tie rfl ⟨rfl, rfl⟩ (by kernel_rfl) rfl
    (fun f fn hf hfn => by
      obtain rfl : f = 3 := Option.some.inj ((show Tryd.prog.funcNamed "viewport/viewportlaw22.DirtyOne" = some 3 by kernel_rfl).symm.trans hf) |>.symm
      obtain rfl : fn = Tryd.f3 := (Option.some.inj (Tryd.func3.symm.trans hfn)).symm
      exact ⟨by kernel_rfl, fun j t ht => by
        rw [Tryd.params3] at ht
        match j, ht with
        | 0, ht => cases ht; exact (show Tryd.prog.wantsStandIn 22 = false by kernel_rfl)⟩)
    (by kernel_rfl)
#print axioms dirtyOne_card
end Go.Proofs.YtpplkjjfaibmmaaDoor
