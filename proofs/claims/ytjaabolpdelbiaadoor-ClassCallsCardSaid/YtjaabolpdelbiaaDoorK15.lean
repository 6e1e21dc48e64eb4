/- ClassCalls returns true at every input: each of the document's own functions is walked, and each of the program's is told by a contract; that both say the same is plain mathematics; lives() is run by an abstract machine, proved sound over the model. Condition: the table math bits.deBruijn64tab lies as the program lays it (the card ties it). -/
import Derived.Test.YtjaabolpdelbiaaDoorS1
import Derived.Test.YtjaabolpdelbiaaDoorSP4
import Derived.Deep.Slices
import Derived.Carry
import Derived.Test.YtjaabolpdelbiaaDoorK14
import Derived.Test.YtjaabolpdelbiaaDoorRows
import Derived.Test.YtjaabolpdelbiaaDoorTie
import Derived.Test.YtjaabolpdelbiaaDoorCards
import Derived.LaidMore
import Derived.Stop.Joined
namespace Go.Proofs.YtjaabolpdelbiaaDoor
open Go Go.Proofs Go.ChangeShapes Go.WideShapes Go.ChangeAt Go.RowKit
theorem choose_list {α : Type} {p : Nat → α → Prop} : ∀ n, (∀ i, i < n → ∃ x, p i x) → ∃ l : List α, l.length = n ∧ ∀ i (h : i < l.length), p i l[i]
  | 0, _ => ⟨[], rfl, fun i h => by cases h⟩
  | n + 1, h => by
    obtain ⟨l, hl, hp⟩ := choose_list n fun i hi => h i (by omega)
    obtain ⟨x, hx⟩ := h n (Nat.lt_succ_self n)
    refine ⟨l ++ [x], by simp [hl], fun i hi => ?_⟩
    by_cases e : i < l.length
    · rw [List.getElem_append_left e]; exact hp i e
    · have e2 : i = l.length := by simp at hi; omega
      subst e2
      rw [List.getElem_append_right (Nat.le_refl _)]
      simpa [hl] using hx
section
variable {H : Type} {enc : TypeId × Value → H} {w : World} {base : Nat} {sp : Nat → Bool} {held : Bool}
theorem open_rows2 {r : Reach} {b0 : Nat} {v : Value} {d : DataW H} {p : List MemPlace} (hv : Value.okWide Tryd.prog w r b0 22 v) (h : DataW.Trod enc Tryd.prog w base sp held 22 v d p) :
    ∃ (l : List Kl) (la : Option Addr) (c : Nat), v = .slice la l.length c ∧ (la = none → c = 0) ∧ (l ≠ [] → ∃ B off, la = some ⟨B, off, none⟩ ∧ B < w.heap.size ∧ RowAt w B off l) := by
  simp only [Value.okWide, Tryd.underlying22] at hv
  obtain ⟨sa, sn, sc, rfl⟩ : ∃ a n c, v = .slice a n c := by cases v <;> first | exact ⟨_, _, _, rfl⟩ | exact hv.elim
  obtain ⟨fuel, hf⟩ := h
  have hc : Tryd.prog.cellsOf 27 = 4 := by kernel_rfl
  rcases Deep.open_slice Tryd.underlying22 hf with ⟨h1, _⟩ | ⟨a, len, cap, m, n, D, Pl, h1, _, hl, _, hm, _, hx⟩
  · simp [Value.cells] at h1
    obtain ⟨rfl, rfl, rfl⟩ := h1
    exact ⟨[], none, 0, rfl, fun _ => rfl, fun h => (h rfl).elim⟩
  · simp [Value.cells] at h1
    obtain ⟨rfl, rfl, rfl⟩ := h1
    have hle : sn ≤ m := by rw [hm]; split <;> omega
    obtain ⟨l, hlen, hk⟩ := choose_list (p := fun i (x : Kl) => ∀ j u, (encC x)[j]? = some u → w.cell? ((a.add (i * 4)).add j) = some u) sn fun i hi => by
      obtain ⟨cs', h2, h3⟩ := hx i (by omega)
      rw [hc] at h2
      obtain ⟨_, hlen, hcell⟩ := World.cells?_some h2
      obtain ⟨c0, c1, c2, c3, rfl⟩ : ∃ c0 c1 c2 c3, cs' = [c0, c1, c2, c3] := by
        match cs', hlen with
        | [c0, c1, c2, c3], _ => exact ⟨c0, c1, c2, c3, rfl⟩
      obtain ⟨y0, y1, y2, y3, n', _, g0, g1, g2, g3⟩ := trod_array4 (e := 25) Tryd.underlying27 (by kernel_rfl) h3
      obtain ⟨a0, l0, rfl, _⟩ := one_int g0
      obtain ⟨a1, l1, rfl, _⟩ := one_int g1
      obtain ⟨a2, l2, rfl, _⟩ := one_int g2
      obtain ⟨a3, l3, rfl, _⟩ := one_int g3
      refine ⟨⟨a0, a1, a2, a3, fun k => by unfold wd; split; exact l0; split; exact l1; split; exact l2; exact l3⟩, fun j u hu => ?_⟩
      have hj : j < 4 := by have := (List.getElem?_eq_some_iff.1 hu).1; rwa [encC_len] at this
      rw [hcell j hj]
      exact hu
    subst hlen
    refine ⟨l, some a, sc, rfl, (fun h => by cases h), fun hne => ?_⟩
    have h0 : 0 < l.length := List.length_pos_iff.2 hne
    have hc0 := hk 0 h0 0 _ rfl
    have e0 : (a.add (0 * 4)).add 0 = a := by simp [Addr.add]
    rw [e0] at hc0
    have hsp := World.cell?_spot hc0
    have hlt : a.block < w.heap.size := by
      unfold World.cell? at hc0
      cases hh : w.heap[a.block]? with
      | none => rw [hh] at hc0; cases hc0
      | some o => exact (Array.getElem?_eq_some_iff.1 hh).1
    obtain ⟨B, off, spot⟩ := a
    simp only at hsp hlt
    subst hsp
    refine ⟨B, off, rfl, hlt, fun i hi j u hu => ?_⟩
    have := hk i hi j u hu
    rwa [addr_add, addr_add] at this
end
theorem laidOut2 : laidOutB Tryd.prog = true := by kernel_rfl
end Go.Proofs.YtjaabolpdelbiaaDoor

namespace Go.Proofs.YtjaabolpdelbiaaDoor
open Go Go.Proofs Go.ChangeShapes Go.WideShapes Go.ChangeAt Go.RowKit

theorem own : ownKnob Tryd.prog.godebug = none := by kernel_rfl
def laid1 : List (String × DataW Unit) := [("math/bits.deBruijn64tab", Rows.laid_math_bits_deBruijn64tab)]
theorem numsAt {W : World} (h : laidMetH Tryd.prog laid1 W) : AX.numsAt W 0 .u8 nums := by
  rw [MakeChecks.laidMetH_plain _ _ _ (by kernel_rfl)] at h
  obtain ⟨ps, h, _⟩ := h
  exact AX.numsAt_of_laid (n := 64) (e := 5) (t := 63) (by kernel_rfl) (by kernel_rfl) Tryd.underlying63 Tryd.underlying5 (by kernel_rfl) (by kernel_rfl) h
theorem door_met (os : Os) (args : Array Value) : laidMetH Tryd.prog laid1 ((World.doorLaid Tryd.prog 14 os).forCall (fun _ _ => 0) ⟨#[], args, []⟩).memory :=
  laidMetH_of_parts3 (fuel := 8) (laidMet_of_run' 8 (by kernel_rfl) (by kernel_rfl)) (by kernel_rfl) (by kernel_rfl)
theorem six_args7 {H : Type} {enc : TypeId × Value → H} {W : World} {base : Nat} {sp : Nat → Bool} {held : Bool} {t0 t1 t2 t3 t4 t5 : TypeId} {args : Array Value} {ds : List (DataW H)} {ps : List MemPlace} (h : DataW.TrodAll enc Tryd.prog W base sp held [t0, t1, t2, t3, t4, t5] args.toList ds ps) :
    ∃ v0 v1 v2 v3 v4 v5 d0 d1 d2 d3 d4 d5 p0 p1 p2 p3 p4 p5, args = #[v0, v1, v2, v3, v4, v5] ∧ ds = [d0, d1, d2, d3, d4, d5] ∧ ps = p0 ++ (p1 ++ (p2 ++ (p3 ++ (p4 ++ p5)))) ∧ DataW.Trod enc Tryd.prog W base sp held t0 v0 d0 p0 ∧ DataW.Trod enc Tryd.prog W base sp held t1 v1 d1 p1 ∧ DataW.Trod enc Tryd.prog W base sp held t2 v2 d2 p2 ∧
      DataW.Trod enc Tryd.prog W base sp held t3 v3 d3 p3 ∧ DataW.Trod enc Tryd.prog W base sp held t4 v4 d4 p4 ∧ DataW.Trod enc Tryd.prog W base sp held t5 v5 d5 p5 := by
  obtain ⟨v0, l, d0, ds, p0, q, h0, rfl, rfl, k0, h⟩ := trodAll_cons h
  obtain ⟨v1, l, d1, ds, p1, q, rfl, rfl, rfl, k1, h⟩ := trodAll_cons h
  obtain ⟨v2, l, d2, ds, p2, q, rfl, rfl, rfl, k2, h⟩ := trodAll_cons h
  obtain ⟨v3, l, d3, ds, p3, q, rfl, rfl, rfl, k3, h⟩ := trodAll_cons h
  obtain ⟨v4, l, d4, ds, p4, q, rfl, rfl, rfl, k4, h⟩ := trodAll_cons h
  obtain ⟨v5, l, d5, ds, p5, q, rfl, rfl, rfl, k5, h⟩ := trodAll_cons h
  obtain ⟨rfl, rfl, rfl⟩ := trodAll_nil h
  exact ⟨v0, v1, v2, v3, v4, v5, d0, d1, d2, d3, d4, d5, p0, p1, p2, p3, p4, p5, by cases args; simp_all, rfl, by simp, k0, k1, k2, k3, k4, k5⟩


def z4 : Value := .agg #[.int .u64 0, .int .u64 0, .int .u64 0, .int .u64 0]
set_option maxRecDepth 100000 in
theorem classCalls_lifted (os : Os) (started : os.Started) (H : Type) (enc : TypeId × Value → H) :
    ReturnsInHanded {} Tryd.checked os 7 .any (fun w args => (Rows.classCallsSpec.pre enc Tryd.prog Tryd.f7 [] false w args ∧ laidMetH Tryd.prog laid1 w) ∧ sizedMet enc Tryd.prog Tryd.f7 (OpenSpec.ofChange Rows.classCallsSpec) false w args)
      (Rows.classCallsSpec.post enc Tryd.prog Tryd.f7 false true false false) := by
  refine returnsInHanded_of_change_and (C := Tryd.checked) (X := fun w _ => laidMetH Tryd.prog laid1 w) (fun _ _ _ hh h => h.of_heap hh) own started (by kernel_rfl) Tryd.func7
    (ChangeSpec.witness_shaped (enc := enc) (C := Tryd.checked) (os := os) (X := fun w _ => laidMetH Tryd.prog laid1 w) false (World.doorLaid Tryd.prog 14 os) #[z4, z4, .slice none 0 0, .string ⟨#[]⟩, .int .u8 0, .int .u8 0] 8 rfl (World.shaped_of_RefB (by kernel_rfl) (by kernel_rfl)) (by kernel_rfl) (by kernel_rfl) (by kernel_rfl) (door_met os _)) ?_
  intro W base args ds gs before hval0 hW _ _ hL _
  have hval : ∀ (j : Nat) t v, Tryd.f7.params[j]? = some t → args[j]? = some v → Value.okWide Tryd.prog W .any base t v := hval0
  have hW' := hW
  obtain ⟨p, q, hA0, hV, rfl, hfz, hnd⟩ := hW
  have hA : DataW.TrodAll enc Tryd.prog W 0 (fun _ => true) true Tryd.f7.params.toList args.toList ds p := hA0
  rw [Tryd.params7] at hA hval
  obtain ⟨v0, v1, v2, v3, v4, v5, d0, d1, d2, d3, d4, d5, p0, p1, p2, p3, p4, p5, rfl, rfl, rfl, h0, h1, h2, h3, h4, h5⟩ := six_args7 hA
  obtain ⟨rfl, rfl⟩ := trodVars_none hV
  have g0 := h0
  have g1 := h1
  have g4 := h4
  have g5 := h5
  obtain ⟨a0, a1, a2, a3, ha, rfl, _, _⟩ := open_cls (hval 0 27 v0 rfl rfl) g0
  obtain ⟨b0, b1, b2, b3, hb', rfl, _, _⟩ := open_cls (hval 1 27 v1 rfl rfl) g1
  obtain ⟨l, la, c, rfl, hc, hrow⟩ := open_rows2 (hval 2 22 v2 rfl rfl) h2
  obtain ⟨s, rfl⟩ : ∃ s, v3 = .string s := by
    have := hval 3 9 v3 rfl rfl
    simp only [Value.okWide, Cell.okWide, Cell.ok, Tryd.underlying9] at this
    cases v3 <;> first | exact ⟨_, rfl⟩ | exact this.elim
  obtain ⟨z, rfl, _, _, wl⟩ := open_int Tryd.underlying5 (hval 4 5 v4 rfl rfl) g4
  obtain ⟨low, rfl, hl⟩ := nat_of_u8 wl
  obtain ⟨z, rfl, _, _, wh⟩ := open_int Tryd.underlying5 (hval 5 5 v5 rfl rfl) g5
  obtain ⟨high, rfl, hh⟩ := nat_of_u8 wh
  clear hA0 hval0
  simp only [List.append_nil] at hW'
  have hlt := hW'.lt
  refine (calls_law ⟨a0, a1, a2, a3, ha⟩ ⟨b0, b1, b2, b3, hb'⟩ l la c s low high hl hh W (AX.glOk_nums (numsAt hL)) hc hrow).mono fun e W' ⟨he, hb⟩ => ?_
  subst he
  have hk := AX.Kept.of_below hb (Nat.le_refl _)
  exact ⟨_, rfl, AX.post_of_kept (pa := p0 ++ (p1 ++ (p2 ++ (p3 ++ (p4 ++ (p5 ++ [])))))) (pv := []) hW' (fun _ _ _ => (trodAll_cons_mk (shut_bool Tryd.underlying4 _) trodAll_mk0))
    (fun sp hsp => (trodAll_cons_mk (WideElems.Trod_stays laidOut2 (by kernel_rfl) (of_decide_eq_true (by kernel_rfl)) h0 (fun x hx => hb.same (hlt x (by simp [hx]))) (fun x hx => hsp x (by simp [hx]))) (trodAll_cons_mk (WideElems.Trod_stays laidOut2 (by kernel_rfl) (of_decide_eq_true (by kernel_rfl)) h1 (fun x hx => hb.same (hlt x (by simp [hx]))) (fun x hx => hsp x (by simp [hx]))) (trodAll_cons_mk (WideElems.Trod_stays laidOut2 (by kernel_rfl) (of_decide_eq_true (by kernel_rfl)) h2 (fun x hx => hb.same (hlt x (by simp [hx]))) (fun x hx => hsp x (by simp [hx]))) (trodAll_cons_mk (WideElems.Trod_stays laidOut2 (by kernel_rfl) (of_decide_eq_true (by kernel_rfl)) h3 (fun x hx => hb.same (hlt x (by simp [hx]))) (fun x hx => hsp x (by simp [hx]))) (trodAll_cons_mk (WideElems.Trod_stays laidOut2 (by kernel_rfl) (of_decide_eq_true (by kernel_rfl)) h4 (fun x hx => hb.same (hlt x (by simp [hx]))) (fun x hx => hsp x (by simp [hx]))) (trodAll_cons_mk (WideElems.Trod_stays laidOut2 (by kernel_rfl) (of_decide_eq_true (by kernel_rfl)) h5 (fun x hx => hb.same (hlt x (by simp [hx]))) (fun x hx => hsp x (by simp [hx]))) trodAll_mk0))))))) (fun _ _ => rfl) (by simp)
    hk (ok_one (by kernel_rfl) rfl (okWide_bool_mk Tryd.underlying4 _))⟩

theorem classCalls_holds : Rows.ClassCallsSaid :=
  OpenClaim.holds_of_wide 7 Tryd.f7 rfl rfl rfl rfl rfl rfl rfl ⟨rfl, rfl, rfl, rfl, rfl⟩ rfl rfl rfl rfl rfl (by kernel_rfl) Tryd.func7 (by kernel_rfl)
    (of_decide_eq_true (by kernel_rfl)) (by unfold Func.isWrapper; first | (rw [if_pos (by decide +kernel)]; kernel_rfl) | (rw [if_neg (by decide +kernel)]; exact ⟨rfl, rfl⟩))
    (fun os started H enc _ => classCalls_lifted os started H enc)

theorem classCalls_card : Rows.ClassCallsCardSaid :=
  Claim7.holds_tied_plain_at .later [] [.data] true (true, "5e29bf0000f66c8b99edb4d8382e1973713f85f0888d6d4c4ad9ad69016ea8ce") false
    classCalls_holds (fun _ h => by cases h) (by kernel_rfl) (fun _ h => by cases h) classCalls_row_tie rfl ⟨rfl, rfl⟩ (by kernel_rfl) rfl
    (fun f fn hf hfn => by
      obtain rfl : f = 7 := Option.some.inj ((show Tryd.prog.funcNamed "viewport/viewportlaw01.ClassCalls" = some 7 by kernel_rfl).symm.trans hf) |>.symm
      obtain rfl : fn = Tryd.f7 := (Option.some.inj (Tryd.func7.symm.trans hfn)).symm
      exact ⟨by kernel_rfl, fun j t ht => by
        rw [Tryd.params7] at ht
        match j, ht with
        | 0, ht => cases ht; exact (show Tryd.prog.wantsStandIn 27 = false by kernel_rfl)
        | 1, ht => cases ht; exact (show Tryd.prog.wantsStandIn 27 = false by kernel_rfl)
        | 2, ht => cases ht; exact (show Tryd.prog.wantsStandIn 22 = false by kernel_rfl)
        | 3, ht => cases ht; exact (show Tryd.prog.wantsStandIn 9 = false by kernel_rfl)
        | 4, ht => cases ht; exact (show Tryd.prog.wantsStandIn 5 = false by kernel_rfl)
        | 5, ht => cases ht; exact (show Tryd.prog.wantsStandIn 5 = false by kernel_rfl)⟩)
    (by kernel_rfl)
#print axioms classCalls_card
end Go.Proofs.YtjaabolpdelbiaaDoor
