/- AX, part 27: back to the names that were known before (a loop's rounds start from one state). -/
import Derived.Test.YtjaabolpdelbiaaDoorAx26
namespace Go.Proofs.YtjaabolpdelbiaaDoor.AX
open Go
variable {P : Program} {σ τ : Sig} {w : World} {pr : Pr} {hp : Hp} {C : Ctx}

mutual
theorem VRel.back (hs : σ ≤ τ) : ∀ {v : AV} {x y : Value}, VRel σ v x → VRel τ v y → VRel σ v y
  | .bad, _, y, _, _ => .bad y
  | .one, _, _, _, .one h h' => .one h h'
  | .bool _, _, _, _, .bool b => .bool b
  | .int _ _, _, _, _, .int k n => .int k n
  | .str _, _, _, _, .str s h => .str s h
  | .nilp, _, _, _, .nilp => .nilp
  | .ptr id off, _, _, .ptr h, .ptr h' => by
    have := (hs _ _ h).symm.trans h'
    cases this
    exact .ptr h
  | .gptr _ _, _, _, _, .gptr g o => .gptr g o
  | .nils, _, _, _, .nils => .nils
  | .slice _ _ _ _, _, _, .slice h _ _, .slice h' hl ho => by
    have := (hs _ _ h).symm.trans h'
    cases this
    exact .slice h hl ho
  | .opn _ _ _ _, _, _, .opn h _ _ _, .opn h' hl hr ho => by
    have := (hs _ _ h).symm.trans h'
    cases this
    exact .opn h hl hr ho
  | .nilm, _, _, _, .nilm => .nilm
  | .map _, _, _, .map h, .map h' => by
    have := (hs _ _ h).symm.trans h'
    cases this
    exact .map h
  | .fn _ _ _, _, _, .fn _ h1 h2, .fn f h3 h4 => .fn f (VRels.back hs h1 h3) (VRels.back hs h2 h4)
  | .yld _, _, _, .yld h, .yld h' => by
    have := (hs _ _ h).symm.trans h'
    cases this
    exact .yld h
  | .nilf, _, _, _, .nilf => .nilf
  | .iface _ _, _, _, .iface _ h, .iface t h' => .iface t (VRel.back hs h h')
  | .nili, _, _, _, .nili => .nili
  | .agg _, _, _, .agg h, .agg h' => .agg (VRels.back hs h h')
  | .tup _, _, _, .tup h, .tup h' => .tup (VRels.back hs h h')
theorem VRels.back (hs : σ ≤ τ) : ∀ {l : List AV} {xs ys : List Value}, VRels σ l xs → VRels τ l ys → VRels σ l ys
  | [], _, _, _, .nil => .nil
  | _ :: _, _, _, .cons h t, .cons h' t' => .cons (VRel.back hs h h') (VRels.back hs t t')
end
theorem FrRel.back (hs : σ ≤ τ) {fr : Fr} {sz : Nat} {tm tm' : Array Value} (h : FrRel σ fr sz tm) (h' : FrRel τ fr sz tm') : FrRel σ fr sz tm' :=
  ⟨h'.1, fun t v ht => by
    obtain ⟨x, _, e1⟩ := h.2 t v ht
    obtain ⟨y, e2, e3⟩ := h'.2 t v ht
    exact ⟨y, e2, e1.back hs e3⟩⟩
theorem EntsRel.back (hs : σ ≤ τ) : ∀ {es : List (AV × AV)} {ms ms' : List MapEntry}, EntsRel σ es ms → EntsRel τ es ms' → EntsRel σ es ms'
  | [], _, [], _, _ => trivial
  | [], _, _ :: _, _, h => h.elim
  | _ :: _, [], _, h, _ => h.elim
  | _ :: _, _ :: _, [], _, h => h.elim
  | _ :: _, _ :: _, _ :: _, ⟨h1, h2, h3⟩, ⟨k1, k2, k3⟩ => ⟨h1.back hs k1, h2.back hs k2, EntsRel.back hs h3 k3⟩
theorem BlkRel.back (hs : σ ≤ τ) {b : Blk} {i : Info} {h h' : Array Obj} (h0 : BlkRel σ b i h) (h1 : BlkRel τ b i h') : BlkRel σ b i h' := by
  cases b with
  | cells c n cl =>
    obtain ⟨_, _, _, _, _, _, _, _, k⟩ := h0
    obtain ⟨cs, e, fz, g1, g2, g3, g4, g5, g6⟩ := h1
    refine ⟨cs, e, fz, g1, g2, g3, g4, g5, fun j v hj hv => ?_⟩
    obtain ⟨x, _, e1⟩ := k j v hj hv
    obtain ⟨y, e2, e3⟩ := g6 j v hj hv
    exact ⟨y, e2, e1.back hs e3⟩
  | map es =>
    obtain ⟨_, _, _, k⟩ := h0
    obtain ⟨ms, clock, g1, g2⟩ := h1
    exact ⟨ms, clock, g1, k.back hs g2⟩
  | loop st pend f fr sz ps as bd d =>
    obtain ⟨_, _, di, _, k2, k3⟩ := h0
    obtain ⟨fn, tm, di', g1, g2, g3⟩ := h1
    have := (hs _ _ k2).symm.trans g2
    cases this
    exact ⟨fn, tm, di, g1, k2, k3.back hs g3⟩
  | dfr done => exact h1
  | strIter s pos => exact h1
theorem R.back (hs : σ ≤ τ) {w' : World} (r0 : R pr σ hp w) (r : R pr τ hp w') : R pr σ hp w' := by
  have key : ∀ id b, hp.get id = some b → ∃ i, σ id = some i ∧ τ id = some i ∧ BlkRel σ b i w'.heap := fun id b hb => by
    obtain ⟨i, h1, h2⟩ := r0.blk id b hb
    obtain ⟨i', h3, h4⟩ := r.blk id b hb
    have := (hs _ _ h1).symm.trans h3
    cases this
    exact ⟨i, h1, h3, h2.back hs h4⟩
  refine ⟨fun id b hb => ?_, fun id id' b b' i i' hb hb' h h' e => ?_, r.prot, fun id b i hb h => ?_, r.same⟩
  · obtain ⟨i, h1, _, h3⟩ := key id b hb
    exact ⟨i, h1, h3⟩
  · exact r.inj id id' b b' i i' hb hb' (hs _ _ h) (hs _ _ h') e
  · exact r.free id b i hb (hs _ _ h)
def plainV (v : AV) : Bool :=
  match v with
  | .int _ _ => true | .bool _ => true | .str _ => true
  | _ => false
theorem VRel.plain {v : AV} {x : Value} (hv : plainV v = true) (h : VRel τ v x) : VRel σ v x := by
  cases h <;> simp [plainV] at hv
  · exact .bool _
  · exact .int _ _
  · exact .str _ (by assumption)
/-- A round has ended: the state as it is known from the loop's beginning. -/
theorem Mid.back {sz : Nat} {fr fr' : Fr} {nx nx' : Nat} {a a' : Act} {w' : World} (m : Mid pr σ sz fr hp nx a w) (m' : Mid pr τ sz fr' hp nx' a' w') (hs : σ ≤ τ) (hf : ∀ t v, fr'.get t = some v → plainV v = true ∨ fr.get t = some v) : Mid pr σ sz fr' hp nx a' w' :=
  ⟨⟨m'.fr.1, fun t v ht => by
    obtain ⟨y, e1, e2⟩ := m'.fr.2 t v ht
    rcases hf t v ht with h | h
    · exact ⟨y, e1, e2.plain h⟩
    · obtain ⟨x, _, e3⟩ := m.fr.2 t v h
      exact ⟨y, e1, e3.back hs e2⟩⟩, m'.ds, m.r.back hs m'.r, m.fresh⟩

/-! The parts of a piece's run, for the kernel. -/
noncomputable def gHp (r : RG) : Hp := match r with | some (_, _, hp, _) => hp | none => .leaf
noncomputable def gS (r : RG) : GS := match r with | some (_, s, _, _) => s | none => ⟨[], [], [], []⟩
noncomputable def gNx (r : RG) : Option Nat := match r with | some (_, _, _, nx) => some nx | none => none
theorem piece_parts {r : RG} {v : AV} {nx : Nat} (h1 : gVal r = some v) (h2 : gNx r = some nx) (h3 : gCalls r = gWant r) (h4 : gVals r = gAsm r) : r = some (v, gS r, gHp r, nx) ∧ (gS r).ok := by
  cases r with
  | none => cases h1
  | some r =>
    obtain ⟨u, s, hp', nx'⟩ := r
    cases h1
    cases h2
    have e3 : s.got = s.want := by simpa [gCalls, gWant] using h3
    have e4 : s.cgot = s.cwant := by simpa [gVals, gAsm] using h4
    exact ⟨rfl, e3, e4⟩
/-- **A PIECE, by its parts.** -/
theorem piece (hP : POk C.P) (hX : ExtOk C) {L : List (Option Ans)} (hL : ∀ x, some x ∈ L → AnsOk C x) (hg : GlOk C pr) {asm : T AV} {sz : Nat} {c : Code} {slots : List Nat} {fr : Fr} {nx : Nat} {a : Act} {r : RG} {tag : Nat} {vs : List AV} {nx' : Nat}
    (hr : exE C L asm sz c (endG 0 slots) (fun i => endG (i + 1) slots) noneG fr ⟨[], [], [], []⟩ hp nx = r)
    (h1 : gVal r = some (.tup (.gptr tag 0 :: vs))) (h2 : gNx r = some nx') (h3 : gCalls r = gWant r) (h4 : gVals r = gAsm r) (hsl : ∀ t ∈ slots, t < sz) (m : Mid pr σ sz fr hp nx a w) :
    c.wpIn (FF none) 0 C.P (fun e a' w' => e = exitOf tag ∧ ∃ τ, Ext σ τ nx nx' ∧ Mid pr τ sz (frOf slots vs) (gHp r) nx' a' w') a w := by
  obtain ⟨e1, e2⟩ := piece_parts h1 h2 h3 h4
  exact piece_ok hP hX hL hg (hr.trans e1) e2 hsl m
end Go.Proofs.YtjaabolpdelbiaaDoor.AX
