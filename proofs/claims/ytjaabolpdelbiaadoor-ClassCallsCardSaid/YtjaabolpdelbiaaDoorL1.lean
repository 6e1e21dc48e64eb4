import Derived.Test.YtjaabolpdelbiaaDoorC9
import Derived.Test.YtjaabolpdelbiaaDoorAx25
namespace Go.Proofs.YtjaabolpdelbiaaDoor
open Go Go.Proofs Go.RowKit
theorem eq_run (x y : Operand) (a0 a1 a2 a3 b0 b1 b2 b3 : Int) : AX.binA Tryd.prog .eql 27 x y (cA a0 a1 a2 a3) (cA b0 b1 b2 b3) =
    Option.rec none (fun r => some (.bool (r != false))) (Bool.rec (some false) (Bool.rec (some false) (Bool.rec (some false) (Bool.rec (some false) (some true) (AX.eqI a3 b3)) (AX.eqI a2 b2)) (AX.eqI a1 b1)) (AX.eqI a0 b0) : Option Bool) := by kernel_rfl
theorem eq_same (x y : Operand) (a0 a1 a2 a3 : Int) : AX.binA Tryd.prog .eql 27 x y (cA a0 a1 a2 a3) (cA a0 a1 a2 a3) = some (.bool true) := by
  rw [eq_run, AX.eqI_self, AX.eqI_self, AX.eqI_self, AX.eqI_self]
  rfl

def nums : List Int := [0, 1, 56, 2, 57, 49, 28, 3, 61, 58, 42, 50, 38, 29, 17, 4, 62, 47, 59, 36, 45, 43, 51, 22, 53, 39, 33, 30, 24, 18, 12, 5, 63, 55, 48, 27, 60, 41, 37, 16, 46, 35, 44, 21, 52, 32, 23, 11, 54, 26, 40, 15, 34, 20, 31, 10, 25, 14, 19, 9, 13, 8, 7, 6]
noncomputable def cx : AX.Ctx := ⟨Tryd.prog, AX.T.set .leaf 0 (AX.ofL (nums.map fun n => AX.AV.int .u8 n)), AX.T.set .leaf 62 0, .leaf⟩
theorem extOk : AX.ExtOk cx := AX.ExtOk.one Tryd.func62 (by kernel_rfl) (by kernel_rfl) (by kernel_rfl) (show Extern.find Tryd.f62 = some Extern.BytealgCompare.compare by kernel_rfl)
theorem nums_tab : ∀ j : Fin 64, nums[j.val]? = some ((Lib.deBruijn64tab.getD j.val 0 : Nat) : Int) := by decide
theorem tab_of {w : World} (h : AX.GlOk cx (AX.prOf w)) : TabAt w ∧ 0 < w.heap.size := by
  obtain ⟨cs, e, fz, h1, h2⟩ := h 0 (AX.ofL (nums.map fun n => AX.AV.int .u8 n)) (by show (AX.T.set .leaf 0 _).get 0 = _; rw [AX.T.get_set, if_pos rfl])
  have h1 : w.heap[0]? = some (.cells cs e fz) := h1
  refine ⟨fun j hj => ?_, (Array.getElem?_eq_some_iff.1 h1).1⟩
  obtain ⟨x, g1, g2⟩ := h2 j (.int .u8 ((Lib.deBruijn64tab.getD j 0 : Nat) : Int)) (by rw [AX.ofL_get, List.getElem?_map, nums_tab ⟨j, hj⟩]; rfl)
  obtain rfl := (g2 (fun _ => none)).int_inv
  simp [World.cell?, h1, g1]

/-! What the callees answer. -/
theorem vrels0 {σ : AX.Sig} {vs : Array Value} (h : AX.VRels σ [] vs.toList) : vs = #[] := by
  obtain ⟨l⟩ := vs
  cases h with | nil => rfl
theorem vrels1 {σ : AX.Sig} {v : AX.AV} {vs : Array Value} (h : AX.VRels σ [v] vs.toList) : ∃ x, AX.VRel σ v x ∧ vs = #[x] := by
  obtain ⟨l⟩ := vs
  have g : AX.VRels σ [v] l := h
  clear h
  cases g with | cons h1 g => cases g with | nil => exact ⟨_, h1, rfl⟩
theorem vrels2 {σ : AX.Sig} {v u : AX.AV} {vs : Array Value} (h : AX.VRels σ [v, u] vs.toList) : ∃ x y, AX.VRel σ v x ∧ AX.VRel σ u y ∧ vs = #[x, y] := by
  obtain ⟨l⟩ := vs
  have g : AX.VRels σ [v, u] l := h
  clear h
  cases g with | cons h1 g => cases g with | cons h2 g => cases g with | nil => exact ⟨_, _, h1, h2, rfl⟩
theorem has_body {f : Nat} {fn : Func} (h : Tryd.prog.funcs[f]? = some fn) (hb : fn.body.isSome = true) : ∃ (fn : Func) (c : Code), cx.P.funcs[f]? = some fn ∧ fn.body = some c := by
  obtain ⟨c, hc⟩ := Option.isSome_iff_exists.1 hb
  exact ⟨fn, c, h, hc⟩
theorem ans_of {f : FuncId} {args : List AX.AV} {v : AX.AV} (hf : ∃ (fn : Func) (c : Code), cx.P.funcs[f]? = some fn ∧ fn.body = some c)
    (h : ∀ (σ : AX.Sig) (w : World) (vs : Array Value), TabAt w → 0 < w.heap.size → AX.VRels σ args vs.toList → Calls Tryd.prog f vs w fun e w' => ∃ v', e = .returned v' ∧ AX.VRel σ v v' ∧ Below w.heap.size w w') : AX.AnsOk cx (f, args, v) :=
  ⟨hf, fun σ w vs hg ha => by
    obtain ⟨h1, h2⟩ := tab_of hg
    exact callsIn_wide.2 ((h σ w vs h1 h2 ha).mono fun e w' ⟨v', e1, e2, e3⟩ => ⟨v', e1, e2, AX.Kept.of_below e3 (Nat.le_refl _)⟩)⟩
theorem ans_lives : AX.AnsOk cx (9, [], .bool true) := ⟨has_body Tryd.func9 (by kernel_rfl), fun σ w vs hg ha => by
  obtain rfl := vrels0 ha
  exact callsIn_wide.2 ((AX.closed_calls (C := cx) (n := 40) pOk extOk AX.OrcOk.leaf (by kernel_rfl) hg).mono fun e w' ⟨h1, h2⟩ => ⟨_, h1, .bool _, h2⟩)⟩
section
variable (a0 a1 a2 a3 b0 b1 b2 b3 : Nat)
theorem ans_union (ha : wlt a0 a1 a2 a3) (hb : wlt b0 b1 b2 b3) {r0 r1 r2 r3 : Nat} (e0 : a0 ||| b0 = r0) (e1 : a1 ||| b1 = r1) (e2 : a2 ||| b2 = r2) (e3 : a3 ||| b3 = r3) : AX.AnsOk cx (14, [cA a0 a1 a2 a3, cA b0 b1 b2 b3], cA r0 r1 r2 r3) :=
  ans_of (has_body Tryd.func14 (by kernel_rfl)) fun σ w vs hT h0 hv => by
    obtain ⟨x, y, h1, h2, rfl⟩ := vrels2 hv
    obtain rfl := cInv h1
    obtain rfl := cInv h2
    subst e0 e1 e2 e3
    exact (union_calls a0 a1 a2 a3 b0 b1 b2 b3 ha hb w).mono fun e w' ⟨g1, g2⟩ => ⟨_, g1, cRel _ _ _ _ _, g2⟩
theorem ans_meet (ha : wlt a0 a1 a2 a3) (hb : wlt b0 b1 b2 b3) {r0 r1 r2 r3 : Nat} (e0 : a0 &&& b0 = r0) (e1 : a1 &&& b1 = r1) (e2 : a2 &&& b2 = r2) (e3 : a3 &&& b3 = r3) : AX.AnsOk cx (12, [cA a0 a1 a2 a3, cA b0 b1 b2 b3], cA r0 r1 r2 r3) :=
  ans_of (has_body Tryd.func12 (by kernel_rfl)) fun σ w vs hT h0 hv => by
    obtain ⟨x, y, h1, h2, rfl⟩ := vrels2 hv
    obtain rfl := cInv h1
    obtain rfl := cInv h2
    subst e0 e1 e2 e3
    exact (meet_calls a0 a1 a2 a3 b0 b1 b2 b3 ha hb w).mono fun e w' ⟨g1, g2⟩ => ⟨_, g1, cRel _ _ _ _ _, g2⟩
theorem ans_not (ha : wlt a0 a1 a2 a3) {r0 r1 r2 r3 : Nat} (e0 : nw a0 = r0) (e1 : nw a1 = r1) (e2 : nw a2 = r2) (e3 : nw a3 = r3) : AX.AnsOk cx (16, [cA a0 a1 a2 a3], cA r0 r1 r2 r3) :=
  ans_of (has_body Tryd.func16 (by kernel_rfl)) fun σ w vs hT h0 hv => by
    obtain ⟨x, h1, rfl⟩ := vrels1 hv
    obtain rfl := cInv h1
    subst e0 e1 e2 e3
    exact (not_calls a0 a1 a2 a3 ha w).mono fun e w' ⟨g1, g2⟩ => ⟨_, g1, cRel _ _ _ _ _, g2⟩
theorem ans_len (ha : wlt a0 a1 a2 a3) : AX.AnsOk cx (13, [cA a0 a1 a2 a3], .int .i64 ((bytesB a0 a1 a2 a3).length : Nat)) :=
  ans_of (has_body Tryd.func13 (by kernel_rfl)) fun σ w vs hT h0 hv => by
    obtain ⟨x, h1, rfl⟩ := vrels1 hv
    obtain rfl := cInv h1
    exact (len_calls a0 a1 a2 a3 ha w).mono fun e w' ⟨g1, g2⟩ => ⟨_, g1, .int _ _, g2⟩
theorem ans_has (ha : wlt a0 a1 a2 a3) {b : Nat} (hb : b < 256) {r : Bool} (e : hasB a0 a1 a2 a3 b = r) : AX.AnsOk cx (15, [cA a0 a1 a2 a3, .int .u8 (b : Nat)], .bool r) :=
  ans_of (has_body Tryd.func15 (by kernel_rfl)) fun σ w vs hT h0 hv => by
    obtain ⟨x, y, h1, h2, rfl⟩ := vrels2 hv
    obtain rfl := cInv h1
    obtain rfl := h2.int_inv
    subst e
    exact (has_calls a0 a1 a2 a3 b ha hb w).mono fun e w' ⟨g1, g2⟩ => ⟨_, g1, .bool _, g2⟩
theorem bstr_bytes (l : List Nat) (h : ∀ x ∈ l, x < 256) : AX.bytesOf (bstr l) = l := by
  unfold AX.bytesOf bstr
  simp only [List.map_map]
  conv => rhs; rw [← List.map_id l]
  apply List.map_congr_left
  intro x hx
  have := h x hx
  simp only [Function.comp_apply, id_eq, UInt8.toNat_ofNat']
  omega
theorem ans_bytes (ha : wlt a0 a1 a2 a3) : AX.AnsOk cx (22, [cA a0 a1 a2 a3], .str (bytesB a0 a1 a2 a3)) :=
  ans_of (has_body Tryd.func22 (by kernel_rfl)) fun σ w vs hT h0 hv => by
    obtain ⟨x, h1, rfl⟩ := vrels1 hv
    obtain rfl := cInv h1
    exact (bytes_calls a0 a1 a2 a3 ha w h0 hT).mono fun e w' ⟨g1, g2⟩ => ⟨_, g1, .str _ (bstr_bytes _ fun x hx => upB_lt hx), g2⟩
end
theorem ans_range (low high : Nat) (hl : low < 256) (hh : high < 256) : AX.AnsOk cx (20, [.int .u8 (low : Nat), .int .u8 (high : Nat)], cA (cw (rng low high) 0 : Nat) (cw (rng low high) 1 : Nat) (cw (rng low high) 2 : Nat) (cw (rng low high) 3 : Nat)) :=
  ans_of (has_body Tryd.func20 (by kernel_rfl)) fun σ w vs hT h0 hv => by
    obtain ⟨x, y, h1, h2, rfl⟩ := vrels2 hv
    obtain rfl := h1.int_inv
    obtain rfl := h2.int_inv
    exact (range_calls low high hl hh w).mono fun e w' ⟨g1, g2⟩ => ⟨_, g1, cRel _ _ _ _ _, g2⟩
theorem ans_str (l : List Nat) (hs : l.length ≤ 1000000) {r0 r1 r2 r3 : Nat} (e0 : cw l 0 = r0) (e1 : cw l 1 = r1) (e2 : cw l 2 = r2) (e3 : cw l 3 = r3) : AX.AnsOk cx (21, [.str l], cA r0 r1 r2 r3) :=
  ans_of (has_body Tryd.func21 (by kernel_rfl)) fun σ w vs hT h0 hv => by
    obtain ⟨x, h1, rfl⟩ := vrels1 hv
    obtain ⟨s, rfl, hsl⟩ := h1.str_inv
    have hl : sb s = l := hsl
    have hsz : s.size ≤ 1000000 := by rw [← sb_len s, hl]; exact hs
    subst e0 e1 e2 e3 hl
    exact (of_calls s hsz w).mono fun e w' ⟨g1, g2⟩ => ⟨_, g1, cRel _ _ _ _ _, g2⟩
end Go.Proofs.YtjaabolpdelbiaaDoor
