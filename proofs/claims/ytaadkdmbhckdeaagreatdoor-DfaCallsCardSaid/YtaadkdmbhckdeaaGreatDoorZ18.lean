/- DfaCalls returns true at every input: its calls are answered by contracts, each proved by walking the code; lives() is reckoned by an abstract machine, proved sound over the model. Condition: the table math/bits.deBruijn64tab lies as the program lays it (the card ties it). -/
import Derived.Test.YtaadkdmbhckdeaaGreatDoorZ17
import Derived.Test.YtaadkdmbhckdeaaGreatDoorPx1
import Derived.Test.YtaadkdmbhckdeaaGreatDoorTie
import Derived.Test.YtaadkdmbhckdeaaGreatDoorCards
import Derived.Lib.SmallJoins
namespace Go.Proofs.YtaadkdmbhckdeaaGreatDoor
open Go Go.Proofs Go.ChangeShapes Go.WideShapes Go.ChangeAt Go.RowKit
theorem own : ownKnob Tryz.prog.godebug = none := by kernel_rfl
def laid1 : List (String × DataW Unit) := [("math/bits.deBruijn64tab", Rows.laid_math_bits_deBruijn64tab)]
theorem door_met (os : Os) (args : Array Value) : laidMetH Tryz.prog laid1 ((World.doorLaid Tryz.prog 14 os).forCall (fun _ _ => 0) ⟨#[], args, []⟩).memory :=
 laidMetH_of_parts3 (fuel := 8) (laidMet_of_run' 8 (by kernel_rfl) (by kernel_rfl)) (by kernel_rfl) (by kernel_rfl)
theorem below_kept {w w' : World} (h : Below w.heap.size w w') : AX.Kept w w' := ⟨h.os, h.output, h.tape, fun k _ hk => (h.block k (Array.getElem?_eq_some_iff.1 hk).1).trans hk⟩
theorem nums_tab : ∀ j : Fin 64, nums[j.val]? = some ((Lib.deBruijn64tab.getD j.val 0 : Nat) : Int) := by decide +kernel
theorem tab_of {W : World} (h : AX.numsAt W 0 .u8 nums) : 0 < W.heap.size ∧ TabAt W := by
 obtain ⟨cs, e, fz, h1, h2⟩ := h
 refine ⟨(Array.getElem?_eq_some_iff.1 h1).1, fun j hj => ?_⟩
 have h3 : W.cell? ⟨0, j, none⟩ = cs[j]? := by simp [World.cell?, h1]
 rw [h3, ← Array.getElem?_toList, h2, List.getElem?_map, nums_tab ⟨j, hj⟩]
 rfl
theorem choose_list {α : Type} {p : Nat → α → Prop} : ∀ n, (∀ i, i < n → ∃ x, p i x) → ∃ l : List α, l.length = n ∧ ∀ i (h : i < l.length), p i l[i]
 | 0, _ => ⟨[], rfl, fun i h => by cases h⟩
 | n + 1, h => by
  obtain ⟨l, hl, hp⟩ := choose_list n fun i hi => h i (by omega)
  obtain ⟨x, hx⟩ := h n (Nat.lt_succ_self n)
  refine ⟨l ++ [x], by simp [hl], fun i hi => ?_⟩
  by_cases e : i < l.length
  · rw [List.getElem_append_left e]; exact hp i e
  · have e2 : i = l.length := by simp at hi; omega
    subst e2
    rw [List.getElem_append_right (Nat.le_refl _)]
    simpa [hl] using hx
theorem nat_of_u64 {n : Int} (h : (Lit.int .u64 n).wf = true) : ∃ m : Nat, n = m ∧ m < 18446744073709551616 := by
 have := bounds_u64 h
 exact ⟨n.toNat, by omega, by omega⟩
theorem hc50 : Tryz.prog.cellsOf 55 = 4 := by kernel_rfl
theorem hc48 : Tryz.prog.cellsOf 53 = 1 := by kernel_rfl
theorem hc24 : Tryz.prog.cellsOf 24 = 1 := by kernel_rfl
theorem hc23 : Tryz.prog.cellsOf 23 = 1 := by kernel_rfl
theorem hc22 : Tryz.prog.cellsOf 22 = 1 := by kernel_rfl
section
variable {H : Type} {enc : TypeId × Value → H} {w : World} {base : Nat} {sp : Nat → Bool} {held : Bool}
theorem one_u64 {n : Nat} {c : Value} {y : DataW H × List MemPlace} (h : DataW.trod enc Tryz.prog w base sp held n 53 [c] = some y) : ∃ m : Nat, m < 18446744073709551616 ∧ c = .int .u64 (m : Int) := by
 obtain ⟨k, h1, h2, h3⟩ := DataW.trod_int Tryz.underlying53 h
 obtain ⟨m, rfl, hm⟩ := nat_of_u64 h3
 exact ⟨m, hm, by simpa using h1⟩
theorem open_irow {n : Nat} {c : Value} {y : DataW H × List MemPlace} (h : DataW.trod enc Tryz.prog w base sp held n 24 [c] = some y) :
  ∃ (a : Option Addr) (l : List Int) (cap : Nat), c = .slice a l.length cap ∧ l.length ≤ 9223372036854775807 ∧ IRow w a l := by
 rcases open_ints Tryz.underlying24 Tryz.underlying3 (by kernel_rfl) h with ⟨h1, _⟩ | ⟨a, len, cap, zs, h1, _, hl, hm, hz, _, hc, _⟩
 · cases h1
   exact ⟨none, [], 0, rfl, by simp, fun h => absurd rfl h⟩
 · cases h1
   have hlen : len ≤ zs.length := by rw [hz]; split <;> omega
   have hm : cap ≤ 9223372036854775807 := hm
   refine ⟨some a, zs.take len, cap, by rw [List.length_take, Nat.min_eq_left hlen], by rw [List.length_take]; omega, fun hne => ?_⟩
   have h0 : 0 < len := by
    rcases Nat.eq_zero_or_pos len with e | e
    · subst e; simp at hne
    · exact e
   obtain ⟨b, off, spot⟩ := a
   have c0 := hc 0 (by omega)
   have hs : spot = none := by simpa [Addr.add] using World.cell?_spot c0
   subst hs
   refine ⟨b, off, rfl, by have := block_lt_of_cell c0; simpa [Addr.add] using this, fun j hj => ?_⟩
   have hj' : j < len := by rw [List.length_take] at hj; omega
   have := hc j (by omega)
   rw [Addr.add_lit] at this
   rw [this]
   simp [List.getD, show j < zs.length by omega]
theorem open_nrow {n : Nat} {c : Value} {y : DataW H × List MemPlace} (h : DataW.trod enc Tryz.prog w base sp held n 23 [c] = some y) :
  ∃ (a : Option Addr) (l : List (List Int)) (cap : Nat), c = .slice a l.length cap ∧ NRow w a l := by
 rcases Deep.open_slice1 Tryz.underlying23 hc24 h with ⟨h1, _⟩ | ⟨a, len, cap, m, n', V, D, Pl, h1, _, hl, hm, hmm, _, hx⟩
 · cases h1
   exact ⟨none, [], 0, rfl, fun h => absurd rfl h⟩
 · cases h1
   have hle : len ≤ m := by rw [hmm]; split <;> omega
   obtain ⟨l, hlen, hk⟩ := choose_list (p := fun i (x : List Int) => ∃ la c, w.cell? (a.add i) = some (.slice la x.length c) ∧ IRow w la x) len fun i hi => by
    obtain ⟨h2, h3⟩ := hx i (by omega)
    obtain ⟨la, x, cp, e, _, hI⟩ := open_irow h3
    exact ⟨x, la, cp, by rw [h2, e], hI⟩
   subst hlen
   refine ⟨some a, l, cap, rfl, fun hne => ?_⟩
   have h0 : 0 < l.length := List.length_pos_iff.2 hne
   obtain ⟨_, _, hc0, _⟩ := hk 0 h0
   have hsp := World.cell?_spot hc0
   have hlt := block_lt_of_cell hc0
   obtain ⟨B, off, spot⟩ := a
   simp [Addr.add] at hsp hlt
   subst hsp
   refine ⟨B, off, rfl, hlt, fun j hj => ?_⟩
   obtain ⟨la, c, h1, h2⟩ := hk j hj
   rw [addr_add] at h1
   exact ⟨la, c, h1, h2⟩
theorem open_crow {n : Nat} {c : Value} {y : DataW H × List MemPlace} (h : DataW.trod enc Tryz.prog w base sp held n 22 [c] = some y) :
  ∃ (a : Option Addr) (l : List Kl) (cap : Nat), c = .slice a l.length cap ∧ CRow w a l := by
 rcases Deep.open_slice Tryz.underlying22 h with ⟨h1, _⟩ | ⟨a, len, cap, m, n', D, Pl, h1, _, hl, _, hm, _, hx⟩
 · cases h1
   exact ⟨none, [], 0, rfl, fun h => absurd rfl h⟩
 · cases h1
   have hle : len ≤ m := by rw [hm]; split <;> omega
   obtain ⟨l, hlen, hk⟩ := choose_list (p := fun i (x : Kl) => ∀ j u, (encC x)[j]? = some u → w.cell? ((a.add (i * 4)).add j) = some u) len fun i hi => by
    obtain ⟨cs', h2, h3⟩ := hx i (by omega)
    rw [hc50] at h2
    obtain ⟨_, hlen, hcell⟩ := World.cells?_some h2
    obtain ⟨c0, c1, c2, c3, rfl⟩ : ∃ c0 c1 c2 c3, cs' = [c0, c1, c2, c3] := by
     match cs', hlen with
     | [c0, c1, c2, c3], _ => exact ⟨c0, c1, c2, c3, rfl⟩
    obtain ⟨y0, y1, y2, y3, n2, _, g0, g1, g2, g3⟩ := trod_array4 (e := 53) Tryz.underlying55 hc48 h3
    obtain ⟨a0, l0, rfl⟩ := one_u64 g0
    obtain ⟨a1, l1, rfl⟩ := one_u64 g1
    obtain ⟨a2, l2, rfl⟩ := one_u64 g2
    obtain ⟨a3, l3, rfl⟩ := one_u64 g3
    refine ⟨⟨a0, a1, a2, a3, fun k => by unfold wd; split; exact l0; split; exact l1; split; exact l2; exact l3⟩, fun j u hu => ?_⟩
    have hj : j < 4 := by have := (List.getElem?_eq_some_iff.1 hu).1; rwa [encC_len] at this
    rw [hcell j hj]
    exact hu
   subst hlen
   refine ⟨some a, l, cap, rfl, fun hne => ?_⟩
   have h0 : 0 < l.length := List.length_pos_iff.2 hne
   have hc0 := hk 0 h0 0 _ rfl
   have e0 : (a.add (0 * 4)).add 0 = a := by simp [Addr.add]
   rw [e0] at hc0
   have hsp := World.cell?_spot hc0
   have hlt := block_lt_of_cell hc0
   obtain ⟨B, off, spot⟩ := a
   simp only at hsp hlt
   subst hsp
   refine ⟨B, off, rfl, hlt, fun j hj => ?_⟩
   have H : ∀ k v, (encC l[j])[k]? = some v → w.cell? ⟨B, off + j * 4 + k, none⟩ = some v := fun k v hv => by
    have := hk j hj k v hv
    rwa [addr_add, addr_add] at this
   exact ⟨H 0 _ rfl, H 1 _ rfl, H 2 _ rfl, H 3 _ rfl⟩
set_option maxRecDepth 100000 in
theorem open_nfa {r : Reach} {b0 : Nat} {v : Value} {d : DataW H} {p : List MemPlace} (hv : Value.okWide Tryz.prog w r b0 26 v) (h : DataW.Trod enc Tryz.prog w 0 sp held 26 v d p) :
  ∃ (N : Nf) (ac an ar : Option Addr) (cc cn cr : Nat), v = .agg #[.slice ac N.cl.length cc, .slice an N.nx.length cn, .slice ar N.ru.length cr] ∧ NfAt w N ac an ar := by
 simp only [Value.okWide, Tryz.underlying26] at hv
 obtain ⟨cs, rfl, hsz, _⟩ := hv
 have hc : Tryz.prog.cellsOf 26 = 3 := by kernel_rfl
 obtain ⟨c0, c1, c2, rfl⟩ : ∃ c0 c1 c2, cs = #[c0, c1, c2] := by
  obtain ⟨l⟩ := cs
  match l, hsz.trans hc with
  | [c0, c1, c2], _ => exact ⟨c0, c1, c2, rfl⟩
 obtain ⟨fuel, hf⟩ := h
 obtain ⟨y0, y1, y2, n, _, _, h0, h1, h2⟩ := Deep.trod_struct3 Tryz.underlying26 (by simpa [Value.cells] using hf)
 simp only [hc22, hc23, hc24] at h0 h1 h2
 obtain ⟨a0, l0, k0, rfl, r0⟩ := open_crow h0
 obtain ⟨a1, l1, k1, rfl, r1⟩ := open_nrow h1
 obtain ⟨a2, l2, k2, rfl, _, r2⟩ := open_irow h2
 exact ⟨⟨l0, l1, l2⟩, a0, a1, a2, k0, k1, k2, rfl, r0, r1, r2⟩
end
open Go Go.Proofs Go.RowKit
theorem lives_run : AX.saysTrue (AX.callS (AX.ctxOf Tryz.prog glob dfd tab0) 60 (.fn 4) [] .leaf 0) = true := by kernel_rfl
theorem lives_k {W0 : World} (h : AX.numsAt W0 0 .u8 nums) (W : World) (hB : Below W0.heap.size W0 W) : Calls Tryz.prog 4 #[] W fun e w' => e = .returned (.bool true) ∧ Below W.heap.size W w' := by
 obtain ⟨cs, e, fz, h1, h2⟩ := h
 have h' : AX.numsAt W 0 .u8 nums := ⟨cs, e, fz, (hB.block 0 (Array.getElem?_eq_some_iff.1 h1).1).trans h1, h2⟩
 have hg' : AX.GlOk (AX.ctxOf Tryz.prog glob dfd tab0) (AX.prOf W) := AX.glOk_nums h'
 refine (AX.TabOk.run pOk dfdAll tab0_ok lives_run hg' (.nil : AX.VRels (fun _ => none) [] (#[] : Array Value).toList)).mono ?_
 rintro e w' ⟨rfl, hk⟩
 exact ⟨rfl, hk.below⟩
open Go Go.Proofs Go.ChangeShapes Go.WideShapes Go.ChangeAt Go.RowKit
section
variable {H : Type} {enc : TypeId × Value → H} {w : World} {sp : Nat → Bool} {held : Bool}
set_option maxRecDepth 100000 in
theorem open_table {r : Reach} {b0 : Nat} {v : Value} {d : DataW H} {p : List MemPlace} (hv : Value.okWide Tryz.prog w r b0 28 v) (h : DataW.Trod enc Tryz.prog w 0 sp held 28 v d p) :
  ∃ (an ar : Option Addr) (next rule : List Int) (cn cr : Nat), v = .agg #[.slice an next.length cn, .slice ar rule.length cr] ∧ next.length ≤ 9223372036854775807 ∧ rule.length ≤ 9223372036854775807 ∧ IRow w an next ∧ IRow w ar rule := by
 simp only [Value.okWide, Tryz.underlying28] at hv
 obtain ⟨cs, rfl, hsz, _⟩ := hv
 have hc : Tryz.prog.cellsOf 28 = 2 := by kernel_rfl
 have hc1 := hc24
 obtain ⟨c0, c1, rfl⟩ : ∃ c0 c1, cs = #[c0, c1] := by
  obtain ⟨l⟩ := cs
  match l, hsz.trans hc with
  | [c0, c1], _ => exact ⟨c0, c1, rfl⟩
 obtain ⟨fuel, hf⟩ := h
 obtain ⟨y0, y1, n, _, _, h0, h1⟩ := trod_struct2 Tryz.underlying28 (by simpa [Value.cells] using hf)
 simp only [hc1] at h0 h1
 obtain ⟨a0, l0, k0, rfl, m0, r0⟩ := open_irow h0
 obtain ⟨a1, l1, k1, rfl, m1, r1⟩ := open_irow h1
 exact ⟨a0, a1, l0, l1, k0, k1, rfl, m0, m1, r0, r1⟩
end
theorem u8_nat {n : Int} (h : (Lit.int .u8 n).wf = true) : ∃ m : Nat, n = m ∧ m < 256 := by
 have := bounds_u8 h
 exact ⟨n.toNat, by omega, by omega⟩
set_option maxRecDepth 100000 in
set_option maxHeartbeats 1000000 in
theorem dfaCalls_lifted (os : Os) (started : os.Started) (H : Type) (enc : TypeId × Value → H) :
  ReturnsInHanded {} Tryz.checked os 3 .any (fun w args => (Rows.dfaCallsSpec.pre enc Tryz.prog Tryz.f3 [] false w args ∧ laidMetH Tryz.prog laid1 w) ∧ sizedMet enc Tryz.prog Tryz.f3 (OpenSpec.ofChange Rows.dfaCallsSpec) false w args)
   (Rows.dfaCallsSpec.post enc Tryz.prog Tryz.f3 false true false false) := by
 refine returnsInHanded_of_change_and (C := Tryz.checked) (X := fun w _ => laidMetH Tryz.prog laid1 w) (fun _ _ _ hh h => h.of_heap hh) own started (by kernel_rfl) Tryz.func3
  (ChangeSpec.witness_shaped (enc := enc) (C := Tryz.checked) (os := os) (X := fun w _ => laidMetH Tryz.prog laid1 w) false (World.doorLaid Tryz.prog 14 os) #[.agg #[.slice none 0 0, .slice none 0 0, .slice none 0 0], .int .i64 0, .agg #[.slice none 0 0, .slice none 0 0], .agg #[.slice none 0 0, .slice none 0 0], .int .i64 0, .int .u8 0, .string .empty] 8 rfl (World.shaped_of_RefB (by kernel_rfl) (by kernel_rfl)) (by kernel_rfl) (by kernel_rfl) (by kernel_rfl) (door_met os #[.agg #[.slice none 0 0, .slice none 0 0, .slice none 0 0], .int .i64 0, .agg #[.slice none 0 0, .slice none 0 0], .agg #[.slice none 0 0, .slice none 0 0], .int .i64 0, .int .u8 0, .string .empty])) ?_
 intro W base args ds gs before hval0 hW _ _ hL _
 have hval : ∀ (j : Nat) t v, Tryz.f3.params[j]? = some t → args[j]? = some v → Value.okWide Tryz.prog W .any base t v := hval0
 have hW' := hW
 obtain ⟨p, q, hA0, hV, rfl, hfz, hnd⟩ := hW
 have hA : DataW.TrodAll enc Tryz.prog W 0 (fun _ => true) true Tryz.f3.params.toList args.toList ds p := hA0
 rw [Tryz.params3] at hA hval
 obtain ⟨rfl, rfl⟩ := trodVars_none hV
 obtain ⟨v0, l, d0, dl, p0, q0, h0, rfl, rfl, k0, hA⟩ := trodAll_cons hA
 obtain ⟨v1, l, d1, dl, p1, q1, rfl, rfl, rfl, k1, hA⟩ := trodAll_cons hA
 obtain ⟨v2, l, d2, dl, p2, q2, rfl, rfl, rfl, k2, hA⟩ := trodAll_cons hA
 obtain ⟨v3, l, d3, dl, p3, q3, rfl, rfl, rfl, k3, hA⟩ := trodAll_cons hA
 obtain ⟨v4, l, d4, dl, p4, q4, rfl, rfl, rfl, k4, hA⟩ := trodAll_cons hA
 obtain ⟨v5, l, d5, dl, p5, q5, rfl, rfl, rfl, k5, hA⟩ := trodAll_cons hA
 obtain ⟨v6, l, d6, dl, p6, q6, rfl, rfl, rfl, k6, hA⟩ := trodAll_cons hA
 obtain ⟨rfl, rfl, rfl⟩ := trodAll_nil hA
 have ha : args = #[v0, v1, v2, v3, v4, v5, v6] := by cases args; simp_all
 subst ha
 obtain ⟨N, ac, an, ar, cc, cn, cr, rfl, hN⟩ := open_nfa (hval 0 26 v0 rfl rfl) k0
 obtain ⟨z, rfl, rfl, rfl, wz⟩ := open_int Tryz.underlying3 (hval 1 3 v1 rfl rfl) k1
 obtain ⟨a1, a2, dn, dr, c1, c2, rfl, l1, l2, I1, I2⟩ := open_table (hval 2 28 v2 rfl rfl) k2
 obtain ⟨a3, a4, en, er, c3, c4, rfl, l3, l4, I3, I4⟩ := open_table (hval 3 28 v3 rfl rfl) k3
 obtain ⟨st, rfl, rfl, rfl, wst⟩ := open_int Tryz.underlying3 (hval 4 3 v4 rfl rfl) k4
 obtain ⟨zb, rfl, rfl, rfl, wb⟩ := open_int Tryz.underlying5 (hval 5 5 v5 rfl rfl) k5
 obtain ⟨b, rfl, hb⟩ := u8_nat wb
 obtain ⟨s, rfl, rfl, rfl, hs⟩ := Go.ChangeMaps.open_string Tryz.underlying9 (hval 6 9 v6 rfl rfl) k6
 obtain ⟨hp, hT⟩ := tab_of (numsAt hL)
 have hcall := calls_k N ac an ar cc cn cr z st dn dr en er a1 a2 a3 a4 c1 c2 c3 c4 b hb s W hp hT hN l1 l2 l3 l4 I1 I2 I3 I4 (fun W1 hB => lives_k (numsAt hL) W1 hB)
 refine hcall.mono fun e W' ⟨he, hkp⟩ => ?_
 subst he
 exact ⟨_, rfl, AX.post_true (l := [26, 22, 55, 53, 23, 24, 3, 28, 5, 9]) (by kernel_rfl) (by rw [Tryz.params3]; simp) hW' (fun _ _ _ => (trodAll_cons_mk (shut_bool Tryz.underlying4 _) trodAll_mk0)) rfl rfl rfl (below_kept hkp) (Go.RowKit.ok_one (by kernel_rfl) rfl (okWide_bool_mk Tryz.underlying4 _))⟩
theorem dfaCalls_holds : Rows.DfaCallsSaid :=
 OpenClaim.holds_of_wide 3 Tryz.f3 rfl rfl rfl rfl rfl rfl rfl ⟨rfl, rfl, rfl, rfl, rfl⟩ rfl rfl rfl rfl rfl (by kernel_rfl) Tryz.func3 (by kernel_rfl)
  (of_decide_eq_true (by kernel_rfl)) (by unfold Func.isWrapper; first | (rw [if_pos (by decide +kernel)]; kernel_rfl) | (rw [if_neg (by decide +kernel)]; exact ⟨rfl, rfl⟩))
  (fun os started H enc _ => dfaCalls_lifted os started H enc)
theorem dfaCalls_card : Rows.DfaCallsCardSaid :=
 Claim7.holds_tied_plain_at .later [] [.data] true (true, "95b6bc531cbcbaac441ccb5be6b22fadb3d7909df5134ca4c5a23dce0a211754") false
  dfaCalls_holds (fun _ h => by cases h) (by kernel_rfl) (fun _ h => by cases h) dfaCalls_row_tie rfl ⟨rfl, rfl⟩ (by kernel_rfl) rfl
  (fun f fn hf hfn => by
   obtain rfl : f = 3 := Option.some.inj ((show Tryz.prog.funcNamed "viewport/viewportlaw04.DfaCalls" = some 3 by kernel_rfl).symm.trans hf) |>.symm
   obtain rfl : fn = Tryz.f3 := (Option.some.inj (Tryz.func3.symm.trans hfn)).symm
   exact ⟨by kernel_rfl, fun j t ht => by
    rw [Tryz.params3] at ht
    match j, ht with
    | 0, ht => cases ht; exact (show Tryz.prog.wantsStandIn 26 = false by kernel_rfl)
    | 1, ht => cases ht; exact (show Tryz.prog.wantsStandIn 3 = false by kernel_rfl)
    | 2, ht => cases ht; exact (show Tryz.prog.wantsStandIn 28 = false by kernel_rfl)
    | 3, ht => cases ht; exact (show Tryz.prog.wantsStandIn 28 = false by kernel_rfl)
    | 4, ht => cases ht; exact (show Tryz.prog.wantsStandIn 3 = false by kernel_rfl)
    | 5, ht => cases ht; exact (show Tryz.prog.wantsStandIn 5 = false by kernel_rfl)
    | 6, ht => cases ht; exact (show Tryz.prog.wantsStandIn 9 = false by kernel_rfl)⟩)
  (by kernel_rfl)
#print axioms dfaCalls_card
end Go.Proofs.YtaadkdmbhckdeaaGreatDoor
