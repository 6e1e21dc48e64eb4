/- Dfa: states as an argument: opened. -/
import Derived.Test.YtaadkdmbhckdeaaDoorN24
import Derived.Test.YtaadkdmbhckdeaaDoorPx1
import Derived.Test.YtaadkdmbhckdeaaDoorRows
import Derived.Test.YtaadkdmbhckdeaaDoorTie
import Derived.Test.YtaadkdmbhckdeaaDoorCards
import Derived.WalkKit
import Derived.ProofKit
import Derived.OpenShut
import Derived.LaidMore
import Derived.Stop.Joined
import Derived.ChangeMaps5
import Derived.ChangeSlices
import Derived.Deep.Strs
import Derived.Deep.Slices
import Derived.Carry
import Derived.Lib.SmallJoins
import Derived.Laws.IdiomArrays
namespace Go.Proofs.YtaadkdmbhckdeaaDoor
open Go Go.Proofs Go.ChangeShapes Go.WideShapes Go.ChangeAt Go.RowKit
theorem own : ownKnob Tryd.prog.godebug = none := by kernel_rfl
def laid1 : List (String × DataW Unit) := [("math/bits.deBruijn64tab", Rows.laid_math_bits_deBruijn64tab)]
theorem door_met (os : Os) (args : Array Value) : laidMetH Tryd.prog laid1 ((World.doorLaid Tryd.prog 14 os).forCall (fun _ _ => 0) ⟨#[], args, []⟩).memory :=
  laidMetH_of_parts3 (fuel := 8) (laidMet_of_run' 8 (by kernel_rfl) (by kernel_rfl)) (by kernel_rfl) (by kernel_rfl)
theorem below_kept {w w' : World} (h : Below w.heap.size w w') : AX.Kept w w' := ⟨h.os, h.output, h.tape, fun k _ hk => (h.block k (Array.getElem?_eq_some_iff.1 hk).1).trans hk⟩
theorem nums_tab : ∀ j : Fin 64, nums[j.val]? = some ((Lib.deBruijn64tab.getD j.val 0 : Nat) : Int) := by decide +kernel
theorem tab_of {W : World} (h : AX.numsAt W 0 .u8 nums) : 0 < W.heap.size ∧ TabAt W := by
  obtain ⟨cs, e, fz, h1, h2⟩ := h
  refine ⟨(Array.getElem?_eq_some_iff.1 h1).1, fun j hj => ?_⟩
  have h3 : W.cell? ⟨0, j, none⟩ = cs[j]? := by simp [World.cell?, h1]
  rw [h3, ← Array.getElem?_toList, h2, List.getElem?_map, nums_tab ⟨j, hj⟩]
  rfl
theorem choose_list {α : Type} {p : Nat → α → Prop} : ∀ n, (∀ i, i < n → ∃ x, p i x) → ∃ l : List α, l.length = n ∧ ∀ i (h : i < l.length), p i l[i]
  | 0, _ => ⟨[], rfl, fun i h => by cases h⟩
  | n + 1, h => by
    obtain ⟨l, hl, hp⟩ := choose_list n fun i hi => h i (by omega)
    obtain ⟨x, hx⟩ := h n (Nat.lt_succ_self n)
    refine ⟨l ++ [x], by simp [hl], fun i hi => ?_⟩
    by_cases e : i < l.length
    · rw [List.getElem_append_left e]; exact hp i e
    · have e2 : i = l.length := by simp at hi; omega
      subst e2
      rw [List.getElem_append_right (Nat.le_refl _)]
      simpa [hl] using hx
theorem nat_of_u64 {n : Int} (h : (Lit.int .u64 n).wf = true) : ∃ m : Nat, n = m ∧ m < 18446744073709551616 := by
  have := bounds_u64 h
  exact ⟨n.toNat, by omega, by omega⟩
theorem hc50 : Tryd.prog.cellsOf 50 = 4 := by kernel_rfl
theorem hc48 : Tryd.prog.cellsOf 48 = 1 := by kernel_rfl
theorem hc24 : Tryd.prog.cellsOf 24 = 1 := by kernel_rfl
theorem hc23 : Tryd.prog.cellsOf 23 = 1 := by kernel_rfl
theorem hc22 : Tryd.prog.cellsOf 22 = 1 := by kernel_rfl
section
variable {H : Type} {enc : TypeId × Value → H} {w : World} {base : Nat} {sp : Nat → Bool} {held : Bool}
theorem one_u64 {n : Nat} {c : Value} {y : DataW H × List MemPlace} (h : DataW.trod enc Tryd.prog w base sp held n 48 [c] = some y) : ∃ m : Nat, m < 18446744073709551616 ∧ c = .int .u64 (m : Int) := by
  obtain ⟨k, h1, h2, h3⟩ := DataW.trod_int Tryd.underlying48 h
  obtain ⟨m, rfl, hm⟩ := nat_of_u64 h3
  exact ⟨m, hm, by simpa using h1⟩
theorem open_irow {n : Nat} {c : Value} {y : DataW H × List MemPlace} (h : DataW.trod enc Tryd.prog w base sp held n 24 [c] = some y) :
    ∃ (a : Option Addr) (l : List Int) (cap : Nat), c = .slice a l.length cap ∧ l.length ≤ 9223372036854775807 ∧ IRow w a l := by
  rcases open_ints Tryd.underlying24 Tryd.underlying3 (by kernel_rfl) h with ⟨h1, _⟩ | ⟨a, len, cap, zs, h1, _, hl, hm, hz, _, hc, _⟩
  · cases h1
    exact ⟨none, [], 0, rfl, by simp, fun h => absurd rfl h⟩
  · cases h1
    have hlen : len ≤ zs.length := by rw [hz]; split <;> omega
    have hm : cap ≤ 9223372036854775807 := hm
    refine ⟨some a, zs.take len, cap, by rw [List.length_take, Nat.min_eq_left hlen], by rw [List.length_take]; omega, fun hne => ?_⟩
    have h0 : 0 < len := by
      rcases Nat.eq_zero_or_pos len with e | e
      · subst e; simp at hne
      · exact e
    obtain ⟨b, off, spot⟩ := a
    have c0 := hc 0 (by omega)
    have hs : spot = none := by simpa [Addr.add] using World.cell?_spot c0
    subst hs
    refine ⟨b, off, rfl, by have := block_lt_of_cell c0; simpa [Addr.add] using this, fun j hj => ?_⟩
    have hj' : j < len := by rw [List.length_take] at hj; omega
    have := hc j (by omega)
    rw [Addr.add_lit] at this
    rw [this]
    simp [List.getD, show j < zs.length by omega]
theorem open_nrow {n : Nat} {c : Value} {y : DataW H × List MemPlace} (h : DataW.trod enc Tryd.prog w base sp held n 23 [c] = some y) :
    ∃ (a : Option Addr) (l : List (List Int)) (cap : Nat), c = .slice a l.length cap ∧ NRow w a l := by
  rcases Deep.open_slice1 Tryd.underlying23 hc24 h with ⟨h1, _⟩ | ⟨a, len, cap, m, n', V, D, Pl, h1, _, hl, hm, hmm, _, hx⟩
  · cases h1
    exact ⟨none, [], 0, rfl, fun h => absurd rfl h⟩
  · cases h1
    have hle : len ≤ m := by rw [hmm]; split <;> omega
    obtain ⟨l, hlen, hk⟩ := choose_list (p := fun i (x : List Int) => ∃ la c, w.cell? (a.add i) = some (.slice la x.length c) ∧ IRow w la x) len fun i hi => by
      obtain ⟨h2, h3⟩ := hx i (by omega)
      obtain ⟨la, x, cp, e, _, hI⟩ := open_irow h3
      exact ⟨x, la, cp, by rw [h2, e], hI⟩
    subst hlen
    refine ⟨some a, l, cap, rfl, fun hne => ?_⟩
    have h0 : 0 < l.length := List.length_pos_iff.2 hne
    obtain ⟨_, _, hc0, _⟩ := hk 0 h0
    have hsp := World.cell?_spot hc0
    have hlt := block_lt_of_cell hc0
    obtain ⟨B, off, spot⟩ := a
    simp [Addr.add] at hsp hlt
    subst hsp
    refine ⟨B, off, rfl, hlt, fun j hj => ?_⟩
    obtain ⟨la, c, h1, h2⟩ := hk j hj
    rw [addr_add] at h1
    exact ⟨la, c, h1, h2⟩
theorem open_crow {n : Nat} {c : Value} {y : DataW H × List MemPlace} (h : DataW.trod enc Tryd.prog w base sp held n 22 [c] = some y) :
    ∃ (a : Option Addr) (l : List Kl) (cap : Nat), c = .slice a l.length cap ∧ CRow w a l := by
  rcases Deep.open_slice Tryd.underlying22 h with ⟨h1, _⟩ | ⟨a, len, cap, m, n', D, Pl, h1, _, hl, _, hm, _, hx⟩
  · cases h1
    exact ⟨none, [], 0, rfl, fun h => absurd rfl h⟩
  · cases h1
    have hle : len ≤ m := by rw [hm]; split <;> omega
    obtain ⟨l, hlen, hk⟩ := choose_list (p := fun i (x : Kl) => ∀ j u, (encC x)[j]? = some u → w.cell? ((a.add (i * 4)).add j) = some u) len fun i hi => by
      obtain ⟨cs', h2, h3⟩ := hx i (by omega)
      rw [hc50] at h2
      obtain ⟨_, hlen, hcell⟩ := World.cells?_some h2
      obtain ⟨c0, c1, c2, c3, rfl⟩ : ∃ c0 c1 c2 c3, cs' = [c0, c1, c2, c3] := by
        match cs', hlen with
        | [c0, c1, c2, c3], _ => exact ⟨c0, c1, c2, c3, rfl⟩
      obtain ⟨y0, y1, y2, y3, n2, _, g0, g1, g2, g3⟩ := trod_array4 (e := 48) Tryd.underlying50 hc48 h3
      obtain ⟨a0, l0, rfl⟩ := one_u64 g0
      obtain ⟨a1, l1, rfl⟩ := one_u64 g1
      obtain ⟨a2, l2, rfl⟩ := one_u64 g2
      obtain ⟨a3, l3, rfl⟩ := one_u64 g3
      refine ⟨⟨a0, a1, a2, a3, fun k => by unfold wd; split; exact l0; split; exact l1; split; exact l2; exact l3⟩, fun j u hu => ?_⟩
      have hj : j < 4 := by have := (List.getElem?_eq_some_iff.1 hu).1; rwa [encC_len] at this
      rw [hcell j hj]
      exact hu
    subst hlen
    refine ⟨some a, l, cap, rfl, fun hne => ?_⟩
    have h0 : 0 < l.length := List.length_pos_iff.2 hne
    have hc0 := hk 0 h0 0 _ rfl
    have e0 : (a.add (0 * 4)).add 0 = a := by simp [Addr.add]
    rw [e0] at hc0
    have hsp := World.cell?_spot hc0
    have hlt := block_lt_of_cell hc0
    obtain ⟨B, off, spot⟩ := a
    simp only at hsp hlt
    subst hsp
    refine ⟨B, off, rfl, hlt, fun j hj => ?_⟩
    have H : ∀ k v, (encC l[j])[k]? = some v → w.cell? ⟨B, off + j * 4 + k, none⟩ = some v := fun k v hv => by
      have := hk j hj k v hv
      rwa [addr_add, addr_add] at this
    exact ⟨H 0 _ rfl, H 1 _ rfl, H 2 _ rfl, H 3 _ rfl⟩
set_option maxRecDepth 100000 in
theorem open_nfa {r : Reach} {b0 : Nat} {v : Value} {d : DataW H} {p : List MemPlace} (hv : Value.okWide Tryd.prog w r b0 26 v) (h : DataW.Trod enc Tryd.prog w 0 sp held 26 v d p) :
    ∃ (N : Nf) (ac an ar : Option Addr) (cc cn cr : Nat), v = .agg #[.slice ac N.cl.length cc, .slice an N.nx.length cn, .slice ar N.ru.length cr] ∧ NfAt w N ac an ar := by
  simp only [Value.okWide, Tryd.underlying26] at hv
  obtain ⟨cs, rfl, hsz, _⟩ := hv
  have hc : Tryd.prog.cellsOf 26 = 3 := by kernel_rfl
  obtain ⟨c0, c1, c2, rfl⟩ : ∃ c0 c1 c2, cs = #[c0, c1, c2] := by
    obtain ⟨l⟩ := cs
    match l, hsz.trans hc with
    | [c0, c1, c2], _ => exact ⟨c0, c1, c2, rfl⟩
  obtain ⟨fuel, hf⟩ := h
  obtain ⟨y0, y1, y2, n, _, _, h0, h1, h2⟩ := Deep.trod_struct3 Tryd.underlying26 (by simpa [Value.cells] using hf)
  simp only [hc22, hc23, hc24] at h0 h1 h2
  obtain ⟨a0, l0, k0, rfl, r0⟩ := open_crow h0
  obtain ⟨a1, l1, k1, rfl, r1⟩ := open_nrow h1
  obtain ⟨a2, l2, k2, rfl, _, r2⟩ := open_irow h2
  exact ⟨⟨l0, l1, l2⟩, a0, a1, a2, k0, k1, k2, rfl, r0, r1, r2⟩
end
end Go.Proofs.YtaadkdmbhckdeaaDoor
