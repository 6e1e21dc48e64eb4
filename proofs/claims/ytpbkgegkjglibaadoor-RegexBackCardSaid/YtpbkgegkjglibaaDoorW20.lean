/- Regex: rows of nodes as arguments: opened. -/
import Derived.Test.YtpbkgegkjglibaaDoorW18
import Derived.Test.YtpbkgegkjglibaaDoorL3
import Derived.Test.YtpbkgegkjglibaaDoorPx1
import Derived.Test.YtpbkgegkjglibaaDoorRows
import Derived.Test.YtpbkgegkjglibaaDoorTie
import Derived.Test.YtpbkgegkjglibaaDoorCards
import Derived.WalkKit
import Derived.ProofKit
import Derived.OpenShut
import Derived.LaidMore
import Derived.Stop.Joined
import Derived.ChangeMaps5
import Derived.ChangeSlices
import Derived.Deep.Strs
import Derived.Deep.Slices
import Derived.Carry
import Derived.Lib.SmallJoins
import Derived.Laws.IdiomArrays
namespace Go.Proofs.YtpbkgegkjglibaaDoor
open Go Go.Proofs Go.ChangeShapes Go.WideShapes Go.ChangeAt Go.RowKit
theorem own : ownKnob Tryd.prog.godebug = none := by kernel_rfl
def laid1 : List (String × DataW Unit) := [("math/bits.deBruijn64tab", Rows.laid_math_bits_deBruijn64tab)]
theorem door_met (os : Os) (args : Array Value) : laidMetH Tryd.prog laid1 ((World.doorLaid Tryd.prog 14 os).forCall (fun _ _ => 0) ⟨#[], args, []⟩).memory :=
  laidMetH_of_parts3 (fuel := 8) (laidMet_of_run' 8 (by kernel_rfl) (by kernel_rfl)) (by kernel_rfl) (by kernel_rfl)
theorem below_kept {w w' : World} (h : Below w.heap.size w w') : AX.Kept w w' := ⟨h.os, h.output, h.tape, fun k _ hk => (h.block k (Array.getElem?_eq_some_iff.1 hk).1).trans hk⟩
theorem choose_list {α : Type} {p : Nat → α → Prop} : ∀ n, (∀ i, i < n → ∃ x, p i x) → ∃ l : List α, l.length = n ∧ ∀ i (h : i < l.length), p i l[i]
  | 0, _ => ⟨[], rfl, fun i h => by cases h⟩
  | n + 1, h => by
    obtain ⟨l, hl, hp⟩ := choose_list n fun i hi => h i (by omega)
    obtain ⟨x, hx⟩ := h n (Nat.lt_succ_self n)
    refine ⟨l ++ [x], by simp [hl], fun i hi => ?_⟩
    by_cases e : i < l.length
    · rw [List.getElem_append_left e]; exact hp i e
    · have e2 : i = l.length := by simp at hi; omega
      subst e2
      rw [List.getElem_append_right (Nat.le_refl _)]
      simpa [hl] using hx
theorem nat_of_u64 {n : Int} (h : (Lit.int .u64 n).wf = true) : ∃ m : Nat, n = m ∧ m < 18446744073709551616 := by
  have := bounds_u64 h
  exact ⟨n.toNat, by omega, by omega⟩
section
variable {H : Type} {enc : TypeId × Value → H} {w : World} {base : Nat} {sp : Nat → Bool} {held : Bool}
theorem one_u64 {n : Nat} {c : Value} {y : DataW H × List MemPlace} (h : DataW.trod enc Tryd.prog w base sp held n 36 [c] = some y) : ∃ m : Nat, m < 18446744073709551616 ∧ c = .int .u64 (m : Int) := by
  obtain ⟨k, h1, h2, h3⟩ := DataW.trod_int Tryd.underlying36 h
  obtain ⟨m, rfl, hm⟩ := nat_of_u64 h3
  exact ⟨m, hm, by simpa using h1⟩
theorem open_kids {n : Nat} {c : Value} {y : DataW H × List MemPlace} (h : DataW.trod enc Tryd.prog w base sp held n 43 [c] = some y) : ∃ l : List Int, IRd w c l := by
  rcases open_ints Tryd.underlying43 Tryd.underlying3 (by kernel_rfl) h with ⟨h1, _⟩ | ⟨a, len, cap, zs, h1, _, hl, hm, hz, _, hc, _⟩
  · cases h1
    exact ⟨[], none, 0, rfl, fun _ => rfl, fun a e => by cases e⟩
  · cases h1
    have hlen : len ≤ zs.length := by rw [hz]; split <;> omega
    refine ⟨zs.take len, some a, cap, by rw [List.length_take, Nat.min_eq_left hlen], (fun e => by cases e), fun a' e hne => ?_⟩
    obtain rfl := Option.some.inj e
    have h0 : 0 < len := by
      rcases Nat.eq_zero_or_pos len with e | e
      · subst e; simp at hne
      · exact e
    obtain ⟨b, off, spot⟩ := a
    have c0 := hc 0 (by omega)
    have hs : spot = none := by simpa [Addr.add] using World.cell?_spot c0
    subst hs
    refine ⟨b, off, rfl, by have := block_lt_of_cell c0; simpa [Addr.add] using this, fun j x hx => ?_⟩
    rw [List.getElem?_take] at hx
    split at hx
    · rename_i hj
      have := hc j (by omega)
      rw [Addr.add_lit] at this
      rw [this]
      simp [List.getD, hx]
    · cases hx
theorem hc45 : Tryd.prog.cellsOf 45 = 6 := by kernel_rfl
theorem hc38 : Tryd.prog.cellsOf 38 = 4 := by kernel_rfl
theorem hc36 : Tryd.prog.cellsOf 36 = 1 := by kernel_rfl
theorem hc3 : Tryd.prog.cellsOf 3 = 1 := by kernel_rfl
theorem hc43 : Tryd.prog.cellsOf 43 = 1 := by kernel_rfl
set_option maxRecDepth 100000 in
theorem open_nodes {r : Reach} {b0 : Nat} {v : Value} {d : DataW H} {p : List MemPlace} (hv : Value.okWide Tryd.prog w r b0 24 v) (h : DataW.Trod enc Tryd.prog w base sp held 24 v d p) :
    ∃ l : List Nd, RRow w v l ∧ AllWd l ∧ l.length ≤ 9223372036854775807 := by
  simp only [Value.okWide, Tryd.underlying24] at hv
  obtain ⟨sa, sn, sc, rfl⟩ : ∃ a n c, v = .slice a n c := by cases v <;> first | exact ⟨_, _, _, rfl⟩ | exact hv.elim
  obtain ⟨fuel, hf⟩ := h
  rcases Deep.open_slice Tryd.underlying24 hf with ⟨h1, _⟩ | ⟨a, len, cap, m, n, D, Pl, h1, _, hl, hcap, hm, _, hx⟩
  · simp [Value.cells] at h1
    obtain ⟨rfl, rfl, rfl⟩ := h1
    exact ⟨[], ⟨none, 0, rfl, fun _ => rfl, fun a e => by cases e⟩, fun x hx => by simp at hx, Nat.zero_le _⟩
  · simp [Value.cells] at h1
    obtain ⟨rfl, rfl, rfl⟩ := h1
    have hle : sn ≤ m := by rw [hm]; split <;> omega
    obtain ⟨l, hlen, hk⟩ := choose_list (p := fun i (x : Nd) => x.Wd ∧ ∃ kv, IRd w kv x.kids ∧ ∀ j u, (encN ⟨x, kv⟩)[j]? = some u → w.cell? ((a.add (i * 6)).add j) = some u) sn fun i hi => by
      obtain ⟨cs', h2, h3⟩ := hx i (by omega)
      rw [hc45] at h2
      obtain ⟨_, hlen, hcell⟩ := World.cells?_some h2
      obtain ⟨c0, c1, c2, c3, c4, c5, rfl⟩ : ∃ c0 c1 c2 c3 c4 c5, cs' = [c0, c1, c2, c3, c4, c5] := by
        match cs', hlen with
        | [c0, c1, c2, c3, c4, c5], _ => exact ⟨c0, c1, c2, c3, c4, c5, rfl⟩
      obtain ⟨y0, y1, y2, n', _, _, g0, g1, g2⟩ := Deep.trod_struct3 Tryd.underlying45 h3
      simp only [hc3, hc38, hc43] at g0 g1 g2
      obtain ⟨k, e0, _, _⟩ := DataW.trod_int Tryd.underlying3 g0
      simp at e0
      subst e0
      obtain ⟨z0, z1, z2, z3, n2, _, q0, q1, q2, q3⟩ := trod_array4 (e := 36) Tryd.underlying38 hc36 g1
      obtain ⟨m0, l0, rfl⟩ := one_u64 q0
      obtain ⟨m1, l1, rfl⟩ := one_u64 q1
      obtain ⟨m2, l2, rfl⟩ := one_u64 q2
      obtain ⟨m3, l3, rfl⟩ := one_u64 q3
      obtain ⟨ks, hks⟩ := open_kids g2
      refine ⟨⟨k, m0, m1, m2, m3, ks⟩, ⟨l0, l1, l2, l3⟩, c5, hks, fun j u hu => ?_⟩
      have hj : j < 6 := by have := (List.getElem?_eq_some_iff.1 hu).1; simpa [encN] using this
      rw [hcell j hj]
      exact hu
    subst hlen
    refine ⟨l, ⟨some a, sc, rfl, (fun e => by cases e), fun a' ea hne => ?_⟩, fun x hx => ?_, by unfold maxLen at hcap; omega⟩
    · obtain rfl := Option.some.inj ea
      have h0 : 0 < l.length := List.length_pos_iff.2 hne
      obtain ⟨_, kv0, _, hk0⟩ := hk 0 h0
      have hc0 := hk0 0 _ rfl
      have e0 : (a.add (0 * 6)).add 0 = a := by simp [Addr.add]
      rw [e0] at hc0
      have hsp := World.cell?_spot hc0
      have hlt := block_lt_of_cell hc0
      obtain ⟨B, off, spot⟩ := a
      simp only at hsp hlt
      subst hsp
      refine ⟨B, off, rfl, hlt, fun i x hx => ?_⟩
      have hi := lt_of_some hx
      rw [List.getElem?_eq_getElem hi] at hx
      obtain ⟨_, kv, hkv, hkc⟩ := hk i hi
      rw [Option.some.inj hx] at hkv hkc
      have H : ∀ j v, (encN ⟨x, kv⟩)[j]? = some v → w.cell? ⟨B, off + i * 6 + j, none⟩ = some v := fun j v hv => by
        have := hkc j v hv
        rwa [addr_add, addr_add] at this
      exact ⟨H 0 _ rfl, H 1 _ rfl, H 2 _ rfl, H 3 _ rfl, H 4 _ rfl, kv, H 5 _ rfl, hkv⟩
    · obtain ⟨i, hi⟩ := List.getElem?_of_mem hx
      have hil := lt_of_some hi
      rw [List.getElem?_eq_getElem hil] at hi
      rw [← Option.some.inj hi]
      exact (hk i hil).1
end
end Go.Proofs.YtpbkgegkjglibaaDoor
