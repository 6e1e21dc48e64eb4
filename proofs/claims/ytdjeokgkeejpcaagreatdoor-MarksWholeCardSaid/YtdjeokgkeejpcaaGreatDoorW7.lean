/- Marks: ref16.Copy 23, Bare 9. -/
import Derived.Test.YtdjeokgkeejpcaaGreatDoorW4
import Derived.Test.YtdjeokgkeejpcaaGreatDoorM18
import Derived.Maps.AppendAt
import Derived.OwnWalk
import Derived.Deep.Onto
import Derived.Test.YtdjeokgkeejpcaaGreatDoorRg8
namespace Go.Proofs.YtdjeokgkeejpcaaGreatDoor
open Go Go.Proofs Go.RowKit
attribute [local go_sem] Oper.semAt_some
theorem own_type {w : World} {base : Nat} {e : TypeId} {size n : Nat} {v : Value} {xs : List Value} (h : w.ownsRow base e size v n xs) (g : Nat) (hg : v.ownBlock = some g) : ∃ cur, w.heap[g]? = some (.cells cur e (0, 0)) := by
  rcases h.2 with ⟨rfl, _⟩ | ⟨g', cap, cur, rfl, _, hh, _⟩
  · cases hg
  · cases hg; exact ⟨cur, hh⟩
theorem own_same {w w' : World} {base : Nat} {e : TypeId} {size n : Nat} {v : Value} {xs : List Value} (h : w.ownsRow base e size v n xs) (he : ∀ g, v.ownBlock = some g → w'.heap[g]? = w.heap[g]?) : w'.ownsRow base e size v n xs := by
  refine ⟨h.1, ?_⟩
  rcases h.2 with ⟨rfl, hn⟩ | ⟨g, cap, cur, rfl, hg, hh, rest⟩
  · exact .inl ⟨rfl, hn⟩
  · exact .inr ⟨g, cap, cur, rfl, hg, (he g rfl).trans hh, rest⟩
theorem not_own {w : World} {base : Nat} {e t : TypeId} {size n B : Nat} {v : Value} {xs : List Value} {cs : Array Value} (h : w.ownsRow base e size v n xs) (hB : w.heap[B]? = some (.cells cs t (0, 0))) (ht : t ≠ e) : some B ≠ v.ownBlock := fun hg => by
  obtain ⟨cur, hc⟩ := own_type h B hg.symm
  rw [hB] at hc
  cases hc
  exact ht rfl
theorem own_lt {w : World} {base : Nat} {e : TypeId} {size n : Nat} {v : Value} {xs : List Value} (h : w.ownsRow base e size v n xs) (g : Nat) (hg : v.ownBlock = some g) : g < w.heap.size := by
  obtain ⟨cur, hc⟩ := own_type h g hg
  exact (Array.getElem?_eq_some_iff.1 hc).1
theorem own_low {w w' : World} {base q : Nat} {e : TypeId} {size n : Nat} {v : Value} {xs : List Value} (h : w.ownsRow base e size v n xs) (hb : Below q w w') (hq : w.heap.size ≤ q) : w'.ownsRow base e size v n xs :=
  own_same h fun g hg => hb.block g (Nat.lt_of_lt_of_le (own_lt h g hg) hq)
/-- Blocks of other types are as they were. -/
def SBut (t : TypeId) (W W' : World) : Prop := ∀ (j : Nat) (cs : Array Value) (e : TypeId), W.heap[j]? = some (.cells cs e (0, 0)) → e ≠ t → W'.heap[j]? = W.heap[j]?
theorem own_sbut {W W' : World} {base : Nat} {e t : TypeId} {size n : Nat} {v : Value} {xs : List Value} (h : W.ownsRow base e size v n xs) (hs : SBut t W W') (hne : e ≠ t) : W'.ownsRow base e size v n xs :=
  own_same h fun g hg => by obtain ⟨cs, hc⟩ := own_type h g hg; exact hs g cs e hc hne
theorem sbut_grown {W W' : World} {base : Nat} {t : TypeId} {size n : Nat} {v : Value} {xs : List Value} (h : W.ownsRow base t size v n xs) (hg : W.grownBy W' v.ownBlock) : SBut t W W' :=
  fun j _ _ hj hne => hg.block j (Array.getElem?_eq_some_iff.1 hj).1 (not_own h hj hne)
theorem sbut_block {W W' : World} {B : Nat} {t : TypeId} {cs : Array Value} (hB : W.heap[B]? = some (.cells cs t (0, 0))) (h : ∀ j, j ≠ B → W'.heap[j]? = W.heap[j]?) : SBut t W W' :=
  fun j cs' e hj hne => h j fun e' => by subst e'; rw [hB] at hj; cases hj; exact hne rfl
theorem addr_at (B o j : Nat) : (⟨B, o, none⟩ : Addr).add j = ⟨B, o + j, none⟩ := by unfold Addr.add; split <;> simp_all
/-- A row of ints of one's own. -/
def IOwn (W : World) (base : Nat) (v : Value) (l : List Int) : Prop := W.ownsRow base 3 1 v l.length (l.map (Value.int .i64))
theorem IOwn.form {W : World} {base : Nat} {v : Value} {l : List Int} (h : IOwn W base v l) : ∃ la c, v = .slice la l.length c := by
  rcases h.2 with ⟨e, h0⟩ | ⟨g, cap, cur, e, _⟩
  · exact ⟨none, 0, by rw [h0]; exact e⟩
  · exact ⟨_, _, e⟩
theorem IOwn.row {W : World} {base : Nat} {v : Value} {l : List Int} (h : IOwn W base v l) : ∃ la c, v = .slice la l.length c ∧ IRow W la l := by
  have h' := h
  rcases h.2 with ⟨e, h0⟩ | ⟨g, cap, cur, e, _, hh, _⟩
  · exact ⟨none, 0, by rw [h0]; exact e, fun hn => absurd (List.length_eq_zero_iff.1 h0) hn⟩
  · subst e
    refine ⟨_, _, rfl, fun _ => ⟨g, 0, rfl, (Array.getElem?_eq_some_iff.1 hh).1, fun j hj => ?_⟩⟩
    rw [Nat.zero_add, World.ownsRow.cellAt h' j (by omega), List.getElem?_map, List.getElem?_eq_getElem hj]
    rfl
/-- A part and the header of its kids' row. -/
def encP (q : Pt × Value) : List Value := [.int .i64 q.1.sym, .int .i64 q.1.kind, .int .i64 q.1.frm, .int .i64 q.1.inn, .int .i64 q.1.too, .int .i64 q.1.look, q.2, .int .u64 (q.1.met : Nat)]
theorem flat_len (l : List (Pt × Value)) : (l.flatMap encP).length = l.length * 8 := by
  induction l with
  | nil => rfl
  | cons x l ih => rw [List.flatMap_cons, List.length_append, ih, List.length_cons]; simp only [encP, List.length_cons, List.length_nil]; omega
theorem flat_get : ∀ (l : List (Pt × Value)) (i : Nat) (h : i < l.length) (j : Nat), j < 8 → (l.flatMap encP)[i * 8 + j]? = (encP l[i])[j]?
  | x :: l, 0, _, j, hj => by
    rw [List.flatMap_cons, Nat.zero_mul, Nat.zero_add, List.getElem?_append_left (by simpa [encP] using hj)]
    rfl
  | x :: l, i + 1, h, j, hj => by
    have e : (encP x).length = 8 := rfl
    rw [List.flatMap_cons, List.getElem?_append_right (by rw [e]; omega), e, show (i + 1) * 8 + j - 8 = i * 8 + j by omega]
    exact flat_get l i (by simpa using h) j hj
def POwn (W : World) (base : Nat) (v : Value) (L : List (Pt × Value)) : Prop := W.ownsRow base 36 8 v L.length (L.flatMap encP)
theorem POwn.form {W : World} {base : Nat} {v : Value} {L : List (Pt × Value)} (h : POwn W base v L) : ∃ la c, v = .slice la L.length c := by
  rcases h.2 with ⟨e, h0⟩ | ⟨g, cap, cur, e, _⟩
  · exact ⟨none, 0, by rw [h0]; exact e⟩
  · exact ⟨_, _, e⟩
/-- Parts copied, their kids' rows with them. -/
structure Cp (W : World) (base : Nat) (v : Value) (L : List (Pt × Value)) : Prop where
  row : POwn W base v L
  kid : ∀ q, q ∈ L → IOwn W base q.2 q.1.kids
theorem Cp.low {W W' : World} {base q : Nat} {v : Value} {L : List (Pt × Value)} (h : Cp W base v L) (hb : Below q W W') (hq : W.heap.size ≤ q) : Cp W' base v L :=
  ⟨own_low h.row hb hq, fun q hm => own_low (h.kid q hm) hb hq⟩
theorem Cp.prow {W : World} {base : Nat} {v : Value} {L : List (Pt × Value)} (h : Cp W base v L) (hk : ∀ q, q ∈ L → q.1.kids.length ≤ 9223372036854775807) : ∃ la c, v = .slice la L.length c ∧ PRow W la (L.map Prod.fst) := by
  have h' := h.row
  rcases h.row.2 with ⟨e, h0⟩ | ⟨g, cap, cur, e, _, hh, _⟩
  · exact ⟨none, 0, by rw [h0]; exact e, fun hn => absurd (List.length_eq_zero_iff.1 h0) (by simpa using hn)⟩
  · subst e
    refine ⟨_, _, rfl, fun _ => ⟨g, 0, rfl, (Array.getElem?_eq_some_iff.1 hh).1, fun j hj => ?_⟩⟩
    have hj' : j < L.length := by simpa using hj
    have hm : L[j] ∈ L := List.getElem_mem hj'
    obtain ⟨la, c, e2, hr⟩ := (h.kid _ hm).row
    have hc : ∀ k, k < 8 → W.cell? ⟨g, 0 + j * 8 + k, none⟩ = (encP L[j])[k]? := fun k hk' => by
      rw [Nat.zero_add, World.ownsRow.cellAt h' (j * 8 + k) (by omega), flat_get _ _ hj' _ hk']
    rw [show encP L[j] = (ptC L[j].1 la c).toList by rw [encP, e2]; rfl] at hc
    rw [List.getElem_map]
    exact ⟨la, c, ⟨hc 0 (by decide), hc 1 (by decide), hc 2 (by decide), hc 3 (by decide), hc 4 (by decide), hc 5 (by decide), hc 6 (by decide), hc 7 (by decide)⟩, hr, hk _ hm⟩
theorem info36' : (Tryz.prog.info? 36).map (fun i => (i.zero, i.size, i.bytes)) = some (some (.agg #[.int .i64 0, .int .i64 0, .int .i64 0, .int .i64 0, .int .i64 0, .int .i64 0, .slice none 0 0, .int .u64 0]), 8, 80) := by kernel_rfl
theorem oper_append_i {o : Oper} {a : Act} {K : Act → World → Prop} {Q : Exit → Act → World → Prop} {W : World} (base : Nat) (v : Value) (l : List Int) (y : Int) (s x : Operand)
    (ho : o.op = .call { callee := .builtin .append, args := #[s, x], argTypes := #[27, 27] }) (hs : a.eval s = v) (hown : IOwn W base v l) (B c : Nat) (hx : a.eval x = .slice (some ⟨B, 0, none⟩) 1 c)
    (hc : W.cell? ⟨B, 0, none⟩ = some (.int .i64 y)) (hl : l.length ≤ 100000) (hb : base ≤ W.heap.size)
    (h : ∀ v' w', IOwn w' base v' (l ++ [y]) → W.grownBy w' v.ownBlock → K (a.put o.dst v') w') : o.wp Tryz.prog a W K Q := by
  obtain ⟨ti, hi, hz0, hz1, hz2⟩ := info_parts info3'
  obtain ⟨v', w', hr, h2, h3, h4, h5⟩ := run_append_own_at (P := Tryz.prog) W base 27 o.type 3 ti (.int .i64 0) 1 8 Tryz.underlying27 hi hz0 hz1 hz2 rfl (by decide) v l.length _ hown ⟨B, 0, none⟩ 1 c [.int .i64 y] rfl
    (fun j u hj => by
      rw [addr_at, Nat.zero_add]
      cases j with
      | zero => simp at hj; rw [← hj]; exact hc
      | succ j => simp at hj) (fun u hu => by rw [List.mem_singleton.1 hu]; rfl) (by unfold maxLen; omega) (by omega) hb
  unfold Oper.wp execOp
  simp only [ho, resolve, invoke, builtin, Sem.run_bind, Sem.run_pure, Result.andThen_ok, List.map_toArray, List.map_cons, List.map_nil, hs, hx, hr]
  refine h v' w' ?_ h3
  unfold IOwn
  rw [List.length_append, List.map_append]
  exact h2
theorem append_p {ops : Array Oper} {rest : List Oper} {o : Oper} {a : Act} {Q : Exit → Act → World → Prop} (W : World) (base : Nat) (v : Value) (L : List (Pt × Value)) (q : Pt × Value) (hgd : o.guard = none) (s x : Operand)
    (ho : o.op = .call { callee := .builtin .append, args := #[s, x], argTypes := #[22, 22] }) (hs : a.eval s = v) (hown : POwn W base v L) (B c : Nat) (hx : a.eval x = .slice (some ⟨B, 0, none⟩) 1 c)
    (hc : Bx W B 36 (encP q).toArray) (hq : q.2.oneCell' = true) (hl : L.length ≤ 100000) (hb : base ≤ W.heap.size)
    (h : ∀ v' w', POwn w' base v' (L ++ [q]) → W.grownBy w' v.ownBlock → wpList Tryz.prog ops Q rest (a.put o.dst v') w') : wpList Tryz.prog ops Q (o :: rest) a W := by
  obtain ⟨ti, hi, hz0, hz1, hz2⟩ := info_parts info36'
  refine wpList_append_own_at (P := Tryz.prog) (w := W) hgd s x 22 ho base 36 ti (.agg #[.int .i64 0, .int .i64 0, .int .i64 0, .int .i64 0, .int .i64 0, .int .i64 0, .slice none 0 0, .int .u64 0]) 8 80 Tryz.underlying22 hi hz0 hz1 hz2 rfl (by decide) v L.length _ hs hown ⟨B, 0, none⟩ 1 c (encP q) hx rfl
    (fun j u hj => by rw [addr_at, Nat.zero_add, hc.cell]; simpa using hj) (fun u hu => by
      simp only [encP, List.mem_cons, List.not_mem_nil, or_false] at hu
      rcases hu with rfl | rfl | rfl | rfl | rfl | rfl | rfl | rfl <;> first | rfl | exact hq) (by unfold maxLen; omega) (by omega) hb ?_
  intro v' w' h1 h2 _ _
  refine h v' w' ?_ h2
  unfold POwn
  rw [List.length_append, List.flatMap_append]
  simpa using h1
end Go.Proofs.YtdjeokgkeejpcaaGreatDoor

namespace Go.Proofs.YtdjeokgkeejpcaaGreatDoor
open Go Go.Proofs Go.RowKit
attribute [local go_sem] Oper.semAt_some
def inf51_10 : List AX.Inf := [⟨0, 1073741824, 128, true⟩, ⟨1, 2147483648, 1073741824, true⟩, ⟨0, 4294967296, 1, true⟩, ⟨0, 8589934592, 64, true⟩, ⟨12, 17179869184, 12884901888, true⟩, ⟨16, 34359738368, 17179869184, true⟩, ⟨32, 68719476736, 34359738368, true⟩, ⟨0, 137438953472, 256, true⟩, ⟨192, 274877906944, 206158430208, true⟩, ⟨256, 549755813888, 274877906944, true⟩, ⟨0, 1099511627776, 2, true⟩, ⟨1536, 2199023255552, 1649267441664, true⟩, ⟨2048, 4398046511104, 2199023255552, false⟩, ⟨4098, 8796093022208, 4400193994752, false⟩, ⟨16383, 17592186044416, 128, true⟩, ⟨32767, 0, 26388279066624, false⟩]
theorem encP_set (p : Pt) (kv v : Value) : (encP (p, kv)).toArray.setIfInBounds 6 v = (encP (p, v)).toArray := rfl
/-- What Copy leaves. -/
def CpPost (l : List Pt) (w : World) (e : Ending) (w' : World) : Prop := ∃ v L, e = .returned v ∧ L.map Prod.fst = l ∧ Cp w' w.heap.size v L ∧ Below w.heap.size w w'
set_option maxRecDepth 100000 in
set_option maxHeartbeats 16000000 in
theorem moved51_k (l : List Pt) (hl : l.length ≤ 120) (hT : Tr l) (la : Option Addr) (c : Nat) (w : World) (hR : PRow w la l) :
    Calls Tryz.prog 51 #[.slice la l.length c, .int .i64 0] w (CpPost l w) := by
  have hT := Lib.hid hT
  go_enter Tryz.func51, Tryz.ntmps51
  go_wp2_with fail
  go_loopw [5, 6] (fun vo i wr => ∃ (n : Nat) (L : List (Pt × Value)), n ≤ l.length ∧ i = .int .i64 n ∧ Hid (L.map Prod.fst = l.take n) ∧ Cp wr w.heap.size vo L ∧ Below w.heap.size w wr) (fun _ i _ => l.length - (intOf i).toNat)
  case atStart => exact ⟨0, [], Nat.zero_le _, rfl, Lib.hid rfl, ⟨World.ownsRow_nil _ _ _ _, fun q h => by cases h⟩, Below.refl _ _⟩
  case round =>
    obtain ⟨n, L, hn, rfl, hL, hC, hB⟩ := hrel
    obtain ⟨V, rfl⟩ : ∃ V : World, V = wr := ⟨_, rfl⟩
    have hn0 : (0 : Int) ≤ (n : Int) := by omega
    have hLn : L.length = n := by
      have := congrArg List.length hL.out
      rw [List.length_map, List.length_take] at this
      omega
    by_cases hlt : n < l.length
    · have hn1 : (n : Int) < (l.length : Int) := by omega
      obtain ⟨b, off, ka, kc, rfl, hbl, z, hK, hkl⟩ := (hR.below hB (Nat.le_refl _)).at hlt
      rw [← pt_get hlt] at z hK hkl
      have hnext : Hid (∀ kv, (L ++ [(pt l n, kv)]).map Prod.fst = l.take (n + 1)) := Lib.hid fun kv => by
        rw [List.map_append, hL.out, List.take_succ_eq_append_getElem hlt, pt_get hlt]; rfl
      have hkid : Hid (∀ m, m < (pt l n).kids.length → ∃ cc : Nat, (pt l n).kids[m]? = some (cc : Int) ∧ cc < 1000000) := Lib.hid fun m hm => by
        obtain ⟨cc, h1, _, h2⟩ := hT.out.kid hlt (List.getElem_mem hm)
        exact ⟨cc, by rw [List.getElem?_eq_getElem hm, h1], by omega⟩
      obtain ⟨p, hp⟩ : ∃ p, p = pt l n := ⟨_, rfl⟩
      rw [← hp] at z hK hkl hnext hkid
      have hkn : p.kids.length ≤ 120 := by
        have h1 := hT.out.sum
        rw [kidsN_add l (Nat.zero_le n) (Nat.le_of_lt hlt), kidsN_add l (Nat.le_succ n) hlt, kidsN_one l hlt, ← hp] at h1
        omega
      clear hp hT hL hR
      obtain ⟨z0, z1, z2, z3, z4, z5, z6, z7⟩ := z
      obtain ⟨U, hU⟩ : ∃ U, U = V.heap.size := ⟨_, rfl⟩
      have hX := Bx.new V 36 #[.int .i64 0, .int .i64 0, .int .i64 0, .int .i64 0, .int .i64 0, .int .i64 0, .slice none 0 0, .int .u64 0]
      have hA := (Below.refl _ V).alloc (Nat.le_refl _) (.cells #[.int .i64 0, .int .i64 0, .int .i64 0, .int .i64 0, .int .i64 0, .int .i64 0, .slice none 0 0, .int .u64 0] 36)
      go_upto_region 6 with ((with_reducible refine st_id ?_); refine AX.wpList_storeBox (vs := [.int .i64 p.sym, .int .i64 p.kind, .int .i64 p.frm, .int .i64 p.inn, .int .i64 p.too, .int .i64 p.look, .slice ka p.kids.length kc, .int .u64 (p.met : Nat)]) rfl rfl sz36 hX rfl rfl ?_; rintro W3 g3 g4 g5)
      have hB3 := hA.trans (AX.below_turn (Nat.le_refl _) (.inl (Bx.lt g3)) g4 g5)
      rw [← hU] at hB3 g3 ⊢
      have hUw : w.heap.size ≤ U := by rw [hU]; exact hB.size
      have hbU : b < U := by rw [hU]; exact hbl
      have HU := Lib.hid hU
      clear hU
      have hg3 : Hid (Bx W3 U 36 #[.int .i64 p.sym, .int .i64 p.kind, .int .i64 p.frm, .int .i64 p.inn, .int .i64 p.too, .int .i64 p.look, .slice ka p.kids.length kc, .int .u64 (p.met : Nat)]) := Lib.hid g3
      clear g3
      go_upto_region 7 with ((with_reducible refine st_id ?_); refine AX.wpList_storeCell (o := 6) (v := .slice none 0 0) rfl rfl rfl sz27 hg3.out (by simp) ?_; rintro W4 f3 f4 f5)
      have hB4 := hB3.trans (AX.below_turn (Nat.le_refl _) (.inl (Bx.lt f3)) f4 f5)
      have hU4 : Bx W4 U 36 (encP (p, .slice none 0 0)).toArray := f3
      have hC4 := hC.low hB4 (by rw [HU.out]; exact Nat.le_refl _)
      have hBw : Below w.heap.size w W4 := hB.trans (hB4.mono hUw)
      clear hX hA hg3 g4 g5 f3 f4 f5 hB3 z0 z1 z2 z3 z4 z5 z7
      go_wp2_with fail
      go_loopw [8] (fun k wq => ∃ (m : Nat) (kv : Value), m ≤ p.kids.length ∧ k = .int .i64 m ∧ Bx wq U 36 (encP (p, kv)).toArray ∧ IOwn wq (U + 1) kv (p.kids.take m) ∧ Below U V wq) (fun k _ => p.kids.length - (intOf k).toNat)
      case atStart => exact ⟨0, .slice none 0 0, Nat.zero_le _, rfl, hU4, World.ownsRow_nil _ _ _ _, hB4⟩
      case round =>
        obtain ⟨m, kv, hm, rfl, hbx, hI, hBq⟩ := hrel
        have hm0 : (0 : Int) ≤ (m : Int) := by omega
        have z6' : wr.cell? ⟨b, off + n * 8 + 6, none⟩ = some (.slice ka p.kids.length kc) := (hBq.cell (p := ⟨b, off + n * 8 + 6, none⟩) hbU).trans z6
        have hml : (p.kids.take m).length = m := by rw [List.length_take]; omega
        obtain ⟨kl, kcap, hkv⟩ := hI.form
        rw [hml] at hkv
        subst hkv
        by_cases hlm : m < p.kids.length
        · have hm1 : (m : Int) < (p.kids.length : Int) := by omega
          obtain ⟨kb, ko, rfl, hkb, q3⟩ := hK.at hlm
          obtain ⟨x, hx, hxb⟩ := hkid.out m hlm
          have htk : Hid (p.kids.take m ++ [(x : Int)] = p.kids.take (m + 1)) := Lib.hid (by
            rw [List.getElem?_eq_getElem hlm] at hx
            rw [List.take_succ_eq_append_getElem hlm, Option.some.inj hx])
          rw [show p.kids[m] = (x : Int) by rw [List.getElem?_eq_getElem hlm] at hx; exact Option.some.inj hx] at q3
          have hkbU : kb < U := by rw [HU.out]; exact hkb
          have q3' : wr.cell? ⟨kb, ko + m, none⟩ = some (.int .i64 x) := (hBq.cell (p := ⟨kb, ko + m, none⟩) hkbU).trans q3
          clear hx
          have hq3 := Lib.hid q3
          have hz6 := Lib.hid z6
          clear q3
          go_upto_region 10 with fail
          obtain ⟨C, hCi, hCo⟩ : ∃ C : World → Prop, (∀ Z, C Z → Bx Z U 36 (encP (p, .slice kl m kcap)).toArray ∧ Z.cell? ⟨b, off + n * 8 + 6, none⟩ = some (.slice (some ⟨kb, ko, none⟩) p.kids.length kc) ∧ Z.cell? ⟨kb, ko + m, none⟩ = some (.int .i64 x)) ∧ (∀ Z, Bx Z U 36 (encP (p, .slice kl m kcap)).toArray ∧ Z.cell? ⟨b, off + n * 8 + 6, none⟩ = some (.slice (some ⟨kb, ko, none⟩) p.kids.length kc) ∧ Z.cell? ⟨kb, ko + m, none⟩ = some (.int .i64 x) → C Z) := ⟨_, fun _ h => h, fun _ h => h⟩
          have hbd := (Below.refl wr.heap.size wr).drew
          have hW0 : C wr.drew := hCo _ ⟨hbx, z6', q3'⟩
          have hB0 : Below U V wr.drew := hBq.drew
          have hbx0 : Bx wr.drew U 36 (encP (p, .slice kl m kcap)).toArray := hbx
          have hI0 : IOwn wr.drew (U + 1) (.slice kl m kcap) (p.kids.take m) := hI
          haveI : Inhabited (AX.CW C) := ⟨⟨_, hW0⟩⟩
          haveI : Inhabited (AX.CW fun _ => True) := ⟨⟨w, trivial⟩⟩
          have a0 : ∀ p' : AX.CW C, p'.W.cell? ⟨U, 6, none⟩ = some (.slice kl m kcap) := fun p' => (hCi _ p'.h).1.cell 6
          have a1 := fun p' : AX.CW C => (hCi _ p'.h).2.1
          have a2 := fun p' : AX.CW C => (hCi _ p'.h).2.2
          have HC := Lib.hid hCo
          have hx0 : (0 : Int) ≤ (x : Int) := by omega
          have hx1 : (x : Int) < 1000000 := by omega
          clear hCo hCi
          refine AX.region_mixL (C := fun W => ∃ p : AX.CW C, W = p.W) (CT := fun W => ∃ p : AX.CW fun _ => True, W = p.W) 15 [(0, 0), (1, 0), (2, 0), (3, 0), (4, 0), (5, 0), (6, 0), (7, 0), (8, 0), (9, 0), (10, 0), (11, 0), (12, 2), (13, 2), (14, 0), (15, 2)] inf51_10 (by kernel_rfl) (by kernel_rfl) (by kernel_rfl) (by kernel_rfl) (by decide) (by kernel_rfl) (by kernel_rfl) (by intro c a d v w h; cases d <;> exact h) ⟨⟨⟨_, trivial⟩, rfl⟩, ⟨⟨_, hW0⟩, rfl⟩⟩ ?_
          clear hW0 hbd hbx hI hBq z6' q3'
          generalize wr.drew = W1 at *
          repeat (refine AX.mixL_own _ (by rfl) ?_; go_big_quiet_step (fail); refine wpQuiet_nil ?_)
          refine AX.mixL_op _ (by rfl) (by rfl) ?_
          unfold Oper.wp
          go_simp
          have hB7 := (Bx.new W1 3 #[.int .i64 x]).cell 0
          have hb7 : Below W1.heap.size W1 (W1.alloc (.cells #[.int .i64 x] 3)) := (Below.refl _ _).alloc (Nat.le_refl _) _
          have hU1 : U + 1 ≤ W1.heap.size := hbx0.lt
          have h7 : Below U V (W1.alloc (.cells #[.int .i64 x] 3)) := hB0.trans (hb7.mono (by omega))
          have hbx7 := hbx0.below hb7 hbx0.lt
          have hI7 : IOwn (W1.alloc (.cells #[.int .i64 x] 3)) (U + 1) (.slice kl m kcap) (p.kids.take m) := own_low hI0 hb7 (Nat.le_refl _)
          have hz7 : U + 1 ≤ (W1.alloc (.cells #[.int .i64 x] 3)).heap.size := Nat.le_trans hU1 hb7.size
          obtain ⟨Bn, hBn⟩ : ∃ Bn, Bn = W1.heap.size := ⟨_, rfl⟩
          rw [← hBn] at hB7 ⊢
          clear hBn hbx0 hI0 hb7 hU1
          generalize W1.alloc (.cells #[.int .i64 x] 3) = W7 at *
          have hcl : ∀ Z, Below U V Z → Bx Z U 36 (encP (p, .slice kl m kcap)).toArray → C Z := fun Z hz hbz => HC.out Z ⟨hbz, (hz.cell (p := ⟨b, off + n * 8 + 6, none⟩) hbU).trans hz6.out, (hz.cell (p := ⟨kb, ko + m, none⟩) hkbU).trans hq3.out⟩
          refine ⟨⟨⟨⟨W7, trivial⟩, rfl⟩, fun _ => ⟨⟨W7, hcl _ h7 hbx7⟩, rfl⟩⟩, ?_⟩
          simp only [show Nat.beq 12 15 = false from rfl]
          refine AX.mixL_op _ (by rfl) (by rfl) ?_
          refine oper_append_i (U + 1) (.slice kl m kcap) (p.kids.take m) x _ _ rfl rfl hI7 Bn 1 rfl hB7 (by omega) hz7 ?_
          intro v' W8 hI8 hg8
          have h8 := (Below.refl (U + 1) W7).grown hg8 hz7 fun k hk => (hI7.lt k hk).1
          have hbx8 := hbx7.below h8 (Nat.lt_succ_self U)
          have h8U : Below U V W8 := h7.trans (h8.mono (Nat.le_succ U))
          refine ⟨⟨⟨⟨W8, trivial⟩, rfl⟩, fun _ => ⟨⟨W8, hcl _ h8U hbx8⟩, rfl⟩⟩, ?_⟩
          rw [htk.out] at hI8
          clear hI7 hg8 h8 hbx7 h7 hB7 hz7
          simp only [Act.put, List.setIfInBounds_toArray, List.set_cons_succ, List.set_cons_zero]
          repeat (refine AX.mixL_own _ (by rfl) ?_; go_big_quiet_step (fail); refine wpQuiet_nil ?_)
          refine AX.mixL_op _ (by rfl) (by rfl) ?_
          obtain ⟨lv, cv, hv'⟩ := hI8.form
          refine AX.oper_storeCell (o := 6) (v := v') rfl rfl (by rw [hv']; rfl) sz27 hbx8 (by simp [encP]) ?_
          rintro W9 i3 i4 i5
          have hbx9 : Bx W9 U 36 (encP (p, v')).toArray := i3
          have h9 : Below U V W9 := h8U.trans (AX.below_turn (Nat.le_refl _) (.inl hbx9.lt) i4 i5)
          have hI9 : IOwn W9 (U + 1) v' (p.kids.take (m + 1)) := own_same hI8 fun g hg => i4 g (by have := (hI8.lt g hg).1; omega)
          refine ⟨⟨⟨⟨W9, trivial⟩, rfl⟩, fun h => by cases h⟩, ?_⟩
          clear h8U hbx8 hI8 HC hcl i3 i4 i5
          unfold AX.wpMixL
          go_wp2_with fail
          go_roundw
          case rel => exact ⟨m + 1, v', by omega, by simp, hbx9, hI9, h9⟩
          case measure => simp [intOf]; omega
        · have hm1 : ¬ (m : Int) < (p.kids.length : Int) := by omega
          obtain rfl : m = p.kids.length := by omega
          rw [List.take_length] at hI
          have hq : Bx wr U 36 #[.int .i64 p.sym, .int .i64 p.kind, .int .i64 p.frm, .int .i64 p.inn, .int .i64 p.too, .int .i64 p.look, .slice kl p.kids.length kcap, .int .u64 (p.met : Nat)] := hbx
          obtain ⟨x0, x1, x2, x3, x4, x5, x6, x7⟩ := hq.eight
          have hCr := hC.low hBq (by rw [HU.out]; exact Nat.le_refl _)
          have hA := (Below.refl _ wr).alloc (Nat.le_refl _) (.cells (encP (p, .slice kl p.kids.length kcap)).toArray 36)
          have hnb := Bx.new wr 36 (encP (p, .slice kl p.kids.length kcap)).toArray
          have hCA := hCr.low hA (Nat.le_refl _)
          have hIA : IOwn (wr.alloc (.cells (encP (p, .slice kl p.kids.length kcap)).toArray 36)) (U + 1) (.slice kl p.kids.length kcap) p.kids := own_low hI hA (Nat.le_refl _)
          have hBA : Below w.heap.size w (wr.alloc (.cells (encP (p, .slice kl p.kids.length kcap)).toArray 36)) := (hB.trans (hBq.mono hUw)).trans (hA.mono (Nat.le_trans hUw (Nat.le_of_lt hbx.lt)))
          obtain ⟨lo, co, hvo⟩ := hCA.row.form
          clear hbx hC hC4 hCr hA hI hq
          go_wp2_with (at_builtin; refine append_p _ w.heap.size _ L (p, .slice kl p.kids.length kcap) rfl _ _ rfl rfl hCA.row wr.heap.size 1 rfl hnb rfl (by omega) hBA.size ?_; intro v' W9 hP9 hg9)
          have h9 := hBA.trans ((Below.refl w.heap.size _).grown hg9 hBA.size fun k hk => (hCA.row.lt k hk).1)
          have hC9 : Cp W9 w.heap.size v' (L ++ [(p, .slice kl p.kids.length kcap)]) := ⟨hP9, fun q hm => by
            rcases List.mem_append.1 hm with hm | hm
            · exact own_sbut (hCA.kid q hm) (sbut_grown hCA.row hg9) (by decide)
            · rw [List.mem_singleton.1 hm]
              exact own_sbut (World.ownsRow.mono hIA (by omega)) (sbut_grown hCA.row hg9) (by decide)⟩
          clear hP9 hg9 hCA hIA hBA hnb
          go_roundw
          case rel => exact ⟨n + 1, _, by omega, by simp, Lib.hid (hnext.out _), hC9, h9⟩
          case measure => simp [intOf]; omega
    · have hn1 : ¬ (n : Int) < (l.length : Int) := by omega
      have hLe : L.map Prod.fst = l := by rw [hL.out, List.take_of_length_le (by omega)]
      go_wp2_with fail
      exact bodyPost_ret (v := _) (by simp [results, Tryz.results51, go_sem]) rfl ⟨_, L, rfl, hLe, hC, hB⟩
end Go.Proofs.YtdjeokgkeejpcaaGreatDoor

namespace Go.Proofs.YtdjeokgkeejpcaaGreatDoor
open Go Go.Proofs Go.RowKit
attribute [local go_sem] Oper.semAt_some
theorem copy23_k (l : List Pt) (hl : l.length ≤ 120) (hT : Tr l) (la : Option Addr) (c : Nat) (w : World) (hR : PRow w la l) : Calls Tryz.prog 23 #[.slice la l.length c] w (CpPost l w) := by
  have h51 := moved51_k l hl hT la c w hR
  go_enter Tryz.func23, Tryz.ntmps23
  go_wp2_with (go_at_call 51; ((with_reducible refine h51.mono ?_); rintro e W1 ⟨v, L, rfl, h1, h2, h3⟩))
  exact bodyPost_ret (v := v) (by simp [results, Tryz.results23, go_sem]) rfl ⟨v, L, rfl, h1, h2, h3⟩
/-- A part with another mark of what met it. -/
def metQ (m : Nat) (q : Pt × Value) : Pt × Value := ({ q.1 with met := m }, q.2)
def metP (m : Nat) (p : Pt) : Pt := { p with met := m }
theorem flat_met (m : Nat) : ∀ (L : List (Pt × Value)) (i : Nat) (h : i < L.length), (L.flatMap encP).set (i * 8 + 7) (.int .u64 (m : Nat)) = (L.set i (metQ m L[i])).flatMap encP
  | q :: L, 0, _ => by
    rw [List.flatMap_cons, List.set_cons_zero, List.flatMap_cons, List.set_append_left _ _ (by simp [encP])]
    rfl
  | q :: L, i + 1, h => by
    have e : (encP q).length = 8 := rfl
    rw [List.flatMap_cons, List.set_cons_succ, List.flatMap_cons, List.set_append_right _ _ (by rw [e]; omega), e, show (i + 1) * 8 + 7 - 8 = i * 8 + 7 by omega, flat_met m L i (by simpa using h)]
    rfl
theorem Cp.met {W : World} {base g cap : Nat} {L : List (Pt × Value)} (h : Cp W base (.slice (some ⟨g, 0, none⟩) L.length cap) L) {i : Nat} (hi : i < L.length) (m : Nat) :
    Cp (W.setCell ⟨g, i * 8 + 7, none⟩ (.int .u64 (m : Nat))) base (.slice (some ⟨g, 0, none⟩) L.length cap) (L.set i (metQ m L[i])) := by
  obtain ⟨h1, h2⟩ := World.ownsRow.stored h.row (i * 8 + 7) (.int .u64 (m : Nat))
  rw [flat_met m L i hi] at h1
  have hs : SBut 36 W (W.setCell ⟨g, i * 8 + 7, none⟩ (.int .u64 (m : Nat))) := sbut_grown h.row h2
  refine ⟨?_, fun q hq => ?_⟩
  · unfold POwn
    rw [List.length_set]
    exact h1
  · rcases List.mem_or_eq_of_mem_set hq with hq | rfl
    · exact own_sbut (h.kid q hq) hs (by decide)
    · exact own_sbut (show IOwn W base (metQ m L[i]).2 (metQ m L[i]).1.kids from h.kid L[i] (List.getElem_mem hi)) hs (by decide)
theorem Cp.at7 {W : World} {base g cap : Nat} {L : List (Pt × Value)} (h : Cp W base (.slice (some ⟨g, 0, none⟩) L.length cap) L) {i : Nat} (hi : i < L.length) : W.cell? ⟨g, i * 8 + 7, none⟩ = some (.int .u64 (L[i].1.met : Nat)) ∧ W.frozen? ⟨g, i * 8 + 7, none⟩ = false ∧ base ≤ g :=
  ⟨by rw [World.ownsRow.cellAt h.row _ (by omega), flat_get _ _ hi _ (by decide)]; rfl, World.ownsRow.frozenAt h.row _, (h.row.lt g rfl).1⟩
def bareK (L : List (Pt × Value)) (k : Nat) : List (Pt × Value) := (L.take k).map (metQ 0) ++ L.drop k
theorem bareK_len (L : List (Pt × Value)) (k : Nat) : (bareK L k).length = L.length := by unfold bareK; rw [List.length_append, List.length_map, ← List.length_append, List.take_append_drop]
theorem bareK_step (L : List (Pt × Value)) (k : Nat) (hk : k < L.length) : (bareK L k).set k (metQ 0 ((bareK L k)[k]'(by rw [bareK_len]; exact hk))) = bareK L (k + 1) := by
  have hl : ((L.take k).map (metQ 0)).length = k := by rw [List.length_map, List.length_take]; omega
  have hd : L.drop k = L[k] :: L.drop (k + 1) := List.drop_eq_getElem_cons hk
  have hg : (bareK L k)[k]'(by rw [bareK_len]; exact hk) = L[k] := by
    unfold bareK
    rw [List.getElem_append_right (by omega)]
    simp [Nat.min_eq_left (Nat.le_of_lt hk)]
  rw [hg]
  unfold bareK
  rw [List.set_append_right _ _ (by omega), hl, Nat.sub_self, hd, List.set_cons_zero, List.take_succ_eq_append_getElem hk, List.map_append]
  simp
theorem bareK_all (L : List (Pt × Value)) : bareK L L.length = L.map (metQ 0) := by unfold bareK; rw [List.take_length, List.drop_length, List.append_nil]
set_option maxRecDepth 100000 in
set_option maxHeartbeats 16000000 in
theorem bare9_k (l : List Pt) (hl : l.length ≤ 120) (hT : TrOk l) (la : Option Addr) (c : Nat) (w : World) (hR : PRow w la l) : Calls Tryz.prog 9 #[.slice la l.length c] w (CpPost (l.map (metP 0)) w) := by
  have h7 := check7_ok l hl hT la c w hR
  have h23 := fun W (hb : Below w.heap.size w W) => copy23_k l hl hT.tr la c W (hR.below hb (Nat.le_refl _))
  clear hT
  go_enter Tryz.func9, Tryz.ntmps9
  go_upto_region 4 with (first
    | (go_at_call 7; ((with_reducible refine h7.mono ?_); rintro e W1 ⟨rfl, hb1⟩))
    | (go_at_call 23; ((with_reducible refine (h23 _ hb1).mono ?_); rintro e W2 ⟨v, L, rfl, h1, h2, h3⟩)))
  have hC0 : Cp W2 w.heap.size v L := ⟨World.ownsRow.mono h2.row hb1.size, fun q hq => World.ownsRow.mono (h2.kid q hq) hb1.size⟩
  have hB0 := hb1.trans (h3.mono hb1.size)
  have hfin : Hid ((bareK L L.length).map Prod.fst = l.map (metP 0)) := Lib.hid (by
    rw [bareK_all, ← h1, List.map_map, List.map_map]; rfl)
  have hLb : L.length ≤ 120 := by
    have := congrArg List.length h1
    rw [List.length_map] at this
    omega
  clear h2 h3 h23 h7 h1
  obtain ⟨lo, co, rfl⟩ := hC0.row.form
  go_wp2_with fail
  go_loopw [4] (fun i wr => ∃ n : Nat, n ≤ L.length ∧ i = .int .i64 n ∧ Cp wr w.heap.size (.slice lo L.length co) (bareK L n) ∧ Below w.heap.size w wr) (fun i _ => L.length - (intOf i).toNat)
  case atStart => exact ⟨0, Nat.zero_le _, rfl, by simpa [bareK] using hC0, hB0⟩
  case round =>
    obtain ⟨n, hn, rfl, hC, hB⟩ := hrel
    have hn0 : (0 : Int) ≤ (n : Int) := by omega
    by_cases hlt : n < L.length
    · have hn1 : (n : Int) < (L.length : Int) := by omega
      have hlb := bareK_len L n
      have hlt' : n < (bareK L n).length := by omega
      obtain ⟨g, rfl⟩ : ∃ g, lo = some ⟨g, 0, none⟩ := by
        rcases hC.row.2 with ⟨_, h0⟩ | ⟨g, cap, cur, e, _⟩
        · omega
        · simp only [Value.slice.injEq] at e
          exact ⟨g, e.1⟩
      rw [← hlb] at hC
      have hm := hC.met hlt' 0
      rw [hlb, bareK_step L n hlt] at hm
      have hnext := Lib.hid hm
      obtain ⟨q1, q2, q3⟩ := hC.at7 hlt'
      have hBs := hB.setCell (p := ⟨g, n * 8 + 7, none⟩) q3 (.int .u64 (0 : Nat))
      obtain ⟨mt, hmt⟩ : ∃ z, z = ((bareK L n)[n]'hlt').1.met := ⟨_, rfl⟩
      rw [← hmt] at q1
      clear hmt hm hC hlb hlt'
      go_wp2_with fail
      go_roundw
      case rel => exact ⟨n + 1, by omega, by simp, hnext.out, hBs⟩
      case measure => simp [intOf]; omega
    · have hn1 : ¬ (n : Int) < (L.length : Int) := by omega
      have hC9 : Hid (Cp wr w.heap.size (.slice lo L.length co) (bareK L L.length)) := Lib.hid (by rw [show L.length = n by omega] at hC ⊢; exact hC)
      clear hC
      go_wp2_with fail
      exact bodyPost_ret (v := .slice lo L.length co) (by simp [results, Tryz.results9, go_sem]) rfl ⟨_, _, rfl, hfin.out, hC9.out, hB⟩
end Go.Proofs.YtdjeokgkeejpcaaGreatDoor
