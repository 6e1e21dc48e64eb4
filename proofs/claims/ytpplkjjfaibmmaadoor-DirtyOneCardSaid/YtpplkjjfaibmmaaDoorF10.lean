/- Dirty: Drop. -/
import Derived.Test.YtpplkjjfaibmmaaDoorF2
import Derived.Test.YtpplkjjfaibmmaaDoorSt4
namespace Go.Proofs.YtpplkjjfaibmmaaDoor
open Go Go.Proofs Go.RowKit
attribute [local go_sem] Oper.semAt_some
set_option maxHeartbeats 2000000 in
theorem isSlot_k (x : J) (S : Nat) (q : Int) (w : World) (hS : w.cell? ⟨S, 0, none⟩ = some (.int .i64 q)) (hl : S < w.heap.size) : Calls Tryd.prog 37 #[x.v, .pointer (some ⟨S, 0, none⟩)] w fun e w' => e = .returned (.bool (x.s == q)) ∧ Below w.heap.size w w' := by
  have hX := (Box5.new w x).cs
  have hB0 : Below w.heap.size w (w.alloc (.cells #[.int .i64 x.s, .int .i64 x.f, .int .i64 x.t, .int .i64 x.a, .int .i64 x.l] 38)) := (Below.refl _ w).alloc (Nat.le_refl _) _
  have hS1 := (hB0.cell (p := ⟨S, 0, none⟩) hl).trans hS
  obtain ⟨z0, z1, z2, z3, z4⟩ := hX
  unfold J.v
  go_enter Tryd.func37, Tryd.ntmps37
  go_wp2
  exact bodyPost_ret (v := .bool (x.s == q)) (by simp [results, Tryd.results37, go_sem]) rfl ⟨rfl, hB0⟩
set_option maxRecDepth 100000 in
set_option maxHeartbeats 4000000 in
theorem indexOf_k (l : List J) (hl : l.length ≤ 1000000) (S : Nat) (q : Int) (la : Option Addr) (c : Nat) (w : World) (hR : RRow w (.slice la l.length c) l) (hS : w.cell? ⟨S, 0, none⟩ = some (.int .i64 q)) (hSl : S < w.heap.size) :
    Calls Tryd.prog 53 #[.slice la l.length c, .func (.func 37) #[] #[.pointer (some ⟨S, 0, none⟩)]] w fun e w' => ((∃ (k : Nat) (h : k < l.length), e = .returned (.int .i64 k) ∧ l[k].s = q ∧ ∀ (j : Nat) (h : j < l.length), j < k → l[j].s ≠ q) ∨ (e = .returned (.int .i64 (-1)) ∧ ∀ (j : Nat) (h : j < l.length), l[j].s ≠ q)) ∧ Below w.heap.size w w' := by
  go_enter Tryd.func53, Tryd.ntmps53
  go_wp2
  obtain ⟨wo, rfl⟩ : ∃ wo : World, wo = w := ⟨_, rfl⟩
  go_loopw [8] (fun i wr => ∃ k : Nat, k ≤ l.length ∧ i = .int .i64 k ∧ Hid (∀ (j : Nat) (h : j < l.length), j < k → l[j].s ≠ q) ∧ Below wo.heap.size wo wr) (fun i _ => l.length - (intOf i).toNat)
  case atStart => exact ⟨0, Nat.zero_le _, rfl, Lib.hid (fun j _ h => by omega), Below.refl _ _⟩
  case round =>
    obtain ⟨k, hk, rfl, hH, hB⟩ := hrel
    have hRr := hR
    by_cases hlt : k < l.length
    · obtain ⟨la', c', hv, hn1, hn2⟩ := hRr
      cases hv
      cases la with
      | none =>
        have := hn1 rfl
        subst this
        simp at hlt
      | some ad =>
        obtain ⟨B, off, rfl, hBl, hrow⟩ := hn2 _ rfl
        have hBw : B < wr.heap.size := Nat.lt_of_lt_of_le hBl hB.size
        obtain ⟨y0, y1, y2, y3, y4⟩ := (hrow.below hB hBl) k hlt
        have h37 := isSlot_k l[k] S q wr ((hB.cell (p := ⟨S, 0, none⟩) hSl).trans hS) (Nat.lt_of_lt_of_le hSl hB.size)
        have HM : Hid (l[k].s ≠ q → ∀ (j : Nat) (h : j < l.length), j < k + 1 → l[j].s ≠ q) := Lib.hid (fun hq j h hj => by
          rcases Nat.lt_or_ge j k with h' | h'
          · exact hH.out j h h'
          · obtain rfl : j = k := by omega
            exact hq)
        obtain ⟨y, hy⟩ : ∃ y, y = l[k] := ⟨_, rfl⟩
        rw [← hy] at y0 y1 y2 y3 y4 h37 HM
        have HY := Lib.hid hy
        unfold J.v at h37
        have hk0 : (0 : Int) ≤ (k : Int) := by omega
        have hk1 : (k : Int) < (l.length : Int) := by omega
        clear hy hn1 hn2 hrow
        by_cases hq : y.s = q
        · have hqb : (y.s == q) = true := by simp [hq]
          rw [hqb] at h37
          have HQ := Lib.hid hq
          clear hq HM
          go_wp2_with (go_at_call 37; ((with_reducible refine h37.mono ?_); rintro e W1 ⟨rfl, hb1⟩))
          exact bodyPost_ret (v := .int .i64 k) (by simp [results, Tryd.results53, go_sem]) rfl ⟨.inl ⟨k, hlt, rfl, by rw [← HY.out]; exact HQ.out, hH.out⟩, hB.trans (hb1.mono hB.size)⟩
        · have hqb : (y.s == q) = false := by simp [hq]
          rw [hqb] at h37
          have HN := Lib.hid (HM.out hq)
          clear hq HM
          go_wp2_with (go_at_call 37; ((with_reducible refine h37.mono ?_); rintro e W1 ⟨rfl, hb1⟩))
          go_roundw
          case rel => exact ⟨k + 1, by omega, by simp, HN, hB.trans (hb1.mono hB.size)⟩
          case measure => simp [intOf]; omega
    · obtain rfl : k = l.length := by omega
      go_wp2
      exact bodyPost_ret (v := .int .i64 (-1)) (by simp [results, Tryd.results53, go_sem]) rfl ⟨.inr ⟨rfl, fun j h => hH.out j h h⟩, hB⟩
end Go.Proofs.YtpplkjjfaibmmaaDoor

namespace Go.Proofs.YtpplkjjfaibmmaaDoor
open Go Go.Proofs Go.RowKit
attribute [local go_sem] Oper.semAt_some
theorem zero38 (w : World) : (zeroValue 38).run Tryd.prog w = .ok (.agg #[.int .i64 0, .int .i64 0, .int .i64 0, .int .i64 0, .int .i64 0]) w := by kernel_rfl
theorem zeros_len (n : Nat) : (Builtin.zeroCells (Value.agg #[.int .i64 0, .int .i64 0, .int .i64 0, .int .i64 0, .int .i64 0]).cells n).toList.length = n * 5 := by
  simp [Builtin.zeroCells, Value.cells]
theorem zeros_one (n : Nat) : ∀ v ∈ (Builtin.zeroCells (Value.agg #[.int .i64 0, .int .i64 0, .int .i64 0, .int .i64 0, .int .i64 0]).cells n).toList, v.oneCell' = true := by
  intro v hv
  obtain ⟨i, hi, rfl⟩ := List.getElem_of_mem hv
  simp [Builtin.zeroCells, Value.cells]
  have : i % 5 < 5 := Nat.mod_lt _ (by decide)
  rcases (show i % 5 = 0 ∨ i % 5 = 1 ∨ i % 5 = 2 ∨ i % 5 = 3 ∨ i % 5 = 4 by omega) with h | h | h | h | h <;> simp [h, Value.oneCell']
theorem run_clear_j (w : World) (ty : TypeId) (b o n c : Nat) (cs : Array Value) (e : TypeId) (hb : w.heap[b]? = some (.cells cs e (0, 0))) (hle : o + n * 5 ≤ cs.size) :
    ∃ w', (Builtin.clear_ #[24] ty #[.slice (some ⟨b, o, none⟩) n c]).run Tryd.prog w = .ok (.tuple #[]) w' ∧ (∃ cs', w'.heap[b]? = some (.cells cs' e (0, 0)) ∧ cs'.size = cs.size ∧ ∀ j, j < o → cs'[j]? = cs[j]?) ∧ (∀ k, k ≠ b → w'.heap[k]? = w.heap[k]?) ∧ AX.Same w w' := by
  cases n with
  | zero => exact ⟨w, by simp [Builtin.clear_, run_underlying Tryd.underlying24], ⟨cs, hb, rfl, fun _ _ => rfl⟩, fun _ _ => rfl, AX.Same.refl w⟩
  | succ n =>
    have hz := zeros_len (n + 1)
    obtain ⟨w', e1, e2, e3, e4⟩ := AX.run_storeCells (P := Tryd.prog) (o := o) (Builtin.zeroCells (Value.agg #[.int .i64 0, .int .i64 0, .int .i64 0, .int .i64 0, .int .i64 0]).cells (n + 1)).toList 0 cs w hb (by rw [hz]; omega) (fun j _ => by omega) (zeros_one _)
    refine ⟨w', ?_, ⟨_, e2, by rw [AX.writeC_size], fun j hj => ?_⟩, e3, e4⟩
    · simp [Builtin.clear_, run_underlying Tryd.underlying24, e1]
    · rw [AX.writeC_get _ _ _ _ (by rw [hz]; omega), if_neg (by omega)]
end Go.Proofs.YtpplkjjfaibmmaaDoor

namespace Go.Proofs.YtpplkjjfaibmmaaDoor
open Go Go.Proofs Go.RowKit
attribute [local go_sem] Oper.semAt_some
theorem st_id {P : Program} {ops : Array Oper} {Q : Exit → Act → World → Prop} {a : Act} {w : World} {rest : List Oper} {t : TypeId} {x y : Operand} {ty : TypeId} {pos : String} {after : Array Edge} (h : wpList P ops Q ({ dst := none, op := .store t x y, type := ty, pos := pos, after := after, guard := none } :: rest) a w) :
    wpList P ops Q ({ dst := none, op := .store t x y, type := ty, pos := pos, after := after, guard := none } :: rest) a w := h
theorem sz38 : AX.sizeT Tryd.prog 38 = some 5 := by kernel_rfl
/-- The row's block while it is thinned: i jobs are kept of the first j. -/
def Thin (W : World) (g : Nat) (cur : Array Value) (l : List J) (q : Int) (i j : Nat) : Prop :=
  ∃ cs : Array Value, W.heap[g]? = some (.cells cs 38 (0, 0)) ∧ cs.size = cur.size ∧ i = ((l.take j).filter fun x => x.s != q).length ∧ (∀ (t : Nat) (v : Value), (((l.take j).filter fun x => x.s != q).flatMap encJ)[t]? = some v → cs[t]? = some v) ∧ ∀ t : Nat, j * 5 ≤ t → cs[t]? = cur[t]?
theorem Thin.below {W W' : World} {g : Nat} {cur : Array Value} {l : List J} {q : Int} {i j n : Nat} (h : Thin W g cur l q i j) (hb : Below n W W') (hn : W.heap.size ≤ n) : Thin W' g cur l q i j := by
  obtain ⟨cs, h1, h2⟩ := h
  exact ⟨cs, (hb.block g (Nat.lt_of_lt_of_le (Array.getElem?_eq_some_iff.1 h1).1 hn)).trans h1, h2⟩
theorem Thin.skip {W : World} {g : Nat} {cur : Array Value} {l : List J} {q : Int} {i j : Nat} (h : Thin W g cur l q i j) (hj : j < l.length) (hq : l[j].s = q) : Thin W g cur l q i (j + 1) := by
  obtain ⟨cs, h1, h2, h3, h4, h5⟩ := h
  have e : (l.take (j + 1)).filter (fun x => x.s != q) = (l.take j).filter fun x => x.s != q := by
    rw [List.take_succ_eq_append_getElem hj, List.filter_append]
    simp [hq]
  exact ⟨cs, h1, h2, by rw [e]; exact h3, by rw [e]; exact h4, fun t ht => h5 t (by omega)⟩
theorem Thin.le {W : World} {g : Nat} {cur : Array Value} {l : List J} {q : Int} {i j : Nat} (h : Thin W g cur l q i j) : i ≤ j := by
  obtain ⟨cs, h1, h2, h3, h4, h5⟩ := h
  have := List.length_filter_le (fun x : J => x.s != q) (l.take j)
  have := List.length_take_le j l
  omega
theorem Thin.keep {W W' : World} {g : Nat} {cur cs : Array Value} {l : List J} {q : Int} {i j : Nat} (h : Thin W g cur l q i j) (hj : j < l.length) (hcl : l.length * 5 ≤ cur.size) (hq : l[j].s ≠ q) (hcs : W.heap[g]? = some (.cells cs 38 (0, 0))) (h3 : W'.heap[g]? = some (.cells (AX.writeC cs (i * 5) (encJ l[j])) 38 (0, 0))) : Thin W' g cur l q (i + 1) (j + 1) := by
  have hij := h.le
  obtain ⟨cs', h1, h2, h3', h4, h5⟩ := h
  rw [hcs] at h1
  cases h1
  have e : (l.take (j + 1)).filter (fun x => x.s != q) = ((l.take j).filter fun x => x.s != q) ++ [l[j]] := by
    rw [List.take_succ_eq_append_getElem hj, List.filter_append]
    simp [hq]
  have hen : (encJ l[j]).length = 5 := rfl
  refine ⟨_, h3, by rw [AX.writeC_size]; exact h2, by rw [e, List.length_append, ← h3']; rfl, fun t v hv => ?_, fun t ht => ?_⟩
  · rw [e, List.flatMap_append] at hv
    have hfl : (((l.take j).filter fun x => x.s != q).flatMap encJ).length = i * 5 := by rw [jflat_len, ← h3']
    rw [AX.writeC_get _ _ _ _ (by rw [hen, h2]; omega)]
    by_cases c : t < i * 5
    · rw [List.getElem?_append_left (by omega)] at hv
      rw [if_neg (by omega)]
      exact h4 t v hv
    · rw [List.getElem?_append_right (by omega), hfl] at hv
      have hv : (encJ l[j])[t - i * 5]? = some v := by simpa using hv
      have := (List.getElem?_eq_some_iff.1 hv).1
      rw [if_pos ⟨by omega, by omega⟩]
      exact hv
  · rw [AX.writeC_get _ _ _ _ (by rw [hen, h2]; omega), if_neg (by rw [hen]; omega)]
    exact h5 t (by omega)
/-- The j-th job still lies as it lay. -/
theorem Thin.at {W : World} {g : Nat} {cur : Array Value} {l : List J} {q : Int} {i j : Nat} (h : Thin W g cur l q i j) (hj : j < l.length) (hcur : ∀ (t : Nat) (v : Value), (l.flatMap encJ)[t]? = some v → cur[t]? = some v) : JAt W g (0 + j * 5) l[j] := by
  obtain ⟨cs, h1, h2, h3, h4, h5⟩ := h
  have H : ∀ k v, (encJ l[j])[k]? = some v → W.cell? ⟨g, 0 + j * 5 + k, none⟩ = some v := fun k v hv => by
    rw [cell_of_row W g _ cs 38 (0, 0) h1, Nat.zero_add, h5 _ (by omega)]
    exact hcur _ v (jflat_get l j hj k v hv)
  exact ⟨H 0 _ rfl, H 1 _ rfl, H 2 _ rfl, H 3 _ rfl, H 4 _ rfl⟩
end Go.Proofs.YtpplkjjfaibmmaaDoor

namespace Go.Proofs.YtpplkjjfaibmmaaDoor
open Go Go.Proofs Go.RowKit
attribute [local go_sem] Oper.semAt_some
set_option maxRecDepth 100000 in
set_option maxHeartbeats 8000000 in
theorem delete_at (l : List J) (hl : l.length ≤ 1000000) (S : Nat) (q : Int) (base g cap : Nat) (cur : Array Value) (w : World) (hb : base ≤ w.heap.size) (hg : base ≤ g) (hh : w.heap[g]? = some (.cells cur 38 (0, 0))) (hnc : l.length ≤ cap) (hcz : cur.size = cap * 5)
    (hcs : ∀ (t : Nat) (v : Value), (l.flatMap encJ)[t]? = some v → cur[t]? = some v) (hS : w.cell? ⟨S, 0, none⟩ = some (.int .i64 q)) (hSl : S < base) (k : Nat) (hk : k < l.length) (hkq : l[k].s = q) (hkf : ∀ (j : Nat) (h : j < l.length), j < k → l[j].s ≠ q)
    (h53 : Calls Tryd.prog 53 #[.slice (some ⟨g, 0, none⟩) l.length cap, .func (.func 37) #[] #[.pointer (some ⟨S, 0, none⟩)]] w fun e w' => e = .returned (.int .i64 k) ∧ Below w.heap.size w w') :
    Calls Tryd.prog 36 #[.slice (some ⟨g, 0, none⟩) l.length cap, .func (.func 37) #[] #[.pointer (some ⟨S, 0, none⟩)]] w fun e w' => (∃ v', e = .returned v' ∧ RRow w' v' (l.filter fun x => x.s != q)) ∧ Below base w w' := by
  have hT : Thin w g cur l q k (k + 1) := by
    have e : (l.take (k + 1)).filter (fun x => x.s != q) = l.take k := by
      rw [List.take_succ_eq_append_getElem hk, List.filter_append]
      have h1 : (l.take k).filter (fun x => x.s != q) = l.take k := List.filter_eq_self.2 fun x hx => by
        obtain ⟨j, hj, rfl⟩ := List.getElem_of_mem hx
        rw [List.length_take] at hj
        rw [List.getElem_take]
        simpa using hkf j (by omega) (by omega)
      rw [h1]
      simp [hkq]
    refine ⟨cur, hh, rfl, by rw [e, List.length_take]; omega, fun t v hv => ?_, fun _ _ => rfl⟩
    rw [e] at hv
    refine hcs t v ?_
    have h2 : l = l.take k ++ l.drop k := (List.take_append_drop k l).symm
    rw [h2, List.flatMap_append, List.getElem?_append_left (List.getElem?_eq_some_iff.1 hv).1]
    exact hv
  have hgl := (Array.getElem?_eq_some_iff.1 hh).1
  have HK := Lib.hid (And.intro hkq hkf)
  clear hkq hkf hh
  go_enter Tryd.func36, Tryd.ntmps36
  go_wp2_with (go_at_call 53; ((with_reducible refine h53.mono ?_); rintro e W1 ⟨rfl, hb1⟩; have hT1 := hT.below hb1 (Nat.le_refl _); have hB1 : Below base w W1 := hb1.mono hb; clear h53))
  go_loopw [5, 6] (fun i j wr => ∃ a b : Nat, i = .int .i64 a ∧ j = .int .i64 b ∧ a < b ∧ b ≤ l.length ∧ Thin wr g cur l q a b ∧ Below base w wr) (fun _ j _ => l.length - (intOf j).toNat)
  case atStart => exact ⟨k, k + 1, rfl, by simp, Nat.lt_succ_self _, by omega, hT1, hB1⟩
  case round =>
    obtain ⟨a, b, rfl, rfl, hab, hbl, hTr, hBr⟩ := hrel
    have hgr : g < wr.heap.size := Nat.lt_of_lt_of_le hgl hBr.size
    have hSr : S < wr.heap.size := Nat.lt_of_lt_of_le hSl (Nat.le_trans hb hBr.size)
    have hcr := (hBr.cell (p := ⟨S, 0, none⟩) hSl).trans hS
    clear hT hT1 hB1
    by_cases hlt : b < l.length
    · obtain ⟨y0, y1, y2, y3, y4⟩ := hTr.at hlt hcs
      have hTs := fun (W : World) (h : Thin W g cur l q a b) => h.skip hlt
      have hTk := fun (W W' : World) (cs : Array Value) (h : Thin W g cur l q a b) => h.keep (W' := W') (cs := cs) hlt (by omega)
      have hBx := Box5.new wr l[b]
      have hBa : Below wr.heap.size wr (wr.alloc (.cells #[.int .i64 l[b].s, .int .i64 l[b].f, .int .i64 l[b].t, .int .i64 l[b].a, .int .i64 l[b].l] 38)) := (Below.refl _ wr).alloc (Nat.le_refl _) _
      have h37 := isSlot_k l[b] S q (wr.alloc (.cells #[.int .i64 l[b].s, .int .i64 l[b].f, .int .i64 l[b].t, .int .i64 l[b].a, .int .i64 l[b].l] 38)) ((hBa.cell (p := ⟨S, 0, none⟩) hSr).trans hcr) (by simp; omega)
      generalize l[b] = y at *
      unfold J.v at h37
      rw [Nat.zero_add] at y0 y1 y2 y3 y4
      have hb0 : (0 : Int) ≤ (b : Int) := by omega
      have hb1' : (b : Int) < (l.length : Int) := by omega
      by_cases hq : y.s = q
      · have hqb : (y.s == q) = true := by simp [hq]
        rw [hqb] at h37
        have HQ := Lib.hid hq
        clear hq hTk hqb
        go_wp2_with (go_at_call 37; ((with_reducible refine h37.mono ?_); rintro e W2 ⟨rfl, hb2⟩))
        have hT2 := hTs W2 ((hTr.below hBa (Nat.le_refl _)).below hb2 (Nat.le_refl _)) HQ.out
        have hB2 := hBr.trans ((hBa.mono (Nat.le_trans hb hBr.size)).trans (hb2.mono (by have := hBr.size; simp; omega)))
        refine ⟨⟨_, _, _, _, _, _, _, _, _, _, _, _, _, _, _, _, _, _, _, _, _, _, _, ⟨a, b + 1, rfl, by simp, by omega, by omega, hT2, hB2⟩, rfl⟩, ?_⟩
        simp [intOf]; omega
      · have hqb : (y.s == q) = false := by simp [hq]
        rw [hqb] at h37
        have HQ := Lib.hid hq
        clear hq hTs hqb
        have ha0 : (0 : Int) ≤ (a : Int) := by omega
        have ha1' : (a : Int) < (l.length : Int) := by omega
        go_wp2_with (first
          | (go_at_call 37; ((with_reducible refine h37.mono ?_); rintro e W2 ⟨rfl, hb2⟩; have hx2 := hBx.below hb2 (by simp); obtain ⟨z0, z1, z2, z3, z4⟩ := hx2.cs; have hT2 := (hTr.below hBa (Nat.le_refl _)).below hb2 (Nat.le_refl _); have hB2 := hBr.trans ((hBa.mono (Nat.le_trans hb hBr.size)).trans (hb2.mono (by have := hBr.size; simp; omega))); obtain ⟨cs, hcs2, hsz2⟩ : ∃ cs, W2.heap[g]? = some (.cells cs 38 (0, 0)) ∧ cs.size = cur.size := by (obtain ⟨cs, e1, e2, _⟩ := id hT2; exact ⟨cs, e1, e2⟩)))
          | ((with_reducible refine st_id ?_); (refine AX.wpList_storeAt (o := a * 5) (vs := [.int .i64 y.s, .int .i64 y.f, .int .i64 y.t, .int .i64 y.a, .int .i64 y.l]) rfl rfl sz38 hcs2 (by simp; omega) rfl ?_; rintro W3 h3 h4 h5; have hT3 := hTk W2 W3 cs hT2 HQ.out hcs2 h3; have hB3 := hB2.trans (AX.below_turn hg (.inl (Array.getElem?_eq_some_iff.1 h3).1) h4 h5))))
        refine ⟨⟨_, _, _, _, _, _, _, _, _, _, _, _, _, _, _, _, _, _, _, _, _, _, _, ⟨a + 1, b + 1, by simp, by simp, by omega, by omega, hT3, hB3⟩, rfl⟩, ?_⟩
        simp [intOf]; omega
    · obtain rfl : b = l.length := by omega
      obtain ⟨cs, hc1, hc2, hc3, hc4, hc5⟩ := hTr
      rw [List.take_length] at hc3 hc4
      have ha0 : (0 : Int) ≤ (a : Int) := by omega
      have ha1 : (a : Int) ≤ (l.length : Int) := by omega
      obtain ⟨w2, hcl, ⟨cs', hw2, hsz', hpre⟩, h4, h5⟩ := run_clear_j wr 0 g (a * 5) (l.length - a) (cap - a) cs 38 hc1 (by omega)
      have HC3 := Lib.hid hc3
      have HC4 := Lib.hid hc4
      have hanc : (a : Int) ≤ (cap : Int) := by omega
      have hlc : (l.length : Int) ≤ (cap : Int) := by omega
      clear hc3 hc4 hc5
      have HB := Lib.hid (hBr.trans (AX.below_turn hg (.inl (Array.getElem?_eq_some_iff.1 hw2).1) h4 h5))
      have HRR : Hid (RRow w2 (.slice (some ⟨g, 0, none⟩) a cap) (l.filter fun x => x.s != q)) := Lib.hid (by
        refine ⟨some ⟨g, 0, none⟩, cap, by rw [HC3.out], (fun e => nomatch e), fun ad e => ?_⟩
        obtain rfl := Option.some.inj e
        refine ⟨g, 0, rfl, (Array.getElem?_eq_some_iff.1 hw2).1, JRow.of_cells fun j v hv => ?_⟩
        have hjl := (List.getElem?_eq_some_iff.1 hv).1
        rw [jflat_len, ← HC3.out] at hjl
        rw [cell_of_row w2 g (0 + j) cs' 38 (0, 0) hw2, Nat.zero_add, hpre j hjl]
        exact HC4.out j v hv)
      go_wp2_with fail
      exact bodyPost_ret (v := .slice (some ⟨g, 0, none⟩) a cap) (by simp [results, Tryd.results36, go_sem]) rfl ⟨⟨_, rfl, HRR.out⟩, HB.out⟩
theorem first_at (l : List J) (q : Int) (h : ∃ (k : Nat) (h : k < l.length), l[k].s = q) : ∃ (k : Nat) (h : k < l.length), l[k].s = q ∧ ∀ (j : Nat) (h : j < l.length), j < k → l[j].s ≠ q := by
  obtain ⟨k, hk, hq⟩ := h
  have hlt : l.findIdx (fun x => x.s == q) < l.length := List.findIdx_lt_length_of_exists ⟨l[k], List.getElem_mem hk, by simp [hq]⟩
  refine ⟨_, hlt, by simpa using List.findIdx_getElem (w := hlt), fun j hj hjk => ?_⟩
  have := List.not_of_lt_findIdx hjk
  simpa using this
/-- slices.DeleteFunc by a slot, of a row of one's own. -/
theorem delete_k (l : List J) (hl : l.length ≤ 1000000) (S : Nat) (q : Int) (base : Nat) (v : Value) (w : World) (hb : base ≤ w.heap.size) (hD : DRow w base v l) (hS : w.cell? ⟨S, 0, none⟩ = some (.int .i64 q)) (hSl : S < base) :
    Calls Tryd.prog 36 #[v, .func (.func 37) #[] #[.pointer (some ⟨S, 0, none⟩)]] w fun e w' => (∃ v', e = .returned v' ∧ RRow w' v' (l.filter fun x => x.s != q)) ∧ Below base w w' := by
  have hR := hD.read
  obtain ⟨la, c, rfl, hR1⟩ : ∃ la c, v = .slice la l.length c ∧ True := by
    obtain ⟨la, c, e, _⟩ := hR
    exact ⟨la, c, e, trivial⟩
  have h53 := indexOf_k l hl S q la c w hR hS (by omega)
  by_cases hex : ∀ (j : Nat) (h : j < l.length), l[j].s ≠ q
  · have h53 : Calls Tryd.prog 53 #[.slice la l.length c, .func (.func 37) #[] #[.pointer (some ⟨S, 0, none⟩)]] w fun e w' => e = .returned (.int .i64 (-1)) ∧ Below w.heap.size w w' := h53.mono fun e w' ⟨h, hb⟩ => by
      rcases h with ⟨k, hk, _, hq, _⟩ | ⟨h, _⟩
      · exact absurd hq (hex k hk)
      · exact ⟨h, hb⟩
    have hf : l.filter (fun x => x.s != q) = l := List.filter_eq_self.2 fun x hx => by
      obtain ⟨j, hj, rfl⟩ := List.getElem_of_mem hx
      simpa using hex j hj
    rw [hf]
    have HR := Lib.hid hR
    clear hR hD hex hf
    go_enter Tryd.func36, Tryd.ntmps36
    go_wp2_with (go_at_call 53; ((with_reducible refine h53.mono ?_); rintro e W1 ⟨rfl, hb1⟩))
    exact bodyPost_ret (v := .slice la l.length c) (by simp [results, Tryd.results36, go_sem]) rfl ⟨⟨_, rfl, HR.out.below hb1⟩, hb1.mono hb⟩
  · obtain ⟨k, hk, hkq, hkf⟩ : ∃ (k : Nat) (h : k < l.length), l[k].s = q ∧ ∀ (j : Nat) (h : j < l.length), j < k → l[j].s ≠ q := by
      refine first_at l q ?_
      false_or_by_contra
      rename_i hno
      exact hex fun j h hq => hno ⟨j, h, hq⟩
    have h53 : Calls Tryd.prog 53 #[.slice la l.length c, .func (.func 37) #[] #[.pointer (some ⟨S, 0, none⟩)]] w fun e w' => e = .returned (.int .i64 k) ∧ Below w.heap.size w w' := h53.mono fun e w' ⟨h, hb⟩ => by
      rcases h with ⟨k', hk', e1, hq', hf'⟩ | ⟨_, hno⟩
      · have : k' = k := by
          rcases Nat.lt_trichotomy k' k with h | h | h
          · exact absurd hq' (hkf k' hk' h)
          · exact h
          · exact absurd hkq (hf' k hk h)
        subst this
        exact ⟨e1, hb⟩
      · exact absurd hkq (hno k hk)
    rcases hD.2 with ⟨_, hn⟩ | ⟨g, cap, cur, e, hg, hh, hnc, hcm, hsz, hcs⟩
    · omega
    · cases e
      refine delete_at l hl S q base g c cur w hb hg hh hnc hsz (fun t u hu => ?_) hS hSl k hk hkq hkf h53
      rw [← hcs, List.getElem?_take] at hu
      split at hu
      · simpa using hu
      · cases hu
end Go.Proofs.YtpplkjjfaibmmaaDoor

namespace Go.Proofs.YtpplkjjfaibmmaaDoor
open Go Go.Proofs Go.RowKit
attribute [local go_sem] Oper.semAt_some
set_option maxHeartbeats 2000000 in
theorem drop_k {v : Value} {l : List J} (hl : l.length ≤ 1000000) (q : Int) (w : World) (hR : RRow w v l) :
    Calls Tryd.prog 19 #[v, .int .i64 q] w fun e w' => (∃ v', e = .returned v' ∧ RRow w' v' (l.filter fun x => x.s != q)) ∧ Below w.heap.size w w' := by
  have hB0 : Below w.heap.size w (w.alloc (.cells #[.int .i64 q] 3)) := (Below.refl _ w).alloc (Nat.le_refl _) _
  have hS0 : (w.alloc (.cells #[.int .i64 q] 3)).cell? ⟨w.heap.size, 0, none⟩ = some (.int .i64 q) := by simp
  have hz : (w.alloc (.cells #[.int .i64 q] 3)).heap.size = w.heap.size + 1 := by simp
  have h35 := clone_k hl _ (hR.below hB0)
  clear hR
  go_enter Tryd.func19, Tryd.ntmps19
  go_wp2_with fail
  generalize w.alloc (.cells #[.int .i64 q] 3) = W0 at *
  have HZ := Lib.hid hz
  have hD := fun (W1 : World) (v1 : Value) (hb : Below W0.heap.size W0 W1) (hd : DRow W1 W0.heap.size v1 l) => delete_k l hl w.heap.size q W0.heap.size v1 W1 hb.size hd ((hb.cell (p := ⟨w.heap.size, 0, none⟩) (by show w.heap.size < W0.heap.size; omega)).trans hS0) (by omega)
  clear hz
  go_wp2_with (first
    | (go_at_call 35; ((with_reducible refine h35.mono ?_); rintro e W1 ⟨⟨v1, rfl, hd1⟩, hb1⟩; have h36 := hD W1 v1 hb1 hd1))
    | (go_at_call 36; ((with_reducible refine h36.mono ?_); rintro e W2 ⟨⟨v2, rfl, hr2⟩, hb2⟩)))
  have hz := HZ.out
  exact bodyPost_ret (v := v2) (by simp [results, Tryd.results19, go_sem]) rfl ⟨⟨_, rfl, hr2⟩, (hB0.trans (hb1.mono (by omega))).trans (hb2.mono (by omega))⟩
end Go.Proofs.YtpplkjjfaibmmaaDoor
