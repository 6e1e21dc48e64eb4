/- Marks: marker.mark 22. -/
import Derived.Test.YtdjeokgkeejpcaaGreatDoorM11
import Derived.Test.YtdjeokgkeejpcaaGreatDoorRg8
import Derived.Laws.MakeOwn
import Derived.Laws.OwnMore
import Derived.Sort.CutIn
namespace Go.Proofs.YtdjeokgkeejpcaaGreatDoor
open Go Go.Proofs Go.RowKit
attribute [local go_sem] Oper.semAt_some
theorem info3' : (Tryz.prog.info? 3).map (fun i => (i.zero, i.size, i.bytes)) = some (some (.int .i64 0), 1, 8) := by kernel_rfl
theorem info4' : (Tryz.prog.info? 4).map (fun i => (i.zero, i.size, i.bytes)) = some (some (.bool false), 1, 1) := by kernel_rfl
theorem makeB (n : Nat) (hn : n ≤ 2000) (w : World) : (Instr.makeSlice 54 (.int .i64 n) (.int .i64 n)).run Tryz.prog w = .ok (.slice (some ⟨w.heap.size, 0, none⟩) n n) (w.alloc (.cells (bools (List.replicate n false)) 4)) := by
  obtain ⟨ti, hi, hz0, hz1, hz2⟩ := info_parts info4'
  have h := run_makeSlice (P := Tryz.prog) (w := w) 54 4 ti (.bool false) Tryz.underlying54 hi hz0 .i64 .i64 (n : Int) (n : Int) (by omega) (Int.le_refl _) (by rw [hz1]; simp; omega) (by rw [hz2]; omega) (by omega)
  rw [h]
  have e : madeCells (Value.bool false).cells ((n : Int).toNat * ti.size) = bools (List.replicate n false) := by
    rw [hz1, Int.toNat_natCast, Nat.mul_one]
    refine Array.toList_inj.1 ?_
    show (madeCells #[Value.bool false] n).toList = _
    rw [toList_madeCells_one]
    unfold bools
    rw [List.map_replicate]
  rw [e, Int.toNat_natCast]
theorem makeI (n : Nat) (hn : n ≤ 2000) (w : World) : (Instr.makeSlice 27 (.int .i64 n) (.int .i64 n)).run Tryz.prog w = .ok (.slice (some ⟨w.heap.size, 0, none⟩) n n) (w.alloc (.cells (intsA (List.replicate n 0)) 3)) := by
  obtain ⟨ti, hi, hz0, hz1, hz2⟩ := info_parts info3'
  have h := run_makeSlice (P := Tryz.prog) (w := w) 27 3 ti (.int .i64 0) Tryz.underlying27 hi hz0 .i64 .i64 (n : Int) (n : Int) (by omega) (Int.le_refl _) (by rw [hz1]; simp; omega) (by rw [hz2]; omega) (by omega)
  rw [h]
  have e : madeCells (Value.int .i64 0).cells ((n : Int).toNat * ti.size) = intsA (List.replicate n 0) := by
    rw [hz1, Int.toNat_natCast, Nat.mul_one]
    refine Array.toList_inj.1 ?_
    show (madeCells #[Value.int .i64 0] n).toList = _
    rw [toList_madeCells_one]
    unfold intsA
    rw [List.map_replicate]
  rw [e, Int.toNat_natCast]
theorem wpListIn_make {F : Fence} {m : Nat} {ops : Array Oper} {rest : List Oper} {a : Act} {Q : Exit → Act → World → Prop} {d : Option Tmp} {t : TypeId} {x y : Operand} {ty : TypeId} {pos : String} {after : Array Edge} {w w' : World} {v1 v2 v : Value}
    (h1 : a.eval x = v1) (h2 : a.eval y = v2) (h : (Instr.makeSlice t v1 v2).run Tryz.prog w = .ok v w') (hK : wpListIn F m Tryz.prog ops Q rest (a.put d v) w') :
    wpListIn F m Tryz.prog ops Q ({ dst := d, op := .makeSlice t x y, type := ty, pos := pos, after := after, guard := none } :: rest) a w := by
  refine wpListIn_plain rfl fun K hK' => ?_
  unfold Oper.wpIn
  refine ⟨?_, ?_⟩
  · simp [Oper.about]
  · rw [Oper.semAt_plain F _ _ (by intro c hc'; cases hc')]
    simp only [execOp, h1, h2]
    rw [show (do let x ← Instr.makeSlice t v1 v2; pure (Next.value x) : Sem Next).run Tryz.prog w = .ok (.value v) w' by simp [h]]
    exact hK' _ _ hK
theorem mk_in {F : Fence} {m : Nat} {P : Program} {ops : Array Oper} {Q : Exit → Act → World → Prop} {a : Act} {w : World} {rest : List Oper} {d : Option Tmp} {t : TypeId} {x y : Operand} {ty : TypeId} {pos : String} {after : Array Edge}
    (h : wpListIn F m P ops Q ({ dst := d, op := .makeSlice t x y, type := ty, pos := pos, after := after, guard := none } :: rest) a w) :
    wpListIn F m P ops Q ({ dst := d, op := .makeSlice t x y, type := ty, pos := pos, after := after, guard := none } :: rest) a w := h
/-- An operation whose guard is shut. -/
theorem mixL_skip {P : Program} {C CT : World → Prop} {i0 : Nat} {Q : Exit → Act → World → Prop} {l : List Oper} {d : Bool} {i : Nat} {r : List (Nat × Nat)} {a : Act} {w : World} (o : Oper) (ho : l[i]? = some o) (hw : Region.wanted o (yielded l.toArray a.tmps) = false)
    (h : (CT w ∧ ((d || Nat.beq i i0) = false → C w)) ∧ AX.wpMixL P l C CT i0 Q (d || Nat.beq i i0) r (a.put o.dst undef) w) : AX.wpMixL P l C CT i0 Q d ((i, 2) :: r) a w := by
  show wpOp P l.toArray Q i (fun a' w' => (CT w' ∧ ((d || Nat.beq i i0) = false → C w')) ∧ AX.wpMixL P l C CT i0 Q (d || Nat.beq i i0) r a' w') a w
  unfold wpOp
  have ho' : l.toArray[i]? = some o := by simpa using ho
  simp only [ho', hw]
  exact h
theorem bools_set (X : List Bool) (i : Nat) (v : Bool) : (bools X).setIfInBounds i (.bool v) = bools (X.set i v) := by simp [bools, List.map_set]
theorem intsA_set (X : List Int) (i : Nat) (v : Int) : (intsA X).setIfInBounds i (.int .i64 v) = intsA (X.set i v) := by simp [intsA, List.map_set]
theorem bools_size (X : List Bool) : (bools X).size = X.length := by simp [bools]
theorem intsA_size (X : List Int) : (intsA X).size = X.length := by simp [intsA]
/-- What is stale, from a place on. -/
structure StaleFrom (l : List Pt) (X : List Bool) (m : Nat) : Prop where
  len : X.length = l.length
  is : ∀ j, m ≤ j → j < l.length → bt X j = (decide ((pt l j).met ≠ 0) || (pt l j).kids.any fun k => bt X k.toNat)
theorem bt_set_ne {X : List Bool} {i j : Nat} (v : Bool) (h : i ≠ j) : bt (X.set i v) j = bt X j := by
  simp [bt, List.getElem?_set, h]
theorem bt_set_self {X : List Bool} {i : Nat} (v : Bool) (h : i < X.length) : bt (X.set i v) i = v := by
  simp [bt, h]
theorem it_set_ne {X : List Int} {i j : Nat} (v : Int) (h : i ≠ j) : it (X.set i v) j = it X j := by
  simp [it, List.getElem?_set, h]
theorem it_set_self {X : List Int} {i : Nat} (v : Int) (h : i < X.length) : it (X.set i v) i = v := by
  simp [it, h]
theorem StaleFrom.step {l : List Pt} (hT : Tr l) {X : List Bool} {i : Nat} (hi : i < l.length) (h : StaleFrom l X (i + 1)) : StaleFrom l (X.set i (decide ((pt l i).met ≠ 0) || (pt l i).kids.any fun k => bt X k.toNat)) i := by
  refine ⟨by simp [h.len], fun j h1 h2 => ?_⟩
  have kid : ∀ v : Bool, ((pt l j).kids.any fun k => bt (X.set i v) k.toNat) = (pt l j).kids.any fun k => bt X k.toNat := fun v => by
    refine any_same _ fun k hk => ?_
    obtain ⟨c, rfl, h3, _⟩ := hT.kid h2 hk
    rw [Int.toNat_natCast, bt_set_ne v (by omega)]
  rw [kid]
  by_cases e : j = i
  · subst e; rw [bt_set_self _ (by rw [h.len]; exact hi)]
  · rw [bt_set_ne _ (Ne.symm e)]; exact h.is j (by omega) h2
theorem StaleFrom.ok {l : List Pt} {X : List Bool} (h : StaleFrom l X 0) : StaleOk l X := ⟨h.len, fun j hj => h.is j (Nat.zero_le _) hj⟩
def rowL19_7 : List (Nat × Nat) := [(0, 0), (1, 0), (2, 0), (3, 0), (4, 0), (5, 0), (6, 0), (7, 0), (8, 2), (9, 2), (10, 0), (11, 0), (12, 2)]
def inf19_7 : List AX.Inf := [⟨0, 65536, 8, true⟩, ⟨0, 131072, 16, true⟩, ⟨0, 262144, 32, true⟩, ⟨4, 524288, 262144, true⟩, ⟨8, 1048576, 524288, true⟩, ⟨16, 2097152, 1048576, true⟩, ⟨32, 4194304, 2097184, true⟩, ⟨96, 8388608, 6291456, true⟩, ⟨32, 16777216, 2097160, false⟩, ⟨416, 33554432, 27262976, false⟩, ⟨544, 67108864, 35651584, true⟩, ⟨2047, 134217728, 196608, true⟩, ⟨4095, 0, 201326592, false⟩]
theorem fit19_7 : AX.mixF inf19_7 (AX.asF rowL19_7) 0 = true := by kernel_rfl
theorem fitl19_7 : AX.fitL inf19_7 12 rowL19_7 = true := by kernel_rfl
end Go.Proofs.YtdjeokgkeejpcaaGreatDoor

namespace Go.Proofs.YtdjeokgkeejpcaaGreatDoor
open Go Go.Proofs Go.RowKit
attribute [local go_sem] Oper.semAt_some
theorem KeepsFrom.of_below {base : Nat} {X Y : World} (h : Below X.heap.size X Y) : KeepsFrom base X Y := ⟨h.size, fun k _ _ hk _ => (h.block k (Array.getElem?_eq_some_iff.1 hk).1).trans hk⟩
/-- The state of Stale's loop. -/
structure Si (w : World) (l : List Pt) (g : Nat) (pre : List Nat) (W : World) : Prop where
  b : Below w.heap.size w W
  s : Bx W (g + 1) 54 #[.slice (some ⟨g, 0, none⟩) l.length l.length]
  x : ∃ X, Bx W g 4 (bools X) ∧ StaleFrom l X (l.length - pre.length)
theorem Si.below {w : World} {l : List Pt} {g m : Nat} {pre : List Nat} {X Y : World} (h : Si w l g pre X) (hb : Below m X Y) (h1 : w.heap.size ≤ m) (h2 : g + 1 < m) : Si w l g pre Y := by
  obtain ⟨h3, h4, Z, h5, h6⟩ := h
  exact ⟨h3.trans (hb.mono h1), h4.below hb h2, Z, h5.below hb (by omega), h6⟩
def StPost (w : World) (l : List Pt) (e : Ending) (W : World) : Prop := ∃ g X, e = .returned (.slice (some ⟨g, 0, none⟩) l.length l.length) ∧ w.heap.size ≤ g ∧ Bx W g 4 (bools X) ∧ StaleOk l X
set_option maxRecDepth 100000 in
set_option maxHeartbeats 16000000 in
theorem stale19_k (l : List Pt) (hl : l.length ≤ 120) (hT : TrOk l) (la : Option Addr) (c : Nat) (w : World) (hR : PRow w la l) :
    Calls Tryz.prog 19 #[.slice la l.length c] w fun e w' => StPost w l e w' ∧ Below w.heap.size w w' := by
  obtain ⟨ka, kc, hP⟩ := hR.pr
  have h18 := fun n => (callsIn_wide (n := n)).2 (ck18_k l hl hT la c w hR)
  have h21 := fun n W => (callsIn_wide (n := n)).2 (back21_k l la c W)
  have hmk := fun W => makeB l.length (by omega) W
  have hTr := hT.tr
  clear hT
  have hpos := hTr.pos
  have hf18 : Fence.wide.fn 18 := trivial
  have hf21 : Fence.wide.fn 21 := trivial
  have hf41 : Fence.wide.fn 41 := trivial
  refine (callsIn_wide (n := 9)).1 (callsIn_of_wp_marks Tryz.func19 rfl trivial ?_ rfl)
  simp only [Tryz.ntmps19, List.size_toArray, List.length_cons, List.length_nil, Nat.reduceAdd, Nat.reduceSub, Array.replicate_succ, Array.replicate_zero, List.push_toArray, List.append_toArray, List.nil_append, List.cons_append]
  gi_wp2_with (first
    | (gi_at_call 18; ((with_reducible refine (h18 _).mono ?_); rintro e W1 ⟨rfl, hb1⟩))
    | ((with_reducible refine mk_in ?_); refine wpListIn_make rfl rfl (hmk _) ?_; (have g0 := Bx.new W1 4 (bools (List.replicate l.length false))); (have hA2 := (Below.refl _ W1).alloc (Nat.le_refl _) (.cells (bools (List.replicate l.length false)) 4)); (have hz2 : (W1.alloc (.cells (bools (List.replicate l.length false)) 4)).heap.size = W1.heap.size + 1 := by simp); generalize W1.alloc (.cells (bools (List.replicate l.length false)) 4) = W2 at *; (have s2 := Bx.new W2 54 #[.slice (some ⟨W1.heap.size, 0, none⟩) l.length l.length]); (have hA3 := hA2.alloc hA2.size (.cells #[.slice (some ⟨W1.heap.size, 0, none⟩) l.length l.length] 54)); (have g2 := g0.alloc (.cells #[.slice (some ⟨W1.heap.size, 0, none⟩) l.length l.length] 54)))
    | (gi_at_call 21; ((with_reducible refine (h21 _ _).mono ?_); rintro e V ⟨rfl, hb5, hz5, L5⟩)))
  rw [hz2] at s2
  have hz4 : (W2.alloc (.cells #[.slice (some ⟨W1.heap.size, 0, none⟩) l.length l.length] 54)).heap.size = W1.heap.size + 1 + 1 := by simp [hz2]
  generalize W2.alloc (.cells #[.slice (some ⟨W1.heap.size, 0, none⟩) l.length l.length] 54) = W4 at *
  obtain ⟨g, hg⟩ : ∃ g, g = W1.heap.size := ⟨_, rfl⟩
  rw [hz4] at hb5 hz5 L5
  rw [← hg] at s2 g2 hz4 hb5 hz5 L5 hA3 ⊢
  obtain ⟨L, hLd⟩ : ∃ L, L = g + 1 + 1 := ⟨_, rfl⟩
  rw [← hLd] at hb5 hz5 L5 hz4 ⊢
  have hwg : w.heap.size ≤ g := by rw [hg]; exact hb1.size
  have hB4 : Below w.heap.size w W4 := hb1.trans (hA3.mono hwg)
  have s4 := s2
  have g4 := g2
  have hgL : g + 1 < L := by omega
  have hBV : Below w.heap.size w V := hB4.trans (hb5.mono (by omega))
  have s6 := s4.below hb5 (by omega)
  have g6 := g4.below hb5 (by omega)
  clear g0 hA2 s2 hA3 g2 s4 g4 hB4 hb5 hb1 hz2 hz4 hg hLd h18 h21 hmk
  refine AX.range_lowN (B := Wb w.heap.size L) (Pp := fun pre x => pre.length + x + 1 = l.length) (encs := fun x : Nat => #[.int .i64 (x : Nat), ptV (pt l x) (ka x) (kc x)]) (S := fun xs => xs.length = l.length) rfl (by omega) (gf := 47) (lb := #[.pointer (some ⟨L, 0, none⟩)]) rfl trivial (enters_of Tryz.func47 (by kernel_rfl) rfl) (fun _ => rfl) (fun k h => by rcases h with h | h <;> omega) ?seq
    (fun pre W => Si w l g pre W) (fun s X Y h hb => h.below hb (by omega) (by omega)) ⟨hBV, s6, _, g6, ⟨by simp, fun j h1 h2 => by simp at h1; omega⟩⟩
    (fun x a' W => ∃ T, V.heap.size ≤ T ∧ Bx W T 36 (ptC (pt l x) (ka x) (kc x)) ∧ a' = { tmps := #[.slice la l.length c, undef, .slice none 0 0, .pointer (some ⟨g + 1, 0, none⟩), .int .i64 (x : Nat), .pointer (some ⟨T, 0, none⟩), .slice la l.length c, .int .i64 0, .bool false, .slice la l.length c, .int .i64 (l.length : Nat), .slice (some ⟨g, 0, none⟩) l.length l.length, .slice la l.length c, .func (.func 47) #[] #[.pointer (some ⟨L, 0, none⟩)], .int .i64 (x : Nat), ptV (pt l x) (ka x) (kc x), undef, undef, undef, undef, undef, undef, undef, undef, undef, undef, undef, undef, undef], defers := [] }) (fun x a' X Y ⟨T, h1, h2, h3⟩ hk => ⟨T, h1, hk.same _ _ h2 (.inr ⟨Nat.zero_le _, rfl⟩), h3⟩) ?assign ?body ?done
  case seq =>
    intro y J W hW hsz hJ hY h0
    exact back1_in 8 (by omega) l hl la c ka kc hP y V.heap.size W ⟨hBV.trans (hW.mono (by omega)), L5.below hW L5.lt⟩ J hY h0
  case assign =>
    rintro y pre x W K hC hW hK
    obtain ⟨q, hq⟩ : ∃ q, q = pt l x := ⟨_, rfl⟩
    obtain ⟨KA, hKA⟩ : ∃ z, z = ka x := ⟨_, rfl⟩
    obtain ⟨KC, hKC⟩ : ∃ z, z = kc x := ⟨_, rfl⟩
    rw [← hq, ← hKA, ← hKC] at hK ⊢
    clear hq hKA hKC
    unfold ptV ptC at hK
    unfold ptV
    have hX := Bx.new W 36 #[.int .i64 0, .int .i64 0, .int .i64 0, .int .i64 0, .int .i64 0, .int .i64 0, .slice none 0 0, .int .u64 0]
    have hA := (Below.refl _ W).alloc (Nat.le_refl _) (.cells #[.int .i64 0, .int .i64 0, .int .i64 0, .int .i64 0, .int .i64 0, .int .i64 0, .slice none 0 0, .int .u64 0] 36)
    gi_wp2_with ((with_reducible refine st_in ?_); refine AX.wpListIn_storeBox (vs := [.int .i64 q.sym, .int .i64 q.kind, .int .i64 q.frm, .int .i64 q.inn, .int .i64 q.too, .int .i64 q.look, .slice KA q.kids.length KC, .int .u64 (q.met : Nat)]) rfl rfl sz36 hX rfl rfl ?_; rintro W3 g3 g4 g5)
    have hB3 := hA.trans (AX.below_turn (Nat.le_refl _) (.inl (Bx.lt g3)) g4 g5)
    exact hK _ W3 (KeepsFrom.of_below hB3) (AX.Keep.of_below hB3) (hC.below hB3 (by omega) (by omega)) ⟨W.heap.size, hW, g3, rfl⟩
  case body =>
    rintro y pre x a' W hC hW ⟨T, hVT, hTx, rfl⟩ hPp
    obtain ⟨hCb, hCs, X, hCx, hSF⟩ := hC
    have hx : x < l.length := by omega
    have hSF : StaleFrom l X (x + 1) := by rw [show x + 1 = l.length - pre.length by omega]; exact hSF
    have hK := (hP.kids x hx)
    have hks : Hid (∀ k, k ∈ (pt l x).kids → ∃ c : Nat, k = c ∧ c < l.length) := Lib.hid (fun k hk => by
      obtain ⟨c, h1, _, h2⟩ := hTr.kid hx hk
      exact ⟨c, h1, h2⟩)
    have hstep := Lib.hid (hSF.step hTr hx)
    have h41 := fun (W' : World) (hW' : Below W.heap.size W W') => contains41_k X g (g + 1) l.length l.length hSF.len (pt l x).kids hK.2 hks.out (ka x) (kc x) W' (hK.1.below (hCb.trans (hW'.mono hCb.size)) (Nat.le_refl _)) (hCs.below hW' hCs.lt) (hCx.below hW' hCx.lt)
    obtain ⟨q, hq⟩ : ∃ q, q = pt l x := ⟨_, rfl⟩
    obtain ⟨KA, hKA⟩ : ∃ z, z = ka x := ⟨_, rfl⟩
    obtain ⟨KC, hKC⟩ : ∃ z, z = kc x := ⟨_, rfl⟩
    rw [← hq, ← hKA, ← hKC] at hTx
    rw [← hq] at hstep
    rw [← hq, ← hKA, ← hKC] at h41 ⊢
    have hlenX := hSF.len
    have hLV := L5.lt
    clear hq hKA hKC hks hK hSF hpos L5 hz5 s6 g6 hR hP
    unfold ptC at hTx
    unfold ptV
    have hx0 : (0 : Int) ≤ (x : Int) := by omega
    have hx1 : (x : Int) < (l.length : Int) := by omega
    have e0 := BW.cell (hCs.cell 0) hCs.lt
    have e6 := BW.cell (hTx.cell 6) hTx.lt
    have e7 := BW.cell (hTx.cell 7) hTx.lt
    obtain ⟨v, hv⟩ : ∃ v, v = (decide (q.met ≠ 0) || q.kids.any fun k => bt X k.toNat) := ⟨_, rfl⟩
    rw [← hv] at hstep
    have hfin : ∀ (W2 W3 : World), Below W.heap.size W W2 → W3.heap[g]? = some (.cells ((bools X).setIfInBounds x (.bool v)) 4 (0, 0)) → (∀ k, k ≠ g → W3.heap[k]? = W2.heap[k]?) → AX.Same W2 W3 → KeepsFrom V.heap.size W W3 ∧ AX.Keep (Wb w.heap.size L) V.heap.size W W3 ∧ Si w l g (pre ++ [x]) W3 := fun W2 W3 hb2 i3 i4 i5 => by
      have hlt := (Array.getElem?_eq_some_iff.1 i3).1
      obtain ⟨k1, k2⟩ := kept_turn (base := V.heap.size) (H := V.heap.size) (B := Wb w.heap.size L) hb2 i4 i5 hlt (by have := hBV.size; omega) (fun h => by rcases h with h | h <;> omega) (by omega)
      refine ⟨k1, k2, (hCb.trans (hb2.mono hCb.size)).trans (AX.below_turn (n := w.heap.size) hwg (.inl hlt) i4 i5), (hCs.below hb2 hCs.lt).same (i4 _ (by omega)), X.set x v, by rw [← bools_set]; exact i3, ?_⟩
      rw [show l.length - (pre ++ [x]).length = x by rw [List.length_append, List.length_singleton]; omega]
      exact hstep.out
    by_cases hm : (q.met : Int) = 0
    · have hm1 : (((q.met : Nat) : Int) != 0) = false := by rw [hm]; rfl
      have hva : (q.kids.any fun k => bt X k.toNat) = v := by rw [hv]; have : q.met = 0 := by omega
                                                              simp [this]
      rw [hva] at h41
      clear hm hv hva hstep
      gi_upto_region 7 with fail
      refine AX.region_mixLN (C := fun W' => ∃ p : BW W, W' = p.W) (CT := fun _ => True) (ro := some y) 12 rowL19_7 inf19_7 (by kernel_rfl) (by kernel_rfl) (by kernel_rfl) (by kernel_rfl) (by kernel_rfl) (by decide) fit19_7 fitl19_7 rfl ⟨trivial, ⟨W.drew, (Below.refl _ W).drew⟩, rfl⟩ ?_
      unfold rowL19_7
      repeat (refine AX.mixL_own _ (by rfl) ?_; go_big_quiet_step (fail); refine wpQuiet_nil ?_)
      refine AX.mixL_op _ (by rfl) (by rfl) ?_
      unfold Oper.wp
      go_simp
      refine ⟨fun _ => ⟨⟨W.drew, (Below.refl _ W).drew⟩, rfl⟩, ?_⟩
      (try simp only [Act.put, List.setIfInBounds_toArray, List.set_cons_succ, List.set_cons_zero])
      refine AX.mixL_call (h41 W.drew (Below.refl _ W).drew) (by rfl) (by rfl) (by rfl) Tryz.func41 (by kernel_rfl) (by rfl) (by simp only [List.map_toArray, List.map_cons, List.map_nil]; rfl) ?_
      rintro e V1 ⟨rfl, hv1⟩
      have hb1 := (Below.refl _ W).drew.trans (hv1.mono (Nat.le_refl _))
      refine ⟨_, rfl, ⟨trivial, fun _ => ⟨⟨V1, hb1⟩, rfl⟩⟩, ?_⟩
      (try simp only [Act.put, List.setIfInBounds_toArray, List.set_cons_succ, List.set_cons_zero])
      repeat (refine AX.mixL_own _ (by rfl) ?_; go_big_quiet_step (fail); refine wpQuiet_nil ?_)
      refine AX.mixL_op _ (by rfl) (by rfl) ?_
      refine AX.oper_storeCell (o := x) (v := .bool v) rfl rfl rfl sz4 (hCx.below hb1 hCx.lt) (by rw [bools_size]; omega) ?_
      rintro W3 i3 i4 i5
      refine ⟨⟨trivial, fun h => by cases h⟩, ?_⟩
      unfold AX.wpMixL
      exact ⟨rfl, hfin V1 W3 hb1 i3 i4 i5⟩
    · have hm1 : (((q.met : Nat) : Int) != 0) = true := by simp only [bne_iff_ne, ne_eq]; exact hm
      have hvt : v = true := by rw [hv]; have : q.met ≠ 0 := by omega
                                simp [this]
      have HV := Lib.hid hvt
      rw [hvt] at hfin
      clear h41 hm hv hvt hstep
      gi_upto_region 7 with fail
      refine AX.region_mixLN (C := fun W' => ∃ p : BW W, W' = p.W) (CT := fun _ => True) (ro := some y) 12 rowL19_7 inf19_7 (by kernel_rfl) (by kernel_rfl) (by kernel_rfl) (by kernel_rfl) (by kernel_rfl) (by decide) fit19_7 fitl19_7 rfl ⟨trivial, ⟨W.drew, (Below.refl _ W).drew⟩, rfl⟩ ?_
      unfold rowL19_7
      repeat (refine AX.mixL_own _ (by rfl) ?_; go_big_quiet_step (fail); refine wpQuiet_nil ?_)
      refine mixL_skip _ (by rfl) (by rfl) ⟨⟨trivial, fun _ => ⟨⟨W.drew, (Below.refl _ W).drew⟩, rfl⟩⟩, ?_⟩
      (try simp only [Act.put, List.setIfInBounds_toArray, List.set_cons_succ, List.set_cons_zero])
      refine mixL_skip _ (by rfl) (by rfl) ⟨⟨trivial, fun _ => ⟨⟨W.drew, (Below.refl _ W).drew⟩, rfl⟩⟩, ?_⟩
      (try simp only [Act.put, List.setIfInBounds_toArray, List.set_cons_succ, List.set_cons_zero])
      repeat (refine AX.mixL_own _ (by rfl) ?_; go_big_quiet_step (fail); refine wpQuiet_nil ?_)
      refine AX.mixL_op _ (by rfl) (by rfl) ?_
      refine AX.oper_storeCell (o := x) (v := .bool true) rfl rfl rfl sz4 (hCx.below (Below.refl _ W).drew hCx.lt) (by rw [bools_size]; omega) ?_
      rintro W3 i3 i4 i5
      refine ⟨⟨trivial, fun h => by cases h⟩, ?_⟩
      unfold AX.wpMixL
      exact ⟨rfl, hfin W.drew W3 (Below.refl _ W).drew i3 i4 i5⟩
  case done =>
    rintro D xs W hD hxs hC hK
    obtain ⟨hCb, hCs, X, hCx, hSF⟩ := hC
    have cs := hCs.cell 0
    have hDg : g + 1 < D := by have := L5.lt; omega
    gi_wp2_with fail
    refine ⟨by simp, .inl ⟨_, _, rfl, run_takeDeferred hK, ?_⟩⟩
    rw [hxs, Nat.sub_self] at hSF
    exact ⟨_, results_tmp rfl _ _ _, ⟨g, X, rfl, hwg, hCx.putObj _ (by omega), hSF.ok⟩, Below.putObj hCb (.deferred none) hCb.size (by omega)⟩
end Go.Proofs.YtdjeokgkeejpcaaGreatDoor

namespace Go.Proofs.YtdjeokgkeejpcaaGreatDoor
open Go Go.Proofs Go.RowKit
attribute [local go_sem] Oper.semAt_some
theorem Calls.below_of {P : Program} {f : FuncId} {args : Array Value} {w : World} {p : BW w} {v : Value}
    (h : Calls P f args p.W fun e w' => e = .returned v ∧ Below p.W.heap.size p.W w') : Calls P f args p.W fun e w'' => e = .returned v ∧ ∃ q : BW w, w'' = q.W :=
  h.mono fun _ w' ⟨he, hb⟩ => ⟨he, ⟨w', p.h.trans (hb.mono p.h.size)⟩, rfl⟩
theorem ahead49_k (m : Nat) (v0 v1 v2 v3 : Value) (first look : Int) (w : World) (hM : Bx w m 58 #[v0, v1, v2, v3, .int .i64 first]) :
    Calls Tryz.prog 49 #[.pointer (some ⟨m, 0, none⟩), .int .i64 look] w fun e w' => e = .returned (.bool (aheadF first look)) ∧ Below w.heap.size w w' := by
  have c4 := hM.cell 4
  by_cases h1 : first = -1
  · subst h1
    have h2 : aheadF (-1) look = true := by simp [aheadF]
    rw [h2]
    go_enter Tryz.func49, Tryz.ntmps49
    go_wp2
    go_ret
    exact ⟨rfl, Below.refl _ _⟩
  · by_cases h2 : look ≤ first
    · have h3 : aheadF first look = true := by simp [aheadF, h2]
      have h4 : (first == -1) = false := by simpa using h1
      rw [h3]
      clear h1 h3
      go_enter Tryz.func49, Tryz.ntmps49
      go_wp2
      go_ret
      exact ⟨rfl, Below.refl _ _⟩
    · have h3 : aheadF first look = false := by simp [aheadF, h1, h2]
      have h4 : (first == -1) = false := by simpa using h1
      rw [h3]
      clear h1 h3
      go_enter Tryz.func49, Tryz.ntmps49
      go_wp2
      go_ret
      exact ⟨rfl, Below.refl _ _⟩
theorem mark50_k (M : List Int) (k n cp m mm : Nat) (hn : M.length = n) (v0 v1 v2 v4 : Value) (b : Bool) (j : Nat) (hj : j < n) (w : World) (hmm : Bx w mm 53 #[.pointer (some ⟨m, 0, none⟩)]) (hM : Bx w m 58 #[v0, v1, v2, .slice (some ⟨k, 0, none⟩) n cp, v4]) (hk : Bx w k 3 (intsA M)) :
    Calls Tryz.prog 50 #[.bool b, .int .i64 j, .pointer (some ⟨mm, 0, none⟩)] w fun e w' => e = .returned (.bool (b && decide (it M j = 3))) ∧ Below w.heap.size w w' := by
  have h0 : (0 : Int) ≤ (j : Int) := by omega
  have h1 : (j : Int) < (n : Int) := by omega
  have c0 := hmm.cell 0
  have c3 := hM.cell 3
  have c5 : w.cell? ⟨k, j, none⟩ = some (.int .i64 (it M j)) := (hk.cell j).trans (intsA_get (by omega))
  have c5' : w.cell? ⟨k, 0 + j, none⟩ = some (.int .i64 (it M j)) := by rw [Nat.zero_add]; exact c5
  obtain ⟨z, hz⟩ : ∃ z, z = it M j := ⟨_, rfl⟩
  rw [← hz] at c5 c5' ⊢
  clear hz
  cases b with
  | false =>
    go_enter Tryz.func50, Tryz.ntmps50
    go_wp2
    go_ret
    exact ⟨rfl, Below.refl _ _⟩
  | true =>
    go_enter Tryz.func50, Tryz.ntmps50
    go_wp2
    go_ret
    exact ⟨by simp [BEq.beq], Below.refl _ _⟩
set_option maxRecDepth 100000 in
set_option maxHeartbeats 4000000 in
theorem fold48_k (M : List Int) (k n cp m mm : Nat) (hn : M.length = n) (v0 v1 v2 v4 : Value) (x : Bool) (ks : List Int) (hkl : ks.length ≤ 9223372036854775807) (hks : ∀ k, k ∈ ks → ∃ c : Nat, k = c ∧ c < n) (ka : Option Addr) (kc : Nat) (w : World) (hK : IRow w ka ks)
    (hmm : Bx w mm 53 #[.pointer (some ⟨m, 0, none⟩)]) (hM : Bx w m 58 #[v0, v1, v2, .slice (some ⟨k, 0, none⟩) n cp, v4]) (hk : Bx w k 3 (intsA M)) :
    Calls Tryz.prog 48 #[.slice ka ks.length kc, .bool x, .func (.func 50) #[] #[.pointer (some ⟨mm, 0, none⟩)]] w fun e w' => e = .returned (.bool (ks.foldl (fun b k => b && decide (it M k.toNat = 3)) x)) ∧ Below w.heap.size w w' := by
  obtain ⟨r, hr⟩ : ∃ r, r = ks.foldl (fun b k => b && decide (it M k.toNat = 3)) x := ⟨_, rfl⟩
  rw [← hr]
  have HR := Lib.hid hr
  clear hr
  have HKS := Lib.hid hks
  clear hks
  go_enter Tryz.func48, Tryz.ntmps48
  go_wp2
  obtain ⟨wo, rfl⟩ : ∃ wo : World, wo = w := ⟨_, rfl⟩
  go_loopw [1, 11] (fun a i wr => ∃ (j : Nat) (z : Bool), j ≤ ks.length ∧ i = .int .i64 j ∧ a = .bool z ∧ Hid (z = (ks.take j).foldl (fun b k => b && decide (it M k.toNat = 3)) x) ∧ Below wo.heap.size wo wr) (fun _ i _ => ks.length - (intOf i).toNat)
  case atStart => exact ⟨0, x, Nat.zero_le _, rfl, rfl, Lib.hid rfl, Below.refl _ _⟩
  case round =>
    obtain ⟨j, z, hj, rfl, rfl, hH, hB⟩ := hrel
    have hj0 : (0 : Int) ≤ (j : Int) := by omega
    by_cases hlt : j < ks.length
    · have hj1 : (j : Int) < (ks.length : Int) := by omega
      obtain ⟨kb, o, rfl, hkb, q⟩ := hK.at hlt
      have q' := (hB.cell (p := ⟨kb, o + j, none⟩) hkb).trans q
      obtain ⟨t, ht, htl⟩ := HKS.out _ (List.getElem_mem hlt)
      have hst : Hid ((z && decide (it M t = 3)) = (ks.take (j + 1)).foldl (fun b k => b && decide (it M k.toNat = 3)) x) := Lib.hid (by
        rw [List.take_succ_eq_append_getElem hlt, List.foldl_append, ← hH.out, ht]
        simp only [List.foldl_cons, List.foldl_nil, Int.toNat_natCast])
      rw [ht] at q'
      have h50 := mark50_k M k n cp m mm hn v0 v1 v2 v4 z t htl wr (hmm.below hB hmm.lt) (hM.below hB hM.lt) (hk.below hB hk.lt)
      obtain ⟨u, hu⟩ : ∃ u, u = (z && decide (it M t = 3)) := ⟨_, rfl⟩
      rw [← hu] at h50 hst
      clear hu ht q hK
      go_wp2_with (go_at_call 50; ((with_reducible refine h50.mono ?_); rintro e W1 ⟨rfl, hb1⟩))
      go_roundw
      case rel => exact ⟨j + 1, u, by omega, by simp, rfl, hst, hB.trans (hb1.mono hB.size)⟩
      case measure => simp [intOf]; omega
    · obtain rfl : j = ks.length := by omega
      have hz : Hid (r = z) := Lib.hid (by rw [HR.out, hH.out, List.take_length])
      go_wp2_with fail
      exact bodyPost_ret (v := .bool z) (by simp [results, Tryz.results48, go_sem]) rfl ⟨by rw [hz.out], hB⟩
end Go.Proofs.YtdjeokgkeejpcaaGreatDoor

namespace Go.Proofs.YtdjeokgkeejpcaaGreatDoor
open Go Go.Proofs Go.RowKit
attribute [local go_sem] Oper.semAt_some
theorem leafK_no {k : Int} (h : k = 1 ∨ k = 2) : leafK k = false := by rcases h with rfl | rfl <;> rfl
theorem leafK_yes {k : Int} (h1 : ¬ k = 1) (h2 : ¬ k = 2) : leafK k = true := by simp [leafK, h1, h2]
set_option maxRecDepth 100000 in
set_option maxHeartbeats 16000000 in
theorem mark22_k (l : List Pt) (hl : l.length ≤ 120) (hTr : Tr l) (la : Option Addr) (c : Nat) (X : List Bool) (R M : List Int) (hX : X.length = l.length) (hRl : R.length = l.length) (hMl : M.length = l.length) (first : Int) (m g r k cr : Nat) (i : Nat) (hi : i < l.length) (w : World) (hP : PRow w la l)
    (hm : Bx w m 58 #[.slice la l.length c, .slice (some ⟨g, 0, none⟩) l.length l.length, .slice (some ⟨r, 0, none⟩) l.length cr, .slice (some ⟨k, 0, none⟩) l.length l.length, .int .i64 first])
    (hg : Bx w g 4 (bools X)) (hr : Bx w r 3 (intsA R)) (hk : Bx w k 3 (intsA M)) :
    Calls Tryz.prog 22 #[.pointer (some ⟨m, 0, none⟩), .int .i64 i] w fun e w' => e = .returned (.int .i64 (markF l X R M first i)) ∧ Below w.heap.size w w' := by
  obtain ⟨b, off, ka, kc, rfl, hbl, z, hK, hkl⟩ := hP.at hi
  rw [← pt_get hi] at z hK hkl
  have hks : Hid (∀ k, k ∈ (pt l i).kids → ∃ c : Nat, k = c ∧ c < l.length) := Lib.hid (fun k hk => by
    obtain ⟨c, h1, _, h2⟩ := hTr.kid hi hk
    exact ⟨c, h1, h2⟩)
  have hmf : Hid (∀ v, bt X i = true ∧ v = 1 ∨ bt X i = false ∧ sureF l R M first i = true ∧ v = 3 ∨ bt X i = false ∧ sureF l R M first i = false ∧ v = 2 → markF l X R M first i = v) := Lib.hid (fun v h => by
    unfold markF
    rcases h with ⟨h1, rfl⟩ | ⟨h1, h2, rfl⟩ | ⟨h1, h2, rfl⟩
    · rw [h1]; rfl
    · rw [h1, h2]; rfl
    · rw [h1, h2]; rfl)
  have hsn : Hid ((pt l i).kind = 1 ∨ (pt l i).kind = 2 → sureF l R M first i = (pt l i).kids.foldl (fun b k => b && decide (it M k.toNat = 3)) (aheadF first (pt l i).look)) := Lib.hid (fun h => by unfold sureF; rw [leafK_no h]; rfl)
  have hsl : Hid (¬ (pt l i).kind = 1 → ¬ (pt l i).kind = 2 → sureF l R M first i = aheadF first (it R i)) := Lib.hid (fun h1 h2 => by unfold sureF; rw [leafK_yes h1 h2]; rfl)
  obtain ⟨mv, hmv⟩ : ∃ mv, mv = markF l X R M first i := ⟨_, rfl⟩
  obtain ⟨sv, hsv⟩ : ∃ sv, sv = sureF l R M first i := ⟨_, rfl⟩
  obtain ⟨p, hp⟩ : ∃ p, p = pt l i := ⟨_, rfl⟩
  rw [← hmv, ← hsv] at hmf
  rw [← hp] at z hK hkl hks
  rw [← hp, ← hsv] at hsn hsl
  rw [← hmv]
  clear hmv hsv hp hTr
  have hi0 : (0 : Int) ≤ (i : Int) := by omega
  have hi1 : (i : Int) < (l.length : Int) := by omega
  have cX : w.cell? ⟨g, i, none⟩ = some (.bool (bt X i)) := (hg.cell i).trans (bools_get (by omega))
  have cR : w.cell? ⟨r, i, none⟩ = some (.int .i64 (it R i)) := (hr.cell i).trans (intsA_get (by omega))
  obtain ⟨xv, hxv⟩ : ∃ xv, xv = bt X i := ⟨_, rfl⟩
  rw [← hxv] at cX hmf
  obtain ⟨rv, hrv⟩ : ∃ rv, rv = it R i := ⟨_, rfl⟩
  rw [← hrv] at cR hsl
  clear hxv hrv
  -- the world behind the marker's box and the part's
  have n1 := Bx.new w 53 #[.pointer (some ⟨m, 0, none⟩)]
  have hA1 := (Below.refl _ w).alloc (Nat.le_refl _) (.cells #[.pointer (some ⟨m, 0, none⟩)] 53)
  have hz1 : (w.alloc (.cells #[.pointer (some ⟨m, 0, none⟩)] 53)).heap.size = w.heap.size + 1 := by simp
  obtain ⟨W1, hW1⟩ : ∃ W1, W1 = w.alloc (.cells #[.pointer (some ⟨m, 0, none⟩)] 53) := ⟨_, rfl⟩
  rw [← hW1] at n1 hA1 hz1
  have z := z.below hA1 hbl
  obtain ⟨y0, y1, y2, y3, y4, y5, y6, y7⟩ := z
  have hm1 := hm.below hA1 hm.lt
  have c0 := hm1.cell 0
  have cn := n1.cell 0
  have HW1 := Lib.hid hW1
  have HZ1 := Lib.hid hz1
  clear hz1
  go_enter Tryz.func22, Tryz.ntmps22
  go_upto_region 1 with (fail)
  rw [← HW1.out]
  have hXb := Bx.new W1 36 #[.int .i64 0, .int .i64 0, .int .i64 0, .int .i64 0, .int .i64 0, .int .i64 0, .slice none 0 0, .int .u64 0]
  have hA2 := (Below.refl _ W1).alloc (Nat.le_refl _) (.cells #[.int .i64 0, .int .i64 0, .int .i64 0, .int .i64 0, .int .i64 0, .int .i64 0, .slice none 0 0, .int .u64 0] 36)
  clear hW1
  go_upto_region 4 with ((with_reducible refine st_id ?_); refine AX.wpList_storeBox (vs := [.int .i64 p.sym, .int .i64 p.kind, .int .i64 p.frm, .int .i64 p.inn, .int .i64 p.too, .int .i64 p.look, .slice ka p.kids.length kc, .int .u64 (p.met : Nat)]) rfl rfl sz36 hXb rfl rfl ?_; rintro W3 g3 g4 g5)
  have hT : Bx W3 W1.heap.size 36 #[.int .i64 p.sym, .int .i64 p.kind, .int .i64 p.frm, .int .i64 p.inn, .int .i64 p.too, .int .i64 p.look, .slice ka p.kids.length kc, .int .u64 (p.met : Nat)] := g3
  have hB3 := hA2.trans (AX.below_turn (Nat.le_refl _) (.inl hT.lt) g4 g5)
  have hBw : Below w.heap.size w W3 := hA1.trans (hB3.mono hA1.size)
  have n3 := n1.below hB3 n1.lt
  have hm3 := hm.below hBw hm.lt
  have hg3 := hg.below hBw hg.lt
  have hr3 := hr.below hBw hr.lt
  have hk3 := hk.below hBw hk.lt
  have hK3 := hK.below hBw (Nat.le_refl _)
  obtain ⟨x0, x1, x2, x3, x4, x5, x6, x7⟩ := hT.eight
  have d0 := n3.cell 0
  have d1 := hm3.cell 1
  have d2 := (hBw.cell (p := ⟨g, i, none⟩) hg.lt).trans cX
  have d2' : W3.cell? ⟨g, 0 + i, none⟩ = some (.bool xv) := by rw [Nat.zero_add]; exact d2
  have hMl0 := hMl
  clear g3 g4 g5 hXb hA2 y0 y1 y2 y3 y4 y5 y6 y7 hm1 c0 cn cX hA1 n1 hB3 HW1 HZ1
  cases xv with
  | true =>
    have hmv : Hid (mv = 1) := Lib.hid (hmf.out 1 (.inl ⟨rfl, rfl⟩))
    clear hmf
    go_wp2_with fail
    exact bodyPost_ret (v := .int .i64 1) (by simp [results, Tryz.results22, go_sem]) rfl ⟨by rw [hmv.out], hBw⟩
  | false =>
    have hmt : Hid (sv = true → mv = 3) := Lib.hid fun h => hmf.out 3 (.inr (.inl ⟨rfl, h, rfl⟩))
    have hmn : Hid (sv = false → mv = 2) := Lib.hid fun h => hmf.out 2 (.inr (.inr ⟨rfl, h, rfl⟩))
    clear hmf
    have e0 := BW.cell (n3.cell 0) n3.lt
    have e5 := BW.cell x5 hT.lt
    have e6 := BW.cell x6 hT.lt
    have h48 := fun (q : BW W3) (x : Bool) => fold48_k M k l.length l.length m w.heap.size hMl (.slice (some ⟨b, off, none⟩) l.length c) (.slice (some ⟨g, 0, none⟩) l.length l.length) (.slice (some ⟨r, 0, none⟩) l.length cr) (.int .i64 first) x p.kids hkl hks.out ka kc q.W (hK3.below q.h (Nat.le_refl _)) (n3.below q.h n3.lt) (hm3.below q.h hm3.lt) (hk3.below q.h hk3.lt)
    have h49 := fun (q : BW W3) (look : Int) => ahead49_k m _ _ _ _ first look q.W (hm3.below q.h hm3.lt)
    by_cases hkn : p.kind = 1 ∨ p.kind = 2
    · have hs := hsn.out hkn
      obtain ⟨av, hav⟩ : ∃ av, av = aheadF first p.look := ⟨_, rfl⟩
      have h49 := fun q : BW W3 => h49 q p.look
      rw [← hav] at hs h49
      have h48 := fun q : BW W3 => h48 q av
      rw [← hs] at h48
      clear hs hav hsl hsn
      rcases hkn with hkd | hkd
      all_goals
        rw [hkd] at x1
        clear hkd
        go_upto_region 7 with (fail)
        refine region_below (by kernel_rfl) (by kernel_rfl) ?_
        repeat (go_big_quiet_step (first | (go_at_call 49; with_reducible exact Calls.below_of (h49 _)) | (go_at_call 48; with_reducible exact Calls.below_of (h48 _))))
        refine wpQuiet_nil ?_
        rintro _ ⟨q, rfl⟩
        have hq := hBw.trans (q.h.mono hBw.size)
        cases sv with
        | true =>
          have hv := Lib.hid (hmt.out rfl)
          clear hmt hmn
          go_wp2_with fail
          exact bodyPost_ret (v := .int .i64 3) (by simp [results, Tryz.results22, go_sem]) rfl ⟨by rw [hv.out], hq⟩
        | false =>
          have hv := Lib.hid (hmn.out rfl)
          clear hmt hmn
          go_wp2_with fail
          exact bodyPost_ret (v := .int .i64 2) (by simp [results, Tryz.results22, go_sem]) rfl ⟨by rw [hv.out], hq⟩
    · have hk1 : ¬ p.kind = 1 := fun h => hkn (.inl h)
      have hk2 : ¬ p.kind = 2 := fun h => hkn (.inr h)
      have hs := hsl.out hk1 hk2
      have h49 := fun q : BW W3 => h49 q rv
      rw [← hs] at h49
      have f2 := BW.cell (hm3.cell 2) hm3.lt
      have fr := BW.cell ((hBw.cell (p := ⟨r, i, none⟩) hr.lt).trans cR) hr3.lt
      have fr' : ∀ q : BW W3, q.W.cell? ⟨r, 0 + i, none⟩ = some (.int .i64 rv) := by rw [Nat.zero_add]; exact fr
      have hq1 : (p.kind == 1) = false := beq_eq_false_iff_ne.2 hk1
      have hq2 : (p.kind == 2) = false := beq_eq_false_iff_ne.2 hk2
      clear hs hsl hsn h48 hkn e5 e6 hk1 hk2
      go_upto_region 3 with (fail)
      refine region_below (by kernel_rfl) (by kernel_rfl) ?_
      repeat (go_big_quiet_step (first | (go_at_call 49; with_reducible exact Calls.below_of (h49 _))))
      refine wpQuiet_nil ?_
      rintro _ ⟨q, rfl⟩
      have hq := hBw.trans (q.h.mono hBw.size)
      cases sv with
      | true =>
        have hv := Lib.hid (hmt.out rfl)
        clear hmt hmn
        go_wp2_with fail
        exact bodyPost_ret (v := .int .i64 3) (by simp [results, Tryz.results22, go_sem]) rfl ⟨by rw [hv.out], hq⟩
      | false =>
        have hv := Lib.hid (hmn.out rfl)
        clear hmt hmn
        go_wp2_with fail
        exact bodyPost_ret (v := .int .i64 2) (by simp [results, Tryz.results22, go_sem]) rfl ⟨by rw [hv.out], hq⟩
end Go.Proofs.YtdjeokgkeejpcaaGreatDoor
