import Derived.Test.YtjaabolpdelbiaaDoorC1
namespace Go.Proofs.YtjaabolpdelbiaaDoor
open Go Go.Proofs Go.RowKit Go.Shelf
attribute [local go_sem] Oper.semAt_some

theorem ClsAt.below {n b a0 a1 a2 a3 : Nat} {w w' : World} (h : ClsAt b a0 a1 a2 a3 w) (hb : Below n w w') (hn : b < n) : ClsAt b a0 a1 a2 a3 w' :=
  ⟨(hb.cell (p := ⟨b, 0, none⟩) hn).trans h.1, (hb.cell (p := ⟨b, 1, none⟩) hn).trans h.2.1, (hb.cell (p := ⟨b, 2, none⟩) hn).trans h.2.2.1, (hb.cell (p := ⟨b, 3, none⟩) hn).trans h.2.2.2⟩

abbrev encs (x : Fin 256) : Array Value := #[.int .u8 (x.val : Nat)]
abbrev encv (x : Fin 256) : Value := .int .u8 (x.val : Nat)

/-- class.Each(c) hands back an iterator. -/
theorem each_stops (F : Fence) (n : Nat) (h41 : F.fn 41) (h42 : F.fn 42) (hro : F.round = none) (hn : 1 ≤ n) (b n₀ a0 a1 a2 a3 : Nat) (hw : wlt a0 a1 a2 a3) (w : World) (hb : b < w.heap.size) (hn0 : 0 < n₀) (_hn₀ : n₀ ≤ w.heap.size) (hT : TabAt w) (hC : ClsAt b a0 a1 a2 a3 w) :
    SeqStopsK F n Tryd.prog 41 #[.pointer (some ⟨b, 0, none⟩)] encs (Below n₀) (fun xs => xs.map Fin.val = bytesB a0 a1 a2 a3) (fun pre => ∃ k, k ≤ 256 ∧ pre.map Fin.val = upB a0 a1 a2 a3 k) 256 w := fun l J Jx W hW _ _ hY h0 => by
  have hb0 : 0 < w.heap.size := by omega
  refine (each1_in F n h41 h42 hro hn l b n₀ a0 a1 a2 a3 hw hn0 (fun pre W => ∃ xs : List (Fin 256), xs.map Fin.val = pre ∧ J xs W) (fun pre W => ∃ xs : List (Fin 256), xs.map Fin.val = pre ∧ Jx xs W)
    (fun pre x W1 ⟨xs, h1, h2⟩ hl hx => ?_) W (hT.below hW hb0) (hC.below hW (by omega)) ⟨[], rfl, h0⟩).mono ?_
  · obtain ⟨fn, tmps, assign, body, hy, hR⟩ := hY xs ⟨x, hx⟩ W1 h2 (by have := congrArg List.length h1; simp at this; omega)
    refine ⟨fn, tmps, assign, body, hy, hR.mono ?_⟩
    rintro e W' (⟨he, hj, hk⟩ | ⟨he, hj⟩)
    · exact .inl ⟨he, ⟨xs ++ [⟨x, hx⟩], by simp [h1], hj⟩, hk⟩
    · exact .inr ⟨he, ⟨xs ++ [⟨x, hx⟩], by simp [h1], hj⟩⟩
  · rintro e W' ⟨he, ⟨ys, hys, xs, h1, h2⟩ | ⟨pre, ⟨k, hk, hp⟩, xs, h1, h2⟩⟩
    · exact ⟨he, .inl ⟨xs, h1.trans hys, h2⟩⟩
    · exact ⟨he, .inr ⟨xs, ⟨k, hk, h1.trans hp⟩, h2⟩⟩

theorem info5 : (Tryd.prog.info? 5).map (fun i => (i.zero, i.size, i.bytes)) = some (some (.int .u8 0), 1, 1) := by kernel_rfl

set_option maxRecDepth 100000 in
set_option maxHeartbeats 2000000 in
/-- slices.AppendSeq(nil, class.Each's closure). -/
theorem appendSeq_in (F : Fence) (n : Nat) (h50 : F.fn 50) (h41 : F.fn 41) (h42 : F.fn 42) (hro : F.round = none) (hn : 3 ≤ n) (b a0 a1 a2 a3 : Nat) (hw : wlt a0 a1 a2 a3) (w : World) (hb : b < w.heap.size) (hT : TabAt w) (hC : ClsAt b a0 a1 a2 a3 w) :
    CallsIn F n Tryd.prog 50 #[.slice none 0 0, .func (.func 41) #[] #[.pointer (some ⟨b, 0, none⟩)]] w fun e W' => ∃ (v : Value) (xs : List (Fin 256)), e = .returned v ∧ xs.map Fin.val = bytesB a0 a1 a2 a3 ∧ W'.ownsRow w.heap.size 5 1 v xs.length (xs.map encv) ∧ Below w.heap.size w W' := by
  have h1 : 1 ≤ n := by omega
  obtain ⟨i0, hi, hz0, hz1, hz2⟩ := info_parts info5
  refine callsIn_of_wp_marks Tryd.func50 rfl h50 ?_ hro
  simp only [Tryd.ntmps50, List.size_toArray, List.length_cons, List.length_nil, Nat.reduceAdd, Nat.reduceSub, Array.replicate_succ, Array.replicate_zero, List.push_toArray, List.append_toArray, List.nil_append, List.cons_append]
  gi_wp2
  have bO := Boxed.new w 35 (.slice none 0 0)
  have hB0 : Below w.heap.size w (w.alloc (.cells #[.slice none 0 0] 35)) := (Below.refl _ w).alloc (Nat.le_refl _) _
  refine wpIn_rangeFunc_ownG hro h1 (gf := 41) (lb := #[.pointer (some ⟨b, 0, none⟩)]) rfl h41 (enters_of Tryd.func41 (by kernel_rfl) rfl)
    (each_stops F (n - 1) h41 h42 hro (by omega) b w.heap.size a0 a1 a2 a3 hw _ (by simp; omega) (by omega) (by simp) (hT.below hB0 (by omega)) (hC.below hB0 hb)) belowK_t (belowK_b (by simp)) (Below.refl _ _) (fun _ => rfl)
    (fun pre W => (∃ v, Boxed W w.heap.size 35 v ∧ W.ownsRow w.heap.size 5 1 v pre.length (pre.map encv) ∧ True) ∧ Below w.heap.size w W)
    (fun _ _ _ => False)
    (OwnFrom.and (Own.from (holdsRow_own w.heap.size w.heap.size 35 5 1 (fun pre : List (Fin 256) => pre.length) (fun pre => pre.map encv) (fun pre v => True)) _) (ownFrom_below (Nat.le_refl _) (by simp)))
    (fun _ _ _ _ _ hs _ _ => hs)
    ⟨⟨_, bO, World.ownsRow_nil _ _ _ _, trivial⟩, hB0⟩
    (fun x => { tmps := #[.slice none 0 0, .func (.func 41) #[] #[.pointer (some ⟨b, 0, none⟩)], .pointer (some ⟨w.heap.size, 0, none⟩), undef, .slice none 0 0, encv x, .func (.func 41) #[] #[.pointer (some ⟨b, 0, none⟩)], encv x, undef, undef, undef, undef, undef], defers := [] }) ?assign ?body ?done ?stop
  case assign =>
    intro l x W K hK
    gi_wp2
    exact hK
  case body =>
    rintro l pre x W ⟨⟨v, hv, hrow, _⟩, hB⟩ hlt
    have hc := hv.cell
    gi_wp2_with (gi_at_builtin; refine wpListIn_append_own _ rfl _ _ 35 rfl w.heap.size 5 i0 (.int .u8 0) 1 1 Tryd.underlying35 hi hz0 hz1 hz2 rfl (by decide) _ _ _ rfl (hrow.alloc _) ⟨W.heap.size, 0, none⟩ 1 1 [encv x] rfl rfl (cell_one_new _ _ _) (by simp [Value.oneCell']) (by unfold maxLen; omega) (by omega) (by have := hB.size; simp; omega) ?_; intro v' w1 hown' hgrow _; obtain ⟨g', cap', rfl⟩ := ownsRow_succ hown'; obtain ⟨hv1, hv2, hr2, hk2, hb2⟩ := hv.appended (by decide) hrow hB.size (Nat.le_refl _) hown' hgrow; have hc1 := hv1.cell; have hf1 := hv1.frozen)
    exact ⟨hk2.from _, hb2, ⟨_, hv2, by simpa using hr2, trivial⟩, hB.trans hb2⟩
  case done =>
    rintro D ys W hD hys ⟨⟨v, hv, hrow, _⟩, hB⟩ hK
    have hc := hv.cell
    have HY := Lib.hid hys
    clear hys
    gi_wp2
    refine ⟨by simp, .inl ⟨_, _, rfl, run_takeDeferred hK, ?_⟩⟩
    exact ⟨_, results_tmp rfl _ _ _, v, ys, rfl, HY.out, ownsRow_putObj hrow _ hK rfl, hB.trans (belowK_b (w := w) (Nat.le_refl _) W D _ _ (by simp at hD; omega) hK rfl rfl)⟩
  case stop =>
    rintro D c pre W _ _ h _
    exact h.elim
end Go.Proofs.YtjaabolpdelbiaaDoor
