import Derived.Test.YtjaabolpdelbiaaDoorC3
namespace Go.Proofs.YtjaabolpdelbiaaDoor
open Go Go.Proofs Go.RowKit Go.Shelf
attribute [local go_sem] Oper.semAt_some

theorem row_shape {w : World} {base : Nat} {e : TypeId} {size : Nat} {v : Value} {n : Nat} {xs : List Value} (h : w.ownsRow base e size v n xs) : ∃ a c, v = .slice a n c := by
  rcases h.2 with ⟨rfl, rfl⟩ | ⟨g, cap, cur, rfl, _⟩
  · exact ⟨_, _, rfl⟩
  · exact ⟨_, _, rfl⟩

theorem seq_some (W : World) (b : Nat) : (binOp .eql 40 (.func (.func 41) #[] #[.pointer (some ⟨b, 0, none⟩)]) .nilFunc).run Tryd.prog W = .ok (.bool false) W := by kernel_rfl

theorem row_base {w : World} {base base' : Nat} {e : TypeId} {size : Nat} {v : Value} {n : Nat} {xs : List Value} (h : w.ownsRow base e size v n xs) (hb : base' ≤ base) : w.ownsRow base' e size v n xs := by
  refine ⟨h.1, ?_⟩
  rcases h.2 with hn | ⟨g, cap, cur, hv, hg, rest⟩
  · exact .inl hn
  · exact .inr ⟨g, cap, cur, hv, Nat.le_trans hb hg, rest⟩

set_option maxRecDepth 100000 in
set_option maxHeartbeats 4000000 in
/-- The law's own 'all'. -/
theorem all_in (F : Fence) (n : Nat) (h17 : F.fn 17) (h19 : F.fn 19) (h41 : F.fn 41) (h42 : F.fn 42) (hro : F.round = none) (hn : 4 ≤ n) (a0 a1 a2 a3 : Nat) (hw : wlt a0 a1 a2 a3) (w : World) (h0 : 0 < w.heap.size) (hT : TabAt w) :
    CallsIn F n Tryd.prog 17 #[.agg #[.int .u64 a0, .int .u64 a1, .int .u64 a2, .int .u64 a3]] w fun e W' => ∃ (v : Value) (xs : List (Fin 256)), e = .returned (.tuple #[v, .bool true]) ∧ xs.map Fin.val = bytesB a0 a1 a2 a3 ∧ W'.ownsRow w.heap.size 5 1 v xs.length (xs.map encv) ∧ Below w.heap.size w W' := by
  have h1 : 1 ≤ n := by omega
  obtain ⟨i0, hi, hz0, hz1, hz2⟩ := info_parts info5
  have he19 : ∀ W, CallsIn F (n - 1) Tryd.prog 19 #[.agg #[.int .u64 a0, .int .u64 a1, .int .u64 a2, .int .u64 a3]] W fun e w' => e = .returned (.func (.func 41) #[] #[.pointer (some ⟨W.heap.size, 0, none⟩)]) ∧ w' = W.alloc (.cells #[.int .u64 a0, .int .u64 a1, .int .u64 a2, .int .u64 a3] 27) := by
    intro W
    refine callsIn_of_wp Tryd.func19 rfl h19 ?_ hro
    simp only [Tryd.ntmps19, List.size_toArray, List.length_cons, List.length_nil, Nat.reduceAdd, Nat.reduceSub, Array.replicate_succ, Array.replicate_zero, List.push_toArray, List.append_toArray, List.nil_append, List.cons_append]
    gi_wp2
    go_ret
    exact ⟨rfl, rfl⟩
  have hsq := seq_some
  have HE := Lib.hid he19
  clear he19
  obtain ⟨W4, hW4⟩ : ∃ W4, W4 = ((((w.alloc (.cells #[.int .u64 a0, .int .u64 a1, .int .u64 a2, .int .u64 a3] 27)).alloc (.cells #[.slice none 0 0] 35)).alloc (.cells #[.bool false] 4)).alloc (.cells #[.int .u64 a0, .int .u64 a1, .int .u64 a2, .int .u64 a3] 27)).alloc (.cells #[.slice none 0 0] 35) := ⟨_, rfl⟩
  have hsz : W4.heap.size = w.heap.size + 1 + 1 + 1 + 1 + 1 := by rw [hW4]; simp
  have hB4 : Below w.heap.size w W4 := by rw [hW4]; exact (((((Below.refl _ w).alloc (Nat.le_refl _) _).alloc (by simp) _).alloc (by simp; omega) _).alloc (by simp; omega) _).alloc (by simp; omega) _
  have bO : Boxed W4 (w.heap.size + 1 + 1 + 1 + 1) 35 (.slice none 0 0) := by
    have := Boxed.new ((((w.alloc (.cells #[.int .u64 a0, .int .u64 a1, .int .u64 a2, .int .u64 a3] 27)).alloc (.cells #[.slice none 0 0] 35)).alloc (.cells #[.bool false] 4)).alloc (.cells #[.int .u64 a0, .int .u64 a1, .int .u64 a2, .int .u64 a3] 27)) 35 (.slice none 0 0)
    simp only [World.size_alloc] at this
    rw [hW4]; exact this
  have b1 : Boxed W4 (w.heap.size + 1) 35 (.slice none 0 0) := by
    have := Boxed.new (w.alloc (.cells #[.int .u64 a0, .int .u64 a1, .int .u64 a2, .int .u64 a3] 27)) 35 (.slice none 0 0)
    simp only [World.size_alloc] at this
    rw [hW4]; exact ((this.alloc _).alloc _).alloc _
  have b2 : Boxed W4 (w.heap.size + 1 + 1) 4 (.bool false) := by
    have := Boxed.new ((w.alloc (.cells #[.int .u64 a0, .int .u64 a1, .int .u64 a2, .int .u64 a3] 27)).alloc (.cells #[.slice none 0 0] 35)) 4 (.bool false)
    simp only [World.size_alloc] at this
    rw [hW4]; exact (this.alloc _).alloc _
  have hC4 : ClsAt (w.heap.size + 1 + 1 + 1) a0 a1 a2 a3 W4 := by rw [hW4]; exact ⟨by go_simp, by go_simp, by go_simp, by go_simp⟩
  have hT4 := hT.below hB4 h0
  have HW := Lib.hid hW4
  have HS := Lib.hid hsz
  clear hW4 hsz hT
  refine callsIn_of_wp_marks Tryd.func17 rfl h17 ?_ hro
  simp only [Tryd.ntmps17, List.size_toArray, List.length_cons, List.length_nil, Nat.reduceAdd, Nat.reduceSub, Array.replicate_succ, Array.replicate_zero, List.push_toArray, List.append_toArray, List.nil_append, List.cons_append]
  gi_wp2_with (gi_at_call 19; refine (HE.out _).mono ?_; rintro e w' ⟨rfl, rfl⟩)
  rw [← HW.out]
  have hszle : w.heap.size + 1 + 1 + 1 + 1 ≤ W4.heap.size := by rw [HS.out]; omega
  refine wpIn_rangeFunc_ownG hro h1 (gf := 41) (lb := #[.pointer (some ⟨w.heap.size + 1 + 1 + 1, 0, none⟩)]) rfl h41 (enters_of Tryd.func41 (by kernel_rfl) rfl)
    (each_stops F (n - 1) h41 h42 hro (by omega) (w.heap.size + 1 + 1 + 1) (w.heap.size + 1 + 1 + 1 + 1) a0 a1 a2 a3 hw _ (by omega) (by omega) hszle hT4 hC4) belowK_t (belowK_b (by omega)) (Below.refl _ _) (fun _ => rfl)
    (fun pre W => (∃ v, Boxed W (w.heap.size + 1 + 1 + 1 + 1) 35 v ∧ W.ownsRow (w.heap.size + 1 + 1 + 1 + 1) 5 1 v pre.length (pre.map encv) ∧ True) ∧ Below (w.heap.size + 1 + 1 + 1 + 1) W4 W)
    (fun _ _ _ => False)
    (OwnFrom.and (Own.from (holdsRow_own (w.heap.size + 1 + 1 + 1 + 1) (w.heap.size + 1 + 1 + 1 + 1) 35 5 1 (fun pre : List (Fin 256) => pre.length) (fun pre => pre.map encv) (fun pre v => True)) _) (ownFrom_below hszle hszle))
    (fun _ _ _ _ _ hs _ _ => hs)
    ⟨⟨_, bO, World.ownsRow_nil _ _ _ _, trivial⟩, Below.refl _ _⟩
    (fun x => { tmps := #[.agg #[.int .u64 a0, .int .u64 a1, .int .u64 a2, .int .u64 a3], .pointer (some ⟨w.heap.size, 0, none⟩), .pointer (some ⟨w.heap.size + 1, 0, none⟩), .pointer (some ⟨w.heap.size + 1 + 1, 0, none⟩), .func (.func 41) #[] #[.pointer (some ⟨w.heap.size + 1 + 1 + 1, 0, none⟩)], .pointer (some ⟨w.heap.size + 1 + 1 + 1 + 1, 0, none⟩), encv x, .agg #[.int .u64 a0, .int .u64 a1, .int .u64 a2, .int .u64 a3], .func (.func 41) #[] #[.pointer (some ⟨w.heap.size + 1 + 1 + 1, 0, none⟩)], .func (.func 41) #[] #[.pointer (some ⟨w.heap.size + 1 + 1 + 1, 0, none⟩)], .bool false, .func (.func 41) #[] #[.pointer (some ⟨w.heap.size + 1 + 1 + 1, 0, none⟩)], encv x, undef, undef, undef, undef, undef, undef, undef, undef], defers := [] }) ?assign ?body ?done ?stop
  case assign =>
    intro l x W K hK
    gi_wp2
    exact hK
  case body =>
    rintro l pre x W ⟨⟨v, hv, hrow, _⟩, hB⟩ hlt
    obtain ⟨aa, cc, rfl⟩ := row_shape hrow
    have hc := hv.cell
    have hne : ((pre.length : Int) == 256) = false := by simp; omega
    have hsW : w.heap.size + 1 + 1 + 1 + 1 ≤ W.heap.size := Nat.le_trans hszle hB.size
    gi_wp2_with (gi_at_builtin; refine wpListIn_append_own _ rfl _ _ 35 rfl (w.heap.size + 1 + 1 + 1 + 1) 5 i0 (.int .u8 0) 1 1 Tryd.underlying35 hi hz0 hz1 hz2 rfl (by decide) _ _ _ rfl (hrow.alloc _) ⟨W.heap.size, 0, none⟩ 1 1 [encv x] rfl rfl (cell_one_new _ _ _) (by simp [Value.oneCell']) (by unfold maxLen; omega) (by omega) (by simp; omega) ?_; intro v' w1 hown' hgrow _; obtain ⟨g', cap', rfl⟩ := ownsRow_succ hown'; obtain ⟨hv1, hv2, hr2, hk2, hb2⟩ := hv.appended (by decide) hrow hsW (Nat.le_refl _) hown' hgrow; have hc1 := hv1.cell; have hf1 := hv1.frozen)
    exact ⟨hk2.from _, hb2, ⟨_, hv2, by simpa using hr2, trivial⟩, hB.trans hb2⟩
  case done =>
    rintro D ys W hD hys ⟨⟨v, hv, hrow, _⟩, hB⟩ hK
    have hc := hv.cell
    have HY := Lib.hid hys
    clear hys
    have c1 : Boxed W (w.heap.size + 1) 35 (.slice none 0 0) := (hB.block _ (by omega)).trans b1
    have c2 : Boxed W (w.heap.size + 1 + 1) 4 (.bool false) := (hB.block _ (by omega)).trans b2
    have k1 := c1.cell; have k2 := c2.cell; have f1 := c1.frozen; have f2 := c2.frozen
    obtain ⟨aa, cc, rfl⟩ := row_shape hrow
    gi_wp2
    have d1 := (c1.set (.slice aa ys.length cc)).other (show w.heap.size + 1 ≠ w.heap.size + 1 + 1 by omega) (.bool true)
    have d2 := (c2.other (show w.heap.size + 1 + 1 ≠ w.heap.size + 1 by omega) (.slice aa ys.length cc)).set (.bool true)
    have hr1 : ((W.setCell ⟨w.heap.size + 1, 0, none⟩ (.slice aa ys.length cc)).setCell ⟨w.heap.size + 1 + 1, 0, none⟩ (.bool true)).ownsRow w.heap.size 5 1 (.slice aa ys.length cc) ys.length (ys.map encv) := by
      have hlt := hrow.lt
      have g1 := hrow.kept (grownBy_setCell' W (w.heap.size + 1) (.slice aa ys.length cc)) (.inr fun e => by have := (hlt _ e).1; omega)
      have g2 := g1.kept (grownBy_setCell' _ (w.heap.size + 1 + 1) (.bool true)) (.inr fun e => by have := (hlt _ e).1; omega)
      exact row_base g2 (by omega)
    have hK' := ((KeepsOthers.setCell W ⟨w.heap.size + 1, 0, none⟩ (.slice aa ys.length cc)).trans (KeepsOthers.setCell _ ⟨w.heap.size + 1 + 1, 0, none⟩ (.bool true))).same D _ hK rfl
    have hBW : Below w.heap.size w ((W.setCell ⟨w.heap.size + 1, 0, none⟩ (.slice aa ys.length cc)).setCell ⟨w.heap.size + 1 + 1, 0, none⟩ (.bool true)) :=
      ((hB4.trans (hB.mono (by omega))).setCell (p := ⟨w.heap.size + 1, 0, none⟩) (Nat.le_succ _) _).setCell (p := ⟨w.heap.size + 1 + 1, 0, none⟩) (by simp; omega) _
    generalize ((W.setCell ⟨w.heap.size + 1, 0, none⟩ (.slice aa ys.length cc)).setCell ⟨w.heap.size + 1 + 1, 0, none⟩ (.bool true)) = W1 at d1 d2 hr1 hK' hBW ⊢
    refine ⟨by simp, .inl ⟨_, _, rfl, run_takeDeferred hK', ?_⟩⟩
    have e1 := cell_kept d1.cell (grownBy_putObj' W1 D (.deferred none)) (fun r e => by cases e; exact ⟨_, hK', rfl⟩)
    have e2 := cell_kept d2.cell (grownBy_putObj' W1 D (.deferred none)) (fun r e => by cases e; exact ⟨_, hK', rfl⟩)
    refine ⟨.tuple #[.slice aa ys.length cc, .bool true], ?_, _, ys, rfl, HY.out, ownsRow_putObj hr1 _ hK' rfl, hBW.trans (belowK_b (w := w) (Nat.le_refl _) W1 D _ _ (by omega) hK' rfl rfl)⟩
    simp [results, Tryd.f17, go_sem, e1, e2]
  case stop =>
    rintro D c pre W _ _ h _
    exact h.elim
end Go.Proofs.YtjaabolpdelbiaaDoor
