import Derived.Test.YtjaabolpdelbiaaDoorC11
import Derived.Sort.CutIn
namespace Go.Proofs.YtjaabolpdelbiaaDoor
open Go Go.Proofs Go.RowKit Go.Shelf
attribute [local go_sem] Oper.semAt_some

theorem ownsRow_below {B : Nat} {e : TypeId} {k : Nat} {v : Value} {n : Nat} {xs : List Value} {w w' : World} (h : w.ownsRow B e k v n xs) (hb : Below w.heap.size w w') : w'.ownsRow B e k v n xs := by
  refine ⟨h.1, ?_⟩
  rcases h.2 with hn | ⟨g, cap, cur, hv, hg, hh, rest⟩
  · exact .inl hn
  · exact .inr ⟨g, cap, cur, hv, hg, (hb.block g (Array.getElem?_eq_some_iff.1 hh).1).trans hh, rest⟩

theorem row_below {n₀ B : Nat} {e : TypeId} {k : Nat} {v : Value} {n : Nat} {xs : List Value} {w w' : World} (h : w.ownsRow B e k v n xs) (hb : Below n₀ w w') (hl : ∀ g, v.ownBlock = some g → g < n₀) : w'.ownsRow B e k v n xs := by
  refine ⟨h.1, ?_⟩
  rcases h.2 with hn | ⟨g, cap, cur, rfl, hg, hh, rest⟩
  · exact .inl hn
  · exact .inr ⟨g, cap, cur, rfl, hg, (hb.block g (hl g rfl)).trans hh, rest⟩
theorem row_addr {B : Nat} {e : TypeId} {k : Nat} {a : Option Addr} {n c : Nat} {xs : List Value} {w : World} (h : w.ownsRow B e k (.slice a n c) n xs) (hn : 0 < n) : ∃ g, a = some ⟨g, 0, none⟩ := by
  rcases h.2 with ⟨_, h0⟩ | ⟨g, cap, cur, h0, _⟩
  · omega
  · cases h0
    exact ⟨g, rfl⟩
theorem upB_sorted (a0 a1 a2 a3 n : Nat) : (upB a0 a1 a2 a3 n).Pairwise (· < ·) := by
  unfold upB
  exact List.Pairwise.filter _ List.pairwise_lt_range
theorem xs_lt {a0 a1 a2 a3 : Nat} {xs : List (Fin 256)} (h : xs.map Fin.val = bytesB a0 a1 a2 a3) {i j : Nat} (hij : i < j) (hj : j < xs.length) : xs[i].val < xs[j].val := by
  have hs := upB_sorted a0 a1 a2 a3 256
  change (bytesB a0 a1 a2 a3).Pairwise (· < ·) at hs
  rw [← h] at hs
  have := List.pairwise_iff_getElem.1 hs i j (by simp; omega) (by simpa using hj) hij
  simpa using this
theorem xs_has {a0 a1 a2 a3 : Nat} {xs : List (Fin 256)} (h : xs.map Fin.val = bytesB a0 a1 a2 a3) {i : Nat} (hi : i < xs.length) : hasB a0 a1 a2 a3 xs[i].val = true := by
  have hm : xs[i].val ∈ bytesB a0 a1 a2 a3 := by rw [← h]; exact List.mem_map_of_mem (List.getElem_mem hi)
  exact (mem_upB.1 hm).2

theorem upB_prefix (a0 a1 a2 a3 k : Nat) (hk : k ≤ 256) : ∃ t, bytesB a0 a1 a2 a3 = upB a0 a1 a2 a3 k ++ t := by
  have e : List.range 256 = List.range k ++ (List.range (256 - k)).map (k + ·) := by
    rw [← List.range_add]
    congr 1
    omega
  unfold bytesB upB
  rw [e, List.filter_append]
  exact ⟨_, rfl⟩
theorem prefix_at {a0 a1 a2 a3 : Nat} {xs : List (Fin 256)} (h : xs.map Fin.val = bytesB a0 a1 a2 a3) {k : Nat} (hk : k ≤ 256) {ini : List (Fin 256)} {last : Fin 256} (hp : (ini ++ [last]).map Fin.val = upB a0 a1 a2 a3 k) : xs[ini.length]? = some last := by
  obtain ⟨t, ht⟩ := upB_prefix a0 a1 a2 a3 k hk
  rw [ht, ← hp] at h
  have h2 := congrArg (fun l : List Nat => l[ini.length]?) h
  simp only [List.map_append, List.append_assoc, List.map_cons, List.map_nil] at h2
  rw [List.getElem?_append_right (by simp)] at h2
  simp only [List.length_map, Nat.sub_self, List.cons_append, List.getElem?_cons_zero, List.getElem?_map] at h2
  cases hx : xs[ini.length]? with
  | none => rw [hx] at h2; cases h2
  | some y =>
    rw [hx] at h2
    have : y.val = last.val := by simpa using h2
    rw [Fin.ext this]

set_option maxRecDepth 100000 in
set_option maxHeartbeats 4000000 in
theorem each_law (a0 a1 a2 a3 : Nat) (hw : wlt a0 a1 a2 a3) (early : Int) (he : -9223372036854775808 ≤ early ∧ early ≤ 9223372036854775807) (w : World) (h0 : 0 < w.heap.size) (hT : TabAt w)
    (F : Fence) (hro : F.round = none) (hF : ∀ f, F.fn f) (hwide : ∀ (n : Nat) (f : FuncId) (args : Array Value) (W : World) (R : Ending → World → Prop), Calls Tryd.prog f args W R → CallsIn F n Tryd.prog f args W R)
    (hlives : ∀ W, Below w.heap.size w W → Calls Tryd.prog 9 #[] W fun e w' => e = .returned (.bool true) ∧ Below W.heap.size W w') :
    CallsIn F 6 Tryd.prog 4 #[.agg #[.int .u64 a0, .int .u64 a1, .int .u64 a2, .int .u64 a3], .int .i64 early] w fun e W' => e = .returned (.bool true) ∧ Below w.heap.size w W' := by
  have h1 : 1 ≤ 6 := by omega
  have h9 := hF 9; have h17 := hF 17; have h13 := hF 13; have h18 := hF 18; have h19 := hF 19; have h15 := hF 15; have h41 := hF 41; have h42 := hF 42
  have HL := Lib.hid hlives
  clear hlives
  obtain ⟨W1, hW1⟩ : ∃ W1, W1 = ((w.alloc (.cells #[.int .u64 a0, .int .u64 a1, .int .u64 a2, .int .u64 a3] 27)).alloc (.cells #[.int .i64 early] 3)).alloc (.cells #[.bool false] 4) := ⟨_, rfl⟩
  have hs1 : W1.heap.size = w.heap.size + 1 + 1 + 1 := by rw [hW1]; simp
  have hB1 : Below w.heap.size w W1 := by rw [hW1]; exact (((Below.refl _ w).alloc (Nat.le_refl _) _).alloc (by simp) _).alloc (by simp; omega) _
  have hC1 : ClsAt w.heap.size a0 a1 a2 a3 W1 := by rw [hW1]; exact ⟨by go_simp, by go_simp, by go_simp, by go_simp⟩
  have bE : Boxed W1 (w.heap.size + 1) 3 (.int .i64 early) := by
    have := Boxed.new (w.alloc (.cells #[.int .u64 a0, .int .u64 a1, .int .u64 a2, .int .u64 a3] 27)) 3 (.int .i64 early)
    simp only [World.size_alloc] at this
    rw [hW1]; exact this.alloc _
  have bR : Boxed W1 (w.heap.size + 1 + 1) 4 (.bool false) := by
    have := Boxed.new ((w.alloc (.cells #[.int .u64 a0, .int .u64 a1, .int .u64 a2, .int .u64 a3] 27)).alloc (.cells #[.int .i64 early] 3)) 4 (.bool false)
    simp only [World.size_alloc] at this
    rw [hW1]; exact this
  have hT1 := hT.below hB1 h0
  have HW := Lib.hid hW1
  have HS := Lib.hid hs1
  clear hW1 hs1 hT
  refine callsIn_of_wp_marks Tryd.func4 rfl (hF 4) ?_ hro
  simp only [Tryd.ntmps4, List.size_toArray, List.length_cons, List.length_nil, Nat.reduceAdd, Nat.reduceSub, Array.replicate_succ, Array.replicate_zero, List.push_toArray, List.append_toArray, List.nil_append, List.cons_append]
  have hp1 : 0 < W1.heap.size := by rw [HS.out]; omega
  gi_wp2_with fail
  rw [← HW.out]
  refine (hwide _ _ _ _ _ (HL.out W1 hB1)).mono ?_
  rintro e W2 ⟨rfl, hB2⟩
  have hs1 : w.heap.size + 1 + 1 + 1 ≤ W1.heap.size := by rw [HS.out]; omega
  have hC2 := hC1.below hB2 (by omega)
  have bE2 : Boxed W2 (w.heap.size + 1) 3 (.int .i64 early) := (hB2.block _ (by omega)).trans bE
  have bR2 : Boxed W2 (w.heap.size + 1 + 1) 4 (.bool false) := (hB2.block _ (by omega)).trans bR
  have hT2 := hT1.below hB2 hp1
  obtain ⟨c0, c1, c2, c3⟩ := id hC2
  gi_wp2_with fail
  refine (all_in F 5 h17 h19 h41 h42 hro (by omega) a0 a1 a2 a3 hw W2 (by have := hB2.size; omega) hT2).mono ?_
  rintro e W3 ⟨v, xs, rfl, hxs, hrow, hB3⟩
  have hs2 : W1.heap.size ≤ W2.heap.size := hB2.size
  have hC3 := hC2.below hB3 (by omega)
  have bE3 : Boxed W3 (w.heap.size + 1) 3 (.int .i64 early) := (hB3.block _ (by omega)).trans bE2
  have bR3 : Boxed W3 (w.heap.size + 1 + 1) 4 (.bool false) := (hB3.block _ (by omega)).trans bR2
  have hT3 := hT2.below hB3 (by omega)
  have HX := Lib.hid hxs
  clear hxs c0 c1 c2 c3
  obtain ⟨c0, c1, c2, c3⟩ := id hC3
  obtain ⟨aa, cc, rfl⟩ := row_shape hrow
  gi_wp2_with fail
  have hs3 : W2.heap.size ≤ W3.heap.size := hB3.size
  have hB4' : Below W3.heap.size W3 (W3.alloc (.cells #[.slice aa xs.length cc] 35)) := (Below.refl _ _).alloc (Nat.le_refl _) _
  have bL := Boxed.new W3 35 (.slice aa xs.length cc)
  have hrow4 := hrow.alloc (.cells #[.slice aa xs.length cc] 35)
  have hs4 : W3.heap.size + 1 = (W3.alloc (.cells #[.slice aa xs.length cc] 35)).heap.size := by simp
  generalize W3.alloc (.cells #[.slice aa xs.length cc] 35) = W4 at hB4' bL hrow4 hs4 ⊢
  have hC4 := hC3.below hB4' (by omega)
  have bE4 : Boxed W4 (w.heap.size + 1) 3 (.int .i64 early) := (hB4'.block _ (by omega)).trans bE3
  have bR4 : Boxed W4 (w.heap.size + 1 + 1) 4 (.bool false) := (hB4'.block _ (by omega)).trans bR3
  have hT4 := hT3.below hB4' (by omega)
  obtain ⟨LB, hLB⟩ : ∃ LB, LB = W3.heap.size := ⟨_, rfl⟩
  rw [← hLB] at bL hB4' hs4 ⊢
  have hLen := Lib.hid (fun W => hwide 5 _ _ _ _ (len_calls a0 a1 a2 a3 hw W))
  have hlx : (bytesB a0 a1 a2 a3).length = xs.length := by rw [← HX.out]; simp
  rw [hlx] at hLen
  have hwL : w.heap.size + 1 + 1 + 1 ≤ LB := by omega
  have HLB := Lib.hid hLB
  have HS4 := Lib.hid hs4
  clear hlx hLB hs4 c0 c1 c2 c3
  obtain ⟨c0, c1, c2, c3⟩ := id hC4
  have c5 := bL.cell
  have hsL : LB < W4.heap.size := by rw [← HS4.out]; omega
  gi_cut [25] from 17 (fun s25 wc => s25 = .bool false ∧ Below W4.heap.size W4 wc)
  case first =>
    gi_region_with (gi_at_call 13; refine (hLen.out _).mono ?_; rintro e w' ⟨rfl, hB5⟩; have c5' := (hB5.cell (p := ⟨LB, 0, none⟩) hsL).trans c5)
    all_goals
      gi_wp2_with fail
      gi_meet
      case rel => exact ⟨rfl, by first | exact hB5 | exact hB5.drew | exact ⟨hB5.os, hB5.tape, hB5.output, hB5.size, hB5.block⟩⟩
  case rest =>
    obtain ⟨rfl, hB5⟩ := hcut
    have hC5 := hC4.below hB5 (by omega)
    have bE5 : Boxed wc (w.heap.size + 1) 3 (.int .i64 early) := (hB5.block _ (by omega)).trans bE4
    have bR5 : Boxed wc (w.heap.size + 1 + 1) 4 (.bool false) := (hB5.block _ (by omega)).trans bR4
    have bL5 : Boxed wc LB 35 (.slice aa xs.length cc) := (hB5.block _ hsL).trans bL
    have hrow5 := ownsRow_below hrow4 hB5
    have hT5 := hT4.below hB5 (by omega)
    have hs5 := hB5.size
    clear c0 c1 c2 c3 c5
    obtain ⟨c0, c1, c2, c3⟩ := id hC5
    have c5 := bL5.cell
    have e5 := bE5.cell
    have f5 := bE5.frozen
    have hxl : xs.length ≤ 256 := by have := congrArg List.length HX.out; have := upB_len a0 a1 a2 a3 256; unfold bytesB at *; simp at *; omega
    have hsq := seq_some
    have HE := Lib.hid (fun W => hwide 5 _ _ _ _ (each_calls a0 a1 a2 a3 W))
    gi_wp2_with fail
    refine (hwide _ _ _ _ _ (pick_calls early ((xs.length : Int) + 1) he (by omega) wc)).mono ?_
    rintro e w' ⟨⟨k, hk, rfl⟩, rfl⟩
    have hk : k < xs.length + 1 := by omega
    have hlt0 : w.heap.size < w'.heap.size := by omega
    have hlt1 : w.heap.size + 1 < w'.heap.size := by omega
    have hne0 : ¬ w.heap.size = w'.heap.size := by omega
    obtain ⟨W6, hW6⟩ : ∃ W6, W6 = ((w'.setCell ⟨w.heap.size + 1, 0, none⟩ (.int .i64 (k : Nat))).alloc (.cells #[.int .i64 0] 3)).alloc (.cells #[.int .u64 a0, .int .u64 a1, .int .u64 a2, .int .u64 a3] 27) := ⟨_, rfl⟩
    have z5 : (w'.setCell ⟨w.heap.size + 1, 0, none⟩ (.int .i64 (k : Nat))).heap.size = w'.heap.size := by simp
    have hs6 : W6.heap.size = w'.heap.size + 1 + 1 := by rw [hW6]; simp
    have hB56 : Below (w.heap.size + 1) w' W6 := by rw [hW6]; exact (((Below.refl (w.heap.size + 1) w').setCell (p := ⟨w.heap.size + 1, 0, none⟩) (Nat.le_refl _) _).alloc (by rw [z5]; omega) _).alloc (by rw [World.size_alloc, z5]; omega) _
    have bE6 : Boxed W6 (w.heap.size + 1) 3 (.int .i64 (k : Nat)) := by rw [hW6]; exact ((bE5.set _).alloc _).alloc _
    have bR6 : Boxed W6 (w.heap.size + 1 + 1) 4 (.bool false) := by rw [hW6]; exact ((bR5.other (by omega) _).alloc _).alloc _
    have bL6 : Boxed W6 LB 35 (.slice aa xs.length cc) := by rw [hW6]; exact ((bL5.other (by omega) _).alloc _).alloc _
    have bN6 : Boxed W6 w'.heap.size 3 (.int .i64 0) := by
      have := Boxed.new (w'.setCell ⟨w.heap.size + 1, 0, none⟩ (.int .i64 (k : Nat))) 3 (.int .i64 0)
      rw [z5] at this
      rw [hW6]; exact this.alloc _
    have hC6 : ClsAt w.heap.size a0 a1 a2 a3 W6 := hC5.below hB56 (by omega)
    have hT6 : TabAt W6 := hT5.below hB56 (by omega)
    have hCC6 : ClsAt (w'.heap.size + 1) a0 a1 a2 a3 W6 := by rw [hW6]; exact ⟨by go_simp, by go_simp, by go_simp, by go_simp⟩
    have hrow6 : W6.ownsRow W2.heap.size 5 1 (.slice aa xs.length cc) xs.length (xs.map encv) := by
      rw [hW6]
      refine ((hrow5.kept (grownBy_setCell' w' (w.heap.size + 1) _) (.inr fun e => ?_)).alloc _).alloc _
      have := (hrow5.lt _ e).1
      omega
    have hB6 : Below w.heap.size w W6 := (((hB1.trans (hB2.mono (by omega))).trans (hB3.mono (by omega))).trans (hB4'.mono (by omega))).trans ((hB5.mono (by omega)).trans (hB56.mono (by omega)))
    have HW6 := Lib.hid hW6
    have HS6 := Lib.hid hs6
    clear hW6 hs6 z5
    gi_wp2_with (gi_at_call 19; refine (HE.out _).mono ?_; rintro e w'' ⟨rfl, rfl⟩)
    rw [← HW6.out]
    have hNL : LB < w'.heap.size := by omega
    have hszle : w'.heap.size ≤ W6.heap.size := by rw [HS6.out]; omega
    refine wpIn_rangeFunc_ownG hro h1 (gf := 41) (lb := #[.pointer (some ⟨w'.heap.size + 1, 0, none⟩)]) rfl h41 (enters_of Tryd.func41 (by kernel_rfl) rfl)
      (each_stops F 5 h41 h42 hro (by omega) (w'.heap.size + 1) w'.heap.size a0 a1 a2 a3 hw _ (by rw [HS6.out]; omega) (by omega) hszle hT6 hCC6) belowK_t (belowK_b (by omega)) (Below.refl _ _) (fun _ => rfl)
      (fun pre W => (Boxed W w'.heap.size 3 (.int .i64 (pre.length : Nat)) ∧ pre.length ≤ k) ∧ Below w'.heap.size W6 W)
      (fun c p W => (∃ ini last, p = ini ++ [last] ∧ c = .ret ∧ ini.length < xs.length ∧ xs[ini.length]? ≠ some last) ∨ (∃ ini last, p = ini ++ [last] ∧ c = .exit 0 ∧ (Boxed W w'.heap.size 3 (.int .i64 (ini.length : Nat)) ∧ Below w'.heap.size W6 W) ∧ ini.length = k))
      (OwnFrom.and (OwnFrom.and (Own.from (boxed_own w'.heap.size 3 (fun pre : List (Fin 256) => .int .i64 (pre.length : Nat))) _) (ownFrom_pure _ (fun pre : List (Fin 256) => pre.length ≤ k))) (ownFrom_below hszle hszle))
      (fun c s A B row hs hg hr => by
        rcases hs with h | ⟨ini, last, e1, e2, ⟨e3, e5⟩, e4⟩
        · exact .inl h
        · exact .inr ⟨ini, last, e1, e2, ⟨Own.from (boxed_own w'.heap.size 3 (fun i : List (Fin 256) => .int .i64 (i.length : Nat))) _ ini A B row e3 hg hr, ownFrom_below (β := Unit) hszle hszle () A B row e5 hg hr⟩, e4⟩)
      ⟨⟨bN6, Nat.zero_le _⟩, Below.refl _ _⟩
      (fun x => { tmps := #[.agg #[.int .u64 a0, .int .u64 a1, .int .u64 a2, .int .u64 a3], .int .i64 early, .pointer (some ⟨w.heap.size, 0, none⟩), .pointer (some ⟨w.heap.size + 1, 0, none⟩), .pointer (some ⟨w.heap.size + 1 + 1, 0, none⟩), .pointer (some ⟨LB, 0, none⟩), .bool true, .pointer (some ⟨w'.heap.size, 0, none⟩), .func (.func 41) #[] #[.pointer (some ⟨w'.heap.size + 1, 0, none⟩)], encv x, .bool true, .bool false, .tuple #[.slice aa xs.length cc, .bool true], .agg #[.int .u64 a0, .int .u64 a1, .int .u64 a2, .int .u64 a3], .tuple #[.slice aa xs.length cc, .bool true], .slice aa xs.length cc, .bool true, u17, u18, u19, u20, u21, u22, u23, u24, .bool false, .int .i64 early, .slice aa xs.length cc, .int .i64 xs.length, .int .i64 (xs.length + 1), .int .i64 k, .agg #[.int .u64 a0, .int .u64 a1, .int .u64 a2, .int .u64 a3], .func (.func 41) #[] #[.pointer (some ⟨w'.heap.size + 1, 0, none⟩)], .func (.func 41) #[] #[.pointer (some ⟨w'.heap.size + 1, 0, none⟩)], .bool false, .func (.func 41) #[] #[.pointer (some ⟨w'.heap.size + 1, 0, none⟩)], encv x, u37, u38, u39, u40, u41, u42, u43, u44, u45, u46, u47, u48, u49, u50, u51, u52, u53, u54, u55, u56, u57, u58, u59, u60, u61, u62, u63, u64, u65, u66, u67, u68, u69], defers := [] }) ?assign ?body ?done ?stop
    case assign =>
      intro l x W K hK
      gi_wp2
      exact hK
    case body =>
      rintro l pre x W ⟨⟨bN, hpk⟩, hB⟩ hlt
      obtain ⟨n, hn⟩ : ∃ n, pre.length = n := ⟨_, rfl⟩
      rw [hn] at bN hpk hlt
      have HN := Lib.hid hn
      clear hn
      have bE7 : Boxed W (w.heap.size + 1) 3 (.int .i64 (k : Nat)) := (hB.block _ (by omega)).trans bE6
      have bR7 : Boxed W (w.heap.size + 1 + 1) 4 (.bool false) := (hB.block _ (by omega)).trans bR6
      have bL7 : Boxed W LB 35 (.slice aa xs.length cc) := (hB.block _ hNL).trans bL6
      have hC7 := hC6.below hB (by omega)
      have cN := bN.cell; have fN := bN.frozen; have cE := bE7.cell; have cR := bR7.cell; have fR := bR7.frozen; have cL := bL7.cell
      clear c0 c1 c2 c3 c5 e5 f5
      by_cases hk1 : n = k
      · have hb1 : ((n : Int) == (k : Int)) = true := by simp; omega
        have HK := Lib.hid hk1
        clear hk1
        gi_wp2
        exact ⟨KeepsFrom.refl _ _, .inr ⟨pre, x, rfl, rfl, ⟨by rw [HN.out]; exact bN, hB⟩, HN.out.trans HK.out⟩⟩
      · have hlk : n < k := by omega
        have hb1 : ((n : Int) == (k : Int)) = false := by simp; omega
        have hpx : n < xs.length := by omega
        have hrow7 := row_below hrow6 hB (fun g e => (hrow5.lt g e).2)
        obtain ⟨g, rfl⟩ := row_addr hrow7 (by omega)
        have hgl : g < w'.heap.size := (hrow5.lt g rfl).2
        have hgW : g < W.heap.size := Nat.lt_of_lt_of_le hgl (Nat.le_trans hszle hB.size)
        have hcell : W.cell? ⟨g, n, none⟩ = some (.int .u8 (xs[n].val : Nat)) := by rw [hrow7.cellAt _ (by omega)]; simp [hpx]
        have hi0 : (0 : Int) ≤ (n : Int) := by omega
        have hi1 : (n : Int) < (xs.length : Int) := by omega
        have hsW : w'.heap.size < W.heap.size := by have := hB.size; rw [HS6.out] at this; omega
        by_cases hx : xs[n] = x
        · have hhas := xs_has HX.out hpx
          rw [hx] at hhas hcell
          have HH := Lib.hid (fun W0 => hwide (6 - 1 - 1 - 1) _ _ _ _ (has_calls a0 a1 a2 a3 x.val hw x.isLt W0))
          rw [hhas] at HH
          have HXL : Hid (∀ i, i < n → (hh : i < xs.length) → xs[i].val < x.val) := fun i hi hh => by rw [← hx]; exact xs_lt HX.out hi hpx
          clear hhas
          by_cases hz : n = 0
          · have hgt : decide (0 < n) = false := by simp; omega
            have HZ := Lib.hid hz
            clear hz
            obtain ⟨c0, c1, c2, c3⟩ := id hC7
            gi_wp2_with (gi_at_call 15; refine (CallsIn.inRound l (HH.out _)).mono ?_; rintro e W8 ⟨rfl, hB8⟩; have d1 := (hB8.cell (p := ⟨w'.heap.size, 0, none⟩) hsW).trans cN; have d2 := (hB8.frozen (p := ⟨w'.heap.size, 0, none⟩) hsW).trans fN)
            have bN8 : Boxed W8 w'.heap.size 3 (.int .i64 (n : Nat)) := (hB8.block _ hsW).trans bN
            have kf : KeepsFrom W6.heap.size W W8 := ⟨hB8.size, fun j o _ hj _ => (hB8.block j (Array.getElem?_eq_some_iff.1 hj).1).trans hj⟩
            have hlen : (pre ++ [x]).length = n + 1 := by rw [List.length_append, HN.out]; rfl
            exact ⟨kf.trans ((KeepsOthers.setCell _ _ _).from _), ((hB8.mono (show w'.heap.size ≤ W.heap.size by omega)).setCell (p := ⟨w'.heap.size, 0, none⟩) (Nat.le_refl _) _), ⟨by rw [hlen]; exact bN8.set _, by rw [hlen]; omega⟩, hB.trans ((hB8.mono (show w'.heap.size ≤ W.heap.size by omega)).setCell (p := ⟨w'.heap.size, 0, none⟩) (Nat.le_refl _) _)⟩
          · obtain ⟨m, rfl⟩ : ∃ m, n = m + 1 := ⟨n - 1, by omega⟩
            have hcm : W.cell? ⟨g, m, none⟩ = some (.int .u8 (xs[m].val : Nat)) := by rw [hrow7.cellAt _ (by omega)]; simp [show m < xs.length by omega]
            have hyx : xs[m].val < x.val := HXL m (by omega) (by omega)
            generalize xs[m].val = y at hcm hyx
            have hge : decide (x.val ≤ y) = false := by simp; omega
            have hm0 : (0 : Int) ≤ (m : Int) := by omega
            have hm1 : (m : Int) < (xs.length : Int) := by omega
            have hLW : LB < W.heap.size := by omega
            clear hz
            obtain ⟨c0, c1, c2, c3⟩ := id hC7
            gi_wp2_with (gi_at_call 15; refine (CallsIn.inRound l (HH.out _)).mono ?_; rintro e W8 ⟨rfl, hB8⟩; have d1 := (hB8.cell (p := ⟨w'.heap.size, 0, none⟩) hsW).trans cN; have d2 := (hB8.frozen (p := ⟨w'.heap.size, 0, none⟩) hsW).trans fN; have d3 := (hB8.cell (p := ⟨LB, 0, none⟩) hLW).trans cL; have d4 := (hB8.cell (p := ⟨g, m, none⟩) hgW).trans hcm)
            have bN8 : Boxed W8 w'.heap.size 3 (.int .i64 (m + 1 : Nat)) := (hB8.block _ hsW).trans bN
            have kf : KeepsFrom W6.heap.size W W8 := ⟨hB8.size, fun j o _ hj _ => (hB8.block j (Array.getElem?_eq_some_iff.1 hj).1).trans hj⟩
            have hlen : (pre ++ [x]).length = m + 1 + 1 := by rw [List.length_append, HN.out]; rfl
            exact ⟨kf.trans ((KeepsOthers.setCell _ _ _).from _), ((hB8.mono (show w'.heap.size ≤ W.heap.size by omega)).setCell (p := ⟨w'.heap.size, 0, none⟩) (Nat.le_refl _) _), ⟨by rw [hlen]; exact bN8.set _, by rw [hlen]; omega⟩, hB.trans ((hB8.mono (show w'.heap.size ≤ W.heap.size by omega)).setCell (p := ⟨w'.heap.size, 0, none⟩) (Nat.le_refl _) _)⟩
        · have hcv : W.cell? ⟨g, n, none⟩ = some (.int .u8 (xs[n].val : Nat)) := hcell
          have hne : xs[n].val ≠ x.val := fun e => hx (Fin.ext e)
          have HX2 : Hid (xs[n]? ≠ some x) := fun e => hx (by rw [List.getElem?_eq_getElem hpx] at e; exact Option.some.inj e)
          generalize xs[n].val = y at hcell hcv hne
          have hne1 : ((x.val : Int) != (y : Int)) = true := by simp; omega
          clear hx hne
          gi_wp2
          exact ⟨(KeepsOthers.setCell _ _ _).from _, .inl ⟨pre, x, rfl, rfl, by rw [HN.out]; exact hpx, by rw [HN.out]; exact HX2.out⟩⟩
    case done =>
      rintro D ys W hD hys ⟨⟨bN, hpk⟩, hB⟩ hK
      have hyl : ys.length = xs.length := by
        have := congrArg List.length (hys.trans HX.out.symm)
        simpa using this
      clear hys
      have hyk : ys.length = k := by omega
      clear hyl
      have bE7 : Boxed W (w.heap.size + 1) 3 (.int .i64 (k : Nat)) := (hB.block _ (by omega)).trans bE6
      have bR7 : Boxed W (w.heap.size + 1 + 1) 4 (.bool false) := (hB.block _ (by omega)).trans bR6
      have cN := bN.cell; have cE := bE7.cell; have cR := bR7.cell; have fR := bR7.frozen
      have hb1 : ((ys.length : Int) == (k : Int)) = true := by simp; omega
      clear hyk
      clear c0 c1 c2 c3 c5 e5 f5
      gi_wp2
      have d1 := bR7.set (.bool true)
      have hK' := (KeepsOthers.setCell W ⟨w.heap.size + 1 + 1, 0, none⟩ (.bool true)).same D _ hK rfl
      have hBW : Below w.heap.size w (W.setCell ⟨w.heap.size + 1 + 1, 0, none⟩ (.bool true)) := (hB6.trans (hB.mono (show w.heap.size ≤ w'.heap.size by omega))).setCell (p := ⟨w.heap.size + 1 + 1, 0, none⟩) (by simp; omega) _
      generalize W.setCell ⟨w.heap.size + 1 + 1, 0, none⟩ (.bool true) = W9 at d1 hK' hBW ⊢
      refine ⟨by simp, .inl ⟨_, _, rfl, run_takeDeferred hK', ?_⟩⟩
      have e1 := cell_kept d1.cell (grownBy_putObj' W9 D (.deferred none)) (fun r e => by cases e; exact ⟨_, hK', rfl⟩)
      refine ⟨.bool true, ?_, rfl, hBW.trans (belowK_b (w := w) (Nat.le_refl _) W9 D _ _ (by omega) hK' rfl rfl)⟩
      simp [results, Tryd.f4, go_sem, e1]
    case stop =>
      rintro D c pre W hD ⟨kk, hkk, hpre⟩ (⟨ini, last, rfl, rfl, hl, hne⟩ | ⟨ini, last, rfl, rfl, ⟨bN, hB⟩, hyk⟩) hK
      · exact absurd (prefix_at HX.out hkk hpre) hne
      · clear hpre
        clear hkk
        have bE7 : Boxed W (w.heap.size + 1) 3 (.int .i64 (k : Nat)) := (hB.block _ (by omega)).trans bE6
        have bR7 : Boxed W (w.heap.size + 1 + 1) 4 (.bool false) := (hB.block _ (by omega)).trans bR6
        have cN := bN.cell; have cE := bE7.cell; have cR := bR7.cell; have fR := bR7.frozen
        have hb1 : ((ini.length : Int) == (k : Int)) = true := by simp; omega
        clear hyk
        clear c0 c1 c2 c3 c5 e5 f5
        gi_wp2
        have d1 := bR7.set (.bool true)
        have hK' := (KeepsOthers.setCell W ⟨w.heap.size + 1 + 1, 0, none⟩ (.bool true)).same D _ hK rfl
        have hBW : Below w.heap.size w (W.setCell ⟨w.heap.size + 1 + 1, 0, none⟩ (.bool true)) := (hB6.trans (hB.mono (show w.heap.size ≤ w'.heap.size by omega))).setCell (p := ⟨w.heap.size + 1 + 1, 0, none⟩) (by simp; omega) _
        generalize W.setCell ⟨w.heap.size + 1 + 1, 0, none⟩ (.bool true) = W9 at d1 hK' hBW ⊢
        refine ⟨by simp, .inl ⟨_, _, rfl, run_takeDeferred hK', ?_⟩⟩
        have e1 := cell_kept d1.cell (grownBy_putObj' W9 D (.deferred none)) (fun r e => by cases e; exact ⟨_, hK', rfl⟩)
        refine ⟨.bool true, ?_, rfl, hBW.trans (belowK_b (w := w) (Nat.le_refl _) W9 D _ _ (by omega) hK' rfl rfl)⟩
        simp [results, Tryd.f4, go_sem, e1]
end Go.Proofs.YtjaabolpdelbiaaDoor
