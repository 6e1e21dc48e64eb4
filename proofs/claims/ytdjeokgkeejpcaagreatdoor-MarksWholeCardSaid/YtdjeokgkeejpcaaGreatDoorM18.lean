/- Marks: slices.Backward of ints 44, its literal 75; Reach's loops as folds. -/
import Derived.Test.YtdjeokgkeejpcaaGreatDoorM15
import Derived.Deep.AppendSrc
import Derived.Maps.AppendAt
import Derived.Maps.OwnIn
import Derived.Test.YtdjeokgkeejpcaaGreatDoorRf4
namespace Go.Proofs.YtdjeokgkeejpcaaGreatDoor
open Go Go.Proofs Go.RowKit
attribute [local go_sem] Oper.semAt_some
/-- A row of ints that the call owns; it may begin inside its block. -/
def AOwn (W : World) (base : Nat) (bo : Option Nat) (v : Value) (A : List Int) : Prop :=
  (bo = none ∧ v = .slice none 0 0 ∧ A = []) ∨ ∃ b off cap cur, bo = some b ∧ v = .slice (some ⟨b, off, none⟩) A.length cap ∧ base ≤ b ∧ W.heap[b]? = some (.cells cur 3 (0, 0)) ∧ off + cap ≤ cur.size ∧ A.length ≤ cap ∧ cap ≤ maxLen ∧ ∀ j (h : j < A.length), cur[off + j]? = some (.int .i64 A[j])
theorem AOwn.nil (W : World) (base : Nat) : AOwn W base none (.slice none 0 0) [] := .inl ⟨rfl, rfl, rfl⟩
theorem AOwn.shape {W : World} {base : Nat} {bo : Option Nat} {v : Value} {A : List Int} (h : AOwn W base bo v A) : ∃ a c, v = .slice a A.length c := by
  rcases h with ⟨_, rfl, rfl⟩ | ⟨b, off, cap, cur, _, rfl, _⟩
  · exact ⟨_, _, rfl⟩
  · exact ⟨_, _, rfl⟩
theorem AOwn.row {W : World} {base : Nat} {bo : Option Nat} {v : Value} {A : List Int} (h : AOwn W base bo v A) : ∃ a c, v = .slice a A.length c ∧ IRow W a A := by
  rcases h with ⟨_, rfl, rfl⟩ | ⟨b, off, cap, cur, _, rfl, _, hh, _, _, _, hc⟩
  · exact ⟨none, 0, rfl, fun h => absurd rfl h⟩
  · refine ⟨_, _, rfl, fun _ => ⟨b, off, rfl, (Array.getElem?_eq_some_iff.1 hh).1, fun j hj => ?_⟩⟩
    rw [show W.cell? ⟨b, off + j, none⟩ = cur[off + j]? by simp [World.cell?, hh]]
    exact hc j hj
theorem AOwn.same {W W' : World} {base : Nat} {bo : Option Nat} {v : Value} {A : List Int} (h : AOwn W base bo v A) (hs : ∀ b cs, bo = some b → W.heap[b]? = some (.cells cs 3 (0, 0)) → W'.heap[b]? = W.heap[b]?) : AOwn W' base bo v A := by
  rcases h with h | ⟨b, off, cap, cur, h1, h2, h3, h4, h5⟩
  · exact .inl h
  · exact .inr ⟨b, off, cap, cur, h1, h2, h3, (hs b cur h1 h4).trans h4, h5⟩
theorem AOwn.below {W W' : World} {base : Nat} {bo : Option Nat} {v : Value} {A : List Int} (h : AOwn W base bo v A) (hb : Below W.heap.size W W') : AOwn W' base bo v A :=
  h.same fun b _ _ hh => hb.block b (Array.getElem?_eq_some_iff.1 hh).1
theorem AOwn.cells {W : World} {base : Nat} {bo : Option Nat} {v : Value} {A : List Int} (h : AOwn W base bo v A) : ∀ b, bo = some b → ∃ cs, W.heap[b]? = some (.cells cs 3 (0, 0)) := fun b e => by
  rcases h with ⟨h1, _⟩ | ⟨b', off, cap, cur, h1, _, _, h4, _⟩
  · rw [h1] at e; cases e
  · rw [h1] at e; cases e; exact ⟨cur, h4⟩
/-- The row without its first ones. -/
theorem AOwn.drop {W : World} {base : Nat} {bo : Option Nat} {v : Value} {A : List Int} (h : AOwn W base bo v A) (d : Nat) (hd : d ≤ A.length) :
    (v = .slice none 0 0 ∧ A = [] ∧ bo = none) ∨ ∃ b off cap, v = .slice (some ⟨b, off, none⟩) A.length cap ∧ A.length ≤ cap ∧ AOwn W base bo (.slice (if cap = d then some ⟨b, off, none⟩ else some ⟨b, off + d, none⟩) (A.length - d) (cap - d)) (A.drop d) := by
  rcases h with ⟨h1, h2, h3⟩ | ⟨b, off, cap, cur, h1, h2, h3, h4, h5, h6, h7, h8⟩
  · exact .inl ⟨h2, h3, h1⟩
  · refine .inr ⟨b, off, cap, h2, h6, .inr ?_⟩
    by_cases hc : cap = d
    · have hAd : A.drop d = [] := List.drop_eq_nil_of_le (by omega)
      refine ⟨b, off, cap - d, cur, h1, by rw [if_pos hc, List.length_drop], h3, h4, by omega, by rw [List.length_drop]; omega, by omega, fun j hj => ?_⟩
      rw [hAd] at hj; simp at hj
    · refine ⟨b, off + d, cap - d, cur, h1, by rw [if_neg hc, List.length_drop], h3, h4, by omega, by rw [List.length_drop]; omega, by omega, fun j hj => ?_⟩
      rw [List.length_drop] at hj
      have := h8 (d + j) (by omega)
      rw [List.getElem_drop, Nat.add_assoc]
      exact this
theorem run_append_a (W : World) (base : Nat) (bo : Option Nat) (v : Value) (A : List Int) (x : Int) (hown : AOwn W base bo v A) (B c : Nat) (hc : W.cell? ⟨B, 0, none⟩ = some (.int .i64 x)) (hl : A.length ≤ 1000) (hb : base ≤ W.heap.size) (ty : TypeId) :
    ∃ bo' v' w', (Builtin.append_ #[27, 27] ty #[v, .slice (some ⟨B, 0, none⟩) 1 c]).run Tryz.prog W = .ok v' w' ∧ AOwn w' base bo' v' (A ++ [x]) ∧ W.grownBy w' bo ∧ (bo' = bo ∨ bo' = some W.heap.size) := by
  obtain ⟨ti, hi, hz0, hz1, hz2⟩ := info_parts info3'
  have hnews : ∀ j u, [Value.int .i64 x][j]? = some u → W.cell? ((⟨B, 0, none⟩ : Addr).add j) = some u := fun j u hj => by
    rw [Addr.add_lit, Nat.zero_add]
    cases j with
    | zero => simp at hj; rw [← hj]; exact hc
    | succ j => simp at hj
  have h1 : ∀ u ∈ [Value.int .i64 x], u.oneCell' = true := fun u hu => by rw [List.mem_singleton.1 hu]; rfl
  have grown : ∀ (old : Nat), old < A.length + 1 → ∀ row, AOwn (W.drew.alloc (.cells ((A.map (Value.int .i64)).toArray ++ [Value.int .i64 x].toArray ++ Builtin.zeroCells (Value.int .i64 0).cells (grownCap W (A.length + 1) old 3 - (A.length + 1))) 3)) base (some W.heap.size) (.slice (some ⟨W.heap.size, 0, none⟩) (A.length + 1) (grownCap W (A.length + 1) old 3)) (A ++ [x]) ∧
      W.grownBy (W.drew.alloc (.cells ((A.map (Value.int .i64)).toArray ++ [Value.int .i64 x].toArray ++ Builtin.zeroCells (Value.int .i64 0).cells (grownCap W (A.length + 1) old 3 - (A.length + 1))) 3)) row := by
    intro old ho row
    have hge := grownCap_ge W (A.length + 1) old 3
    have hcm : grownCap W (A.length + 1) old 3 ≤ maxLen := grownCap_le_maxLen W (A.length + 1) old 3 (by unfold maxLen; omega)
    refine ⟨.inr ⟨W.heap.size, 0, grownCap W (A.length + 1) old 3, _, rfl, by rw [List.length_append, List.length_singleton], hb, World.alloc_heap_new W.drew _, Nat.le_of_eq ?_, by rw [List.length_append, List.length_singleton]; exact hge, hcm, fun j hj => ?_⟩, ⟨rfl, rfl, rfl, by simp, fun k hk _ => Below.heap_alloc W.drew _ k hk⟩⟩
    · simp only [Array.size_append, List.size_toArray, List.length_map, List.length_singleton, size_zeroCells]
      rw [show (Value.int .i64 0).cells.size = 1 from rfl]
      omega
    · rw [Nat.zero_add, ← Array.getElem?_toList]
      simp only [Array.toList_append]
      rw [← List.map_singleton (f := Value.int .i64), ← List.map_append, List.getElem?_append_left (by simpa using hj), List.getElem?_map, List.getElem?_eq_getElem hj]
      rfl
  rcases hown with ⟨rfl, rfl, rfl⟩ | ⟨b, off, cap, cur, rfl, rfl, hbb, hh, hsz, hlc, hcm, hcs⟩
  · have hr := run_append_nil (P := Tryz.prog) W 27 ty 3 ti (.int .i64 0) Tryz.underlying27 hi hz0 ⟨B, 0, none⟩ 1 c [.int .i64 x] (by rw [hz1]; rfl) hnews (by omega) (by omega) (by rw [hz2]; omega)
    obtain ⟨g1, g2⟩ := grown 0 (by simp) none
    simp only [List.map_nil, List.length_nil, Nat.zero_add, List.nil_append, Array.empty_append] at g1 g2 hr
    exact ⟨_, _, _, hr, g1, g2, .inr rfl⟩
  · by_cases hroom : A.length + 1 ≤ cap
    · have hsrc : Src Tryz.prog ti.size 27 (.slice (some ⟨B, 0, none⟩) 1 c) 1 [.int .i64 x] W := Src.ofSlice W Tryz.underlying27 ⟨B, 0, none⟩ 1 c [.int .i64 x] (by rw [hz1]; rfl) hnews h1
      have hcell : ∀ j, j < [Value.int .i64 x].length → (W.cell? ⟨b, off + A.length * ti.size + j, none⟩).isSome = true := fun j hj => by
        have hj0 : j = 0 := by simpa using hj
        subst hj0
        rw [hz1]
        rw [show W.cell? ⟨b, off + A.length * 1 + 0, none⟩ = cur[off + A.length * 1 + 0]? by simp [World.cell?, hh]]
        rw [Array.getElem?_eq_getElem (by omega)]; rfl
      have hfr : ∀ j, j < [Value.int .i64 x].length → W.frozen? ⟨b, off + A.length * ti.size + j, none⟩ = false := fun j _ => by simp [World.frozen?, hh]
      have hr := run_append_room_src (P := Tryz.prog) W 27 27 ty 3 ti Tryz.underlying27 hi b off A.length cap (.slice (some ⟨B, 0, none⟩) 1 c) 1 [.int .i64 x] hsrc hroom hcell hfr
      have hblt := (Array.getElem?_eq_some_iff.1 hh).1
      have hw' : W.setCells b (off + A.length * ti.size) [.int .i64 x] = W.setCell ⟨b, off + A.length, none⟩ (.int .i64 x) := by rw [hz1, Nat.mul_one]; rfl
      rw [hw'] at hr
      have hnew := heap_setCell_same W b (off + A.length) cur 3 (.int .i64 x) hh
      refine ⟨some b, _, _, hr, .inr ⟨b, off, cap, cur.setIfInBounds (off + A.length) (.int .i64 x), rfl, by rw [List.length_append, List.length_singleton], hbb, hnew, by simpa using hsz, by rw [List.length_append, List.length_singleton]; exact hroom, hcm, fun j hj => ?_⟩, ⟨rfl, rfl, rfl, by simp [World.setCell], fun k _ hk => Below.heap_setCell W ⟨b, off + A.length, none⟩ (.int .i64 x) k (fun e => hk (by rw [e]))⟩, .inl rfl⟩
      rw [List.length_append, List.length_singleton] at hj
      by_cases e : j = A.length
      · subst e
        rw [Array.getElem?_setIfInBounds_self_of_lt (by omega)]
        simp
      · rw [Array.getElem?_setIfInBounds_ne (by omega), hcs j (by omega)]
        rw [List.getElem_append_left (by omega)]
    · have holds : ∀ j u, (A.map (Value.int .i64))[j]? = some u → W.cell? ((⟨b, off, none⟩ : Addr).add j) = some u := fun j u hu => by
        obtain ⟨hj, rfl⟩ := List.getElem?_eq_some_iff.1 hu
        rw [List.length_map] at hj
        rw [Addr.add_lit, show W.cell? ⟨b, off + j, none⟩ = cur[off + j]? by simp [World.cell?, hh], hcs j hj, List.getElem_map]
      have hr := run_append_grow (P := Tryz.prog) W 27 ty 3 ti (.int .i64 0) Tryz.underlying27 hi hz0 ⟨b, off, none⟩ A.length cap (A.map (Value.int .i64)) (by rw [hz1]; simp) holds ⟨B, 0, none⟩ 1 c [.int .i64 x] (by rw [hz1]; rfl) hnews (by omega) (by omega) (growslice_fits (by omega) (by rw [hz2]; omega))
      obtain ⟨g1, g2⟩ := grown cap (by omega) (some b)
      exact ⟨_, _, _, hr, g1, g2, .inr rfl⟩
theorem append_aIn {F : Fence} {n : Nat} {ops : Array Oper} {rest : List Oper} {o : Oper} {a : Act} {Q : Exit → Act → World → Prop} (W : World) (base : Nat) (bo : Option Nat) (v : Value) (A : List Int) (x : Int) (hgd : o.guard = none) (s y : Operand)
    (ho : o.op = .call { callee := .builtin .append, args := #[s, y], argTypes := #[27, 27] }) (hs : a.eval s = v) (hown : AOwn W base bo v A) (B c : Nat) (hx : a.eval y = .slice (some ⟨B, 0, none⟩) 1 c)
    (hc : W.cell? ⟨B, 0, none⟩ = some (.int .i64 x)) (hl : A.length ≤ 1000) (hb : base ≤ W.heap.size)
    (h : ∀ bo' v' w', AOwn w' base bo' v' (A ++ [x]) → W.grownBy w' bo → (bo' = bo ∨ bo' = some W.heap.size) → wpListIn F n Tryz.prog ops Q rest (a.put o.dst v') w') : wpListIn F n Tryz.prog ops Q (o :: rest) a W := by
  refine wpListIn_plain hgd fun K hK => ?_
  obtain ⟨bo', v', w', hr, h2, h3, h5⟩ := run_append_a W base bo v A x hown B c hc hl hb o.type
  unfold Oper.wpIn
  refine ⟨?_, ?_⟩
  · simp [Oper.about, ho, resolve, Target.leads, Sem.run_pure]
  · rw [Oper.semAt_plain F _ _ (by rw [ho]; intro c hc'; cases hc')]
    simp [execOp, ho, resolve, invoke, builtin, hs, hx, hr, Result.andThen]
    exact hK _ _ (h bo' v' w' h2 h3 h5)
end Go.Proofs.YtdjeokgkeejpcaaGreatDoor

namespace Go.Proofs.YtdjeokgkeejpcaaGreatDoor
open Go Go.Proofs Go.RowKit
attribute [local go_sem] Oper.semAt_some
def leavesN (l : List Pt) (k : Nat) : List Nat := (List.range k).filter fun i => leafK (pt l i).kind
def ints (L : List Nat) : List Int := L.map (fun i : Nat => (i : Int))
theorem leavesN_succ (l : List Pt) (k : Nat) : leavesN l (k + 1) = if leafK (pt l k).kind then leavesN l k ++ [k] else leavesN l k := by
  unfold leavesN
  rw [List.range_succ, List.filter_append]
  cases h : leafK (pt l k).kind with
  | false => rw [List.filter_cons_of_neg (by rw [h]; exact Bool.false_ne_true), List.filter_nil, List.append_nil]; rfl
  | true => rw [List.filter_cons_of_pos (by rw [h]), List.filter_nil]; rfl
theorem ints_snoc (L : List Nat) (k : Nat) : ints (L ++ [k]) = ints L ++ [(k : Int)] := by simp [ints]
theorem ints_len (L : List Nat) : (ints L).length = L.length := by simp [ints]
theorem leavesN_len (l : List Pt) (k : Nat) : (leavesN l k).length ≤ k := by
  have := List.length_filter_le (fun i => leafK (pt l i).kind) (List.range k)
  rw [List.length_range] at this
  exact this
theorem AOwn.le {W : World} {base : Nat} {bo : Option Nat} {v : Value} {A : List Int} (h : AOwn W base bo v A) : ∀ b, bo = some b → base ≤ b := fun b e => by
  rcases h with ⟨h1, _⟩ | ⟨b', off, cap, cur, h1, _, h3, _⟩
  · rw [h1] at e; cases e
  · rw [h1] at e; cases e; exact h3
theorem AOwn.le' {W : World} {base : Nat} {bo : Option Nat} {v : Value} {A : List Int} (h : AOwn W base bo v A) : ∀ b off c, v = .slice (some ⟨b, off, none⟩) A.length c → base ≤ b := fun b off c e => by
  rcases h with ⟨_, h1, _⟩ | ⟨b', off', cap, cur, h1, h2, h3, _⟩
  · rw [h1] at e; cases e
  · rw [h2] at e; cases e; exact h3
theorem AOwn.lt {W : World} {base : Nat} {bo : Option Nat} {v : Value} {A : List Int} (h : AOwn W base bo v A) : ∀ b, bo = some b → b < W.heap.size := fun b e => by
  rcases h with ⟨h1, _⟩ | ⟨b', off, cap, cur, h1, _, _, h4, _⟩
  · rw [h1] at e; cases e
  · rw [h1] at e; cases e; exact (Array.getElem?_eq_some_iff.1 h4).1
def LvRel (l : List Pt) (w : World) (ov iv : Value) (wr : World) : Prop := ∃ (k : Nat) (bo : Option Nat), iv = .int .i64 k ∧ k ≤ l.length ∧ AOwn wr w.heap.size bo ov (ints (leavesN l k)) ∧ Below w.heap.size w wr
def LvPost (w : World) (l : List Pt) (e : Ending) (W : World) : Prop := ∃ a c, e = .returned (.slice a (leavesN l l.length).length c) ∧ IRow W a (ints (leavesN l l.length)) ∧ ∀ b off, a = some ⟨b, off, none⟩ → w.heap.size ≤ b
set_option maxRecDepth 100000 in
set_option maxHeartbeats 16000000 in
theorem leaves43_k (l : List Pt) (hl : l.length ≤ 120) (hT : TrOk l) (la : Option Addr) (c : Nat) (w : World) (hR : PRow w la l) :
    Calls Tryz.prog 43 #[.slice la l.length c] w fun e w' => LvPost w l e w' ∧ Below w.heap.size w w' := by
  have h18 := fun n => (callsIn_wide (n := n)).2 (ck18_k l hl hT la c w hR)
  have h72 := fun n k W => (callsIn_wide (n := n)).2 (leaf72_k k W)
  have hf18 : Fence.wide.fn 18 := trivial
  have hf72 : Fence.wide.fn 72 := trivial
  clear hT
  refine (callsIn_wide (n := 9)).1 (callsIn_of_wp Tryz.func43 rfl trivial ?_ rfl)
  simp only [Tryz.ntmps43, List.size_toArray, List.length_cons, List.length_nil, Nat.reduceAdd, Nat.reduceSub, Array.replicate_succ, Array.replicate_zero, List.push_toArray, List.append_toArray, List.nil_append, List.cons_append]
  gi_wp2_with (gi_at_call 18; ((with_reducible refine (h18 _).mono ?_); rintro e W1 ⟨rfl, hb1⟩; clear h18))
  gi_loopw [3, 11] (fun o i wr => LvRel l w o i wr) (fun _ i _ => l.length - (intOf i).toNat)
  case atStart => exact ⟨0, none, rfl, Nat.zero_le _, AOwn.nil _ _, hb1⟩
  case round =>
    obtain ⟨k, bo, rfl, hk, hown, hB⟩ := hrel
    clear hb1
    have hk0 : (0 : Int) ≤ (k : Int) := by omega
    by_cases hlt : k < l.length
    · have hk1 : (k : Int) < (l.length : Int) := by omega
      obtain ⟨b, off, ka, kc, rfl, hbl, z, _, _⟩ := (hR.below hB (Nat.le_refl _)).at hlt
      rw [← pt_get hlt] at z
      have hss := Lib.hid (leavesN_succ l k)
      obtain ⟨p, hp⟩ : ∃ p, p = pt l k := ⟨_, rfl⟩
      rw [← hp] at z hss
      clear hp
      obtain ⟨y0, y1, y2, y3, y4, y5, y6, y7⟩ := z
      have hlen := leavesN_len l k
      have hX := Bx.new wr 36 #[.int .i64 0, .int .i64 0, .int .i64 0, .int .i64 0, .int .i64 0, .int .i64 0, .slice none 0 0, .int .u64 0]
      have hA := (Below.refl _ wr).alloc (Nat.le_refl _) (.cells #[.int .i64 0, .int .i64 0, .int .i64 0, .int .i64 0, .int .i64 0, .int .i64 0, .slice none 0 0, .int .u64 0] 36)
      have hbw := hB.size
      have h72 := fun n W => h72 n p.kind W
      obtain ⟨ow, ocp, hos⟩ := hown.shape
      rw [hos] at hown ⊢
      clear hos
      cases hlf : leafK p.kind with
      | false =>
        rw [hlf] at h72 hss
        have HE : Hid (leavesN l (k + 1) = leavesN l k) := Lib.hid hss.out
        clear hss hlf
        gi_wp2_with (first
          | ((with_reducible refine st_in ?_); refine AX.wpListIn_storeBox (vs := [.int .i64 p.sym, .int .i64 p.kind, .int .i64 p.frm, .int .i64 p.inn, .int .i64 p.too, .int .i64 p.look, .slice ka p.kids.length kc, .int .u64 (p.met : Nat)]) rfl rfl sz36 hX rfl rfl ?_; rintro W3 g3 g4 g5; obtain ⟨x0, x1, x2, x3, x4, x5, x6, x7⟩ := Bx.eight g3; have hB3 := hA.trans (AX.below_turn (Nat.le_refl _) (.inl (Bx.lt g3)) g4 g5))
          | (gi_at_call 72; ((with_reducible refine (h72 _ _).mono ?_); rintro e W4 ⟨rfl, rfl⟩)))
        go_roundw
        case rel => exact ⟨k + 1, bo, by simp, by omega, by rw [HE.out]; exact hown.below hB3, hB.trans (hB3.mono hbw)⟩
        case measure => simp [intOf]; omega
      | true =>
        rw [hlf] at h72 hss
        have HE : Hid (leavesN l (k + 1) = leavesN l k ++ [k]) := Lib.hid hss.out
        clear hss hlf
        gi_wp2_with (first
          | ((with_reducible refine st_in ?_); refine AX.wpListIn_storeBox (vs := [.int .i64 p.sym, .int .i64 p.kind, .int .i64 p.frm, .int .i64 p.inn, .int .i64 p.too, .int .i64 p.look, .slice ka p.kids.length kc, .int .u64 (p.met : Nat)]) rfl rfl sz36 hX rfl rfl ?_; rintro W3 g3 g4 g5; obtain ⟨x0, x1, x2, x3, x4, x5, x6, x7⟩ := Bx.eight g3; have hB3 := hA.trans (AX.below_turn (Nat.le_refl _) (.inl (Bx.lt g3)) g4 g5); have hB4 := (Below.refl _ W3).alloc (Nat.le_refl _) (.cells #[.int .i64 (k : Nat)] 3); have hown4 := (hown.below hB3).below hB4; have hnew := (Bx.new W3 3 #[.int .i64 (k : Nat)]).cell 0; have hsz4 : w.heap.size ≤ (W3.alloc (.cells #[.int .i64 (k : Nat)] 3)).heap.size := Nat.le_trans hbw (Nat.le_trans hB3.size hB4.size))
          | (gi_at_call 72; ((with_reducible refine (h72 _ _).mono ?_); rintro e W4 ⟨rfl, rfl⟩))
          | (gi_at_builtin; refine append_aIn _ w.heap.size bo _ (ints (leavesN l k)) k rfl _ _ rfl rfl hown4 W3.heap.size 1 rfl hnew (by rw [ints_len]; omega) hsz4 ?_; intro bo' v' w5 hown5 hgr hbo; obtain ⟨ow5, oc5, hos5⟩ := hown5.shape; rw [hos5] at hown5 ⊢))
        go_roundw
        case rel => exact ⟨k + 1, bo', by simp, by omega, by rw [HE.out, ints_snoc]; have h := hown5; rw [List.length_append, List.length_singleton] at h; exact h, (hB.trans ((hB3.trans (hB4.mono hB3.size)).mono hbw)).grown hgr hsz4 (fun b e => hown4.le b e)⟩
        case measure => simp [intOf]; omega
    · obtain rfl : k = l.length := by omega
      have hk1 : ¬ (l.length : Int) < (l.length : Int) := by omega
      have hle := hown.le'
      obtain ⟨oa, oc, hos, hrow⟩ := hown.row
      have HB := Lib.hid (fun b off (e : oa = some ⟨b, off, none⟩) => hle b off oc (by rw [hos, e]))
      clear hle
      rw [hos]
      rw [ints_len] at hos ⊢
      clear hown hos
      gi_wp2_with fail
      exact bodyPost_ret (v := .slice oa (leavesN l l.length).length oc) (by simp [results, Tryz.results43, go_sem]) rfl ⟨⟨oa, oc, rfl, hrow, HB.out⟩, hB⟩
end Go.Proofs.YtdjeokgkeejpcaaGreatDoor

namespace Go.Proofs.YtdjeokgkeejpcaaGreatDoor
open Go Go.Proofs Go.RowKit
attribute [local go_sem] Oper.semAt_some
def r1s (l : List Pt) (k : Int) (s : List Int × List Int) (i : Nat) : List Int × List Int := (if (pt l i).kind ≠ 4 then nearF k s.1 ++ [(pt l i).look] else s.1, s.2.set i (foldMax (nearF k s.1) (pt l i).look))
theorem r1_fold (l : List Pt) (k : Int) : ∀ (is : List Nat) (A X : List Int), r1 l k is A X = (is.foldl (r1s l k) (A, X)).2
  | [], A, X => rfl
  | i :: is, A, X => by rw [r1, List.foldl_cons, r1_fold l k is]; rfl
def r2s (l : List Pt) (s : Int × List Int) (i : Nat) : Int × List Int := (max s.1 (pt l i).look, s.2.set i (max (it s.2 i) (max s.1 (pt l i).look)))
theorem r2_fold (l : List Pt) : ∀ (is : List Nat) (m : Int) (X : List Int), r2 l is m X = (is.foldl (r2s l) (m, X)).2
  | [], m, X => rfl
  | i :: is, m, X => by rw [r2, List.foldl_cons, r2_fold l is]; rfl
theorem r1s_len (l : List Pt) (k : Int) : ∀ (is : List Nat) (s : List Int × List Int), (is.foldl (r1s l k) s).2.length = s.2.length
  | [], _ => rfl
  | i :: is, s => by rw [List.foldl_cons, r1s_len l k is]; simp [r1s]
theorem near_len (k : Int) (A : List Int) : (nearF k A).length ≤ A.length := by unfold nearF; rw [List.length_drop]; omega
theorem r1s_ahead (l : List Pt) (k : Int) : ∀ (is : List Nat) (s : List Int × List Int), (is.foldl (r1s l k) s).1.length ≤ s.1.length + is.length
  | [], s => by simp
  | i :: is, s => by
    rw [List.foldl_cons]
    have h1 := r1s_ahead l k is (r1s l k s i)
    have h2 : (r1s l k s i).1.length ≤ s.1.length + 1 := by
      unfold r1s
      dsimp only
      split
      · rw [List.length_append, List.length_singleton]; have := near_len k s.1; omega
      · omega
    rw [List.length_cons]; omega
theorem r2s_len (l : List Pt) : ∀ (is : List Nat) (s : Int × List Int), (is.foldl (r2s l) s).2.length = s.2.length
  | [], _ => rfl
  | i :: is, s => by rw [List.foldl_cons, r2s_len l is]; simp [r2s]
theorem leavesN_lt {l : List Pt} {k i : Nat} (h : i ∈ leavesN l k) : i < k := by
  unfold leavesN at h
  exact List.mem_range.1 (List.mem_filter.1 h).1
theorem back44_k (lv : List Int) (la : Option Addr) (c : Nat) (w : World) :
    Calls Tryz.prog 44 #[.slice la lv.length c] w fun e w' => e = .returned (.func (.func 75) #[] #[.pointer (some ⟨w.heap.size, 0, none⟩)]) ∧ Below w.heap.size w w' ∧ w'.heap.size = w.heap.size + 1 ∧ Bx w' w.heap.size 27 #[.slice la lv.length c] := by
  have b0 := Bx.new w 27 #[.slice la lv.length c]
  have hB := (Below.refl _ w).alloc (Nat.le_refl _) (.cells #[.slice la lv.length c] 27)
  go_enter Tryz.func44, Tryz.ntmps44
  go_wp2_with fail
  go_ret
  exact ⟨rfl, hB, by simp, b0⟩
/-- What the walk back leans on: its row, its box. -/
structure Fi (la : Option Addr) (lv : List Int) (L : Nat) (hdr : Value) (W : World) : Prop where
  r : IRow W la lv
  l : Bx W L 27 #[hdr]
def Bv (la : Option Addr) (lv : List Int) (L k : Nat) : Prop := k = L ∨ (lv ≠ [] ∧ ∃ off, la = some ⟨k, off, none⟩)
theorem Fi.keep {la : Option Addr} {lv : List Int} {L H : Nat} {hdr : Value} {X Y : World} (h : Fi la lv L hdr X) (hk : AX.Keep (Bv la lv L) H X Y) : Fi la lv L hdr Y := by
  refine ⟨fun hne => ?_, hk.same _ _ h.l (.inl (.inl rfl))⟩
  obtain ⟨b, off, e, hb, hc⟩ := h.r hne
  have hs : Y.heap[b]? = X.heap[b]? := by rw [hk.same b X.heap[b] (Array.getElem?_eq_getElem hb) (.inl (.inr ⟨hne, off, e⟩)), Array.getElem?_eq_getElem hb]
  exact ⟨b, off, e, Nat.lt_of_lt_of_le hb hk.low.size, fun j hj => (World.cell?_of_block (w := X) (w' := Y) (a := ⟨b, off + j, none⟩) hs).trans (hc j hj)⟩
def BiRel (la : Option Addr) (lv : List Int) (L : Nat) (hdr : Value) (n : Nat) (J : Nat → List Nat → World → Prop) (iv : Value) (wr : World) : Prop :=
  ∃ (pre : List Nat) (k : Nat), pre.length + k = n ∧ iv = .int .i64 ((k : Int) - 1) ∧ Fi la lv L hdr wr ∧ J wr.heap.size pre wr
set_option maxRecDepth 100000 in
set_option maxHeartbeats 8000000 in
theorem back75_in (n : Nat) (hn1 : 1 ≤ n) {L : Nat} (lv : List Int) (hl : lv.length ≤ 1000) (la : Option Addr) (c : Nat) (y : Nat) (W : World) (hS : Fi la lv L (.slice la lv.length c) W)
    (J : Nat → List Nat → World → Prop)
    (hY : ∀ (pre : List Nat) (x H : Nat) (W1 : World), J H pre W1 → H ≤ W1.heap.size → pre.length + x + 1 = lv.length → YieldAt Fence.wide (n - 1) Tryz.prog y #[.int .i64 (x : Nat), .int .i64 (it lv x)] W1 fun e W' => e = .returned (.bool true) ∧ J W'.heap.size (pre ++ [x]) W' ∧ AX.Keep (Bv la lv L) H W1 W')
    (h0 : J W.heap.size [] W) : CallsIn Fence.wide n Tryz.prog 75 #[.func (.yield y) #[] #[], .pointer (some ⟨L, 0, none⟩)] W fun e W' => (∃ v, e = .returned v) ∧ ∃ H xs, xs.length = lv.length ∧ J H xs W' := by
  have c0 := hS.l.cell 0
  have hl0 : (0 : Int) ≤ (lv.length : Int) := by omega
  refine callsIn_of_wp Tryz.func75 rfl trivial ?_ rfl
  simp only [Tryz.ntmps75, List.size_toArray, List.length_cons, List.length_nil, Nat.reduceAdd, Nat.reduceSub, Array.replicate_succ, Array.replicate_zero, List.push_toArray, List.append_toArray, List.nil_append, List.cons_append]
  gi_wp2_with fail
  gi_loopw [3] (fun i wr => BiRel la lv L (.slice la lv.length c) lv.length J i wr) (fun i _ => (intOf i + 1).toNat)
  case atStart => exact ⟨[], lv.length, by simp, by simp, hS, h0⟩
  case round =>
    obtain ⟨pre, k, hpk, rfl, hSr, hJr⟩ := hrel
    clear c0 hS h0
    have c0 := hSr.l.cell 0
    by_cases hk : k = 0
    · subst hk
      have hneg : ¬ (0 : Int) ≤ (((0 : Nat) : Int) - 1) := by omega
      gi_wp2_with fail
      go_end0
      exact ⟨⟨_, rfl⟩, _, pre, by omega, hJr⟩
    · obtain ⟨j, rfl⟩ : ∃ j, k = j + 1 := ⟨k - 1, by omega⟩
      have hj : j < lv.length := by omega
      obtain ⟨b, off, rfl, hbl, z'⟩ := hSr.r.at hj
      obtain ⟨fn, tmps, assign, body, hy, hRo⟩ := hY pre j wr.heap.size wr hJr (Nat.le_refl _) (by omega)
      have hidx : (((j + 1 : Nat) : Int) - 1) = (j : Int) := by omega
      have hv : it lv j = lv[j] := by simp [it, hj]
      rw [hidx]
      rw [hv] at hy
      obtain ⟨q, hq⟩ : ∃ q, q = lv[j] := ⟨_, rfl⟩
      rw [← hq] at z' hy
      clear hq hv hidx
      have hj0 : (0 : Int) ≤ (j : Int) := by omega
      have hj1 : (j : Int) < (lv.length : Int) := by omega
      gi_wp2_with fail
      refine hRo.mono ?_
      rintro e1 W4 ⟨rfl, hJ4, hK4⟩
      have hS4 := hSr.keep hK4
      clear hy hRo hSr hK4 hJr c0 z'
      gi_wp2_with fail
      go_roundw
      case rel => exact ⟨pre ++ [j], j, by rw [List.length_append, List.length_singleton]; omega, rfl, hS4, hJ4⟩
      case measure => simp [intOf] <;> omega
end Go.Proofs.YtdjeokgkeejpcaaGreatDoor
