/- Marks: tree.Check 18 of a tree that may be. -/
import Derived.Test.YtdjeokgkeejpcaaGreatDoorM8
import Derived.RangeFuncLeaves
import Derived.RangeFuncCalls
import Derived.Shelf.Abstract
namespace Go.Proofs.YtdjeokgkeejpcaaGreatDoor
open Go Go.Proofs Go.RowKit
attribute [local go_sem] Oper.semAt_some
/-- What a round comes to that turns one block: all else lies still. -/
theorem kept_turn {X Y Z : World} {b base H : Nat} {B : Nat → Prop} (hb : Below X.heap.size X Y) (h4 : ∀ k, k ≠ b → Z.heap[k]? = Y.heap[k]?) (h5 : AX.Same Y Z) (hlt : b < Z.heap.size) (hbase : b < base) (hB : ¬ B b) (hH : b < H) : KeepsFrom base X Z ∧ AX.Keep B H X Z := by
  have hz : Below 0 Y Z := AX.below_turn (Nat.zero_le _) (.inl hlt) h4 h5
  have h0 : Below 0 X Z := (hb.mono (Nat.zero_le _)).trans hz
  have same : ∀ k o, k ≠ b → X.heap[k]? = some o → Z.heap[k]? = some o := fun k o hk ho => (h4 k hk).trans ((hb.block k (Array.getElem?_eq_some_iff.1 ho).1).trans ho)
  exact ⟨⟨h0.size, fun k o hk ho _ => same k o (by omega) ho⟩, ⟨h0, fun k o ho hu => same k o (fun e => by subst e; rcases hu with h | h <;> first | exact hB h | omega) ho⟩⟩
theorem Below.putObj {n l : Nat} {X Y : World} (h : Below n X Y) (o : Obj) (hn : n ≤ Y.heap.size) (hl : n ≤ l) : Below n X (Y.putObj l o) := h.grown (grownBy_putObj' Y l o) hn (fun k e => by cases e; exact hl)
theorem Bx.putObj {w : World} {B l : Nat} {t : TypeId} {cs : Array Value} (h : Bx w B t cs) (o : Obj) (hl : B ≠ l) : Bx (w.putObj l o) B t cs := (World.putObj_heap_other hl).trans h
/-- The state of Check's loop over the walk. -/
structure Ci (w : World) (hdr : Value) (pre : List Nat) (W : World) : Prop where
  b : Below w.heap.size w W
  l : Bx W w.heap.size 22 #[hdr]
  r : Bx W (w.heap.size + 1) 25 #[.int .i64 0]
  n : Bx W (w.heap.size + 2) 3 #[.int .i64 (pre.length : Nat)]
theorem Ci.below {w : World} {hdr : Value} {pre : List Nat} {X Y : World} {m : Nat} (h : Ci w hdr pre X) (hb : Below m X Y) (hm : w.heap.size + 3 ≤ m) : Ci w hdr pre Y :=
  ⟨h.b.trans (hb.mono (by omega)), h.l.below hb (by omega), h.r.below hb (by omega), h.n.below hb (by omega)⟩
set_option maxRecDepth 100000 in
set_option maxHeartbeats 16000000 in
theorem ck18_k (l : List Pt) (hl : l.length ≤ 120) (hT : TrOk l) (la : Option Addr) (c : Nat) (w : World) (hR : PRow w la l) :
    Calls Tryz.prog 18 #[.slice la l.length c] w fun e w' => e = .returned (.int .i64 0) ∧ Below w.heap.size w w' := by
  have hl1 : ¬ (524288 : Int) < (l.length : Int) := by omega
  have b0 := ((Bx.new w 22 #[.slice la l.length c]).alloc (.cells #[.int .i64 0] 25)).alloc (.cells #[.int .i64 0] 3)
  have b1 := (Bx.new (w.alloc (.cells #[.slice la l.length c] 22)) 25 #[.int .i64 0]).alloc (.cells #[.int .i64 0] 3)
  have b2 := Bx.new ((w.alloc (.cells #[.slice la l.length c] 22)).alloc (.cells #[.int .i64 0] 25)) 3 #[.int .i64 0]
  have c0 := ((Bx.new w 22 #[.slice la l.length c]).alloc (.cells #[.int .i64 0] 25)).cell 0
  simp only [World.size_alloc] at b1 b2
  have hB3 := (((Below.refl _ w).alloc (Nat.le_refl _) (.cells #[.slice la l.length c] 22)).alloc (by simp) (.cells #[.int .i64 0] 25)).alloc (by simp; omega) (.cells #[.int .i64 0] 3)
  have hz : (((w.alloc (.cells #[.slice la l.length c] 22)).alloc (.cells #[.int .i64 0] 25)).alloc (.cells #[.int .i64 0] 3)).heap.size = w.heap.size + 3 := by simp
  have hw36 := walk36_k l la c
  refine (callsIn_wide (n := 9)).1 (callsIn_of_wp_marks Tryz.func18 rfl trivial ?_ rfl)
  simp only [Tryz.ntmps18, List.size_toArray, List.length_cons, List.length_nil, Nat.reduceAdd, Nat.reduceSub, Array.replicate_succ, Array.replicate_zero, List.push_toArray, List.append_toArray, List.nil_append, List.cons_append]
  have hf36 : Fence.wide.fn 36 := trivial
  have hf37 : Fence.wide.fn 37 := trivial
  have hf38 : Fence.wide.fn 38 := trivial
  have HZ := Lib.hid hz
  clear hz
  gi_wp2_with (first
    | ((with_reducible refine st_in ?_); refine AX.wpListIn_storeCell (o := 0) (v := .int .i64 0) rfl rfl rfl sz3 b2 (show 0 < 1 by decide) ?_; rintro W5 g3 g4 g5; (have n5 : Bx W5 (w.heap.size + 1 + 1) 3 #[.int .i64 0] := g3); (have l5 := b0.same (g4 w.heap.size (by omega))); (have r5 := b1.same (g4 (w.heap.size + 1) (by omega))); (have hB5 := hB3.trans (AX.below_turn (n := w.heap.size) (by omega) (.inl n5.lt) g4 g5)); (have cl5 := l5.cell 0); (have h36 := (callsIn_wide (n := 8)).2 (hw36 W5)); clear b0 b1 b2 hB3 g3 g4 g5)
    | (gi_at_call 36; ((with_reducible refine h36.mono ?_); rintro e V ⟨rfl, hb6, hz6, L6, I6⟩)))
  obtain ⟨L, hLd⟩ : ∃ L, L = W5.heap.size := ⟨_, rfl⟩
  rw [← hLd] at L6 I6 hz6 hb6 ⊢
  have n6 := n5.below hb6 (by rw [hLd]; exact n5.lt)
  have l6 := l5.below hb6 (by rw [hLd]; exact l5.lt)
  have r6 := r5.below hb6 (by rw [hLd]; exact r5.lt)
  have hL5 : w.heap.size + 2 < L := by have := n5.lt; omega
  have hB6 : Below w.heap.size w V := hB5.trans (hb6.mono (by omega))
  have hpos := hT.tr.pos
  clear n5 l5 r5 hB5 hb6 h36 hw36 cl5 hLd c0
  refine AX.range_lowN (B := Wb w.heap.size L) (Pp := fun pre x => pre = List.range x ∧ x < l.length) (encs := fun x : Nat => #[.int .i64 (x : Nat)]) (S := fun xs => xs = List.range l.length) rfl (by omega) (gf := 69) (lb := #[.pointer (some ⟨L + 1, 0, none⟩), .pointer (some ⟨L, 0, none⟩)]) rfl trivial (enters_of Tryz.func69 (by kernel_rfl) rfl) (fun _ => rfl) (fun k h => by rcases h with h | h <;> omega) ?seq
    (fun pre W => Ci w (.slice la l.length c) pre W) (fun s X Y h hb => h.below hb (by omega)) ⟨hB6, l6, r6, n6⟩
    (fun x a' W => a' = { tmps := #[.slice la l.length c, .pointer (some ⟨w.heap.size, 0, none⟩), .pointer (some ⟨w.heap.size + 1, 0, none⟩), .pointer (some ⟨w.heap.size + 1 + 1, 0, none⟩), .int .i64 (x : Nat), undef, undef, undef, .slice la l.length c, .int .i64 (l.length : Nat), .bool false, .slice la l.length c, .func (.func 69) #[] #[.pointer (some ⟨L + 1, 0, none⟩), .pointer (some ⟨L, 0, none⟩)], .int .i64 (x : Nat), undef, undef, undef, undef, undef, undef, undef, undef, undef, undef, undef, undef, undef, undef, undef, undef, undef, undef, undef, undef, undef, undef, undef, undef, undef, undef, undef, undef, undef, undef, undef, undef, undef, undef, undef, undef, undef, undef, undef, undef, undef, undef, undef, undef, undef, undef, undef, undef, undef, undef], defers := [] }) (fun _ _ _ _ h _ => h) ?assign ?body ?done
  case seq =>
    intro y J W hW hsz hJ hY h0
    exact walk1_in 8 (by omega) l hl hT la c hR y V.heap.size W hsz ⟨hB6.trans (hW.mono (by omega)), L6.below hW L6.lt⟩ (I6.below hW I6.lt) J hJ (fun i W1 hi hJi hW1 => by
      have := hY (List.range i) i W1 hJi hW1 ⟨rfl, hi⟩
      rw [List.range_succ]; exact this) h0
  case assign =>
    rintro y pre x W K hC hW hK
    gi_wp2_with fail
    exact hK _ W (KeepsFrom.refl _ _) (AX.Keep.refl _ _ _) hC rfl
  case body =>
    rintro y pre i a' W hC hW rfl ⟨rfl, hi⟩
    obtain ⟨hCb, hCl, hCr, hCn⟩ := hC
    rw [List.length_range] at hCn
    have hRr := hR.below hCb (Nat.le_refl _)
    obtain ⟨b, off, ka, kc, rfl, hbl, z, _, _⟩ := hRr.at hi
    rw [← pt_get hi] at z
    have hbr := Lib.hid (hT.root i hi)
    have h37 := fun n => CallsIn.inRound y ((callsIn_wide (n := n)).2 (bare37_k (pt l i) (hT.bare i hi) ka kc W))
    obtain ⟨p, hp⟩ : ∃ p, p = pt l i := ⟨_, rfl⟩
    rw [← hp] at z h37 hbr
    clear hp hRr L6 I6 l6 r6 n6
    obtain ⟨z0, z1, z2, z3, z4, z5, z6, z7⟩ := z
    unfold ptV at h37
    have hi0 : (0 : Int) ≤ (i : Int) := by omega
    have hi1 : (i : Int) < (l.length : Int) := by omega
    have cl := hCl.cell 0
    by_cases hz : (0 : Int) < (i : Int)
    · have hkd : ¬ p.kind = 1 := hbr.out (by omega)
      gi_wp2_with (first
        | (gi_at_call 37; ((with_reducible refine (h37 _).mono ?_); rintro e W2 ⟨rfl, hb2⟩; (have z1' := (hb2.cell (p := ⟨b, off + i * 8 + 1, none⟩) hbl).trans z1); (have cl' := (hCl.below hb2 hCl.lt).cell 0); (have n2 := hCn.below hb2 hCn.lt); (have cn := n2.cell 0); clear cl z0 z1 z2 z3 z4 z5 z6 z7))
        | ((with_reducible refine st_in ?_); refine AX.wpListIn_storeCell (o := 0) (v := .int .i64 ((i : Int) + 1)) rfl rfl rfl sz3 n2 (show 0 < 1 by decide) ?_; rintro W3 g3 g4 g5))
      have n3 : Bx W3 (w.heap.size + 2) 3 #[.int .i64 ((i + 1 : Nat) : Int)] := by rw [Int.natCast_add]; exact g3
      obtain ⟨k1, k2⟩ := kept_turn (base := V.heap.size) (H := V.heap.size) (B := Wb w.heap.size L) hb2 g4 g5 n3.lt (by omega) (fun h => by rcases h with h | h <;> omega) (by omega)
      exact ⟨k1, k2, (hCb.trans (hb2.mono hCb.size)).trans (AX.below_turn (n := w.heap.size) (by omega) (.inl n3.lt) g4 g5), (hCl.below hb2 hCl.lt).same (g4 _ (by omega)), (hCr.below hb2 hCr.lt).same (g4 _ (by omega)), by simpa using n3⟩
    · gi_wp2_with (first
        | (gi_at_call 37; ((with_reducible refine (h37 _).mono ?_); rintro e W2 ⟨rfl, hb2⟩; (have cl' := (hCl.below hb2 hCl.lt).cell 0); (have n2 := hCn.below hb2 hCn.lt); (have cn := n2.cell 0); clear cl z0 z1 z2 z3 z4 z5 z6 z7))
        | ((with_reducible refine st_in ?_); refine AX.wpListIn_storeCell (o := 0) (v := .int .i64 ((i : Int) + 1)) rfl rfl rfl sz3 n2 (show 0 < 1 by decide) ?_; rintro W3 g3 g4 g5))
      have n3 : Bx W3 (w.heap.size + 2) 3 #[.int .i64 ((i + 1 : Nat) : Int)] := by rw [Int.natCast_add]; exact g3
      obtain ⟨k1, k2⟩ := kept_turn (base := V.heap.size) (H := V.heap.size) (B := Wb w.heap.size L) hb2 g4 g5 n3.lt (by omega) (fun h => by rcases h with h | h <;> omega) (by omega)
      exact ⟨k1, k2, (hCb.trans (hb2.mono hCb.size)).trans (AX.below_turn (n := w.heap.size) (by omega) (.inl n3.lt) g4 g5), (hCl.below hb2 hCl.lt).same (g4 _ (by omega)), (hCr.below hb2 hCr.lt).same (g4 _ (by omega)), by simpa using n3⟩
  case done =>
    rintro D xs W hD rfl hC hK
    obtain ⟨hCb, hCl, hCr, hCn⟩ := hC
    rw [List.length_range] at hCn
    have cl := hCl.cell 0
    have cn := hCn.cell 0
    have hb0 : ((l.length : Int) == 0) = false := beq_eq_false_iff_ne.2 (by omega)
    have hDw : w.heap.size + 2 < D := by omega
    clear L6 I6 l6 r6 n6 hB6 hD
    gi_wp2_with fail
    gi_loopw [5, 44] (fun s i wr => ∃ k : Nat, k ≤ l.length ∧ s = .int .i64 (kidsN l 0 k : Nat) ∧ i = .int .i64 k ∧ Ci w (.slice la l.length c) (List.range l.length) wr ∧ wr.heap[D]? = some (.deferred (some []))) (fun _ i _ => l.length - (intOf i).toNat)
    case atStart => exact ⟨0, Nat.zero_le _, by rw [kidsN_self]; rfl, rfl, ⟨hCb, hCl, hCr, by rw [List.length_range]; exact hCn⟩, hK⟩
    case round =>
      obtain ⟨k, hk, rfl, rfl, hCr1, hKr⟩ := hrel
      clear hCb hCl hCr hCn hK cl cn
      obtain ⟨hCb, hCl, hCr, hCn⟩ := hCr1
      have hk0 : (0 : Int) ≤ (k : Int) := by omega
      have cl := hCl.cell 0
      by_cases hlt : k < l.length
      · have hk1 : (k : Int) < (l.length : Int) := by omega
        obtain ⟨b, off, ka, kc, rfl, hbl, z, _, _⟩ := (hR.below hCb (Nat.le_refl _)).at hlt
        rw [← pt_get hlt] at z
        have hsum : Hid (kidsN l 0 (k + 1) = kidsN l 0 k + (pt l k).kids.length) := Lib.hid (by rw [kidsN_add l (Nat.zero_le k) (Nat.le_succ k), kidsN_one l hlt])
        have hmax : kidsN l 0 k + (pt l k).kids.length ≤ 120 := by
          have h1 := hT.tr.sum
          have h2 := kidsN_add l (Nat.zero_le (k + 1)) (show k + 1 ≤ l.length by omega)
          rw [kidsN_add l (Nat.zero_le k) (Nat.le_succ k), kidsN_one l hlt] at h2
          omega
        obtain ⟨p, hp⟩ : ∃ p, p = pt l k := ⟨_, rfl⟩
        rw [← hp] at z hsum hmax
        clear hp
        obtain ⟨S, hS⟩ : ∃ S, S = kidsN l 0 k := ⟨_, rfl⟩
        rw [← hS] at hsum hmax ⊢
        have HS := Lib.hid hS
        clear hS
        obtain ⟨z0, z1, z2, z3, z4, z5, z6, z7⟩ := z
        have hs0 : (0 : Int) ≤ (S : Int) := by omega
        have hs1 : (0 : Int) ≤ (p.kids.length : Int) := by omega
        have hs2 : (S : Int) + (p.kids.length : Int) ≤ 120 := by omega
        have hX := Bx.new wr 36 #[.int .i64 0, .int .i64 0, .int .i64 0, .int .i64 0, .int .i64 0, .int .i64 0, .slice none 0 0, .int .u64 0]
        have hA := (Below.refl _ wr).alloc (Nat.le_refl _) (.cells #[.int .i64 0, .int .i64 0, .int .i64 0, .int .i64 0, .int .i64 0, .int .i64 0, .slice none 0 0, .int .u64 0] 36)
        gi_wp2_with ((with_reducible refine st_in ?_); refine AX.wpListIn_storeBox (vs := [.int .i64 p.sym, .int .i64 p.kind, .int .i64 p.frm, .int .i64 p.inn, .int .i64 p.too, .int .i64 p.look, .slice ka p.kids.length kc, .int .u64 (p.met : Nat)]) rfl rfl sz36 hX rfl rfl ?_; rintro W3 g3 g4 g5; obtain ⟨x0, x1, x2, x3, x4, x5, x6, x7⟩ := Bx.eight g3; have hB3 := hA.trans (AX.below_turn (Nat.le_refl _) (.inl (Bx.lt g3)) g4 g5))
        go_roundw
        case rel => exact ⟨k + 1, by omega, by rw [hsum.out, Int.natCast_add], by simp, (⟨hCb, hCl, hCr, hCn⟩ : Ci w _ _ wr).below hB3 (by have := hCn.lt; omega), (hB3.block D (Array.getElem?_eq_some_iff.1 hKr).1).trans hKr⟩
        case measure => simp [intOf]; omega
      · obtain rfl : k = l.length := by omega
        have hk1 : ¬ (l.length : Int) < (l.length : Int) := by omega
        have hsm : kidsN l 0 l.length = l.length - 1 := by have := hT.tr.sum; omega
        have h38 := fun n => (callsIn_wide (n := n)).2 (contains38_k l hl hT la c w.heap.size wr (hR.below hCb (Nat.le_refl _)) hCl)
        obtain ⟨S, hS⟩ : ∃ S, S = kidsN l 0 l.length := ⟨_, rfl⟩
        rw [← hS] at hsm ⊢
        have hne : (S : Int) = (l.length : Int) - 1 := by omega
        clear hS hsm
        rw [hne]
        clear hne
        gi_wp2_with (first
          | (gi_at_call 38; ((with_reducible refine (h38 _).mono ?_); rintro e W2 ⟨rfl, hb2⟩; (have r2 := hCr.below hb2 hCr.lt)))
          | ((with_reducible refine st_in ?_); refine AX.wpListIn_storeCell (o := 0) (v := .int .i64 0) rfl rfl rfl sz25 r2 (show 0 < 1 by decide) ?_; rintro W3 g3 g4 g5))
        have r3 : Bx W3 (w.heap.size + 1) 25 #[.int .i64 0] := g3
        have hK3 := (g4 D (by omega)).trans ((hb2.block D (Array.getElem?_eq_some_iff.1 hKr).1).trans hKr)
        have hB3 := (hCb.trans (hb2.mono hCb.size)).trans (AX.below_turn (n := w.heap.size) (by omega) (.inl r3.lt) g4 g5)
        refine ⟨by simp, .inl ⟨_, _, rfl, run_takeDeferred hK3, ?_⟩⟩
        have e0 := (r3.putObj (l := D) (.deferred none) (by omega)).cell 0
        have hBf := Below.putObj hB3 (.deferred none) hB3.size (l := D) (by omega)
        exact ⟨.int .i64 0, by simp [results, Tryz.results18, go_sem, e0], rfl, hBf⟩
end Go.Proofs.YtdjeokgkeejpcaaGreatDoor
