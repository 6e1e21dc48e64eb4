/- Dirty: pairs; nearest answers two jobs of the row, of different slots. -/
import Derived.Test.YtpplkjjfaibmmaaDoorH5
import Derived.Test.YtpplkjjfaibmmaaDoorD5
import Derived.Test.YtpplkjjfaibmmaaDoorRg6
import Derived.Test.YtpplkjjfaibmmaaDoorSt4
namespace Go.Proofs.YtpplkjjfaibmmaaDoor
open Go Go.Proofs Go.RowKit
attribute [local go_sem] Oper.semAt_some
theorem pairs_k (la : Option Addr) (n c : Nat) (w : World) : Calls Tryd.prog 47 #[.slice la n c] w fun e w' => e = .returned (.func (.func 59) #[] #[.pointer (some ⟨w.heap.size, 0, none⟩)]) ∧ w' = w.alloc (.cells #[.slice la n c] 24) := by
  go_enter Tryd.func47, Tryd.ntmps47
  go_wp2
  go_ret
  exact ⟨rfl, rfl⟩
/-- A job whose span is let be. -/
def SpJ (x : J) : Prop := Rg x.f ∧ Rg x.t ∧ x.f ≤ x.t
theorem spJ_z : SpJ J.z := ⟨⟨by decide, by decide⟩, ⟨by decide, by decide⟩, by decide⟩
theorem bl_lets {n A B : Nat} {w X Y : World} (h : Below n w X) (hA : n ≤ A) (hB : n ≤ B) (hn : n ≤ w.heap.size) (hl : AX.Lets A B X Y) : Below n w Y :=
  ⟨hl.low.os.trans h.os, hl.low.tape.trans h.tape, hl.low.output.trans h.output, Nat.le_trans h.size hl.low.size, fun k hk => by
    have hlt : k < X.heap.size := by have := h.size; omega
    rw [hl.same k X.heap[k] (Array.getElem?_eq_getElem hlt) (by omega) (.inl (by omega)), ← Array.getElem?_eq_getElem hlt]
    exact h.block k hk⟩
/-- What nearest keeps: its two boxes, and whether there are some. -/
def Nst (l : List J) (w : World) (b0 : Nat) (pre : List (J × J)) (W : World) : Prop := ∃ (sm : Bool) (x y : J), Bx W (b0 + 2) 4 #[.bool sm] ∧ Box5 W b0 x ∧ Box5 W (b0 + 1) y ∧ SpJ x ∧ SpJ y ∧ (sm = true → x ∈ l ∧ y ∈ l ∧ x.s ≠ y.s) ∧ (pre ≠ [] → sm = true) ∧ Below b0 w W
theorem Box5.lets {A B : Nat} {X Y : World} {b : Nat} {x : J} (h : Box5 X b x) (hA : b ≠ A) (hl : AX.Lets A B X Y) : Box5 Y b x := hl.same b _ h hA (.inr rfl)
theorem Nst.lets {l : List J} {w : World} {b0 A B : Nat} {pre : List (J × J)} {X Y : World} (h : Nst l w b0 pre X) (hA : b0 + 3 ≤ A) (hB : b0 ≤ B) (hn : b0 ≤ w.heap.size) (hl : AX.Lets A B X Y) : Nst l w b0 pre Y := by
  obtain ⟨sm, x, y, h1, h2, h3, h4, h5, h6, h7, h8⟩ := h
  exact ⟨sm, x, y, h1.lets (by omega) hl, h2.lets (by omega) hl, h3.lets (by omega) hl, h4, h5, h6, h7, bl_lets h8 (by omega) hB hn hl⟩
theorem yield_mono {F : Fence} {n : Nat} {P : Program} {l : Nat} {args : Array Value} {W : World} {R R' : Ending → World → Prop} (h : YieldAt F n P l args W R) (hr : ∀ e w, R e w → R' e w) : YieldAt F n P l args W R' := by
  obtain ⟨fn, t, a, b, h1, h2⟩ := h
  exact ⟨fn, t, a, b, h1, h2.mono hr⟩
theorem sz4g : AX.sizeT Tryd.prog 4 = some 1 := by kernel_rfl
def row28_5 : List (Nat × Bool) := [(0, false), (1, false), (2, false), (3, false), (5, false), (6, false), (7, false), (8, false), (11, false), (12, false), (14, false), (15, false), (16, false), (17, false), (4, true), (9, true), (10, true), (13, true), (18, true), (19, true), (20, true), (21, false)]
def inf28_5 : List AX.Inf := [⟨0, 4096, 32, true⟩, ⟨1, 8192, 4096, true⟩, ⟨0, 16384, 64, true⟩, ⟨4, 32768, 16384, true⟩, ⟨10, 65536, 40960, false⟩, ⟨0, 131072, 4, true⟩, ⟨32, 262144, 131072, true⟩, ⟨0, 524288, 8, true⟩, ⟨128, 1048576, 524288, true⟩, ⟨336, 2097152, 1310720, false⟩, ⟨528, 4194304, 2162688, false⟩, ⟨0, 8388608, 32, true⟩, ⟨0, 16777216, 4, true⟩, ⟨7168, 33554432, 25165824, false⟩, ⟨0, 67108864, 64, true⟩, ⟨16384, 134217728, 67108864, true⟩, ⟨0, 268435456, 8, true⟩, ⟨65536, 536870912, 268435456, true⟩, ⟨172032, 1073741824, 671088640, false⟩, ⟨271360, 2147483648, 1111490560, false⟩, ⟨786432, 4294967296, 2147483648, false⟩, ⟨2097151, 128, 4294967296, true⟩]
theorem fit28_5 : AX.mixF inf28_5 row28_5 0 = true := by kernel_rfl
def row28_7 : List (Nat × Bool) := [(0, false), (1, false), (2, true), (3, true), (4, true)]
def inf28_7 : List AX.Inf := [⟨0, 549755813888, 32, true⟩, ⟨0, 1099511627776, 64, true⟩, ⟨0, 0, 16, false⟩, ⟨5, 0, 549755813892, false⟩, ⟨15, 0, 1099511627784, false⟩]
theorem fit28_7 : AX.mixF inf28_7 row28_7 0 = true := by kernel_rfl
def row28_8 : List (Nat × Bool) := [(0, false), (1, false), (2, true), (3, true)]
def inf28_8 : List AX.Inf := [⟨0, 2199023255552, 4, true⟩, ⟨0, 4398046511104, 8, true⟩, ⟨1, 0, 2199023255556, false⟩, ⟨7, 0, 4398046511112, false⟩]
theorem fit28_8 : AX.mixF inf28_8 row28_8 0 = true := by kernel_rfl
/-- All lies as it lay, but for three blocks from b0 on. -/
structure On3 (b0 : Nat) (X Y : World) : Prop where
  low : Below b0 X Y
  same : ∀ k o, X.heap[k]? = some o → b0 + 3 ≤ k → Y.heap[k]? = some o
theorem On3.of_below {b0 : Nat} {X Y : World} (h : Below X.heap.size X Y) (hn : b0 ≤ X.heap.size) : On3 b0 X Y := ⟨h.mono hn, fun _ _ hk _ => (h.block _ (Array.getElem?_eq_some_iff.1 hk).1).trans hk⟩
theorem On3.trans {b0 : Nat} {X Y Z : World} (h : On3 b0 X Y) (k : On3 b0 Y Z) : On3 b0 X Z := ⟨h.low.trans k.low, fun i o hi ho => k.same i o (h.same i o hi ho) ho⟩
theorem On3.turn {b0 b : Nat} {X Y : World} (hb : b0 ≤ b) (hb3 : b < b0 + 3) (hl : b < Y.heap.size) (h4 : ∀ k, k ≠ b → Y.heap[k]? = X.heap[k]?) (h5 : AX.Same X Y) : On3 b0 X Y := ⟨AX.below_turn hb (.inl hl) h4 h5, fun k o hk h => (h4 k (by omega)).trans hk⟩
theorem On3.keeps {b0 n1 : Nat} {X Y : World} (h : On3 b0 X Y) (hn : b0 + 3 ≤ n1) : KeepsFrom n1 X Y := ⟨h.low.size, fun k o hk hx _ => h.same k o hx (by omega)⟩
theorem On3.keep {b0 H : Nat} {X Y : World} (h : On3 b0 X Y) (hn : b0 + 3 ≤ H) : AX.Keep (fun _ => False) H X Y := ⟨h.low.mono (Nat.zero_le _), fun k o hx hu => h.same k o hx (by rcases hu with hu | hu; exact hu.elim; omega)⟩
theorem or3_d (p q r : Int) (W : World) (P : Nat) (h : W.heap[P]? = some (.cells #[.int .i64 p, .int .i64 q, .int .i64 r] 3 (0, 0))) :
    Calls Tryd.prog 48 #[.slice (some ⟨P, 0, none⟩) 3 3] W fun e w' => e = .returned (.int .i64 (orI [p, q, r])) ∧ w' = W :=
  or_d [p, q, r] (by simp) P 3 W (fun i hi => by
    have hi : i < 3 := hi
    have : i = 0 ∨ i = 1 ∨ i = 2 := by omega
    rcases this with rfl | rfl | rfl <;> simp [World.cell?, h])
set_option maxRecDepth 100000 in
set_option maxHeartbeats 4000000 in
theorem nearest_k (l : List J) (hl : l.length ≤ 1000000) (hne : 2 ≤ l.length) (hd : l.Pairwise fun a b => a.s ≠ b.s) (hs : ∀ x ∈ l, SpJ x) {v : Value} (w : World) (hR : RRow w v l) :
    Calls Tryd.prog 28 #[v] w fun e w' => (∃ a b : J, e = .returned (.tuple #[a.v, b.v]) ∧ a ∈ l ∧ b ∈ l ∧ a.s ≠ b.s) ∧ Below w.heap.size w w' := by
  obtain ⟨la, c, rfl, hR0⟩ : ∃ la c, v = .slice la l.length c ∧ RRow w v l := by
    obtain ⟨la, c, e, h⟩ := id hR
    exact ⟨la, c, e, hR⟩
  clear hR
  have b0 := Bx.new w 38 #[.int .i64 0, .int .i64 0, .int .i64 0, .int .i64 0, .int .i64 0]
  have b1 := Bx.new (w.alloc (.cells #[.int .i64 0, .int .i64 0, .int .i64 0, .int .i64 0, .int .i64 0] 38)) 38 #[.int .i64 0, .int .i64 0, .int .i64 0, .int .i64 0, .int .i64 0]
  have b2 := Bx.new ((w.alloc (.cells #[.int .i64 0, .int .i64 0, .int .i64 0, .int .i64 0, .int .i64 0] 38)).alloc (.cells #[.int .i64 0, .int .i64 0, .int .i64 0, .int .i64 0, .int .i64 0] 38)) 4 #[.bool false]
  have b0 := (b0.alloc (.cells #[.int .i64 0, .int .i64 0, .int .i64 0, .int .i64 0, .int .i64 0] 38)).alloc (.cells #[.bool false] 4)
  have b1 := b1.alloc (.cells #[.bool false] 4)
  have hz : (((w.alloc (.cells #[.int .i64 0, .int .i64 0, .int .i64 0, .int .i64 0, .int .i64 0] 38)).alloc (.cells #[.int .i64 0, .int .i64 0, .int .i64 0, .int .i64 0, .int .i64 0] 38)).alloc (.cells #[.bool false] 4)).heap.size = w.heap.size + 3 := by simp
  have hB : Below w.heap.size w (((w.alloc (.cells #[.int .i64 0, .int .i64 0, .int .i64 0, .int .i64 0, .int .i64 0] 38)).alloc (.cells #[.int .i64 0, .int .i64 0, .int .i64 0, .int .i64 0, .int .i64 0] 38)).alloc (.cells #[.bool false] 4)) := (((Below.refl _ w).alloc (Nat.le_refl _) _).alloc (by simp) _).alloc (by simp; omega) _
  simp only [World.size_alloc] at b1 b2
  refine (callsIn_wide (n := 9)).1 (callsIn_of_wp_marks Tryd.func28 rfl trivial ?_ rfl)
  simp only [Tryd.ntmps28, List.size_toArray, List.length_cons, List.length_nil, Nat.reduceAdd, Nat.reduceSub, Array.replicate_succ, Array.replicate_zero, List.push_toArray, List.append_toArray, List.nil_append, List.cons_append]
  have hf47 : Fence.wide.fn 47 := trivial
  have h47 := fun W => (callsIn_wide (n := 8)).2 (pairs_k la l.length c W)
  gi_wp2_with (gi_at_call 47; ((with_reducible refine (h47 _).mono ?_); rintro e w2 ⟨rfl, rfl⟩))
  clear hf47 h47
  generalize ((w.alloc (.cells #[.int .i64 0, .int .i64 0, .int .i64 0, .int .i64 0, .int .i64 0] 38)).alloc (.cells #[.int .i64 0, .int .i64 0, .int .i64 0, .int .i64 0, .int .i64 0] 38)).alloc (.cells #[.bool false] 4) = V at *
  have hRV := hR0.below hB
  have hLV := World.alloc_heap_new V (.cells #[.slice la l.length c] 24)
  have hB1 : Below V.heap.size V (V.alloc (.cells #[.slice la l.length c] 24)) := (Below.refl _ V).alloc (Nat.le_refl _) _
  have hz1 : (V.alloc (.cells #[.slice la l.length c] 24)).heap.size = V.heap.size + 1 := by simp
  have d0 := b0.alloc (.cells #[.slice la l.length c] 24)
  have d1 := b1.alloc (.cells #[.slice la l.length c] 24)
  have d2 := b2.alloc (.cells #[.slice la l.length c] 24)
  have hRV1 := hRV.below hB1
  have hBV1 := hB.trans (hB1.mono hB.size)
  clear hB1 hRV b0 b1 b2 hB hR0
  generalize V.alloc (.cells #[.slice la l.length c] 24) = V1 at *
  rw [hz] at hLV hz1
  obtain ⟨L, hL⟩ : ∃ L, L = w.heap.size + 3 := ⟨_, rfl⟩
  rw [← hL] at hLV hz1 ⊢
  have h0 : Nst l w w.heap.size [] V1 := ⟨false, J.z, J.z, d2, d0, d1, spJ_z, spJ_z, by simp, by simp, hBV1⟩
  refine AX.range_still (A := L) (B := fun _ => False) (Pp := fun _ x => Pr l x) (encs := fun x : J × J => #[x.1.v, x.2.v]) (S := fun xs => xs ≠ []) (Sp := fun _ => True) rfl (by omega) (gf := 59) (lb := #[.pointer (some ⟨L, 0, none⟩)]) rfl trivial (enters_of Tryd.func59 (by kernel_rfl) rfl) (by omega) (fun _ => rfl)
    (fun k h => h.elim) ?seq
    (fun H pre W => V1.heap.size ≤ H ∧ Nst l w w.heap.size pre W) (fun _ _ _ => False) ?hI ?hIm (fun _ _ _ _ h _ => h)
    ⟨Nat.le_refl _, h0⟩
    (fun x a' W => ∃ T U : Nat, V1.heap.size ≤ T ∧ V1.heap.size ≤ U ∧ T ≠ U ∧ Box5 W T x.1 ∧ Box5 W U x.2 ∧ a' = { tmps := #[.slice la l.length c, undef, .pointer (some ⟨w.heap.size, 0, none⟩), .pointer (some ⟨w.heap.size + 1, 0, none⟩), .pointer (some ⟨w.heap.size + 1 + 1, 0, none⟩), .pointer (some ⟨T, 0, none⟩), .pointer (some ⟨U, 0, none⟩), undef, .slice la l.length c, .func (.func 59) #[] #[.pointer (some ⟨L, 0, none⟩)], x.1.v, x.2.v, undef, undef, undef, undef, undef, undef, undef, undef, undef, undef, undef, undef, undef, undef, undef, undef, undef, undef, undef, undef, undef, undef, undef, undef, undef, undef, undef, undef, undef, undef, undef], defers := [] }) ?hAx ?assign ?body ?done ?stop
  case seq =>
    intro y J Jx W hW hJ hJm hJx hY h0
    refine (pairs1_in (n1 := V1.heap.size) 8 (by omega) l hl hne hd la c y (J V1.heap.size) Jx (hJ _) (fun pre x W1 hj hs hp => yield_mono (hY pre x _ W1 hj hs hp) fun e W' h => ?_) W hW.size (hRV1.below hW) ((hW.block L (by omega)).trans hLV) (hJm _ _ _ _ h0 (Nat.le_refl _))).mono ?_
    · rcases h with ⟨h1, h2, h3⟩ | h
      · exact .inl ⟨h1, hJm _ _ _ _ h2 (Nat.le_refl _), h3⟩
      · exact .inr h
    · rintro e W' ⟨h1, (⟨xs, h2, h3⟩ | ⟨pre, h2⟩)⟩
      · exact ⟨h1, .inl ⟨_, xs, h2, h3⟩⟩
      · exact ⟨h1, .inr ⟨pre, trivial, h2⟩⟩
  case hI =>
    rintro H q X Y ⟨hH, h⟩ hl
    exact ⟨hH, h.lets (by omega) (by omega) (Nat.le_refl _) hl⟩
  case hIm =>
    rintro H H' q X ⟨hH, h⟩ hl
    exact ⟨hl, h⟩
  case hAx =>
    rintro x a' X Y ⟨T, U, hT, hU, hne, hX, hY, ha⟩ hl
    exact ⟨T, U, hT, hU, hne, hX.lets (by omega) hl, hY.lets (by omega) hl, ha⟩
  case assign =>
    rintro y pre x H W K ⟨hH, h⟩ hHW hK
    have hT0 := Bx.new W 38 #[.int .i64 0, .int .i64 0, .int .i64 0, .int .i64 0, .int .i64 0]
    have hA0 : Below W.heap.size W (W.alloc (.cells #[.int .i64 0, .int .i64 0, .int .i64 0, .int .i64 0, .int .i64 0] 38)) := (Below.refl _ W).alloc (Nat.le_refl _) _
    have hU0 := fun W : World => Bx.new W 38 #[.int .i64 0, .int .i64 0, .int .i64 0, .int .i64 0, .int .i64 0]
    have hN0 := fun W : World => ((Below.refl _ W).alloc (Nat.le_refl W.heap.size) (.cells #[.int .i64 0, .int .i64 0, .int .i64 0, .int .i64 0, .int .i64 0] 38))
    have HH := Lib.hid (And.intro hz hz1)
    clear hz hz1
    gi_wp2_with (first
      | ((with_reducible refine st_in ?_); refine AX.wpListIn_storeBox (vs := [.int .i64 x.1.s, .int .i64 x.1.f, .int .i64 x.1.t, .int .i64 x.1.a, .int .i64 x.1.l]) rfl rfl sz38g hT0 rfl rfl ?_; rintro W3 h3 h4 h5)
      | ((with_reducible refine st_in ?_); refine AX.wpListIn_storeBox (vs := [.int .i64 x.2.s, .int .i64 x.2.f, .int .i64 x.2.t, .int .i64 x.2.a, .int .i64 x.2.l]) rfl rfl sz38g (hU0 W3) rfl rfl ?_; rintro W4 h6 h7 h8))
    have hX3 : Box5 W3 W.heap.size x.1 := h3
    have hX4 : Box5 W4 W3.heap.size x.2 := h6
    have hB3 := hA0.trans (AX.below_turn (Nat.le_refl _) (.inl hX3.lt) h4 h5)
    have hB4 := (hN0 W3).trans (AX.below_turn (Nat.le_refl _) (.inl hX4.lt) h7 h8)
    have hlt := hX3.lt
    have hB5 := hB3.trans (hB4.mono hB3.size)
    exact hK _ W4 ⟨hB5.size, fun k o _ hk _ => (hB5.block k (Array.getElem?_eq_some_iff.1 hk).1).trans hk⟩ (AX.Keep.of_below hB5) ⟨hH, h.lets (A := L) (B := V1.heap.size) (by omega) (by have := HH.out; omega) (Nat.le_refl _) ((AX.But.of_below hB5).lets _)⟩ ⟨W.heap.size, W3.heap.size, by omega, by omega, by omega, hX3.below hB4 hlt, hX4, by rw [hL]⟩
  case body =>
    rintro y pre x a' H W ⟨hH, h⟩ hHW ⟨T, U, hT, hU, hne, hX, hY, rfl⟩ hPp
    obtain ⟨sm, p, q, hSm, hP, hQ, hp, hq, hin, hsm, hBw⟩ := h
    have hx := hs _ hPp.1
    have hy := hs _ hPp.2.1
    obtain ⟨x1, x2⟩ := x
    dsimp only at *
    have hPr := Lib.hid hPp
    clear hPp
    have k1 := far_k hx.1 hx.2.1 hy.1 hy.2.1 hx.2.2 hy.2.2
    have k2 := far_k hp.1 hp.2.1 hq.1 hq.2.1 hp.2.2 hq.2.2
    have k3 := cmp_k (max (x2.f - x1.t) (max (x1.f - x2.t) 0)) (max (q.f - p.t) (max (p.f - q.t) 0))
    have k4 := from_d x1 p
    have k5 := cmp_k x2.s q.s
    generalize cmpI (max (x2.f - x1.t) (max (x1.f - x2.t) 0)) (max (q.f - p.t) (max (p.f - q.t) 0)) = r1 at *
    generalize max (x2.f - x1.t) (max (x1.f - x2.t) 0) = f1 at *
    generalize max (q.f - p.t) (max (p.f - q.t) 0) = f2 at *
    generalize fromI x1 p = r2 at *
    generalize cmpI x2.s q.s = r3 at *
    have k6 := or3_d r1 r2 r3
    generalize orI [r1, r2, r3] = r4 at *
    unfold J.v at *
    gi_wp2_with fail
    obtain ⟨C, hCi, hCo⟩ : ∃ C : World → Prop, (∀ Z, C Z → Below W.heap.size W Z) ∧ (∀ Z, Below W.heap.size W Z → C Z) := ⟨fun Z => Below W.heap.size W Z, fun _ h => h, fun _ h => h⟩
    have hW1 : C W.drew := hCo _ (Below.refl _ W).drew
    haveI : Inhabited (AX.CW C) := ⟨⟨_, hW1⟩⟩
    have a0 := fun p : AX.CW C => (hX.below (hCi _ p.h) hX.lt).cs.1; have a1 := fun p : AX.CW C => (hX.below (hCi _ p.h) hX.lt).cs.2.1; have a2 := fun p : AX.CW C => (hX.below (hCi _ p.h) hX.lt).cs.2.2.1; have a3 := fun p : AX.CW C => (hX.below (hCi _ p.h) hX.lt).cs.2.2.2.1; have a4 := fun p : AX.CW C => (hX.below (hCi _ p.h) hX.lt).cs.2.2.2.2
    have b0 := fun p : AX.CW C => (hY.below (hCi _ p.h) hY.lt).cs.1; have b1 := fun p : AX.CW C => (hY.below (hCi _ p.h) hY.lt).cs.2.1; have b2 := fun p : AX.CW C => (hY.below (hCi _ p.h) hY.lt).cs.2.2.1; have b3 := fun p : AX.CW C => (hY.below (hCi _ p.h) hY.lt).cs.2.2.2.1; have b4 := fun p : AX.CW C => (hY.below (hCi _ p.h) hY.lt).cs.2.2.2.2
    have c0 := fun p : AX.CW C => (hP.below (hCi _ p.h) hP.lt).cs.1; have c1 := fun p : AX.CW C => (hP.below (hCi _ p.h) hP.lt).cs.2.1; have c2 := fun p : AX.CW C => (hP.below (hCi _ p.h) hP.lt).cs.2.2.1; have c3 := fun p : AX.CW C => (hP.below (hCi _ p.h) hP.lt).cs.2.2.2.1; have c4 := fun p : AX.CW C => (hP.below (hCi _ p.h) hP.lt).cs.2.2.2.2
    have d0 := fun p : AX.CW C => (hQ.below (hCi _ p.h) hQ.lt).cs.1; have d1 := fun p : AX.CW C => (hQ.below (hCi _ p.h) hQ.lt).cs.2.1; have d2 := fun p : AX.CW C => (hQ.below (hCi _ p.h) hQ.lt).cs.2.2.1; have d3 := fun p : AX.CW C => (hQ.below (hCi _ p.h) hQ.lt).cs.2.2.2.1; have d4 := fun p : AX.CW C => (hQ.below (hCi _ p.h) hQ.lt).cs.2.2.2.2
    have HC := Lib.hid hCo
    have e0 := (Below.refl W.heap.size W).drew
    clear hCo hCi
    refine AX.region_mixF_in (C := fun W => ∃ p : AX.CW C, W = p.W) row28_5 inf28_5 (by kernel_rfl) (by kernel_rfl) (by kernel_rfl) (by kernel_rfl) (by kernel_rfl) fit28_5 (ro := some y) rfl (by rintro ⟨a, w, h⟩; exact h) (by intro c a d v w h; cases d <;> exact h) ⟨⟨_, hW1⟩, rfl⟩ ?_
    unfold row28_5
    repeat (refine AX.mix_plain _ (by rfl) ?_; go_big_quiet_step (fail); refine wpQuiet_nil ?_)
    refine AX.mix_call2 (k1 _) (by rfl) (by rfl) (by rfl) Tryd.func50 (by kernel_rfl) (by rfl) (by simp only [List.map_toArray, List.map_cons, List.map_nil]; rfl) ?_
    rintro e W1 ⟨rfl, hb1⟩
    have e1 := e0.trans (hb1.mono e0.size)
    refine ⟨_, rfl, ⟨⟨_, HC.out _ e1⟩, rfl⟩, ?_⟩
    simp only [Act.put, List.setIfInBounds_toArray, List.set_cons_succ, List.set_cons_zero]
    refine AX.mix_call2 (k2 _) (by rfl) (by rfl) (by rfl) Tryd.func50 (by kernel_rfl) (by rfl) (by simp only [List.map_toArray, List.map_cons, List.map_nil]; rfl) ?_
    rintro e W2 ⟨rfl, hb2⟩
    have e2 := e1.trans (hb2.mono e1.size)
    refine ⟨_, rfl, ⟨⟨_, HC.out _ e2⟩, rfl⟩, ?_⟩
    simp only [Act.put, List.setIfInBounds_toArray, List.set_cons_succ, List.set_cons_zero]
    refine AX.mix_call2 (k3 _) (by rfl) (by rfl) (by rfl) Tryd.func49 (by kernel_rfl) (by rfl) (by simp only [List.map_toArray, List.map_cons, List.map_nil]; rfl) ?_
    rintro e W2 ⟨rfl, rfl⟩
    refine ⟨_, rfl, ⟨⟨_, HC.out _ e2⟩, rfl⟩, ?_⟩
    simp only [Act.put, List.setIfInBounds_toArray, List.set_cons_succ, List.set_cons_zero]
    refine AX.mix_call2 (k4 _) (by rfl) (by rfl) (by rfl) Tryd.func51 (by kernel_rfl) (by rfl) (by simp only [List.map_toArray, List.map_cons, List.map_nil]; rfl) ?_
    rintro e W3 ⟨rfl, hb3, _⟩
    have e3 := e2.trans (hb3.mono e2.size)
    refine ⟨_, rfl, ⟨⟨_, HC.out _ e3⟩, rfl⟩, ?_⟩
    simp only [Act.put, List.setIfInBounds_toArray, List.set_cons_succ, List.set_cons_zero]
    refine AX.mix_call2 (k5 _) (by rfl) (by rfl) (by rfl) Tryd.func49 (by kernel_rfl) (by rfl) (by simp only [List.map_toArray, List.map_cons, List.map_nil]; rfl) ?_
    rintro e W3 ⟨rfl, rfl⟩
    refine ⟨_, rfl, ⟨⟨_, HC.out _ e3⟩, rfl⟩, ?_⟩
    simp only [Act.put, List.setIfInBounds_toArray, List.set_cons_succ, List.set_cons_zero]
    refine AX.mix_op _ (by rfl) (by rfl) ?_
    unfold Oper.wp
    go_simp
    have hnew : (W3.alloc (.cells #[.int .i64 r1, .int .i64 r2, .int .i64 r3] 3)).heap[W3.heap.size]? = some (.cells #[.int .i64 r1, .int .i64 r2, .int .i64 r3] 3 (0, 0)) := World.alloc_heap_new W3 _
    have e4 := e3.alloc e3.size (.cells #[.int .i64 r1, .int .i64 r2, .int .i64 r3] 3)
    refine ⟨⟨⟨_, HC.out _ e4⟩, rfl⟩, ?_⟩
    generalize hz4 : W3.heap.size = z4 at *
    clear hz4
    generalize W3.alloc (.cells #[.int .i64 r1, .int .i64 r2, .int .i64 r3] 3) = W4 at *
    refine AX.mix_call2 (k6 W4 _ hnew) (by rfl) (by rfl) (by rfl) Tryd.func48 (by kernel_rfl) (by rfl) (by simp only [List.map_toArray, List.map_cons, List.map_nil]; rfl) ?_
    rintro e W4 ⟨rfl, rfl⟩
    refine ⟨_, rfl, ⟨⟨_, HC.out _ e4⟩, rfl⟩, ?_⟩
    simp only [Act.put, List.setIfInBounds_toArray, List.set_cons_succ, List.set_cons_zero]
    refine AX.mix_plain _ (by rfl) ?_
    go_big_quiet_step (fail)
    refine wpQuiet_nil ?_
    unfold AX.wpMix
    clear hnew k1 k2 k3 k4 k5 k6 a0 a1 a2 a3 a4 b0 b1 b2 b3 b4 c0 c1 c2 c3 c4 d0 d1 d2 d3 d4 HC hW1 e0 e1 e2 e3
    have gX := hX.below e4 hX.lt
    have gY := hY.below e4 hY.lt
    have gP := hP.below e4 hP.lt
    have gQ := hQ.below e4 hQ.lt
    have gS : Bx W4 (w.heap.size + 1 + 1) 4 #[.bool sm] := (e4.block _ hSm.lt).trans hSm
    have gs := gS.cell 0
    cases sm
    · gi_wp2_with fail
      obtain ⟨C, hCi, hCo⟩ : ∃ C : World → Prop, (∀ Z, C Z → Box5 Z T x1 ∧ Box5 Z U x2) ∧ (∀ Z, Box5 Z T x1 ∧ Box5 Z U x2 → C Z) := ⟨fun Z => Box5 Z T x1 ∧ Box5 Z U x2, fun _ h => h, fun _ h => h⟩
      have hW1 : C W4.drew := hCo _ ⟨gX, gY⟩
      haveI : Inhabited (AX.CW C) := ⟨⟨_, hW1⟩⟩
      have a0 := fun p : AX.CW C => (hCi _ p.h).1.cs.1; have a1 := fun p : AX.CW C => (hCi _ p.h).1.cs.2.1; have a2 := fun p : AX.CW C => (hCi _ p.h).1.cs.2.2.1; have a3 := fun p : AX.CW C => (hCi _ p.h).1.cs.2.2.2.1; have a4 := fun p : AX.CW C => (hCi _ p.h).1.cs.2.2.2.2
      have b0 := fun p : AX.CW C => (hCi _ p.h).2.cs.1; have b1 := fun p : AX.CW C => (hCi _ p.h).2.cs.2.1; have b2 := fun p : AX.CW C => (hCi _ p.h).2.cs.2.2.1; have b3 := fun p : AX.CW C => (hCi _ p.h).2.cs.2.2.2.1; have b4 := fun p : AX.CW C => (hCi _ p.h).2.cs.2.2.2.2
      have HC := Lib.hid hCo
      clear hCo hCi
      have eD : Below W.heap.size W W4.drew := e4.trans (Below.refl _ W4).drew
      have gS' : Bx W4.drew (w.heap.size + 1 + 1) 4 _ := gS
      have gP' : Box5 W4.drew w.heap.size p := gP
      have gQ' : Box5 W4.drew (w.heap.size + 1) q := gQ
      have gX' : Box5 W4.drew T x1 := gX
      have gY' : Box5 W4.drew U x2 := gY
      clear gS gP gQ gX gY gs e4
      have HZ := Lib.hid (And.intro hz hz1)
      clear hz hz1
      refine AX.region_mixF_in (C := fun W => ∃ p : AX.CW C, W = p.W) row28_7 inf28_7 (by kernel_rfl) (by kernel_rfl) (by kernel_rfl) (by kernel_rfl) (by kernel_rfl) fit28_7 (ro := some y) rfl (by rintro ⟨a, w, h⟩; exact h) (by intro c a d v w h; cases d <;> exact h) ⟨⟨_, hW1⟩, rfl⟩ ?_
      unfold row28_7
      repeat (refine AX.mix_plain _ (by rfl) ?_; go_big_quiet_step (fail); refine wpQuiet_nil ?_)
      clear a0 a1 a2 a3 a4 b0 b1 b2 b3 b4
      generalize W4.drew = W4 at *
      refine AX.mix_op _ (by rfl) (by rfl) ?_
      refine AX.oper_storeCell (o := 0) (v := .bool true) rfl rfl rfl sz4g gS' (show 0 < 1 by decide) ?_
      rintro W5 h3 h4 h5
      have s5 : Bx W5 (w.heap.size + 1 + 1) 4 #[.bool true] := h3
      have o5 := On3.turn (b0 := w.heap.size) (by omega) (by omega) s5.lt h4 h5
      have hzz := HZ.out
      have x5 : Box5 W5 T x1 := (h4 T (by omega)).trans gX'
      have y5 : Box5 W5 U x2 := (h4 U (by omega)).trans gY'
      have p5 : Box5 W5 w.heap.size p := (h4 _ (by omega)).trans gP'
      have q5 : Box5 W5 (w.heap.size + 1) q := (h4 _ (by omega)).trans gQ'
      refine ⟨⟨⟨_, HC.out _ ⟨x5, y5⟩⟩, rfl⟩, ?_⟩
      refine AX.mix_op _ (by rfl) (by rfl) ?_
      refine AX.oper_storeBox (vs := [.int .i64 x1.s, .int .i64 x1.f, .int .i64 x1.t, .int .i64 x1.a, .int .i64 x1.l]) rfl rfl sz38g p5 rfl rfl ?_
      rintro W6 g3 g4 g5
      have p6 : Box5 W6 w.heap.size x1 := g3
      have o6 := On3.turn (b0 := w.heap.size) (by omega) (by omega) p6.lt g4 g5
      have x6 : Box5 W6 T x1 := (g4 T (by omega)).trans x5
      have y6 : Box5 W6 U x2 := (g4 U (by omega)).trans y5
      have q6 : Box5 W6 (w.heap.size + 1) q := (g4 _ (by omega)).trans q5
      have s6 : Bx W6 (w.heap.size + 1 + 1) 4 #[.bool true] := (g4 _ (by omega)).trans s5
      refine ⟨⟨⟨_, HC.out _ ⟨x6, y6⟩⟩, rfl⟩, ?_⟩
      refine AX.mix_op _ (by rfl) (by rfl) ?_
      refine AX.oper_storeBox (vs := [.int .i64 x2.s, .int .i64 x2.f, .int .i64 x2.t, .int .i64 x2.a, .int .i64 x2.l]) rfl rfl sz38g q6 rfl rfl ?_
      rintro W7 k3 k4 k5
      have q7 : Box5 W7 (w.heap.size + 1) x2 := k3
      have o7 := On3.turn (b0 := w.heap.size) (by omega) (by omega) q7.lt k4 k5
      have x7 : Box5 W7 T x1 := (k4 T (by omega)).trans x6
      have y7 : Box5 W7 U x2 := (k4 U (by omega)).trans y6
      have p7 : Box5 W7 w.heap.size x1 := (k4 _ (by omega)).trans p6
      have s7 : Bx W7 (w.heap.size + 1 + 1) 4 #[.bool true] := (k4 _ (by omega)).trans s6
      refine ⟨⟨⟨_, HC.out _ ⟨x7, y7⟩⟩, rfl⟩, ?_⟩
      unfold AX.wpMix
      have hle := hBw.size
      have o := (((On3.of_below (b0 := w.heap.size) eD hle).trans o5).trans o6).trans o7
      exact ⟨o.keeps (by omega), o.keep (by omega), Nat.le_trans (by omega) o.low.size, true, x1, x2, s7, p7, q7, hx, hy, fun _ => hPr.out, fun _ => rfl, hBw.trans o.low⟩
    · by_cases hc : r4 < 0
      · gi_wp2_with fail
        obtain ⟨C, hCi, hCo⟩ : ∃ C : World → Prop, (∀ Z, C Z → Box5 Z T x1 ∧ Box5 Z U x2) ∧ (∀ Z, Box5 Z T x1 ∧ Box5 Z U x2 → C Z) := ⟨fun Z => Box5 Z T x1 ∧ Box5 Z U x2, fun _ h => h, fun _ h => h⟩
        have hW1 : C W4.drew := hCo _ ⟨gX, gY⟩
        haveI : Inhabited (AX.CW C) := ⟨⟨_, hW1⟩⟩
        have a0 := fun p : AX.CW C => (hCi _ p.h).1.cs.1; have a1 := fun p : AX.CW C => (hCi _ p.h).1.cs.2.1; have a2 := fun p : AX.CW C => (hCi _ p.h).1.cs.2.2.1; have a3 := fun p : AX.CW C => (hCi _ p.h).1.cs.2.2.2.1; have a4 := fun p : AX.CW C => (hCi _ p.h).1.cs.2.2.2.2
        have b0 := fun p : AX.CW C => (hCi _ p.h).2.cs.1; have b1 := fun p : AX.CW C => (hCi _ p.h).2.cs.2.1; have b2 := fun p : AX.CW C => (hCi _ p.h).2.cs.2.2.1; have b3 := fun p : AX.CW C => (hCi _ p.h).2.cs.2.2.2.1; have b4 := fun p : AX.CW C => (hCi _ p.h).2.cs.2.2.2.2
        have HC := Lib.hid hCo
        clear hCo hCi
        have eD : Below W.heap.size W W4.drew := e4.trans (Below.refl _ W4).drew
        have gS' : Bx W4.drew (w.heap.size + 1 + 1) 4 _ := gS
        have gP' : Box5 W4.drew w.heap.size p := gP
        have gQ' : Box5 W4.drew (w.heap.size + 1) q := gQ
        have gX' : Box5 W4.drew T x1 := gX
        have gY' : Box5 W4.drew U x2 := gY
        clear gS gP gQ gX gY gs e4
        have HZ := Lib.hid (And.intro hz hz1)
        clear hz hz1
        refine AX.region_mixF_in (C := fun W => ∃ p : AX.CW C, W = p.W) row28_7 inf28_7 (by kernel_rfl) (by kernel_rfl) (by kernel_rfl) (by kernel_rfl) (by kernel_rfl) fit28_7 (ro := some y) rfl (by rintro ⟨a, w, h⟩; exact h) (by intro c a d v w h; cases d <;> exact h) ⟨⟨_, hW1⟩, rfl⟩ ?_
        unfold row28_7
        repeat (refine AX.mix_plain _ (by rfl) ?_; go_big_quiet_step (fail); refine wpQuiet_nil ?_)
        clear a0 a1 a2 a3 a4 b0 b1 b2 b3 b4
        generalize W4.drew = W4 at *
        refine AX.mix_op _ (by rfl) (by rfl) ?_
        refine AX.oper_storeCell (o := 0) (v := .bool true) rfl rfl rfl sz4g gS' (show 0 < 1 by decide) ?_
        rintro W5 h3 h4 h5
        have s5 : Bx W5 (w.heap.size + 1 + 1) 4 #[.bool true] := h3
        have o5 := On3.turn (b0 := w.heap.size) (by omega) (by omega) s5.lt h4 h5
        have hzz := HZ.out
        have x5 : Box5 W5 T x1 := (h4 T (by omega)).trans gX'
        have y5 : Box5 W5 U x2 := (h4 U (by omega)).trans gY'
        have p5 : Box5 W5 w.heap.size p := (h4 _ (by omega)).trans gP'
        have q5 : Box5 W5 (w.heap.size + 1) q := (h4 _ (by omega)).trans gQ'
        refine ⟨⟨⟨_, HC.out _ ⟨x5, y5⟩⟩, rfl⟩, ?_⟩
        refine AX.mix_op _ (by rfl) (by rfl) ?_
        refine AX.oper_storeBox (vs := [.int .i64 x1.s, .int .i64 x1.f, .int .i64 x1.t, .int .i64 x1.a, .int .i64 x1.l]) rfl rfl sz38g p5 rfl rfl ?_
        rintro W6 g3 g4 g5
        have p6 : Box5 W6 w.heap.size x1 := g3
        have o6 := On3.turn (b0 := w.heap.size) (by omega) (by omega) p6.lt g4 g5
        have x6 : Box5 W6 T x1 := (g4 T (by omega)).trans x5
        have y6 : Box5 W6 U x2 := (g4 U (by omega)).trans y5
        have q6 : Box5 W6 (w.heap.size + 1) q := (g4 _ (by omega)).trans q5
        have s6 : Bx W6 (w.heap.size + 1 + 1) 4 #[.bool true] := (g4 _ (by omega)).trans s5
        refine ⟨⟨⟨_, HC.out _ ⟨x6, y6⟩⟩, rfl⟩, ?_⟩
        refine AX.mix_op _ (by rfl) (by rfl) ?_
        refine AX.oper_storeBox (vs := [.int .i64 x2.s, .int .i64 x2.f, .int .i64 x2.t, .int .i64 x2.a, .int .i64 x2.l]) rfl rfl sz38g q6 rfl rfl ?_
        rintro W7 k3 k4 k5
        have q7 : Box5 W7 (w.heap.size + 1) x2 := k3
        have o7 := On3.turn (b0 := w.heap.size) (by omega) (by omega) q7.lt k4 k5
        have x7 : Box5 W7 T x1 := (k4 T (by omega)).trans x6
        have y7 : Box5 W7 U x2 := (k4 U (by omega)).trans y6
        have p7 : Box5 W7 w.heap.size x1 := (k4 _ (by omega)).trans p6
        have s7 : Bx W7 (w.heap.size + 1 + 1) 4 #[.bool true] := (k4 _ (by omega)).trans s6
        refine ⟨⟨⟨_, HC.out _ ⟨x7, y7⟩⟩, rfl⟩, ?_⟩
        unfold AX.wpMix
        have hle := hBw.size
        have o := (((On3.of_below (b0 := w.heap.size) eD hle).trans o5).trans o6).trans o7
        exact ⟨o.keeps (by omega), o.keep (by omega), Nat.le_trans (by omega) o.low.size, true, x1, x2, s7, p7, q7, hx, hy, fun _ => hPr.out, fun _ => rfl, hBw.trans o.low⟩
      · gi_wp2_with fail
        have hle := hBw.size
        have o := On3.of_below (b0 := w.heap.size) e4 hle
        exact ⟨o.keeps (by omega), o.keep (by omega), Nat.le_trans (by omega) o.low.size, true, p, q, gS, gP, gQ, hp, hq, fun _ => hin trivial, fun _ => rfl, hBw.trans o.low⟩
  case done =>
    rintro D H ys W hD hS ⟨hH, h⟩ hK
    obtain ⟨sm, p, q, hSm, hP, hQ, hp, hq, hin, hsm, hBw⟩ := h
    have hPQ := Lib.hid (hin (hsm hS))
    clear hin hsm hp hq hSm h0 d0 d1 d2 hLV hRV1 hBV1
    unfold J.v at *
    gi_wp2_with fail
    obtain ⟨C, hCi, hCo⟩ : ∃ C : World → Prop, (∀ Z, C Z → Box5 Z w.heap.size p ∧ Box5 Z (w.heap.size + 1) q) ∧ (∀ Z, Box5 Z w.heap.size p ∧ Box5 Z (w.heap.size + 1) q → C Z) := ⟨fun Z => Box5 Z w.heap.size p ∧ Box5 Z (w.heap.size + 1) q, fun _ h => h, fun _ h => h⟩
    have hW1 : C W.drew := hCo _ ⟨hP, hQ⟩
    haveI : Inhabited (AX.CW C) := ⟨⟨_, hW1⟩⟩
    have a0 := fun p : AX.CW C => (hCi _ p.h).1.cs.1; have a1 := fun p : AX.CW C => (hCi _ p.h).1.cs.2.1; have a2 := fun p : AX.CW C => (hCi _ p.h).1.cs.2.2.1; have a3 := fun p : AX.CW C => (hCi _ p.h).1.cs.2.2.2.1; have a4 := fun p : AX.CW C => (hCi _ p.h).1.cs.2.2.2.2
    have b0 := fun p : AX.CW C => (hCi _ p.h).2.cs.1; have b1 := fun p : AX.CW C => (hCi _ p.h).2.cs.2.1; have b2 := fun p : AX.CW C => (hCi _ p.h).2.cs.2.2.1; have b3 := fun p : AX.CW C => (hCi _ p.h).2.cs.2.2.2.1; have b4 := fun p : AX.CW C => (hCi _ p.h).2.cs.2.2.2.2
    have HC := Lib.hid hCo
    clear hCo hCi
    have gP : Box5 W.drew w.heap.size p := hP
    have gQ : Box5 W.drew (w.heap.size + 1) q := hQ
    have gB := hBw.drew
    have gK : W.drew.heap[D]? = some (.deferred (some [])) := hK
    have HZ := Lib.hid (And.intro hz (And.intro hz1 hL))
    clear hz hz1 hL hP hQ hBw hK
    refine AX.region_mixN (C := fun W => ∃ p : AX.CW C, W = p.W) row28_8 inf28_8 (by kernel_rfl) (by kernel_rfl) (by kernel_rfl) (by kernel_rfl) (by kernel_rfl) fit28_8 (ro := none) rfl ⟨⟨_, hW1⟩, rfl⟩ ?_
    unfold row28_8
    repeat (refine AX.mix_plain _ (by rfl) ?_; go_big_quiet_step (fail); refine wpQuiet_nil ?_)
    clear a0 a1 a2 a3 a4 b0 b1 b2 b3 b4
    generalize W.drew = W4 at *
    obtain ⟨hz, hz1, hL⟩ := HZ.out
    refine AX.mix_op _ (by rfl) (by rfl) ?_
    refine AX.oper_storeBox (vs := [.int .i64 p.s, .int .i64 p.f, .int .i64 p.t, .int .i64 p.a, .int .i64 p.l]) rfl rfl sz38g gP rfl rfl ?_
    rintro W6 g3 g4 g5
    have p6 : Box5 W6 w.heap.size p := g3
    have o6 := On3.turn (b0 := w.heap.size) (by omega) (by omega) p6.lt g4 g5
    have q6 : Box5 W6 (w.heap.size + 1) q := (g4 _ (by omega)).trans gQ
    refine ⟨⟨⟨_, HC.out _ ⟨p6, q6⟩⟩, rfl⟩, ?_⟩
    refine AX.mix_op _ (by rfl) (by rfl) ?_
    refine AX.oper_storeBox (vs := [.int .i64 q.s, .int .i64 q.f, .int .i64 q.t, .int .i64 q.a, .int .i64 q.l]) rfl rfl sz38g q6 rfl rfl ?_
    rintro W7 k3 k4 k5
    have q7 : Box5 W7 (w.heap.size + 1) q := k3
    have o7 := On3.turn (b0 := w.heap.size) (by omega) (by omega) q7.lt k4 k5
    have p7 : Box5 W7 w.heap.size p := (k4 _ (by omega)).trans p6
    refine ⟨⟨⟨_, HC.out _ ⟨p7, q7⟩⟩, rfl⟩, ?_⟩
    unfold AX.wpMix
    have hB7 := (gB.trans o6.low).trans o7.low
    have hK7 := o7.same D _ (o6.same D _ gK (by omega)) (by omega)
    refine ⟨rfl, ?_⟩
    obtain ⟨u0, u1, u2, u3, u4⟩ := p7.cs
    obtain ⟨v0, v1, v2, v3, v4⟩ := q7.cs
    gi_wp2_with fail
    refine ⟨by simp, .inl ⟨_, _, rfl, run_takeDeferred hK7, ?_⟩⟩
    have p8 : Box5 (W7.putObj D (.deferred none)) w.heap.size p := (World.putObj_heap_other (by omega)).trans p7
    have q8 : Box5 (W7.putObj D (.deferred none)) (w.heap.size + 1) q := (World.putObj_heap_other (by omega)).trans q7
    have hB8 : Below w.heap.size w (W7.putObj D (.deferred none)) := hB7.trans ⟨rfl, rfl, rfl, by simp [World.putObj], fun k hk => World.putObj_heap_other (by omega)⟩
    clear u0 u1 u2 u3 u4 v0 v1 v2 v3 v4
    generalize W7.putObj D (.deferred none) = W8 at *
    obtain ⟨u0, u1, u2, u3, u4⟩ := p8.cs
    obtain ⟨v0, v1, v2, v3, v4⟩ := q8.cs
    refine ⟨.tuple #[p.v, q.v], ?_, ⟨p, q, rfl, hPQ.out⟩, hB8⟩
    unfold J.v
    simp [results, Tryd.results28, go_sem, u0, u1, u2, u3, u4, v0, v1, v2, v3, v4]
  case stop =>
    rintro D c pre W _ _ h _
    exact h.elim
end Go.Proofs.YtpplkjjfaibmmaaDoor
