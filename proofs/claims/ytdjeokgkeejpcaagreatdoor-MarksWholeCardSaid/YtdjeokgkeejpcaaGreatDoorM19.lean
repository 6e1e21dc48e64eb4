/- Marks: marks.Reach 20. -/
import Derived.Test.YtdjeokgkeejpcaaGreatDoorM18
import Derived.Sort.CutIn
namespace Go.Proofs.YtdjeokgkeejpcaaGreatDoor
open Go Go.Proofs Go.RowKit
attribute [local go_sem] Oper.semAt_some
def rowL20_9 : List (Nat × Nat) := [(0, 0), (1, 0), (2, 0), (3, 0), (4, 0), (5, 0), (6, 0), (7, 0), (8, 2), (9, 0), (10, 2)]
def inf20_9 : List AX.Inf := [⟨0, 17179869184, 32, true⟩, ⟨0, 34359738368, 512, true⟩, ⟨0, 68719476736, 1024, true⟩, ⟨0, 137438953472, 4, true⟩, ⟨0, 274877906944, 512, true⟩, ⟨24, 549755813888, 412316860416, true⟩, ⟨32, 1099511627776, 549755813888, true⟩, ⟨64, 2199023255552, 1099511627776, true⟩, ⟨132, 4398046511104, 2267742732288, false⟩, ⟨511, 8796093022208, 51539607552, true⟩, ⟨1023, 0, 13194139533312, false⟩]
theorem fit20_9 : AX.mixF inf20_9 (AX.asF rowL20_9) 0 = true := by kernel_rfl
theorem fitl20_9 : AX.fitL inf20_9 10 rowL20_9 = true := by kernel_rfl
def rowL20_17 : List (Nat × Nat) := [(0, 0), (1, 0), (2, 0), (3, 0), (4, 0), (5, 0), (6, 0), (7, 0), (8, 0), (9, 2)]
def inf20_17 : List AX.Inf := [⟨0, 2361183241434822606848, 32, true⟩, ⟨0, 4722366482869645213696, 8192, true⟩, ⟨0, 9444732965739290427392, 32, true⟩, ⟨0, 18889465931478580854784, 8192, true⟩, ⟨12, 37778931862957161709568, 28334198897217871282176, true⟩, ⟨16, 75557863725914323419136, 37778931862957161709568, true⟩, ⟨0, 151115727451828646838272, 2048, true⟩, ⟨96, 302231454903657293676544, 226673591177742970257408, true⟩, ⟨255, 604462909807314587353088, 7083549724304467820544, true⟩, ⟨511, 0, 906694364710971881029632, false⟩]
theorem fit20_17 : AX.mixF inf20_17 (AX.asF rowL20_17) 0 = true := by kernel_rfl
theorem fitl20_17 : AX.fitL inf20_17 9 rowL20_17 = true := by kernel_rfl
/-- The boxes of Reach, its row. -/
structure Rb (w : World) (hdr : Value) (k : Int) (n T2 T3 g T5 : Nat) (X : List Int) (W : World) : Prop where
  b : Below w.heap.size w W
  l : Bx W T2 22 #[hdr]
  k : Bx W T3 3 #[.int .i64 k]
  o : Bx W T5 27 #[.slice (some ⟨g, 0, none⟩) n n]
  x : Bx W g 3 (intsA X)
theorem Rb.below {w : World} {hdr : Value} {k : Int} {n T2 T3 g T5 m : Nat} {X : List Int} {W Y : World} (h : Rb w hdr k n T2 T3 g T5 X W) (hb : Below m W Y) (h0 : w.heap.size ≤ m) (h2 : T2 < m) (h3 : T3 < m) (hg : g < m) (h5 : T5 < m) : Rb w hdr k n T2 T3 g T5 X Y :=
  ⟨h.b.trans (hb.mono h0), h.l.below hb h2, h.k.below hb h3, h.o.below hb h5, h.x.below hb hg⟩
theorem Below.lets {n A B : Nat} {w X Y : World} (h : Below n w X) (hn : n ≤ w.heap.size) (hA : n ≤ A) (hB : n ≤ B) (hl : AX.Lets A B X Y) : Below n w Y :=
  ⟨hl.low.os.trans h.os, hl.low.tape.trans h.tape, hl.low.output.trans h.output, Nat.le_trans h.size hl.low.size, fun k hk => by
    have hlt : k < X.heap.size := Nat.lt_of_lt_of_le (Nat.lt_of_lt_of_le hk hn) h.size
    have := hl.same k X.heap[k] (Array.getElem?_eq_getElem hlt) (by omega) (.inl (by omega))
    rw [this, ← h.block k hk, Array.getElem?_eq_getElem hlt]⟩
theorem Bx.lets {A B : Nat} {X Y : World} {b : Nat} {t : TypeId} {cs : Array Value} (h : Bx X b t cs) (hA : b ≠ A) (hl : AX.Lets A B X Y) : Bx Y b t cs := hl.same b _ h hA (.inr rfl)
theorem IRow.keep {la : Option Addr} {lv : List Int} {L H : Nat} {X Y : World} (h : IRow X la lv) (hk : AX.Keep (Bv la lv L) H X Y) : IRow Y la lv := fun hne => by
  obtain ⟨b, off, e, hb, hc⟩ := h hne
  have hs : Y.heap[b]? = X.heap[b]? := by rw [hk.same b X.heap[b] (Array.getElem?_eq_getElem hb) (.inl (.inr ⟨hne, off, e⟩)), Array.getElem?_eq_getElem hb]
  exact ⟨b, off, e, Nat.lt_of_lt_of_le hb hk.low.size, fun j hj => (World.cell?_of_block (w := X) (w' := Y) (a := ⟨b, off + j, none⟩) hs).trans (hc j hj)⟩
theorem IRow.lets {la : Option Addr} {lv : List Int} {A B : Nat} {X Y : World} (h : IRow X la lv) (hb : ∀ b off, lv ≠ [] → la = some ⟨b, off, none⟩ → b ≠ A ∧ b < B) (hl : AX.Lets A B X Y) : IRow Y la lv := fun hne => by
  obtain ⟨b, off, e, hbl, hc⟩ := h hne
  obtain ⟨h1, h2⟩ := hb b off hne e
  have hs : Y.heap[b]? = X.heap[b]? := by rw [hl.same b X.heap[b] (Array.getElem?_eq_getElem hbl) h1 (.inl h2), Array.getElem?_eq_getElem hbl]
  exact ⟨b, off, e, Nat.lt_of_lt_of_le hbl hl.low.size, fun j hj => (World.cell?_of_block (w := X) (w' := Y) (a := ⟨b, off + j, none⟩) hs).trans (hc j hj)⟩
def R2 (w : World) (hdr : Value) (k : Int) (l : List Pt) (g : Nat) (X1 : List Int) (lvs : List Nat) (lvA : Option Addr) (lv : List Int) (D : Nat) (mv jv : Value) (wr : World) : Prop :=
  ∃ (j : Nat) (m : Int) (X : List Int), jv = .int .i64 j ∧ mv = .int .i64 m ∧ j ≤ lv.length ∧ Hid ((lvs.take j).foldl (r2s l) (0, X1) = (m, X)) ∧ Rb w hdr k l.length w.heap.size (w.heap.size + 1) g (g + 1) X wr ∧ IRow wr lvA lv ∧ wr.heap[D]? = some (.deferred (some []))
/-- What a round keeps that turns g, T and its own row. -/
theorem round_keeps {W Y : World} {base H g T : Nat} {bo : Option Nat} {B : Nat → Prop} (low : Below 0 W Y) (far : ∀ k o, W.heap[k]? = some o → k ≠ g → k ≠ T → (∀ b, bo = some b → k ≠ b) → Y.heap[k]? = some o) (hg : g < base) (hT : T < base) (hgH : g < H) (hTH : T < H) (hbo : ∀ b, bo = some b → b < H) (hc : ∀ b, bo = some b → ∃ cs, W.heap[b]? = some (.cells cs 3 (0, 0)))
    (h1 : ∀ k, B k → k ≠ g) (h2 : ∀ k, B k → k ≠ T) (h3 : ∀ k b, B k → bo = some b → k ≠ b) : KeepsFrom base W Y ∧ AX.Keep B H W Y :=
  ⟨⟨low.size, fun k o hk ho hn => far k o ho (by omega) (by omega) fun b e hkb => by
      obtain ⟨cs, hh⟩ := hc b e
      rw [hkb, hh] at ho; cases ho; cases hn⟩,
    ⟨low, fun k o ho hu => by
      rcases hu with hB | ⟨hH, _⟩
      · exact far k o ho (h1 k hB) (h2 k hB) fun b e => h3 k b hB e
      · exact far k o ho (by omega) (by omega) fun b e => by have := hbo b e; omega⟩⟩
/-- The state of Reach's first loop. -/
def Ri (w : World) (hdr : Value) (k : Int) (l : List Pt) (is : List Nat) (g T7 base H : Nat) (pre : List Nat) (W : World) : Prop :=
  ∃ bo v, Rb w hdr k l.length w.heap.size (w.heap.size + 1) g (g + 1) ((is.take pre.length).foldl (r1s l k) ([], List.replicate l.length 0)).2 W ∧ AOwn W base bo v ((is.take pre.length).foldl (r1s l k) ([], List.replicate l.length 0)).1 ∧ (∀ b, bo = some b → b < H) ∧ Bx W T7 27 #[v] ∧ base ≤ H
theorem Ri.lets {w : World} {hdr : Value} {k : Int} {l : List Pt} {is : List Nat} {g T7 base H L : Nat} {pre : List Nat} {X Y : World} (h : Ri w hdr k l is g T7 base H pre X) (hl : AX.Lets L base X Y) (h1 : w.heap.size + 2 ≤ g) (h2 : g + 1 < T7) (h3 : T7 < L) (h4 : L < base) : Ri w hdr k l is g T7 base H pre Y := by
  obtain ⟨bo, v, ⟨b1, b2, b3, b4, b5⟩, hown, hbo, h7, hbH⟩ := h
  exact ⟨bo, v, ⟨Below.lets b1 (Nat.le_refl _) (by omega) (by omega) hl, b2.lets (by omega) hl, b3.lets (by omega) hl, b4.lets (by omega) hl, b5.lets (by omega) hl⟩, hown.same fun b cs e hh => (hl.same b _ hh (by have := hown.le b e; omega) (.inr rfl)).trans hh.symm, hbo, h7.lets (by omega) hl, hbH⟩
def RcPost (w : World) (l : List Pt) (k : Int) (e : Ending) (W : World) : Prop := ∃ g, e = .returned (.slice (some ⟨g, 0, none⟩) l.length l.length) ∧ w.heap.size ≤ g ∧ Bx W g 3 (intsA (reachF l k)) ∧ (reachF l k).length = l.length
set_option maxRecDepth 100000 in
set_option maxHeartbeats 16000000 in
theorem reach20_k (l : List Pt) (hl : l.length ≤ 120) (hT : TrOk l) (la : Option Addr) (c : Nat) (k : Int) (hk0 : 0 ≤ k) (hk1 : k ≤ 9223372036854775807) (w : World) (hR : PRow w la l) :
    Calls Tryz.prog 20 #[.slice la l.length c, .int .i64 k] w fun e w' => RcPost w l k e w' ∧ Below w.heap.size w w' := by
  have hB2 := ((Below.refl _ w).alloc (Nat.le_refl _) (.cells #[.slice la l.length c] 22)).alloc (by simp) (.cells #[.int .i64 k] 3)
  have b0 := (Bx.new w 22 #[.slice la l.length c]).alloc (.cells #[.int .i64 k] 3)
  have b1 := Bx.new (w.alloc (.cells #[.slice la l.length c] 22)) 3 #[.int .i64 k]
  rw [World.size_alloc] at b1
  have hz2 : ((w.alloc (.cells #[.slice la l.length c] 22)).alloc (.cells #[.int .i64 k] 3)).heap.size = w.heap.size + 2 := by simp
  have h18 := fun n => (callsIn_wide (n := n)).2 (ck18_k l hl hT la c _ (hR.below hB2 (Nat.le_refl _)))
  have h43 := fun n (W : World) (hb : Below w.heap.size w W) => (callsIn_wide (n := n)).2 (leaves43_k l hl hT la c W (hR.below hb (Nat.le_refl _)))
  have h44 : ∀ n (a : Option Addr) (cp : Nat) W, CallsIn Fence.wide n Tryz.prog 44 #[.slice a (leavesN l l.length).length cp] W fun e w' => e = .returned (.func (.func 75) #[] #[.pointer (some ⟨W.heap.size, 0, none⟩)]) ∧ Below W.heap.size W w' ∧ w'.heap.size = W.heap.size + 1 ∧ Bx w' W.heap.size 27 #[.slice a (leavesN l l.length).length cp] := fun n a cp W => by
    have := back44_k (ints (leavesN l l.length)) a cp W
    rw [ints_len] at this
    exact (callsIn_wide (n := n)).2 this
  have hmk := fun W => makeI l.length (by omega) W
  clear hT
  have hf18 : Fence.wide.fn 18 := trivial
  have hf43 : Fence.wide.fn 43 := trivial
  have hf44 : Fence.wide.fn 44 := trivial
  have hf45 : Fence.wide.fn 45 := trivial
  have c0 := b0.cell 0
  have HZ2 := Lib.hid hz2
  clear hz2
  refine (callsIn_wide (n := 9)).1 (callsIn_of_wp_marks Tryz.func20 rfl trivial ?_ rfl)
  simp only [Tryz.ntmps20, List.size_toArray, List.length_cons, List.length_nil, Nat.reduceAdd, Nat.reduceSub, Array.replicate_succ, Array.replicate_zero, List.push_toArray, List.append_toArray, List.nil_append, List.cons_append]
  gi_wp2_with (first
    | (gi_at_call 18; ((with_reducible refine (h18 _).mono ?_); rintro e W3 ⟨rfl, hb3⟩; (have b03 := b0.below hb3 b0.lt); (have b13 := b1.below hb3 b1.lt); (have hB3 := hB2.trans (hb3.mono (by simp; omega))); (have c03 := b03.cell 0); (have hz3 : w.heap.size + 2 ≤ W3.heap.size := by have := hb3.size; rw [HZ2.out] at this; exact this); clear b0 b1 hB2 hb3 c0 h18))
    | ((with_reducible refine mk_in ?_); refine wpListIn_make rfl rfl (hmk _) ?_; (have g4 := Bx.new W3 3 (intsA (List.replicate l.length 0))); (have hA4 := (Below.refl _ W3).alloc (Nat.le_refl _) (.cells (intsA (List.replicate l.length 0)) 3)); (have hz4 : (W3.alloc (.cells (intsA (List.replicate l.length 0)) 3)).heap.size = W3.heap.size + 1 := by simp); generalize W3.alloc (.cells (intsA (List.replicate l.length 0)) 3) = W4 at *; (have o5 := Bx.new W4 27 #[.slice (some ⟨W3.heap.size, 0, none⟩) l.length l.length]); rw [hz4] at o5; (have hA5 := hA4.alloc hA4.size (.cells #[.slice (some ⟨W3.heap.size, 0, none⟩) l.length l.length] 27)); (have g5 := g4.alloc (.cells #[.slice (some ⟨W3.heap.size, 0, none⟩) l.length l.length] 27)); (have b05 := b03.below hA5 b03.lt); (have b15 := b13.below hA5 b13.lt); (have hB5 := hB3.trans (hA5.mono hB3.size)); (have c05 := b05.cell 0); (have hz5 : (W4.alloc (.cells #[.slice (some ⟨W3.heap.size, 0, none⟩) l.length l.length] 27)).heap.size = W3.heap.size + 1 + 1 := by simp [hz4]); (have h43 := fun n => h43 n _ hB5); clear b03 b13 hB3 c03 hA4 hA5 g4 hmk)
    | (gi_at_call 43; ((with_reducible refine (h43 _).mono ?_); rintro e W6 ⟨⟨lvA, lvC, rfl, hlv, hlb⟩, hb6⟩; rw [hz5] at hlb; (have b06 := b05.below hb6 b05.lt); (have b16 := b15.below hb6 b15.lt); (have o6 := o5.below hb6 o5.lt); (have g6 := g5.below hb6 g5.lt); (have hB6 := hB5.trans (hb6.mono hB5.size)); (have hz6 : W3.heap.size + 1 + 1 ≤ W6.heap.size := by have := hb6.size; rw [hz5] at this; exact this); (have a7 := Bx.new W6 27 #[.slice none 0 0]); (have hA7 := (Below.refl _ W6).alloc (Nat.le_refl _) (.cells #[.slice none 0 0] 27)); clear b05 b15 o5 g5 hB5 hb6 c05 h43))
    | (gi_at_call 44; ((with_reducible refine (h44 _ _ _ _).mono ?_); rintro e V ⟨rfl, hb8, hz8, L8⟩)))
  have hz7 : (W6.alloc (.cells #[.slice none 0 0] 27)).heap.size = W6.heap.size + 1 := by simp
  rw [hz7] at hb8 hz8 L8
  obtain ⟨g, hg⟩ : ∃ g, g = W3.heap.size := ⟨_, rfl⟩
  obtain ⟨T7, hT7⟩ : ∃ T7, T7 = W6.heap.size := ⟨_, rfl⟩
  rw [← hg] at o6 g6 hz6 hlb ⊢
  rw [← hT7] at hb8 hz8 L8 hz6 a7 hz7 ⊢
  have hb6V : Below T7 W6 V := (by rw [hT7]; exact (hA7.mono (Nat.le_refl _)).trans (hb8.mono (by omega)))
  have hgw : w.heap.size + 2 ≤ g := by rw [hg]; exact hz3
  have hrb : Rb w (.slice la l.length c) k l.length w.heap.size (w.heap.size + 1) g (g + 1) (List.replicate l.length 0) V :=
    (⟨hB6, b06, b16, o6, g6⟩ : Rb w (.slice la l.length c) k l.length w.heap.size (w.heap.size + 1) g (g + 1) (List.replicate l.length 0) W6).below hb6V (by omega) (by omega) (by omega) (by omega) (by omega)
  have a8 : Bx V T7 27 #[.slice none 0 0] := a7.below hb8 (Nat.lt_succ_self _)
  have hlvV : IRow V lvA (ints (leavesN l l.length)) := hlv.below hb6V (by omega)
  have hbv : ∀ kk, Bv lvA (ints (leavesN l l.length)) (T7 + 1) kk → g + 1 < kk ∧ kk ≠ T7 ∧ kk ≤ T7 + 1 := fun kk h => by
    rcases h with h | ⟨hne, off, h⟩
    · omega
    · obtain ⟨b', off', e', hb', _⟩ := hlv hne
      have h0 := hlb kk off h
      rw [e'] at h; cases h
      omega
  have hwV : w.heap.size ≤ V.heap.size := hrb.b.size
  have hnl := leavesN_len l l.length
  rw [← ints_len] at L8 hnl ⊢
  obtain ⟨L, hL⟩ : ∃ L, L = T7 + 1 := ⟨_, rfl⟩
  rw [← hL] at hz8 L8 hb8 ⊢
  have hlast : ∀ m, m < (ints (leavesN l l.length)).length → ∃ i, (leavesN l l.length).reverse[m]? = some i ∧ it (ints (leavesN l l.length)) ((ints (leavesN l l.length)).length - 1 - m) = (i : Int) ∧ i < l.length := fun m hm => by
    rw [ints_len] at hm
    have h1 : (leavesN l l.length).length - 1 - m < (leavesN l l.length).length := by omega
    refine ⟨(leavesN l l.length)[(leavesN l l.length).length - 1 - m], ?_, ?_, leavesN_lt (List.getElem_mem _)⟩
    · rw [List.getElem?_reverse (by omega), List.getElem?_eq_getElem h1]
    · rw [ints_len]; simp [it, ints, h1]
  obtain ⟨lv, hlvd⟩ : ∃ lv, lv = ints (leavesN l l.length) := ⟨_, rfl⟩
  obtain ⟨is, hisd⟩ : ∃ is, is = (leavesN l l.length).reverse := ⟨_, rfl⟩
  rw [← hL] at hbv
  rw [← hlvd] at L8 hnl hlvV hbv ⊢
  rw [← hlvd, ← hisd] at hlast
  have HLAST := Lib.hid hlast
  have HBv := fun kk h => hbv kk h
  have HLV := Lib.hid (And.intro hlvd hisd)
  have hgT : g + 1 < T7 := by omega
  have hLV : L < V.heap.size := L8.lt
  have hTL : T7 < L := by omega
  have hLvG : ∀ b off, lv ≠ [] → lvA = some ⟨b, off, none⟩ → g < b := fun b off h1 h2 => by have h3 := HBv b (.inr ⟨h1, off, h2⟩); omega
  have hLvB : ∀ b off, lv ≠ [] → lvA = some ⟨b, off, none⟩ → b ≠ L ∧ b < V.heap.size := fun b off h1 h2 => by
    have h3 := HBv b (.inr ⟨h1, off, h2⟩)
    obtain ⟨b', off', e', hb', _⟩ := hlv (by rw [← hlvd]; exact h1)
    rw [e'] at h2; cases h2
    omega
  clear hg hT7 hb6V a7 hA7 b06 b16 o6 g6 hB6 hz6 hz7 hlv h44 hz3 HZ2 hb8 hlast hlvd hisd hL hbv hlb hz8
  refine AX.range_butN (A := L) (B := Bv lvA lv L) (Pp := fun pre x => pre.length + x + 1 = lv.length) (encs := fun x : Nat => #[.int .i64 (x : Nat), .int .i64 (it lv x)]) (S := fun xs => xs.length = lv.length) rfl (by omega) (gf := 75) (lb := #[.pointer (some ⟨L, 0, none⟩)]) rfl trivial (enters_of Tryz.func75 (by kernel_rfl) rfl) hLV (fun _ => rfl) (fun b h => by
      rcases h with h | ⟨hne, off, h⟩
      · omega
      · obtain ⟨b', off', e', hb', _⟩ := hlvV hne
        rw [e'] at h; cases h; exact hb') ?seq
    (fun H pre W => Ri w (.slice la l.length c) k l is g T7 V.heap.size H pre W ∧ IRow W lvA lv) (fun H s X Y h hl => ⟨h.1.lets hl hgw hgT hTL hLV, h.2.lets (fun b off h1 h2 => hLvB b off h1 h2) hl⟩) (fun H H' s X ⟨⟨bo, v, h1, h2, h3, h4, h5⟩, h6⟩ hH => ⟨⟨bo, v, h1, h2, fun b e => Nat.lt_of_lt_of_le (h3 b e) hH, h4, by omega⟩, h6⟩) ⟨⟨none, _, hrb, AOwn.nil _ _, (fun b e => nomatch e), a8, Nat.le_refl _⟩, hlvV⟩
    (fun x a' W => a' = { tmps := #[.slice la l.length c, .int .i64 k, .pointer (some ⟨w.heap.size, 0, none⟩), .pointer (some ⟨w.heap.size + 1, 0, none⟩), .slice none 0 0, .pointer (some ⟨g + 1, 0, none⟩), .slice lvA lv.length lvC, .pointer (some ⟨T7, 0, none⟩), undef, .int .i64 (it lv x), undef, undef, undef, undef, .slice la l.length c, .int .i64 0, .bool false, .slice la l.length c, .int .i64 (l.length : Nat), .slice (some ⟨g, 0, none⟩) l.length l.length, .slice la l.length c, .slice lvA lv.length lvC, .slice lvA lv.length lvC, .func (.func 75) #[] #[.pointer (some ⟨L, 0, none⟩)], .int .i64 (x : Nat), .int .i64 (it lv x), undef, undef, undef, undef, undef, undef, undef, undef, undef, undef, undef, undef, undef, undef, undef, undef, undef, undef, undef, undef, undef, undef, undef, undef, undef, undef, undef, undef, undef, undef, undef, undef, undef, undef, undef, undef, undef, undef, undef, undef, undef, undef, undef, undef, undef, undef, undef, undef, undef, undef, undef, undef, undef, undef, undef, undef], defers := [] }) (fun _ _ _ _ h _ => h) ?assign ?body ?done
  case seq =>
    intro y J W hW hJ hJm hY h0
    exact back75_in 8 (by omega) lv (by omega) lvA lvC y W ⟨hlvV.below hW (Nat.le_refl _), L8.below hW L8.lt⟩ J hY h0
  case assign =>
    rintro y pre x H W K hC hW hK
    gi_wp2_with fail
    exact hK _ W (KeepsFrom.refl _ _) (AX.Keep.refl _ _ _) hC rfl
  case body =>
    rintro y pre x a' H W ⟨⟨bo, v, hrb1, hown, hbo, h7, hbH⟩, hlvW⟩ hHW rfl hPp
    obtain ⟨i, hi1, hi2, hil⟩ := HLAST.out pre.length (by omega)
    rw [show lv.length - 1 - pre.length = x by omega] at hi2
    rw [hi2]
    have hst : Hid ((is.take (pre ++ [x]).length).foldl (r1s l k) ([], List.replicate l.length 0) = r1s l k ((is.take pre.length).foldl (r1s l k) ([], List.replicate l.length 0)) i) := Lib.hid (by
      obtain ⟨hlt, e⟩ := List.getElem?_eq_some_iff.1 hi1
      rw [List.length_append, List.length_singleton, List.take_succ_eq_append_getElem hlt, List.foldl_append, e]; rfl)
    have hAl := r1s_ahead l k (is.take pre.length) ([], List.replicate l.length 0)
    have hXl := r1s_len l k (is.take pre.length) ([], List.replicate l.length 0)
    have hpl : (is.take pre.length).length ≤ 120 := by rw [List.length_take]; omega
    obtain ⟨st, hstd⟩ : ∃ st, st = (is.take pre.length).foldl (r1s l k) ([], List.replicate l.length 0) := ⟨_, rfl⟩
    rw [← hstd] at hst hAl hXl hrb1 hown
    obtain ⟨A, X⟩ := st
    dsimp only at hAl hXl hrb1 hown
    rw [List.length_replicate] at hXl
    have hAl : A.length ≤ 120 := by simp only [List.length_nil] at hAl; omega
    clear hstd hi1 hi2 HLAST hpl
    obtain ⟨b1, b2, b3, b4, b5⟩ := hrb1
    obtain ⟨pb, po, ka, kc, rfl, hpb, z, _, _⟩ := hR.at hil
    have z := z.below b1 hpb
    have hpbW := Nat.lt_of_lt_of_le hpb b1.size
    rw [← pt_get hil] at z
    have hr1s : Hid (r1s l k (A, X) i = (if (pt l i).kind ≠ 4 then nearF k A ++ [(pt l i).look] else A, X.set i (foldMax (nearF k A) (pt l i).look))) := Lib.hid rfl
    obtain ⟨p, hp⟩ : ∃ p, p = pt l i := ⟨_, rfl⟩
    rw [← hp] at z hr1s
    clear hp
    have z1 := z.c1
    have z5 := z.c5
    have hi0 : (0 : Int) ≤ (i : Int) := by omega
    have hi1 : (i : Int) < (l.length : Int) := by omega
    have c2 := b2.cell 0
    have c3 := b3.cell 0
    have c7 := h7.cell 0
    have hownA := hown
    have hownle := hown.le
    rcases hown.drop (A.length - k.toNat) (by omega) with ⟨rfl, rfl, rfl⟩ | ⟨b, off, cap, rfl, hAc, hnown⟩
    · have hnear : nearF k [] = [] := by simp [nearF]
      rw [hnear] at hr1s
      have hnown : AOwn W V.heap.size none (.slice none 0 0) [] := hown
      obtain ⟨bo, hbod⟩ : ∃ bo : Option Nat, bo = none := ⟨_, rfl⟩
      rw [← hbod] at hnown hownA hownle hbo hown
      clear hbod hnear
      gi_upto_region 9 with fail
      generalize (if 0 < k then k else 0) = kz
      have hNl : (([] : List Int)).length ≤ 120 := by simp
      have h45 := fun W' (hW' : Below W.heap.size W W') => (show Calls Tryz.prog 45 #[.slice none 0 0, .int .i64 p.look, .func (.func 46) #[] #[]] W' fun e w' => e = .returned (.int .i64 (foldMax (([] : List Int)) p.look)) ∧ W' = w' from by have := fold45_k [] (by simp) none 0 p.look W' (fun h => absurd rfl h); simpa using this)
      obtain ⟨F, hF⟩ : ∃ F, F = foldMax (([] : List Int)) p.look := ⟨_, rfl⟩
      rw [← hF] at h45 hr1s
      clear hF
      have e5 := BW.cell (b4.cell 0) b4.lt
      have e2 := BW.cell (b2.cell 0) b2.lt
      have ez5 := BW.cell z5 hpbW
      clear c2 c3 c7
      refine AX.region_mixLN (C := fun W' => ∃ p : BW W, W' = p.W) (CT := fun _ => True) (ro := some y) 10 rowL20_9 inf20_9 (by kernel_rfl) (by kernel_rfl) (by kernel_rfl) (by kernel_rfl) (by kernel_rfl) (by decide) fit20_9 fitl20_9 rfl ⟨trivial, ⟨W.drew, (Below.refl _ W).drew⟩, rfl⟩ ?_
      unfold rowL20_9
      repeat (refine AX.mixL_own _ (by rfl) ?_; go_big_quiet_step (fail); refine wpQuiet_nil ?_)
      refine AX.mixL_call (h45 W.drew (Below.refl _ W).drew) (by rfl) (by rfl) (by rfl) Tryz.func45 (by kernel_rfl) (by rfl) (by simp only [List.map_toArray, List.map_cons, List.map_nil]; rfl) ?_
      rintro e V1 ⟨rfl, rfl⟩
      refine ⟨_, rfl, ⟨trivial, fun _ => ⟨⟨W.drew, (Below.refl _ W).drew⟩, rfl⟩⟩, ?_⟩
      (try simp only [Act.put, List.setIfInBounds_toArray, List.set_cons_succ, List.set_cons_zero])
      repeat (refine AX.mixL_own _ (by rfl) ?_; go_big_quiet_step (fail); refine wpQuiet_nil ?_)
      refine AX.mixL_op _ (by rfl) (by rfl) ?_
      refine AX.oper_storeCell (o := i) (v := .int .i64 F) rfl rfl rfl sz3 (b5.below (Below.refl _ W).drew b5.lt) (by rw [intsA_size]; omega) ?_
      rintro W3 i3 i4 i5
      refine ⟨⟨trivial, fun h => by cases h⟩, ?_⟩
      unfold AX.wpMixL
      have hbd := (Below.refl W.heap.size W).drew
      have hlt3 := (Array.getElem?_eq_some_iff.1 i3).1
      have low3 : Below g W W3 := (hbd.mono (by omega)).trans (AX.below_turn (Nat.le_refl _) (.inl hlt3) i4 i5)
      have far3 : ∀ k o, W.heap[k]? = some o → k ≠ g → W3.heap[k]? = some o := fun k o hk hkg => (i4 k hkg).trans ((hbd.block k (Array.getElem?_eq_some_iff.1 hk).1).trans hk)
      have w3 : Below w.heap.size w W3 := b1.trans (low3.mono (by omega))
      have l3 : Bx W3 w.heap.size 22 #[.slice (some ⟨pb, po, none⟩) l.length c] := far3 _ _ b2 (by omega)
      have k3 : Bx W3 (w.heap.size + 1) 3 #[.int .i64 k] := far3 _ _ b3 (by omega)
      have o3 : Bx W3 (g + 1) 27 #[.slice (some ⟨g, 0, none⟩) l.length l.length] := far3 _ _ b4 (by omega)
      have x3 : Bx W3 g 3 (intsA (X.set i F)) := by rw [← intsA_set]; exact i3
      have a3 : Bx W3 T7 27 #[.slice none 0 0] := far3 _ _ h7 (by omega)
      have n3 : AOwn W3 V.heap.size bo (.slice none 0 0) (([] : List Int)) := hnown.same fun b cs e hh => (far3 _ _ hh (by have := hnown.le b e; omega)).trans hh.symm
      have z13 := (low3.cell (p := ⟨pb, po + i * 8 + 1, none⟩) (by show pb < g; omega)).trans z1
      have z53 := (low3.cell (p := ⟨pb, po + i * 8 + 5, none⟩) (by show pb < g; omega)).trans z5
      have cl3 := l3.cell 0
      have sz3g : V.heap.size ≤ W3.heap.size := Nat.le_trans (Nat.le_trans hbH hHW) low3.size
      have hcells := hnown.cells
      clear h45 e5 e2 ez5 hnown
      by_cases hk4 : p.kind = 4
      · have hq : (p.kind != 4) = false := by rw [hk4]; rfl
        have hs : Hid (r1s l k ([], X) i = ([], X.set i F)) := Lib.hid (by rw [hr1s.out, if_neg (by simp [hk4])])
        rw [hk4] at z13
        clear hk4 hr1s
        refine ⟨rfl, ?_⟩
        gi_wp2_with fail
        obtain ⟨q1, q2⟩ := round_keeps (base := V.heap.size) (H := H) (B := Bv lvA lv L) (g := g) (T := T7) (bo := bo) (low3.mono (Nat.zero_le _)) (fun k o hk h1 _ _ => far3 k o hk h1) (by omega) (by omega) (by omega) (by omega) hbo hcells (fun k h => by have := HBv k h; omega) (fun k h => by have := HBv k h; omega) (fun k b h e => by have := HBv k h; have := hownle b e; omega)
        refine ⟨q1, q2, ⟨bo, .slice none 0 0, ?_⟩, hlvW.keep q2⟩
        rw [hst.out, hs.out]
        exact ⟨⟨w3, l3, k3, o3, x3⟩, hownA.same fun b cs e hh => (far3 _ _ hh (by have := hownle b e; omega)).trans hh.symm, fun b e => Nat.lt_of_lt_of_le (hbo b e) (Nat.le_trans hHW low3.size), a3, sz3g⟩
      · have hq : (p.kind != 4) = true := by simp only [bne_iff_ne, ne_eq]; exact hk4
        have hs : Hid (r1s l k ([], X) i = (([] : List Int) ++ [p.look], X.set i F)) := Lib.hid (by rw [hr1s.out, if_pos hk4])
        have hq1 : ¬ p.kind = 4 := hk4
        clear hr1s hk4
        have hA4 := (Below.refl _ W3).alloc (Nat.le_refl _) (.cells #[.int .i64 p.look] 3)
        have n4 := n3.below hA4
        have a4 := a3.alloc (.cells #[.int .i64 p.look] 3)
        have hnew := (Bx.new W3 3 #[.int .i64 p.look]).cell 0
        have hz4 : (W3.alloc (.cells #[.int .i64 p.look] 3)).heap.size = W3.heap.size + 1 := by simp
        refine ⟨rfl, ?_⟩
        gi_wp2_with (first
          | (gi_at_builtin; refine append_aIn _ V.heap.size bo _ (([] : List Int)) p.look rfl _ _ rfl rfl n4 W3.heap.size 1 rfl hnew (by simp) (by omega) ?_; intro bo' v' w5 hown5 hgr hbo'; obtain ⟨ow5, oc5, hos5⟩ := hown5.shape; rw [hos5] at hown5 ⊢; (have a5 : Bx w5 T7 27 #[.slice none 0 0] := (hgr.block T7 (by omega) (fun e => by have := hownle T7 e.symm; omega)).trans a4))
          | ((with_reducible refine st_in ?_); refine AX.wpListIn_storeCell (o := 0) (v := .slice ow5 (([] : List Int) ++ [p.look]).length oc5) rfl rfl rfl sz27 a5 (show 0 < 1 by decide) ?_; rintro W6 j3 j4 j5))
        have a6 : Bx W6 T7 27 #[.slice ow5 (([] : List Int) ++ [p.look]).length oc5] := j3
        have far6 : ∀ k o, W.heap[k]? = some o → k ≠ g → k ≠ T7 → (∀ b, bo = some b → k ≠ b) → W6.heap[k]? = some o := fun k o hk h1 h2 h3 => by
          have hlt := (Array.getElem?_eq_some_iff.1 hk).1
          have hlt3' := Nat.lt_of_lt_of_le hlt low3.size
          exact (j4 k h2).trans ((hgr.block k (by omega) (fun e => h3 k e.symm rfl)).trans ((hA4.block k hlt3').trans (far3 k o hk h1)))
        have low6 : Below g W W6 := (low3.trans ((hA4.mono (by omega)).grown hgr (by omega) (fun b e => by have := hownle b e; omega))).trans (AX.below_turn (by omega) (.inl a6.lt) j4 j5)
        obtain ⟨q1, q2⟩ := round_keeps (base := V.heap.size) (H := H) (B := Bv lvA lv L) (g := g) (T := T7) (bo := bo) (low6.mono (Nat.zero_le _)) far6 (by omega) (by omega) (by omega) (by omega) hbo hcells (fun k h => by have := HBv k h; omega) (fun k h => by have := HBv k h; omega) (fun k b h e => by have := HBv k h; have := hownle b e; omega)
        refine ⟨q1, q2, ⟨bo', .slice ow5 (([] : List Int) ++ [p.look]).length oc5, ?_⟩, hlvW.keep q2⟩
        rw [hst.out, hs.out]
        have x6 : Bx W6 g 3 (intsA (X.set i F)) := (j4 g (by omega)).trans ((hgr.block g (by omega) (fun e => by have := hownle g e.symm; omega)).trans ((hA4.block g hlt3).trans x3))
        exact ⟨⟨b1.trans (low6.mono (by omega)), far6 _ _ b2 (by omega) (by omega) (fun b e => by have := hownle b e; omega), far6 _ _ b3 (by omega) (by omega) (fun b e => by have := hownle b e; omega), far6 _ _ b4 (by omega) (by omega) (fun b e => by have := hownle b e; omega), x6⟩,
          hown5.same fun b cs e hh => j4 b (by have := hown5.le b e; omega), fun b e => Nat.lt_of_lt_of_le (hown5.lt b e) (AX.below_turn (n := 0) (Nat.zero_le _) (.inl a6.lt) j4 j5).size, a6, by have := low6.size; omega⟩
    · have hnA : A.length - (A.length - k.toNat) = (nearF k A).length := by unfold nearF; rw [List.length_drop]
      rw [show A.drop (A.length - k.toNat) = nearF k A from rfl, hnA] at hnown
      have hD : (if (if 0 < k then k else 0) < (A.length : Int) then (A.length : Int) - (if 0 < k then k else 0) else 0).toNat = A.length - k.toNat := by split <;> split <;> omega
      gi_upto_region 9 with fail
      (try simp only [hD, hnA])
      generalize (if 0 < k then k else 0) = kz
      generalize (if kz < (A.length : Int) then (A.length : Int) - kz else 0) = kd
      obtain ⟨na, hna⟩ : ∃ na, na = (if cap = A.length - k.toNat then some ⟨b, off, none⟩ else some ⟨b, off + (A.length - k.toNat), none⟩ : Option Addr) := ⟨_, rfl⟩
      obtain ⟨nc, hnc⟩ : ∃ nc, nc = cap - (A.length - k.toNat) := ⟨_, rfl⟩
      rw [← hna, ← hnc] at hnown ⊢
      clear hna hnc hD hnA
      have hnrow : IRow W na (nearF k A) := by
        obtain ⟨a1, c1, e1, h1⟩ := hnown.row
        cases e1; exact h1
      have hNl : (nearF k A).length ≤ 120 := Nat.le_trans (near_len k A) hAl
      have h45 := fun W' (hW' : Below W.heap.size W W') => (show Calls Tryz.prog 45 #[.slice na (nearF k A).length nc, .int .i64 p.look, .func (.func 46) #[] #[]] W' fun e w' => e = .returned (.int .i64 (foldMax (nearF k A) p.look)) ∧ W' = w' from fold45_k (nearF k A) (by omega) na nc p.look W' (hnrow.below hW' (Nat.le_refl _)))
      obtain ⟨F, hF⟩ : ∃ F, F = foldMax (nearF k A) p.look := ⟨_, rfl⟩
      rw [← hF] at h45 hr1s
      clear hF
      have e5 := BW.cell (b4.cell 0) b4.lt
      have e2 := BW.cell (b2.cell 0) b2.lt
      have ez5 := BW.cell z5 hpbW
      clear c2 c3 c7
      refine AX.region_mixLN (C := fun W' => ∃ p : BW W, W' = p.W) (CT := fun _ => True) (ro := some y) 10 rowL20_9 inf20_9 (by kernel_rfl) (by kernel_rfl) (by kernel_rfl) (by kernel_rfl) (by kernel_rfl) (by decide) fit20_9 fitl20_9 rfl ⟨trivial, ⟨W.drew, (Below.refl _ W).drew⟩, rfl⟩ ?_
      unfold rowL20_9
      repeat (refine AX.mixL_own _ (by rfl) ?_; go_big_quiet_step (fail); refine wpQuiet_nil ?_)
      refine AX.mixL_call (h45 W.drew (Below.refl _ W).drew) (by rfl) (by rfl) (by rfl) Tryz.func45 (by kernel_rfl) (by rfl) (by simp only [List.map_toArray, List.map_cons, List.map_nil]; rfl) ?_
      rintro e V1 ⟨rfl, rfl⟩
      refine ⟨_, rfl, ⟨trivial, fun _ => ⟨⟨W.drew, (Below.refl _ W).drew⟩, rfl⟩⟩, ?_⟩
      (try simp only [Act.put, List.setIfInBounds_toArray, List.set_cons_succ, List.set_cons_zero])
      repeat (refine AX.mixL_own _ (by rfl) ?_; go_big_quiet_step (fail); refine wpQuiet_nil ?_)
      refine AX.mixL_op _ (by rfl) (by rfl) ?_
      refine AX.oper_storeCell (o := i) (v := .int .i64 F) rfl rfl rfl sz3 (b5.below (Below.refl _ W).drew b5.lt) (by rw [intsA_size]; omega) ?_
      rintro W3 i3 i4 i5
      refine ⟨⟨trivial, fun h => by cases h⟩, ?_⟩
      unfold AX.wpMixL
      have hbd := (Below.refl W.heap.size W).drew
      have hlt3 := (Array.getElem?_eq_some_iff.1 i3).1
      have low3 : Below g W W3 := (hbd.mono (by omega)).trans (AX.below_turn (Nat.le_refl _) (.inl hlt3) i4 i5)
      have far3 : ∀ k o, W.heap[k]? = some o → k ≠ g → W3.heap[k]? = some o := fun k o hk hkg => (i4 k hkg).trans ((hbd.block k (Array.getElem?_eq_some_iff.1 hk).1).trans hk)
      have w3 : Below w.heap.size w W3 := b1.trans (low3.mono (by omega))
      have l3 : Bx W3 w.heap.size 22 #[.slice (some ⟨pb, po, none⟩) l.length c] := far3 _ _ b2 (by omega)
      have k3 : Bx W3 (w.heap.size + 1) 3 #[.int .i64 k] := far3 _ _ b3 (by omega)
      have o3 : Bx W3 (g + 1) 27 #[.slice (some ⟨g, 0, none⟩) l.length l.length] := far3 _ _ b4 (by omega)
      have x3 : Bx W3 g 3 (intsA (X.set i F)) := by rw [← intsA_set]; exact i3
      have a3 : Bx W3 T7 27 #[.slice (some ⟨b, off, none⟩) A.length cap] := far3 _ _ h7 (by omega)
      have n3 : AOwn W3 V.heap.size bo (.slice na (nearF k A).length nc) (nearF k A) := hnown.same fun b cs e hh => (far3 _ _ hh (by have := hnown.le b e; omega)).trans hh.symm
      have z13 := (low3.cell (p := ⟨pb, po + i * 8 + 1, none⟩) (by show pb < g; omega)).trans z1
      have z53 := (low3.cell (p := ⟨pb, po + i * 8 + 5, none⟩) (by show pb < g; omega)).trans z5
      have cl3 := l3.cell 0
      have sz3g : V.heap.size ≤ W3.heap.size := Nat.le_trans (Nat.le_trans hbH hHW) low3.size
      have hcells := hnown.cells
      clear h45 e5 e2 ez5 hnown
      by_cases hk4 : p.kind = 4
      · have hq : (p.kind != 4) = false := by rw [hk4]; rfl
        have hs : Hid (r1s l k (A, X) i = (A, X.set i F)) := Lib.hid (by rw [hr1s.out, if_neg (by simp [hk4])])
        rw [hk4] at z13
        clear hk4 hr1s
        refine ⟨rfl, ?_⟩
        gi_wp2_with fail
        obtain ⟨q1, q2⟩ := round_keeps (base := V.heap.size) (H := H) (B := Bv lvA lv L) (g := g) (T := T7) (bo := bo) (low3.mono (Nat.zero_le _)) (fun k o hk h1 _ _ => far3 k o hk h1) (by omega) (by omega) (by omega) (by omega) hbo hcells (fun k h => by have := HBv k h; omega) (fun k h => by have := HBv k h; omega) (fun k b h e => by have := HBv k h; have := hownle b e; omega)
        refine ⟨q1, q2, ⟨bo, .slice (some ⟨b, off, none⟩) A.length cap, ?_⟩, hlvW.keep q2⟩
        rw [hst.out, hs.out]
        exact ⟨⟨w3, l3, k3, o3, x3⟩, hownA.same fun b cs e hh => (far3 _ _ hh (by have := hownle b e; omega)).trans hh.symm, fun b e => Nat.lt_of_lt_of_le (hbo b e) (Nat.le_trans hHW low3.size), a3, sz3g⟩
      · have hq : (p.kind != 4) = true := by simp only [bne_iff_ne, ne_eq]; exact hk4
        have hs : Hid (r1s l k (A, X) i = (nearF k A ++ [p.look], X.set i F)) := Lib.hid (by rw [hr1s.out, if_pos hk4])
        have hq1 : ¬ p.kind = 4 := hk4
        clear hr1s hk4
        have hA4 := (Below.refl _ W3).alloc (Nat.le_refl _) (.cells #[.int .i64 p.look] 3)
        have n4 := n3.below hA4
        have a4 := a3.alloc (.cells #[.int .i64 p.look] 3)
        have hnew := (Bx.new W3 3 #[.int .i64 p.look]).cell 0
        have hz4 : (W3.alloc (.cells #[.int .i64 p.look] 3)).heap.size = W3.heap.size + 1 := by simp
        refine ⟨rfl, ?_⟩
        gi_wp2_with (first
          | (gi_at_builtin; refine append_aIn _ V.heap.size bo _ (nearF k A) p.look rfl _ _ rfl rfl n4 W3.heap.size 1 rfl hnew (by omega) (by omega) ?_; intro bo' v' w5 hown5 hgr hbo'; obtain ⟨ow5, oc5, hos5⟩ := hown5.shape; rw [hos5] at hown5 ⊢; (have a5 : Bx w5 T7 27 #[.slice (some ⟨b, off, none⟩) A.length cap] := (hgr.block T7 (by omega) (fun e => by have := hownle T7 e.symm; omega)).trans a4))
          | ((with_reducible refine st_in ?_); refine AX.wpListIn_storeCell (o := 0) (v := .slice ow5 (nearF k A ++ [p.look]).length oc5) rfl rfl rfl sz27 a5 (show 0 < 1 by decide) ?_; rintro W6 j3 j4 j5))
        have a6 : Bx W6 T7 27 #[.slice ow5 (nearF k A ++ [p.look]).length oc5] := j3
        have far6 : ∀ k o, W.heap[k]? = some o → k ≠ g → k ≠ T7 → (∀ b, bo = some b → k ≠ b) → W6.heap[k]? = some o := fun k o hk h1 h2 h3 => by
          have hlt := (Array.getElem?_eq_some_iff.1 hk).1
          have hlt3' := Nat.lt_of_lt_of_le hlt low3.size
          exact (j4 k h2).trans ((hgr.block k (by omega) (fun e => h3 k e.symm rfl)).trans ((hA4.block k hlt3').trans (far3 k o hk h1)))
        have low6 : Below g W W6 := (low3.trans ((hA4.mono (by omega)).grown hgr (by omega) (fun b e => by have := hownle b e; omega))).trans (AX.below_turn (by omega) (.inl a6.lt) j4 j5)
        obtain ⟨q1, q2⟩ := round_keeps (base := V.heap.size) (H := H) (B := Bv lvA lv L) (g := g) (T := T7) (bo := bo) (low6.mono (Nat.zero_le _)) far6 (by omega) (by omega) (by omega) (by omega) hbo hcells (fun k h => by have := HBv k h; omega) (fun k h => by have := HBv k h; omega) (fun k b h e => by have := HBv k h; have := hownle b e; omega)
        refine ⟨q1, q2, ⟨bo', .slice ow5 (nearF k A ++ [p.look]).length oc5, ?_⟩, hlvW.keep q2⟩
        rw [hst.out, hs.out]
        have x6 : Bx W6 g 3 (intsA (X.set i F)) := (j4 g (by omega)).trans ((hgr.block g (by omega) (fun e => by have := hownle g e.symm; omega)).trans ((hA4.block g hlt3).trans x3))
        exact ⟨⟨b1.trans (low6.mono (by omega)), far6 _ _ b2 (by omega) (by omega) (fun b e => by have := hownle b e; omega), far6 _ _ b3 (by omega) (by omega) (fun b e => by have := hownle b e; omega), far6 _ _ b4 (by omega) (by omega) (fun b e => by have := hownle b e; omega), x6⟩,
          hown5.same fun b cs e hh => j4 b (by have := hown5.le b e; omega), fun b e => Nat.lt_of_lt_of_le (hown5.lt b e) (AX.below_turn (n := 0) (Nat.zero_le _) (.inl a6.lt) j4 j5).size, a6, by have := low6.size; omega⟩
  case done =>
    rintro D H xs W hD hxs ⟨⟨bo, v, hrb1, hown, hbo, h7, hbH⟩, hlvW⟩ hK
    obtain ⟨hlvd, hisd⟩ := HLV.out
    have hisl : is.length = lv.length := by rw [hlvd, hisd, ints_len, List.length_reverse]
    rw [hxs, ← hisl, List.take_length, ← r1_fold] at hrb1
    have hX1l : (r1 l k is [] (List.replicate l.length 0)).length = l.length := by rw [r1_fold, r1s_len]; simp
    have hlvi : Hid (∀ j, j < lv.length → ∃ i, (leavesN l l.length)[j]? = some i ∧ lv[j]? = some (i : Int) ∧ i < l.length) := Lib.hid fun j hj => by
      have hj' : j < (leavesN l l.length).length := by rw [hlvd, ints_len] at hj; exact hj
      exact ⟨(leavesN l l.length)[j], List.getElem?_eq_getElem hj', by rw [hlvd]; simp [ints, hj'], leavesN_lt (List.getElem_mem _)⟩
    have hend : Hid (reachF l k = ((leavesN l l.length).foldl (r2s l) (0, r1 l k is [] (List.replicate l.length 0))).2) := Lib.hid (by rw [hisd, ← r2_fold]; rfl)
    have hll : Hid ((leavesN l l.length).length = lv.length) := Lib.hid (by rw [hlvd, ints_len])
    obtain ⟨X1, hX1⟩ : ∃ X1, X1 = r1 l k is [] (List.replicate l.length 0) := ⟨_, rfl⟩
    rw [← hX1] at hrb1 hX1l hend
    have hDg : g + 1 < D := by omega
    have hDw : w.heap.size ≤ D := by omega
    clear hown hbo h7 hbH HLV HLAST hX1 hlvd hisd hisl hxs hlvV a8 hrb L8 HBv
    gi_wp2_with fail
    gi_loopw [11, 60] (fun m j wr => R2 w (.slice la l.length c) k l g X1 (leavesN l l.length) lvA lv D m j wr) (fun _ j _ => lv.length - (intOf j).toNat)
    case atStart => exact ⟨0, 0, X1, rfl, rfl, Nat.zero_le _, Lib.hid rfl, hrb1, hlvW, hK⟩
    case round =>
      obtain ⟨j, m, X, rfl, rfl, hj, hH, hrb2, hlv2, hK2⟩ := hrel
      clear hrb1 hlvW hK
      have hXl : X.length = l.length := by
        have := congrArg (fun s => s.2.length) hH.out
        simp only at this
        rw [r2s_len] at this
        rw [← this]; exact hX1l
      obtain ⟨b1, b2, b3, b4, b5⟩ := hrb2
      have hj0 : (0 : Int) ≤ (j : Int) := by omega
      by_cases hlt : j < lv.length
      · have hj1 : (j : Int) < (lv.length : Int) := by omega
        obtain ⟨i, hi1, hi2, hil⟩ := hlvi.out j hlt
        obtain ⟨lb, lo, rfl, hlb, hq⟩ := hlv2.at hlt
        have hvi : lv[j] = (i : Int) := by rw [List.getElem?_eq_getElem hlt] at hi2; exact Option.some.inj hi2
        rw [hvi] at hq
        obtain ⟨pb, po, ka, kc, rfl, hpb, z, _, _⟩ := hR.at hil
        have z := z.below b1 hpb
        have hpbW := Nat.lt_of_lt_of_le hpb b1.size
        rw [← pt_get hil] at z
        have hst : Hid (((leavesN l l.length).take (j + 1)).foldl (r2s l) (0, X1) = (max m (pt l i).look, X.set i (max (it X i) (max m (pt l i).look)))) := Lib.hid (by
          obtain ⟨hlt', e⟩ := List.getElem?_eq_some_iff.1 hi1
          rw [List.take_succ_eq_append_getElem hlt', List.foldl_append, e, hH.out]; rfl)
        obtain ⟨p, hp⟩ : ∃ p, p = pt l i := ⟨_, rfl⟩
        rw [← hp] at z hst
        clear hp
        have z5 := z.c5
        have hi0 : (0 : Int) ≤ (i : Int) := by omega
        have hi1' : (i : Int) < (l.length : Int) := by omega
        have c2 := b2.cell 0
        have cX : wr.cell? ⟨g, i, none⟩ = some (.int .i64 (it X i)) := (b5.cell i).trans (intsA_get (by omega))
        obtain ⟨xi, hxi⟩ : ∃ xi, xi = it X i := ⟨_, rfl⟩
        rw [← hxi] at cX hst
        clear hxi hi1 hi2 hvi hH
        obtain ⟨mx, hmx⟩ : ∃ mx, mx = max m p.look := ⟨_, rfl⟩
        have e1 : (if m < p.look then p.look else m) = mx := by rw [hmx, Int.max_def]; split <;> split <;> omega
        have e2 : Hid ((if xi < mx then mx else xi) = max xi mx) := Lib.hid (by rw [Int.max_def]; split <;> split <;> omega)
        rw [← hmx] at hst
        have HE1 := Lib.hid e1
        clear e1 hmx
        gi_upto_region 17 with fail
        rw [HE1.out]
        have f5 := BW.cell (b4.cell 0) b4.lt
        have fx := BW.cell cX b5.lt
        have fx' : ∀ q : BW wr, q.W.cell? ⟨g, 0 + i, none⟩ = some (.int .i64 xi) := by rw [Nat.zero_add]; exact fx
        refine AX.region_mixLN (C := fun W' => ∃ p : BW wr, W' = p.W) (CT := fun _ => True) (ro := none) 9 rowL20_17 inf20_17 (by kernel_rfl) (by kernel_rfl) (by kernel_rfl) (by kernel_rfl) (by kernel_rfl) (by decide) fit20_17 fitl20_17 rfl ⟨trivial, ⟨wr.drew, (Below.refl _ wr).drew⟩, rfl⟩ ?_
        unfold rowL20_17
        repeat (refine AX.mixL_own _ (by rfl) ?_; go_big_quiet_step (fail); refine wpQuiet_nil ?_)
        refine AX.mixL_op _ (by rfl) (by rfl) ?_
        refine AX.oper_storeCell (o := i) (v := .int .i64 (if xi < mx then mx else xi)) rfl rfl rfl sz3 (b5.below (Below.refl _ wr).drew b5.lt) (by rw [intsA_size]; omega) ?_
        rintro W3 i3 i4 i5
        refine ⟨⟨trivial, fun h => by cases h⟩, ?_⟩
        unfold AX.wpMixL
        rw [e2.out] at i3
        have hbd := (Below.refl wr.heap.size wr).drew
        have hlt3 := (Array.getElem?_eq_some_iff.1 i3).1
        have low3 : Below g wr W3 := (hbd.mono (by have := b5.lt; omega)).trans (AX.below_turn (Nat.le_refl _) (.inl hlt3) i4 i5)
        have far3 : ∀ k o, wr.heap[k]? = some o → k ≠ g → W3.heap[k]? = some o := fun k o hk hkg => (i4 k hkg).trans ((hbd.block k (Array.getElem?_eq_some_iff.1 hk).1).trans hk)
        have w3 : Below w.heap.size w W3 := b1.trans (low3.mono (by omega))
        have l3 : Bx W3 w.heap.size 22 #[.slice (some ⟨pb, po, none⟩) l.length c] := far3 _ _ b2 (by omega)
        have k3 : Bx W3 (w.heap.size + 1) 3 #[.int .i64 k] := far3 _ _ b3 (by omega)
        have o3 : Bx W3 (g + 1) 27 #[.slice (some ⟨g, 0, none⟩) l.length l.length] := far3 _ _ b4 (by omega)
        have x3 : Bx W3 g 3 (intsA (X.set i (max xi mx))) := by rw [← intsA_set]; exact i3
        have lv3 : IRow W3 (some ⟨lb, lo, none⟩) lv := fun hne => by
          obtain ⟨b', off', e', hb', hc'⟩ := hlv2 hne
          have hb'g : b' ≠ g := by have := hLvG b' off' hne e'; omega
          have hs : W3.heap[b']? = wr.heap[b']? := (far3 b' wr.heap[b'] (Array.getElem?_eq_getElem hb') hb'g).trans (Array.getElem?_eq_getElem hb').symm
          exact ⟨b', off', e', Nat.lt_of_lt_of_le hb' low3.size, fun jj hjj => (World.cell?_of_block (w := wr) (w' := W3) (a := ⟨b', off' + jj, none⟩) hs).trans (hc' jj hjj)⟩
        have hK3 : W3.heap[D]? = some (.deferred (some [])) := far3 _ _ hK2 (by omega)
        refine ⟨rfl, ?_⟩
        clear i3 i4 i5 f5 fx fx' b2 b3 b4 b5 hlv2 hK2
        gi_wp2_with fail
        go_roundw
        case rel => exact ⟨j + 1, mx, _, by simp, rfl, by omega, hst, ⟨w3, l3, k3, o3, x3⟩, lv3, hK3⟩
        case measure => simp [intOf] <;> omega
      · obtain rfl : j = lv.length := by omega
        have hfin : Hid (reachF l k = X) := Lib.hid (by
          have h1 := hH.out
          rw [← hll.out, List.take_length] at h1
          rw [hend.out, h1])
        have c5 := b4.cell 0
        have hnlt : ¬ (lv.length : Int) < (lv.length : Int) := by omega
        gi_wp2_with fail
        refine ⟨by simp, .inl ⟨_, _, rfl, run_takeDeferred hK2, ?_⟩⟩
        exact ⟨_, results_tmp rfl _ _ _, ⟨g, rfl, by omega, by rw [hfin.out]; exact b5.putObj _ (by omega), by rw [hfin.out]; exact hXl⟩, Below.putObj b1 (.deferred none) b1.size hDw⟩
end Go.Proofs.YtdjeokgkeejpcaaGreatDoor
