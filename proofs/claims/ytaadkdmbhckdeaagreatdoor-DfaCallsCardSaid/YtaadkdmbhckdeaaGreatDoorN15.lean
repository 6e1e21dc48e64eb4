/- Regex: class.Meet 35. -/
import Derived.Test.YtaadkdmbhckdeaaGreatDoorN13
import Derived.Test.YtaadkdmbhckdeaaGreatDoorSt4
namespace Go.Proofs.YtaadkdmbhckdeaaGreatDoor
open Go Go.Proofs Go.RowKit Go.Shelf
attribute [local go_sem] Oper.semAt_some
theorem st_id {P : Program} {ops : Array Oper} {Q : Exit → Act → World → Prop} {a : Act} {w : World} {rest : List Oper} {t : TypeId} {x y : Operand} {ty : TypeId} {pos : String} {after : Array Edge} (h : wpList P ops Q ({ dst := none, op := .store t x y, type := ty, pos := pos, after := after, guard := none } :: rest) a w) :
 wpList P ops Q ({ dst := none, op := .store t x y, type := ty, pos := pos, after := after, guard := none } :: rest) a w := h
def Bx (w : World) (b : Nat) (t : TypeId) (cs : Array Value) : Prop := w.heap[b]? = some (.cells cs t (0, 0))
theorem Bx.lt {w : World} {B : Nat} {t : TypeId} {cs : Array Value} (h : Bx w B t cs) : B < w.heap.size := (Array.getElem?_eq_some_iff.1 h).1
theorem Bx.new (w : World) (t : TypeId) (cs : Array Value) : Bx (w.alloc (.cells cs t)) w.heap.size t cs := World.alloc_heap_new w _
theorem Bx.cell {w : World} {B : Nat} {t : TypeId} {cs : Array Value} (h : Bx w B t cs) (j : Nat) : w.cell? ⟨B, j, none⟩ = cs[j]? := by simp [World.cell?, show w.heap[B]? = _ from h]
theorem Bx.frozen {w : World} {B : Nat} {t : TypeId} {cs : Array Value} (h : Bx w B t cs) (j : Nat) : w.frozen? ⟨B, j, none⟩ = false := by simp [World.frozen?, show w.heap[B]? = _ from h]
theorem Bx.below {n B : Nat} {t : TypeId} {cs : Array Value} {w w' : World} (h : Bx w B t cs) (hb : Below n w w') (hn : B < n) : Bx w' B t cs := (hb.block _ hn).trans h
theorem Bx.same {B : Nat} {t : TypeId} {cs : Array Value} {w w' : World} (h : Bx w B t cs) (e : w'.heap[B]? = w.heap[B]?) : Bx w' B t cs := e.trans h
theorem Bx.alloc {w : World} {B : Nat} {t : TypeId} {cs : Array Value} (h : Bx w B t cs) (o : Obj) : Bx (w.alloc o) B t cs := (Below.heap_alloc _ _ _ h.lt).trans h
theorem Bx.set {w : World} {B : Nat} {t : TypeId} {cs : Array Value} (h : Bx w B t cs) (i : Nat) (v : Value) : Bx (w.setCell ⟨B, i, none⟩ v) B t (cs.setIfInBounds i v) := by
 have h' : w.heap[B]? = _ := h
 simp [Bx, World.setCell, Array.getElem?_modify, h']
theorem Bx.other {W : World} {B B' i : Nat} {t : TypeId} {cs : Array Value} {v : Value} (h : Bx W B t cs) (hne : B ≠ B') : Bx (W.setCell ⟨B', i, none⟩ v) B t cs := h.same (Below.heap_setCell _ _ _ _ hne)
theorem xor_all (a : Nat) (ha : a < 18446744073709551616) : bits .xor .u64 18446744073709551615 (a : Int) = (nw a : Nat) := by
 have h1 : (BitVec.ofInt 64 (a : Int)).toNat = a := by
  rw [BitVec.ofInt_natCast, BitVec.toNat_ofNat]; exact Nat.mod_eq_of_lt (by omega)
 have h2 : (BitVec.ofInt 64 (18446744073709551615 : Int)).toNat = 18446744073709551615 := by decide
 have h3 := nw_lt a ha
 show IntKind.u64.wrap ((BitVec.ofInt 64 18446744073709551615 ^^^ BitVec.ofInt 64 (a : Int)).toNat : Int) = _
 rw [BitVec.toNat_xor, h1, h2, IntKind.wrap_u64]
 unfold nw at h3 ⊢
 omega
theorem xor_all2 (a : Nat) (ha : a < 18446744073709551616) : bits .xor .u64 (if IntKind.u64.signed = true then -1 else IntKind.u64.max) (a : Int) = (nw a : Nat) := xor_all a ha
theorem sz38 : AX.sizeT Tryz.prog 55 = some 4 := by kernel_rfl
theorem idx38_0 (x0 x1 x2 x3 : Value) (w : World) : (Instr.index 55 (.agg #[x0, x1, x2, x3]) (.int .i64 0)).run Tryz.prog w = .ok x0 w := by kernel_rfl
theorem idx38_1 (x0 x1 x2 x3 : Value) (w : World) : (Instr.index 55 (.agg #[x0, x1, x2, x3]) (.int .i64 1)).run Tryz.prog w = .ok x1 w := by kernel_rfl
theorem idx38_2 (x0 x1 x2 x3 : Value) (w : World) : (Instr.index 55 (.agg #[x0, x1, x2, x3]) (.int .i64 2)).run Tryz.prog w = .ok x2 w := by kernel_rfl
theorem idx38_3 (x0 x1 x2 x3 : Value) (w : World) : (Instr.index 55 (.agg #[x0, x1, x2, x3]) (.int .i64 3)).run Tryz.prog w = .ok x3 w := by kernel_rfl
def nk (k i a : Nat) : Value := .int .u64 ((if i < k then nw a else a : Nat) : Int)
set_option maxHeartbeats 4000000 in
theorem not_k (a b c d : Nat) (ha : a < 18446744073709551616) (hb : b < 18446744073709551616) (hc : c < 18446744073709551616) (hd : d < 18446744073709551616) (w : World) :
  Calls Tryz.prog 42 #[.agg #[.int .u64 a, .int .u64 b, .int .u64 c, .int .u64 d]] w fun e w' => e = .returned (.agg #[.int .u64 (nw a : Nat), .int .u64 (nw b : Nat), .int .u64 (nw c : Nat), .int .u64 (nw d : Nat)]) ∧ Below w.heap.size w w' := by
 have xa := xor_all2 a ha
 have xb := xor_all2 b hb
 have xc := xor_all2 c hc
 have xd := xor_all2 d hd
 clear ha hb hc hd
 go_enter Tryz.func42, Tryz.ntmps42
 go_wp2
 go_loopw [6] (fun i wr => ∃ k : Nat, k ≤ 4 ∧ i = .int .i64 k ∧ Bx wr w.heap.size 55 #[nk k 0 a, nk k 1 b, nk k 2 c, nk k 3 d] ∧ Bx wr (w.heap.size + 1) 55 #[.int .u64 0, .int .u64 0, .int .u64 0, .int .u64 0] ∧ Below w.heap.size w wr)
  (fun i _ => 4 - (intOf i).toNat)
 case atStart => exact ⟨0, by omega, rfl, (Bx.new w 55 _).alloc _, by have := Bx.new (w.alloc (.cells #[.int .u64 a, .int .u64 b, .int .u64 c, .int .u64 d] 55)) 55 #[.int .u64 0, .int .u64 0, .int .u64 0, .int .u64 0]; simpa using this, ((Below.refl _ w).alloc (Nat.le_refl _) _).alloc (by simp) _⟩
 case round =>
  obtain ⟨k, hk, rfl, h1, h2, hB⟩ := hrel
  obtain rfl | rfl | rfl | rfl | rfl : k = 0 ∨ k = 1 ∨ k = 2 ∨ k = 3 ∨ k = 4 := by omega
  · have c0 : wr.cell? ⟨w.heap.size, 0, none⟩ = some (.int .u64 (a : Nat)) := h1.cell 0
    have f0 := h1.frozen 0
    have ix := idx38_0 (.int .u64 a) (.int .u64 b) (.int .u64 c) (.int .u64 d)
    have hs : Bx (wr.setCell ⟨w.heap.size, 0, none⟩ (.int .u64 (nw a : Nat))) w.heap.size 55 #[nk 1 0 a, nk 1 1 b, nk 1 2 c, nk 1 3 d] := Bx.set h1 0 (.int .u64 (nw a : Nat))
    have ho : Bx (wr.setCell ⟨w.heap.size, 0, none⟩ (.int .u64 (nw a : Nat))) (w.heap.size + 1) 55 _ := h2.other (by omega)
    have hb := hB.setCell (p := ⟨w.heap.size, 0, none⟩) (Nat.le_refl _) (.int .u64 (nw a : Nat))
    go_wp2
    exact ⟨⟨1, by omega, rfl, hs, ho, hb⟩, by simp [intOf]⟩
  · have c0 : wr.cell? ⟨w.heap.size, 1, none⟩ = some (.int .u64 (b : Nat)) := h1.cell 1
    have f0 := h1.frozen 1
    have ix := idx38_1 (.int .u64 a) (.int .u64 b) (.int .u64 c) (.int .u64 d)
    have hs : Bx (wr.setCell ⟨w.heap.size, 1, none⟩ (.int .u64 (nw b : Nat))) w.heap.size 55 #[nk 2 0 a, nk 2 1 b, nk 2 2 c, nk 2 3 d] := Bx.set h1 1 (.int .u64 (nw b : Nat))
    have ho : Bx (wr.setCell ⟨w.heap.size, 1, none⟩ (.int .u64 (nw b : Nat))) (w.heap.size + 1) 55 _ := h2.other (by omega)
    have hb := hB.setCell (p := ⟨w.heap.size, 1, none⟩) (Nat.le_refl _) (.int .u64 (nw b : Nat))
    go_wp2
    exact ⟨⟨2, by omega, rfl, hs, ho, hb⟩, by simp [intOf]⟩
  · have c0 : wr.cell? ⟨w.heap.size, 2, none⟩ = some (.int .u64 (c : Nat)) := h1.cell 2
    have f0 := h1.frozen 2
    have ix := idx38_2 (.int .u64 a) (.int .u64 b) (.int .u64 c) (.int .u64 d)
    have hs : Bx (wr.setCell ⟨w.heap.size, 2, none⟩ (.int .u64 (nw c : Nat))) w.heap.size 55 #[nk 3 0 a, nk 3 1 b, nk 3 2 c, nk 3 3 d] := Bx.set h1 2 (.int .u64 (nw c : Nat))
    have ho : Bx (wr.setCell ⟨w.heap.size, 2, none⟩ (.int .u64 (nw c : Nat))) (w.heap.size + 1) 55 _ := h2.other (by omega)
    have hb := hB.setCell (p := ⟨w.heap.size, 2, none⟩) (Nat.le_refl _) (.int .u64 (nw c : Nat))
    go_wp2
    exact ⟨⟨3, by omega, rfl, hs, ho, hb⟩, by simp [intOf]⟩
  · have c0 : wr.cell? ⟨w.heap.size, 3, none⟩ = some (.int .u64 (d : Nat)) := h1.cell 3
    have f0 := h1.frozen 3
    have ix := idx38_3 (.int .u64 a) (.int .u64 b) (.int .u64 c) (.int .u64 d)
    have hs : Bx (wr.setCell ⟨w.heap.size, 3, none⟩ (.int .u64 (nw d : Nat))) w.heap.size 55 #[nk 4 0 a, nk 4 1 b, nk 4 2 c, nk 4 3 d] := Bx.set h1 3 (.int .u64 (nw d : Nat))
    have ho : Bx (wr.setCell ⟨w.heap.size, 3, none⟩ (.int .u64 (nw d : Nat))) (w.heap.size + 1) 55 _ := h2.other (by omega)
    have hb := hB.setCell (p := ⟨w.heap.size, 3, none⟩) (Nat.le_refl _) (.int .u64 (nw d : Nat))
    go_wp2
    exact ⟨⟨4, by omega, rfl, hs, ho, hb⟩, by simp [intOf]⟩
  · have c0 : wr.cell? ⟨w.heap.size, 0, none⟩ = some (.int .u64 (nw a : Nat)) := h1.cell 0
    have c1 : wr.cell? ⟨w.heap.size, 1, none⟩ = some (.int .u64 (nw b : Nat)) := h1.cell 1
    have c2 : wr.cell? ⟨w.heap.size, 2, none⟩ = some (.int .u64 (nw c : Nat)) := h1.cell 2
    have c3 : wr.cell? ⟨w.heap.size, 3, none⟩ = some (.int .u64 (nw d : Nat)) := h1.cell 3
    clear xa xb xc xd
    go_wp2_with ((with_reducible refine st_id ?_); refine AX.wpList_storeBox (vs := [.int .u64 (nw a : Nat), .int .u64 (nw b : Nat), .int .u64 (nw c : Nat), .int .u64 (nw d : Nat)]) rfl rfl sz38 h2 rfl rfl ?_; rintro W9 h3 h4 h5)
    have h3' : Bx W9 (w.heap.size + 1) 55 #[.int .u64 (nw a : Nat), .int .u64 (nw b : Nat), .int .u64 (nw c : Nat), .int .u64 (nw d : Nat)] := h3
    have d0 := h3'.cell 0
    have d1 := h3'.cell 1
    have d2 := h3'.cell 2
    have d3 := h3'.cell 3
    have hB9 : Below w.heap.size w W9 := hB.trans (AX.below_turn (by omega) (.inl (Array.getElem?_eq_some_iff.1 h3).1) h4 h5)
    exact bodyPost_ret (v := .agg #[.int .u64 (nw a : Nat), .int .u64 (nw b : Nat), .int .u64 (nw c : Nat), .int .u64 (nw d : Nat)]) (by simp [results, Tryz.results65, go_sem, d0, d1, d2, d3]) rfl ⟨rfl, hB9⟩
def uk (k i a b : Nat) : Value := .int .u64 ((if i < k then a &&& b else a : Nat) : Int)
set_option maxHeartbeats 4000000 in
theorem meet_k (a b c d e f g h : Nat) (ha : a < 18446744073709551616) (hb : b < 18446744073709551616) (hc : c < 18446744073709551616) (hd : d < 18446744073709551616) (he : e < 18446744073709551616) (hf : f < 18446744073709551616) (hg : g < 18446744073709551616) (hh : h < 18446744073709551616) (w : World) :
  Calls Tryz.prog 41 #[.agg #[.int .u64 a, .int .u64 b, .int .u64 c, .int .u64 d], .agg #[.int .u64 e, .int .u64 f, .int .u64 g, .int .u64 h]] w fun x w' => x = .returned (.agg #[.int .u64 (a &&& e : Nat), .int .u64 (b &&& f : Nat), .int .u64 (c &&& g : Nat), .int .u64 (d &&& h : Nat)]) ∧ Below w.heap.size w w' := by
 have xa := bits_and_u64_nat a e ha he
 have xb := bits_and_u64_nat b f hb hf
 have xc := bits_and_u64_nat c g hc hg
 have xd := bits_and_u64_nat d h hd hh
 clear ha hb hc hd he hf hg hh
 go_enter Tryz.func41, Tryz.ntmps41
 go_wp2
 go_loopw [8] (fun i wr => ∃ k : Nat, k ≤ 4 ∧ i = .int .i64 k ∧ Bx wr w.heap.size 55 #[uk k 0 a e, uk k 1 b f, uk k 2 c g, uk k 3 d h] ∧ Bx wr (w.heap.size + 2) 55 #[.int .u64 0, .int .u64 0, .int .u64 0, .int .u64 0] ∧ Below w.heap.size w wr)
  (fun i _ => 4 - (intOf i).toNat)
 case atStart =>
  have hz := Bx.new ((w.alloc (.cells #[.int .u64 a, .int .u64 b, .int .u64 c, .int .u64 d] 55)).alloc (.cells #[.int .u64 e, .int .u64 f, .int .u64 g, .int .u64 h] 55)) 55 #[.int .u64 0, .int .u64 0, .int .u64 0, .int .u64 0]
  exact ⟨0, by omega, rfl, ((Bx.new w 55 _).alloc _).alloc _, by simpa using hz, (((Below.refl _ w).alloc (Nat.le_refl _) _).alloc (by simp) _).alloc (by simp; omega) _⟩
 case round =>
  obtain ⟨k, hk, rfl, h1, h2, hB⟩ := hrel
  obtain rfl | rfl | rfl | rfl | rfl : k = 0 ∨ k = 1 ∨ k = 2 ∨ k = 3 ∨ k = 4 := by omega
  · have c0 : wr.cell? ⟨w.heap.size, 0, none⟩ = some (.int .u64 (a : Nat)) := h1.cell 0
    have f0 := h1.frozen 0
    have ix := idx38_0 (.int .u64 e) (.int .u64 f) (.int .u64 g) (.int .u64 h)
    have hs : Bx (wr.setCell ⟨w.heap.size, 0, none⟩ (.int .u64 (a &&& e : Nat))) w.heap.size 55 #[uk 1 0 a e, uk 1 1 b f, uk 1 2 c g, uk 1 3 d h] := Bx.set h1 0 (.int .u64 (a &&& e : Nat))
    have ho : Bx (wr.setCell ⟨w.heap.size, 0, none⟩ (.int .u64 (a &&& e : Nat))) (w.heap.size + 2) 55 _ := h2.other (by omega)
    have hb := hB.setCell (p := ⟨w.heap.size, 0, none⟩) (Nat.le_refl _) (.int .u64 (a &&& e : Nat))
    go_wp2
    exact ⟨⟨1, by omega, rfl, hs, ho, hb⟩, by simp [intOf]⟩
  · have c0 : wr.cell? ⟨w.heap.size, 1, none⟩ = some (.int .u64 (b : Nat)) := h1.cell 1
    have f0 := h1.frozen 1
    have ix := idx38_1 (.int .u64 e) (.int .u64 f) (.int .u64 g) (.int .u64 h)
    have hs : Bx (wr.setCell ⟨w.heap.size, 1, none⟩ (.int .u64 (b &&& f : Nat))) w.heap.size 55 #[uk 2 0 a e, uk 2 1 b f, uk 2 2 c g, uk 2 3 d h] := Bx.set h1 1 (.int .u64 (b &&& f : Nat))
    have ho : Bx (wr.setCell ⟨w.heap.size, 1, none⟩ (.int .u64 (b &&& f : Nat))) (w.heap.size + 2) 55 _ := h2.other (by omega)
    have hb := hB.setCell (p := ⟨w.heap.size, 1, none⟩) (Nat.le_refl _) (.int .u64 (b &&& f : Nat))
    go_wp2
    exact ⟨⟨2, by omega, rfl, hs, ho, hb⟩, by simp [intOf]⟩
  · have c0 : wr.cell? ⟨w.heap.size, 2, none⟩ = some (.int .u64 (c : Nat)) := h1.cell 2
    have f0 := h1.frozen 2
    have ix := idx38_2 (.int .u64 e) (.int .u64 f) (.int .u64 g) (.int .u64 h)
    have hs : Bx (wr.setCell ⟨w.heap.size, 2, none⟩ (.int .u64 (c &&& g : Nat))) w.heap.size 55 #[uk 3 0 a e, uk 3 1 b f, uk 3 2 c g, uk 3 3 d h] := Bx.set h1 2 (.int .u64 (c &&& g : Nat))
    have ho : Bx (wr.setCell ⟨w.heap.size, 2, none⟩ (.int .u64 (c &&& g : Nat))) (w.heap.size + 2) 55 _ := h2.other (by omega)
    have hb := hB.setCell (p := ⟨w.heap.size, 2, none⟩) (Nat.le_refl _) (.int .u64 (c &&& g : Nat))
    go_wp2
    exact ⟨⟨3, by omega, rfl, hs, ho, hb⟩, by simp [intOf]⟩
  · have c0 : wr.cell? ⟨w.heap.size, 3, none⟩ = some (.int .u64 (d : Nat)) := h1.cell 3
    have f0 := h1.frozen 3
    have ix := idx38_3 (.int .u64 e) (.int .u64 f) (.int .u64 g) (.int .u64 h)
    have hs : Bx (wr.setCell ⟨w.heap.size, 3, none⟩ (.int .u64 (d &&& h : Nat))) w.heap.size 55 #[uk 4 0 a e, uk 4 1 b f, uk 4 2 c g, uk 4 3 d h] := Bx.set h1 3 (.int .u64 (d &&& h : Nat))
    have ho : Bx (wr.setCell ⟨w.heap.size, 3, none⟩ (.int .u64 (d &&& h : Nat))) (w.heap.size + 2) 55 _ := h2.other (by omega)
    have hb := hB.setCell (p := ⟨w.heap.size, 3, none⟩) (Nat.le_refl _) (.int .u64 (d &&& h : Nat))
    go_wp2
    exact ⟨⟨4, by omega, rfl, hs, ho, hb⟩, by simp [intOf]⟩
  · have c0 : wr.cell? ⟨w.heap.size, 0, none⟩ = some (.int .u64 (a &&& e : Nat)) := h1.cell 0
    have c1 : wr.cell? ⟨w.heap.size, 1, none⟩ = some (.int .u64 (b &&& f : Nat)) := h1.cell 1
    have c2 : wr.cell? ⟨w.heap.size, 2, none⟩ = some (.int .u64 (c &&& g : Nat)) := h1.cell 2
    have c3 : wr.cell? ⟨w.heap.size, 3, none⟩ = some (.int .u64 (d &&& h : Nat)) := h1.cell 3
    clear xa xb xc xd
    go_wp2_with ((with_reducible refine st_id ?_); refine AX.wpList_storeBox (vs := [.int .u64 (a &&& e : Nat), .int .u64 (b &&& f : Nat), .int .u64 (c &&& g : Nat), .int .u64 (d &&& h : Nat)]) rfl rfl sz38 h2 rfl rfl ?_; rintro W9 h3 h4 h5)
    have h3' : Bx W9 (w.heap.size + 2) 55 #[.int .u64 (a &&& e : Nat), .int .u64 (b &&& f : Nat), .int .u64 (c &&& g : Nat), .int .u64 (d &&& h : Nat)] := h3
    have d0 := h3'.cell 0
    have d1 := h3'.cell 1
    have d2 := h3'.cell 2
    have d3 := h3'.cell 3
    have hB9 : Below w.heap.size w W9 := hB.trans (AX.below_turn (by omega) (.inl (Array.getElem?_eq_some_iff.1 h3).1) h4 h5)
    exact bodyPost_ret (v := .agg #[.int .u64 (a &&& e : Nat), .int .u64 (b &&& f : Nat), .int .u64 (c &&& g : Nat), .int .u64 (d &&& h : Nat)]) (by simp [results, Tryz.results41, go_sem, d0, d1, d2, d3]) rfl ⟨rfl, hB9⟩
end Go.Proofs.YtaadkdmbhckdeaaGreatDoor
