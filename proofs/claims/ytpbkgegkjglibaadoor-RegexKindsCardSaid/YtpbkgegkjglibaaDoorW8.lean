/- Regex: what a node's ends are asked to be; ends in memory; new sets. -/
import Derived.Test.YtpbkgegkjglibaaDoorW6
import Derived.Test.YtpbkgegkjglibaaDoorRg7
import Derived.Test.YtpbkgegkjglibaaDoorSt4
import Derived.Deep.CutRange
import Derived.Deep.QuietTactic
namespace Go.Proofs.YtpbkgegkjglibaaDoor
open Go Go.Proofs Go.RowKit
attribute [local go_sem] Oper.semAt_some

theorem st_id {P : Program} {ops : Array Oper} {Q : Exit → Act → World → Prop} {a : Act} {w : World} {rest : List Oper} {t : TypeId} {x y : Operand} {ty : TypeId} {pos : String} {after : Array Edge} (h : wpList P ops Q ({ dst := none, op := .store t x y, type := ty, pos := pos, after := after, guard := none } :: rest) a w) :
    wpList P ops Q ({ dst := none, op := .store t x y, type := ty, pos := pos, after := after, guard := none } :: rest) a w := h
/-- A block's cells. -/
def Bx (w : World) (b : Nat) (t : TypeId) (cs : Array Value) : Prop := w.heap[b]? = some (.cells cs t (0, 0))
theorem Bx.lt {w : World} {B : Nat} {t : TypeId} {cs : Array Value} (h : Bx w B t cs) : B < w.heap.size := (Array.getElem?_eq_some_iff.1 h).1
theorem Bx.new (w : World) (t : TypeId) (cs : Array Value) : Bx (w.alloc (.cells cs t)) w.heap.size t cs := World.alloc_heap_new w _
theorem Bx.cell {w : World} {B : Nat} {t : TypeId} {cs : Array Value} (h : Bx w B t cs) (j : Nat) : w.cell? ⟨B, j, none⟩ = cs[j]? := by simp [World.cell?, show w.heap[B]? = _ from h]
theorem Bx.frozen {w : World} {B : Nat} {t : TypeId} {cs : Array Value} (h : Bx w B t cs) (j : Nat) : w.frozen? ⟨B, j, none⟩ = false := by simp [World.frozen?, show w.heap[B]? = _ from h]
theorem Bx.below {n B : Nat} {t : TypeId} {cs : Array Value} {w w' : World} (h : Bx w B t cs) (hb : Below n w w') (hn : B < n) : Bx w' B t cs := (hb.block _ hn).trans h
theorem Bx.same {B : Nat} {t : TypeId} {cs : Array Value} {w w' : World} (h : Bx w B t cs) (e : w'.heap[B]? = w.heap[B]?) : Bx w' B t cs := e.trans h
theorem Bx.alloc {w : World} {B : Nat} {t : TypeId} {cs : Array Value} (h : Bx w B t cs) (o : Obj) : Bx (w.alloc o) B t cs := (Below.heap_alloc _ _ _ h.lt).trans h
theorem Bx.buts {S : Nat → Prop} {B : Nat} {t : TypeId} {cs : Array Value} {w w' : World} (h : Bx w B t cs) (hb : ButS S w w') (hn : ¬ S B) : Bx w' B t cs := h.same (hb.same _ h.lt hn)
theorem Bx.but {A B : Nat} {t : TypeId} {cs : Array Value} {w w' : World} (h : Bx w B t cs) (hb : AX.But A w w') (hn : B ≠ A) : Bx w' B t cs := h.same (hb.same _ h.lt hn)
theorem Bx.set {w : World} {B : Nat} {t : TypeId} {cs : Array Value} (h : Bx w B t cs) (i : Nat) (v : Value) : Bx (w.setCell ⟨B, i, none⟩ v) B t (cs.setIfInBounds i v) := by
  have h' : w.heap[B]? = _ := h
  simp [Bx, World.setCell, Array.getElem?_modify, h']
theorem Bx.other {W : World} {B B' i : Nat} {t : TypeId} {cs : Array Value} {v : Value} (h : Bx W B t cs) (hne : B ≠ B') : Bx (W.setCell ⟨B', i, none⟩ v) B t cs := h.same (Below.heap_setCell _ _ _ _ hne)
theorem Bx.three {w : World} {B : Nat} {t : TypeId} {v0 v1 v2 : Value} (h : Bx w B t #[v0, v1, v2]) : w.cell? ⟨B, 0, none⟩ = some v0 ∧ w.cell? ⟨B, 1, none⟩ = some v1 ∧ w.cell? ⟨B, 2, none⟩ = some v2 := ⟨h.cell 0, h.cell 1, h.cell 2⟩
theorem but_below {A n : Nat} {X Y : World} (h : AX.But A X Y) (hA : n ≤ A) (hn : n ≤ X.heap.size) : Below n X Y := (ButS.of_but (S := (· = A)) h rfl).below hn (fun k e => by omega)
theorem sz79 : AX.sizeT Tryd.prog 79 = some 3 := by kernel_rfl
theorem sz75 : AX.sizeT Tryd.prog 75 = some 3 := by kernel_rfl
theorem sz45 : AX.sizeT Tryd.prog 45 = some 6 := by kernel_rfl
theorem sz4 : AX.sizeT Tryd.prog 4 = some 1 := by kernel_rfl
theorem sz77 : AX.sizeT Tryd.prog 77 = some 1 := by kernel_rfl
theorem sz73 : AX.sizeT Tryd.prog 73 = some 1 := by kernel_rfl
theorem sz43 : AX.sizeT Tryd.prog 43 = some 1 := by kernel_rfl
/-- Ends are handed back, their sets in two new blocks. -/
def EnRes (w w' : World) (n : Nat) (x : En) (e : Ending) : Prop := ∃ F cf L cl, e = .returned (.agg #[.bool x.e, .slice (some ⟨F, 0, none⟩) n cf, .slice (some ⟨L, 0, none⟩) n cl]) ∧ w.heap.size ≤ F ∧ w.heap.size ≤ L ∧ F ≠ L ∧ BRow w' F x.f ∧ BRow w' L x.l
def plan56_2 : AX.Plan := .plain 0 (.plain 1 (.plain 2 (.plain 3 (.plain 4 (.plain 5 (.plain 6 (.plain 7 (.plain 9 (.plain 10 (.two 8 (.two 11 (.plain 12 (.one 13 (.one 14 (.nil)))) 13 (.one 11 (.plain 12 (.one 14 (.nil))))) 13 (.one 8 (.one 11 (.plain 12 (.one 14 (.nil)))))))))))))))
def inf56_2 : List AX.Inf := [⟨0, 16384, 16, true⟩, ⟨1, 32768, 16384, true⟩, ⟨2, 65536, 32768, true⟩, ⟨4, 131072, 65568, true⟩, ⟨12, 262144, 196608, true⟩, ⟨20, 524288, 327680, true⟩, ⟨0, 1048576, 16, true⟩, ⟨64, 2097152, 1048576, true⟩, ⟨132, 4194304, 2097152, false⟩, ⟨0, 8388608, 32, true⟩, ⟨512, 16777216, 8388608, true⟩, ⟨1280, 33554432, 16777216, false⟩, ⟨2336, 67108864, 38273024, true⟩, ⟨0, 128, 0, false⟩, ⟨16383, 0, 67108992, false⟩]
theorem fit56_2 : AX.planF inf56_2 plan56_2 0 15 = true := by kernel_rfl
set_option maxRecDepth 100000 in
set_option maxHeartbeats 4000000 in
theorem cat_k (NB n M c : Nat) (bs : Nat → Nat) (rv ev : Value) (nx : List (List Bool)) (a b : En) (Fa cfa La cla Fb cfb Lb clb : Nat) (hn1 : 1 ≤ n) (hn : n ≤ 1000000) (hM : M ≤ n) (hfa : a.f.length = n) (hla : a.l.length = n) (hfb : b.f.length = n) (hlb : b.l.length = n)
    (hlM : ∀ p, mem a.l p → p < M) (hap : ∀ i, i < M → bs i ≠ Fa ∧ bs i ≠ La ∧ bs i ≠ Fb ∧ bs i ≠ Lb) (w : World) (hN : NAt w NB n M bs nx) (hFa : BRow w Fa a.f) (hLa : BRow w La a.l) (hFb : BRow w Fb b.f) (hLb : BRow w Lb b.l) :
    Calls Tryd.prog 56 #[.agg #[rv, ev, .slice (some ⟨NB, 0, none⟩) n c], .agg #[.bool a.e, .slice (some ⟨Fa, 0, none⟩) n cfa, .slice (some ⟨La, 0, none⟩) n cla], .agg #[.bool b.e, .slice (some ⟨Fb, 0, none⟩) n cfb, .slice (some ⟨Lb, 0, none⟩) n clb]] w fun e w' =>
      EnRes w w' n (catE a b) e ∧
      NAt w' NB n M bs (folS nx a.l b.f) ∧ ButS (fun k => ∃ i, i < M ∧ k = bs i) w w' := by
  have hFl := hFa.lt; have hLl := hLa.lt; have hFl2 := hFb.lt; have hLl2 := hLb.lt
  have hNl := hN.lt
  have hbb := fun i (hi : i < M) => hN.blt hM hi
  have hB0 : Below w.heap.size w ((((w.alloc (.cells #[rv, ev, .slice (some ⟨NB, 0, none⟩) n c] 75)).alloc (.cells #[.bool a.e, .slice (some ⟨Fa, 0, none⟩) n cfa, .slice (some ⟨La, 0, none⟩) n cla] 79)).alloc (.cells #[.bool b.e, .slice (some ⟨Fb, 0, none⟩) n cfb, .slice (some ⟨Lb, 0, none⟩) n clb] 79)).alloc (.cells #[.bool false, .slice none 0 0, .slice none 0 0] 79)) :=
    ((((Below.refl _ w).alloc (Nat.le_refl _) _).alloc (by simp) _).alloc (by simp <;> omega) _).alloc (by simp <;> omega) _
  have x3 := (((Bx.new w 75 #[rv, ev, .slice (some ⟨NB, 0, none⟩) n c]).alloc (.cells #[.bool a.e, .slice (some ⟨Fa, 0, none⟩) n cfa, .slice (some ⟨La, 0, none⟩) n cla] 79)).alloc (.cells #[.bool b.e, .slice (some ⟨Fb, 0, none⟩) n cfb, .slice (some ⟨Lb, 0, none⟩) n clb] 79)).alloc (.cells #[.bool false, .slice none 0 0, .slice none 0 0] 79)
  have x4 := ((Bx.new (w.alloc (.cells #[rv, ev, .slice (some ⟨NB, 0, none⟩) n c] 75)) 79 #[.bool a.e, .slice (some ⟨Fa, 0, none⟩) n cfa, .slice (some ⟨La, 0, none⟩) n cla]).alloc (.cells #[.bool b.e, .slice (some ⟨Fb, 0, none⟩) n cfb, .slice (some ⟨Lb, 0, none⟩) n clb] 79)).alloc (.cells #[.bool false, .slice none 0 0, .slice none 0 0] 79)
  have x5 := (Bx.new ((w.alloc (.cells #[rv, ev, .slice (some ⟨NB, 0, none⟩) n c] 75)).alloc (.cells #[.bool a.e, .slice (some ⟨Fa, 0, none⟩) n cfa, .slice (some ⟨La, 0, none⟩) n cla] 79)) 79 #[.bool b.e, .slice (some ⟨Fb, 0, none⟩) n cfb, .slice (some ⟨Lb, 0, none⟩) n clb]).alloc (.cells #[.bool false, .slice none 0 0, .slice none 0 0] 79)
  have x6 := Bx.new (((w.alloc (.cells #[rv, ev, .slice (some ⟨NB, 0, none⟩) n c] 75)).alloc (.cells #[.bool a.e, .slice (some ⟨Fa, 0, none⟩) n cfa, .slice (some ⟨La, 0, none⟩) n cla] 79)).alloc (.cells #[.bool b.e, .slice (some ⟨Fb, 0, none⟩) n cfb, .slice (some ⟨Lb, 0, none⟩) n clb] 79)) 79 #[.bool false, .slice none 0 0, .slice none 0 0]
  simp only [World.size_alloc] at x4 x5 x6
  go_enter Tryd.func56, Tryd.ntmps56
  go_wp2_with fail
  generalize (((w.alloc (.cells #[rv, ev, .slice (some ⟨NB, 0, none⟩) n c] 75)).alloc (.cells #[.bool a.e, .slice (some ⟨Fa, 0, none⟩) n cfa, .slice (some ⟨La, 0, none⟩) n cla] 79)).alloc (.cells #[.bool b.e, .slice (some ⟨Fb, 0, none⟩) n cfb, .slice (some ⟨Lb, 0, none⟩) n clb] 79)).alloc (.cells #[.bool false, .slice none 0 0, .slice none 0 0] 79) = W0 at *
  have hN0 := hN.below hB0 hNl hbb
  have hFa0 := hFa.below hB0 hFl
  have hLa0 := hLa.below hB0 hLl
  have hFb0 := hFb.below hB0 hFl2
  have hLb0 := hLb.below hB0 hLl2
  clear hFa hLa hFb hLb hN
  have hfo := follow_k NB La Fb n M c cla cfb bs rv ev nx a.l b.f hM hn hla hfb hlM (fun i hi => (hap i hi).2.1) (fun i hi => (hap i hi).2.2.1) W0 hN0 hLa0 hFb0
  go_wp2_with (go_at_call 57; refine hfo.mono ?_; rintro e W1 ⟨rfl, hN1, hbu⟩)
  have y3 := x3.buts hbu (by rintro ⟨i, hi, e⟩; have := hbb i hi; omega)
  have y4 := x4.buts hbu (by rintro ⟨i, hi, e⟩; have := hbb i hi; omega)
  have y5 := x5.buts hbu (by rintro ⟨i, hi, e⟩; have := hbb i hi; omega)
  have y6 := x6.buts hbu (by rintro ⟨i, hi, e⟩; have := hbb i hi; omega)
  have hFa1 := hFa0.buts hbu (by rintro ⟨i, hi, e⟩; exact (hap i hi).1 e.symm)
  have hLa1 := hLa0.buts hbu (by rintro ⟨i, hi, e⟩; exact (hap i hi).2.1 e.symm)
  have hFb1 := hFb0.buts hbu (by rintro ⟨i, hi, e⟩; exact (hap i hi).2.2.1 e.symm)
  have hLb1 := hLb0.buts hbu (by rintro ⟨i, hi, e⟩; exact (hap i hi).2.2.2 e.symm)
  have hbu1 : ButS (fun k => ∃ i, i < M ∧ k = bs i) w W1 := (ButS.of_below hB0).trans hbu
  have hs1 : w.heap.size + 4 ≤ W1.heap.size := by have := y6.lt; omega
  clear x3 x4 x5 x6 hFa0 hLa0 hFb0 hLb0 hN0 hfo hB0 hbu
  obtain ⟨s, hs⟩ : ∃ s, s = w.heap.size := ⟨_, rfl⟩
  rw [← hs] at y3 y4 y5 y6 hFl hLl hFl2 hLl2 hNl hbb hs1 ⊢
  have HS := Lib.hid hs
  clear hs
  have hbl := fun i (hi : i < M) => hN1.blt hM hi
  go_cut [7] from 14 to 26 (fun t7 wz => ∃ X F cf L cl : Nat, t7 = .pointer (some ⟨X, 0, none⟩) ∧ Bx wz X 79 #[.bool (a.e && b.e), .slice (some ⟨F, 0, none⟩) n cf, .slice (some ⟨L, 0, none⟩) n cl] ∧ BRow wz F a.f ∧ BRow wz L b.l ∧ W1.heap.size ≤ F ∧ W1.heap.size ≤ L ∧ W1.heap.size ≤ X ∧ F ≠ L ∧ X ≠ F ∧ X ≠ L ∧ Below W1.heap.size W1 wz)
  case first =>
    have c4 := fun p => AX.cell_all y4.three.1 y4.lt p; have c4' := fun p => AX.cell_all y4.three.2.1 y4.lt p; have c5 := fun p => AX.cell_all y5.three.1 y5.lt p; have c5' := fun p => AX.cell_all y5.three.2.2 y5.lt p
    have hcla := fun W (hb : Below W1.heap.size W1 W) => clone_k Fa n cfa a.f hfa hn1 hn W (hFa1.below hb hFa1.lt)
    have hclb := fun W (hb : Below W1.heap.size W1 W) => clone_k Lb n clb b.l hlb hn1 hn W (hLb1.below hb hLb1.lt)
    have hW : Below W1.heap.size W1 W1.drew := (Below.refl _ W1).drew
    obtain ⟨ae, af, al⟩ := a
    obtain ⟨be, bf, bl⟩ := b
    dsimp only at *
    clear y3 y4 y5 y6 hap hlM hbb hbl
    cases ae
    all_goals
      refine AX.region_tree (C := fun W => ∃ p : AX.BW W1, W = p.W) plan56_2 inf56_2 (by kernel_rfl) (by kernel_rfl) (by kernel_rfl) fit56_2 (by intro c a d v w h; cases d <;> exact h) ⟨⟨W1.drew, hW⟩, rfl⟩ ?_
      unfold plan56_2
      generalize W1.drew = Wd at *
      repeat (refine AX.tree_plain _ (by rfl) ?_; go_big_quiet_step (fail); refine wpQuiet_nil ?_)
      refine ⟨?_, ?_⟩
      · refine AX.tree_call (hcla _ hW) (by rfl) (by rfl) (by rfl) Tryd.func67 (by kernel_rfl) (by rfl) (by simp only [List.map_toArray, List.map_cons, List.map_nil]; rfl) ?_
        rintro e W2 ⟨⟨F, cf, rfl, gF, rF⟩, hb2⟩
        have hW2 : Below W1.heap.size W1 W2 := hW.trans (hb2.mono hW.size)
        have sF := hW.size
        refine ⟨_, rfl, ⟨⟨W2, hW2⟩, rfl⟩, ?_⟩
        simp only [Act.put, List.setIfInBounds_toArray, List.set_cons_succ, List.set_cons_zero]
        refine ⟨?_, ?_⟩
        · refine AX.tree_call (hclb _ hW2) (by rfl) (by rfl) (by rfl) Tryd.func67 (by kernel_rfl) (by rfl) (by simp only [List.map_toArray, List.map_cons, List.map_nil]; rfl) ?_
          rintro e W3 ⟨⟨L, cl, rfl, gL, rL⟩, hb3⟩
          have hW3 : Below W1.heap.size W1 W3 := hW2.trans (hb3.mono hW2.size)
          have sL := hW2.size
          have qF := rF.lt
          replace rF := rF.below hb3 rF.lt
          refine ⟨_, rfl, ⟨⟨W3, hW3⟩, rfl⟩, ?_⟩
          simp only [Act.put, List.setIfInBounds_toArray, List.set_cons_succ, List.set_cons_zero]
          refine AX.tree_plain _ (by rfl) ?_; go_big_quiet_step (fail); refine wpQuiet_nil ?_
          refine AX.tree_op _ (by rfl) (by rfl) ?_
          unfold Oper.wp
          go_simp
          have rX := Bx.new W3 79 #[.bool false, .slice none 0 0, .slice none 0 0]
          have hb4 : Below W3.heap.size W3 (W3.alloc (.cells #[.bool false, .slice none 0 0, .slice none 0 0] 79)) := (Below.refl _ _).alloc (Nat.le_refl _) _
          have hW4 : Below W1.heap.size W1 (W3.alloc (.cells #[.bool false, .slice none 0 0, .slice none 0 0] 79)) := hW3.trans (hb4.mono hW3.size)
          have qF := rF.lt
          replace rF := rF.below hb4 rF.lt
          have qL := rL.lt
          replace rL := rL.below hb4 rL.lt
          have sX := hW3.size
          obtain ⟨X, hX⟩ : ∃ X, X = W3.heap.size := ⟨_, rfl⟩
          generalize W3.alloc (.cells #[.bool false, .slice none 0 0, .slice none 0 0] 79) = W4 at *
          rw [← hX] at rX ⊢
          refine ⟨⟨⟨W4, hW4⟩, rfl⟩, ?_⟩
          refine AX.tree_op _ (by rfl) (by rfl) ?_
          refine AX.oper_storeBox (vs := [.bool _, .slice (some ⟨F, 0, none⟩) n cf, .slice (some ⟨L, 0, none⟩) n cl]) rfl rfl sz79 rX rfl rfl ?_
          rintro W9 h3 h4 h5
          have qF := rF.lt
          have qL := rL.lt
          have hW9 : Below W1.heap.size W1 W9 := hW4.trans (AX.below_turn (show W1.heap.size ≤ X by omega) (.inl (Array.getElem?_eq_some_iff.1 h3).1) h4 h5)
          refine ⟨⟨⟨W9, hW9⟩, rfl⟩, ?_⟩
          unfold AX.wpTree
          go_wp2_with fail
          go_meet
          case rel => exact ⟨X, F, cf, L, cl, rfl, h3, rF.same (h4 _ (by omega)), rL.same (h4 _ (by omega)), by omega, by omega, by omega, by omega, by omega, by omega, hW9⟩
        · refine AX.tree_op _ (by rfl) (by rfl) ?_
          unfold Oper.wp
          go_simp
          have rX := Bx.new W2 79 #[.bool false, .slice none 0 0, .slice none 0 0]
          have hb3 : Below W2.heap.size W2 (W2.alloc (.cells #[.bool false, .slice none 0 0, .slice none 0 0] 79)) := (Below.refl _ _).alloc (Nat.le_refl _) _
          have hW3 : Below W1.heap.size W1 (W2.alloc (.cells #[.bool false, .slice none 0 0, .slice none 0 0] 79)) := hW2.trans (hb3.mono hW2.size)
          have qF := rF.lt
          replace rF := rF.below hb3 rF.lt
          have sX := hW2.size
          obtain ⟨X, hX⟩ : ∃ X, X = W2.heap.size := ⟨_, rfl⟩
          generalize W2.alloc (.cells #[.bool false, .slice none 0 0, .slice none 0 0] 79) = W3 at *
          rw [← hX] at rX ⊢
          refine ⟨⟨⟨W3, hW3⟩, rfl⟩, ?_⟩
          refine AX.tree_call (hclb _ hW3) (by rfl) (by rfl) (by rfl) Tryd.func67 (by kernel_rfl) (by rfl) (by simp only [List.map_toArray, List.map_cons, List.map_nil]; rfl) ?_
          rintro e W4 ⟨⟨L, cl, rfl, gL, rL⟩, hb4⟩
          have hW4 : Below W1.heap.size W1 W4 := hW3.trans (hb4.mono hW3.size)
          have sL := hW3.size
          have qF := rF.lt
          replace rF := rF.below hb4 rF.lt
          have qX := rX.lt
          replace rX := rX.below hb4 rX.lt
          refine ⟨_, rfl, ⟨⟨W4, hW4⟩, rfl⟩, ?_⟩
          simp only [Act.put, List.setIfInBounds_toArray, List.set_cons_succ, List.set_cons_zero]
          refine AX.tree_plain _ (by rfl) ?_; go_big_quiet_step (fail); refine wpQuiet_nil ?_
          refine AX.tree_op _ (by rfl) (by rfl) ?_
          refine AX.oper_storeBox (vs := [.bool _, .slice (some ⟨F, 0, none⟩) n cf, .slice (some ⟨L, 0, none⟩) n cl]) rfl rfl sz79 rX rfl rfl ?_
          rintro W9 h3 h4 h5
          have qF := rF.lt
          have qL := rL.lt
          have hW9 : Below W1.heap.size W1 W9 := hW4.trans (AX.below_turn (show W1.heap.size ≤ X by omega) (.inl (Array.getElem?_eq_some_iff.1 h3).1) h4 h5)
          refine ⟨⟨⟨W9, hW9⟩, rfl⟩, ?_⟩
          unfold AX.wpTree
          go_wp2_with fail
          go_meet
          case rel => exact ⟨X, F, cf, L, cl, rfl, h3, rF.same (h4 _ (by omega)), rL.same (h4 _ (by omega)), by omega, by omega, by omega, by omega, by omega, by omega, hW9⟩
      · refine AX.tree_op _ (by rfl) (by rfl) ?_
        unfold Oper.wp
        go_simp
        have rX := Bx.new Wd 79 #[.bool false, .slice none 0 0, .slice none 0 0]
        have hb2 : Below Wd.heap.size Wd (Wd.alloc (.cells #[.bool false, .slice none 0 0, .slice none 0 0] 79)) := (Below.refl _ _).alloc (Nat.le_refl _) _
        have hW2 : Below W1.heap.size W1 (Wd.alloc (.cells #[.bool false, .slice none 0 0, .slice none 0 0] 79)) := hW.trans (hb2.mono hW.size)
        have sX := hW.size
        obtain ⟨X, hX⟩ : ∃ X, X = Wd.heap.size := ⟨_, rfl⟩
        generalize Wd.alloc (.cells #[.bool false, .slice none 0 0, .slice none 0 0] 79) = W2 at *
        rw [← hX] at rX ⊢
        refine ⟨⟨⟨W2, hW2⟩, rfl⟩, ?_⟩
        refine AX.tree_call (hcla _ hW2) (by rfl) (by rfl) (by rfl) Tryd.func67 (by kernel_rfl) (by rfl) (by simp only [List.map_toArray, List.map_cons, List.map_nil]; rfl) ?_
        rintro e W3 ⟨⟨F, cf, rfl, gF, rF⟩, hb3⟩
        have hW3 : Below W1.heap.size W1 W3 := hW2.trans (hb3.mono hW2.size)
        have sF := hW2.size
        have qX := rX.lt
        replace rX := rX.below hb3 rX.lt
        refine ⟨_, rfl, ⟨⟨W3, hW3⟩, rfl⟩, ?_⟩
        simp only [Act.put, List.setIfInBounds_toArray, List.set_cons_succ, List.set_cons_zero]
        refine AX.tree_call (hclb _ hW3) (by rfl) (by rfl) (by rfl) Tryd.func67 (by kernel_rfl) (by rfl) (by simp only [List.map_toArray, List.map_cons, List.map_nil]; rfl) ?_
        rintro e W4 ⟨⟨L, cl, rfl, gL, rL⟩, hb4⟩
        have hW4 : Below W1.heap.size W1 W4 := hW3.trans (hb4.mono hW3.size)
        have sL := hW3.size
        have qX := rX.lt
        replace rX := rX.below hb4 rX.lt
        have qF := rF.lt
        replace rF := rF.below hb4 rF.lt
        refine ⟨_, rfl, ⟨⟨W4, hW4⟩, rfl⟩, ?_⟩
        simp only [Act.put, List.setIfInBounds_toArray, List.set_cons_succ, List.set_cons_zero]
        refine AX.tree_plain _ (by rfl) ?_; go_big_quiet_step (fail); refine wpQuiet_nil ?_
        refine AX.tree_op _ (by rfl) (by rfl) ?_
        refine AX.oper_storeBox (vs := [.bool _, .slice (some ⟨F, 0, none⟩) n cf, .slice (some ⟨L, 0, none⟩) n cl]) rfl rfl sz79 rX rfl rfl ?_
        rintro W9 h3 h4 h5
        have qF := rF.lt
        have qL := rL.lt
        have hW9 : Below W1.heap.size W1 W9 := hW4.trans (AX.below_turn (show W1.heap.size ≤ X by omega) (.inl (Array.getElem?_eq_some_iff.1 h3).1) h4 h5)
        refine ⟨⟨⟨W9, hW9⟩, rfl⟩, ?_⟩
        unfold AX.wpTree
        go_wp2_with fail
        go_meet
        case rel => exact ⟨X, F, cf, L, cl, rfl, h3, rF.same (h4 _ (by omega)), rL.same (h4 _ (by omega)), by omega, by omega, by omega, by omega, by omega, by omega, hW9⟩
  case rest =>
    obtain ⟨X, F, cf, L, cl, rfl, hX, hF, hL, hgF, hgL, hgX, hFL, hXF, hXL, hz⟩ := hcut
    have z4 := y4.below hz y4.lt
    have z5 := y5.below hz y5.lt
    have z6 := y6.below hz y6.lt
    have hLa2 := hLa1.below hz hLa1.lt
    have hFb2 := hFb1.below hz hFb1.lt
    have hz2 : Below s W1 wc := hz.mono (by omega)
    clear y3 y4 y5 y6 hFa1 hLa1 hFb1 hLb1 hz
    have hor1 := fun W (h1 : BRow W F a.f) (h2 : BRow W Fb b.f) => or_k F Fb cf cfb n a.f b.f (by omega) hfa hfb hn W h1 h2
    have hor2 := fun W (h1 : BRow W L b.l) (h2 : BRow W La a.l) => or_k L La cl cla n b.l a.l (by omega) hlb hla hn W h1 h2
    obtain ⟨f0, f1, f2⟩ := z4.three
    obtain ⟨g0, g1, g2⟩ := z5.three
    obtain ⟨ae, af, al⟩ := a
    obtain ⟨be, bf, bl⟩ := b
    dsimp only [catE] at *
    obtain ⟨x0, x1, x2⟩ := hX.three
    have HE : Hid (∀ W, Below s W1 W → NAt W NB n M bs (folS nx al bf) ∧ ButS (fun k => ∃ i, i < M ∧ k = bs i) w W) := Lib.hid fun W h => ⟨hN1.below h hNl hbb, ⟨hbu1.low.trans (h.mono (Nat.zero_le _)), fun k hk hn => (h.block k (by rw [HS.out]; exact hk)).trans (hbu1.same k hk hn)⟩⟩
    have HG : Hid (w.heap.size ≤ F ∧ w.heap.size ≤ L) := Lib.hid (by have := HS.out; omega)
    cases ae <;> cases be
    all_goals
      go_wp2_with (first
        | (go_at_call 38; (with_reducible refine (hor1 _ hF hFb2).mono ?_); rintro e W2 ⟨rfl, hF2, hbF⟩; have hz2 := hz2.trans (but_below hbF (by omega) (by have := hz2.size; omega)); have z4 := z4.but hbF (by omega); have z5 := z5.but hbF (by omega); have z6 := z6.but hbF (by omega); have hX := hX.but hbF (by omega); have hF := hF2; have hL := hL.but hbF (by omega); have hLa2 := hLa2.but hbF (by omega); obtain ⟨x0, x1, x2⟩ := hX.three; obtain ⟨f0, f1, f2⟩ := z4.three; obtain ⟨g0, g1, g2⟩ := z5.three)
        | (go_at_call 38; (with_reducible refine (hor2 _ hL hLa2).mono ?_); rintro e W2 ⟨rfl, hL2, hbL⟩; have hz2 := hz2.trans (but_below hbL (by omega) (by have := hz2.size; omega)); have z4 := z4.but hbL (by omega); have z5 := z5.but hbL (by omega); have z6 := z6.but hbL (by omega); have hX := hX.but hbL (by omega); have hL := hL2; have hF := hF.but hbL (by omega); obtain ⟨x0, x1, x2⟩ := hX.three; obtain ⟨f0, f1, f2⟩ := z4.three; obtain ⟨g0, g1, g2⟩ := z5.three)
        | ((with_reducible refine st_id ?_); refine AX.wpList_storeBox (vs := [.bool _, .slice (some ⟨F, 0, none⟩) n cf, .slice (some ⟨L, 0, none⟩) n cl]) rfl rfl sz79 z6 rfl rfl ?_; rintro W9 h3 h4 h5; have hz9 := HE.out _ (hz2.trans (AX.below_turn (show s ≤ s + 1 + 1 + 1 by omega) (.inl (Array.getElem?_eq_some_iff.1 h3).1) h4 h5)); have hF9 := hF.same (h4 _ (by omega)); have hL9 := hL.same (h4 _ (by omega)); obtain ⟨d0, d1, d2⟩ := Bx.three h3))
      refine bodyPost_ret (v := .agg #[_, .slice (some ⟨F, 0, none⟩) n cf, .slice (some ⟨L, 0, none⟩) n cl]) (by simp [results, Tryd.results56, go_sem, d0, d1, d2]; rfl) rfl ⟨⟨F, cf, L, cl, rfl, HG.out.1, HG.out.2, hFL, hF9, hL9⟩, hz9.1, hz9.2⟩
end Go.Proofs.YtpbkgegkjglibaaDoor

namespace Go.Proofs.YtpbkgegkjglibaaDoor
open Go Go.Proofs Go.RowKit
attribute [local go_sem] Oper.semAt_some

structure EnWf (n M : Nat) (x : En) : Prop where
  lf : x.f.length = n
  ll : x.l.length = n
  lm : ∀ p, mem x.l p → p < M
theorem catE_wf {n M : Nat} {a b : En} (ha : EnWf n M a) (hb : EnWf n M b) : EnWf n M (catE a b) := by
  refine ⟨?_, ?_, ?_⟩
  · show (if a.e = true then orS a.f b.f else a.f).length = n
    split
    · rw [len_orS (by rw [ha.lf, hb.lf]), ha.lf]
    · exact ha.lf
  · show (if b.e = true then orS b.l a.l else b.l).length = n
    split
    · rw [len_orS (by rw [ha.ll, hb.ll]), hb.ll]
    · exact hb.ll
  · intro p hp
    change mem (if b.e = true then orS b.l a.l else b.l) p at hp
    split at hp
    · rw [mem_orS (by rw [ha.ll, hb.ll])] at hp
      exact hp.elim (hb.lm p) (ha.lm p)
    · exact hb.lm p hp
theorem altE_wf {n M : Nat} {a b : En} (ha : EnWf n M a) (hb : EnWf n M b) : EnWf n M (altE a b) :=
  ⟨by show (orS a.f b.f).length = n; rw [len_orS (by rw [ha.lf, hb.lf]), ha.lf], by show (orS a.l b.l).length = n; rw [len_orS (by rw [ha.ll, hb.ll]), ha.ll], fun p hp => by
    change mem (orS a.l b.l) p at hp
    rw [mem_orS (by rw [ha.ll, hb.ll])] at hp
    exact hp.elim (ha.lm p) (hb.lm p)⟩
theorem zero_wf (n M : Nat) (e : Bool) : EnWf n M ⟨e, zeros n, zeros n⟩ := ⟨by simp [zeros], by simp [zeros], fun p hp => (mem_zeros n p hp).elim⟩

/-- Ends that are read; none of their sets is one of those that may come next. -/
def EAt (W : World) (ev : Value) (n M : Nat) (bs : Nat → Nat) (es : List En) : Prop := ∃ (la : Option Addr) (c : Nat), ev = .slice la es.length c ∧ ∀ j x, es[j]? = some x → ∃ B off F cf L cl, la = some ⟨B, off, none⟩ ∧ B < W.heap.size ∧ (∀ i, i < M → bs i ≠ B) ∧
  (W.cell? ⟨B, off + j * 3, none⟩ = some (.bool x.e) ∧ W.cell? ⟨B, off + j * 3 + 1, none⟩ = some (.slice (some ⟨F, 0, none⟩) n cf) ∧ W.cell? ⟨B, off + j * 3 + 2, none⟩ = some (.slice (some ⟨L, 0, none⟩) n cl)) ∧ BRow W F x.f ∧ BRow W L x.l ∧ (∀ i, i < M → bs i ≠ F ∧ bs i ≠ L)
theorem cell_same {W W' : World} {B o : Nat} (h : W'.heap[B]? = W.heap[B]?) : W'.cell? ⟨B, o, none⟩ = W.cell? ⟨B, o, none⟩ := by simp [World.cell?, h]
theorem EAt.buts {W W' : World} {ev : Value} {n M : Nat} {bs : Nat → Nat} {es : List En} (h : EAt W ev n M bs es) (hb : ButS (fun k => ∃ i, i < M ∧ k = bs i) W W') : EAt W' ev n M bs es := by
  obtain ⟨la, c, e, h⟩ := h
  refine ⟨la, c, e, fun j x hj => ?_⟩
  obtain ⟨B, off, F, cf, L, cl, h1, h2, h3, ⟨h4, h5, h6⟩, h7, h8, h9⟩ := h j x hj
  have e1 := hb.same B h2 (by rintro ⟨i, hi, e⟩; exact h3 i hi e.symm)
  exact ⟨B, off, F, cf, L, cl, h1, Nat.lt_of_lt_of_le h2 hb.low.size, h3, ⟨(cell_same e1).trans h4, (cell_same e1).trans h5, (cell_same e1).trans h6⟩, h7.buts hb (by rintro ⟨i, hi, e⟩; exact (h9 i hi).1 e.symm), h8.buts hb (by rintro ⟨i, hi, e⟩; exact (h9 i hi).2 e.symm), h9⟩
theorem EAt.below {W W' : World} {ev : Value} {n M m : Nat} {bs : Nat → Nat} {es : List En} (h : EAt W ev n M bs es) (hm : W.heap.size ≤ m) (hb : Below m W W') : EAt W' ev n M bs es := by
  obtain ⟨la, c, e, h⟩ := h
  refine ⟨la, c, e, fun j x hj => ?_⟩
  obtain ⟨B, off, F, cf, L, cl, h1, h2, h3, ⟨h4, h5, h6⟩, h7, h8, h9⟩ := h j x hj
  have e1 := hb.block B (by omega)
  exact ⟨B, off, F, cf, L, cl, h1, Nat.lt_of_lt_of_le h2 hb.size, h3, ⟨(cell_same e1).trans h4, (cell_same e1).trans h5, (cell_same e1).trans h6⟩, h7.below hb (by have := h7.lt; omega), h8.below hb (by have := h8.lt; omega), h9⟩
theorem mk_set (n : Nat) (hn : n ≤ 1000) (w : World) : ∃ W0, (Instr.makeSlice 77 (.int .i64 n) (.int .i64 n)).run Tryd.prog w = .ok (.slice (some ⟨w.heap.size, 0, none⟩) n n) W0 ∧ BRow W0 w.heap.size (zeros n) ∧ Below w.heap.size w W0 ∧ W0.heap.size = w.heap.size + 1 := by
  obtain ⟨ti, hi, hz0, hz1, hz2⟩ := info_parts info4'
  have h := run_makeSlice (P := Tryd.prog) (w := w) 77 4 ti (.bool false) Tryd.underlying77 hi hz0 .i64 .i64 (n : Int) (n : Int) (by omega) (Int.le_refl _) (by rw [hz1]; simp; omega) (by rw [hz2]; omega) (by omega)
  refine ⟨_, by rw [Int.toNat_natCast] at h; exact h, ⟨_, World.alloc_heap_new w _, fun i b hb => ?_⟩, (Below.refl _ w).alloc (Nat.le_refl _) _, by simp⟩
  have hi' := lt_of_some hb
  rw [zeros, List.length_replicate] at hi'
  show (madeCells #[Value.bool false] (n * ti.size))[i]? = _
  rw [hz1, Nat.mul_one]
  have := made_get (.bool false) n i hi'
  rw [zeros, List.getElem?_replicate, if_pos hi'] at hb
  rw [← Option.some.inj hb]
  exact this
theorem oper_make {Q : Exit → Act → World → Prop} {K : Act → World → Prop} {a : Act} {w w' : World} {d : Option Tmp} {t : TypeId} {x y : Operand} {ty : TypeId} {pos : String} {after : Array Edge} {g : Option (Nat × Bool)} {v1 v2 v : Value} (h1 : a.eval x = v1) (h2 : a.eval y = v2) (h : (Instr.makeSlice t v1 v2).run Tryd.prog w = .ok v w') (hK : K (a.put d v) w') :
    Oper.wp Tryd.prog { dst := d, op := .makeSlice t x y, type := ty, pos := pos, after := after, guard := g } a w K Q := by
  unfold Oper.wp
  simp only [execOp, h1, h2]
  rw [show (do let x ← Instr.makeSlice t v1 v2; pure (Next.value x) : Sem Next).run Tryd.prog w = .ok (.value v) w' by simp [h]]
  exact hK
/-- What a node's walk keeps. -/
structure Nst (w0 w W : World) (s NB n i c cr B off : Nat) (bs : Nat → Nat) (ev kv : Value) (x : Nd) (nx : List (List Bool)) : Prop where
  b2 : Bx W s 75 #[.slice (some ⟨B, off, none⟩) n cr, ev, .slice (some ⟨NB, 0, none⟩) n c]
  b4 : Bx W (s + 1) 79 #[.bool false, .slice none 0 0, .slice none 0 0]
  b5 : Bx W (s + 1 + 1) 45 #[.int .i64 x.k, .int .u64 x.a, .int .u64 x.b, .int .u64 x.c, .int .u64 x.d, kv]
  nat : NAt W NB n (i + 1) bs nx
  but : ButS (fun k => ∃ j, j < i + 1 ∧ k = bs j) w W
  low : Below w0.heap.size w0 W
theorem Nst.step {w0 w W W' : World} {s NB n i c cr B off : Nat} {bs : Nat → Nat} {ev kv : Value} {x : Nd} {nx nx' : List (List Bool)} (h : Nst w0 w W s NB n i c cr B off bs ev kv x nx) (hbb : ∀ j, j < i + 1 → bs j < s) (hbs : ∀ j, j < i + 1 → w0.heap.size ≤ bs j)
    (hb : ButS (fun k => ∃ j, j < i + 1 ∧ k = bs j) W W') (hN : NAt W' NB n (i + 1) bs nx') : Nst w0 w W' s NB n i c cr B off bs ev kv x nx' :=
  ⟨h.b2.buts hb (by rintro ⟨j, hj, e⟩; have := hbb j hj; omega), h.b4.buts hb (by rintro ⟨j, hj, e⟩; have := hbb j hj; omega), h.b5.buts hb (by rintro ⟨j, hj, e⟩; have := hbb j hj; omega), hN, h.but.trans hb, h.low.trans (hb.below h.low.size (by rintro k ⟨j, hj, rfl⟩; exact hbs j hj))⟩
theorem Nst.turn {w0 w W W' : World} {s NB n i c cr B off X : Nat} {bs : Nat → Nat} {ev kv : Value} {x : Nd} {nx : List (List Bool)} (h : Nst w0 w W s NB n i c cr B off bs ev kv x nx) (hbb : ∀ j, j < i + 1 → bs j < s) (hNB : NB < s) (hs : w.heap.size ≤ s) (hw : w0.heap.size ≤ s)
    (hX : s + 1 + 1 < X) (hl : X < W'.heap.size) (h4 : ∀ k, k ≠ X → W'.heap[k]? = W.heap[k]?) (h5 : AX.Same W W') : Nst w0 w W' s NB n i c cr B off bs ev kv x nx :=
  ⟨(h4 _ (by omega)).trans h.b2, (h4 _ (by omega)).trans h.b4, (h4 _ (by omega)).trans h.b5, h.nat.same (h4 _ (by omega)) (fun j hj => h4 _ (by have := hbb j hj; omega)),
   ⟨h.but.low.trans (AX.below_turn (Nat.zero_le _) (.inl hl) h4 h5), fun k hk hn => (h4 k (by omega)).trans (h.but.same k hk hn)⟩, h.low.trans (AX.below_turn (by omega) (.inl hl) h4 h5)⟩
theorem Nst.below {w0 w W W' : World} {s NB n i c cr B off : Nat} {bs : Nat → Nat} {ev kv : Value} {x : Nd} {nx : List (List Bool)} (h : Nst w0 w W s NB n i c cr B off bs ev kv x nx) (hbb : ∀ j, j < i + 1 → bs j < s) (hb : Below W.heap.size W W') : Nst w0 w W' s NB n i c cr B off bs ev kv x nx :=
  ⟨h.b2.below hb h.b2.lt, h.b4.below hb h.b4.lt, h.b5.below hb h.b5.lt, h.nat.below hb h.nat.lt (fun j hj => by have := hbb j hj; have := h.b2.lt; omega), h.but.trans (.of_below hb), h.low.trans (hb.mono h.low.size)⟩
theorem Nst.lift {w0 w W W' : World} {s NB n i c cr B off : Nat} {bs : Nat → Nat} {ev kv : Value} {x : Nd} {nx : List (List Bool)} (h : Nst w0 w W s NB n i c cr B off bs ev kv x nx) (hbb : ∀ j, j < i + 1 → bs j < s) (hNB : NB < s) (hs : w.heap.size ≤ s) (hw : w0.heap.size ≤ s) (hb : Below (s + 3) W W') : Nst w0 w W' s NB n i c cr B off bs ev kv x nx :=
  ⟨h.b2.below hb (by omega), h.b4.below hb (by omega), h.b5.below hb (by omega), h.nat.below hb (by omega) (fun j hj => by have := hbb j hj; omega),
   ⟨h.but.low.trans (hb.mono (Nat.zero_le _)), fun k hk hn => (hb.block k (by omega)).trans (h.but.same k hk hn)⟩, h.low.trans (hb.mono (by omega))⟩
theorem sz43b : AX.sizeT Tryd.prog 43 = some 1 := sz43
def plan36_2 : AX.Plan := .plain 0 (.plain 1 (.plain 2 (.plain 3 (.plain 4 (.plain 5 (.plain 6 (.plain 7 (.plain 8 (.plain 9 (.plain 10 (.plain 12 (.plain 13 (.plain 14 (.three 11 (.two 15 (.plain 16 (.one 17 (.one 18 (.nil)))) 17 (.one 15 (.plain 16 (.one 18 (.nil))))) 15 (.two 11 (.plain 16 (.one 17 (.one 18 (.nil)))) 17 (.one 11 (.plain 16 (.one 18 (.nil))))) 17 (.two 11 (.one 15 (.plain 16 (.one 18 (.nil)))) 15 (.one 11 (.plain 16 (.one 18 (.nil)))))))))))))))))))
def inf36_2 : List AX.Inf := [⟨0, 65536, 32, true⟩, ⟨1, 131072, 65536, true⟩, ⟨2, 262144, 131072, true⟩, ⟨4, 524288, 262144, true⟩, ⟨8, 1048576, 524320, true⟩, ⟨24, 2097152, 1572864, true⟩, ⟨40, 4194304, 2621440, true⟩, ⟨72, 8388608, 4718592, true⟩, ⟨0, 16777216, 4, true⟩, ⟨256, 33554432, 16777216, true⟩, ⟨512, 67108864, 33554432, true⟩, ⟨1024, 134217728, 67108864, false⟩, ⟨0, 268435456, 4, true⟩, ⟨4096, 536870912, 268435456, true⟩, ⟨8192, 1073741824, 536870912, true⟩, ⟨16384, 2147483648, 1073741824, false⟩, ⟨34944, 4294967296, 2290089984, true⟩, ⟨0, 64, 0, false⟩, ⟨262143, 0, 4294967360, false⟩]
theorem fit36_2 : AX.planF inf36_2 plan36_2 0 19 = true := by kernel_rfl
end Go.Proofs.YtpbkgegkjglibaaDoor
