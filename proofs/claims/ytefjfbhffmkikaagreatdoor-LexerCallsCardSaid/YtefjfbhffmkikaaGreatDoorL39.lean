/- LexerCalls: the law, at every input, over lives(). -/
import Derived.Test.YtefjfbhffmkikaaGreatDoorL26
import Derived.Test.YtefjfbhffmkikaaGreatDoorL35
import Derived.Test.YtefjfbhffmkikaaGreatDoorRg3
import Derived.Test.YtefjfbhffmkikaaGreatDoorL31
import Derived.Test.YtefjfbhffmkikaaGreatDoorL16
namespace Go.Proofs.YtefjfbhffmkikaaGreatDoor
open Go Go.Proofs Go.RowKit
attribute [local go_sem] Oper.semAt_some
set_option maxRecDepth 100000 in
set_option maxHeartbeats 1000000 in
theorem same_nil (a b : Option Addr) (ca cb : Nat) (w : World) : Calls Tryz.prog 14 #[.slice a 0 ca, .slice b 0 cb] w fun e w' => e = .returned (.bool true) ∧ Below w.heap.size w w' := by
  go_enter Tryz.func14, Tryz.ntmps14
  go_wp2
  go_loopw [5] (fun i wr => i = .int .i64 0 ∧ wr = w) (fun _ _ => 0)
  case atStart => exact ⟨rfl, rfl⟩
  case round =>
    obtain ⟨rfl, rfl⟩ := hrel
    go_wp2
    go_ret
    exact ⟨rfl, Below.refl _ _⟩
theorem row_some {w : World} {base : Nat} {e : TypeId} {k : Nat} {v : Value} {n : Nat} {xs : List Value} (h : w.ownsRow base e k v n xs) (hn : 0 < n) : ∃ g c, v = .slice (some ⟨g, 0, none⟩) n c := by
  rcases h.2 with ⟨_, h0⟩ | ⟨g, cap, cur, rfl, _⟩
  · omega
  · exact ⟨g, cap, rfl⟩
theorem sameT {w : World} {b1 b2 : Nat} {v1 v2 : Value} {l : List Tk} (hl : l.length ≤ 1000000) (h1 : TRow w b1 v1 l) (h2 : TRow w b2 v2 l) : Calls Tryz.prog 14 #[v1, v2] w fun e w' => e = .returned (.bool true) ∧ Below w.heap.size w w' := by
  cases l with
  | nil =>
    obtain ⟨a, c, rfl⟩ := row_shape h1
    obtain ⟨a', c', rfl⟩ := row_shape h2
    exact same_nil a a' c c' w
  | cons x l =>
    obtain ⟨g, c, rfl⟩ := row_some h1 (by simp)
    obtain ⟨g', c', rfl⟩ := row_some h2 (by simp)
    exact same_k _ hl w _ _ _ _ _ _ h1 h2
theorem eq30 (a b c d e : Int) (W : World) : (binOp .eql 30 (.agg #[.int .i64 a, .int .i64 b, .int .i64 c, .int .i64 d, .int .i64 e]) (.agg #[.int .i64 a, .int .i64 b, .int .i64 c, .int .i64 d, .int .i64 e])).run Tryz.prog W = .ok (.bool true) W := by
  simp [go_sem]
theorem TRow.below {W W' : World} {b : Nat} {v : Value} {l : List Tk} (h : TRow W b v l) (hb : Below W.heap.size W W') : TRow W' b v l := row_at_below h hb (fun g e => (World.ownsRow.lt h g e).2)
end Go.Proofs.YtefjfbhffmkikaaGreatDoor

namespace Go.Proofs.YtefjfbhffmkikaaGreatDoor
open Go Go.Proofs Go.RowKit
attribute [local go_sem] Oper.semAt_some
/-- What is kept over the law's calls: its two lexers' boxes. -/
structure Lw (w W : World) (cl co : Array Value) : Prop where
  b : Below w.heap.size w W
  d : Bx W w.heap.size 26 cl
  e : Bx W (w.heap.size + 1) 26 co
theorem Lw.below {w W W' : World} {cl co : Array Value} (h : Lw w W cl co) (hb : Below W.heap.size W W') : Lw w W' cl co := ⟨h.b.trans (hb.mono h.b.size), h.d.below hb h.d.lt, h.e.below hb h.e.lt⟩
section
variable {next rule kind next' rule' kind' : List Int} {kinds kinds' : Int} {an ar ak bn br bk : Option Addr} {cn cr ck dn dr dk : Nat} {w : World}
theorem Lw.new (cl co : Array Value) (w : World) : Lw w ((w.alloc (.cells cl 26)).alloc (.cells co 26)) cl co :=
  ⟨((Below.refl _ w).alloc (Nat.le_refl _) _).alloc (by simp) _, (Bx.new w 26 cl).alloc _, by have := Bx.new (w.alloc (.cells cl 26)) 26 co; rwa [World.size_alloc] at this⟩
set_option maxRecDepth 100000 in
set_option maxHeartbeats 8000000 in
theorem law_in (s : ByteArray) (at_ k : Int) (a0 a1 a2 a3 a4 e1 e2 e3 e4 e5 e6 : Int) (e7 : Bool) (t1 : ByteArray) (RA RB : List Tk)
    (hL : ∀ W, Below w.heap.size w W → Calls Tryz.prog 4 #[] W fun e w' => e = .returned (.bool true) ∧ Below W.heap.size W w')
    (h5 : ∀ W, Calls Tryz.prog 5 #[.agg #[.slice an next.length cn, .slice ar rule.length cr, .slice ak kind.length ck, .int .i64 kinds]] W fun e w' => e = .returned (.bool true) ∧ Below W.heap.size W w')
    (h5' : ∀ W, Calls Tryz.prog 5 #[.agg #[.slice bn next'.length dn, .slice br rule'.length dr, .slice bk kind'.length dk, .int .i64 kinds']] W fun e w' => e = .returned (.bool true) ∧ Below W.heap.size W w')
    (h60 : s.size ≤ 60) (hk9 : k ≤ 9) (hRA : RA.length ≤ 1000000) (hRB : RB.length ≤ 1000000)
    (h6 : ∀ W, Below w.heap.size w W → Calls Tryz.prog 6 #[.agg #[.slice an next.length cn, .slice ar rule.length cr, .slice ak kind.length ck, .int .i64 kinds], .string s, .int .i64 at_] W fun e w' => e = .returned (.tuple #[.agg #[.int .i64 a0, .int .i64 a1, .int .i64 a2, .int .i64 a3, .int .i64 a4], .int .i64 e1]) ∧ Below W.heap.size W w')
    (h7 : ∀ W, Below w.heap.size w W → Calls Tryz.prog 7 #[.agg #[.slice an next.length cn, .slice ar rule.length cr, .slice ak kind.length ck, .int .i64 kinds], .string s, .int .i64 at_] W fun e w' => e = .returned (.tuple #[.agg #[.int .i64 a0, .int .i64 a1, .int .i64 a2, .int .i64 a3, .int .i64 a4], .int .i64 e1]) ∧ Below W.heap.size W w')
    (h8 : ∀ W, Below w.heap.size w W → Calls Tryz.prog 8 #[.agg #[.slice an next.length cn, .slice ar rule.length cr, .slice ak kind.length ck, .int .i64 kinds], .string s] W fun e w' => (∃ v, e = .returned (.tuple #[v, .int .i64 e2]) ∧ TRow w' W.heap.size v RA) ∧ Below W.heap.size W w')
    (h9 : ∀ W, Below w.heap.size w W → Calls Tryz.prog 9 #[.agg #[.slice an next.length cn, .slice ar rule.length cr, .slice ak kind.length ck, .int .i64 kinds], .string s] W fun e w' => (∃ v, e = .returned (.tuple #[v, .int .i64 e2]) ∧ TRow w' W.heap.size v RA) ∧ Below W.heap.size W w')
    (h10 : ∀ W, Below w.heap.size w W → Calls Tryz.prog 10 #[.agg #[.slice an next.length cn, .slice ar rule.length cr, .slice ak kind.length ck, .int .i64 kinds], .string s, .int .i64 at_, .int .i64 k] W fun e w' => e = .returned (.tuple #[.string t1, .int .i64 e3, .int .i64 e4]) ∧ Below W.heap.size W w')
    (h11 : ∀ W, Below w.heap.size w W → Calls Tryz.prog 11 #[.agg #[.slice an next.length cn, .slice ar rule.length cr, .slice ak kind.length ck, .int .i64 kinds], .string s, .int .i64 at_, .int .i64 k] W fun e w' => e = .returned (.tuple #[.string t1, .int .i64 e3, .int .i64 e4]) ∧ Below W.heap.size W w')
    (h12 : ∀ W, Below w.heap.size w W → Calls Tryz.prog 12 #[.agg #[.slice an next.length cn, .slice ar rule.length cr, .slice ak kind.length ck, .int .i64 kinds], .string s, .int .i64 at_] W fun e w' => (∃ v, e = .returned (.tuple #[v, .bool true]) ∧ TRow w' W.heap.size v RB) ∧ Below W.heap.size W w')
    (h13 : ∀ W, Below w.heap.size w W → Calls Tryz.prog 13 #[.agg #[.slice an next.length cn, .slice ar rule.length cr, .slice ak kind.length ck, .int .i64 kinds], .string s, .int .i64 at_] W fun e w' => (∃ v, e = .returned (.tuple #[v, .int .i64 e5]) ∧ TRow w' W.heap.size v RB) ∧ Below W.heap.size W w')
    (h15 : ∀ W, Below w.heap.size w W → Calls Tryz.prog 15 #[.agg #[.slice an next.length cn, .slice ar rule.length cr, .slice ak kind.length ck, .int .i64 kinds]] W fun e w' => e = .returned (.int .i64 e6) ∧ Below W.heap.size W w')
    (h16 : ∀ W, Below w.heap.size w W → Calls Tryz.prog 16 #[.agg #[.slice an next.length cn, .slice ar rule.length cr, .slice ak kind.length ck, .int .i64 kinds]] W fun e w' => e = .returned (.int .i64 e6) ∧ Below W.heap.size W w')
    (h17 : ∀ W, Below w.heap.size w W → Calls Tryz.prog 17 #[.agg #[.slice an next.length cn, .slice ar rule.length cr, .slice ak kind.length ck, .int .i64 kinds], .agg #[.slice bn next'.length dn, .slice br rule'.length dr, .slice bk kind'.length dk, .int .i64 kinds']] W fun e w' => e = .returned (.bool e7) ∧ Below W.heap.size W w')
    (h18 : ∀ W, Below w.heap.size w W → Calls Tryz.prog 18 #[.agg #[.slice an next.length cn, .slice ar rule.length cr, .slice ak kind.length ck, .int .i64 kinds], .agg #[.slice bn next'.length dn, .slice br rule'.length dr, .slice bk kind'.length dk, .int .i64 kinds']] W fun e w' => e = .returned (.bool e7) ∧ Below W.heap.size W w') :
    Calls Tryz.prog 3 #[.agg #[.slice an next.length cn, .slice ar rule.length cr, .slice ak kind.length ck, .int .i64 kinds], .agg #[.slice bn next'.length dn, .slice br rule'.length dr, .slice bk kind'.length dk, .int .i64 kinds'], .string s, .int .i64 at_, .int .i64 k] w fun e w' => e = .returned (.bool true) ∧ Below w.heap.size w w' := by
  have E0 := Lw.new #[.slice an next.length cn, .slice ar rule.length cr, .slice ak kind.length ck, .int .i64 kinds] #[.slice bn next'.length dn, .slice br rule'.length dr, .slice bk kind'.length dk, .int .i64 kinds'] w
  have q1 : ¬ ((60 : Int) < (s.size : Int)) := by omega
  have q2 : ¬ ((9 : Int) < k) := by omega
  go_enter Tryz.func3, Tryz.ntmps3
  go_wp2_with fail
  generalize (w.alloc (.cells #[.slice an next.length cn, .slice ar rule.length cr, .slice ak kind.length ck, .int .i64 kinds] 26)).alloc (.cells #[.slice bn next'.length dn, .slice br rule'.length dr, .slice bk kind'.length dk, .int .i64 kinds'] 26) = W0 at *
  go_wp2_with (first
    | (go_at_call 4; ((with_reducible refine (hL _ E0.b).mono ?_); rintro e W1 ⟨rfl, hb1⟩; have E1 := E0.below hb1; have d0 := E1.d.cell 0; have d1 := E1.d.cell 1; have d2 := E1.d.cell 2; have d3 := E1.d.cell 3; have f0 := E1.e.cell 0; have f1 := E1.e.cell 1; have f2 := E1.e.cell 2; have f3 := E1.e.cell 3))
    | (go_at_call 5; ((with_reducible refine (h5 _).mono ?_); rintro e W2 ⟨rfl, hb2⟩; have E2 := E1.below hb2; clear d0 d1 d2 d3; clear f0 f1 f2 f3; have d0 := E2.d.cell 0; have d1 := E2.d.cell 1; have d2 := E2.d.cell 2; have d3 := E2.d.cell 3; have f0 := E2.e.cell 0; have f1 := E2.e.cell 1; have f2 := E2.e.cell 2; have f3 := E2.e.cell 3))
    | (go_at_call 5; ((with_reducible refine (h5' _).mono ?_); rintro e W3 ⟨rfl, hb3⟩; have E3 := E2.below hb3; clear d0 d1 d2 d3; clear f0 f1 f2 f3; have d0 := E3.d.cell 0; have d1 := E3.d.cell 1; have d2 := E3.d.cell 2; have d3 := E3.d.cell 3))
    | (go_at_call 6; ((refine (h6 _ E3.b).mono ?_); rintro e W4 ⟨rfl, hb4⟩; have E4 := E3.below hb4; clear d0 d1 d2 d3; have hX4 := Bx.new W4 30 #[.int .i64 0, .int .i64 0, .int .i64 0, .int .i64 0, .int .i64 0]; have d0 := E4.d.cell 0; have d1 := E4.d.cell 1; have d2 := E4.d.cell 2; have d3 := E4.d.cell 3))
    | ((with_reducible refine st_id ?_); refine AX.wpList_storeBox (vs := [.int .i64 a0, .int .i64 a1, .int .i64 a2, .int .i64 a3, .int .i64 a4]) rfl rfl sz30 hX4 rfl rfl ?_; rintro W5 h3 h4 h5; have T1 : Bx W5 W4.heap.size 30 #[.int .i64 a0, .int .i64 a1, .int .i64 a2, .int .i64 a3, .int .i64 a4] := h3; have hb5 : Below W4.heap.size W4 W5 := ((Below.refl _ W4).alloc (Nat.le_refl _) (.cells #[.int .i64 0, .int .i64 0, .int .i64 0, .int .i64 0, .int .i64 0] 30)).trans (AX.below_turn (Nat.le_refl _) (.inl T1.lt) h4 h5); have E5 := E4.below hb5; clear d0 d1 d2 d3; clear h3 h4 h5; have d0 := E5.d.cell 0; have d1 := E5.d.cell 1; have d2 := E5.d.cell 2; have d3 := E5.d.cell 3)
    | (go_at_call 7; ((refine (h7 _ E5.b).mono ?_); rintro e W6 ⟨rfl, hb6⟩; have E6 := E5.below hb6; have T1 := T1.below hb6 T1.lt; clear d0 d1 d2 d3; have hX6 := Bx.new W6 30 #[.int .i64 0, .int .i64 0, .int .i64 0, .int .i64 0, .int .i64 0]; have d0 := E6.d.cell 0; have d1 := E6.d.cell 1; have d2 := E6.d.cell 2; have d3 := E6.d.cell 3))
    | ((with_reducible refine st_id ?_); refine AX.wpList_storeBox (vs := [.int .i64 a0, .int .i64 a1, .int .i64 a2, .int .i64 a3, .int .i64 a4]) rfl rfl sz30 hX6 rfl rfl ?_; rintro W7 h3 h4 h5; have T2 : Bx W7 W6.heap.size 30 #[.int .i64 a0, .int .i64 a1, .int .i64 a2, .int .i64 a3, .int .i64 a4] := h3; have hb7 : Below W6.heap.size W6 W7 := ((Below.refl _ W6).alloc (Nat.le_refl _) (.cells #[.int .i64 0, .int .i64 0, .int .i64 0, .int .i64 0, .int .i64 0] 30)).trans (AX.below_turn (Nat.le_refl _) (.inl T2.lt) h4 h5); have E7 := E6.below hb7; have T1 := T1.below hb7 T1.lt; clear d0 d1 d2 d3; clear h3 h4 h5; have d0 := E7.d.cell 0; have d1 := E7.d.cell 1; have d2 := E7.d.cell 2; have d3 := E7.d.cell 3)
    | (go_at_call 8; ((refine (h8 _ E7.b).mono ?_); rintro e W8 ⟨⟨v8, rfl, r8⟩, hb8⟩; have E8 := E7.below hb8; have T1 := T1.below hb8 T1.lt; have T2 := T2.below hb8 T2.lt; clear d0 d1 d2 d3; have d0 := E8.d.cell 0; have d1 := E8.d.cell 1; have d2 := E8.d.cell 2; have d3 := E8.d.cell 3))
    | (go_at_call 9; ((refine (h9 _ E8.b).mono ?_); rintro e W9 ⟨⟨v9, rfl, r9⟩, hb9⟩; have E9 := E8.below hb9; have T1 := T1.below hb9 T1.lt; have T2 := T2.below hb9 T2.lt; have r8 := r8.below hb9; clear d0 d1 d2 d3; have d0 := E9.d.cell 0; have d1 := E9.d.cell 1; have d2 := E9.d.cell 2; have d3 := E9.d.cell 3))
    | (go_at_call 10; ((refine (h10 _ E9.b).mono ?_); rintro e W10 ⟨rfl, hb10⟩; have E10 := E9.below hb10; have T1 := T1.below hb10 T1.lt; have T2 := T2.below hb10 T2.lt; have r8 := r8.below hb10; have r9 := r9.below hb10; clear d0 d1 d2 d3; have d0 := E10.d.cell 0; have d1 := E10.d.cell 1; have d2 := E10.d.cell 2; have d3 := E10.d.cell 3))
    | (go_at_call 11; ((refine (h11 _ E10.b).mono ?_); rintro e W11 ⟨rfl, hb11⟩; have E11 := E10.below hb11; have T1 := T1.below hb11 T1.lt; have T2 := T2.below hb11 T2.lt; have r8 := r8.below hb11; have r9 := r9.below hb11; clear d0 d1 d2 d3; have d0 := E11.d.cell 0; have d1 := E11.d.cell 1; have d2 := E11.d.cell 2; have d3 := E11.d.cell 3))
    | (go_at_call 12; ((refine (h12 _ E11.b).mono ?_); rintro e W12 ⟨⟨v12, rfl, r12⟩, hb12⟩; have E12 := E11.below hb12; have T1 := T1.below hb12 T1.lt; have T2 := T2.below hb12 T2.lt; have r8 := r8.below hb12; have r9 := r9.below hb12; clear d0 d1 d2 d3; have d0 := E12.d.cell 0; have d1 := E12.d.cell 1; have d2 := E12.d.cell 2; have d3 := E12.d.cell 3))
    | (go_at_call 13; ((refine (h13 _ E12.b).mono ?_); rintro e W13 ⟨⟨v13, rfl, r13⟩, hb13⟩; have E13 := E12.below hb13; have T1 := T1.below hb13 T1.lt; have T2 := T2.below hb13 T2.lt; have r8 := r8.below hb13; have r9 := r9.below hb13; have r12 := r12.below hb13; clear d0 d1 d2 d3; have d0 := E13.d.cell 0; have d1 := E13.d.cell 1; have d2 := E13.d.cell 2; have d3 := E13.d.cell 3)))
  clear d0 d1 d2 d3
  have c0 := AX.cell_all (E13.d.cell 0) E13.d.lt; have c1 := AX.cell_all (E13.d.cell 1) E13.d.lt; have c2 := AX.cell_all (E13.d.cell 2) E13.d.lt; have c3 := AX.cell_all (E13.d.cell 3) E13.d.lt
  have f0 := AX.cell_all (E13.e.cell 0) E13.e.lt; have f1 := AX.cell_all (E13.e.cell 1) E13.e.lt; have f2 := AX.cell_all (E13.e.cell 2) E13.e.lt; have f3 := AX.cell_all (E13.e.cell 3) E13.e.lt
  have x0 := AX.cell_all (T1.cell 0) T1.lt; have x1 := AX.cell_all (T1.cell 1) T1.lt; have x2 := AX.cell_all (T1.cell 2) T1.lt; have x3 := AX.cell_all (T1.cell 3) T1.lt; have x4 := AX.cell_all (T1.cell 4) T1.lt
  have y0 := AX.cell_all (T2.cell 0) T2.lt; have y1 := AX.cell_all (T2.cell 1) T2.lt; have y2 := AX.cell_all (T2.cell 2) T2.lt; have y3 := AX.cell_all (T2.cell 3) T2.lt; have y4 := AX.cell_all (T2.cell 4) T2.lt
  have h14 := fun p : AX.BW W13 => sameT hRA (r8.below p.h) (r9.below p.h)
  have h14' := fun p : AX.BW W13 => sameT hRB (r12.below p.h) (r13.below p.h)
  have k15 := fun p : AX.BW W13 => h15 p.W (E13.b.trans (p.h.mono E13.b.size))
  have k16 := fun p : AX.BW W13 => h16 p.W (E13.b.trans (p.h.mono E13.b.size))
  have k17 := fun p : AX.BW W13 => h17 p.W (E13.b.trans (p.h.mono E13.b.size))
  have k18 := fun p : AX.BW W13 => h18 p.W (E13.b.trans (p.h.mono E13.b.size))
  have heq := eq30 a0 a1 a2 a3 a4
  have HB := E13.b
  clear hL h5 h5' h6 h7 h8 h9 h10 h11 h12 h13 h15 h16 h17 h18 E0 E1 E2 E3 E4 E5 E6 E7 E8 E9 E10 E11 E12 E13 T1 T2 r8 r9 r12 r13
  refine AX.region_below (by kernel_rfl) (by kernel_rfl) ?_
  repeat (go_big_quiet_step (first | (go_at_call 14; first | with_reducible exact AX.below_of (h14 _) | with_reducible exact AX.below_of (h14' _)) | (go_at_call 15; with_reducible exact AX.below_of (k15 _)) | (go_at_call 16; with_reducible exact AX.below_of (k16 _)) | (go_at_call 17; with_reducible exact AX.below_of (k17 _)) | (go_at_call 18; with_reducible exact AX.below_of (k18 _))))
  refine wpQuiet_nil ?_
  rintro _ ⟨p, rfl⟩
  go_wp2
  go_ret
  exact ⟨rfl, HB.trans (p.h.mono HB.size)⟩
end
end Go.Proofs.YtefjfbhffmkikaaGreatDoor

namespace Go.Proofs.YtefjfbhffmkikaaGreatDoor
open Go Go.Proofs Go.RowKit
attribute [local go_sem] Oper.semAt_some
section
variable {next rule kind next' rule' kind' : List Int} {kinds kinds' : Int} {an ar ak bn br bk : Option Addr} {cn cr ck dn dr dk : Nat} {w : World}
set_option maxRecDepth 100000 in
set_option maxHeartbeats 4000000 in
theorem law_a (s : ByteArray) (at_ k : Int)
    (hL : ∀ W, Below w.heap.size w W → Calls Tryz.prog 4 #[] W fun e w' => e = .returned (.bool true) ∧ Below W.heap.size W w')
    (h5 : ∀ W, Calls Tryz.prog 5 #[.agg #[.slice an next.length cn, .slice ar rule.length cr, .slice ak kind.length ck, .int .i64 kinds]] W fun e w' => e = .returned (.bool false) ∧ Below W.heap.size W w') :
    Calls Tryz.prog 3 #[.agg #[.slice an next.length cn, .slice ar rule.length cr, .slice ak kind.length ck, .int .i64 kinds], .agg #[.slice bn next'.length dn, .slice br rule'.length dr, .slice bk kind'.length dk, .int .i64 kinds'], .string s, .int .i64 at_, .int .i64 k] w fun e w' => e = .returned (.bool true) ∧ Below w.heap.size w w' := by
  have E0 := Lw.new #[.slice an next.length cn, .slice ar rule.length cr, .slice ak kind.length ck, .int .i64 kinds] #[.slice bn next'.length dn, .slice br rule'.length dr, .slice bk kind'.length dk, .int .i64 kinds'] w
  go_enter Tryz.func3, Tryz.ntmps3
  go_wp2_with fail
  generalize (w.alloc (.cells #[.slice an next.length cn, .slice ar rule.length cr, .slice ak kind.length ck, .int .i64 kinds] 26)).alloc (.cells #[.slice bn next'.length dn, .slice br rule'.length dr, .slice bk kind'.length dk, .int .i64 kinds'] 26) = W0 at *
  go_wp2_with (first
    | (go_at_call 4; ((with_reducible refine (hL _ E0.b).mono ?_); rintro e W1 ⟨rfl, hb1⟩; have E1 := E0.below hb1; have d0 := E1.d.cell 0; have d1 := E1.d.cell 1; have d2 := E1.d.cell 2; have d3 := E1.d.cell 3; have f0 := E1.e.cell 0; have f1 := E1.e.cell 1; have f2 := E1.e.cell 2; have f3 := E1.e.cell 3))
    | (go_at_call 5; ((with_reducible refine (h5 _).mono ?_); rintro e W2 ⟨rfl, hb2⟩; have E2 := E1.below hb2; clear d0 d1 d2 d3; clear f0 f1 f2 f3; have d0 := E2.d.cell 0; have d1 := E2.d.cell 1; have d2 := E2.d.cell 2; have d3 := E2.d.cell 3; have f0 := E2.e.cell 0; have f1 := E2.e.cell 1; have f2 := E2.e.cell 2; have f3 := E2.e.cell 3)))
  go_ret
  exact ⟨rfl, E2.b⟩
set_option maxRecDepth 100000 in
set_option maxHeartbeats 4000000 in
theorem law_b (s : ByteArray) (at_ k : Int)
    (hL : ∀ W, Below w.heap.size w W → Calls Tryz.prog 4 #[] W fun e w' => e = .returned (.bool true) ∧ Below W.heap.size W w')
    (h5 : ∀ W, Calls Tryz.prog 5 #[.agg #[.slice an next.length cn, .slice ar rule.length cr, .slice ak kind.length ck, .int .i64 kinds]] W fun e w' => e = .returned (.bool true) ∧ Below W.heap.size W w')
    (h5' : ∀ W, Calls Tryz.prog 5 #[.agg #[.slice bn next'.length dn, .slice br rule'.length dr, .slice bk kind'.length dk, .int .i64 kinds']] W fun e w' => e = .returned (.bool false) ∧ Below W.heap.size W w') :
    Calls Tryz.prog 3 #[.agg #[.slice an next.length cn, .slice ar rule.length cr, .slice ak kind.length ck, .int .i64 kinds], .agg #[.slice bn next'.length dn, .slice br rule'.length dr, .slice bk kind'.length dk, .int .i64 kinds'], .string s, .int .i64 at_, .int .i64 k] w fun e w' => e = .returned (.bool true) ∧ Below w.heap.size w w' := by
  have E0 := Lw.new #[.slice an next.length cn, .slice ar rule.length cr, .slice ak kind.length ck, .int .i64 kinds] #[.slice bn next'.length dn, .slice br rule'.length dr, .slice bk kind'.length dk, .int .i64 kinds'] w
  go_enter Tryz.func3, Tryz.ntmps3
  go_wp2_with fail
  generalize (w.alloc (.cells #[.slice an next.length cn, .slice ar rule.length cr, .slice ak kind.length ck, .int .i64 kinds] 26)).alloc (.cells #[.slice bn next'.length dn, .slice br rule'.length dr, .slice bk kind'.length dk, .int .i64 kinds'] 26) = W0 at *
  go_wp2_with (first
    | (go_at_call 4; ((with_reducible refine (hL _ E0.b).mono ?_); rintro e W1 ⟨rfl, hb1⟩; have E1 := E0.below hb1; have d0 := E1.d.cell 0; have d1 := E1.d.cell 1; have d2 := E1.d.cell 2; have d3 := E1.d.cell 3; have f0 := E1.e.cell 0; have f1 := E1.e.cell 1; have f2 := E1.e.cell 2; have f3 := E1.e.cell 3))
    | (go_at_call 5; ((with_reducible refine (h5 _).mono ?_); rintro e W2 ⟨rfl, hb2⟩; have E2 := E1.below hb2; clear d0 d1 d2 d3; clear f0 f1 f2 f3; have d0 := E2.d.cell 0; have d1 := E2.d.cell 1; have d2 := E2.d.cell 2; have d3 := E2.d.cell 3; have f0 := E2.e.cell 0; have f1 := E2.e.cell 1; have f2 := E2.e.cell 2; have f3 := E2.e.cell 3))
    | (go_at_call 5; ((with_reducible refine (h5' _).mono ?_); rintro e W3 ⟨rfl, hb3⟩; have E3 := E2.below hb3; clear d0 d1 d2 d3; clear f0 f1 f2 f3; have d0 := E3.d.cell 0; have d1 := E3.d.cell 1; have d2 := E3.d.cell 2; have d3 := E3.d.cell 3)))
  go_ret
  exact ⟨rfl, E3.b⟩
set_option maxRecDepth 100000 in
set_option maxHeartbeats 4000000 in
theorem law_c (s : ByteArray) (at_ k : Int)
    (hL : ∀ W, Below w.heap.size w W → Calls Tryz.prog 4 #[] W fun e w' => e = .returned (.bool true) ∧ Below W.heap.size W w')
    (h5 : ∀ W, Calls Tryz.prog 5 #[.agg #[.slice an next.length cn, .slice ar rule.length cr, .slice ak kind.length ck, .int .i64 kinds]] W fun e w' => e = .returned (.bool true) ∧ Below W.heap.size W w')
    (h5' : ∀ W, Calls Tryz.prog 5 #[.agg #[.slice bn next'.length dn, .slice br rule'.length dr, .slice bk kind'.length dk, .int .i64 kinds']] W fun e w' => e = .returned (.bool true) ∧ Below W.heap.size W w')
    (h60 : 60 < s.size) :
    Calls Tryz.prog 3 #[.agg #[.slice an next.length cn, .slice ar rule.length cr, .slice ak kind.length ck, .int .i64 kinds], .agg #[.slice bn next'.length dn, .slice br rule'.length dr, .slice bk kind'.length dk, .int .i64 kinds'], .string s, .int .i64 at_, .int .i64 k] w fun e w' => e = .returned (.bool true) ∧ Below w.heap.size w w' := by
  have E0 := Lw.new #[.slice an next.length cn, .slice ar rule.length cr, .slice ak kind.length ck, .int .i64 kinds] #[.slice bn next'.length dn, .slice br rule'.length dr, .slice bk kind'.length dk, .int .i64 kinds'] w
  have q1 : (60 : Int) < (s.size : Int) := by omega
  go_enter Tryz.func3, Tryz.ntmps3
  go_wp2_with fail
  generalize (w.alloc (.cells #[.slice an next.length cn, .slice ar rule.length cr, .slice ak kind.length ck, .int .i64 kinds] 26)).alloc (.cells #[.slice bn next'.length dn, .slice br rule'.length dr, .slice bk kind'.length dk, .int .i64 kinds'] 26) = W0 at *
  go_wp2_with (first
    | (go_at_call 4; ((with_reducible refine (hL _ E0.b).mono ?_); rintro e W1 ⟨rfl, hb1⟩; have E1 := E0.below hb1; have d0 := E1.d.cell 0; have d1 := E1.d.cell 1; have d2 := E1.d.cell 2; have d3 := E1.d.cell 3; have f0 := E1.e.cell 0; have f1 := E1.e.cell 1; have f2 := E1.e.cell 2; have f3 := E1.e.cell 3))
    | (go_at_call 5; ((with_reducible refine (h5 _).mono ?_); rintro e W2 ⟨rfl, hb2⟩; have E2 := E1.below hb2; clear d0 d1 d2 d3; clear f0 f1 f2 f3; have d0 := E2.d.cell 0; have d1 := E2.d.cell 1; have d2 := E2.d.cell 2; have d3 := E2.d.cell 3; have f0 := E2.e.cell 0; have f1 := E2.e.cell 1; have f2 := E2.e.cell 2; have f3 := E2.e.cell 3))
    | (go_at_call 5; ((with_reducible refine (h5' _).mono ?_); rintro e W3 ⟨rfl, hb3⟩; have E3 := E2.below hb3; clear d0 d1 d2 d3; clear f0 f1 f2 f3; have d0 := E3.d.cell 0; have d1 := E3.d.cell 1; have d2 := E3.d.cell 2; have d3 := E3.d.cell 3)))
  go_ret
  exact ⟨rfl, E3.b⟩
set_option maxRecDepth 100000 in
set_option maxHeartbeats 4000000 in
theorem law_d (s : ByteArray) (at_ k : Int)
    (hL : ∀ W, Below w.heap.size w W → Calls Tryz.prog 4 #[] W fun e w' => e = .returned (.bool true) ∧ Below W.heap.size W w')
    (h5 : ∀ W, Calls Tryz.prog 5 #[.agg #[.slice an next.length cn, .slice ar rule.length cr, .slice ak kind.length ck, .int .i64 kinds]] W fun e w' => e = .returned (.bool true) ∧ Below W.heap.size W w')
    (h5' : ∀ W, Calls Tryz.prog 5 #[.agg #[.slice bn next'.length dn, .slice br rule'.length dr, .slice bk kind'.length dk, .int .i64 kinds']] W fun e w' => e = .returned (.bool true) ∧ Below W.heap.size W w')
    (h60 : s.size ≤ 60) (hk9 : 9 < k) :
    Calls Tryz.prog 3 #[.agg #[.slice an next.length cn, .slice ar rule.length cr, .slice ak kind.length ck, .int .i64 kinds], .agg #[.slice bn next'.length dn, .slice br rule'.length dr, .slice bk kind'.length dk, .int .i64 kinds'], .string s, .int .i64 at_, .int .i64 k] w fun e w' => e = .returned (.bool true) ∧ Below w.heap.size w w' := by
  have E0 := Lw.new #[.slice an next.length cn, .slice ar rule.length cr, .slice ak kind.length ck, .int .i64 kinds] #[.slice bn next'.length dn, .slice br rule'.length dr, .slice bk kind'.length dk, .int .i64 kinds'] w
  have q1 : ¬ ((60 : Int) < (s.size : Int)) := by omega
  go_enter Tryz.func3, Tryz.ntmps3
  go_wp2_with fail
  generalize (w.alloc (.cells #[.slice an next.length cn, .slice ar rule.length cr, .slice ak kind.length ck, .int .i64 kinds] 26)).alloc (.cells #[.slice bn next'.length dn, .slice br rule'.length dr, .slice bk kind'.length dk, .int .i64 kinds'] 26) = W0 at *
  go_wp2_with (first
    | (go_at_call 4; ((with_reducible refine (hL _ E0.b).mono ?_); rintro e W1 ⟨rfl, hb1⟩; have E1 := E0.below hb1; have d0 := E1.d.cell 0; have d1 := E1.d.cell 1; have d2 := E1.d.cell 2; have d3 := E1.d.cell 3; have f0 := E1.e.cell 0; have f1 := E1.e.cell 1; have f2 := E1.e.cell 2; have f3 := E1.e.cell 3))
    | (go_at_call 5; ((with_reducible refine (h5 _).mono ?_); rintro e W2 ⟨rfl, hb2⟩; have E2 := E1.below hb2; clear d0 d1 d2 d3; clear f0 f1 f2 f3; have d0 := E2.d.cell 0; have d1 := E2.d.cell 1; have d2 := E2.d.cell 2; have d3 := E2.d.cell 3; have f0 := E2.e.cell 0; have f1 := E2.e.cell 1; have f2 := E2.e.cell 2; have f3 := E2.e.cell 3))
    | (go_at_call 5; ((with_reducible refine (h5' _).mono ?_); rintro e W3 ⟨rfl, hb3⟩; have E3 := E2.below hb3; clear d0 d1 d2 d3; clear f0 f1 f2 f3; have d0 := E3.d.cell 0; have d1 := E3.d.cell 1; have d2 := E3.d.cell 2; have d3 := E3.d.cell 3)))
  go_ret
  exact ⟨rfl, E3.b⟩
end
end Go.Proofs.YtefjfbhffmkikaaGreatDoor

namespace Go.Proofs.YtefjfbhffmkikaaGreatDoor
open Go Go.Proofs Go.RowKit
section
variable {next rule kind next' rule' kind' : List Int} {kinds kinds' : Int} {an ar ak bn br bk : Option Addr} {cn cr ck dn dr dk : Nat} {w : World}
theorem cNext (hn : next.length ≤ 1000000) (hr : rule.length ≤ 1000000) (hk : kind.length ≤ 1000000) (hN : IRow w an next) (hR : IRow w ar rule) (hK : IRow w ak kind) (s : ByteArray) (at_ : Int) (hs : s.size ≤ 1000) : ∃ a0 a1 a2 a3 a4 e1 : Int,
    (∀ W, Below w.heap.size w W → Calls Tryz.prog 6 #[lV an ar ak next.length rule.length kind.length cn cr ck kinds, .string s, .int .i64 at_] W fun e w' => e = .returned (.tuple #[.agg #[.int .i64 a0, .int .i64 a1, .int .i64 a2, .int .i64 a3, .int .i64 a4], .int .i64 e1]) ∧ Below W.heap.size W w') ∧
    (∀ W, Below w.heap.size w W → Calls Tryz.prog 7 #[lV an ar ak next.length rule.length kind.length cn cr ck kinds, .string s, .int .i64 at_] W fun e w' => e = .returned (.tuple #[.agg #[.int .i64 a0, .int .i64 a1, .int .i64 a2, .int .i64 a3, .int .i64 a4], .int .i64 e1]) ∧ Below W.heap.size W w') := by
  have h6 := fun W (hb : Below w.heap.size w W) => Next_k (cn := cn) (cr := cr) (ck := ck) (kinds := kinds) hn hr hk (hN.below hb (Nat.le_refl _)) (hR.below hb (Nat.le_refl _)) (hK.below hb (Nat.le_refl _)) s at_ (by omega)
  have h7 := fun W (hb : Below w.heap.size w W) => rNext_k (cn := cn) (cr := cr) (ck := ck) (kinds := kinds) hn hr hk (hN.below hb (Nat.le_refl _)) (hR.below hb (Nat.le_refl _)) (hK.below hb (Nat.le_refl _)) s at_ (by omega)
  unfold nextV tkV at h6 h7
  by_cases hV : okL next rule kind kinds = true ∧ 0 ≤ at_ ∧ at_ ≤ s.size
  · rw [if_pos hV] at h6 h7
    exact ⟨_, _, _, _, _, _, h6, h7⟩
  · rw [if_neg hV] at h6 h7
    exact ⟨_, _, _, _, _, _, h6, h7⟩
theorem cAll (hn : next.length ≤ 1000000) (hr : rule.length ≤ 1000000) (hk : kind.length ≤ 1000000) (hN : IRow w an next) (hR : IRow w ar rule) (hK : IRow w ak kind) (s : ByteArray) (hs : s.size ≤ 1000) : ∃ (e2 : Int) (RA : List Tk), RA.length ≤ 1000000 ∧
    (∀ W, Below w.heap.size w W → Calls Tryz.prog 8 #[lV an ar ak next.length rule.length kind.length cn cr ck kinds, .string s] W fun e w' => (∃ v, e = .returned (.tuple #[v, .int .i64 e2]) ∧ TRow w' W.heap.size v RA) ∧ Below W.heap.size W w') ∧
    (∀ W, Below w.heap.size w W → Calls Tryz.prog 9 #[lV an ar ak next.length rule.length kind.length cn cr ck kinds, .string s] W fun e w' => (∃ v, e = .returned (.tuple #[v, .int .i64 e2]) ∧ TRow w' W.heap.size v RA) ∧ Below W.heap.size W w') := by
  by_cases hok : okL next rule kind kinds = true
  · refine ⟨0, rowV next rule kind (sb s) 0, ?_, fun W hb => all_in hn hr hk (hN.below hb (Nat.le_refl _)) (hR.below hb (Nat.le_refl _)) (hK.below hb (Nat.le_refl _)) s hs hok, fun W hb => rAll_in hn hr hk (hN.below hb (Nat.le_refl _)) (hR.below hb (Nat.le_refl _)) (hK.below hb (Nat.le_refl _)) s hs hok⟩
    have := rowV_len (fits_of hok) (sb_lt s) _ 0 (Nat.le_refl _) (Nat.zero_le _)
    rw [sb_len] at this
    omega
  · exact ⟨2, [], Nat.zero_le _, fun W hb => (all_out hn hr hk (hN.below hb (Nat.le_refl _)) (hR.below hb (Nat.le_refl _)) (hK.below hb (Nat.le_refl _)) s hok).mono fun e w' h => ⟨⟨_, h.1, World.ownsRow_nil _ _ _ _⟩, h.2⟩,
      fun W hb => (rAll_out hn hr hk (hN.below hb (Nat.le_refl _)) (hR.below hb (Nat.le_refl _)) (hK.below hb (Nat.le_refl _)) s hs hok).mono fun e w' h => ⟨⟨_, h.1, World.ownsRow_nil _ _ _ _⟩, h.2⟩⟩
theorem cWin (hn : next.length ≤ 1000000) (hr : rule.length ≤ 1000000) (hk : kind.length ≤ 1000000) (hN : IRow w an next) (hR : IRow w ar rule) (hK : IRow w ak kind) (s : ByteArray) (at_ k : Int) (hs : s.size ≤ 1000) (hk9 : k ≤ 9) : ∃ (t1 : ByteArray) (e3 e4 : Int),
    (∀ W, Below w.heap.size w W → Calls Tryz.prog 10 #[lV an ar ak next.length rule.length kind.length cn cr ck kinds, .string s, .int .i64 at_, .int .i64 k] W fun e w' => e = .returned (.tuple #[.string t1, .int .i64 e3, .int .i64 e4]) ∧ Below W.heap.size W w') ∧
    (∀ W, Below w.heap.size w W → Calls Tryz.prog 11 #[lV an ar ak next.length rule.length kind.length cn cr ck kinds, .string s, .int .i64 at_, .int .i64 k] W fun e w' => e = .returned (.tuple #[.string t1, .int .i64 e3, .int .i64 e4]) ∧ Below W.heap.size W w') := by
  by_cases hV : okL next rule kind kinds = true ∧ 0 ≤ at_ ∧ at_ ≤ s.size
  · obtain ⟨hok, h0, h1⟩ := hV
    obtain ⟨i0, rfl⟩ : ∃ i0 : Nat, at_ = i0 := ⟨at_.toNat, by omega⟩
    have hi : i0 ≤ s.size := by omega
    refine ⟨_, _, _, fun W hb => ?_, fun W hb => rWindow_in hn hr hk (hN.below hb (Nat.le_refl _)) (hR.below hb (Nat.le_refl _)) (hK.below hb (Nat.le_refl _)) s i0 hs hok hi k hk9⟩
    by_cases hk1 : k < 1
    · exact window_no hn hr hk (hN.below hb (Nat.le_refl _)) (hR.below hb (Nat.le_refl _)) (hK.below hb (Nat.le_refl _)) s i0 hs hok hi k hk1
    · exact window_in hn hr hk (hN.below hb (Nat.le_refl _)) (hR.below hb (Nat.le_refl _)) (hK.below hb (Nat.le_refl _)) s i0 hs hok hi k hk1 hk9
  · exact ⟨_, _, _, fun W hb => window_out hn hr hk (hN.below hb (Nat.le_refl _)) (hR.below hb (Nat.le_refl _)) (hK.below hb (Nat.le_refl _)) s at_ hs hV k, fun W hb => rWindow_out hn hr hk (hN.below hb (Nat.le_refl _)) (hR.below hb (Nat.le_refl _)) (hK.below hb (Nat.le_refl _)) s at_ hs hV k⟩
theorem cTok (hn : next.length ≤ 1000000) (hr : rule.length ≤ 1000000) (hk : kind.length ≤ 1000000) (hN : IRow w an next) (hR : IRow w ar rule) (hK : IRow w ak kind) (s : ByteArray) (at_ : Int) (hs : s.size ≤ 1000) : ∃ (e5 : Int) (RB : List Tk), RB.length ≤ 1000000 ∧
    (∀ W, Below w.heap.size w W → Calls Tryz.prog 12 #[lV an ar ak next.length rule.length kind.length cn cr ck kinds, .string s, .int .i64 at_] W fun e w' => (∃ v, e = .returned (.tuple #[v, .bool true]) ∧ TRow w' W.heap.size v RB) ∧ Below W.heap.size W w') ∧
    (∀ W, Below w.heap.size w W → Calls Tryz.prog 13 #[lV an ar ak next.length rule.length kind.length cn cr ck kinds, .string s, .int .i64 at_] W fun e w' => (∃ v, e = .returned (.tuple #[v, .int .i64 e5]) ∧ TRow w' W.heap.size v RB) ∧ Below W.heap.size W w') := by
  by_cases hV : okL next rule kind kinds = true ∧ 0 ≤ at_ ∧ at_ ≤ s.size
  · obtain ⟨hok, h0, h1⟩ := hV
    obtain ⟨i0, rfl⟩ : ∃ i0 : Nat, at_ = i0 := ⟨at_.toNat, by omega⟩
    have hi : i0 ≤ s.size := by omega
    refine ⟨0, rowV next rule kind (sb s) i0, ?_, fun W hb => tokens_in hn hr hk (hN.below hb (Nat.le_refl _)) (hR.below hb (Nat.le_refl _)) (hK.below hb (Nat.le_refl _)) s hs hok i0 hi, fun W hb => from_in hn hr hk (hN.below hb (Nat.le_refl _)) (hR.below hb (Nat.le_refl _)) (hK.below hb (Nat.le_refl _)) s i0 hs hok hi⟩
    have := rowV_len (fits_of hok) (sb_lt s) _ i0 (Nat.le_refl _) (by rw [sb_len]; exact hi)
    rw [sb_len] at this
    omega
  · exact ⟨2, [], Nat.zero_le _, fun W hb => tokens_out hn hr hk (hN.below hb (Nat.le_refl _)) (hR.below hb (Nat.le_refl _)) (hK.below hb (Nat.le_refl _)) s hs at_ hV,
      fun W hb => (from_out hn hr hk (hN.below hb (Nat.le_refl _)) (hR.below hb (Nat.le_refl _)) (hK.below hb (Nat.le_refl _)) s at_ hs hV).mono fun e w' h => ⟨⟨_, h.1, World.ownsRow_nil _ _ _ _⟩, h.2⟩⟩
theorem law_k (hn : next.length ≤ 9223372036854775807) (hr : rule.length ≤ 9223372036854775807) (hk : kind.length ≤ 9223372036854775807) (hn' : next'.length ≤ 9223372036854775807) (hr' : rule'.length ≤ 9223372036854775807) (hk' : kind'.length ≤ 9223372036854775807)
    (hN : IRow w an next) (hR : IRow w ar rule) (hK : IRow w ak kind) (hN' : IRow w bn next') (hR' : IRow w br rule') (hK' : IRow w bk kind') (s : ByteArray) (at_ k : Int)
    (hL : ∀ W, Below w.heap.size w W → Calls Tryz.prog 4 #[] W fun e w' => e = .returned (.bool true) ∧ Below W.heap.size W w') :
    Calls Tryz.prog 3 #[lV an ar ak next.length rule.length kind.length cn cr ck kinds, lV bn br bk next'.length rule'.length kind'.length dn dr dk kinds', .string s, .int .i64 at_, .int .i64 k] w fun e w' => e = .returned (.bool true) ∧ Below w.heap.size w w' := by
  have h5 := fun W => llight_k an ar ak next.length rule.length kind.length cn cr ck kinds hn hr hk W
  have h5' := fun W => llight_k bn br bk next'.length rule'.length kind'.length dn dr dk kinds' hn' hr' hk' W
  cases hq : ((decide (rule.length ≤ 24) && decide (next.length ≤ 6144)) && decide (kind.length ≤ 40)) with
  | false =>
    rw [hq] at h5
    exact law_a s at_ k hL h5
  | true =>
    rw [hq] at h5
    simp only [Bool.and_eq_true, decide_eq_true_eq] at hq
    obtain ⟨⟨q1, q2⟩, q3⟩ := hq
    cases hq' : ((decide (rule'.length ≤ 24) && decide (next'.length ≤ 6144)) && decide (kind'.length ≤ 40)) with
    | false =>
      rw [hq'] at h5'
      exact law_b s at_ k hL h5 h5'
    | true =>
      rw [hq'] at h5'
      simp only [Bool.and_eq_true, decide_eq_true_eq] at hq'
      obtain ⟨⟨q4, q5⟩, q6⟩ := hq'
      by_cases h60 : s.size ≤ 60
      · by_cases hk9 : k ≤ 9
        · obtain ⟨a0, a1, a2, a3, a4, e1, h6, h7⟩ := cNext (cn := cn) (cr := cr) (ck := ck) (kinds := kinds) (w := w) (by omega) (by omega) (by omega) hN hR hK s at_ (by omega)
          obtain ⟨e2, RA, hRA, h8, h9⟩ := cAll (cn := cn) (cr := cr) (ck := ck) (kinds := kinds) (w := w) (by omega) (by omega) (by omega) hN hR hK s (by omega)
          obtain ⟨t1, e3, e4, h10, h11⟩ := cWin (cn := cn) (cr := cr) (ck := ck) (kinds := kinds) (w := w) (by omega) (by omega) (by omega) hN hR hK s at_ k (by omega) hk9
          obtain ⟨e5, RB, hRB, h12, h13⟩ := cTok (cn := cn) (cr := cr) (ck := ck) (kinds := kinds) (w := w) (by omega) (by omega) (by omega) hN hR hK s at_ (by omega)
          have h15 := fun W (hb : Below w.heap.size w W) => lcheck_k next rule kind kinds (by omega) (by omega) (by omega) an ar ak cn cr ck W (hN.below hb (Nat.le_refl _)) (hR.below hb (Nat.le_refl _)) (hK.below hb (Nat.le_refl _))
          have h16 := fun W (hb : Below w.heap.size w W) => rlcheck_k next rule kind kinds (by omega) (by omega) (by omega) an ar ak cn cr ck W (hN.below hb (Nat.le_refl _)) (hR.below hb (Nat.le_refl _)) (hK.below hb (Nat.le_refl _))
          have h17 := fun W (hb : Below w.heap.size w W) => lsame_k (cn := cn) (cr := cr) (ck := ck) (dn := dn) (dr := dr) (dk := dk) (kinds := kinds) (kinds' := kinds') (w := W) (by omega) (by omega) (by omega) (by omega) (by omega) (by omega) (hN.below hb (Nat.le_refl _)) (hR.below hb (Nat.le_refl _)) (hK.below hb (Nat.le_refl _)) (hN'.below hb (Nat.le_refl _)) (hR'.below hb (Nat.le_refl _)) (hK'.below hb (Nat.le_refl _))
          have h18 := fun W (hb : Below w.heap.size w W) => rlsame_k (cn := cn) (cr := cr) (ck := ck) (dn := dn) (dr := dr) (dk := dk) (kinds := kinds) (kinds' := kinds') (w := W) (by omega) (by omega) (by omega) (by omega) (by omega) (by omega) (hN.below hb (Nat.le_refl _)) (hR.below hb (Nat.le_refl _)) (hK.below hb (Nat.le_refl _)) (hN'.below hb (Nat.le_refl _)) (hR'.below hb (Nat.le_refl _)) (hK'.below hb (Nat.le_refl _))
          exact law_in s at_ k a0 a1 a2 a3 a4 e1 e2 e3 e4 e5 _ _ t1 RA RB hL h5 h5' h60 hk9 hRA hRB h6 h7 h8 h9 h10 h11 h12 h13 h15 h16 h17 h18
        · exact law_d s at_ k hL h5 h5' h60 (by omega)
      · exact law_c s at_ k hL h5 h5' (by omega)
end
end Go.Proofs.YtefjfbhffmkikaaGreatDoor
