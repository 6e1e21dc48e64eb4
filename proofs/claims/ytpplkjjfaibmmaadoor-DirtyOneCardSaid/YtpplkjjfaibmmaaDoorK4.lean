/- Dirty: Add. -/
import Derived.Test.YtpplkjjfaibmmaaDoorK0
import Derived.Test.YtpplkjjfaibmmaaDoorF5
import Derived.Test.YtpplkjjfaibmmaaDoorF10
import Derived.Test.YtpplkjjfaibmmaaDoorRg6
import Derived.Test.YtpplkjjfaibmmaaDoorF2
import Derived.Test.YtpplkjjfaibmmaaDoorE3
import Derived.Test.YtpplkjjfaibmmaaDoorH6
namespace Go.Proofs.YtpplkjjfaibmmaaDoor
open Go Go.Proofs Go.RowKit
attribute [local go_sem] Oper.semAt_some
def row8_9 : List (Nat × Bool) := [(0, false), (1, false), (2, false), (3, true), (4, true), (5, false)]
def inf8_9 : List AX.Inf := [⟨0, 549755813888, 8192, true⟩, ⟨1, 1099511627776, 549755813888, true⟩, ⟨0, 2199023255552, 16, true⟩, ⟨4, 4398046511104, 2199023255552, false⟩, ⟨10, 8796093022208, 5497558138880, false⟩, ⟨16, 17592186044416, 8796093022208, true⟩]
theorem fit8_9 : AX.mixF inf8_9 row8_9 0 = true := by kernel_rfl
def row8_15 : List (Nat × Bool) := [(0, false), (1, false), (2, false), (3, false), (5, false), (6, false), (7, false), (8, false), (9, false), (4, true), (10, false), (11, true), (12, false), (13, true)]
def inf8_15 : List AX.Inf := [⟨0, 18446744073709551616, 1024, true⟩, ⟨1, 36893488147419103232, 18446744073709551616, true⟩, ⟨0, 73786976294838206464, 8192, true⟩, ⟨4, 147573952589676412928, 73786976294838206464, true⟩, ⟨10, 295147905179352825856, 184467440737095516160, false⟩, ⟨0, 590295810358705651712, 1024, true⟩, ⟨32, 1180591620717411303424, 590295810358705651712, true⟩, ⟨0, 2361183241434822606848, 8192, true⟩, ⟨128, 4722366482869645213696, 2361183241434822606848, true⟩, ⟨320, 9444732965739290427392, 5902958103587056517120, true⟩, ⟨127, 18889465931478580854784, 1024, true⟩, ⟨1151, 0, 19184613836657933680640, false⟩, ⟨4095, 37778931862957161709568, 1024, true⟩, ⟨8191, 0, 47223664828696452136960, false⟩]
theorem fit8_15 : AX.mixF inf8_15 row8_15 0 = true := by kernel_rfl
def row8_17 : List (Nat × Bool) := [(0, false), (1, false), (2, false), (3, false), (4, true), (5, false), (6, false)]
def inf8_17 : List AX.Inf := [⟨0, 151115727451828646838272, 1024, true⟩, ⟨1, 302231454903657293676544, 151115727451828646838272, true⟩, ⟨0, 604462909807314587353088, 64, true⟩, ⟨0, 1208925819614629174706176, 1024, true⟩, ⟨12, 2417851639229258349412352, 1813388729421943762059264, false⟩, ⟨19, 128, 302231454903657293676544, true⟩, ⟨63, 64, 2417851639229258349412352, true⟩]
theorem fit8_17 : AX.mixF inf8_17 row8_17 0 = true := by kernel_rfl
def row8_22 : List (Nat × Bool) := [(0, false), (1, false), (2, false), (4, false), (5, false), (7, false), (3, true), (6, true), (8, true), (9, false)]
def inf8_22 : List AX.Inf := [⟨0, 633825300114114700748351602688, 64, true⟩, ⟨0, 1267650600228229401496703205376, 16384, true⟩, ⟨2, 2535301200456458802993406410752, 1267650600228229401496703205376, true⟩, ⟨5, 5070602400912917605986812821504, 3169126500570573503741758013440, false⟩, ⟨0, 10141204801825835211973625643008, 32768, true⟩, ⟨16, 20282409603651670423947251286016, 10141204801825835211973625643008, true⟩, ⟨40, 40564819207303340847894502572032, 25353012004564588029934064107520, false⟩, ⟨0, 81129638414606681695789005144064, 65536, true⟩, ⟨192, 162259276829213363391578010288128, 121694457621910022543683507716096, false⟩, ⟨511, 64, 162259276829213363391578010288128, true⟩]
theorem fit8_22 : AX.mixF inf8_22 row8_22 0 = true := by kernel_rfl
/-- What Add keeps while it goes through the jobs. -/
structure Ast (w : World) (base Bo : Nat) (a d i : Int) (v6 v8 : Value) (s : AS) (W : World) : Prop where
  b : Below w.heap.size w W
  r6 : DRow W base v6 s.out
  r8 : WRow W base v8 s.went
  o : Box5 W Bo s.own
  e : Box3 W w.heap.size a d i
  z : base ≤ W.heap.size
theorem Ast.below {w X Y : World} {base Bo : Nat} {a d i : Int} {v6 v8 : Value} {s : AS} (h : Ast w base Bo a d i v6 v8 s X) (hb : Below X.heap.size X Y) : Ast w base Bo a d i v6 v8 s Y :=
  ⟨h.b.trans (hb.mono h.b.size), h.r6.below hb, h.r8.below hb, h.o.below hb h.o.lt, h.e.below hb h.e.lt, Nat.le_trans h.z hb.size⟩
theorem Ast.app6 {w X Y : World} {base Bo : Nat} {a d i : Int} {v6 v8 v' : Value} {s : AS} {y : J} (h : Ast w base Bo a d i v6 v8 s X) (hB : Bo < base) (hE : w.heap.size < base) (hD : DRow Y base v' (s.out ++ [y])) (hg : X.grownBy Y v6.ownBlock) : Ast w base Bo a d i v' v8 ⟨s.out ++ [y], s.own, s.n, s.went⟩ Y := by
  have hb : Below base X Y := (Below.refl base X).grown hg h.z fun j ej => (World.ownsRow.lt h.r6 j ej).1
  exact ⟨h.b.trans (hb.mono (Nat.le_of_lt hE)), hD, World.ownsRow.kept h.r8 hg (own_apart h.r6 h.r8).2, h.o.below hb hB, h.e.below hb hE, Nat.le_trans h.z hb.size⟩
theorem Ast.app8 {w X Y : World} {base Bo : Nat} {a d i : Int} {v6 v8 v' : Value} {s : AS} {y : Int × Int} (h : Ast w base Bo a d i v6 v8 s X) (hB : Bo < base) (hE : w.heap.size < base) (hD : WRow Y base v' (s.went ++ [y])) (hg : X.grownBy Y v8.ownBlock) : Ast w base Bo a d i v6 v' ⟨s.out, s.own, s.n, s.went ++ [y]⟩ Y := by
  have hb : Below base X Y := (Below.refl base X).grown hg h.z fun j ej => (World.ownsRow.lt h.r8 j ej).1
  exact ⟨h.b.trans (hb.mono (Nat.le_of_lt hE)), World.ownsRow.kept h.r6 hg (own_apart h.r6 h.r8).1, hD, h.o.below hb hB, h.e.below hb hE, Nat.le_trans h.z hb.size⟩
theorem Ast.turn {w X Y : World} {base Bo : Nat} {a d i : Int} {v6 v8 : Value} {s : AS} {o' : J} (h : Ast w base Bo a d i v6 v8 s X) (hB : Bo < base) (hE : w.heap.size < Bo) (ho : Box5 Y Bo o') (h4 : ∀ k, k ≠ Bo → Y.heap[k]? = X.heap[k]?) (h5 : AX.Same X Y) : Ast w base Bo a d i v6 v8 ⟨s.out, o', s.n, s.went⟩ Y := by
  have hb : Below Bo X Y := AX.below_turn (Nat.le_refl _) (.inl ho.lt) h4 h5
  exact ⟨h.b.trans (hb.mono (Nat.le_of_lt hE)), h.r6.same fun g e => h4 g (by have := (World.ownsRow.lt h.r6 g e).1; omega), h.r8.same fun g e => h4 g (by have := (World.ownsRow.lt h.r8 g e).1; omega), ho, h.e.below hb hE, Nat.le_trans h.z hb.size⟩
theorem Ast.cnt {w X : World} {base Bo : Nat} {a d i : Int} {v6 v8 : Value} {s : AS} (h : Ast w base Bo a d i v6 v8 s X) (m : Nat) : Ast w base Bo a d i v6 v8 ⟨s.out, s.own, m, s.went⟩ X := ⟨h.b, h.r6, h.r8, h.o, h.e, h.z⟩
theorem ifmax (a b : Int) : (if a < b then b else a) = max a b := by split <;> omega
theorem sz33 : AX.sizeT Tryd.prog 33 = some 2 := by kernel_rfl
theorem sz38' : AX.sizeT Tryd.prog 38 = some 5 := by kernel_rfl
theorem sz3' : AX.sizeT Tryd.prog 3 = some 1 := by kernel_rfl
/-- The bounds of the positions. -/
structure Abd (k : Nat) (s : AS) : Prop where
  of : s.own.f ≤ s.own.t
  oo : ∀ y ∈ s.out, SpJ y
  own : Rg s.own.f ∧ Rg s.own.t
  o : s.out.length ≤ k
  w : s.went.length ≤ k
  n : s.n ≤ k
theorem set5 {w W : World} {n X Be : Nat} {x : J} {a d i : Int} (hX : Box5 W X x) (h3 : Box3 W Be a d i) (hB : Below n w W) (hne : Be < X) (hn : n ≤ X) (y : J) :
    Box5 (((((W.setCell ⟨X, 0, none⟩ (.int .i64 y.s)).setCell ⟨X, 1, none⟩ (.int .i64 y.f)).setCell ⟨X, 2, none⟩ (.int .i64 y.t)).setCell ⟨X, 3, none⟩ (.int .i64 y.a)).setCell ⟨X, 4, none⟩ (.int .i64 y.l)) X y ∧
    Box3 (((((W.setCell ⟨X, 0, none⟩ (.int .i64 y.s)).setCell ⟨X, 1, none⟩ (.int .i64 y.f)).setCell ⟨X, 2, none⟩ (.int .i64 y.t)).setCell ⟨X, 3, none⟩ (.int .i64 y.a)).setCell ⟨X, 4, none⟩ (.int .i64 y.l)) Be a d i ∧
    Below n w (((((W.setCell ⟨X, 0, none⟩ (.int .i64 y.s)).setCell ⟨X, 1, none⟩ (.int .i64 y.f)).setCell ⟨X, 2, none⟩ (.int .i64 y.t)).setCell ⟨X, 3, none⟩ (.int .i64 y.a)).setCell ⟨X, 4, none⟩ (.int .i64 y.l)) :=
  ⟨hX.set y, ((((h3.other (by omega)).other (by omega)).other (by omega)).other (by omega)).other (by omega),
   ((((hB.setCell (p := ⟨X, 0, none⟩) hn _).setCell (p := ⟨X, 1, none⟩) hn _).setCell (p := ⟨X, 2, none⟩) hn _).setCell (p := ⟨X, 3, none⟩) hn _).setCell (p := ⟨X, 4, none⟩) hn _⟩
/-- What a call of Add comes to. -/
def AddPost (a d i room : Int) (l : List J) (w : World) (e : Ending) (w' : World) : Prop := (∃ (r : Nat) (v6 v8 : Value) (out : List J) (slot : Int) (went : List (Int × Int)), e = .returned (.tuple #[v6, .int .i64 slot, v8, .int .i64 0]) ∧ RRow w' v6 out ∧ (∃ base, WRow w' base v8 went) ∧ went.length ≤ 40 ∧ (r < 64 ∧ usedF l r = false ∧ ∀ j, j < r → usedF l j = true) ∧ AddRel a d i room l r out slot went) ∧ Below w.heap.size w w'
def slLen : Value → Nat
  | .slice _ n _ => n
  | _ => 0
/-- Two boxes in a row, filled one behind the other. -/
theorem two_boxes {V W4 W5 : World} {p q : J} (h3 : W4.heap[V.heap.size]? = some (.cells ([.int .i64 p.s, .int .i64 p.f, .int .i64 p.t, .int .i64 p.a, .int .i64 p.l]).toArray 38 (0, 0))) (h4 : ∀ k, k ≠ V.heap.size → W4.heap[k]? = ((V.alloc (.cells #[.int .i64 0, .int .i64 0, .int .i64 0, .int .i64 0, .int .i64 0] 38)).alloc (.cells #[.int .i64 0, .int .i64 0, .int .i64 0, .int .i64 0, .int .i64 0] 38)).heap[k]?) (h5 : AX.Same ((V.alloc (.cells #[.int .i64 0, .int .i64 0, .int .i64 0, .int .i64 0, .int .i64 0] 38)).alloc (.cells #[.int .i64 0, .int .i64 0, .int .i64 0, .int .i64 0, .int .i64 0] 38)) W4)
    (g3 : W5.heap[V.heap.size + 1]? = some (.cells ([.int .i64 q.s, .int .i64 q.f, .int .i64 q.t, .int .i64 q.a, .int .i64 q.l]).toArray 38 (0, 0))) (g4 : ∀ k, k ≠ V.heap.size + 1 → W5.heap[k]? = W4.heap[k]?) (g5 : AX.Same W4 W5) : Box5 W5 V.heap.size p ∧ Box5 W5 (V.heap.size + 1) q ∧ Below V.heap.size V W5 :=
  ⟨(g4 _ (by omega)).trans h3, g3, (((Below.refl _ V).alloc (Nat.le_refl _) _).alloc (by simp) _).trans ((AX.below_turn (Nat.le_refl _) (.inl (Array.getElem?_eq_some_iff.1 h3).1) h4 h5).trans (AX.below_turn (Nat.le_succ _) (.inl (Array.getElem?_eq_some_iff.1 g3).1) g4 g5))⟩
theorem RRow.grown {X Y : World} {v : Value} {l : List J} {n : Nat} {row : Option Nat} (h : RRow X v l) (hn : NB n v) (hg : X.grownBy Y row) (hr : ∀ g, row = some g → g < n) : RRow Y v l := by
  obtain ⟨la, c, rfl, h1, h2⟩ := h
  refine ⟨la, c, rfl, h1, fun a e => ?_⟩
  obtain ⟨B, off, rfl, hB, hrow⟩ := h2 a e
  subst e
  have hnB : n ≤ B := hn _ _ _ rfl
  have e := hg.block B hB (fun e => by have := hr B e.symm; omega)
  have hlt : B < Y.heap.size := by
    rw [Array.getElem?_eq_getElem hB] at e
    exact (Array.getElem?_eq_some_iff.1 e).1
  exact ⟨B, off, rfl, hlt, hrow.same e⟩
theorem one_box {V W4 : World} {p : J} (h3 : W4.heap[V.heap.size]? = some (.cells ([.int .i64 p.s, .int .i64 p.f, .int .i64 p.t, .int .i64 p.a, .int .i64 p.l]).toArray 38 (0, 0))) (h4 : ∀ k, k ≠ V.heap.size → W4.heap[k]? = (V.alloc (.cells #[.int .i64 0, .int .i64 0, .int .i64 0, .int .i64 0, .int .i64 0] 38)).heap[k]?) (h5 : AX.Same (V.alloc (.cells #[.int .i64 0, .int .i64 0, .int .i64 0, .int .i64 0, .int .i64 0] 38)) W4) : Box5 W4 V.heap.size p ∧ Below V.heap.size V W4 :=
  ⟨h3, ((Below.refl _ V).alloc (Nat.le_refl _) _).trans (AX.below_turn (Nat.le_refl _) (.inl (Array.getElem?_eq_some_iff.1 h3).1) h4 h5)⟩
set_option maxRecDepth 100000 in
set_option maxHeartbeats 4000000 in
theorem add_k (l : List J) (hl : l.length ≤ 32) {a d i room : Int} (ha : Rg a) (hd : Rg d) (hi : Rg i) (la : Option Addr) (c : Nat) (w : World) (hw0 : 0 < w.heap.size) (hT : TabAt w) (hL : l ≠ [] → ∃ B off, la = some ⟨B, off, none⟩ ∧ B < w.heap.size ∧ JRow w B off l)
    (hs : ∀ x ∈ l, 0 ≤ x.s ∧ x.s < 64) (hso : l.Pairwise fun x y => x.s < y.s) (hex : ∃ j, j < 64 ∧ usedF l j = false) (hM : ∀ x ∈ l, RgJ x ∧ RgJ (mvJ a d i x)) (hai : Rg (a + i)) (hi0 : 0 ≤ i) (hroom : 1 ≤ room ∧ (l.length : Int) ≤ room) (hmay : mayV (checkV l) a d i room l.length = true) :
    Calls Tryd.prog 8 #[.slice la l.length c, .agg #[.int .i64 a, .int .i64 d, .int .i64 i], .int .i64 room] w fun e w' => AddPost a d i room l w e w' := by
  have h3 := Box3.new w a d i
  have hB0 : Below w.heap.size w (w.alloc (.cells #[.int .i64 a, .int .i64 d, .int .i64 i] 27)) := (Below.refl _ w).alloc (Nat.le_refl _) _
  have hL' : ∀ W, Below w.heap.size w W → l ≠ [] → ∃ B off, la = some ⟨B, off, none⟩ ∧ B < W.heap.size ∧ JRow W B off l := fun W hb h => by
    obtain ⟨B, off, h1, h2, h3⟩ := hL h
    exact ⟨B, off, h1, Nat.lt_of_lt_of_le h2 hb.size, h3.below hb h2⟩
  have h21 := fun W (hb : Below w.heap.size w W) => may_k l (by omega) la c a d i room W (hL' W hb)
  rw [hmay] at h21
  have h22 := fun W (hb : Below w.heap.size w W) => free_k l (by omega) hs hex la c W (Nat.lt_of_lt_of_le hw0 hb.size) (hT.below hb hw0) (hL' W hb)
  have h23 := fun W => new_k ha hd hi W
  have H21 := Lib.hid h21
  have H22 := Lib.hid h22
  clear h21 h22 hmay hex
  go_enter Tryd.func8, Tryd.ntmps8
  go_wp2_with fail
  generalize w.alloc (.cells #[.int .i64 a, .int .i64 d, .int .i64 i] 27) = W0 at *
  go_wp2_with (go_at_call 21; ((with_reducible refine (H21.out _ hB0).mono ?_); rintro e W1 ⟨rfl, hb1⟩; have hB1 := hB0.trans (hb1.mono hB0.size); have h31 := h3.below hb1 h3.lt; obtain ⟨e0, e1, e2⟩ := h31.at))
  rename_i K hK
  have key : ∀ (Bo r : Nat) (W3 : World), w.heap.size < Bo → Box5 W3 Bo ⟨r, a, a + i, 0, 0⟩ → Box3 W3 w.heap.size a d i → Below w.heap.size w W3 → (r < 64 ∧ usedF l r = false ∧ ∀ j, j < r → usedF l j = true) →
      K { tmps := #[.slice la l.length c, .agg #[.int .i64 a, .int .i64 d, .int .i64 i], .int .i64 room, undef, .pointer (some ⟨w.heap.size, 0, none⟩), undef, .slice none 0 0, .int .i64 0, .slice none 0 0, .int .i64 0, .pointer (some ⟨Bo, 0, none⟩), undef, undef, undef, undef, undef, undef, undef, .slice la l.length c, .agg #[.int .i64 a, .int .i64 d, .int .i64 i], .int .i64 room, .bool true, .bool false, .slice la l.length c, .int .i64 r, .agg #[.int .i64 a, .int .i64 d, .int .i64 i], .agg #[.int .i64 a, .int .i64 (a + i)], .agg #[.int .i64 r, .int .i64 a, .int .i64 (a + i), .int .i64 0, .int .i64 0], undef, undef, undef, undef, undef, undef, undef, undef, undef, undef, undef, undef, undef, undef, undef, undef, undef, undef, undef, undef, undef, undef, undef, undef, undef, undef, undef, undef, undef, undef, undef, undef, undef, undef, undef, undef, undef, undef, undef, undef, undef, undef, undef, undef, undef, undef, undef, undef, undef, undef, undef, undef, undef, undef, undef, undef, undef, undef, undef, undef, undef, undef, undef, undef, undef, undef, undef, undef, undef, undef, undef, undef, undef, undef, undef, undef, undef, undef, undef, undef, undef, undef, undef, undef, undef, undef, undef, undef, undef, undef, undef, undef, undef, undef, undef], defers := [] } W3 := by
    intro Bo r W3 hBo hOwn hE hb3 hr
    have HR := Lib.hid hr
    clear hr hs hT
    refine hK _ _ ?_
    clear hK e0 e1 e2 h31 hB1 hb1 h3 hB0
    have hr0 := fun W (hb : Below w.heap.size w W) => hL' W hb
    obtain ⟨base, hbase⟩ : ∃ base, base = W3.heap.size := ⟨_, rfl⟩
    have hBb : Bo < base := by have := hOwn.lt; omega
    have hEb : w.heap.size < base := by omega
    have hS3 : Ast w base Bo a d i (.slice none 0 0) (.slice none 0 0) ⟨[], ⟨r, a, a + i, 0, 0⟩, 0, []⟩ W3 := ⟨hb3, World.ownsRow_nil _ _ _ _, World.ownsRow_nil _ _ _ _, hOwn, hE, by omega⟩
    go_wp2_with fail
    go_loopw [6, 8, 11, 30] (fun v6 v8 n i' wr => ∃ (k : Nat) (s : AS), k ≤ l.length ∧ i' = .int .i64 k ∧ n = .int .i64 s.n ∧ Ast w base Bo a d i v6 v8 s wr ∧ Abd k s ∧ Hid (s = (l.take k).foldl (stepA a d i) ⟨[], ⟨r, a, a + i, 0, 0⟩, 0, []⟩)) (fun _ _ _ i' _ => l.length - (intOf i').toNat)
    case atStart => exact ⟨0, _, Nat.zero_le _, rfl, rfl, hS3, ⟨by show a ≤ a + i; omega, (by simp), ⟨ha, hai⟩, Nat.le_refl _, Nat.le_refl _, Nat.le_refl _⟩, Lib.hid rfl⟩
    case round =>
      obtain ⟨k, s, hk, rfl, rfl, hS, hA, hs⟩ := hrel
      clear hS3 hOwn hE hb3
      by_cases hlt : k < l.length
      · obtain ⟨B, off, hla, hBl, hRow⟩ := hL' wr hS.b (by intro e; subst e; cases hlt)
        subst hla
        obtain ⟨y0, y1, y2, y3, y4⟩ := hRow k hlt
        have htk : Hid (l.take (k + 1) = l.take k ++ [l[k]]) := Lib.hid (List.take_succ_eq_append_getElem hlt)
        obtain ⟨hx1, hx2⟩ := hM l[k] (List.getElem_mem hlt)
        generalize l[k] = x at *
        have hk0 : (0 : Int) ≤ (k : Int) := by omega
        have hk1 : (k : Int) < (l.length : Int) := by omega
        have hT0 := Bx.new wr 38 #[.int .i64 0, .int .i64 0, .int .i64 0, .int .i64 0, .int .i64 0]
        have hA0 : Below wr.heap.size wr (wr.alloc (.cells #[.int .i64 0, .int .i64 0, .int .i64 0, .int .i64 0, .int .i64 0] 38)) := (Below.refl _ wr).alloc (Nat.le_refl _) _
        have hP1 : ∀ W, (W.heap[wr.heap.size]? = some (.cells #[.int .i64 x.s, .int .i64 x.f, .int .i64 x.t, .int .i64 x.a, .int .i64 x.l] 38 (0, 0))) → (∀ k, k ≠ wr.heap.size → W.heap[k]? = (wr.alloc (.cells #[.int .i64 0, .int .i64 0, .int .i64 0, .int .i64 0, .int .i64 0] 38)).heap[k]?) → AX.Same (wr.alloc (.cells #[.int .i64 0, .int .i64 0, .int .i64 0, .int .i64 0, .int .i64 0] 38)) W → Below wr.heap.size wr W := fun W h3 h4 h5 => hA0.trans (AX.below_turn (Nat.le_refl _) (.inl (Array.getElem?_eq_some_iff.1 h3).1) h4 h5)
        have h24 := fun W => move_k hx1.1 hx1.2 ha hd hi W
        go_wp2_with (first
          | ((with_reducible refine st_id ?_); refine AX.wpList_storeBox (vs := [.int .i64 x.s, .int .i64 x.f, .int .i64 x.t, .int .i64 x.a, .int .i64 x.l]) rfl rfl sz38' hT0 rfl rfl ?_; rintro W4 h3 h4 h5; have hX4 : Box5 W4 wr.heap.size x := h3; have hB4 := hP1 W4 h3 h4 h5; have hE4 := (hS.e.below hB4 hS.e.lt); obtain ⟨x0, x1, x2, x3, x4⟩ := hX4.cs; obtain ⟨e0, e1, e2⟩ := hE4.at; clear h3 h4 h5)
          | (go_at_call 24; ((with_reducible refine (h24 _).mono ?_); rintro e W5 ⟨rfl, hb5⟩; have hX5 := hX4.below hb5 hX4.lt; have hB5 := hB4.trans (hb5.mono hB4.size)))
          | ((with_reducible refine st_id ?_); refine AX.wpList_storeAt (o := 1) (vs := [.int .i64 (stt x.f a d i), .int .i64 (max (stt x.f a d i) (enn x.t a d i))]) rfl rfl sz33 hX5 (show 3 ≤ 5 by decide) rfl ?_; rintro W6 h3 h4 h5; have hX6 : Box5 W6 wr.heap.size (mvJ a d i x) := h3; have hB6 := hB5.trans (AX.below_turn (Nat.le_refl _) (.inl hX6.lt) h4 h5); clear h3 h4 h5))
        obtain ⟨y, hy⟩ : ∃ y, y = mvJ a d i x := ⟨_, rfl⟩
        rw [← hy] at hX6 hx2
        obtain ⟨b, hb⟩ : ∃ b, b = tch a i y := ⟨_, rfl⟩
        have k25 := fun W => touch_k hx2.1 hx2.2 ha hai W
        rw [show (decide (y.f ≤ a + i) && decide (a ≤ y.t)) = b from hb.symm] at k25
        have HY := Lib.hid (And.intro hy hb)
        clear hy hb h24 hP1 hA0 hT0 hX4 hB4 hE4 hB5 hX5 y0 y1 y2 y3 y4 x0 x1 x2 x3 x4 e0 e1 e2 hb5
        have hE6 := hS.e.below hB6 hS.e.lt
        obtain ⟨C, hCi, hCo⟩ : ∃ C : World → Prop, (∀ Z, C Z → Below W6.heap.size W6 Z) ∧ (∀ Z, Below W6.heap.size W6 Z → C Z) := ⟨fun Z => Below W6.heap.size W6 Z, fun _ h => h, fun _ h => h⟩
        have hW1 : C W6.drew := hCo _ (Below.refl _ W6).drew
        haveI : Inhabited (AX.CW C) := ⟨⟨_, hW1⟩⟩
        have a0 := fun p : AX.CW C => (hX6.below (hCi _ p.h) hX6.lt).cs.1; have a1 := fun p : AX.CW C => (hX6.below (hCi _ p.h) hX6.lt).cs.2.1; have a2 := fun p : AX.CW C => (hX6.below (hCi _ p.h) hX6.lt).cs.2.2.1
        have b0 := fun p : AX.CW C => (hE6.below (hCi _ p.h) hE6.lt).at.1; have b1 := fun p : AX.CW C => (hE6.below (hCi _ p.h) hE6.lt).at.2.1; have b2 := fun p : AX.CW C => (hE6.below (hCi _ p.h) hE6.lt).at.2.2
        have HC := Lib.hid hCo
        have f0 := (Below.refl W6.heap.size W6).drew
        clear hCo hCi
        refine AX.region_mixF (C := fun W => ∃ p : AX.CW C, W = p.W) row8_9 inf8_9 (by kernel_rfl) (by kernel_rfl) (by kernel_rfl) (by kernel_rfl) fit8_9 (by intro c a d v w h; cases d <;> exact h) ⟨⟨_, hW1⟩, rfl⟩ ?_
        unfold row8_9
        repeat (refine AX.mix_plain _ (by rfl) ?_; go_big_quiet_step (fail); refine wpQuiet_nil ?_)
        refine AX.mix_call2 (h23 _) (by rfl) (by rfl) (by rfl) Tryd.func23 (by kernel_rfl) (by rfl) (by simp only [List.map_toArray, List.map_cons, List.map_nil]; rfl) ?_
        rintro e W7 ⟨rfl, hb7⟩
        have f1 := f0.trans (hb7.mono f0.size)
        refine ⟨_, rfl, ⟨⟨_, HC.out _ f1⟩, rfl⟩, ?_⟩
        simp only [Act.put, List.setIfInBounds_toArray, List.set_cons_succ, List.set_cons_zero]
        refine AX.mix_call2 (k25 _) (by rfl) (by rfl) (by rfl) Tryd.func25 (by kernel_rfl) (by rfl) (by simp only [List.map_toArray, List.map_cons, List.map_nil]; rfl) ?_
        rintro e W8 ⟨rfl, hb8⟩
        have f2 := f1.trans (hb8.mono f1.size)
        refine ⟨_, rfl, ⟨⟨_, HC.out _ f2⟩, rfl⟩, ?_⟩
        simp only [Act.put, List.setIfInBounds_toArray, List.set_cons_succ, List.set_cons_zero]
        refine AX.mix_plain _ (by rfl) ?_
        go_big_quiet_step (fail)
        refine wpQuiet_nil ?_
        unfold AX.wpMix
        have hX8 := hX6.below f2 hX6.lt
        have hB8 := hB6.trans (f2.mono hB6.size)
        clear a0 a1 a2 b0 b1 b2 HC hW1 f0 f1 f2 hb7 hb8 k25 hE6 hX6 hB6
        obtain ⟨x0, x1, x2, x3, x4⟩ := hX8.cs
        have hS8 := hS.below hB8
        have hTl := hX8.lt
        cases b
        · have hS9 := hS8.below ((Below.refl _ W8).alloc (Nat.le_refl _) (.cells #[.int .i64 y.s, .int .i64 y.f, .int .i64 y.t, .int .i64 y.a, .int .i64 y.l] 38))
          go_wp2_with (at_builtin; refine append_j1 _ base _ s.out y rfl _ _ rfl rfl hS9.r6 ⟨W8.heap.size, 0, none⟩ rfl (jcells_new W8 y) (by have := hA.o; omega) hS9.z ?_; intro v' w1 hown hg; have hSa := hS9.app6 hBb hEb hown hg)
          have hOo : ∀ z ∈ s.out ++ [y], SpJ z := fun z hz => by
            rcases List.mem_append.1 hz with h | h
            · exact hA.oo z h
            · obtain rfl := List.mem_singleton.1 h
              refine ⟨hx2.1, hx2.2, ?_⟩
              rw [HY.out.1]
              exact Int.le_max_left _ _
          refine ⟨⟨k + 1, ⟨s.out ++ [y], s.own, s.n, s.went⟩, by omega, by simp, rfl, hSa, ⟨hA.of, hOo, hA.own, by have := hA.o; simp; omega, by have := hA.w; simp; omega, by have := hA.n; simp; omega⟩, Lib.hid ?_⟩, by simp [intOf]; omega⟩
          rw [htk.out, List.foldl_append, ← hs.out]
          obtain ⟨h1, h2⟩ := HY.out
          simp only [List.foldl_cons, List.foldl_nil, stepA, ← h1, ← h2]
          simp
        · have hnk := hA.n
          have hO8 := hS8.o
          obtain ⟨q0, q1, q2, q3, q4⟩ := hO8.cs
          have hzz := hS.z
          have h26 := fun W => join_k hA.own.1 hA.own.2 hx2.1 hx2.2 W
          by_cases hn : s.n = 0
          · have hn0 : (s.n : Int) + 1 = 1 := by omega
            go_wp2_with ((with_reducible refine st_id ?_); refine AX.wpList_storeCell (o := 0) (v := .int .i64 y.s) rfl rfl rfl sz3' hO8 (show 0 < 5 by decide) ?_; rintro W9 h3 h4 h5; have hO9 : Box5 W9 Bo ⟨y.s, s.own.f, s.own.t, s.own.a, s.own.l⟩ := h3; have hS9 := hS8.turn hBb hBo hO9 h4 h5; have hX9 : Box5 W9 wr.heap.size y := (h4 _ (by omega)).trans hX8)
            clear x0 x1 x2 x3 x4 q0 q1 q2 q3 q4 hO8 hO9
            obtain ⟨C, hCi, hCo⟩ : ∃ C : World → Prop, (∀ Z, C Z → Below W9.heap.size W9 Z) ∧ (∀ Z, Below W9.heap.size W9 Z → C Z) := ⟨fun Z => Below W9.heap.size W9 Z, fun _ h => h, fun _ h => h⟩
            obtain ⟨D, hDi, hDo⟩ : ∃ D : World → Prop, (∀ Z, D Z → Box5 Z wr.heap.size y) ∧ (∀ Z, Box5 Z wr.heap.size y → D Z) := ⟨fun Z => Box5 Z wr.heap.size y, fun _ h => h, fun _ h => h⟩
            have hW1 : C W9.drew := hCo _ (Below.refl _ W9).drew
            have hD1 : D W9.drew := hDo _ hX9
            haveI : Inhabited (AX.CW C) := ⟨⟨_, hW1⟩⟩
            haveI : Inhabited (AX.CW D) := ⟨⟨_, hD1⟩⟩
            have hO9 := hS9.o
            have a0 := fun p : AX.CW D => (hDi _ p.h).cs.1; have a1 := fun p : AX.CW D => (hDi _ p.h).cs.2.1; have a2 := fun p : AX.CW D => (hDi _ p.h).cs.2.2.1; have a3 := fun p : AX.CW D => (hDi _ p.h).cs.2.2.2.1
            have b0 := fun p : AX.CW C => (hO9.below (hCi _ p.h) hO9.lt).cs.1; have b1 := fun p : AX.CW C => (hO9.below (hCi _ p.h) hO9.lt).cs.2.1; have b2 := fun p : AX.CW C => (hO9.below (hCi _ p.h) hO9.lt).cs.2.2.1; have b3 := fun p : AX.CW C => (hO9.below (hCi _ p.h) hO9.lt).cs.2.2.2.1
            have HC := Lib.hid hCo
            have HD := Lib.hid hDo
            have f0 := (Below.refl W9.heap.size W9).drew
            have gT := hX9.lt
            clear hCo hCi hDo hDi
            refine AX.region_mixL (C := fun W => ∃ p : AX.CW C, W = p.W) (CT := fun W => ∃ p : AX.CW D, W = p.W) 11 [(0, 0), (1, 0), (2, 1), (3, 1), (5, 0), (6, 0), (7, 1), (8, 1), (9, 1), (4, 2), (10, 1), (11, 2), (12, 1), (13, 2)] inf8_15 (by kernel_rfl) (by kernel_rfl) (by kernel_rfl) (by kernel_rfl) (by decide) (by kernel_rfl) (by kernel_rfl) (by intro c a d v w h; cases d <;> exact h) ⟨⟨⟨_, hD1⟩, rfl⟩, ⟨⟨_, hW1⟩, rfl⟩⟩ ?_
            repeat ((first | refine AX.mixL_own _ (by rfl) ?_ | refine AX.mixL_all _ (by rfl) ?_); go_big_quiet_step (fail); refine wpQuiet_nil ?_)
            refine AX.mixL_call (h26 _) (by rfl) (by rfl) (by rfl) Tryd.func26 (by kernel_rfl) (by rfl) (by simp only [List.map_toArray, List.map_cons, List.map_nil]; rfl) ?_
            rintro e W10 ⟨rfl, hb10⟩
            have f1 := f0.trans (hb10.mono f0.size)
            have hX10 := hX9.below f1 gT
            refine ⟨_, rfl, ⟨⟨⟨_, HD.out _ hX10⟩, rfl⟩, fun _ => ⟨⟨_, HC.out _ f1⟩, rfl⟩⟩, ?_⟩
            simp only [Act.put, List.setIfInBounds_toArray, List.set_cons_succ, List.set_cons_zero]
            repeat ((first | refine AX.mixL_own _ (by rfl) ?_ | refine AX.mixL_all _ (by rfl) ?_); go_big_quiet_step (fail); refine wpQuiet_nil ?_)
            refine AX.mixL_op _ (by rfl) (by rfl) ?_
            have hS10 := hS9.below f1
            refine AX.oper_storeAt (o := 1) (vs := [.int .i64 (min s.own.f y.f), .int .i64 (max s.own.t y.t)]) rfl rfl sz33 hS10.o (show 3 ≤ 5 by decide) rfl ?_
            rintro W11 h3 h4 h5
            have hO11 : Box5 W11 Bo ⟨y.s, min s.own.f y.f, max s.own.t y.t, s.own.a, s.own.l⟩ := h3
            have hS11 := hS10.turn hBb hBo hO11 h4 h5
            have hX11 : Box5 W11 wr.heap.size y := (h4 _ (by omega)).trans hX10
            refine ⟨⟨⟨⟨_, HD.out _ hX11⟩, rfl⟩, fun h => by cases h⟩, ?_⟩
            clear h3 h4 h5
            repeat ((first | refine AX.mixL_own _ (by rfl) ?_ | refine AX.mixL_all _ (by rfl) ?_); go_big_quiet_step (fail); refine wpQuiet_nil ?_)
            refine AX.mixL_op _ (by rfl) (by rfl) ?_
            refine AX.oper_storeCell (o := 3) (v := .int .i64 (max s.own.a y.a)) rfl rfl rfl sz3' hS11.o (show 3 < 5 by decide) ?_
            rintro W12 h3 h4 h5
            have hO12 : Box5 W12 Bo ⟨y.s, min s.own.f y.f, max s.own.t y.t, max s.own.a y.a, s.own.l⟩ := h3
            have hS12 := (hS11.turn hBb hBo hO12 h4 h5).cnt (s.n + 1)
            have hX12 : Box5 W12 wr.heap.size y := (h4 _ (by omega)).trans hX11
            refine ⟨⟨⟨⟨_, HD.out _ hX12⟩, rfl⟩, fun h => by cases h⟩, ?_⟩
            clear h3 h4 h5 a0 a1 a2 a3 b0 b1 b2 b3 hW1 hD1 HC HD
            unfold AX.wpMixL
            go_wp2_with fail
            refine ⟨⟨k + 1, ⟨s.out, ⟨y.s, min s.own.f y.f, max s.own.t y.t, max s.own.a y.a, s.own.l⟩, s.n + 1, s.went⟩, by omega, by simp, (by show Value.int .i64 _ = Value.int .i64 ((s.n + 1 : Nat) : Int); first | rfl | (congr 1; omega)), hS12, ⟨by have := hA.of; dsimp only; omega, hA.oo, ⟨by obtain ⟨g1, _⟩ := hA.own; obtain ⟨g2, _⟩ := hx2; unfold Rg at *; dsimp only; omega, by obtain ⟨_, g1⟩ := hA.own; obtain ⟨_, g2⟩ := hx2; unfold Rg at *; dsimp only; omega⟩, by have := hA.o; simp; omega, by have := hA.w; simp; omega, by have := hA.n; simp; omega⟩, Lib.hid ?_⟩, by simp [intOf]; omega⟩
            rw [htk.out, List.foldl_append, ← hs.out]
            obtain ⟨h1, h2⟩ := HY.out
            have e1 : y.s = x.s := by rw [h1]; rfl
            have e2 : y.a = x.a := by rw [h1]; rfl
            simp only [List.foldl_cons, List.foldl_nil, stepA, ← h1, ← h2, e1, e2, hn, if_true]
          · have hn0 : ¬ ((s.n : Int) + 1 = 1) := by omega
            have hS8' := hS8.below ((Below.refl _ W8).alloc (Nat.le_refl _) (.cells #[.int .i64 y.s, .int .i64 s.own.s] 45))
            go_wp2_with (at_builtin; refine append_w1 _ base _ s.went (y.s, s.own.s) rfl _ _ rfl rfl hS8'.r8 ⟨W8.heap.size, 0, none⟩ rfl (wcells_new W8 (y.s, s.own.s)) (by have := hA.w; omega) hS8'.z ?_; intro v' W9 hown hg; have hS9 := hS8'.app8 hBb hEb hown hg; have hX9 : Box5 W9 wr.heap.size y := (hg.block _ (by simp; omega) (fun e => by have := (World.ownsRow.lt hS.r8 _ e.symm).2; omega)).trans ((Below.heap_alloc _ _ _ hTl).trans hX8))
            clear x0 x1 x2 x3 x4 q0 q1 q2 q3 q4 hO8
            obtain ⟨C, hCi, hCo⟩ : ∃ C : World → Prop, (∀ Z, C Z → Below W9.heap.size W9 Z) ∧ (∀ Z, Below W9.heap.size W9 Z → C Z) := ⟨fun Z => Below W9.heap.size W9 Z, fun _ h => h, fun _ h => h⟩
            obtain ⟨D, hDi, hDo⟩ : ∃ D : World → Prop, (∀ Z, D Z → Box5 Z wr.heap.size y) ∧ (∀ Z, Box5 Z wr.heap.size y → D Z) := ⟨fun Z => Box5 Z wr.heap.size y, fun _ h => h, fun _ h => h⟩
            have hW1 : C W9.drew := hCo _ (Below.refl _ W9).drew
            have hD1 : D W9.drew := hDo _ hX9
            haveI : Inhabited (AX.CW C) := ⟨⟨_, hW1⟩⟩
            haveI : Inhabited (AX.CW D) := ⟨⟨_, hD1⟩⟩
            have hO9 := hS9.o
            have a0 := fun p : AX.CW D => (hDi _ p.h).cs.1; have a1 := fun p : AX.CW D => (hDi _ p.h).cs.2.1; have a2 := fun p : AX.CW D => (hDi _ p.h).cs.2.2.1; have a3 := fun p : AX.CW D => (hDi _ p.h).cs.2.2.2.1
            have b0 := fun p : AX.CW C => (hO9.below (hCi _ p.h) hO9.lt).cs.1; have b1 := fun p : AX.CW C => (hO9.below (hCi _ p.h) hO9.lt).cs.2.1; have b2 := fun p : AX.CW C => (hO9.below (hCi _ p.h) hO9.lt).cs.2.2.1; have b3 := fun p : AX.CW C => (hO9.below (hCi _ p.h) hO9.lt).cs.2.2.2.1
            have HC := Lib.hid hCo
            have HD := Lib.hid hDo
            have f0 := (Below.refl W9.heap.size W9).drew
            have gT := hX9.lt
            clear hCo hCi hDo hDi
            refine AX.region_mixL (C := fun W => ∃ p : AX.CW C, W = p.W) (CT := fun W => ∃ p : AX.CW D, W = p.W) 11 [(0, 0), (1, 0), (2, 1), (3, 1), (5, 0), (6, 0), (7, 1), (8, 1), (9, 1), (4, 2), (10, 1), (11, 2), (12, 1), (13, 2)] inf8_15 (by kernel_rfl) (by kernel_rfl) (by kernel_rfl) (by kernel_rfl) (by decide) (by kernel_rfl) (by kernel_rfl) (by intro c a d v w h; cases d <;> exact h) ⟨⟨⟨_, hD1⟩, rfl⟩, ⟨⟨_, hW1⟩, rfl⟩⟩ ?_
            repeat ((first | refine AX.mixL_own _ (by rfl) ?_ | refine AX.mixL_all _ (by rfl) ?_); go_big_quiet_step (fail); refine wpQuiet_nil ?_)
            refine AX.mixL_call (h26 _) (by rfl) (by rfl) (by rfl) Tryd.func26 (by kernel_rfl) (by rfl) (by simp only [List.map_toArray, List.map_cons, List.map_nil]; rfl) ?_
            rintro e W10 ⟨rfl, hb10⟩
            have f1 := f0.trans (hb10.mono f0.size)
            have hX10 := hX9.below f1 gT
            refine ⟨_, rfl, ⟨⟨⟨_, HD.out _ hX10⟩, rfl⟩, fun _ => ⟨⟨_, HC.out _ f1⟩, rfl⟩⟩, ?_⟩
            simp only [Act.put, List.setIfInBounds_toArray, List.set_cons_succ, List.set_cons_zero]
            repeat ((first | refine AX.mixL_own _ (by rfl) ?_ | refine AX.mixL_all _ (by rfl) ?_); go_big_quiet_step (fail); refine wpQuiet_nil ?_)
            refine AX.mixL_op _ (by rfl) (by rfl) ?_
            have hS10 := hS9.below f1
            refine AX.oper_storeAt (o := 1) (vs := [.int .i64 (min s.own.f y.f), .int .i64 (max s.own.t y.t)]) rfl rfl sz33 hS10.o (show 3 ≤ 5 by decide) rfl ?_
            rintro W11 h3 h4 h5
            have hO11 : Box5 W11 Bo ⟨s.own.s, min s.own.f y.f, max s.own.t y.t, s.own.a, s.own.l⟩ := h3
            have hS11 := hS10.turn hBb hBo hO11 h4 h5
            have hX11 : Box5 W11 wr.heap.size y := (h4 _ (by omega)).trans hX10
            refine ⟨⟨⟨⟨_, HD.out _ hX11⟩, rfl⟩, fun h => by cases h⟩, ?_⟩
            clear h3 h4 h5
            repeat ((first | refine AX.mixL_own _ (by rfl) ?_ | refine AX.mixL_all _ (by rfl) ?_); go_big_quiet_step (fail); refine wpQuiet_nil ?_)
            refine AX.mixL_op _ (by rfl) (by rfl) ?_
            refine AX.oper_storeCell (o := 3) (v := .int .i64 (max s.own.a y.a)) rfl rfl rfl sz3' hS11.o (show 3 < 5 by decide) ?_
            rintro W12 h3 h4 h5
            have hO12 : Box5 W12 Bo ⟨s.own.s, min s.own.f y.f, max s.own.t y.t, max s.own.a y.a, s.own.l⟩ := h3
            have hS12 := (hS11.turn hBb hBo hO12 h4 h5).cnt (s.n + 1)
            have hX12 : Box5 W12 wr.heap.size y := (h4 _ (by omega)).trans hX11
            refine ⟨⟨⟨⟨_, HD.out _ hX12⟩, rfl⟩, fun h => by cases h⟩, ?_⟩
            clear h3 h4 h5 a0 a1 a2 a3 b0 b1 b2 b3 hW1 hD1 HC HD
            unfold AX.wpMixL
            go_wp2_with fail
            refine ⟨⟨k + 1, ⟨s.out, ⟨s.own.s, min s.own.f y.f, max s.own.t y.t, max s.own.a y.a, s.own.l⟩, s.n + 1, s.went ++ [(y.s, s.own.s)]⟩, by omega, by simp, (by show Value.int .i64 _ = Value.int .i64 ((s.n + 1 : Nat) : Int); first | rfl | (congr 1; omega)), hS12, ⟨by have := hA.of; dsimp only; omega, hA.oo, ⟨by obtain ⟨g1, _⟩ := hA.own; obtain ⟨g2, _⟩ := hx2; unfold Rg at *; dsimp only; omega, by obtain ⟨_, g1⟩ := hA.own; obtain ⟨_, g2⟩ := hx2; unfold Rg at *; dsimp only; omega⟩, by have := hA.o; simp; omega, by have := hA.w; simp; omega, by have := hA.n; simp; omega⟩, Lib.hid ?_⟩, by simp [intOf]; omega⟩
            rw [htk.out, List.foldl_append, ← hs.out]
            obtain ⟨h1, h2⟩ := HY.out
            have e1 : y.s = x.s := by rw [h1]; rfl
            have e2 : y.a = x.a := by rw [h1]; rfl
            simp only [List.foldl_cons, List.foldl_nil, stepA, ← h1, ← h2, e1, e2, hn, if_true, if_false]
      · obtain rfl : k = l.length := by omega
        have hs := hs.out
        rw [List.take_length] at hs
        have HS := Lib.hid hs
        clear hs
        go_wp2_with fail
        have hQs := fold_Qs a d i (r : Int) l
        rw [← HS.out] at hQs
        have hsr := hQs.sorted hso
        have hfr := hQs.fresh hso (fun x hx e => by
          have := HR.out.2.1
          unfold usedF at this
          rw [List.any_eq_false] at this
          exact this x hx (by simpa using e))
        have hnr : s.out.length ≤ l.length := hA.o
        have HQ := Lib.hid hQs
        clear hQs
        have hO := hS.o
        have hR6 := hS.r6.read
        obtain ⟨C, hCi, hCo⟩ : ∃ C : World → Prop, (∀ Z, C Z → Below wr.heap.size wr Z) ∧ (∀ Z, Below wr.heap.size wr Z → C Z) := ⟨fun Z => Below wr.heap.size wr Z, fun _ h => h, fun _ h => h⟩
        have hW1 : C wr.drew := hCo _ (Below.refl _ wr).drew
        haveI : Inhabited (AX.CW C) := ⟨⟨_, hW1⟩⟩
        have b0 := fun p : AX.CW C => (hO.below (hCi _ p.h) hO.lt).cs.1; have b1 := fun p : AX.CW C => (hO.below (hCi _ p.h) hO.lt).cs.2.1; have b2 := fun p : AX.CW C => (hO.below (hCi _ p.h) hO.lt).cs.2.2.1; have b3 := fun p : AX.CW C => (hO.below (hCi _ p.h) hO.lt).cs.2.2.2.1; have b4 := fun p : AX.CW C => (hO.below (hCi _ p.h) hO.lt).cs.2.2.2.2
        have HC := Lib.hid hCo
        have f0 := (Below.refl wr.heap.size wr).drew
        clear hCo hCi
        have h27 := dput_k (by omega) hsr s.own wr.drew (hR6.below f0)
        refine AX.region_mixF (C := fun W => ∃ p : AX.CW C, W = p.W) row8_17 inf8_17 (by kernel_rfl) (by kernel_rfl) (by kernel_rfl) (by kernel_rfl) fit8_17 (by intro c a d v w h; cases d <;> exact h) ⟨⟨_, hW1⟩, rfl⟩ ?_
        unfold row8_17
        repeat (refine AX.mix_plain _ (by rfl) ?_; go_big_quiet_step (fail); refine wpQuiet_nil ?_)
        refine AX.mix_call2 h27 (by rfl) (by rfl) (by rfl) Tryd.func27 (by kernel_rfl) (by rfl) (by simp only [List.map_toArray, List.map_cons, List.map_nil]; rfl) ?_
        rintro e W2 ⟨⟨v6', i2, rfl, hR2, hI2⟩, hb2⟩
        have f1 := f0.trans (hb2.mono f0.size)
        refine ⟨_, rfl, ⟨⟨_, HC.out _ f1⟩, rfl⟩, ?_⟩
        simp only [Act.put, List.setIfInBounds_toArray, List.set_cons_succ, List.set_cons_zero]
        repeat (refine AX.mix_plain _ (by rfl) ?_; go_big_quiet_step (fail); refine wpQuiet_nil ?_)
        unfold AX.wpMix
        obtain ⟨o2, ho2⟩ : ∃ o2, o2 = s.out.take i2 ++ s.own :: s.out.drop i2 := ⟨_, rfl⟩
        rw [← ho2] at hR2
        have hIns : Ins s.out s.own o2 := ⟨i2, hI2.1, ho2, hI2.2.1, hI2.2.2.1⟩
        have ho2s := hIns.sorted hsr hfr
        have ho2b : ∀ x ∈ o2, SpJ x := fun x hx => by
          rcases hIns.mem.1 hx with rfl | h
          · exact ⟨hA.own.1, hA.own.2, hA.of⟩
          · exact hA.oo x h
        have ho2l : o2.length ≤ 33 ∧ (o2.length : Int) ≤ room + 1 := by have := hIns.len; omega
        have hSb := hS.b.trans (f1.mono hS.b.size)
        have hS8 := hS.r8.below f1
        have hSz := Nat.le_trans hS.z f1.size
        have hAw := hA.w
        have HI := Lib.hid hIns
        clear b0 b1 b2 b3 b4 HC hW1 f0 f1 hb2 h27 hO hR6 hS hA ho2 hI2 hIns hsr hfr hs
        obtain ⟨sl, hsl⟩ : ∃ sl, sl = s.own.s := ⟨_, rfl⟩
        rw [← hsl]
        have HSL := Lib.hid hsl
        clear hsl
        go_wp2_with fail
        go_loopw [6, 7, 8] (fun v6 v7 v8 wr => ∃ (o : List J) (sl' : Int) (wt : List (Int × Int)), v7 = .int .i64 sl' ∧ RRow wr v6 o ∧ WRow wr base v8 wt ∧ wt.length ≤ 40 ∧ Below w.heap.size w wr ∧ base ≤ wr.heap.size ∧ Hid (Nx2 room s o2 o sl' wt)) (fun v6 _ _ _ => slLen v6)
        case atStart => exact ⟨o2, sl, s.went, rfl, hR2, hS8, by omega, hSb, hSz, Lib.hid (.inl ⟨rfl, HSL.out, rfl⟩)⟩
        case round =>
          obtain ⟨o, sl', wt, rfl, hR, hWt, hwl, hBr, hzr, hN⟩ := hrel
          clear hS8 hSb hSz hR2
          obtain ⟨la', c', rfl, hR'⟩ : ∃ la' c', u6 = .slice la' o.length c' ∧ RRow wr u6 o := by
            obtain ⟨la', c', e, h⟩ := id hR
            exact ⟨la', c', e, hR⟩
          clear hR
          by_cases hg : room < (o.length : Int)
          · obtain ⟨rfl, hsl2, rfl⟩ := hN.out.len (by omega) hg
            have h28 := nearest_k o (by omega) (by omega) (slots_ne ho2s) ho2b wr hR'
            have HH := Lib.hid hsl2
            clear hsl2 hN
            unfold J.v at h28
            go_wp2_with (first
              | (go_at_call 28; ((with_reducible refine h28.mono ?_); rintro e W4 ⟨⟨p, q, rfl, hp, hq, hne⟩, hb4⟩; have hB4 := hBr.trans (hb4.mono hBr.size); have b1 := (Bx.new W4 38 #[.int .i64 0, .int .i64 0, .int .i64 0, .int .i64 0, .int .i64 0]).alloc (.cells #[.int .i64 0, .int .i64 0, .int .i64 0, .int .i64 0, .int .i64 0] 38); have b2 := Bx.new (W4.alloc (.cells #[.int .i64 0, .int .i64 0, .int .i64 0, .int .i64 0, .int .i64 0] 38)) 38 #[.int .i64 0, .int .i64 0, .int .i64 0, .int .i64 0, .int .i64 0]; rw [World.size_alloc] at b2; have h29 := fun W => joined_k ⟨(ho2b p hp).1, (ho2b p hp).2.1⟩ ⟨(ho2b q hq).1, (ho2b q hq).2.1⟩ W; obtain ⟨z, hz⟩ : ∃ z, z = joinJ p q := ⟨_, rfl⟩; rw [← hz] at h29; have HZ := Lib.hid hz; clear hz; unfold J.v at h29))
              | ((with_reducible refine st_id ?_); refine AX.wpList_storeBox (vs := [.int .i64 p.s, .int .i64 p.f, .int .i64 p.t, .int .i64 p.a, .int .i64 p.l]) rfl rfl sz38' b1 rfl rfl ?_; rintro W5 h3 h4 h5; have b3 : Bx W5 (W4.heap.size + 1) 38 #[.int .i64 0, .int .i64 0, .int .i64 0, .int .i64 0, .int .i64 0] := (h4 _ (by omega)).trans b2)
              | ((with_reducible refine st_id ?_); refine AX.wpList_storeBox (vs := [.int .i64 q.s, .int .i64 q.f, .int .i64 q.t, .int .i64 q.a, .int .i64 q.l]) rfl rfl sz38' b3 rfl rfl ?_; rintro W6 g3 g4 g5; obtain ⟨hp6, hq6, hb6⟩ := two_boxes h3 h4 h5 g3 g4 g5; obtain ⟨p0, p1, p2, p3, p4⟩ := hp6.cs; obtain ⟨q0, q1, q2, q3, q4⟩ := hq6.cs; clear h3 h4 h5 g3 g4 g5)
              | (go_at_call 29; ((with_reducible refine (h29 _).mono ?_); rintro e W7 ⟨rfl, hb7⟩; have hp7 := hp6.below hb7 hp6.lt; have hq7 := hq6.below hb7 hq6.lt; have b7 := Bx.new W7 38 #[.int .i64 0, .int .i64 0, .int .i64 0, .int .i64 0, .int .i64 0]))
              | ((with_reducible refine st_id ?_); refine AX.wpList_storeBox (vs := [.int .i64 z.s, .int .i64 z.f, .int .i64 z.t, .int .i64 z.a, .int .i64 z.l]) rfl rfl sz38' b7 rfl rfl ?_; rintro W8 h3 h4 h5; obtain ⟨hz8, hb8⟩ := one_box h3 h4 h5; have hp8 := hp7.below hb8 hp7.lt; have hq8 := hq7.below hb8 hq7.lt; obtain ⟨u0, u1, u2, u3, u4⟩ := hp8.cs; obtain ⟨v0, v1, v2, v3, v4⟩ := hq8.cs))
            clear p0 p1 p2 p3 p4 q0 q1 q2 q3 q4 h3 h4 h5 b1 b2 b3 b7 hp6 hq6 hp7 hq7 u0 u1 u2 u3 u4 v0 v1 v2 v3 v4
            have hB8 : Below wr.heap.size wr W8 := ((hb4.trans (hb6.mono hb4.size)).trans (hb7.mono (Nat.le_trans hb4.size hb6.size))).trans (hb8.mono (Nat.le_trans hb4.size (Nat.le_trans hb6.size hb7.size)))
            have hR8 := hR'.below hB8
            have hW8 := hWt.below hB8
            have hBr8 := hBr.trans (hB8.mono hBr.size)
            have hlt8 := hB8.size
            have hwlt := fun g e => (World.ownsRow.lt hWt g e).2
            have h7 : wr.heap.size ≤ W7.heap.size := Nat.le_trans hb4.size (Nat.le_trans hb6.size hb7.size)
            clear hb4 hb6 hb7 hb8 hR' hWt hB4 h28
            obtain ⟨C, hCi, hCo⟩ : ∃ C : World → Prop, (∀ Z, C Z → Below W8.heap.size W8 Z) ∧ (∀ Z, Below W8.heap.size W8 Z → C Z) := ⟨fun Z => Below W8.heap.size W8 Z, fun _ h => h, fun _ h => h⟩
            have hW1 : C W8.drew := hCo _ (Below.refl _ W8).drew
            haveI : Inhabited (AX.CW C) := ⟨⟨_, hW1⟩⟩
            have a0 := fun p : AX.CW C => (hp8.below (hCi _ p.h) hp8.lt).cs.1
            have b0 := fun p : AX.CW C => (hq8.below (hCi _ p.h) hq8.lt).cs.1
            have c0 := fun p : AX.CW C => (hz8.below (hCi _ p.h) hz8.lt).cs.1; have c1 := fun p : AX.CW C => (hz8.below (hCi _ p.h) hz8.lt).cs.2.1; have c2 := fun p : AX.CW C => (hz8.below (hCi _ p.h) hz8.lt).cs.2.2.1; have c3 := fun p : AX.CW C => (hz8.below (hCi _ p.h) hz8.lt).cs.2.2.2.1; have c4 := fun p : AX.CW C => (hz8.below (hCi _ p.h) hz8.lt).cs.2.2.2.2
            have HC := Lib.hid hCo
            have f0 := (Below.refl W8.heap.size W8).drew
            clear hCo hCi
            have h19 := drop_k (by omega) p.s W8.drew (hR8.below f0)
            refine AX.region_mixF (C := fun W => ∃ p : AX.CW C, W = p.W) row8_22 inf8_22 (by kernel_rfl) (by kernel_rfl) (by kernel_rfl) (by kernel_rfl) fit8_22 (by intro c a d v w h; cases d <;> exact h) ⟨⟨_, hW1⟩, rfl⟩ ?_
            unfold row8_22
            repeat (refine AX.mix_plain _ (by rfl) ?_; go_big_quiet_step (fail); refine wpQuiet_nil ?_)
            refine AX.mix_call2 h19 (by rfl) (by rfl) (by rfl) Tryd.func19 (by kernel_rfl) (by rfl) (by simp only [List.map_toArray, List.map_cons, List.map_nil]; rfl) ?_
            rintro e W9 ⟨⟨v9, rfl, hR9⟩, hb9⟩
            have f1 := f0.trans (hb9.mono f0.size)
            refine ⟨_, rfl, ⟨⟨_, HC.out _ f1⟩, rfl⟩, ?_⟩
            simp only [Act.put, List.setIfInBounds_toArray, List.set_cons_succ, List.set_cons_zero]
            have l9 : (o.filter fun x => x.s != p.s).length ≤ o.length := List.length_filter_le _ _
            refine AX.mix_call2 (drop_k (by omega) q.s W9 hR9) (by rfl) (by rfl) (by rfl) Tryd.func19 (by kernel_rfl) (by rfl) (by simp only [List.map_toArray, List.map_cons, List.map_nil]; rfl) ?_
            rintro e W10 ⟨⟨v10, rfl, hR10⟩, hb10⟩
            have f2 := f1.trans (hb10.mono f1.size)
            refine ⟨_, rfl, ⟨⟨_, HC.out _ f2⟩, rfl⟩, ?_⟩
            simp only [Act.put, List.setIfInBounds_toArray, List.set_cons_succ, List.set_cons_zero]
            have l10 : ((o.filter fun x => x.s != p.s).filter fun x => x.s != q.s).length ≤ (o.filter fun x => x.s != p.s).length := List.length_filter_le _ _
            refine AX.mix_call2 (dput_k (by omega) (List.Pairwise.filter _ (List.Pairwise.filter _ ho2s)) z W10 hR10) (by rfl) (by rfl) (by rfl) Tryd.func27 (by kernel_rfl) (by rfl) (by simp only [List.map_toArray, List.map_cons, List.map_nil]; rfl) ?_
            rintro e W11 ⟨⟨v11, i3, rfl, hR11, hI3⟩, hb11⟩
            have f3 := f2.trans (hb11.mono f2.size)
            refine ⟨_, rfl, ⟨⟨_, HC.out _ f3⟩, rfl⟩, ?_⟩
            simp only [Act.put, List.setIfInBounds_toArray, List.set_cons_succ, List.set_cons_zero]
            repeat (refine AX.mix_plain _ (by rfl) ?_; go_big_quiet_step (fail); refine wpQuiet_nil ?_)
            unfold AX.wpMix
            obtain ⟨o3, ho3⟩ : ∃ o3, o3 = ((o.filter fun x => x.s != p.s).filter fun x => x.s != q.s).take i3 ++ z :: ((o.filter fun x => x.s != p.s).filter fun x => x.s != q.s).drop i3 := ⟨_, rfl⟩
            rw [← ho3] at hR11
            have hI : Ins ((o.filter fun x => x.s != p.s).filter fun x => x.s != q.s) (joinJ p q) o3 := by
              rw [← HZ.out]
              exact ⟨i3, hI3.1, ho3, hI3.2.1, hI3.2.2.1⟩
            have hnb : NB W10.heap.size v11 := hI3.2.2.2
            have hlen3 := hI.len
            have hless := two_less hp hq hne
            have h10s : W8.heap.size ≤ W10.heap.size := f2.size
            have hz11 := hz8.below f3 hz8.lt
            have hW11 := hW8.below f3
            have hBr11 := hBr8.trans (f3.mono hBr8.size)
            have hs11 := f3.size
            have zs : z.s = min p.s q.s := by rw [HZ.out]; rfl
            have HI3 := Lib.hid hI
            have ho3l : o3.length < o.length := by omega
            clear a0 b0 c0 c1 c2 c3 c4 HC hW1 f0 f1 f2 f3 hb9 hb10 hb11 h19 hR9 hR10 hI3 ho3 hI l9 l10 hlen3 hless hp8 hq8 hz8 hR8 hW8
            obtain ⟨z0, z1, z2, z3, z4⟩ := hz11.cs
            rw [zs] at z0
            have HZS := Lib.hid zs
            clear zs
            have hR12 := hR11.below ((Below.refl _ W11).alloc (Nat.le_refl _) (.cells #[.int .i64 (max p.s q.s), .int .i64 (min p.s q.s)] 45))
            have hW12 := hW11.below ((Below.refl _ W11).alloc (Nat.le_refl _) (.cells #[.int .i64 (max p.s q.s), .int .i64 (min p.s q.s)] 45))
            have hz12 : Box5 (W11.alloc (.cells #[.int .i64 (max p.s q.s), .int .i64 (min p.s q.s)] 45)) W7.heap.size z := (Below.heap_alloc _ _ _ hz11.lt).trans hz11
            have hgg : room < (o.length : Int) := hg
            by_cases hsl : sl' = max p.s q.s
            · subst hsl
              go_wp2_with (at_builtin; refine append_w1 _ base _ s.went (max p.s q.s, min p.s q.s) rfl _ _ rfl rfl hW12 ⟨W11.heap.size, 0, none⟩ rfl (wcells_new W11 (max p.s q.s, min p.s q.s)) (by omega) (by simp; omega) ?_; intro v' W13 hown hgr; have hz13 : Box5 W13 W7.heap.size z := (hgr.block _ hz12.lt (fun e => by have := hwlt _ e.symm; omega)).trans hz12; obtain ⟨t0, t1, t2, t3, t4⟩ := hz13.cs; rw [HZS.out] at t0)
              have hR13 := hR12.grown hnb hgr (fun g e => by have := hwlt _ e; omega)
              have hb13 : Below w.heap.size w W13 := (hBr11.alloc hBr11.size (.cells #[.int .i64 (max p.s q.s), .int .i64 (min p.s q.s)] 45)).trans (((Below.refl base _).grown hgr (by simp; omega) fun j ej => (World.ownsRow.lt hW12 j ej).1).mono (by omega))
              have hsz13 : base ≤ W13.heap.size := by have := hz13.lt; omega
              refine ⟨⟨o3, min p.s q.s, s.went ++ [(max p.s q.s, min p.s q.s)], rfl, hR13, hown, by simp; omega, hb13, hsz13, Lib.hid (.inr ⟨hgg, p, q, hp, hq, hne, HI3.out, rfl, by rw [if_pos HH.out.symm]⟩)⟩, ?_⟩
              obtain ⟨la3, c3, e3, _⟩ := hR13
              rw [e3]
              exact ho3l
            · go_wp2_with (at_builtin; refine append_w1 _ base _ s.went (max p.s q.s, min p.s q.s) rfl _ _ rfl rfl hW12 ⟨W11.heap.size, 0, none⟩ rfl (wcells_new W11 (max p.s q.s, min p.s q.s)) (by omega) (by simp; omega) ?_; intro v' W13 hown hgr; have hz13 : Box5 W13 W7.heap.size z := (hgr.block _ hz12.lt (fun e => by have := hwlt _ e.symm; omega)).trans hz12; obtain ⟨t0, t1, t2, t3, t4⟩ := hz13.cs; rw [HZS.out] at t0)
              have hR13 := hR12.grown hnb hgr (fun g e => by have := hwlt _ e; omega)
              have hb13 : Below w.heap.size w W13 := (hBr11.alloc hBr11.size (.cells #[.int .i64 (max p.s q.s), .int .i64 (min p.s q.s)] 45)).trans (((Below.refl base _).grown hgr (by simp; omega) fun j ej => (World.ownsRow.lt hW12 j ej).1).mono (by omega))
              have hsz13 : base ≤ W13.heap.size := by have := hz13.lt; omega
              refine ⟨⟨o3, sl', s.went ++ [(max p.s q.s, min p.s q.s)], rfl, hR13, hown, by simp; omega, hb13, hsz13, Lib.hid (.inr ⟨hgg, p, q, hp, hq, hne, HI3.out, rfl, by rw [if_neg (fun e => hsl (HH.out.trans e))]; exact HH.out⟩)⟩, ?_⟩
              obtain ⟨la3, c3, e3, _⟩ := hR13
              rw [e3]
              exact ho3l
          · have hN' := hN.out
            go_wp2_with fail
            refine bodyPost_ret (v := .tuple #[.slice la' o.length c', .int .i64 sl', u8, .int .i64 0]) (by simp [results, Tryd.results8, go_sem]) rfl ⟨⟨r, _, _, o, sl', wt, rfl, hR', ⟨_, hWt⟩, hwl, HR.out, s, HS.out, o2, HI.out, hN', (by omega)⟩, hBr⟩
  clear hK
  have hlt1 := h31.lt
  have HK := Lib.hid key
  have H1 := Lib.hid hB1
  have hs1 := hB1.size
  clear key hB1 hb1 h3 hB0
  go_region_with (first
    | (go_at_call 22; (first
        | (refine (H22.out _ H1.out.drew).mono ?_; rintro e W2 ⟨⟨r, rfl, hr⟩, hb2⟩; have h32 := (show Box3 W1.drew _ a d i from h31).below hb2 hlt1; have HB2 := Lib.hid (H1.out.drew.trans (hb2.mono hs1)); have HR := Lib.hid hr; have hlt2 := h32.lt; obtain ⟨e0, e1, e2⟩ := h32.at; clear hr)
        | (refine (H22.out _ (H1.out.drew.alloc H1.out.size (.cells #[.int .i64 0, .int .i64 0, .int .i64 0, .int .i64 0, .int .i64 0] 38))).mono ?_; rintro e W2 ⟨⟨r, rfl, hr⟩, hb2⟩; have h32 := (show Box3 (W1.drew.alloc (.cells #[.int .i64 0, .int .i64 0, .int .i64 0, .int .i64 0, .int .i64 0] 38)) _ a d i from (Below.heap_alloc _ _ _ hlt1).trans h31).below hb2 (Nat.lt_trans hlt1 (by simp)); have HB2 := Lib.hid ((H1.out.drew.alloc H1.out.size (.cells #[.int .i64 0, .int .i64 0, .int .i64 0, .int .i64 0, .int .i64 0] 38)).trans (hb2.mono (by simp; omega))); have HR := Lib.hid hr; have hlt2 := h32.lt; obtain ⟨e0, e1, e2⟩ := h32.at; clear hr; have hX2 : Box5 W2 W1.heap.size J.z := (Box5.new W1.drew J.z).below hb2 (by simp))))
    | (go_at_call 23; (first
        | (refine (h23 _).mono ?_; rintro e W3 ⟨rfl, hb3⟩; have hX : Box5 W3 W1.heap.size J.z := hX2.below hb3 hX2.lt; have h33 := h32.below hb3 hlt2; have HB3 := Lib.hid (HB2.out.trans (hb3.mono HB2.out.size)); obtain ⟨x0, x1, x2, x3, x4⟩ := hX.cs; have f0 := hX.frozen 0; have f1 := hX.frozen 1; have f2 := hX.frozen 2; have f3 := hX.frozen 3; have f4 := hX.frozen 4)
        | (refine (h23 (W2.alloc (.cells #[.int .i64 0, .int .i64 0, .int .i64 0, .int .i64 0, .int .i64 0] 38))).mono ?_; rintro e W3 ⟨rfl, hb3⟩; have hX : Box5 W3 W2.heap.size J.z := (Box5.new W2 J.z).below hb3 (by simp); have h33 := (show Box3 (W2.alloc (.cells #[.int .i64 0, .int .i64 0, .int .i64 0, .int .i64 0, .int .i64 0] 38)) _ a d i from (Below.heap_alloc _ _ _ hlt2).trans h32).below hb3 (by simp; omega); have HB3 := Lib.hid ((HB2.out.alloc HB2.out.size (.cells #[.int .i64 0, .int .i64 0, .int .i64 0, .int .i64 0, .int .i64 0] 38)).trans (hb3.mono (by have := HB2.out.size; simp; omega))); obtain ⟨x0, x1, x2, x3, x4⟩ := hX.cs; have f0 := hX.frozen 0; have f1 := hX.frozen 1; have f2 := hX.frozen 2; have f3 := hX.frozen 3; have f4 := hX.frozen 4)
        | (refine (h23 _).mono ?_; rintro e W3 ⟨rfl, hb3⟩; have h33 := h32.below hb3 hlt2; have HB3 := Lib.hid (HB2.out.trans (hb3.mono HB2.out.size))))))
  all_goals first
    | (have hq := set5 hX h33 HB3.out hlt1 (by omega) ⟨r, a, a + i, 0, 0⟩; exact HK.out _ r _ hlt1 hq.1 hq.2.1 hq.2.2 HR.out)
    | (have hq := set5 hX h33 HB3.out hlt2 (by omega) ⟨r, a, a + i, 0, 0⟩; exact HK.out _ r _ hlt2 hq.1 hq.2.1 hq.2.2 HR.out)
    | (have hl3 := h33.lt; exact HK.out _ r _ hl3 (Box5.new W3 ⟨r, a, a + i, 0, 0⟩) ((Below.heap_alloc _ _ _ hl3).trans h33) (HB3.out.alloc (by omega) _) HR.out)
end Go.Proofs.YtpplkjjfaibmmaaDoor
