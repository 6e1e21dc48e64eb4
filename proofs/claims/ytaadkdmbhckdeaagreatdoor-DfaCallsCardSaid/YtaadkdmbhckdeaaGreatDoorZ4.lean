/- Dfa: viewportref04.Build 8, walked. -/
import Derived.Test.YtaadkdmbhckdeaaGreatDoorZ3
import Derived.Test.YtaadkdmbhckdeaaGreatDoorN7
namespace Go.Proofs.YtaadkdmbhckdeaaGreatDoor
open Go Go.Proofs Go.RowKit
attribute [local go_sem] Oper.semAt_some
theorem rcheck_fine {N : Nf} (o : NfOk N) {ac an ar : Option Addr} {cc cn cr : Nat} {w : World} (h : NfAt w N ac an ar) : Calls Tryz.prog 30 #[.agg #[.slice ac N.cl.length cc, .slice an N.nx.length cn, .slice ar N.ru.length cr]] w fun e w' => e = .returned (.int .i64 0) ∧ Below w.heap.size w w' := by
 have := rcheck_k N ac an ar cc cn cr w h
 rw [show ckN N = 0 from if_pos o] at this
 exact this
theorem ins46_id {P : Program} {ops : Array Oper} {Q : Exit → Act → World → Prop} {a : Act} {w : World} {rest : List Oper} {t : TypeId} {x y z : Operand} {ty : TypeId} {pos : String} {after : Array Edge} (h : wpList P ops Q ({ dst := none, op := .insert t x y z, type := ty, pos := pos, after := after, guard := none } :: rest) a w) :
 wpList P ops Q ({ dst := none, op := .insert t x y z, type := ty, pos := pos, after := after, guard := none } :: rest) a w := h
theorem upd46_id {P : Program} {ops : Array Oper} {Q : Exit → Act → World → Prop} {a : Act} {w : World} {rest : List Oper} {t : TypeId} {x y z : Operand} {ty : TypeId} {pos : String} {after : Array Edge} (h : wpList P ops Q ({ dst := none, op := .mapUpdate t x y z, type := ty, pos := pos, after := after, guard := none } :: rest) a w) :
 wpList P ops Q ({ dst := none, op := .mapUpdate t x y z, type := ty, pos := pos, after := after, guard := none } :: rest) a w := h
section
variable {ops : Array Oper} {rest : List Oper} {a : Act} {Q : Exit → Act → World → Prop} {m kx v : Operand} {ty : TypeId} {pos : String} {after : Array Edge} {W : World} {r : Nat} {T : Sets} {S : List Int} {n : Nat} {ks : ByteArray}
set_option maxRecDepth 100000 in
theorem wpList_ins46 (hn : n = T.length) (hks : ks = ⟨(keyL S).toArray⟩) (hm : a.eval m = .map (some r)) (hk : a.eval kx = .string ks) (hv : a.eval v = .int .i64 n) (hb : W.heap[r]? = some (.map (entsF 0 T).toArray T.length)) (hS : Small S) (hT : ∀ U ∈ T, Small U) (hf : ¬ fi T S < T.length)
  (h : ∀ W', W'.heap[r]? = some (.map (entsF 0 (T ++ [S])).toArray (T ++ [S]).length) → AX.But r W W' → wpList Tryz.prog ops Q rest a W') :
  wpList Tryz.prog ops Q ({ dst := none, op := .insert 46 m kx v, type := ty, pos := pos, after := after, guard := none } :: rest) a W := by
 refine wpList_plain rfl fun K hK => ?_
 obtain ⟨W', hr, h1, h2⟩ := upd52 hb hS hT hf
 have hx : (execOp a.eval { dst := none, op := .insert 46 m kx v, type := ty, pos := pos, after := after, guard := none }).run Tryz.prog W = .ok .skip W' := by
  have hr' : (Instr.mapUpdate 46 (.map (some r)) (.string ks) (.int .i64 n)).run Tryz.prog W = .ok () W' := by rw [hks, hn]; exact hr
  simp only [execOp, hm, hk, hv, Sem.run_bind, hr']
  rfl
 unfold Oper.wp
 rw [hx]
 exact hK _ _ (h _ h1 h2)
set_option maxRecDepth 100000 in
theorem wpList_upd46 (hn : n = T.length) (hks : ks = ⟨(keyL S).toArray⟩) (hm : a.eval m = .map (some r)) (hk : a.eval kx = .string ks) (hv : a.eval v = .int .i64 n) (hb : W.heap[r]? = some (.map (entsF 0 T).toArray T.length)) (hS : Small S) (hT : ∀ U ∈ T, Small U) (hf : ¬ fi T S < T.length)
  (h : ∀ W', W'.heap[r]? = some (.map (entsF 0 (T ++ [S])).toArray (T ++ [S]).length) → AX.But r W W' → wpList Tryz.prog ops Q rest a W') :
  wpList Tryz.prog ops Q ({ dst := none, op := .mapUpdate 46 m kx v, type := ty, pos := pos, after := after, guard := none } :: rest) a W := by
 refine wpList_plain rfl fun K hK => ?_
 obtain ⟨W', hr, h1, h2⟩ := upd52 hb hS hT hf
 have hx : (execOp a.eval { dst := none, op := .mapUpdate 46 m kx v, type := ty, pos := pos, after := after, guard := none }).run Tryz.prog W = .ok .skip W' := by
  have hr' : (Instr.mapUpdate 46 (.map (some r)) (.string ks) (.int .i64 n)).run Tryz.prog W = .ok () W' := by rw [hks, hn]; exact hr
  simp only [execOp, hm, hk, hv, Sem.run_bind, hr']
  rfl
 unfold Oper.wp
 rw [hx]
 exact hK _ _ (h _ h1 h2)
end
theorem own_one {W : World} {base g : Nat} {e : TypeId} {y : Value} (h : Bx W g e #[y]) (hb : base ≤ g) : W.ownsRow base e 1 (.slice (some ⟨g, 0, none⟩) 1 1) 1 [y] :=
 ⟨rfl, .inr ⟨g, 1, #[y], rfl, hb, h, Nat.le_refl _, by decide, rfl, rfl⟩⟩
def rowL8_12 : List (Nat × Nat) := [(0, 0), (1, 0), (2, 0), (3, 0), (4, 0), (5, 0), (6, 0), (7, 2), (8, 2), (9, 2), (10, 0), (11, 2)]
def inf8_12 : List AX.Inf := [⟨0, 17592186044416, 512, true⟩, ⟨1, 35184372088832, 17592186044416, true⟩, ⟨0, 70368744177664, 4, true⟩, ⟨0, 140737488355328, 128, true⟩, ⟨0, 281474976710656, 1024, true⟩, ⟨24, 562949953421312, 422212465065984, true⟩, ⟨32, 1125899906842624, 562949953421312, true⟩, ⟨68, 2251799813685248, 1196268651020288, false⟩, ⟨128, 4503599627370496, 2251799813685248, false⟩, ⟨386, 9007199254740992, 4538783999459328, false⟩, ⟨1023, 18014398509481984, 512, true⟩, ⟨2047, 0, 27021597764222976, false⟩]
theorem fit8_12 : AX.mixF inf8_12 (AX.asF rowL8_12) 0 = true := by kernel_rfl
theorem fitl8_12 : AX.fitL inf8_12 11 rowL8_12 = true := by kernel_rfl
def row8_16 : List (Nat × Bool) := [(0, false), (1, false), (2, false), (3, false), (4, false), (5, false), (6, false), (7, true), (8, false)]
def inf8_16 : List AX.Inf := [⟨0, 576460752303423488, 4, true⟩, ⟨0, 1152921504606846976, 128, true⟩, ⟨0, 2305843009213693952, 1024, true⟩, ⟨6, 4611686018427387904, 3458764513820540928, true⟩, ⟨8, 9223372036854775808, 4611686018427387904, true⟩, ⟨0, 18446744073709551616, 2048, true⟩, ⟨32, 36893488147419103232, 18446744073709551616, true⟩, ⟨81, 73786976294838206464, 46693320936577302528, false⟩, ⟨255, 4096, 73786976294838206464, true⟩]
theorem fit8_16 : AX.mixF inf8_16 row8_16 0 = true := by kernel_rfl
def RPost (w : World) (N : Nf) (most : Nat) (e : Ending) (w' : World) : Prop :=
 Below w.heap.size w w' ∧ ((bldB most (stepN N) (List.range 256) (most + 1) 0 [[0]] = none ∧ e = .returned (.tuple #[.agg #[.slice none 0 0, .slice none 0 0], .int .i64 10])) ∨
 ∃ tss T an ar cn cr, bldB most (stepN N) (List.range 256) (most + 1) 0 [[0]] = some (tss, T) ∧ e = .returned (.tuple #[.agg #[.slice an tss.flatten.length cn, .slice ar (rulesOf N.ru T).length cr], .int .i64 0]) ∧ IRow w' an tss.flatten ∧ IRow w' ar (rulesOf N.ru T))
def OR (w W : World) (N : Nf) (x0 x1 x2 : Value) (U r D most i : Nat) (sv : Value) : Prop :=
 ∃ nv rv vals T tss, Rs w W x0 x1 x2 U r D sv nv rv vals T tss.flatten ((T.take i).map (ruleF N.ru)) ∧ BldS most (stepN N) (List.range 256) [[0]] i tss T ∧ tss.length = i ∧ i ≤ T.length ∧ T.length ≤ most ∧ TOk N T ∧ tss.flatten.length = 256 * i
def IR (w W : World) (N : Nf) (x0 x1 x2 : Value) (U r D most j : Nat) (sv : Value) (T0 : Sets) (Si next rule : List Int) : Prop :=
 ∃ nv rv vals T1 ts, Rs w W x0 x1 x2 U r D sv nv rv vals T1 (next ++ ts) rule ∧ rowB most (stepN N Si) ((List.range 256).take j) T0 = some (ts, T1) ∧ ts.length = j ∧ j ≤ 256 ∧ T1.length ≤ most ∧ TOk N T1 ∧ ∃ R, T1 = T0 ++ R
set_option maxRecDepth 100000 in
set_option maxHeartbeats 4000000 in
theorem rbuild_k (N : Nf) (o : NfOk N) (ac an ar : Option Addr) (cc cn cr most : Nat) (hm1 : 1 ≤ most) (hm2 : most ≤ 512) (w : World) (h : NfAt w N ac an ar) :
  Calls Tryz.prog 8 #[.agg #[.slice ac N.cl.length cc, .slice an N.nx.length cn, .slice ar N.ru.length cr], .int .i64 most] w (RPost w N most) := by
 obtain ⟨x0, hx0⟩ : ∃ v, v = Value.slice ac N.cl.length cc := ⟨_, rfl⟩
 obtain ⟨x1, hx1⟩ : ∃ v, v = Value.slice an N.nx.length cn := ⟨_, rfl⟩
 obtain ⟨x2, hx2⟩ : ∃ v, v = Value.slice ar N.ru.length cr := ⟨_, rfl⟩
 rw [← hx0, ← hx1, ← hx2]
 obtain ⟨U, hU⟩ : ∃ U, U = w.heap.size := ⟨_, rfl⟩
 obtain ⟨W1, hW1⟩ : ∃ W1, W1 = (w.alloc (.cells #[x0, x1, x2] 26)).alloc (.cells #[.slice none 0 0, .slice none 0 0] 28) := ⟨_, rfl⟩
 have hB1 : Below w.heap.size w W1 := by rw [hW1]; exact ((Below.refl _ w).alloc (Nat.le_refl _) _).alloc (by simp) _
 have hz1 : W1.heap.size = U + 2 := by rw [hW1, hU]; simp
 have u1 : Bx W1 U 26 #[x0, x1, x2] := by rw [hW1, hU]; exact (Bx.new w 26 _).alloc _
 have r1 : Bx W1 (U + 1) 28 #[.slice none 0 0, .slice none 0 0] := by
  have := Bx.new (w.alloc (.cells #[x0, x1, x2] 26)) 28 #[.slice none 0 0, .slice none 0 0]
  rw [World.size_alloc] at this
  rw [hW1, hU]; exact this
 have hck := rcheck_fine o (cc := cc) (cn := cn) (cr := cr) (h.below hB1 (Nat.le_refl _))
 rw [← hx0, ← hx1, ← hx2] at hck
 have hgo : ∀ (S : List Int), S.length ≤ 1024 → (∀ q ∈ S, 0 ≤ q ∧ q < (N.cl.length : Int)) → ∀ b, b < 256 → ∀ aS cs W, Below w.heap.size w W → IRow W aS S → Calls Tryz.prog 33 #[.agg #[x0, x1, x2], .slice aS S.length cs, .int .u8 (b : Nat)] W fun e w' => ∃ v, e = .returned v ∧ w'.ownsRow W.heap.size 3 1 v (stepN N S b).length ((stepN N S b).map (Value.int .i64)) ∧ Below W.heap.size W w' := fun S h1 h2 b hb aS cs W hW hI => by
  rw [hx0, hx1, hx2]
  exact go29_k N o ac an ar cc cn cr S (by omega) h2 aS cs b hb W (h.below hW (Nat.le_refl _)) hI
 have hend : ∀ (S : List Int), S.length ≤ 1024 → (∀ q ∈ S, 0 ≤ q ∧ q < (N.cl.length : Int)) → ∀ aS cs W, Below w.heap.size w W → IRow W aS S → Calls Tryz.prog 32 #[.agg #[x0, x1, x2], .slice aS S.length cs] W fun e w' => e = .returned (.int .i64 (ruleF N.ru S)) ∧ Below W.heap.size W w' := fun S h1 h2 aS cs W hW hI => by
  rw [hx0, hx1, hx2]
  exact ends30_k N ac an ar cc cn cr S (by omega) (by rw [o.ru]; exact h2) aS cs W (h.below hW (Nat.le_refl _)) hI
 have hmk := mk52
 have HW1 := Lib.hid hW1
 have HU := Lib.hid hU
 have HZ1 := Lib.hid hz1
 have HO := Lib.hid o
 have d0 := u1.cell 0
 have d1 := u1.cell 1
 have d2 := u1.cell 2
 have nm1 : ¬ (most : Int) < 1 := by omega
 have nm2 : ¬ (512 : Int) < (most : Int) := by omega
 have o0 : x0.oneCell' = true := by rw [hx0]; rfl
 have o1 : x1.oneCell' = true := by rw [hx1]; rfl
 have o2 : x2.oneCell' = true := by rw [hx2]; rfl
 clear hW1 hz1 hU hx0 hx1 hx2 h o
 go_enter Tryz.func8, Tryz.ntmps8
 go_upto_region 1 with (fail)
 rw [← HW1.out, ← HU.out]
 go_upto_region 7 with (first
  | (go_at_call 30; (with_reducible refine hck.mono ?_); rintro e W2 ⟨rfl, hb2⟩))
 obtain ⟨g0, hg0⟩ : ∃ g, g = W2.heap.size := ⟨_, rfl⟩
 obtain ⟨W3, hW3⟩ : ∃ W3, W3 = (W2.alloc (.cells #[.int .i64 0] 3)).alloc (.cells #[.slice (some ⟨W2.heap.size, 0, none⟩) 1 1] 24) := ⟨_, rfl⟩
 have hb3 : Below W2.heap.size W2 W3 := by rw [hW3]; exact ((Below.refl _ W2).alloc (Nat.le_refl _) _).alloc (by simp) _
 have hz3 : W3.heap.size = g0 + 2 := by rw [hW3, hg0]; simp
 have x3 : Bx W3 g0 3 #[.int .i64 0] := by rw [hW3, hg0]; exact (Bx.new W2 3 _).alloc _
 have y3 : Bx W3 (g0 + 1) 24 #[.slice (some ⟨g0, 0, none⟩) 1 1] := by
  have := Bx.new (W2.alloc (.cells #[.int .i64 0] 3)) 24 #[.slice (some ⟨W2.heap.size, 0, none⟩) 1 1]
  rw [World.size_alloc, ← hg0] at this
  rw [hW3, ← hg0]; exact this
 rw [← hW3, ← hg0]
 have hB3 := hB1.trans ((hb2.mono hB1.size).trans (hb3.mono (Nat.le_trans hB1.size hb2.size)))
 have u3 := (u1.below hb2 u1.lt).below hb3 (Nat.lt_of_lt_of_le u1.lt hb2.size)
 have r3 := (r1.below hb2 r1.lt).below hb3 (Nat.lt_of_lt_of_le r1.lt hb2.size)
 obtain ⟨W4, hW4⟩ : ∃ W4, W4 = W3.alloc (.map #[] 0) := ⟨_, rfl⟩
 have hb4 : Below W3.heap.size W3 W4 := by rw [hW4]; exact (Below.refl _ W3).alloc (Nat.le_refl _) _
 have x4 := x3.below hb4 x3.lt
 have y4 := y3.below hb4 y3.lt
 have m4 : W4.heap[g0 + 2]? = some (.map #[] 0) := by rw [hW4, ← hz3]; exact World.alloc_heap_new _ _
 have hz4 : W4.heap.size = g0 + 3 := by rw [hW4]; simp [hz3]
 have hk4 : Calls Tryz.prog 31 #[.slice (some ⟨g0, 0, none⟩) 1 1] W4 fun e w' => e = .returned (.string ⟨(keyL [0]).toArray⟩) ∧ Below W4.heap.size W4 w' :=
  rkey_k [0] (by decide) (fun k hk => by rw [List.mem_singleton.1 hk]; decide) (some ⟨g0, 0, none⟩) 1 W4 (fun _ => ⟨g0, 0, rfl, by omega, fun j hj => by
   obtain rfl : j = 0 := Nat.lt_one_iff.1 hj
   exact x4.cell 0⟩)
 obtain ⟨ks, hks⟩ : ∃ ks : ByteArray, ks = ⟨(keyL [0]).toArray⟩ := ⟨_, rfl⟩
 rw [← hks] at hk4
 have q0 : (W3.alloc (.map #[] 0)).cell? ⟨g0 + 1, 0, none⟩ = some (.slice (some ⟨g0, 0, none⟩) 1 1) := by rw [← hW4]; exact y4.cell 0
 have q1 : W3.cell? ⟨g0 + 1, 0, none⟩ = some (.slice (some ⟨g0, 0, none⟩) 1 1) := y3.cell 0
 have HK0 := Lib.hid hks
 have HW4 := Lib.hid hW4
 have HZ3 := Lib.hid hz3
 have hlt2 : W2.heap.size ≥ w.heap.size + 2 := by have := hb2.size; have := HU.out; have := HZ1.out; omega
 have HG := Lib.hid hg0
 have HZ4 := Lib.hid hz4
 have hB4 := hB3.trans (hb4.mono hB3.size)
 have u4 := u3.below hb4 u3.lt
 have r4 := r3.below hb4 r3.lt
 clear hks hW4 hz3 hg0 hz4 hW3 hck d0 d1 d2 x3 y3 hb3 hb4 hb2 u3 r3 u1 r1 hB1 hB3
 go_upto_region 8 with (first
  | (go_at_call 31; (try rw [← HW4.out]); (with_reducible refine hk4.mono ?_); rintro e W5 ⟨rfl, hb5⟩)
  | ((with_reducible refine ins46_id ?_); refine wpList_ins46 (T := []) (S := [0]) (n := 0) rfl HK0.out (by rw [HZ3.out]; rfl) rfl rfl ((hb5.block _ (Array.getElem?_eq_some_iff.1 m4).1).trans m4) (by intro k hk; rw [List.mem_singleton.1 hk]; decide) (fun _ h => by cases h) (by decide) ?_; rintro W6 hm6 hu6))
 obtain ⟨r, hr⟩ : ∃ r, r = W3.heap.size := ⟨_, rfl⟩
 obtain ⟨D, hD⟩ : ∃ D, D = W6.heap.size := ⟨_, rfl⟩
 obtain ⟨W7, hW7⟩ : ∃ W7, W7 = W6.alloc (.cells #[.slice none 0 0, .slice none 0 0] 28) := ⟨_, rfl⟩
 have hb7 : Below W6.heap.size W6 W7 := by rw [hW7]; exact (Below.refl _ W6).alloc (Nat.le_refl _) _
 have xD : Bx W7 D 28 #[.slice none 0 0, .slice none 0 0] := by rw [hW7, hD]; exact Bx.new W6 28 _
 have xD' : Bx (W6.alloc (.cells #[.slice none 0 0, .slice none 0 0] 28)) W6.heap.size 28 #[.slice none 0 0, .slice none 0 0] := Bx.new W6 28 _
 have hrz : r = g0 + 2 := by rw [hr]; exact HZ3.out
 have hD6 : g0 + 3 ≤ D := by have h1 := hb5.size; have h2 := hu6.low.size; have h3 := HZ4.out; omega
 rw [← hrz] at hu6 hm6
 rw [← hr]
 have HW7 := Lib.hid hW7
 have HD := Lib.hid hD
 have HR := Lib.hid hr
 have HRZ := Lib.hid hrz
 clear hW7 hD hr q0 q1 hk4 hrz
 go_upto_region 9 with (first
  | ((with_reducible refine st21_id ?_); refine AX.wpList_storeBox (vs := [.slice none 0 0, .slice none 0 0]) rfl rfl sz32 xD' rfl rfl ?_; rintro W8 g3 g4 g5))
 rw [← HW7.out] at g4 g5
 rw [← HD.out] at g3 g4 ⊢
 have hrz := HRZ.out
 have g3' : Bx W8 D 28 #[.slice none 0 0, .slice none 0 0] := g3
 have hl8 : Below 0 W7 W8 := AX.below_turn (Nat.zero_le _) (.inl g3'.lt) g4 g5
 have c8 : Ch [r] W4 W8 := (((Ch.of_below hb5 _).trans (Ch.of_but hu6 (by simp))).trans (Ch.of_below hb7 _)).trans' (Ch.of_turn (A := D) (bad := [D]) hl8 g4 (by simp)) (fun b hb hlt => by
  rw [List.mem_singleton] at hb
  have := HZ4.out
  omega)
 have m8 : W8.heap[r]? = some (.map (entsF 0 [[0]]).toArray 1) := (g4 r (by omega)).trans ((hb7.block r (Array.getElem?_eq_some_iff.1 hm6).1).trans hm6)
 have hUg : U + 2 ≤ g0 := by rw [HG.out, HU.out]; exact hlt2
 have hwU := HU.out
 have hxl := HZ4.out
 have hRs : Rs w W8 x0 x1 x2 U r D (.slice (some ⟨g0 + 1, 0, none⟩) 1 1) (.slice none 0 0) (.slice none 0 0) [.slice (some ⟨g0, 0, none⟩) 1 1] [[0]] [] [] := {
  low := hB4.trans (c8.below hB4.size fun b hb => by rw [List.mem_singleton.1 hb]; omega)
  ub := c8.bx u4 (by rw [List.mem_singleton]; omega)
  rb := c8.bx r4 (by rw [List.mem_singleton]; omega)
  db := g3'
  own := own_one (c8.bx y4 (by rw [List.mem_singleton]; omega)) (by omega)
  vl := rfl
  row := fun i v S hv hS => by
   cases i with
   | zero =>
    cases hv; cases hS
    refine ⟨_, _, rfl, fun _ => ⟨g0, 0, rfl, Nat.lt_of_lt_of_le (show g0 < W4.heap.size by omega) c8.low.size, fun hm => ?_, fun j hj => ?_⟩⟩
    · rw [mem_bz] at hm
      rcases hm with e | e | e | e | e
      · omega
      · omega
      · cases e
      · cases e
      · cases e
    · obtain rfl : j = 0 := Nat.lt_one_iff.1 hj
      exact (c8.bx x4 (by rw [List.mem_singleton]; omega)).cell 0
   | succ i => simp at hv
  map := m8
  no := World.ownsRow_nil _ _ _ _
  ro := World.ownsRow_nil _ _ _ _
  ap := fun g hg => by cases hg
  neD := by omega
  bD := by omega
  br := by omega
  small := fun S hS => by rw [List.mem_singleton.1 hS]; intro k hk; rw [List.mem_singleton.1 hk]; decide }
 have hOR : OR w W8 N x0 x1 x2 U r D most 0 (.slice (some ⟨g0 + 1, 0, none⟩) 1 1) := ⟨_, _, _, [[0]], [], hRs, BldS.start _ _ _ _, rfl, Nat.zero_le _, hm1, fun S hS => by
  rw [List.mem_singleton.1 hS]
  refine ⟨by decide, fun q hq => ?_⟩
  rw [List.mem_singleton.1 hq]
  have := HO.out.one
  omega, rfl⟩
 clear hrz hRs m8 c8 hl8 g3' g3 g4 g5 xD xD' hb7 hu6 hm6 hb5 x4 y4 m4 u4 r4 hB4 hlt2 hxl hwU HW7 HD HR HZ4 HZ3 HW4 HK0 HG
 obtain ⟨R, hRi, hRo⟩ : ∃ R : Value → Value → World → Prop, (∀ sv t W', R sv t W' → ∃ i : Nat, t = .int .i64 i ∧ OR w W' N x0 x1 x2 U r D most i sv) ∧ ∀ sv t W', (∃ i : Nat, t = .int .i64 i ∧ OR w W' N x0 x1 x2 U r D most i sv) → R sv t W' :=
  ⟨fun sv t W' => ∃ i : Nat, t = .int .i64 i ∧ OR w W' N x0 x1 x2 U r D most i sv, fun _ _ _ h => h, fun _ _ _ h => h⟩
 have HRi := Lib.hid hRi
 have HRo := Lib.hid hRo
 clear hRi hRo
 go_wp2_with fail
 go_loopw [7, 10] (fun sv t wr => R sv t wr) (fun _ i _ => most - (intOf i).toNat)
 case atStart => exact HRo.out _ _ _ ⟨0, rfl, hOR⟩
 case round =>
  clear hOR
  obtain ⟨i, rfl, hOI⟩ := HRi.out _ _ _ hrel
  clear hrel
  obtain ⟨nv, rv, vals, T, tss, hRs, hBl, htl, hiT, hTm, hTok, hfl⟩ := hOI
  by_cases hlt : i < T.length
  · obtain ⟨gs, c, v, rfl, hgs, hcs, hSA⟩ := hRs.set hlt
    obtain ⟨sA, sC, rfl, hSI⟩ := hSA.irow
    obtain ⟨Si, hSi⟩ : ∃ Si, Si = T.getD i [] := ⟨_, rfl⟩
    rw [← hSi] at hSI hSA hcs
    have hSok : Si.length ≤ 1024 ∧ ∀ q ∈ Si, 0 ≤ q ∧ q < (N.cl.length : Int) := hTok Si (by rw [hSi, List.getD_eq_getElem?_getD, List.getElem?_eq_getElem hlt]; exact List.getElem_mem hlt)
    obtain ⟨next, hnext⟩ : ∃ next, next = tss.flatten := ⟨_, rfl⟩
    obtain ⟨rule, hrule⟩ : ∃ rule, rule = (T.take i).map (ruleF N.ru) := ⟨_, rfl⟩
    rw [← hnext, ← hrule] at hRs
    have hrule1 : rule.length ≤ 1000000 := by
     rw [hrule, List.length_map, List.length_take]; omega
    obtain ⟨ra, rc, rfl⟩ := row_shape hRs.ro
    obtain ⟨na, nc, rfl⟩ := row_shape hRs.no
    obtain ⟨rl, hrl⟩ : ∃ rl, rl = rule.length := ⟨_, rfl⟩
    obtain ⟨nl, hnl⟩ : ∃ nl, nl = next.length := ⟨_, rfl⟩
    obtain ⟨sl, hsl⟩ : ∃ sl, sl = Si.length := ⟨_, rfl⟩
    obtain ⟨tl, htl'⟩ : ∃ tl, tl = T.length := ⟨_, rfl⟩
    obtain ⟨rf, hrf⟩ : ∃ rf, rf = ruleF N.ru Si := ⟨_, rfl⟩
    have hend12 : ∀ X, Below w.heap.size w X → IRow X sA Si → Calls Tryz.prog 32 #[.agg #[x0, x1, x2], .slice sA sl sC] X fun e w' => e = .returned (.int .i64 rf) ∧ Below X.heap.size X w' := fun X hX hI => by
     rw [hsl, hrf]
     exact hend Si hSok.1 hSok.2 sA sC X hX hI
    obtain ⟨bad, hbad⟩ : ∃ bad, bad = (Value.slice ra rl rc).ownBlock.toList := ⟨_, rfl⟩
    have typ : ∀ (k : Nat) (cs : Array Value) (t : TypeId), wr.heap[k]? = some (.cells cs t (0, 0)) → t ≠ 3 → k ∉ bad := fun k cs t hk ht hm => by
     rw [hbad, Option.mem_toList] at hm
     obtain ⟨cs', h'⟩ := own_cells hRs.ro k (by rw [← hrl]; exact hm)
     rw [hk] at h'; cases h'; exact ht rfl
    obtain ⟨C, hCi, hCo⟩ : ∃ C : World → Prop, (∀ X, C X → Ch bad wr X) ∧ ∀ X, Ch bad wr X → C X := ⟨fun X => Ch bad wr X, fun _ h => h, fun _ h => h⟩
    have hC0 : C wr.drew := hCo _ (Ch.of_below (Below.refl _ wr).drew _)
    haveI : Inhabited (AX.CW C) := ⟨⟨_, hC0⟩⟩
    obtain ⟨gcs, hgc⟩ := own_cells hRs.own gs rfl
    have pD : ∀ p : AX.CW C, p.W.cell? ⟨D, 1, none⟩ = some (.slice ra rl rc) := fun p => by rw [hrl]; exact ((hCi _ p.h).bx hRs.db (typ _ _ _ hRs.db (by decide))).cell 1
    have pU0 : ∀ p : AX.CW C, p.W.cell? ⟨U, 0, none⟩ = some x0 := fun p => ((hCi _ p.h).bx hRs.ub (typ _ _ _ hRs.ub (by decide))).cell 0
    have pU1 : ∀ p : AX.CW C, p.W.cell? ⟨U, 1, none⟩ = some x1 := fun p => ((hCi _ p.h).bx hRs.ub (typ _ _ _ hRs.ub (by decide))).cell 1
    have pU2 : ∀ p : AX.CW C, p.W.cell? ⟨U, 2, none⟩ = some x2 := fun p => ((hCi _ p.h).bx hRs.ub (typ _ _ _ hRs.ub (by decide))).cell 2
    have pS : ∀ p : AX.CW C, p.W.cell? ⟨gs, i, none⟩ = some (.slice sA sl sC) := fun p => ((hCi _ p.h).cell hgs (typ _ _ _ hgc (by decide)) i).trans (by rw [hsl]; exact hcs)
    have hi0 : (0 : Int) ≤ (i : Int) := by omega
    have hi1 : (i : Int) < (tl : Int) := by omega
    rw [← htl']
    have HRs := Lib.hid hRs
    rw [← hnext] at hfl
    have HBL := Lib.hid hBl
    have HTL := Lib.hid htl
    have HTok := Lib.hid hTok
    have HTm := Lib.hid hTm
    have HN1 := Lib.hid hnext
    have HR1 := Lib.hid hrule
    have HNL := Lib.hid hnl
    have HRL := Lib.hid hrl
    have HSL := Lib.hid hsl
    have HTL' := Lib.hid htl'
    have HRF := Lib.hid hrf
    have HSi := Lib.hid hSi
    have HSok := Lib.hid hSok
    have HSI := Lib.hid hSI
    have Hbad := Lib.hid hbad
    have HCi := Lib.hid hCi
    have HCo := Lib.hid hCo
    have Hlt := Lib.hid hlt
    have H1 := Lib.hid hrule1
    clear hSA hcs hSi hSok hnext hrule hrl hnl hsl htl' hrf hbad hCi hCo hRs hBl htl hTok hTm hgc hlt hiT hSI hgs typ hrule1
    go_upto_region 12 with (fail)
    refine AX.region_mixL (C := fun W => ∃ p : AX.CW C, W = p.W) (CT := fun _ => True) 11 rowL8_12 inf8_12 (by kernel_rfl) (by kernel_rfl) (by kernel_rfl) (by kernel_rfl) (by decide) fit8_12 fitl8_12 (by intro c a d v w h; cases d <;> exact h) ⟨trivial, ⟨_, hC0⟩, rfl⟩ ?_
    unfold rowL8_12
    repeat (refine AX.mixL_own _ (by rfl) ?_; go_big_quiet_step (fail); refine wpQuiet_nil ?_)
    have hBd := HRs.out.below (Below.refl _ wr).drew
    refine AX.mixL_call (hend12 _ hBd.low (HSI.out.below (Below.refl _ wr).drew (Nat.le_refl _))) (by rfl) (by rfl) (by rfl) Tryz.func32 (by kernel_rfl) (by rfl) (by simp only [List.map_toArray, List.map_cons, List.map_nil]; rfl) ?_
    rintro e V1 ⟨rfl, hv1⟩
    have hB1' := hBd.below hv1
    refine ⟨_, rfl, ⟨trivial, fun _ => ⟨⟨_, HCo.out _ ((Ch.of_below (Below.refl _ wr).drew _).trans (Ch.of_below hv1 _))⟩, rfl⟩⟩, ?_⟩
    (try simp only [Act.put, List.setIfInBounds_toArray, List.set_cons_succ, List.set_cons_zero])
    refine AX.mixL_op _ (by rfl) (by rfl) ?_
    unfold Oper.wp
    go_simp
    have hv2 : Below V1.heap.size V1 (V1.alloc (.cells #[.int .i64 rf] 3)) := (Below.refl _ V1).alloc (Nat.le_refl _) _
    have hB2' := hB1'.below hv2
    have c2' := (Bx.new V1 3 #[.int .i64 rf]).cell 0
    have hc02 : Ch bad wr (V1.alloc (.cells #[.int .i64 rf] 3)) := ((Ch.of_below (Below.refl _ wr).drew _).trans (Ch.of_below hv1 _)).trans (Ch.of_below hv2 _)
    generalize hV2 : V1.alloc (.cells #[.int .i64 rf] 3) = V2 at *
    refine ⟨fun _ _ => ⟨⟨_, HCo.out _ hc02⟩, rfl⟩, ?_⟩
    (try simp only [Act.put, List.setIfInBounds_toArray, List.set_cons_succ, List.set_cons_zero])
    refine AX.mixL_op _ (by rfl) (by rfl) ?_
    have hro := hB2'.ro
    rw [← HRL.out] at hro
    refine oper_append_l w.heap.size (.slice ra rl rc) rule [rf] _ _ rfl rfl (by rw [← HRL.out]; exact hro) V1.heap.size 1 1 rfl rfl (fun j hj => by
     have : j = 0 := by simp at hj; exact hj
     subst this
     exact c2') H1.out (by simp) hB2'.low.size ?_
    intro rv' V3 h6 h7 h8
    have hc03 : Ch bad wr V3 := hc02.trans (Ch.of_grown h7 fun g hg => by rw [Hbad.out, hg]; simp)
    refine ⟨⟨trivial, fun _ => ⟨⟨_, HCo.out _ hc03⟩, rfl⟩⟩, ?_⟩
    (try simp only [Act.put, List.setIfInBounds_toArray, List.set_cons_succ, List.set_cons_zero])
    repeat (refine AX.mixL_own _ (by rfl) ?_; go_big_quiet_step (fail); refine wpQuiet_nil ?_)
    refine AX.mixL_op _ (by rfl) (by rfl) ?_
    obtain ⟨ra', rc', rfl⟩ := row_shape h6
    have hx3 : Bx V3 D 28 #[.slice na next.length nc, .slice ra rule.length rc] := (h7.block D hB2'.db.lt (fun e => by
     obtain ⟨cs, hc⟩ := own_cells hB2'.ro D (by rw [← HRL.out]; exact e.symm)
     rw [show V2.heap[D]? = _ from hB2'.db] at hc
     cases hc)).trans hB2'.db
    refine AX.oper_storeCell (o := 1) rfl rfl rfl sz24 hx3 (show 1 < 2 by decide) ?_
    rintro V4 g3 g4 g5
    have hl34 : Below 0 V3 V4 := AX.below_turn (Nat.zero_le _) (.inl (Array.getElem?_eq_some_iff.1 g3).1) g4 g5
    have hB4 := hB2'.pushR (l := [rf]) h6 (by rw [HRL.out] at h7; exact h7) (by rw [HRL.out] at h8; exact h8) g3 g4 hl34
    refine ⟨⟨trivial, fun h => by cases h⟩, ?_⟩
    (try simp only [Act.put, List.setIfInBounds_toArray, List.set_cons_succ, List.set_cons_zero])
    unfold AX.wpMixL
    have hIR : IR w V4 N x0 x1 x2 U r D most 0 (.slice (some ⟨gs, 0, none⟩) T.length c) T Si next (rule ++ [rf]) := ⟨_, _, _, T, [], by rw [List.append_nil]; exact hB4, rfl, rfl, Nat.zero_le _, HTm.out, HTok.out, [], by simp⟩
    clear hB4 hl34 g3 g4 g5 hx3 h6 h7 h8 hc03 hro hc02 c2' hB2' hv2 hV2 hB1' hv1 hBd pD pU0 pU1 pU2 pS hC0 hend12 hi0 hi1
    obtain ⟨R2, hR2i, hR2o⟩ : ∃ R : Value → Value → World → Prop, (∀ sv t W', R sv t W' → ∃ j : Nat, t = .int .i64 j ∧ IR w W' N x0 x1 x2 U r D most j sv T Si next (rule ++ [rf])) ∧ ∀ sv t W', (∃ j : Nat, t = .int .i64 j ∧ IR w W' N x0 x1 x2 U r D most j sv T Si next (rule ++ [rf])) → R sv t W' :=
     ⟨fun sv t W' => ∃ j : Nat, t = .int .i64 j ∧ IR w W' N x0 x1 x2 U r D most j sv T Si next (rule ++ [rf]), fun _ _ _ h => h, fun _ _ _ h => h⟩
    have HR2i := Lib.hid hR2i
    have HR2o := Lib.hid hR2o
    rw [HTL'.out, show [rf].length = 1 from rfl]
    clear hR2i hR2o
    go_wp2_with fail
    go_loopw [7, 11] (fun sv t wr => R2 sv t wr) (fun _ i _ => 256 - (intOf i).toNat)
    case atStart => exact HR2o.out _ _ _ ⟨0, rfl, hIR⟩
    case round =>
     clear hIR
     obtain ⟨j, rfl, hII⟩ := HR2i.out _ _ _ hrel
     clear hrel
     obtain ⟨nv2, rv2, vals2, T1, ts, hR, hrow, hts, hj, hTm1, hTok1, hTR⟩ := hII
     by_cases hjl : j < 256
     · obtain ⟨R0, hR0⟩ := hTR
       have hi1 : i < T1.length := by rw [hR0, List.length_append]; have := Hlt.out; omega
       obtain ⟨gs2, c2, v2, rfl, hgs2, hcs2, hSA2⟩ := hR.set hi1
       have hSe : T1.getD i [] = Si := by
        rw [HSi.out, hR0, List.getD_eq_getElem?_getD, List.getD_eq_getElem?_getD, List.getElem?_append_left Hlt.out]
       rw [hSe] at hSA2
       obtain ⟨sA2, sC2, rfl, hSI2⟩ := hSA2.irow
       obtain ⟨S2, hS2⟩ : ∃ S2, S2 = stepN N Si j := ⟨_, rfl⟩
       obtain ⟨sl, hsl⟩ : ∃ sl, sl = Si.length := ⟨_, rfl⟩
       obtain ⟨tl1, htl1⟩ : ∃ tl, tl = T1.length := ⟨_, rfl⟩
       have hstep : ∀ X, Below wr.heap.size wr X → Calls Tryz.prog 33 #[.agg #[x0, x1, x2], .slice sA2 sl sC2, .int .u8 (j : Nat)] X fun e w' => ∃ a c, e = .returned (.slice a S2.length c) ∧ w'.ownsRow X.heap.size 3 1 (.slice a S2.length c) S2.length (S2.map (Value.int .i64)) ∧ Below X.heap.size X w' := fun X hX => by
        rw [hS2, hsl]
        refine (hgo Si HSok.out.1 HSok.out.2 j hjl sA2 sC2 X (hR.low.trans (hX.mono hR.low.size)) (hSI2.below hX (Nat.le_refl _))).mono ?_
        rintro e w' ⟨v, rfl, ho, hb⟩
        obtain ⟨a, c, rfl⟩ := row_shape ho
        exact ⟨a, c, rfl, ho, hb⟩
       rw [← hsl] at hcs2
       rw [← htl1]
       have hSok2 : S2.length ≤ 1024 ∧ ∀ q ∈ S2, 0 ≤ q ∧ q < (N.cl.length : Int) := by
        rw [hS2]
        exact ⟨Nat.le_trans (stepF_len _ _ _ _ _) HO.out.most, fun q hq => stepF_in hq⟩
       have A0 := AX.cell_all (hR.ub.cell 0) hR.ub.lt
       have A1 := AX.cell_all (hR.ub.cell 1) hR.ub.lt
       have A2 := AX.cell_all (hR.ub.cell 2) hR.ub.lt
       have A3 := AX.cell_all hcs2 hgs2
       have hi0 : (0 : Int) ≤ (i : Int) := by omega
       have hi1' : (i : Int) < (tl1 : Int) := by omega
       have hj256 : (j : Int) % 256 = (j : Int) := by omega
       have hj0 : (0 : Int) ≤ (j : Int) := by omega
       have hj1 : (j : Int) < 256 := by omega
       have hnt : (next ++ ts).length ≤ 1000000 := by
        rw [List.length_append, hts, hfl]
        have := Hlt.out; have := HTm.out
        omega
       have HNT := Lib.hid hnt
       have hjx : (List.range 256)[j]? = some j := by rw [List.getElem?_range hjl]
       have HJ := Lib.hid hjx
       have HR := Lib.hid hR
       have HRow := Lib.hid hrow
       have HTS := Lib.hid hts
       have HTM1 := Lib.hid hTm1
       have HTOK1 := Lib.hid hTok1
       have HR0 := Lib.hid hR0
       have HS2 := Lib.hid hS2
       have HSOK2 := Lib.hid hSok2
       have HTL1 := Lib.hid htl1
       clear hR hrow hts hTm1 hTok1 hR0 hS2 hsl htl1 hSok2 hcs2 hgs2 hSA2 hSI2 hSe hnt hjx hi1
       go_upto_region 16 with (fail)
       refine AX.region_mixF (C := fun W => ∃ p : AX.BW wr, W = p.W) row8_16 inf8_16 (by kernel_rfl) (by kernel_rfl) (by kernel_rfl) (by kernel_rfl) fit8_16 (by intro c a d v w h; cases d <;> exact h) ⟨⟨_, (Below.refl _ wr).drew⟩, rfl⟩ ?_
       unfold row8_16
       repeat (refine AX.mix_plain _ (by rfl) ?_; go_big_quiet_step (fail); refine wpQuiet_nil ?_)
       refine AX.mix_call2 (hstep _ (Below.refl _ wr).drew) (by rfl) (by rfl) (by rfl) Tryz.func33 (by kernel_rfl) (by rfl) (by simp only [List.map_toArray, List.map_cons, List.map_nil]; rfl) ?_
       rintro e V5 ⟨a5, c5, rfl, ho5, hb5⟩
       have hb5' : Below wr.heap.size wr V5 := (Below.refl _ wr).drew.trans hb5
       refine ⟨_, rfl, ⟨⟨_, hb5'⟩, rfl⟩, ?_⟩
       simp only [Act.put, List.setIfInBounds_toArray, List.set_cons_succ, List.set_cons_zero]
       repeat (refine AX.mix_plain _ (by rfl) ?_; go_big_quiet_step (fail); refine wpQuiet_nil ?_)
       unfold AX.wpMix
       have HR5 := Lib.hid (HR.out.below hb5')
       have HS5 : Hid (SAt V5 (bz r D (.slice (some ⟨gs2, 0, none⟩) T1.length c2) nv2 rv2) (.slice a5 S2.length c5) S2) := Lib.hid (SAt.of_own ho5 fun k hk => by
        rw [mem_bz] at hk
        have hR := HR.out
        show k < wr.heap.size
        rcases hk with rfl | rfl | hk | hk | hk
        · exact (Array.getElem?_eq_some_iff.1 hR.map).1
        · exact hR.db.lt
        · exact (hR.own.lt k hk).2
        · exact (hR.no.lt k hk).2
        · exact (hR.ro.lt k hk).2)
       clear A0 A1 A2 A3 hstep ho5 hb5 hb5'
       by_cases hS0 : S2 = []
       · obtain ⟨s2, hs2⟩ : ∃ s, s = S2.length := ⟨_, rfl⟩
         have hs20 : s2 = 0 := by rw [hs2, hS0]; rfl
         have HADD0 : Hid (addS most T1 S2 = some (-1, T1)) := Lib.hid (by unfold addS; rw [if_pos hS0])
         rw [← hs2]
         subst hs20
         clear hs2 hS0
         obtain ⟨Vx, hVx⟩ : ∃ V, V = V5 := ⟨_, rfl⟩
         rw [← hVx]
         obtain ⟨T2, hT2⟩ : ∃ T2, T2 = T1 := ⟨_, rfl⟩
         obtain ⟨sv3, hsv3⟩ : ∃ s, s = Value.slice (some ⟨gs2, 0, none⟩) T1.length c2 := ⟨_, rfl⟩
         obtain ⟨vals3, hvals3⟩ : ∃ s, s = vals2 := ⟨_, rfl⟩
         have HR9 : Hid (Rs w Vx x0 x1 x2 U r D sv3 nv2 rv2 vals3 T2 (next ++ ts) (rule ++ [rf])) := Lib.hid (by rw [hVx, hT2, hsv3, hvals3]; exact HR5.out)
         have HTm2 : Hid (T2.length ≤ most) := Lib.hid (by rw [hT2]; exact HTM1.out)
         have HTok2 : Hid (TOk N T2) := Lib.hid (by rw [hT2]; exact HTOK1.out)
         have HTR2 : Hid (∃ R, T2 = T ++ R) := Lib.hid (by rw [hT2]; exact ⟨_, HR0.out⟩)
         have HADD := Lib.hid (show addS most T1 S2 = some ((-1), T2) by rw [hT2]; exact HADD0.out)
         rw [HTL1.out, ← hsv3]
         clear hVx hT2 hsv3 hvals3
         obtain ⟨pl, hpl⟩ : ∃ pl, pl = next ++ ts := ⟨_, rfl⟩
         have HRP := Lib.hid (show Rs w Vx x0 x1 x2 U r D sv3 nv2 rv2 vals3 T2 pl (rule ++ [rf]) from hpl ▸ HR9.out)
         have HNP : Hid (pl.length ≤ 1000000) := Lib.hid (hpl ▸ HNT.out)
         have HPL := Lib.hid hpl
         have hR10 := HRP.out.below ((Below.refl Vx.heap.size Vx).alloc (Nat.le_refl _) (.cells #[.int .i64 (-1)] 3))
         have hno := hR10.no
         have hdb := hR10.db
         have e0 := HRP.out.db.cell 0
         have hca := (Bx.new Vx 3 #[.int .i64 (-1)]).cell 0
         have hlz := hR10.low.size
         clear hR10 hpl
         go_wp2_with (first
          | (at_builtin; refine append_i _ w.heap.size nv2 pl [(-1)] rfl _ _ rfl rfl hno Vx.heap.size 1 1 rfl rfl (fun k hk => (by have : k = 0 := (by simp at hk; exact hk); subst this; exact hca)) HNP.out (by simp) hlz ?_; intro v' W5 h6 h7 h8; have hx5 : Bx W5 D 28 #[nv2, rv2] := (h7.block D hdb.lt (fun e => (by obtain ⟨cs, hc⟩ := own_cells hno D e.symm; rw [show (Vx.alloc _).heap[D]? = _ from hdb] at hc; cases hc))).trans hdb; obtain ⟨lv, cv, rfl⟩ := row_shape h6)
          | ((with_reducible refine st21_id ?_); refine AX.wpList_storeCell (o := 0) (v := .slice lv (pl.length + 1) cv) rfl rfl rfl sz24 hx5 (show 0 < 2 by decide) ?_; rintro W6 g3 g4 g5))
         have hl6 : Below 0 W5 W6 := AX.below_turn (Nat.zero_le _) (.inl (Array.getElem?_eq_some_iff.1 g3).1) g4 g5
         have hR11 := (HRP.out.below ((Below.refl Vx.heap.size Vx).alloc (Nat.le_refl _) (.cells #[.int .i64 (-1)] 3))).pushN (l := [(-1)]) h6 h7 h8 g3 g4 hl6
         rw [HPL.out, List.append_assoc] at hR11
         go_round
         case rel => exact HR2o.out sv3 (.int .i64 ((j : Int) + 1)) W6 ⟨j + 1, by simp, _, _, _, T2, ts ++ [(-1)], hR11, rowB_next HRow.out HJ.out (by rw [← HS2.out]; exact HADD.out), by rw [List.length_append, HTS.out]; rfl, by omega, HTm2.out, HTok2.out, HTR2.out⟩
         case measure => simp [intOf]; omega
       · obtain ⟨s2, hs2⟩ : ∃ s, s = S2.length := ⟨_, rfl⟩
         have hs20 : 0 < s2 := by rw [hs2]; exact List.length_pos_iff.2 hS0
         have hSm : Small S2 := fun q hq => by
          have h1 := HSOK2.out.2 q hq
          have h2 := HO.out.most
          omega
         have hkey : ∀ X, Below V5.heap.size V5 X → Calls Tryz.prog 31 #[.slice a5 s2 c5] X fun e w' => e = .returned (.string ⟨(keyL S2).toArray⟩) ∧ Below X.heap.size X w' := fun X hX => by
          obtain ⟨a', c', he, hI⟩ := HS5.out.irow
          cases he
          rw [hs2]
          exact rkey_k S2 (by have := HSOK2.out.1; omega) hSm a5 c5 X (hI.below hX (Nat.le_refl _))
         have hlk : ∀ X, Below V5.heap.size V5 X → (Instr.lookup 46 (.map (some r)) (.string ⟨(keyL S2).toArray⟩) true).run Tryz.prog X = .ok (.tuple #[.int .i64 (if fi T1 S2 < T1.length then (fi T1 S2 : Int) else 0), .bool (decide (fi T1 S2 < T1.length))]) X := fun X hX =>
          look52 ((hX.block r (Array.getElem?_eq_some_iff.1 HR5.out.map).1).trans HR5.out.map) hSm HR5.out.small
         obtain ⟨f, hf⟩ : ∃ f, f = fi T1 S2 := ⟨_, rfl⟩
         obtain ⟨ks, hks⟩ : ∃ ks : ByteArray, ks = ⟨(keyL S2).toArray⟩ := ⟨_, rfl⟩
         rw [← hf, ← HTL1.out, ← hks] at hlk
         rw [← hks] at hkey
         have HF := Lib.hid hf
         have HKS := Lib.hid hks
         have HSm := Lib.hid hSm
         have HS20 := Lib.hid hs2
         have HS0 := Lib.hid hS0
         rw [← hs2]
         have hs2i : (0 : Int) < (s2 : Int) := by omega
         have hk0 := hkey _ (Below.refl _ _)
         clear hf hks hSm hs2 hS0
         by_cases hfm : f < tl1
         · have HADD0 : Hid (addS most T1 S2 = some ((f : Int), T1)) := Lib.hid (by rw [addS_fi, ← HF.out, ← HTL1.out, if_neg HS0.out, if_pos hfm])
           simp only [if_pos hfm, decide_eq_true hfm] at hlk
           go_upto_region 27 with (first
            | (go_at_call 31; (with_reducible refine hk0.mono ?_); rintro e V6 ⟨rfl, hb6⟩; have hlk6 := hlk _ hb6))
           clear hlk hkey hlk6 hk0
           obtain ⟨Vx, hVx⟩ : ∃ V, V = V6 := ⟨_, rfl⟩
           rw [← hVx]
           obtain ⟨T2, hT2⟩ : ∃ T2, T2 = T1 := ⟨_, rfl⟩
           obtain ⟨sv3, hsv3⟩ : ∃ s, s = Value.slice (some ⟨gs2, 0, none⟩) T1.length c2 := ⟨_, rfl⟩
           obtain ⟨vals3, hvals3⟩ : ∃ s, s = vals2 := ⟨_, rfl⟩
           have HR9 : Hid (Rs w Vx x0 x1 x2 U r D sv3 nv2 rv2 vals3 T2 (next ++ ts) (rule ++ [rf])) := Lib.hid (by rw [hVx, hT2, hsv3, hvals3]; exact HR5.out.below hb6)
           have HTm2 : Hid (T2.length ≤ most) := Lib.hid (by rw [hT2]; exact HTM1.out)
           have HTok2 : Hid (TOk N T2) := Lib.hid (by rw [hT2]; exact HTOK1.out)
           have HTR2 : Hid (∃ R, T2 = T ++ R) := Lib.hid (by rw [hT2]; exact ⟨_, HR0.out⟩)
           have HADD := Lib.hid (show addS most T1 S2 = some ((f : Int), T2) by rw [hT2]; exact HADD0.out)
           rw [HTL1.out, ← hsv3]
           clear hVx hT2 hsv3 hvals3
           obtain ⟨pl, hpl⟩ : ∃ pl, pl = next ++ ts := ⟨_, rfl⟩
           have HRP := Lib.hid (show Rs w Vx x0 x1 x2 U r D sv3 nv2 rv2 vals3 T2 pl (rule ++ [rf]) from hpl ▸ HR9.out)
           have HNP : Hid (pl.length ≤ 1000000) := Lib.hid (hpl ▸ HNT.out)
           have HPL := Lib.hid hpl
           have hR10 := HRP.out.below ((Below.refl Vx.heap.size Vx).alloc (Nat.le_refl _) (.cells #[.int .i64 (f : Int)] 3))
           have hno := hR10.no
           have hdb := hR10.db
           have e0 := HRP.out.db.cell 0
           have hca := (Bx.new Vx 3 #[.int .i64 (f : Int)]).cell 0
           have hlz := hR10.low.size
           clear hR10 hpl
           go_wp2_with (first
            | (at_builtin; refine append_i _ w.heap.size nv2 pl [(f : Int)] rfl _ _ rfl rfl hno Vx.heap.size 1 1 rfl rfl (fun k hk => (by have : k = 0 := (by simp at hk; exact hk); subst this; exact hca)) HNP.out (by simp) hlz ?_; intro v' W5 h6 h7 h8; have hx5 : Bx W5 D 28 #[nv2, rv2] := (h7.block D hdb.lt (fun e => (by obtain ⟨cs, hc⟩ := own_cells hno D e.symm; rw [show (Vx.alloc _).heap[D]? = _ from hdb] at hc; cases hc))).trans hdb; obtain ⟨lv, cv, rfl⟩ := row_shape h6)
            | ((with_reducible refine st21_id ?_); refine AX.wpList_storeCell (o := 0) (v := .slice lv (pl.length + 1) cv) rfl rfl rfl sz24 hx5 (show 0 < 2 by decide) ?_; rintro W6 g3 g4 g5))
           have hl6 : Below 0 W5 W6 := AX.below_turn (Nat.zero_le _) (.inl (Array.getElem?_eq_some_iff.1 g3).1) g4 g5
           have hR11 := (HRP.out.below ((Below.refl Vx.heap.size Vx).alloc (Nat.le_refl _) (.cells #[.int .i64 (f : Int)] 3))).pushN (l := [(f : Int)]) h6 h7 h8 g3 g4 hl6
           rw [HPL.out, List.append_assoc] at hR11
           go_round
           case rel => exact HR2o.out sv3 (.int .i64 ((j : Int) + 1)) W6 ⟨j + 1, by simp, _, _, _, T2, ts ++ [(f : Int)], hR11, rowB_next HRow.out HJ.out (by rw [← HS2.out]; exact HADD.out), by rw [List.length_append, HTS.out]; rfl, by omega, HTm2.out, HTok2.out, HTR2.out⟩
           case measure => simp [intOf]; omega
         · simp only [if_neg hfm, decide_eq_false hfm] at hlk
           by_cases hmm : tl1 = most
           · have HADD0 : Hid (addS most T1 S2 = none) := Lib.hid (by rw [addS_fi, ← HF.out, ← HTL1.out, if_neg HS0.out, if_neg hfm, if_pos hmm])
             have HN : Hid (bldB most (stepN N) (List.range 256) (most + 1) 0 [[0]] = none) := Lib.hid (HBL.out.none Hlt.out HTm.out (by
              rw [← HSi.out]
              exact rowB_none HRow.out HJ.out (by rw [← HS2.out]; exact HADD0.out)))
             subst hmm
             go_wp2_with (first
              | (go_at_call 31; (with_reducible refine hk0.mono ?_); rintro e V6 ⟨rfl, hb6⟩; have hlk6 := hlk _ hb6; have hR6 := HR5.out.below hb6; have rb6 := hR6.rb; have lw6 := hR6.low)
              | ((with_reducible refine st21_id ?_); refine AX.wpList_storeBox (vs := [.slice none 0 0, .slice none 0 0]) rfl rfl sz32 rb6 rfl rfl ?_; rintro W7 g3 g4 g5))
             have g3' : Bx W7 (U + 1) 28 #[.slice none 0 0, .slice none 0 0] := g3
             have hl7 : Below w.heap.size V6 W7 := AX.below_turn (by have := HU.out; omega) (.inl g3'.lt) g4 g5
             have e0 := g3'.cell 0
             have e1 := g3'.cell 1
             exact bodyPost_ret (v := .tuple #[.agg #[.slice none 0 0, .slice none 0 0], .int .i64 10]) (by simp [results, Tryz.f8, go_sem, e0, e1]) rfl ⟨lw6.trans hl7, .inl ⟨HN.out, rfl⟩⟩
           · have HADD0 : Hid (addS most T1 S2 = some ((tl1 : Int), T1 ++ [S2])) := Lib.hid (by rw [addS_fi, ← HF.out, ← HTL1.out, if_neg HS0.out, if_neg hfm, if_neg hmm])
             have hmi : ¬ (tl1 : Int) = (most : Int) := by omega
             have hmb : ((tl1 : Int) == (most : Int)) = false := by simp; omega
             have hI6 : ∀ X, IRow X a5 S2 → Calls Tryz.prog 31 #[.slice a5 s2 c5] X fun e w' => e = .returned (.string ks) ∧ Below X.heap.size X w' := fun X hI => by
              rw [HS20.out, HKS.out]
              exact rkey_k S2 (by have := HSOK2.out.1; omega) HSm.out a5 c5 X hI
             go_upto_region 24 with (first
              | (go_at_call 31; (with_reducible refine hk0.mono ?_); rintro e V6 ⟨rfl, hb6⟩; have hlk6 := hlk _ hb6))
             clear hlk hlk6 hkey hk0
             obtain ⟨sa, hsa⟩ : ∃ sa : Option Addr, sa = some ⟨gs2, 0, none⟩ := ⟨_, rfl⟩
             rw [← hsa]
             have hb7 := (Below.refl V6.heap.size V6).alloc (Nat.le_refl _) (.cells #[.slice a5 s2 c5] 24)
             have hR7 : Rs w (V6.alloc (.cells #[.slice a5 s2 c5] 24)) x0 x1 x2 U r D (.slice sa tl1 c2) nv2 rv2 vals2 T1 (next ++ ts) (rule ++ [rf]) := by
              have := (HR5.out.below hb6).below hb7
              rw [hsa, HTL1.out]; exact this
             have hS7 : SAt (V6.alloc (.cells #[.slice a5 s2 c5] 24)) (bz r D (.slice sa tl1 c2) nv2 rv2) (.slice a5 s2 c5) S2 := by
              rw [hsa, HTL1.out, HS20.out]
              have := HS5.out.turn ((Ch.of_below hb6 []).trans (Ch.of_below hb7 [])) (fun _ h => by simp at h) (fun _ h _ => h)
              rw [HS20.out] at this
              exact this
             have hown := hR7.own
             have hvl2 := hR7.vl
             have hvl : vals2.length ≤ 10000000 := by rw [hvl2]; have := HTM1.out; omega
             have cB := (Bx.new V6 24 #[.slice a5 s2 c5]).cell 0
             have hba := hR7.low.size
             have HR7 := Lib.hid hR7
             have HS7 := Lib.hid hS7
             have m7 := hR7.map
             have ner : ∀ g, (Value.slice sa tl1 c2).ownBlock = some g → r ≠ g := fun g hg e => by
              obtain ⟨cs, hc⟩ := own_cells hown g hg
              rw [← e, m7] at hc; cases hc
             have HM7 := Lib.hid m7
             have HNER := Lib.hid ner
             clear hsa hR7 hS7 hb7 m7 ner
             go_upto_region 26 with (first
              | (at_builtin; refine append_s _ w.heap.size (.slice sa tl1 c2) vals2 (.slice a5 s2 c5) rfl _ _ rfl rfl T1.length hvl2 hown V6.heap.size 1 rfl cB rfl hvl hba ?_; intro v' V8 h6 h7 h8; obtain ⟨lv2, cv2, rfl⟩ := row_shape h6; have hS8 := HS7.out.turn (bad' := bz r D (.slice sa tl1 c2) nv2 rv2) (Ch.of_grown (bad := (Value.slice sa tl1 c2).ownBlock.toList) h7 (fun g hg => (by simp [hg]))) (fun k hk _ => (by rw [Option.mem_toList] at hk; rw [mem_bz]; exact .inr (.inr (.inl hk)))) (fun _ h _ => h); have hI8 : IRow V8 a5 S2 := (by obtain ⟨a', c', he, hI⟩ := hS8.irow; cases he; exact hI); have hk8 := hI6 _ hI8; have m8 : V8.heap[r]? = some (.map (entsF 0 T1).toArray T1.length) := (h7.block r (Array.getElem?_eq_some_iff.1 HM7.out).1 (fun e => HNER.out r e.symm rfl)).trans HM7.out)
              | (go_at_call 31; (with_reducible refine hk8.mono ?_); rintro e V9 ⟨rfl, hb9⟩; have m9 : V9.heap[r]? = some (.map (entsF 0 T1).toArray T1.length) := (hb9.block r (Array.getElem?_eq_some_iff.1 m8).1).trans m8)
              | ((with_reducible refine upd46_id ?_); refine wpList_upd46 (T := T1) (S := S2) (n := tl1) HTL1.out HKS.out rfl rfl rfl m9 HSm.out HR7.out.small (by rw [← HF.out, ← HTL1.out]; exact hfm) ?_; rintro V10 hm10 hu10))
             have hR10 := HR7.out.add HS7.out HSm.out h6 h7 h8 hb9 hu10 hm10
             obtain ⟨Vx, hVx⟩ : ∃ V, V = V10 := ⟨_, rfl⟩
             rw [← hVx] at hR10 ⊢
             obtain ⟨T2, hT2⟩ : ∃ T2, T2 = T1 ++ [S2] := ⟨_, rfl⟩
             rw [← hT2] at hR10
             obtain ⟨sv3, hsv3⟩ : ∃ s, s = Value.slice lv2 (T1.length + 1) cv2 := ⟨_, rfl⟩
             rw [← hsv3] at hR10 ⊢
             obtain ⟨vals3, hvals3⟩ : ∃ s, s = vals2 ++ [.slice a5 s2 c5] := ⟨_, rfl⟩
             rw [← hvals3] at hR10
             have HR9 := Lib.hid hR10
             have HTm2 : Hid (T2.length ≤ most) := Lib.hid (by rw [hT2, List.length_append]; have := HTM1.out; have := HTL1.out; show T1.length + 1 ≤ most; omega)
             have HTok2 : Hid (TOk N T2) := Lib.hid (fun S hS => by
              rw [hT2] at hS
              rcases List.mem_append.1 hS with hS | hS
              · exact HTOK1.out S hS
              · rw [List.mem_singleton.1 hS]; exact HSOK2.out)
             have HTR2 : Hid (∃ R, T2 = T ++ R) := Lib.hid ⟨R0 ++ [S2], by rw [hT2, HR0.out, List.append_assoc]⟩
             have HADD := Lib.hid (show addS most T1 S2 = some ((tl1 : Int), T2) by rw [hT2]; exact HADD0.out)
             clear hVx hT2 hsv3 hvals3 hR10 h6 h7 h8 hb9 hu10 hm10 m9 m8 hk8 hI8 hS8 hown cB hI6 hba
             obtain ⟨pl, hpl⟩ : ∃ pl, pl = next ++ ts := ⟨_, rfl⟩
             have HRP := Lib.hid (show Rs w Vx x0 x1 x2 U r D sv3 nv2 rv2 vals3 T2 pl (rule ++ [rf]) from hpl ▸ HR9.out)
             have HNP : Hid (pl.length ≤ 1000000) := Lib.hid (hpl ▸ HNT.out)
             have HPL := Lib.hid hpl
             have hR10 := HRP.out.below ((Below.refl Vx.heap.size Vx).alloc (Nat.le_refl _) (.cells #[.int .i64 (tl1 : Int)] 3))
             have hno := hR10.no
             have hdb := hR10.db
             have e0 := HRP.out.db.cell 0
             have hca := (Bx.new Vx 3 #[.int .i64 (tl1 : Int)]).cell 0
             have hlz := hR10.low.size
             clear hR10 hpl
             go_wp2_with (first
              | (at_builtin; refine append_i _ w.heap.size nv2 pl [(tl1 : Int)] rfl _ _ rfl rfl hno Vx.heap.size 1 1 rfl rfl (fun k hk => (by have : k = 0 := (by simp at hk; exact hk); subst this; exact hca)) HNP.out (by simp) hlz ?_; intro v' W5 h6 h7 h8; have hx5 : Bx W5 D 28 #[nv2, rv2] := (h7.block D hdb.lt (fun e => (by obtain ⟨cs, hc⟩ := own_cells hno D e.symm; rw [show (Vx.alloc _).heap[D]? = _ from hdb] at hc; cases hc))).trans hdb; obtain ⟨lv, cv, rfl⟩ := row_shape h6)
              | ((with_reducible refine st21_id ?_); refine AX.wpList_storeCell (o := 0) (v := .slice lv (pl.length + 1) cv) rfl rfl rfl sz24 hx5 (show 0 < 2 by decide) ?_; rintro W6 g3 g4 g5))
             have hl6 : Below 0 W5 W6 := AX.below_turn (Nat.zero_le _) (.inl (Array.getElem?_eq_some_iff.1 g3).1) g4 g5
             have hR11 := (HRP.out.below ((Below.refl Vx.heap.size Vx).alloc (Nat.le_refl _) (.cells #[.int .i64 (tl1 : Int)] 3))).pushN (l := [(tl1 : Int)]) h6 h7 h8 g3 g4 hl6
             rw [HPL.out, List.append_assoc] at hR11
             go_round
             case rel => exact HR2o.out sv3 (.int .i64 ((j : Int) + 1)) W6 ⟨j + 1, by simp, _, _, _, T2, ts ++ [(tl1 : Int)], hR11, rowB_next HRow.out HJ.out (by rw [← HS2.out]; exact HADD.out), by rw [List.length_append, HTS.out]; rfl, by omega, HTm2.out, HTok2.out, HTR2.out⟩
             case measure => simp [intOf]; omega
     · obtain rfl : j = 256 := by omega
       have hlt := Hlt.out
       obtain ⟨R0, hR0⟩ := hTR
       have e1 : next ++ ts = (tss ++ [ts]).flatten := by rw [List.flatten_append, ← HN1.out]; simp
       have e2 : rule ++ [rf] = (T1.take (i + 1)).map (ruleF N.ru) := by
        rw [hR0, List.take_append_of_le_length (by omega), List.take_succ_eq_append_getElem hlt, List.map_append, ← HR1.out, HRF.out, HSi.out, List.getD_eq_getElem?_getD, List.getElem?_eq_getElem hlt]
        rfl
       have hrow' : rowB most (stepN N (T.getD i [])) (List.range 256) T = some (ts, T1) := by
        rw [← HSi.out]
        have := hrow
        rw [List.take_of_length_le (by simp)] at this
        exact this
       have hOR : OR w wr N x0 x1 x2 U r D most (i + 1) u7 := ⟨nv2, rv2, vals2, T1, tss ++ [ts], by rw [← e1, ← e2]; exact hR, HBL.out.next hlt HTm.out hrow', by rw [List.length_append, HTL.out]; rfl, by rw [hR0, List.length_append]; omega, hTm1, hTok1, by rw [← e1, List.length_append, hts, hfl]; omega⟩
       have HOR := Lib.hid hOR
       have hTm' := HTm.out
       clear hOR hrow' e1 e2 hR0 hR hrow hTok1 hts
       go_wp2_with fail
       go_round
       case rel => exact HRo.out _ _ _ ⟨i + 1, by simp, HOR.out⟩
       case measure => simp [intOf]; omega
  · obtain rfl : i = T.length := by omega
    obtain ⟨sa, sc, rfl⟩ := row_shape hRs.own
    rw [List.take_length] at hRs
    obtain ⟨na, nc, rfl⟩ := row_shape hRs.no
    obtain ⟨ra, rc, rfl⟩ := row_shape hRs.ro
    have hfin := hBl.done (Nat.lt_irrefl _) hTm
    obtain ⟨nl, hnl⟩ : ∃ nl, nl = tss.flatten.length := ⟨_, rfl⟩
    obtain ⟨rl, hrl⟩ : ∃ rl, rl = (T.map (ruleF N.ru)).length := ⟨_, rfl⟩
    have t0 : wr.cell? ⟨D, 0, none⟩ = some (.slice na nl nc) := by rw [hnl]; exact hRs.db.cell 0
    have t1 : wr.cell? ⟨D, 1, none⟩ = some (.slice ra rl rc) := by rw [hrl]; exact hRs.db.cell 1
    have HNL := Lib.hid hnl
    have HRL := Lib.hid hrl
    have HB := Lib.hid hRs
    have HF := Lib.hid hfin
    have hR := hRs.rb
    have hwU : w.heap.size ≤ U + 1 := by have := HU.out; omega
    clear hfin hnl hrl hRs hBl htl hiT hTok hTm hfl
    go_wp2_with (first | ((with_reducible refine st21_id ?_); refine AX.wpList_storeBox (vs := [.slice na nl nc, .slice ra rl rc]) rfl rfl sz32 hR rfl rfl ?_; rintro W7 g3 g4 g5))
    have g3' : Bx W7 (U + 1) 28 #[.slice na nl nc, .slice ra rl rc] := g3
    have hl7 : Below w.heap.size wr W7 := AX.below_turn hwU (.inl g3'.lt) g4 g5
    have e20 := g3'.cell 0
    have e1 := g3'.cell 1
    have hB := HB.out
    have row : ∀ (a : Option Addr) (c : Nat) (l : List Int), wr.ownsRow w.heap.size 3 1 (.slice a l.length c) l.length (l.map (Value.int .i64)) → IRow W7 a l := fun a c l ho => by
     intro hne
     rcases ho.2 with ⟨_, h0⟩ | ⟨g, cap, cur, e, _, hh, _⟩
     · exact absurd (List.eq_nil_of_length_eq_zero h0) hne
     · cases e
       have h8 : W7.heap[g]? = wr.heap[g]? := g4 g (fun e => by subst e; rw [show wr.heap[_]? = _ from hR] at hh; cases hh)
       refine ⟨g, 0, rfl, (Array.getElem?_eq_some_iff.1 (h8.trans hh)).1, fun j hj => ?_⟩
       have := ho.cells (g := g) rfl j (.int .i64 l[j]) (by simp [hj])
       rw [addr_add] at this
       have e8 : W7.cell? ⟨g, 0 + j, none⟩ = wr.cell? ⟨g, 0 + j, none⟩ := by unfold World.cell?; rw [h8]
       exact e8.trans this
    exact bodyPost_ret (v := .tuple #[.agg #[.slice na nl nc, .slice ra rl rc], .int .i64 0]) (by simp [results, Tryz.f8, go_sem, e20, e1]) rfl ⟨hB.low.trans hl7, .inr ⟨tss, T, na, ra, nc, rc, HF.out, by rw [HNL.out, HRL.out]; rfl, row _ _ _ hB.no, row _ _ _ hB.ro⟩⟩
end Go.Proofs.YtaadkdmbhckdeaaGreatDoor
