/- class.Split: rows of classes; regions whose operations read and whose callees lay blocks of their own. -/
import Derived.Test.YtaadkdmbhckdeaaGreatDoorN18
import Derived.Test.YtaadkdmbhckdeaaGreatDoorN11
import Derived.Test.YtaadkdmbhckdeaaGreatDoorRg8
namespace Go.Proofs.YtaadkdmbhckdeaaGreatDoor
open Go Go.Proofs Go.RowKit Go.Shelf Go.Lib Go.Sort
attribute [local go_sem] Oper.semAt_some
structure BQ (w : World) where
 W : World
 h : Below w.heap.size w W
instance (w : World) : Inhabited (BQ w) := ⟨⟨w, Below.refl _ w⟩⟩
theorem region_belowQ {P : Program} {id : Nat} {Q : Exit → Act → World → Prop} {a : Act} {w : World} {l : List Oper} (hm : P.follows .mixedOrders = true) (hB : Region.lexB .any l.toArray = true)
  (h : wpQuiet P l.toArray (fun w' => ∃ p : BQ w, w' = p.W) (fun a' => ∀ w', (∃ p : BQ w, w' = p.W) → Q .normal a' w') l a) : (Code.region id l.toArray true).wp P Q a w :=
 wp_region_quiet (C := fun w' => ∃ p : BQ w, w' = p.W) hm hB ⟨⟨w.drew, (Below.refl _ w).drew⟩, rfl⟩ (by simpa using h)
theorem Calls.below_ofQ {P : Program} {f : FuncId} {args : Array Value} {w : World} {p : BQ w} {v : Value}
  (h : Calls P f args p.W fun e w' => e = .returned v ∧ Below p.W.heap.size p.W w') : Calls P f args p.W fun e w'' => e = .returned v ∧ ∃ q : BQ w, w'' = q.W :=
 h.mono fun _ w' ⟨he, hb⟩ => ⟨he, ⟨w', p.h.trans (hb.mono p.h.size)⟩, rfl⟩
def RowAt (W : World) (B off : Nat) (l : List Kl) : Prop := ∀ i (h : i < l.length), ∀ j v, (encC l[i])[j]? = some v → W.cell? ⟨B, off + i * 4 + j, none⟩ = some v
theorem RowAt.below {n B off : Nat} {l : List Kl} {w w' : World} (h : RowAt w B off l) (hb : Below n w w') (hn : B < n) : RowAt w' B off l :=
 fun i hi j v hv => (hb.cell (p := ⟨B, off + i * 4 + j, none⟩) hn).trans (h i hi j v hv)
theorem addr_addQ (B o j : Nat) : (⟨B, o, none⟩ : Addr).add j = ⟨B, o + j, none⟩ := by unfold Addr.add; split <;> simp_all
structure KAt (W : World) (B o : Nat) (x : Kl) : Prop where
 c0 : W.cell? ⟨B, o, none⟩ = some (.int .u64 (x.a : Nat))
 c1 : W.cell? ⟨B, o + 1, none⟩ = some (.int .u64 (x.b : Nat))
 c2 : W.cell? ⟨B, o + 2, none⟩ = some (.int .u64 (x.c : Nat))
 c3 : W.cell? ⟨B, o + 3, none⟩ = some (.int .u64 (x.d : Nat))
theorem KAt.below {n B o : Nat} {x : Kl} {w w' : World} (h : KAt w B o x) (hb : Below n w w') (hn : B < n) : KAt w' B o x :=
 ⟨(hb.cell (p := ⟨B, o, none⟩) hn).trans h.c0, (hb.cell (p := ⟨B, o + 1, none⟩) hn).trans h.c1, (hb.cell (p := ⟨B, o + 2, none⟩) hn).trans h.c2, (hb.cell (p := ⟨B, o + 3, none⟩) hn).trans h.c3⟩
theorem RowAt.c4 {B off : Nat} {l : List Kl} {w : World} (h : RowAt w B off l) {i : Nat} (hi : i < l.length) : KAt w B (off + i * 4) l[i] :=
 ⟨h i hi 0 _ rfl, h i hi 1 _ rfl, h i hi 2 _ rfl, h i hi 3 _ rfl⟩
theorem flat_get : ∀ (l : List Kl) (i : Nat) (h : i < l.length) (j : Nat) (v : Value), (encC l[i])[j]? = some v → (l.flatMap encC)[i * 4 + j]? = some v
 | x :: l, 0, _, j, v, hv => by
  have hj : j < (encC x).length := (List.getElem?_eq_some_iff.1 hv).1
  rw [List.flatMap_cons, Nat.zero_mul, Nat.zero_add, List.getElem?_append_left hj]
  exact hv
 | x :: l, i + 1, h, j, v, hv => by
  rw [List.flatMap_cons, List.getElem?_append_right (by rw [encC_len]; omega), encC_len, show (i + 1) * 4 + j - 4 = i * 4 + j by omega]
  exact flat_get l i (by simpa using h) j v (by simpa using hv)
theorem row_cells {w : World} {base g n cap : Nat} {l : List Kl} (h : w.ownsRow base 55 4 (.slice (some ⟨g, 0, none⟩) n cap) n (l.flatMap encC)) : RowAt w g 0 l := by
 intro i hi j v hv
 have := h.cells (g := g) rfl (i * 4 + j) v (flat_get l i hi j v hv)
 rw [Nat.zero_add]
 have e : (⟨g, 0, none⟩ : Addr).add (i * 4 + j) = ⟨g, i * 4 + j, none⟩ := by unfold Addr.add; split <;> simp_all
 rwa [e] at this
theorem holds_of_row {w : World} {base g n cap : Nat} {l : List Kl} (h : w.ownsRow base 55 4 (.slice (some ⟨g, 0, none⟩) n cap) n (l.flatMap encC)) : HoldsK encC 4 w g 0 l.toArray := by
 intro j hj
 rw [size_flatK] at hj
 have hj4 : j / 4 < l.length := by simp at hj; omega
 have hr := row_cells h (j / 4) hj4 (j % 4) ((encC l[j / 4])[j % 4]'(by rw [encC_len]; omega)) (List.getElem?_eq_getElem _)
 have e : 0 + j / 4 * 4 + j % 4 = 0 + j := by omega
 rw [e] at hr
 refine ⟨?_, ?_⟩
 · rw [hr, get_flatK _ _ _ _ hj]
   simp [hj4]
   rw [List.getElem?_eq_getElem (by rw [encC_len]; omega)]
   rfl
 · rcases h.2 with ⟨h0, _⟩ | ⟨g', cap', cur, h0, _, hg, _⟩
   · cases h0
   · cases h0
     simp [World.frozen?, hg]
theorem rowAt_of_holds {w : World} {g off : Nat} {d : Array Kl} (h : HoldsK encC 4 w g off d) : RowAt w g off d.toList := by
 intro i hi j v hv
 have hi' : i < d.size := by simpa using hi
 have hj : j < 4 := by have := (List.getElem?_eq_some_iff.1 hv).1; rwa [encC_len] at this
 rw [(HoldsK.cell h hi' hj).1]
 have e : d[i]! = d.toList[i] := by simp [hi']
 rw [e, List.getElem!_eq_getElem?_getD, hv]
 rfl
theorem info50 : (Tryz.prog.info? 55).map (fun i => (i.zero, i.size, i.bytes)) = some (some (.agg #[.int .u64 0, .int .u64 0, .int .u64 0, .int .u64 0]), 4, 32) := by kernel_rfl
theorem row_below4 {n₀ B : Nat} {e : TypeId} {k : Nat} {v : Value} {n : Nat} {xs : List Value} {w w' : World} (h : w.ownsRow B e k v n xs) (hb : Below n₀ w w') (hl : ∀ g, v.ownBlock = some g → g < n₀) : w'.ownsRow B e k v n xs := by
 refine ⟨h.1, ?_⟩
 rcases h.2 with hn | ⟨g, cap, cur, rfl, hg, hh, rest⟩
 · exact .inl hn
 · exact .inr ⟨g, cap, cur, rfl, hg, (hb.block g (hl g rfl)).trans hh, rest⟩
theorem row_addr4 {B : Nat} {e : TypeId} {k : Nat} {a : Option Addr} {n c : Nat} {xs : List Value} {w : World} (h : w.ownsRow B e k (.slice a n c) n xs) (hn : 0 < n) : ∃ g, a = some ⟨g, 0, none⟩ := by
 rcases h.2 with ⟨_, h0⟩ | ⟨g, cap, cur, h0, _⟩
 · omega
 · cases h0
   exact ⟨g, rfl⟩
theorem kat_new (w : World) (x : Kl) : KAt (w.alloc (.cells #[.int .u64 (x.a : Nat), .int .u64 (x.b : Nat), .int .u64 (x.c : Nat), .int .u64 (x.d : Nat)] 55)) w.heap.size 0 x :=
 ⟨by simp, by simp, by simp, by simp⟩
theorem cells_new (w : World) (x : Kl) : ∀ j u, (encC x)[j]? = some u → (w.alloc (.cells #[.int .u64 (x.a : Nat), .int .u64 (x.b : Nat), .int .u64 (x.c : Nat), .int .u64 (x.d : Nat)] 55)).cell? ((⟨w.heap.size, 0, none⟩ : Addr).add j) = some u := by
 intro j u hj
 rw [addr_addQ, Nat.zero_add]
 simp only [encC] at hj
 match j, hj with
 | 0, hj => simp at hj; subst hj; simp
 | 1, hj => simp at hj; subst hj; simp
 | 2, hj => simp at hj; subst hj; simp
 | 3, hj => simp at hj; subst hj; simp
 | j + 4, hj => simp at hj
theorem meetK (x c : Kl) (w : World) : Calls Tryz.prog 41 #[.agg #[.int .u64 (x.a : Nat), .int .u64 (x.b : Nat), .int .u64 (x.c : Nat), .int .u64 (x.d : Nat)], .agg #[.int .u64 (c.a : Nat), .int .u64 (c.b : Nat), .int .u64 (c.c : Nat), .int .u64 (c.d : Nat)]] w fun e w' =>
 e = .returned (.agg #[.int .u64 ((x.and c).a : Nat), .int .u64 ((x.and c).b : Nat), .int .u64 ((x.and c).c : Nat), .int .u64 ((x.and c).d : Nat)]) ∧ Below w.heap.size w w' := meet_k x.a x.b x.c x.d c.a c.b c.c c.d (x.h 0) (x.h 1) (x.h 2) (x.h 3) (c.h 0) (c.h 1) (c.h 2) (c.h 3) w
theorem notK (x : Kl) (w : World) : Calls Tryz.prog 42 #[.agg #[.int .u64 (x.a : Nat), .int .u64 (x.b : Nat), .int .u64 (x.c : Nat), .int .u64 (x.d : Nat)]] w fun e w' =>
 e = .returned (.agg #[.int .u64 (x.not.a : Nat), .int .u64 (x.not.b : Nat), .int .u64 (x.not.c : Nat), .int .u64 (x.not.d : Nat)]) ∧ Below w.heap.size w w' := not_k x.a x.b x.c x.d (x.h 0) (x.h 1) (x.h 2) (x.h 3) w
theorem idx79_0 (x0 x1 x2 x3 x4 x5 x6 x7 : Value) (w : World) : (Instr.index 76 (.agg #[x0, x1, x2, x3, x4, x5, x6, x7]) (.int .i64 0)).run Tryz.prog w = .ok (.agg #[x0, x1, x2, x3]) w := by kernel_rfl
theorem idx79_1 (x0 x1 x2 x3 x4 x5 x6 x7 : Value) (w : World) : (Instr.index 76 (.agg #[x0, x1, x2, x3, x4, x5, x6, x7]) (.int .i64 1)).run Tryz.prog w = .ok (.agg #[x4, x5, x6, x7]) w := by kernel_rfl
def pre2 (y z : Kl) : Nat → List Kl
 | 0 => []
 | 1 => if y.isZ then [] else [y]
 | _ => (if y.isZ then [] else [y]) ++ (if z.isZ then [] else [z])
theorem pre2_len (y z : Kl) : ∀ p, (pre2 y z p).length ≤ 2
 | 0 => by simp [pre2]
 | 1 => by show (if y.isZ then [] else [y]).length ≤ 2; split <;> simp
 | p + 2 => by
  show ((if y.isZ then [] else [y]) ++ (if z.isZ then [] else [z])).length ≤ 2
  rw [List.length_append]
  split <;> split <;> simp
theorem flat_one (l : List Kl) (y : Kl) : (l ++ [y]).flatMap encC = l.flatMap encC ++ encC y := by simp
theorem append_k {ops : Array Oper} {rest : List Oper} {o : Oper} {a : Act} {Q : Exit → Act → World → Prop} (W : World) (base : Nat) (v : Value) (pre : List Kl) (y : Kl) (hgd : o.guard = none) (s x : Operand)
  (ho : o.op = .call { callee := .builtin .append, args := #[s, x], argTypes := #[22, 22] }) (hs : a.eval s = v) (hown : W.ownsRow base 55 4 v pre.length (pre.flatMap encC)) (ad : Addr) (hx : a.eval x = .slice (some ad) 1 1)
  (hc : ∀ j u, (encC y)[j]? = some u → W.cell? (ad.add j) = some u) (hl : pre.length ≤ 1000000) (hb : base ≤ W.heap.size)
  (h : ∀ v' w', w'.ownsRow base 55 4 v' (pre ++ [y]).length ((pre ++ [y]).flatMap encC) → Below base W w' → wpList Tryz.prog ops Q rest (a.put o.dst v') w') : wpList Tryz.prog ops Q (o :: rest) a W := by
 obtain ⟨ti, hi, hz0, hz1, hz2⟩ := info_parts info50
 refine wpList_append_own W hgd s x 22 ho base 55 ti (.agg #[.int .u64 0, .int .u64 0, .int .u64 0, .int .u64 0]) 4 32 Tryz.underlying22 hi hz0 hz1 hz2 rfl (by decide) v pre.length _ hs hown ad 1 1 (encC y) hx rfl hc (encC_one y) (by unfold maxLen; omega) (by omega) hb ?_
 intro v' w' h1 h2 _
 refine h v' w' ?_ ((Below.refl base W).grown h2 hb fun k hk => (hown.lt k hk).1)
 rw [flat_one, List.length_append, List.length_singleton]
 exact h1
end Go.Proofs.YtaadkdmbhckdeaaGreatDoor
