/- A range over a function whose iterator turns one block of cells of its own (a captured variable): what such a loop comes to. -/
import Derived.RangeFuncNested
namespace Go.Proofs.YtdjeokgkeejpcaaGreatDoor.AX
open Go Go.RowKit
/-- All that lay lies as it lay, but for block A. -/
structure But (A : Nat) (X Y : World) : Prop where
  low : Below 0 X Y
  same : ∀ k, k < X.heap.size → k ≠ A → Y.heap[k]? = X.heap[k]?
theorem But.refl (A : Nat) (X : World) : But A X X := ⟨Below.refl _ _, fun _ _ _ => rfl⟩
theorem But.trans {A : Nat} {X Y Z : World} (h : But A X Y) (k : But A Y Z) : But A X Z := ⟨h.low.trans k.low, fun i hi hA => (k.same i (Nat.lt_of_lt_of_le hi h.low.size) hA).trans (h.same i hi hA)⟩
theorem But.of_below {A : Nat} {X Y : World} (h : Below X.heap.size X Y) : But A X Y := ⟨h.mono (Nat.zero_le _), fun k hk _ => h.block k hk⟩
theorem But.below {A n : Nat} {X Y : World} (h : But A X Y) (hn : n ≤ X.heap.size) (hA : n ≤ A) : Below n X Y := ⟨h.low.os, h.low.tape, h.low.output, h.low.size, fun k hk => h.same k (by omega) (by omega)⟩
/-- What a caller's loop lets turn: A, and what is no cells from B on. -/
structure Lets (A B : Nat) (X Y : World) : Prop where
  low : Below 0 X Y
  same : ∀ k o, X.heap[k]? = some o → k ≠ A → (k < B ∨ o.isCells = true) → Y.heap[k]? = some o
theorem But.lets {A : Nat} {X Y : World} (h : But A X Y) (B : Nat) : Lets A B X Y := ⟨h.low, fun k _ hk hA _ => (h.same k (Array.getElem?_eq_some_iff.1 hk).1 hA).trans hk⟩
theorem Lets.alloc (A B : Nat) (X : World) (o : Obj) : Lets A B X (X.alloc o) := (But.of_below ((Below.refl _ X).alloc (Nat.le_refl _) o)).lets B
theorem Lets.put {A B l : Nat} {X : World} {o : Obj} (o' : Obj) (h : X.heap[l]? = some o) (hc : o.isCells = false) (hB : B ≤ l) : Lets A B X (X.putObj l o') :=
  ⟨(Below.refl 0 X).grown (grownBy_putObj' X l o') (Nat.zero_le _) (fun k e => Nat.zero_le _), fun k u hk hA hu => by
    have hne : k ≠ l := fun e => by subst e; rw [h] at hk; cases hk; rcases hu with hu | hu <;> first | omega | (rw [hc] at hu; cases hu)
    exact (World.putObj_heap_other hne).trans hk⟩
/-- What a round keeps for its iterator: the blocks of B, and all cells from H on. -/
structure Keep (B : Nat → Prop) (H : Nat) (X Y : World) : Prop where
  low : Below 0 X Y
  same : ∀ k o, X.heap[k]? = some o → (B k ∨ (H ≤ k ∧ o.isCells = true)) → Y.heap[k]? = some o
theorem Keep.refl (B : Nat → Prop) (H : Nat) (X : World) : Keep B H X X := ⟨Below.refl _ _, fun _ _ h _ => h⟩
theorem Keep.trans {B : Nat → Prop} {H : Nat} {X Y Z : World} (h : Keep B H X Y) (k : Keep B H Y Z) : Keep B H X Z := ⟨h.low.trans k.low, fun i o hi ho => k.same i o (h.same i o hi ho) ho⟩
theorem Keep.put {B : Nat → Prop} {H l : Nat} {X : World} {o : Obj} (o' : Obj) (h : X.heap[l]? = some o) (hc : o.isCells = false) (hB : ¬ B l) : Keep B H X (X.putObj l o') :=
  ⟨(Below.refl 0 X).grown (grownBy_putObj' X l o') (Nat.zero_le _) (fun k e => Nat.zero_le _), fun k u hk hu => by
    have hne : k ≠ l := fun e => by subst e; rw [h] at hk; cases hk; rcases hu with hu | hu <;> first | exact hB hu | (rw [hc] at hu; cases hu.2)
    exact (World.putObj_heap_other hne).trans hk⟩
theorem Keep.of_below {B : Nat → Prop} {H : Nat} {X Y : World} (h : Below X.heap.size X Y) : Keep B H X Y := ⟨h.mono (Nat.zero_le _), fun k _ hk _ => (h.block k (Array.getElem?_eq_some_iff.1 hk).1).trans hk⟩
/-- A turn of one block that is neither of B nor from H on. -/
theorem Keep.turn {B : Nat → Prop} {H b : Nat} {X Y : World} (hl : Below 0 X Y) (h4 : ∀ k, k ≠ b → Y.heap[k]? = X.heap[k]?) (hB : ¬ B b) (hH : b < H) : Keep B H X Y :=
  ⟨hl, fun k o hk hu => (h4 k (fun e => by subst e; rcases hu with hu | hu <;> first | exact hB hu | omega)).trans hk⟩
section
variable {F : Fence} {n : Nat} {P : Program}
/-- One round: the record is ready; the body is walked while it is busy. -/
theorem yield_but {l m : Nat} {r : Loop} {W : World} {args : Array Value} {R : Ending → World → Prop} (hl : W.heap[l]? = some (.loop r)) (hs : r.state = .ready) (hz : args.size = r.params.size) (hf : F.fn r.fn) (C : Act → World → Prop)
    (ha : ∀ K : Act → World → Prop, (∀ a' W', C a' W' → K a' W') → r.assign.wpIn (F.inRound l) m P (Exit.then K (fun _ _ _ => False)) { tmps := (r.params.zip args).foldl (fun t (p, v) => t.setIfInBounds p v) r.tmps, defers := [] } W)
    (hC : ∀ a' W', C a' W' → W'.heap[l]? = some (.loop r) ∧ r.body.wpIn (F.inRound l) m P (roundPost P l R) a' (W'.putObj l (.loop { r with state := .busy }))) : YieldAt F m P l args W R :=
  ⟨_, _, _, _, run_yield hl hz, roundIn_of_wpIn hf (ha _ fun a' W' h => ⟨_, run_beginRound (hC a' W' h).1 hs, (hC a' W' h).2⟩)⟩
end
end Go.Proofs.YtdjeokgkeejpcaaGreatDoor.AX
