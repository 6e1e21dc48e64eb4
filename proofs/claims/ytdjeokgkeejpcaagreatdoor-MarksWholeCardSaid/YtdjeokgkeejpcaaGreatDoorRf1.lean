/- A range over a function whose iterator turns one block of cells of its own (a captured variable): what such a loop comes to. -/
import Derived.RangeFuncNested
namespace Go.Proofs.YtdjeokgkeejpcaaGreatDoor.AX
open Go Go.RowKit
/-- All that lay lies as it lay, but for block A. -/
structure But (A : Nat) (X Y : World) : Prop where
  low : Below 0 X Y
  same : ∀ k, k < X.heap.size → k ≠ A → Y.heap[k]? = X.heap[k]?
theorem But.refl (A : Nat) (X : World) : But A X X := ⟨Below.refl _ _, fun _ _ _ => rfl⟩
theorem But.trans {A : Nat} {X Y Z : World} (h : But A X Y) (k : But A Y Z) : But A X Z := ⟨h.low.trans k.low, fun i hi hA => (k.same i (Nat.lt_of_lt_of_le hi h.low.size) hA).trans (h.same i hi hA)⟩
theorem But.of_below {A : Nat} {X Y : World} (h : Below X.heap.size X Y) : But A X Y := ⟨h.mono (Nat.zero_le _), fun k hk _ => h.block k hk⟩
theorem But.below {A n : Nat} {X Y : World} (h : But A X Y) (hn : n ≤ X.heap.size) (hA : n ≤ A) : Below n X Y := ⟨h.low.os, h.low.tape, h.low.output, h.low.size, fun k hk => h.same k (by omega) (by omega)⟩
/-- What a caller's loop lets turn: A, and what is no cells from B on. -/
structure Lets (A B : Nat) (X Y : World) : Prop where
  low : Below 0 X Y
  same : ∀ k o, X.heap[k]? = some o → k ≠ A → (k < B ∨ o.isCells = true) → Y.heap[k]? = some o
theorem But.lets {A : Nat} {X Y : World} (h : But A X Y) (B : Nat) : Lets A B X Y := ⟨h.low, fun k _ hk hA _ => (h.same k (Array.getElem?_eq_some_iff.1 hk).1 hA).trans hk⟩
theorem Lets.alloc (A B : Nat) (X : World) (o : Obj) : Lets A B X (X.alloc o) := (But.of_below ((Below.refl _ X).alloc (Nat.le_refl _) o)).lets B
theorem Lets.put {A B l : Nat} {X : World} {o : Obj} (o' : Obj) (h : X.heap[l]? = some o) (hc : o.isCells = false) (hB : B ≤ l) : Lets A B X (X.putObj l o') :=
  ⟨(Below.refl 0 X).grown (grownBy_putObj' X l o') (Nat.zero_le _) (fun k e => Nat.zero_le _), fun k u hk hA hu => by
    have hne : k ≠ l := fun e => by subst e; rw [h] at hk; cases hk; rcases hu with hu | hu <;> first | omega | (rw [hc] at hu; cases hu)
    exact (World.putObj_heap_other hne).trans hk⟩
/-- What a round keeps for its iterator: the blocks of B, and all cells from H on. -/
structure Keep (B : Nat → Prop) (H : Nat) (X Y : World) : Prop where
  low : Below 0 X Y
  same : ∀ k o, X.heap[k]? = some o → (B k ∨ (H ≤ k ∧ o.isCells = true)) → Y.heap[k]? = some o
theorem Keep.refl (B : Nat → Prop) (H : Nat) (X : World) : Keep B H X X := ⟨Below.refl _ _, fun _ _ h _ => h⟩
theorem Keep.trans {B : Nat → Prop} {H : Nat} {X Y Z : World} (h : Keep B H X Y) (k : Keep B H Y Z) : Keep B H X Z := ⟨h.low.trans k.low, fun i o hi ho => k.same i o (h.same i o hi ho) ho⟩
theorem Keep.put {B : Nat → Prop} {H l : Nat} {X : World} {o : Obj} (o' : Obj) (h : X.heap[l]? = some o) (hc : o.isCells = false) (hB : ¬ B l) : Keep B H X (X.putObj l o') :=
  ⟨(Below.refl 0 X).grown (grownBy_putObj' X l o') (Nat.zero_le _) (fun k e => Nat.zero_le _), fun k u hk hu => by
    have hne : k ≠ l := fun e => by subst e; rw [h] at hk; cases hk; rcases hu with hu | hu <;> first | exact hB hu | (rw [hc] at hu; cases hu.2)
    exact (World.putObj_heap_other hne).trans hk⟩
theorem Keep.of_below {B : Nat → Prop} {H : Nat} {X Y : World} (h : Below X.heap.size X Y) : Keep B H X Y := ⟨h.mono (Nat.zero_le _), fun k _ hk _ => (h.block k (Array.getElem?_eq_some_iff.1 hk).1).trans hk⟩
/-- A turn of one block that is neither of B nor from H on. -/
theorem Keep.turn {B : Nat → Prop} {H b : Nat} {X Y : World} (hl : Below 0 X Y) (h4 : ∀ k, k ≠ b → Y.heap[k]? = X.heap[k]?) (hB : ¬ B b) (hH : b < H) : Keep B H X Y :=
  ⟨hl, fun k o hk hu => (h4 k (fun e => by subst e; rcases hu with hu | hu <;> first | exact hB hu | omega)).trans hk⟩
section
variable {F : Fence} {n : Nat} {P : Program}
/-- One round: the record is ready; the body is walked while it is busy. -/
theorem yield_but {l m : Nat} {r : Loop} {W : World} {args : Array Value} {R : Ending → World → Prop} (hl : W.heap[l]? = some (.loop r)) (hs : r.state = .ready) (hz : args.size = r.params.size) (hf : F.fn r.fn) (C : Act → World → Prop)
    (ha : ∀ K : Act → World → Prop, (∀ a' W', C a' W' → K a' W') → r.assign.wpIn (F.inRound l) m P (Exit.then K (fun _ _ _ => False)) { tmps := (r.params.zip args).foldl (fun t (p, v) => t.setIfInBounds p v) r.tmps, defers := [] } W)
    (hC : ∀ a' W', C a' W' → W'.heap[l]? = some (.loop r) ∧ r.body.wpIn (F.inRound l) m P (roundPost P l R) a' (W'.putObj l (.loop { r with state := .busy }))) : YieldAt F m P l args W R :=
  ⟨_, _, _, _, run_yield hl hz, roundIn_of_wpIn hf (ha _ fun a' W' h => ⟨_, run_beginRound (hC a' W' h).1 hs, (hC a' W' h).2⟩)⟩
theorem range_but {α : Type} {g : Operand} {ps : Array Tmp} {assign body : Code} {Q : Exit → Act → World → Prop} {a : Act} {w : World} (hro : F.round = none) (h1 : 1 ≤ n) {gf : Nat} {lb : Array Value} (hg : a.eval g = .func (.func gf) #[] lb) (hFg : F.fn gf)
    (eg : ∀ args w, (callFunc gf args).run P w = .ok (.enter gf args) w) {A : Nat} (hA : A < w.heap.size) {encs : α → Array Value} (hps : ∀ x, (encs x).size = ps.size) {B : Nat → Prop} (hB : ∀ k, B k → k < w.heap.size) {S Sp : List α → Prop} {Pp : List α → α → Prop}
    (hseq : ∀ (l : Nat) (J : Nat → List α → World → Prop) (Jx : List α → World → Prop) (W : World), Below w.heap.size w W → (∀ H s X Y, J H s X → But A X Y → J H s Y) → (∀ H H' s X, J H s X → H ≤ H' → J H' s X) → (∀ s X Y, Jx s X → But A X Y → Jx s Y) →
      (∀ pre x H W1, J H pre W1 → H ≤ W1.heap.size → Pp pre x → YieldAt F (n - 1 - 1) P l (encs x) W1 fun e W' => (e = .returned (.bool true) ∧ J W'.heap.size (pre ++ [x]) W' ∧ Keep B H W1 W') ∨ (e = .returned (.bool false) ∧ Jx (pre ++ [x]) W')) →
      J W.heap.size [] W → CallsIn F (n - 1) P gf (#[.func (.yield l) #[] #[]] ++ lb) W fun e W' => (∃ v, e = .returned v) ∧ ((∃ H xs, S xs ∧ J H xs W') ∨ (∃ pre, Sp pre ∧ Jx pre W')))
    (I : Nat → List α → World → Prop) (Ix : Code → List α → World → Prop) (hI : ∀ H s X Y, I H s X → Lets A w.heap.size X Y → I H s Y) (hIm : ∀ H H' s X, I H s X → H ≤ H' → I H' s X) (hIx : ∀ c s X Y, Ix c s X → Lets A w.heap.size X Y → Ix c s Y) (h0 : I w.heap.size [] w) (Ax : α → Act → World → Prop) (hAx : ∀ x a' X Y, Ax x a' X → Lets A w.heap.size X Y → Ax x a' Y)
    (hassign : ∀ (l : Nat) (pre : List α) (x : α) (H : Nat) (W : World) (K : Act → World → Prop), I H pre W → H ≤ W.heap.size → (∀ a' W', KeepsFrom w.heap.size W W' → Keep B H W W' → I H pre W' → Ax x a' W' → K a' W') →
      assign.wpIn (F.inRound l) (n - 1 - 1) P (Exit.then K (fun _ _ _ => False)) { tmps := (ps.zip (encs x)).foldl (fun t (p, v) => t.setIfInBounds p v) a.tmps, defers := [] } W)
    (hbody : ∀ (l : Nat) (pre : List α) (x : α) (a' : Act) (H : Nat) (W : World), I H pre W → H ≤ W.heap.size → Ax x a' W → Pp pre x → body.wpIn (F.inRound l) (n - 1 - 1) P (ownPostG w.heap.size (Keep B H) (fun s W => I W.heap.size s W) Ix (pre ++ [x]) W) a' W)
    (hdone : ∀ (D H : Nat) (xs : List α) (W : World), w.heap.size ≤ D → S xs → I H xs W → W.heap[D]? = some (.deferred (some [])) → Q .normal { a with defers := { target := .collected D, args := #[] } :: a.defers } W)
    (hstop : ∀ (D : Nat) (c : Code) (pre : List α) (W : World), w.heap.size ≤ D → Sp pre → Ix c pre W → W.heap[D]? = some (.deferred (some [])) → c.wpIn F n P Q { a with defers := { target := .collected D, args := #[] } :: a.defers } W) :
    (Code.rangeFunc g ps assign body).wpIn F n P Q a w := by
  refine wpIn_rangeFunc fun fn hfn => ?_
  rw [hro]
  have hout := run_enterLoop_outer (P := P) (w := w) fn a.tmps ps assign body
  generalize hr : ({ state := .ready, pending := none, fn := fn, tmps := a.tmps, params := ps, assign := assign, body := body, defers := w.heap.size } : Loop) = r at hout
  have hr1 : r.state = .ready := by rw [← hr]
  have hr2 : r.params = ps := by rw [← hr]
  have hr3 : r.fn = fn := by rw [← hr]
  have hr4 : r.assign = assign := by rw [← hr]
  have hr5 : r.body = body := by rw [← hr]
  have hr6 : r.tmps = a.tmps := by rw [← hr]
  have hr7 : r.pending = none := by rw [← hr]
  clear hr
  have hD : (w.alloc (.deferred (some []))).heap[w.heap.size]? = some (.deferred (some [])) := World.alloc_heap_new w _
  have hBD : Below w.heap.size w (w.alloc (.deferred (some []))) := (Below.refl _ w).alloc (Nat.le_refl _) _
  have hID := hI _ _ _ _ h0 (Lets.alloc A w.heap.size w (.deferred (some [])))
  have hzD : (w.alloc (.deferred (some []))).heap.size = w.heap.size + 1 := by simp
  generalize w.alloc (.deferred (some [])) = V at *
  have hL : (V.alloc (.loop r)).heap[w.heap.size + 1]? = some (.loop r) := by rw [← hzD]; exact World.alloc_heap_new V _
  have hD1 : (V.alloc (.loop r)).heap[w.heap.size]? = some (.deferred (some [])) := (Below.heap_alloc _ _ _ (by omega)).trans hD
  have hB1 : Below w.heap.size w (V.alloc (.loop r)) := hBD.alloc (by omega) _
  have hI1 := hI _ _ _ _ hID (Lets.alloc A w.heap.size V (.loop r))
  generalize V.alloc (.loop r) = V1 at *
  refine ⟨w.heap.size + 1, _, V1, { target := .fn (.func gf) lb, args := #[.func (.yield (w.heap.size + 1)) #[] #[]] }, V1, gf, #[.func (.yield (w.heap.size + 1)) #[] #[]] ++ lb, V1, hout, ?_, ?_, ?_, fun _ => h1, ?_⟩
  · simp only [resolve, hg]
    simp [go_sem]
  · intro f' hf'
    simp [Target.leads] at hf'
    subst hf'
    exact hFg
  · simp [invoke, go_sem, eg]
  -- the iterator, with the loop's two blocks beside the caller's facts
  have bs : ∀ {X Y : World} {k : Nat} {o : Obj}, But A X Y → X.heap[k]? = some o → k ≠ A → Y.heap[k]? = some o := fun h hk hne => (h.same _ (Array.getElem?_eq_some_iff.1 hk).1 hne).trans hk
  refine (hseq (w.heap.size + 1) (fun H pre W => (I H pre W ∧ W.heap[w.heap.size + 1]? = some (.loop r)) ∧ W.heap[w.heap.size]? = some (.deferred (some [])))
    (fun pre W => (∃ c, Ix c pre W ∧ W.heap[w.heap.size + 1]? = some (.loop { r with state := .done, pending := some c })) ∧ W.heap[w.heap.size]? = some (.deferred (some []))) V1 hB1
    (fun H s X Y h hb => ⟨⟨hI _ _ _ _ h.1.1 (hb.lets _), bs hb h.1.2 (by omega)⟩, bs hb h.2 (by omega)⟩) (fun H H' s X h hH => ⟨⟨hIm _ _ _ _ h.1.1 hH, h.1.2⟩, h.2⟩)
    (fun s X Y ⟨⟨c, h, hl⟩, hk⟩ hb => ⟨⟨c, hIx _ _ _ _ h (hb.lets _), bs hb hl (by omega)⟩, bs hb hk (by omega)⟩) ?_ ⟨⟨hIm _ _ _ _ hI1 hB1.size, hL⟩, hD1⟩).mono ?_
  · rintro pre x H W ⟨⟨hi, hl⟩, hk⟩ hHW hlen
    refine yield_but hl hr1 (by rw [hr2]; exact hps x) (by rw [hr3]; exact hfn) (fun a' Wa => (KeepsFrom w.heap.size W Wa ∧ Keep B H W Wa) ∧ I H pre Wa ∧ Ax x a' Wa) (fun K hK => by rw [hr2, hr4, hr6]; exact hassign _ pre x H W K hi hHW (fun a' Wa h1 h2 h3 h4 => hK a' Wa ⟨⟨h1, h2⟩, h3, h4⟩)) ?_
    rintro a' Wa ⟨⟨hkf, hkp⟩, hia, hax⟩
    replace hl := hkf.same _ _ (by omega) hl rfl
    replace hk := hkf.same _ _ (Nat.le_refl _) hk rfl
    have hHa := Nat.le_trans hHW hkf.size
    clear hkf hi
    refine ⟨hl, ?_⟩
    have hlt := (Array.getElem?_eq_some_iff.1 hl).1
    have hlets := Lets.put (A := A) (B := w.heap.size) (.loop { r with state := .busy }) hl rfl (by omega)
    have hnB : ¬ B (w.heap.size + 1) := fun h => by have := hB _ h; omega
    have hk1 := hkp.trans (Keep.put (B := B) (H := H) (.loop { r with state := .busy }) hl rfl hnB)
    have hl1 : (Wa.putObj (w.heap.size + 1) (.loop { r with state := .busy })).heap[w.heap.size + 1]? = some (.loop { r with state := .busy }) := World.putObj_heap_same hlt
    have hd1 : (Wa.putObj (w.heap.size + 1) (.loop { r with state := .busy })).heap[w.heap.size]? = some (.deferred (some [])) := (World.putObj_heap_other (by omega)).trans hk
    have hi1 := hI _ _ _ _ hia hlets
    have hH1 := Nat.le_trans hHa hlets.low.size
    have hax1 := hAx _ _ _ _ hax hlets
    generalize Wa.putObj (w.heap.size + 1) (.loop { r with state := .busy }) = W1 at *
    have hwalk := hbody (w.heap.size + 1) pre x a' H W1 hi1 hH1 hax1 hlen
    rw [← hr5] at hwalk
    refine wpIn_mono hwalk ?_
    -- the body's end: the record is turned once more
    have key : ∀ (W2 : World) (jump : Option Code), KeepsFrom w.heap.size W1 W2 → W2.heap[w.heap.size + 1]? = some (.loop { r with state := .busy }) ∧ W2.heap[w.heap.size]? = some (.deferred (some [])) := fun W2 jump hk2 => ⟨hk2.same _ _ (by omega) hl1 rfl, hk2.same _ _ (Nat.le_refl _) hd1 rfl⟩
    have put : ∀ (W2 : World) (o : Obj), W2.heap[w.heap.size + 1]? = some (.loop { r with state := .busy }) → W2.heap[w.heap.size]? = some (.deferred (some [])) → (W2.putObj (w.heap.size + 1) o).heap[w.heap.size + 1]? = some o ∧ (W2.putObj (w.heap.size + 1) o).heap[w.heap.size]? = some (.deferred (some [])) :=
      fun W2 o h2 h3 => ⟨World.putObj_heap_same (Array.getElem?_eq_some_iff.1 h2).1, (World.putObj_heap_other (by omega)).trans h3⟩
    rintro e a3 W2 hp
    cases e with
    | normal =>
      obtain ⟨q1, q2, q3⟩ := hp
      obtain ⟨e1, e2⟩ := key W2 none q1
      have e3 := run_endRound (P := P) none e1
      have e4 : ({ ({ r with state := .busy } : Loop) with state := if (none : Option Code).isNone then .ready else .done, pending := none } : Loop) = r := by cases r; simp_all
      rw [e4] at e3
      obtain ⟨e5, e6⟩ := put W2 (.loop r) e1 e2
      exact ⟨_, _, e3, .inl ⟨rfl, ⟨⟨hIm _ _ _ _ (hI _ _ _ _ q3 (Lets.put _ e1 rfl (by omega))) (Lets.put (A := A) (B := w.heap.size) (.loop r) e1 rfl (by omega)).low.size, e5⟩, e6⟩, (hk1.trans q2).trans (Keep.put _ e1 rfl hnB)⟩⟩
    | ret =>
      obtain ⟨q1, q3⟩ := hp
      obtain ⟨e1, e2⟩ := key W2 none q1
      obtain ⟨e5, e6⟩ := put W2 (.loop { r with state := .done, pending := some .ret }) e1 e2
      exact ⟨_, _, run_endRound (P := P) (some .ret) e1, .inr ⟨rfl, ⟨.ret, hIx _ _ _ _ q3 (Lets.put _ e1 rfl (by omega)), e5⟩, e6⟩⟩
    | exit id =>
      obtain ⟨q1, q3⟩ := hp
      obtain ⟨e1, e2⟩ := key W2 none q1
      obtain ⟨e5, e6⟩ := put W2 (.loop { r with state := .done, pending := some (.exit id) }) e1 e2
      exact ⟨_, _, run_endRound (P := P) (some (.exit id)) e1, .inr ⟨rfl, ⟨.exit id, hIx _ _ _ _ q3 (Lets.put _ e1 rfl (by omega)), e5⟩, e6⟩⟩
    | goto t =>
      obtain ⟨q1, q3⟩ := hp
      obtain ⟨e1, e2⟩ := key W2 none q1
      obtain ⟨e5, e6⟩ := put W2 (.loop { r with state := .done, pending := some (.goto t) }) e1 e2
      exact ⟨_, _, run_endRound (P := P) (some (.goto t)) e1, .inr ⟨rfl, ⟨.goto t, hIx _ _ _ _ q3 (Lets.put _ e1 rfl (by omega)), e5⟩, e6⟩⟩
    | panic ch => exact hp.elim
    | outgrown => exact hp.elim
  · rintro e W2 ⟨⟨v, rfl⟩, (⟨H, xs, hS, ⟨hi, hl⟩, hk⟩ | ⟨pre, hSp, ⟨c, hi, hl⟩, hk⟩)⟩
    · have e3 := run_endLoop (P := P) hl (by rw [hr1]; simp)
      rw [hr7] at e3
      exact ⟨none, _, e3, hdone _ H xs _ (Nat.le_refl _) hS (hI _ _ _ _ hi (Lets.put _ hl rfl (by omega))) ((World.putObj_heap_other (by omega)).trans hk)⟩
    · exact ⟨some c, _, run_endLoop (P := P) hl (by simp), hstop _ c pre _ (Nat.le_refl _) hSp (hIx _ _ _ _ hi (Lets.put _ hl rfl (by omega))) ((World.putObj_heap_other (by omega)).trans hk)⟩
end
end Go.Proofs.YtdjeokgkeejpcaaGreatDoor.AX
