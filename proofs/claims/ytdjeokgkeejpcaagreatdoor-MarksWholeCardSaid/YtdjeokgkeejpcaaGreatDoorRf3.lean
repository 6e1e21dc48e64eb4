/- A range over a function whose iterator turns blocks of its own that it made behind the loop's beginning: what the loop owns lies below where it began. -/
import Derived.Test.YtdjeokgkeejpcaaGreatDoorRf1
namespace Go.Proofs.YtdjeokgkeejpcaaGreatDoor.AX
open Go Go.RowKit
section
variable {F : Fence} {n : Nat} {P : Program}
theorem range_low {α : Type} {g : Operand} {ps : Array Tmp} {assign body : Code} {Q : Exit → Act → World → Prop} {a : Act} {w : World} (hro : F.round = none) (h1 : 1 ≤ n) {gf : Nat} {lb : Array Value} (hg : a.eval g = .func (.func gf) #[] lb) (hFg : F.fn gf)
    (eg : ∀ args w, (callFunc gf args).run P w = .ok (.enter gf args) w) {encs : α → Array Value} (hps : ∀ x, (encs x).size = ps.size) {B : Nat → Prop} (hB : ∀ k, B k → k < w.heap.size) {S Sp : List α → Prop} {Pp : List α → α → Prop}
    (hseq : ∀ (l : Nat) (J : List α → World → Prop) (Jx : List α → World → Prop) (W : World), Below w.heap.size w W → w.heap.size ≤ W.heap.size → (∀ s X Y, J s X → Below W.heap.size X Y → J s Y) → (∀ s X Y, Jx s X → Below W.heap.size X Y → Jx s Y) →
      (∀ pre x W1, J pre W1 → W.heap.size ≤ W1.heap.size → Pp pre x → YieldAt F (n - 1 - 1) P l (encs x) W1 fun e W' => (e = .returned (.bool true) ∧ J (pre ++ [x]) W' ∧ Keep B w.heap.size W1 W') ∨ (e = .returned (.bool false) ∧ Jx (pre ++ [x]) W')) →
      J [] W → CallsIn F (n - 1) P gf (#[.func (.yield l) #[] #[]] ++ lb) W fun e W' => (∃ v, e = .returned v) ∧ ((∃ xs, S xs ∧ J xs W') ∨ (∃ pre, Sp pre ∧ Jx pre W')))
    (I : List α → World → Prop) (Ix : Code → List α → World → Prop) (hI : ∀ s X Y, I s X → Below w.heap.size X Y → I s Y) (hIx : ∀ c s X Y, Ix c s X → Below w.heap.size X Y → Ix c s Y) (h0 : I [] w) (Ax : α → Act → World → Prop) (hAx : ∀ x a' X Y, Ax x a' X → Keep (fun _ => False) 0 X Y → Ax x a' Y)
    (hassign : ∀ (l : Nat) (pre : List α) (x : α) (W : World) (K : Act → World → Prop), I pre W → w.heap.size ≤ W.heap.size → (∀ a' W', KeepsFrom w.heap.size W W' → Keep B w.heap.size W W' → I pre W' → Ax x a' W' → K a' W') →
      assign.wpIn (F.inRound l) (n - 1 - 1) P (Exit.then K (fun _ _ _ => False)) { tmps := (ps.zip (encs x)).foldl (fun t (p, v) => t.setIfInBounds p v) a.tmps, defers := [] } W)
    (hbody : ∀ (l : Nat) (pre : List α) (x : α) (a' : Act) (W : World), I pre W → w.heap.size ≤ W.heap.size → Ax x a' W → Pp pre x → body.wpIn (F.inRound l) (n - 1 - 1) P (ownPostG w.heap.size (Keep B w.heap.size) I Ix (pre ++ [x]) W) a' W)
    (hdone : ∀ (D : Nat) (xs : List α) (W : World), w.heap.size ≤ D → S xs → I xs W → W.heap[D]? = some (.deferred (some [])) → Q .normal { a with defers := { target := .collected D, args := #[] } :: a.defers } W)
    (hstop : ∀ (D : Nat) (c : Code) (pre : List α) (W : World), w.heap.size ≤ D → Sp pre → Ix c pre W → W.heap[D]? = some (.deferred (some [])) → c.wpIn F n P Q { a with defers := { target := .collected D, args := #[] } :: a.defers } W) :
    (Code.rangeFunc g ps assign body).wpIn F n P Q a w := by
  refine wpIn_rangeFunc fun fn hfn => ?_
  rw [hro]
  have hout := run_enterLoop_outer (P := P) (w := w) fn a.tmps ps assign body
  generalize hr : ({ state := .ready, pending := none, fn := fn, tmps := a.tmps, params := ps, assign := assign, body := body, defers := w.heap.size } : Loop) = r at hout
  have hr1 : r.state = .ready := by rw [← hr]
  have hr2 : r.params = ps := by rw [← hr]
  have hr3 : r.fn = fn := by rw [← hr]
  have hr4 : r.assign = assign := by rw [← hr]
  have hr5 : r.body = body := by rw [← hr]
  have hr6 : r.tmps = a.tmps := by rw [← hr]
  have hr7 : r.pending = none := by rw [← hr]
  clear hr
  have hD : (w.alloc (.deferred (some []))).heap[w.heap.size]? = some (.deferred (some [])) := World.alloc_heap_new w _
  have hBD : Below w.heap.size w (w.alloc (.deferred (some []))) := (Below.refl _ w).alloc (Nat.le_refl _) _
  have hID := hI _ _ _ h0 hBD
  have hzD : (w.alloc (.deferred (some []))).heap.size = w.heap.size + 1 := by simp
  generalize w.alloc (.deferred (some [])) = V at *
  have hL : (V.alloc (.loop r)).heap[w.heap.size + 1]? = some (.loop r) := by rw [← hzD]; exact World.alloc_heap_new V _
  have hD1 : (V.alloc (.loop r)).heap[w.heap.size]? = some (.deferred (some [])) := (Below.heap_alloc _ _ _ (by omega)).trans hD
  have hB1 : Below w.heap.size w (V.alloc (.loop r)) := hBD.alloc (by omega) _
  have hzV : (V.alloc (.loop r)).heap.size = w.heap.size + 2 := by simp [hzD]
  have hI1 := hI _ _ _ hID ((Below.refl w.heap.size V).alloc (by omega) (.loop r))
  generalize V.alloc (.loop r) = V1 at *
  refine ⟨w.heap.size + 1, _, V1, { target := .fn (.func gf) lb, args := #[.func (.yield (w.heap.size + 1)) #[] #[]] }, V1, gf, #[.func (.yield (w.heap.size + 1)) #[] #[]] ++ lb, V1, hout, ?_, ?_, ?_, fun _ => h1, ?_⟩
  · simp only [resolve, hg]
    simp [go_sem]
  · intro f' hf'
    simp [Target.leads] at hf'
    subst hf'
    exact hFg
  · simp [invoke, go_sem, eg]
  -- the iterator, with the loop's two blocks beside the caller's facts
  have bs : ∀ {X Y : World} {k : Nat} {o : Obj}, Below V1.heap.size X Y → X.heap[k]? = some o → k < V1.heap.size → Y.heap[k]? = some o := fun h hk hlt => (h.block _ hlt).trans hk
  have hlow : ∀ {X Y : World}, Below V1.heap.size X Y → Below w.heap.size X Y := fun h => h.mono (by omega)
  have hput : ∀ {X : World} {l : Nat} {o0 : Obj} (o : Obj), X.heap[l]? = some o0 → w.heap.size ≤ l → Below w.heap.size X (X.putObj l o) := fun {X l} _ o h hl => (Below.refl _ X).grown (grownBy_putObj' X l o) (by have := (Array.getElem?_eq_some_iff.1 h).1; omega) (fun k e => by cases e; exact hl)
  refine (hseq (w.heap.size + 1) (fun pre W => (I pre W ∧ W.heap[w.heap.size + 1]? = some (.loop r)) ∧ W.heap[w.heap.size]? = some (.deferred (some [])))
    (fun pre W => (∃ c, Ix c pre W ∧ W.heap[w.heap.size + 1]? = some (.loop { r with state := .done, pending := some c })) ∧ W.heap[w.heap.size]? = some (.deferred (some []))) V1 hB1 hB1.size
    (fun s X Y h hb => ⟨⟨hI _ _ _ h.1.1 (hlow hb), bs hb h.1.2 (by omega)⟩, bs hb h.2 (by omega)⟩)
    (fun s X Y ⟨⟨c, h, hl⟩, hk⟩ hb => ⟨⟨c, hIx _ _ _ _ h (hlow hb), bs hb hl (by omega)⟩, bs hb hk (by omega)⟩) ?_ ⟨⟨hI1, hL⟩, hD1⟩).mono ?_
  · rintro pre x W ⟨⟨hi, hl⟩, hk⟩ hHW0 hlen
    have hHW : w.heap.size ≤ W.heap.size := by omega
    clear hHW0
    refine yield_but hl hr1 (by rw [hr2]; exact hps x) (by rw [hr3]; exact hfn) (fun a' Wa => (KeepsFrom w.heap.size W Wa ∧ Keep B w.heap.size W Wa) ∧ I pre Wa ∧ Ax x a' Wa) (fun K hK => by rw [hr2, hr4, hr6]; exact hassign _ pre x W K hi hHW (fun a' Wa h1 h2 h3 h4 => hK a' Wa ⟨⟨h1, h2⟩, h3, h4⟩)) ?_
    rintro a' Wa ⟨⟨hkf, hkp⟩, hia, hax⟩
    replace hl := hkf.same _ _ (by omega) hl rfl
    replace hk := hkf.same _ _ (Nat.le_refl _) hk rfl
    have hHa := Nat.le_trans hHW hkf.size
    clear hkf hi
    refine ⟨hl, ?_⟩
    have hlt := (Array.getElem?_eq_some_iff.1 hl).1
    have hlets := hput (.loop { r with state := .busy }) hl (by omega)
    have hnB : ¬ B (w.heap.size + 1) := fun h => by have := hB _ h; omega
    have hk1 := hkp.trans (Keep.put (B := B) (H := w.heap.size) (.loop { r with state := .busy }) hl rfl hnB)
    have hl1 : (Wa.putObj (w.heap.size + 1) (.loop { r with state := .busy })).heap[w.heap.size + 1]? = some (.loop { r with state := .busy }) := World.putObj_heap_same hlt
    have hd1 : (Wa.putObj (w.heap.size + 1) (.loop { r with state := .busy })).heap[w.heap.size]? = some (.deferred (some [])) := (World.putObj_heap_other (by omega)).trans hk
    have hi1 := hI _ _ _ hia hlets
    have hH1 := Nat.le_trans hHa hlets.size
    have hax1 := hAx _ _ _ _ hax (Keep.put (.loop { r with state := .busy }) hl rfl (fun h => h))
    generalize Wa.putObj (w.heap.size + 1) (.loop { r with state := .busy }) = W1 at *
    have hwalk := hbody (w.heap.size + 1) pre x a' W1 hi1 hH1 hax1 hlen
    rw [← hr5] at hwalk
    refine wpIn_mono hwalk ?_
    -- the body's end: the record is turned once more
    have key : ∀ (W2 : World) (jump : Option Code), KeepsFrom w.heap.size W1 W2 → W2.heap[w.heap.size + 1]? = some (.loop { r with state := .busy }) ∧ W2.heap[w.heap.size]? = some (.deferred (some [])) := fun W2 jump hk2 => ⟨hk2.same _ _ (by omega) hl1 rfl, hk2.same _ _ (Nat.le_refl _) hd1 rfl⟩
    have put : ∀ (W2 : World) (o : Obj), W2.heap[w.heap.size + 1]? = some (.loop { r with state := .busy }) → W2.heap[w.heap.size]? = some (.deferred (some [])) → (W2.putObj (w.heap.size + 1) o).heap[w.heap.size + 1]? = some o ∧ (W2.putObj (w.heap.size + 1) o).heap[w.heap.size]? = some (.deferred (some [])) :=
      fun W2 o h2 h3 => ⟨World.putObj_heap_same (Array.getElem?_eq_some_iff.1 h2).1, (World.putObj_heap_other (by omega)).trans h3⟩
    rintro e a3 W2 hp
    cases e with
    | normal =>
      obtain ⟨q1, q2, q3⟩ := hp
      obtain ⟨e1, e2⟩ := key W2 none q1
      have e3 := run_endRound (P := P) none e1
      have e4 : ({ ({ r with state := .busy } : Loop) with state := if (none : Option Code).isNone then .ready else .done, pending := none } : Loop) = r := by cases r; simp_all
      rw [e4] at e3
      obtain ⟨e5, e6⟩ := put W2 (.loop r) e1 e2
      exact ⟨_, _, e3, .inl ⟨rfl, ⟨⟨hI _ _ _ q3 (hput _ e1 (by omega)), e5⟩, e6⟩, (hk1.trans q2).trans (Keep.put _ e1 rfl hnB)⟩⟩
    | ret =>
      obtain ⟨q1, q3⟩ := hp
      obtain ⟨e1, e2⟩ := key W2 none q1
      obtain ⟨e5, e6⟩ := put W2 (.loop { r with state := .done, pending := some .ret }) e1 e2
      exact ⟨_, _, run_endRound (P := P) (some .ret) e1, .inr ⟨rfl, ⟨.ret, hIx _ _ _ _ q3 (hput _ e1 (by omega)), e5⟩, e6⟩⟩
    | exit id =>
      obtain ⟨q1, q3⟩ := hp
      obtain ⟨e1, e2⟩ := key W2 none q1
      obtain ⟨e5, e6⟩ := put W2 (.loop { r with state := .done, pending := some (.exit id) }) e1 e2
      exact ⟨_, _, run_endRound (P := P) (some (.exit id)) e1, .inr ⟨rfl, ⟨.exit id, hIx _ _ _ _ q3 (hput _ e1 (by omega)), e5⟩, e6⟩⟩
    | goto t =>
      obtain ⟨q1, q3⟩ := hp
      obtain ⟨e1, e2⟩ := key W2 none q1
      obtain ⟨e5, e6⟩ := put W2 (.loop { r with state := .done, pending := some (.goto t) }) e1 e2
      exact ⟨_, _, run_endRound (P := P) (some (.goto t)) e1, .inr ⟨rfl, ⟨.goto t, hIx _ _ _ _ q3 (hput _ e1 (by omega)), e5⟩, e6⟩⟩
    | panic ch => exact hp.elim
    | outgrown => exact hp.elim
  · rintro e W2 ⟨⟨v, rfl⟩, (⟨xs, hS, ⟨hi, hl⟩, hk⟩ | ⟨pre, hSp, ⟨c, hi, hl⟩, hk⟩)⟩
    · have e3 := run_endLoop (P := P) hl (by rw [hr1]; simp)
      rw [hr7] at e3
      exact ⟨none, _, e3, hdone _ xs _ (Nat.le_refl _) hS (hI _ _ _ hi (hput _ hl (by omega))) ((World.putObj_heap_other (by omega)).trans hk)⟩
    · exact ⟨some c, _, run_endLoop (P := P) hl (by simp), hstop _ c pre _ (Nat.le_refl _) hSp (hIx _ _ _ _ hi (hput _ hl (by omega))) ((World.putObj_heap_other (by omega)).trans hk)⟩
theorem range_lowN {α : Type} {g : Operand} {ps : Array Tmp} {assign body : Code} {Q : Exit → Act → World → Prop} {a : Act} {w : World} (hro : F.round = none) (h1 : 1 ≤ n) {gf : Nat} {lb : Array Value} (hg : a.eval g = .func (.func gf) #[] lb) (hFg : F.fn gf)
    (eg : ∀ args w, (callFunc gf args).run P w = .ok (.enter gf args) w) {encs : α → Array Value} (hps : ∀ x, (encs x).size = ps.size) {B : Nat → Prop} (hB : ∀ k, B k → k < w.heap.size) {S : List α → Prop} {Pp : List α → α → Prop}
    (hseq : ∀ (l : Nat) (J : List α → World → Prop) (W : World), Below w.heap.size w W → w.heap.size ≤ W.heap.size → (∀ s X Y, J s X → Below W.heap.size X Y → J s Y) →
      (∀ pre x W1, J pre W1 → W.heap.size ≤ W1.heap.size → Pp pre x → YieldAt F (n - 1 - 1) P l (encs x) W1 fun e W' => e = .returned (.bool true) ∧ J (pre ++ [x]) W' ∧ Keep B w.heap.size W1 W') →
      J [] W → CallsIn F (n - 1) P gf (#[.func (.yield l) #[] #[]] ++ lb) W fun e W' => (∃ v, e = .returned v) ∧ ∃ xs, S xs ∧ J xs W')
    (I : List α → World → Prop) (hI : ∀ s X Y, I s X → Below w.heap.size X Y → I s Y) (h0 : I [] w) (Ax : α → Act → World → Prop) (hAx : ∀ x a' X Y, Ax x a' X → Keep (fun _ => False) 0 X Y → Ax x a' Y)
    (hassign : ∀ (l : Nat) (pre : List α) (x : α) (W : World) (K : Act → World → Prop), I pre W → w.heap.size ≤ W.heap.size → (∀ a' W', KeepsFrom w.heap.size W W' → Keep B w.heap.size W W' → I pre W' → Ax x a' W' → K a' W') →
      assign.wpIn (F.inRound l) (n - 1 - 1) P (Exit.then K (fun _ _ _ => False)) { tmps := (ps.zip (encs x)).foldl (fun t (p, v) => t.setIfInBounds p v) a.tmps, defers := [] } W)
    (hbody : ∀ (l : Nat) (pre : List α) (x : α) (a' : Act) (W : World), I pre W → w.heap.size ≤ W.heap.size → Ax x a' W → Pp pre x → body.wpIn (F.inRound l) (n - 1 - 1) P (ownPostG w.heap.size (Keep B w.heap.size) I (fun _ _ _ => False) (pre ++ [x]) W) a' W)
    (hdone : ∀ (D : Nat) (xs : List α) (W : World), w.heap.size ≤ D → S xs → I xs W → W.heap[D]? = some (.deferred (some [])) → Q .normal { a with defers := { target := .collected D, args := #[] } :: a.defers } W) :
    (Code.rangeFunc g ps assign body).wpIn F n P Q a w := by
  refine wpIn_rangeFunc fun fn hfn => ?_
  rw [hro]
  have hout := run_enterLoop_outer (P := P) (w := w) fn a.tmps ps assign body
  generalize hr : ({ state := .ready, pending := none, fn := fn, tmps := a.tmps, params := ps, assign := assign, body := body, defers := w.heap.size } : Loop) = r at hout
  have hr1 : r.state = .ready := by rw [← hr]
  have hr2 : r.params = ps := by rw [← hr]
  have hr3 : r.fn = fn := by rw [← hr]
  have hr4 : r.assign = assign := by rw [← hr]
  have hr5 : r.body = body := by rw [← hr]
  have hr6 : r.tmps = a.tmps := by rw [← hr]
  have hr7 : r.pending = none := by rw [← hr]
  clear hr
  have hD : (w.alloc (.deferred (some []))).heap[w.heap.size]? = some (.deferred (some [])) := World.alloc_heap_new w _
  have hBD : Below w.heap.size w (w.alloc (.deferred (some []))) := (Below.refl _ w).alloc (Nat.le_refl _) _
  have hID := hI _ _ _ h0 hBD
  have hzD : (w.alloc (.deferred (some []))).heap.size = w.heap.size + 1 := by simp
  generalize w.alloc (.deferred (some [])) = V at *
  have hL : (V.alloc (.loop r)).heap[w.heap.size + 1]? = some (.loop r) := by rw [← hzD]; exact World.alloc_heap_new V _
  have hD1 : (V.alloc (.loop r)).heap[w.heap.size]? = some (.deferred (some [])) := (Below.heap_alloc _ _ _ (by omega)).trans hD
  have hB1 : Below w.heap.size w (V.alloc (.loop r)) := hBD.alloc (by omega) _
  have hzV : (V.alloc (.loop r)).heap.size = w.heap.size + 2 := by simp [hzD]
  have hI1 := hI _ _ _ hID ((Below.refl w.heap.size V).alloc (by omega) (.loop r))
  generalize V.alloc (.loop r) = V1 at *
  refine ⟨w.heap.size + 1, _, V1, { target := .fn (.func gf) lb, args := #[.func (.yield (w.heap.size + 1)) #[] #[]] }, V1, gf, #[.func (.yield (w.heap.size + 1)) #[] #[]] ++ lb, V1, hout, ?_, ?_, ?_, fun _ => h1, ?_⟩
  · simp only [resolve, hg]
    simp [go_sem]
  · intro f' hf'
    simp [Target.leads] at hf'
    subst hf'
    exact hFg
  · simp [invoke, go_sem, eg]
  -- the iterator, with the loop's two blocks beside the caller's facts
  have bs : ∀ {X Y : World} {k : Nat} {o : Obj}, Below V1.heap.size X Y → X.heap[k]? = some o → k < V1.heap.size → Y.heap[k]? = some o := fun h hk hlt => (h.block _ hlt).trans hk
  have hlow : ∀ {X Y : World}, Below V1.heap.size X Y → Below w.heap.size X Y := fun h => h.mono (by omega)
  have hput : ∀ {X : World} {l : Nat} {o0 : Obj} (o : Obj), X.heap[l]? = some o0 → w.heap.size ≤ l → Below w.heap.size X (X.putObj l o) := fun {X l} _ o h hl => (Below.refl _ X).grown (grownBy_putObj' X l o) (by have := (Array.getElem?_eq_some_iff.1 h).1; omega) (fun k e => by cases e; exact hl)
  refine (hseq (w.heap.size + 1) (fun pre W => (I pre W ∧ W.heap[w.heap.size + 1]? = some (.loop r)) ∧ W.heap[w.heap.size]? = some (.deferred (some []))) V1 hB1 hB1.size
    (fun s X Y h hb => ⟨⟨hI _ _ _ h.1.1 (hlow hb), bs hb h.1.2 (by omega)⟩, bs hb h.2 (by omega)⟩) ?_ ⟨⟨hI1, hL⟩, hD1⟩).mono ?_
  · rintro pre x W ⟨⟨hi, hl⟩, hk⟩ hHW0 hlen
    have hHW : w.heap.size ≤ W.heap.size := by omega
    clear hHW0
    refine yield_but hl hr1 (by rw [hr2]; exact hps x) (by rw [hr3]; exact hfn) (fun a' Wa => (KeepsFrom w.heap.size W Wa ∧ Keep B w.heap.size W Wa) ∧ I pre Wa ∧ Ax x a' Wa) (fun K hK => by rw [hr2, hr4, hr6]; exact hassign _ pre x W K hi hHW (fun a' Wa h1 h2 h3 h4 => hK a' Wa ⟨⟨h1, h2⟩, h3, h4⟩)) ?_
    rintro a' Wa ⟨⟨hkf, hkp⟩, hia, hax⟩
    replace hl := hkf.same _ _ (by omega) hl rfl
    replace hk := hkf.same _ _ (Nat.le_refl _) hk rfl
    have hHa := Nat.le_trans hHW hkf.size
    clear hkf hi
    refine ⟨hl, ?_⟩
    have hlt := (Array.getElem?_eq_some_iff.1 hl).1
    have hlets := hput (.loop { r with state := .busy }) hl (by omega)
    have hnB : ¬ B (w.heap.size + 1) := fun h => by have := hB _ h; omega
    have hk1 := hkp.trans (Keep.put (B := B) (H := w.heap.size) (.loop { r with state := .busy }) hl rfl hnB)
    have hl1 : (Wa.putObj (w.heap.size + 1) (.loop { r with state := .busy })).heap[w.heap.size + 1]? = some (.loop { r with state := .busy }) := World.putObj_heap_same hlt
    have hd1 : (Wa.putObj (w.heap.size + 1) (.loop { r with state := .busy })).heap[w.heap.size]? = some (.deferred (some [])) := (World.putObj_heap_other (by omega)).trans hk
    have hi1 := hI _ _ _ hia hlets
    have hH1 := Nat.le_trans hHa hlets.size
    have hax1 := hAx _ _ _ _ hax (Keep.put (.loop { r with state := .busy }) hl rfl (fun h => h))
    generalize Wa.putObj (w.heap.size + 1) (.loop { r with state := .busy }) = W1 at *
    have hwalk := hbody (w.heap.size + 1) pre x a' W1 hi1 hH1 hax1 hlen
    rw [← hr5] at hwalk
    refine wpIn_mono hwalk ?_
    -- the body's end: the record is turned once more
    have key : ∀ (W2 : World) (jump : Option Code), KeepsFrom w.heap.size W1 W2 → W2.heap[w.heap.size + 1]? = some (.loop { r with state := .busy }) ∧ W2.heap[w.heap.size]? = some (.deferred (some [])) := fun W2 jump hk2 => ⟨hk2.same _ _ (by omega) hl1 rfl, hk2.same _ _ (Nat.le_refl _) hd1 rfl⟩
    have put : ∀ (W2 : World) (o : Obj), W2.heap[w.heap.size + 1]? = some (.loop { r with state := .busy }) → W2.heap[w.heap.size]? = some (.deferred (some [])) → (W2.putObj (w.heap.size + 1) o).heap[w.heap.size + 1]? = some o ∧ (W2.putObj (w.heap.size + 1) o).heap[w.heap.size]? = some (.deferred (some [])) :=
      fun W2 o h2 h3 => ⟨World.putObj_heap_same (Array.getElem?_eq_some_iff.1 h2).1, (World.putObj_heap_other (by omega)).trans h3⟩
    rintro e a3 W2 hp
    cases e with
    | normal =>
      obtain ⟨q1, q2, q3⟩ := hp
      obtain ⟨e1, e2⟩ := key W2 none q1
      have e3 := run_endRound (P := P) none e1
      have e4 : ({ ({ r with state := .busy } : Loop) with state := if (none : Option Code).isNone then .ready else .done, pending := none } : Loop) = r := by cases r; simp_all
      rw [e4] at e3
      obtain ⟨e5, e6⟩ := put W2 (.loop r) e1 e2
      exact ⟨_, _, e3, rfl, ⟨⟨hI _ _ _ q3 (hput _ e1 (by omega)), e5⟩, e6⟩, (hk1.trans q2).trans (Keep.put _ e1 rfl hnB)⟩
    | ret => exact hp.2.elim
    | exit id => exact hp.2.elim
    | goto t => exact hp.2.elim
    | panic ch => exact hp.elim
    | outgrown => exact hp.elim
  · rintro e W2 ⟨⟨v, rfl⟩, xs, hS, ⟨hi, hl⟩, hk⟩
    have e3 := run_endLoop (P := P) hl (by rw [hr1]; simp)
    rw [hr7] at e3
    exact ⟨none, _, e3, hdone _ xs _ (Nat.le_refl _) hS (hI _ _ _ hi (hput _ hl (by omega))) ((World.putObj_heap_other (by omega)).trans hk)⟩
end
end Go.Proofs.YtdjeokgkeejpcaaGreatDoor.AX
