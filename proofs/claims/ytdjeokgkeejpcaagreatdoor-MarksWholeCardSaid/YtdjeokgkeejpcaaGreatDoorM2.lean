/- Marks: ref16.bare 16, tree.bare 37. -/
import Derived.Test.YtdjeokgkeejpcaaGreatDoorM1
namespace Go.Proofs.YtdjeokgkeejpcaaGreatDoor
open Go Go.Proofs Go.RowKit
attribute [local go_sem] Oper.semAt_some
structure BareOk (p : Pt) : Prop where
  k1 : 1 ≤ p.kind
  k6 : p.kind ≤ 6
  a0 : 0 ≤ p.frm
  at' : p.frm ≤ p.too
  lk : p.frm < p.look
  tok : p.kind = 3 ∨ p.kind = 5 ∨ p.kind = 6 → p.frm ≤ p.inn ∧ p.inn ≤ p.too
  non : ¬ (p.kind = 3 ∨ p.kind = 5 ∨ p.kind = 6) → p.inn = p.frm
  mis : p.kind = 4 → p.frm = p.too
  leaf : p.kind ≠ 1 ∧ p.kind ≠ 2 → p.kids.length = 0
open Classical in
noncomputable def bareB (p : Pt) : Bool := decide (BareOk p)
open Classical in
theorem bareB_true {p : Pt} : bareB p = true ↔ BareOk p := by unfold bareB; exact decide_eq_true_iff
open Classical in
theorem bareB_false {p : Pt} (h : ¬ BareOk p) : bareB p = false := by unfold bareB; exact decide_eq_false h
set_option maxRecDepth 100000 in
set_option maxHeartbeats 16000000 in
theorem bare16_k (p : Pt) (ka : Option Addr) (kc : Nat) (w : World) :
    Calls Tryz.prog 16 #[ptV p ka kc] w fun e w' => e = .returned (.bool (bareB p)) ∧ Below w.heap.size w w' := by
  obtain ⟨sym, kind, frm, inn, too, look, kids, met⟩ := p
  obtain ⟨v, hv⟩ : ∃ v, v = bareB ⟨sym, kind, frm, inn, too, look, kids, met⟩ := ⟨_, rfl⟩
  rw [← hv]
  have hT : Hid (BareOk ⟨sym, kind, frm, inn, too, look, kids, met⟩ → v = true) := Lib.hid fun h => by rw [hv]; exact bareB_true.2 h
  have hF : Hid (¬ BareOk ⟨sym, kind, frm, inn, too, look, kids, met⟩ → v = false) := Lib.hid fun h => by rw [hv]; exact bareB_false h
  clear hv
  unfold ptV
  dsimp only
  have hA := (Below.refl _ w).alloc (Nat.le_refl _) (.cells #[.int .i64 sym, .int .i64 kind, .int .i64 frm, .int .i64 inn, .int .i64 too, .int .i64 look, .slice ka kids.length kc, .int .u64 (met : Nat)] 36)
  obtain ⟨x0, x1, x2, x3, x4, x5, x6, x7⟩ := (Bx.new w 36 #[.int .i64 sym, .int .i64 kind, .int .i64 frm, .int .i64 inn, .int .i64 too, .int .i64 look, .slice ka kids.length kc, .int .u64 (met : Nat)]).eight
  have hc : kind < 1 ∨ (¬ kind < 1 ∧ 6 < kind) ∨ (¬ kind < 1 ∧ ¬ 6 < kind ∧ frm < 0) ∨ (¬ kind < 1 ∧ ¬ 6 < kind ∧ ¬ frm < 0 ∧ too < frm) ∨ (¬ kind < 1 ∧ ¬ 6 < kind ∧ ¬ frm < 0 ∧ ¬ too < frm ∧ look ≤ frm) ∨ ((kind = 1 ∨ kind = 2 ∨ kind = 3 ∨ kind = 4 ∨ kind = 5 ∨ kind = 6) ∧ ¬ frm < 0 ∧ ¬ too < frm ∧ ¬ look ≤ frm) := by omega
  rcases hc with h1 | ⟨h1, h2⟩ | ⟨h1, h2, h3⟩ | ⟨h1, h2, h3, h4⟩ | ⟨h1, h2, h3, h4, h5⟩ | ⟨hk, h3, h4, h5⟩
  · have hE : Hid (v = false) := Lib.hid (hF.out fun h => by
      obtain ⟨b1, b2, b3, b4, b5, b6, b7, b8, b9⟩ := h
      dsimp only at b1 b2 b3 b4 b5 b6 b7 b8 b9
      omega)
    go_enter Tryz.func16, Tryz.ntmps16
    go_wp2
    go_ret
    exact ⟨by rw [hE.out]; rfl, hA⟩
  · have hE : Hid (v = false) := Lib.hid (hF.out fun h => by
      obtain ⟨b1, b2, b3, b4, b5, b6, b7, b8, b9⟩ := h
      dsimp only at b1 b2 b3 b4 b5 b6 b7 b8 b9
      omega)
    go_enter Tryz.func16, Tryz.ntmps16
    go_wp2
    go_ret
    exact ⟨by rw [hE.out]; rfl, hA⟩
  · have hE : Hid (v = false) := Lib.hid (hF.out fun h => by
      obtain ⟨b1, b2, b3, b4, b5, b6, b7, b8, b9⟩ := h
      dsimp only at b1 b2 b3 b4 b5 b6 b7 b8 b9
      omega)
    go_enter Tryz.func16, Tryz.ntmps16
    go_wp2
    go_ret
    exact ⟨by rw [hE.out]; rfl, hA⟩
  · have hE : Hid (v = false) := Lib.hid (hF.out fun h => by
      obtain ⟨b1, b2, b3, b4, b5, b6, b7, b8, b9⟩ := h
      dsimp only at b1 b2 b3 b4 b5 b6 b7 b8 b9
      omega)
    go_enter Tryz.func16, Tryz.ntmps16
    go_wp2
    go_ret
    exact ⟨by rw [hE.out]; rfl, hA⟩
  · have hE : Hid (v = false) := Lib.hid (hF.out fun h => by
      obtain ⟨b1, b2, b3, b4, b5, b6, b7, b8, b9⟩ := h
      dsimp only at b1 b2 b3 b4 b5 b6 b7 b8 b9
      omega)
    go_enter Tryz.func16, Tryz.ntmps16
    go_wp2
    go_ret
    exact ⟨by rw [hE.out]; rfl, hA⟩
  · rcases hk with rfl | rfl | rfl | rfl | rfl | rfl
    · have hlf : ∀ W, Calls Tryz.prog 35 #[.int .i64 1] W fun e w' => e = .returned (.bool false) ∧ W = w' := fun W => leaf35_k 1 W
      by_cases q0 : inn ≠ frm
      · have hE : Hid (v = false) := Lib.hid (hF.out fun h => by
          obtain ⟨b1, b2, b3, b4, b5, b6, b7, b8, b9⟩ := h
          dsimp only at b1 b2 b3 b4 b5 b6 b7 b8 b9
          have := b7 (by omega)
          omega)
        go_enter Tryz.func16, Tryz.ntmps16
        go_wp2
        go_ret
        exact ⟨by rw [hE.out]; rfl, hA⟩
      · skip
        have q0' : inn = frm := by omega
        subst q0'
        have HB : Hid (BareOk ⟨sym, 1, inn, inn, too, look, kids, met⟩) := Lib.hid ⟨by dsimp only; omega, by dsimp only; omega, by dsimp only; omega, by dsimp only; omega, by dsimp only; omega, fun h => by (try dsimp only at h ⊢) <;> try omega, fun h => by (try dsimp only at h ⊢) <;> try omega, fun h => by (try dsimp only at h ⊢) <;> try omega, fun h => by (try dsimp only at h ⊢) <;> try omega⟩
        go_enter Tryz.func16, Tryz.ntmps16
        go_wp2_with (go_at_call 35; ((with_reducible refine (hlf _).mono ?_); rintro e W1 ⟨rfl, rfl⟩))
        go_ret
        exact ⟨by rw [hT.out HB.out]; rfl, hA⟩
    · have hlf : ∀ W, Calls Tryz.prog 35 #[.int .i64 2] W fun e w' => e = .returned (.bool false) ∧ W = w' := fun W => leaf35_k 2 W
      by_cases q0 : inn ≠ frm
      · have hE : Hid (v = false) := Lib.hid (hF.out fun h => by
          obtain ⟨b1, b2, b3, b4, b5, b6, b7, b8, b9⟩ := h
          dsimp only at b1 b2 b3 b4 b5 b6 b7 b8 b9
          have := b7 (by omega)
          omega)
        go_enter Tryz.func16, Tryz.ntmps16
        go_wp2
        go_ret
        exact ⟨by rw [hE.out]; rfl, hA⟩
      · skip
        have q0' : inn = frm := by omega
        subst q0'
        have HB : Hid (BareOk ⟨sym, 2, inn, inn, too, look, kids, met⟩) := Lib.hid ⟨by dsimp only; omega, by dsimp only; omega, by dsimp only; omega, by dsimp only; omega, by dsimp only; omega, fun h => by (try dsimp only at h ⊢) <;> try omega, fun h => by (try dsimp only at h ⊢) <;> try omega, fun h => by (try dsimp only at h ⊢) <;> try omega, fun h => by (try dsimp only at h ⊢) <;> try omega⟩
        go_enter Tryz.func16, Tryz.ntmps16
        go_wp2_with (go_at_call 35; ((with_reducible refine (hlf _).mono ?_); rintro e W1 ⟨rfl, rfl⟩))
        go_ret
        exact ⟨by rw [hT.out HB.out]; rfl, hA⟩
    · have hlf : ∀ W, Calls Tryz.prog 35 #[.int .i64 3] W fun e w' => e = .returned (.bool true) ∧ W = w' := fun W => leaf35_k 3 W
      by_cases q0 : inn < frm
      · have hE : Hid (v = false) := Lib.hid (hF.out fun h => by
          obtain ⟨b1, b2, b3, b4, b5, b6, b7, b8, b9⟩ := h
          dsimp only at b1 b2 b3 b4 b5 b6 b7 b8 b9
          have := b6 (by omega)
          omega)
        go_enter Tryz.func16, Tryz.ntmps16
        go_wp2
        go_ret
        exact ⟨by rw [hE.out]; rfl, hA⟩
      · skip
        by_cases q1 : too < inn
        · have hE : Hid (v = false) := Lib.hid (hF.out fun h => by
            obtain ⟨b1, b2, b3, b4, b5, b6, b7, b8, b9⟩ := h
            dsimp only at b1 b2 b3 b4 b5 b6 b7 b8 b9
            have := b6 (by omega)
            omega)
          go_enter Tryz.func16, Tryz.ntmps16
          go_wp2
          go_ret
          exact ⟨by rw [hE.out]; rfl, hA⟩
        · skip
          by_cases z : kids.length = 0
          · have HB : Hid (BareOk ⟨sym, 3, frm, inn, too, look, kids, met⟩) := Lib.hid ⟨by dsimp only; omega, by dsimp only; omega, by dsimp only; omega, by dsimp only; omega, by dsimp only; omega, fun h => by (try dsimp only at h ⊢) <;> try omega, fun h => by (try dsimp only at h ⊢) <;> try omega, fun h => by (try dsimp only at h ⊢) <;> try omega, fun _ => z⟩
            go_enter Tryz.func16, Tryz.ntmps16
            have z1 : (kids.length : Int) = 0 := by omega
            clear z
            go_wp2_with (go_at_call 35; ((with_reducible refine (hlf _).mono ?_); rintro e W1 ⟨rfl, rfl⟩))
            go_ret
            exact ⟨by rw [hT.out HB.out]; rfl, hA⟩
          · have z1 : ¬ (kids.length : Int) = 0 := by omega
            clear z
            have hE : Hid (v = false) := Lib.hid (hF.out fun h => by
              obtain ⟨b1, b2, b3, b4, b5, b6, b7, b8, b9⟩ := h
              dsimp only at b1 b2 b3 b4 b5 b6 b7 b8 b9
              have := b9 (by omega)
              omega)
            go_enter Tryz.func16, Tryz.ntmps16
            go_wp2_with (go_at_call 35; ((with_reducible refine (hlf _).mono ?_); rintro e W1 ⟨rfl, rfl⟩))
            go_ret
            exact ⟨by rw [hE.out]; exact congrArg (fun b => Ending.returned (.bool b)) (beq_false_of_ne z1), hA⟩
    · have hlf : ∀ W, Calls Tryz.prog 35 #[.int .i64 4] W fun e w' => e = .returned (.bool true) ∧ W = w' := fun W => leaf35_k 4 W
      by_cases q0 : inn ≠ frm
      · have hE : Hid (v = false) := Lib.hid (hF.out fun h => by
          obtain ⟨b1, b2, b3, b4, b5, b6, b7, b8, b9⟩ := h
          dsimp only at b1 b2 b3 b4 b5 b6 b7 b8 b9
          have := b7 (by omega)
          omega)
        go_enter Tryz.func16, Tryz.ntmps16
        go_wp2
        go_ret
        exact ⟨by rw [hE.out]; rfl, hA⟩
      · skip
        have q0' : inn = frm := by omega
        subst q0'
        by_cases q1 : inn ≠ too
        · have hE : Hid (v = false) := Lib.hid (hF.out fun h => by
            obtain ⟨b1, b2, b3, b4, b5, b6, b7, b8, b9⟩ := h
            dsimp only at b1 b2 b3 b4 b5 b6 b7 b8 b9
            have := b8 rfl
            omega)
          go_enter Tryz.func16, Tryz.ntmps16
          go_wp2_with (go_at_call 35; ((with_reducible refine (hlf _).mono ?_); rintro e W1 ⟨rfl, rfl⟩))
          go_ret
          exact ⟨by rw [hE.out]; rfl, hA⟩
        · skip
          have q1' : inn = too := by omega
          subst q1'
          by_cases z : kids.length = 0
          · have HB : Hid (BareOk ⟨sym, 4, inn, inn, inn, look, kids, met⟩) := Lib.hid ⟨by dsimp only; omega, by dsimp only; omega, by dsimp only; omega, by dsimp only; omega, by dsimp only; omega, fun h => by (try dsimp only at h ⊢) <;> try omega, fun h => by (try dsimp only at h ⊢) <;> try omega, fun h => by (try dsimp only at h ⊢) <;> try omega, fun _ => z⟩
            go_enter Tryz.func16, Tryz.ntmps16
            have z1 : (kids.length : Int) = 0 := by omega
            clear z
            go_wp2_with (go_at_call 35; ((with_reducible refine (hlf _).mono ?_); rintro e W1 ⟨rfl, rfl⟩))
            go_ret
            exact ⟨by rw [hT.out HB.out]; rfl, hA⟩
          · have z1 : ¬ (kids.length : Int) = 0 := by omega
            clear z
            have hE : Hid (v = false) := Lib.hid (hF.out fun h => by
              obtain ⟨b1, b2, b3, b4, b5, b6, b7, b8, b9⟩ := h
              dsimp only at b1 b2 b3 b4 b5 b6 b7 b8 b9
              have := b9 (by omega)
              omega)
            go_enter Tryz.func16, Tryz.ntmps16
            go_wp2_with (go_at_call 35; ((with_reducible refine (hlf _).mono ?_); rintro e W1 ⟨rfl, rfl⟩))
            go_ret
            exact ⟨by rw [hE.out]; exact congrArg (fun b => Ending.returned (.bool b)) (beq_false_of_ne z1), hA⟩
    · have hlf : ∀ W, Calls Tryz.prog 35 #[.int .i64 5] W fun e w' => e = .returned (.bool true) ∧ W = w' := fun W => leaf35_k 5 W
      by_cases q0 : inn < frm
      · have hE : Hid (v = false) := Lib.hid (hF.out fun h => by
          obtain ⟨b1, b2, b3, b4, b5, b6, b7, b8, b9⟩ := h
          dsimp only at b1 b2 b3 b4 b5 b6 b7 b8 b9
          have := b6 (by omega)
          omega)
        go_enter Tryz.func16, Tryz.ntmps16
        go_wp2
        go_ret
        exact ⟨by rw [hE.out]; rfl, hA⟩
      · skip
        by_cases q1 : too < inn
        · have hE : Hid (v = false) := Lib.hid (hF.out fun h => by
            obtain ⟨b1, b2, b3, b4, b5, b6, b7, b8, b9⟩ := h
            dsimp only at b1 b2 b3 b4 b5 b6 b7 b8 b9
            have := b6 (by omega)
            omega)
          go_enter Tryz.func16, Tryz.ntmps16
          go_wp2
          go_ret
          exact ⟨by rw [hE.out]; rfl, hA⟩
        · skip
          by_cases z : kids.length = 0
          · have HB : Hid (BareOk ⟨sym, 5, frm, inn, too, look, kids, met⟩) := Lib.hid ⟨by dsimp only; omega, by dsimp only; omega, by dsimp only; omega, by dsimp only; omega, by dsimp only; omega, fun h => by (try dsimp only at h ⊢) <;> try omega, fun h => by (try dsimp only at h ⊢) <;> try omega, fun h => by (try dsimp only at h ⊢) <;> try omega, fun _ => z⟩
            go_enter Tryz.func16, Tryz.ntmps16
            have z1 : (kids.length : Int) = 0 := by omega
            clear z
            go_wp2_with (go_at_call 35; ((with_reducible refine (hlf _).mono ?_); rintro e W1 ⟨rfl, rfl⟩))
            go_ret
            exact ⟨by rw [hT.out HB.out]; rfl, hA⟩
          · have z1 : ¬ (kids.length : Int) = 0 := by omega
            clear z
            have hE : Hid (v = false) := Lib.hid (hF.out fun h => by
              obtain ⟨b1, b2, b3, b4, b5, b6, b7, b8, b9⟩ := h
              dsimp only at b1 b2 b3 b4 b5 b6 b7 b8 b9
              have := b9 (by omega)
              omega)
            go_enter Tryz.func16, Tryz.ntmps16
            go_wp2_with (go_at_call 35; ((with_reducible refine (hlf _).mono ?_); rintro e W1 ⟨rfl, rfl⟩))
            go_ret
            exact ⟨by rw [hE.out]; exact congrArg (fun b => Ending.returned (.bool b)) (beq_false_of_ne z1), hA⟩
    · have hlf : ∀ W, Calls Tryz.prog 35 #[.int .i64 6] W fun e w' => e = .returned (.bool true) ∧ W = w' := fun W => leaf35_k 6 W
      by_cases q0 : inn < frm
      · have hE : Hid (v = false) := Lib.hid (hF.out fun h => by
          obtain ⟨b1, b2, b3, b4, b5, b6, b7, b8, b9⟩ := h
          dsimp only at b1 b2 b3 b4 b5 b6 b7 b8 b9
          have := b6 (by omega)
          omega)
        go_enter Tryz.func16, Tryz.ntmps16
        go_wp2
        go_ret
        exact ⟨by rw [hE.out]; rfl, hA⟩
      · skip
        by_cases q1 : too < inn
        · have hE : Hid (v = false) := Lib.hid (hF.out fun h => by
            obtain ⟨b1, b2, b3, b4, b5, b6, b7, b8, b9⟩ := h
            dsimp only at b1 b2 b3 b4 b5 b6 b7 b8 b9
            have := b6 (by omega)
            omega)
          go_enter Tryz.func16, Tryz.ntmps16
          go_wp2
          go_ret
          exact ⟨by rw [hE.out]; rfl, hA⟩
        · skip
          by_cases z : kids.length = 0
          · have HB : Hid (BareOk ⟨sym, 6, frm, inn, too, look, kids, met⟩) := Lib.hid ⟨by dsimp only; omega, by dsimp only; omega, by dsimp only; omega, by dsimp only; omega, by dsimp only; omega, fun h => by (try dsimp only at h ⊢) <;> try omega, fun h => by (try dsimp only at h ⊢) <;> try omega, fun h => by (try dsimp only at h ⊢) <;> try omega, fun _ => z⟩
            go_enter Tryz.func16, Tryz.ntmps16
            have z1 : (kids.length : Int) = 0 := by omega
            clear z
            go_wp2_with (go_at_call 35; ((with_reducible refine (hlf _).mono ?_); rintro e W1 ⟨rfl, rfl⟩))
            go_ret
            exact ⟨by rw [hT.out HB.out]; rfl, hA⟩
          · have z1 : ¬ (kids.length : Int) = 0 := by omega
            clear z
            have hE : Hid (v = false) := Lib.hid (hF.out fun h => by
              obtain ⟨b1, b2, b3, b4, b5, b6, b7, b8, b9⟩ := h
              dsimp only at b1 b2 b3 b4 b5 b6 b7 b8 b9
              have := b9 (by omega)
              omega)
            go_enter Tryz.func16, Tryz.ntmps16
            go_wp2_with (go_at_call 35; ((with_reducible refine (hlf _).mono ?_); rintro e W1 ⟨rfl, rfl⟩))
            go_ret
            exact ⟨by rw [hE.out]; exact congrArg (fun b => Ending.returned (.bool b)) (beq_false_of_ne z1), hA⟩
set_option maxRecDepth 100000 in
set_option maxHeartbeats 16000000 in
theorem bare37_k (p : Pt) (hb : BareOk p) (ka : Option Addr) (kc : Nat) (w : World) :
    Calls Tryz.prog 37 #[ptV p ka kc] w fun e w' => e = .returned (.bool true) ∧ Below w.heap.size w w' := by
  obtain ⟨sym, kind, frm, inn, too, look, kids, met⟩ := p
  obtain ⟨b1, b2, b3, b4, b5, b6, b7, b8, b9⟩ := hb
  dsimp only at b1 b2 b3 b4 b5 b6 b7 b8 b9
  unfold ptV
  dsimp only
  have hA := (Below.refl _ w).alloc (Nat.le_refl _) (.cells #[.int .i64 sym, .int .i64 kind, .int .i64 frm, .int .i64 inn, .int .i64 too, .int .i64 look, .slice ka kids.length kc, .int .u64 (met : Nat)] 36)
  obtain ⟨x0, x1, x2, x3, x4, x5, x6, x7⟩ := (Bx.new w 36 #[.int .i64 sym, .int .i64 kind, .int .i64 frm, .int .i64 inn, .int .i64 too, .int .i64 look, .slice ka kids.length kc, .int .u64 (met : Nat)]).eight
  have h3 : ¬ frm < 0 := by omega
  have h4 : ¬ too < frm := by omega
  have h5 : ¬ look ≤ frm := by omega
  clear b3 b4 b5
  have hk : kind = 1 ∨ kind = 2 ∨ kind = 3 ∨ kind = 4 ∨ kind = 5 ∨ kind = 6 := by omega
  rcases hk with rfl | rfl | rfl | rfl | rfl | rfl
  · have hlf : ∀ W, Calls Tryz.prog 72 #[.int .i64 1] W fun e w' => e = .returned (.bool false) ∧ W = w' := fun W => leaf72_k 1 W
    have htk : ∀ W, Calls Tryz.prog 71 #[.int .i64 1] W fun e w' => e = .returned (.bool false) ∧ W = w' := fun W => token_k 1 W
    have q1 := b7 (by omega)
    subst q1
    clear b1 b2 b6 b7 b8 b9
    go_enter Tryz.func37, Tryz.ntmps37
    go_wp2_with (first | (go_at_call 71; ((with_reducible refine (htk _).mono ?_); rintro e W1 ⟨rfl, rfl⟩)) | (go_at_call 72; ((with_reducible refine (hlf _).mono ?_); rintro e W1 ⟨rfl, rfl⟩)))
    go_ret
    exact ⟨rfl, hA⟩
  · have hlf : ∀ W, Calls Tryz.prog 72 #[.int .i64 2] W fun e w' => e = .returned (.bool false) ∧ W = w' := fun W => leaf72_k 2 W
    have htk : ∀ W, Calls Tryz.prog 71 #[.int .i64 2] W fun e w' => e = .returned (.bool false) ∧ W = w' := fun W => token_k 2 W
    have q1 := b7 (by omega)
    subst q1
    clear b1 b2 b6 b7 b8 b9
    go_enter Tryz.func37, Tryz.ntmps37
    go_wp2_with (first | (go_at_call 71; ((with_reducible refine (htk _).mono ?_); rintro e W1 ⟨rfl, rfl⟩)) | (go_at_call 72; ((with_reducible refine (hlf _).mono ?_); rintro e W1 ⟨rfl, rfl⟩)))
    go_ret
    exact ⟨rfl, hA⟩
  · have hlf : ∀ W, Calls Tryz.prog 72 #[.int .i64 3] W fun e w' => e = .returned (.bool true) ∧ W = w' := fun W => leaf72_k 3 W
    have htk : ∀ W, Calls Tryz.prog 71 #[.int .i64 3] W fun e w' => e = .returned (.bool true) ∧ W = w' := fun W => token_k 3 W
    obtain ⟨q1, q2⟩ := b6 (by omega)
    have q3 : ¬ inn < frm := by omega
    have q4 : ¬ too < inn := by omega
    have z1 : (kids.length : Int) = 0 := by have := b9 (by omega); omega
    clear b1 b2 b6 b7 b8 b9
    go_enter Tryz.func37, Tryz.ntmps37
    go_wp2_with (first | (go_at_call 71; ((with_reducible refine (htk _).mono ?_); rintro e W1 ⟨rfl, rfl⟩)) | (go_at_call 72; ((with_reducible refine (hlf _).mono ?_); rintro e W1 ⟨rfl, rfl⟩)))
    go_ret
    exact ⟨rfl, hA⟩
  · have hlf : ∀ W, Calls Tryz.prog 72 #[.int .i64 4] W fun e w' => e = .returned (.bool true) ∧ W = w' := fun W => leaf72_k 4 W
    have htk : ∀ W, Calls Tryz.prog 71 #[.int .i64 4] W fun e w' => e = .returned (.bool false) ∧ W = w' := fun W => token_k 4 W
    have q1 := b7 (by omega)
    subst q1
    have q5 := b8 rfl
    subst q5
    have z1 : (kids.length : Int) = 0 := by have := b9 (by omega); omega
    clear b1 b2 b6 b7 b8 b9
    go_enter Tryz.func37, Tryz.ntmps37
    go_wp2_with (first | (go_at_call 71; ((with_reducible refine (htk _).mono ?_); rintro e W1 ⟨rfl, rfl⟩)) | (go_at_call 72; ((with_reducible refine (hlf _).mono ?_); rintro e W1 ⟨rfl, rfl⟩)))
    go_ret
    exact ⟨rfl, hA⟩
  · have hlf : ∀ W, Calls Tryz.prog 72 #[.int .i64 5] W fun e w' => e = .returned (.bool true) ∧ W = w' := fun W => leaf72_k 5 W
    have htk : ∀ W, Calls Tryz.prog 71 #[.int .i64 5] W fun e w' => e = .returned (.bool true) ∧ W = w' := fun W => token_k 5 W
    obtain ⟨q1, q2⟩ := b6 (by omega)
    have q3 : ¬ inn < frm := by omega
    have q4 : ¬ too < inn := by omega
    have z1 : (kids.length : Int) = 0 := by have := b9 (by omega); omega
    clear b1 b2 b6 b7 b8 b9
    go_enter Tryz.func37, Tryz.ntmps37
    go_wp2_with (first | (go_at_call 71; ((with_reducible refine (htk _).mono ?_); rintro e W1 ⟨rfl, rfl⟩)) | (go_at_call 72; ((with_reducible refine (hlf _).mono ?_); rintro e W1 ⟨rfl, rfl⟩)))
    go_ret
    exact ⟨rfl, hA⟩
  · have hlf : ∀ W, Calls Tryz.prog 72 #[.int .i64 6] W fun e w' => e = .returned (.bool true) ∧ W = w' := fun W => leaf72_k 6 W
    have htk : ∀ W, Calls Tryz.prog 71 #[.int .i64 6] W fun e w' => e = .returned (.bool true) ∧ W = w' := fun W => token_k 6 W
    obtain ⟨q1, q2⟩ := b6 (by omega)
    have q3 : ¬ inn < frm := by omega
    have q4 : ¬ too < inn := by omega
    have z1 : (kids.length : Int) = 0 := by have := b9 (by omega); omega
    clear b1 b2 b6 b7 b8 b9
    go_enter Tryz.func37, Tryz.ntmps37
    go_wp2_with (first | (go_at_call 71; ((with_reducible refine (htk _).mono ?_); rintro e W1 ⟨rfl, rfl⟩)) | (go_at_call 72; ((with_reducible refine (hlf _).mono ?_); rintro e W1 ⟨rfl, rfl⟩)))
    go_ret
    exact ⟨rfl, hA⟩
end Go.Proofs.YtdjeokgkeejpcaaGreatDoor
