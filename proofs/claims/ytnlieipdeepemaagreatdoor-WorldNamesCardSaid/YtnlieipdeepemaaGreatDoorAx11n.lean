/- AX, part 11n: ranges over maps: the entry. -/
import Derived.Test.YtnlieipdeepemaaGreatDoorAx11m
import Derived.Maps.RangeRun
namespace Go.Proofs.YtnlieipdeepemaaGreatDoor.AX
open Go
variable {P : Program} {σ : Sig} {w : World} {pr : Pr} {hp : Hp}

theorem lastN_sound : ∀ {l : List Nat} {b : Nat}, lastN l = some b → l.toArray.back? = some b
  | [], _, h => by cases h
  | [a], b, h => by simp only [lastN, Option.some.injEq] at h; subst h; rfl
  | a :: c :: l, b, h => by
    have h : lastN (c :: l) = some b := h
    have := lastN_sound h
    simp only [List.back?_toArray] at this ⊢
    simpa using this
theorem findB_sound {b : Nat} : ∀ {es : List (AV × AV)} {bs : List Nat} {ms : List MapEntry} {e : AV × AV}, findB b es bs = some e → EntsRel σ es ms → ms.map (·.born) = bs → ∃ m, ms.find? (·.born == b) = some m ∧ VRel σ e.1 m.key ∧ VRel σ e.2 m.val
  | [], bs, [], e, h, _, _ => by cases bs <;> cases h
  | e0 :: es, bs, m :: ms, e, h, ⟨h1, h2, h3⟩, hb => by
    subst hb
    simp only [List.map_cons, findB] at h
    split at h
    · rename_i hc
      cases h
      exact ⟨m, by rw [List.find?_cons_of_pos]; simpa using hc, h1, h2⟩
    · rename_i hc
      obtain ⟨m', g1, g2⟩ := findB_sound h h3 rfl
      refine ⟨m', ?_, g2⟩
      rw [List.find?_cons_of_neg]
      · exact g1
      · have := ne_of_beq hc
        simpa using this
  | [], _, _ :: _, _, _, h, _ => h.elim
  | _ :: _, _, [], _, _, h, _ => h.elim
theorem entryA_sound {it v : AV} {y : Value} (h : entryA it hp = some v) (hx : VRel σ it y) (r : R pr σ hp w) : ∃ v', (Instr.entry y).run P w = .ok v' w ∧ VRel σ v v' := by
  unfold entryA at h
  split at h
  · rename_i id
    obtain ⟨i, hi, rfl⟩ := hx.ptr_inv
    split at h
    · rename_i m since seen last hb
      split at h
      · rename_i es bs clk b hm hl
        split at h
        · rename_i e hcl hf
          cases h
          have hcl := Nat.eq_of_beq_eq_true hcl
          subst hcl
          obtain ⟨i', hi', mo, h1, h0, h2⟩ := r.blk _ _ hb
          rw [hi] at hi'
          cases hi'
          obtain ⟨j, hj, rfl⟩ := h2
          obtain ⟨j', hj', ms, g1, g2, gb⟩ := r.blk _ _ hm
          rw [hj] at hj'
          cases hj'
          obtain ⟨m', q1, q2, q3⟩ := findB_sound hf g2 gb
          refine ⟨.tuple #[m'.key, m'.val], ?_, .tup (.cons q2 (.cons q3 .nil))⟩
          have e0 : (⟨i.blk, i.base + 0, none⟩ : Addr) = ⟨i.blk, 0, none⟩ := by rw [h0]
          rw [e0]
          have hfind : ms.find? (·.born == b) = some m' := by rw [← Array.find?_toList]; exact q1
          simp only [Instr.entry, getObj, Sem.run_bind, Sem.run, h1, Result.andThen, lastN_sound hl, g1, bne_self_eq_false, Bool.false_eq_true, if_false, hfind]
          rfl
        · cases h
      · cases h
    · cases h
  · cases h
end Go.Proofs.YtnlieipdeepemaaGreatDoor.AX
