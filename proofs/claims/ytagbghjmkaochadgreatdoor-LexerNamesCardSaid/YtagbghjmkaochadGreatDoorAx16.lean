/- AX, part 16: append, copy: all of them; calls' callee. -/
import Derived.Test.YtagbghjmkaochadGreatDoorAx15
namespace Go.Proofs.YtagbghjmkaochadGreatDoor.AX
open Go
variable {P : Program} {σ : Sig} {w : World} {pr : Pr} {hp : Hp}

theorem appendA_sound {C : Ctx} {ts : Array TypeId} {ty : TypeId} {args : Array Value} {s x v : AV} {sv xv : Value} {nx nx' : Nat} {hp' : Hp}
    (h : appendA C ts s x hp nx = .done v hp' nx') (a0 : args[0]? = some sv) (a1 : args[1]? = some xv) (hs : VRel σ s sv) (hx : VRel σ x xv)
    (r : R pr σ hp w) (hf : Fresh σ nx nx') : AppOk C.P pr σ nx (Builtin.append_ ts ty args) w v hp' nx' := by
  unfold appendA at h
  split at h
  · rename_i t t' h0 h1
    split at h
    · cases h
    · rename_i e d hd hu hu'
      split at h
      · rename_i i n hi hn
        split at h
        · rename_i new hnew
          split at h
          · rename_i k hl hz hsz
            have hl := Nat.eq_of_beq_eq_true hl
            have hl : new.length = n * i.size := hl
            obtain ⟨ns, g1, g2⟩ := elemsA_any (P := C.P) hnew hn (Nat.le_refl _) hx r
            have K : AppCx C.P ts args i e n xv := ⟨t, t', d, h0, h1, hu, hu', fun k hk => hd k hk, hi, a1, hz⟩
            cases n with
            | zero =>
              simp only at h
              -- nothing is appended
              have hne : ns.toList = [] := by
                have := g1.length
                rw [hl, Nat.zero_mul] at this
                exact List.length_eq_zero_iff.1 this.symm
              have key : ∀ (base : Option Addr) (len cap : Nat), sv = .slice base len cap → len ≤ cap → (Builtin.append_ ts ty args).run C.P w = .ok (.slice base len cap) w := by
                intro base len cap hsv hle
                subst hsv
                rw [run_append (P := C.P) (w := w) (ty := ty) K.h0 K.h1 K.hu K.hu' K.hd K.hi a0 K.a1 (g2 w rfl).2, if_pos (by omega)]
                simp only [Sem.run_bind, (g2 w rfl).1, Result.andThen_ok, hne]
                cases base <;> simp [storeCells]
              split at h
              · cases h
                obtain rfl := hs.nils_inv
                exact ⟨_, w, σ, key _ _ _ rfl (Nat.le_refl _), .nils, Ext.refl _ _, r⟩
              · cases h
                obtain ⟨j, o, hj, hle, ho, rfl⟩ := hs.slice_inv
                exact ⟨_, w, σ, key _ _ _ rfl hle, .slice hj hle ho, Ext.refl _ _, r⟩
              · cases h
                obtain ⟨j, o, c, hj, hle, hr, ho, rfl⟩ := hs.opn_inv
                exact ⟨_, w, σ, key _ _ _ rfl hle, .opn hj hle hr ho, Ext.refl _ _, r⟩
              · cases h
            | succ n' =>
              simp only at h
              split at h
              · obtain rfl := hs.nils_inv
                exact growA_sound (len := 0) (os := #[]) K a0 (by rw [Nat.zero_add]; exact h) (by omega) r hf .nil g1 (by simp [hl]) (g2 w rfl).2 (fun _ _ => rfl) (fun w' hw => (g2 w' hw).1)
              · exact sliceAppA_sound K a0 hs h r hf g1 hl g2 (by omega)
              · rename_i id off len z
                split at h
                · rename_i hzs
                  have hzs := Nat.eq_of_beq_eq_true hzs
                  subst hzs
                  unfold opnA at h
                  split at h
                  · rename_i c m cl hb
                    split at h
                    · rename_i hm hrm hat
                      have hm := Nat.le_of_ble_eq_true hm
                      split at h
                      · cases h
                        refine opn_append (fun h => ⟨h, rfl⟩) K a0 hs hb hm hrm hat r (hf nx (Nat.le_refl _) (Nat.lt_succ_self _)) g1 hl g2 (by omega) fun j v hj hv => ?_
                        rw [writeL_get] at hv
                        have hadd : (len + (n' + 1)) * i.size = len * i.size + (n' + 1) * i.size := Nat.add_mul _ _ _
                        split at hv
                        · rename_i hin
                          exact .inr ⟨hin.1, hv⟩
                        · rename_i hin
                          refine .inl ⟨?_, by simpa using hv⟩
                          have hin : ¬ (len * i.size ≤ j ∧ j < len * i.size + new.length) := hin
                          omega
                      · split at h
                        · rename_i old hold
                          cases h
                          refine opn_append (fun h => by cases h) K a0 hs hb hm hrm hat r (hf nx (Nat.le_refl _) (Nat.lt_succ_self _)) g1 hl g2 (by omega) fun j v hj hv => ?_
                          rw [ofL_get] at hv
                          have hol : old.length = len * i.size := readN_len hold
                          by_cases hjo : j < len * i.size
                          · rw [List.getElem?_append_left (by omega)] at hv
                            exact .inl ⟨hjo, readN_get hold hv⟩
                          · rw [List.getElem?_append_right (by omega), hol] at hv
                            exact .inr ⟨by omega, hv⟩
                        · cases h
                    · cases h
                  · cases h
                · cases h
              · cases h
          · cases h
        · cases h
      · cases h
    · cases h
  · cases h
end Go.Proofs.YtagbghjmkaochadGreatDoor.AX
