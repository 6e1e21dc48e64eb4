/- AX, part 12: operations of class 1. -/
import Derived.Test.YtnlieipdeepemaaGreatDoorAx11n
namespace Go.Proofs.YtnlieipdeepemaaGreatDoor.AX
open Go
variable {P : Program} {σ : Sig} {w : World} {pr : Pr} {hp : Hp}

theorem byteOf_sound {v : AV} {n : Nat} {x : Value} (h : AX.byteOf v = some n) (hx : VRel σ v x) : x = .int .u8 (n : Int) ∧ n < 256 := by
  unfold AX.byteOf at h
  split at h
  · split at h
    · rename_i hb
      have hb := Nat.le_of_ble_eq_true hb
      cases h
      exact ⟨hx.int_inv, by omega⟩
    · cases h
  · cases h
theorem bytes_loop : ∀ {l : List AV} {bs : List Nat} {xs : List Value} {s : ByteArray}, bytesA l = some bs → VRels σ l xs →
    ∃ s' : ByteArray, (forIn xs s fun c s => match c with
      | .int .u8 n => pure (ForInStep.yield (s.push (UInt8.ofNat n.toNat)))
      | _ => (do let _ ← (stuck "bytesToString: byte expected" : Sem PUnit); pure (ForInStep.yield s)) : Sem ByteArray).run P w = .ok s' w ∧ bytesOf s' = bytesOf s ++ bs := by
  intro l
  induction l with
  | nil => intro bs xs s h hr; cases h; cases hr; exact ⟨s, rfl, by simp⟩
  | cons v l ih =>
    intro bs xs s h hr
    cases hr with
    | cons hv hr =>
    simp only [bytesA] at h
    split at h
    · rename_i b r hb hl
      cases h
      obtain ⟨rfl, hlt⟩ := byteOf_sound hb hv
      obtain ⟨s', h1, h2⟩ := ih (s := s.push (UInt8.ofNat b)) hl hr
      refine ⟨s', ?_, ?_⟩
      · rw [List.forIn_cons]
        simp only [Sem.run_bind, Sem.run_pure, Result.andThen_ok, Int.toNat_natCast]
        exact h1
      · rw [h2]
        have : (UInt8.ofNat b).toNat = b := by simp; omega
        simp [bytesOf, this]
    · cases h
theorem readA_sound {C : Ctx} {o : Oper} {ρ : Operand → AV} {ρ' : Operand → Value} {v : AV} (h : readA C o.op ρ hp = some v) (hr : ∀ x ∈ o.op.operands, VRel σ (ρ x) (ρ' x))
    (r : R pr σ hp w) (hg : GlOk C pr) : ∃ v', (execOp ρ' o).run C.P w = .ok (.value v') w ∧ VRel σ v v' := by
  unfold readA at h
  split at h
  · rename_i t x ho
    rw [ho] at hr
    obtain ⟨b, off, v', h1, h2, h3⟩ := loadA_sound h (hr x (by simp [Op.operands])) r hg
    exact ⟨v', by simp [execOp, ho, Instr.loadAt, h1, Instr.sureAddr, h2], h3⟩
  · rename_i src dst x ho
    rw [ho] at hr
    have hx := hr x (by simp [Op.operands])
    split at h
    · rename_i e hs hd
      split at h
      · rename_i he
        split at h
        · rename_i n hn
          split at h
          · rename_i l hl
            split at h
            · rename_i bs hbs
              cases h
              have hn' : lenOfA (ρ x) = some n := by revert hn; cases ρ x <;> simp [sliceLen, lenOfA]
              obtain ⟨xs, h1, h2, h3⟩ := elemsA_sound (P := C.P) hl hn' (Nat.le_refl _) hx r
              have key : ∃ s : ByteArray, (Conv.bytesToString (ρ' x)).run C.P w = .ok (.string s) w ∧ bytesOf s = bs ∧ ∃ a m c, ρ' x = .slice a m c := by
                generalize hX : ρ' x = X at *
                generalize hA : ρ x = A at *
                clear hn'
                cases A <;> simp only [elemsA, reduceCtorEq] at hl <;> simp only [sliceLen, reduceCtorEq] at hn
                case nils =>
                  obtain rfl := hx.nils_inv
                  cases hl
                  cases hbs
                  exact ⟨.empty, rfl, rfl, _, _, _, rfl⟩
                case slice id off len cap =>
                  obtain ⟨i, o', hi, hle, hof, rfl⟩ := hx.slice_inv
                  cases hn
                  simp only [Builtin.firstCells, Nat.mul_one] at h1
                  obtain ⟨s', g1, g2⟩ := bytes_loop (P := C.P) (w := w) (s := .empty) hbs h2
                  refine ⟨s', ?_, by rw [g2]; rfl, _, _, _, rfl⟩
                  simp only [Conv.bytesToString, Sem.run_bind, h1, Result.andThen_ok]
                  rw [← Array.forIn_toList]
                  erw [g1]
                  rfl
                case opn id off len sz =>
                  obtain ⟨i, o', c, hi, hle, hrm, hof, rfl⟩ := hx.opn_inv
                  cases hn
                  simp only [Builtin.firstCells, Nat.mul_one] at h1
                  obtain ⟨s', g1, g2⟩ := bytes_loop (P := C.P) (w := w) (s := .empty) hbs h2
                  refine ⟨s', ?_, by rw [g2]; rfl, _, _, _, rfl⟩
                  simp only [Conv.bytesToString, Sem.run_bind, h1, Result.andThen_ok]
                  rw [← Array.forIn_toList]
                  erw [g1]
                  rfl
              obtain ⟨s, g1, g2, a, m, c, hX⟩ := key
              refine ⟨.string s, ?_, .str s g2⟩
              rw [hX] at g1
              simp only [execOp, ho, Sem.run_bind, Go.convert, run_underlying_some hs, run_underlying_some hd, Result.andThen_ok, hX]
              cases a <;> simp only [run_underlying_some he, Result.andThen_ok, g1, Sem.run_pure]
            · cases h
          · cases h
        · cases h
      · cases h
    · cases h
  · rename_i t x k ok ho
    rw [ho] at hr
    obtain ⟨v', h1, h2⟩ := lookupA_sound (P := C.P) h (hr x (by simp [Op.operands])) (hr k (by simp [Op.operands])) r
    exact ⟨v', by simp [execOp, ho, h1], h2⟩
  · rename_i it ho
    rw [ho] at hr
    obtain ⟨v', h1, h2⟩ := entryA_sound (P := C.P) h (hr it (by simp [Op.operands])) r
    exact ⟨v', by simp [execOp, ho, h1], h2⟩
  · rename_i c ho
    rw [ho] at hr
    split at h
    · rename_i hcal
      split at h
      · rename_i t x ht hx
        have hrx := hr x (by simp [Op.operands, Call.operands, hcal, Array.mem_of_getElem? hx])
        split at h
        · rename_i kt e es hu he
          cases h
          have hxs : (c.args.map ρ')[0]? = some (ρ' x) := by simp [hx]
          rcases entsA_sound he hrx r with ⟨hy, rfl⟩ | ⟨b, ms, clock, hy, h1, h2⟩
          · refine ⟨.int .i64 0, ?_, .int _ _⟩
            simp [execOp, ho, resolve, hcal, invoke, builtin, Builtin.len_, ht, hx, hy, run_underlying_some hu, goInt]
          · have hlen : es.length = ms.size := by
              have : ∀ {es : List (AV × AV)} {l : List MapEntry}, EntsRel σ es l → es.length = l.length := by
                intro es
                induction es with
                | nil => intro l h; cases l with
                  | nil => rfl
                  | cons => exact h.elim
                | cons e es ih => intro l h; cases l with
                  | nil => exact h.elim
                  | cons m l => simp [ih h.2.2]
              simpa using this h2
            refine ⟨.int .i64 (Int.ofNat es.length), ?_, .int _ _⟩
            rw [hlen]
            simp [execOp, ho, resolve, hcal, invoke, builtin, Builtin.len_, ht, hx, hy, run_underlying_some hu, MapKept.run_getObj_map h1, goInt]
        · cases h
      · cases h
    · cases h
  · cases h
end Go.Proofs.YtnlieipdeepemaaGreatDoor.AX
