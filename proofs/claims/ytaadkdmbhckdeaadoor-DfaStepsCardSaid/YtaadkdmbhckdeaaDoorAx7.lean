/- AX, part 7: every operation of class 0 does what the model's does. -/
import Derived.Test.YtaadkdmbhckdeaaDoorAx6
namespace Go.Proofs.YtaadkdmbhckdeaaDoor.AX
open Go
variable {P : Program} {σ : Sig} {w : World}

theorem eqGuard_int {op : BinOp} {t : TypeId} {ox oy : Operand} {k k' : IntKind} {m n : Int} : (eqGuard op t ox oy (.int k m) (.int k' n)).run P w = .ok () w := by
  cases op <;> rfl
theorem eqGuard_str {op : BinOp} {t : TypeId} {ox oy : Operand} {m n : ByteArray} : (eqGuard op t ox oy (.string m) (.string n)).run P w = .ok () w := by
  cases op <;> rfl
theorem guard_sound {op : BinOp} (hop : op = .eql ∨ op = .neq) {t : TypeId} {ox oy : Operand} {a b : AV} {x y : Value} (h : guardOk P t ox oy a b = true) (hx : VRel σ a x) (hy : VRel σ b y) :
    (eqGuard op t ox oy x y).run P w = .ok () w := by
  unfold guardOk at h
  split at h
  · cases hx
    split at h
    · cases hy
      split at h
      · rcases hop with rfl | rfl <;> rfl
      · split at h
        · rcases hop with rfl | rfl <;> simp [eqGuard]
        · cases h
    · cases h
    · cases h
    · rename_i h1 h2 h3
      cases hy <;> first | (exact absurd rfl h1) | (exact absurd rfl h2) | (exact absurd rfl h3) | (rcases hop with rfl | rfl <;> rfl)
  · cases hx
    split at h
    · cases hy
      have h : P.eqGuardType P.depth t = false := by simpa using h
      rcases hop with rfl | rfl <;> simp [eqGuard, h]
    · cases h
    · cases h
    · rename_i h1 h2 h3
      cases hy <;> first | (exact absurd rfl (h1 _)) | (exact absurd rfl h2) | (exact absurd rfl h3) | (rcases hop with rfl | rfl <;> rfl)
  · cases h
  · cases h
  · rename_i h1 h2 h3 h4
    cases hx <;> first | (exact absurd rfl h1) | (exact absurd rfl (h2 _)) | (exact absurd rfl h3) | (exact absurd rfl h4) | skip
    all_goals (cases y <;> (rcases hop with rfl | rfl <;> rfl))

theorem binOp_equal {t : TypeId} {x y : Value} {r : Bool} (h : (Op.equalIn 10000 t x y).run P w = .ok r w)
    (hn : ∀ k m k' n, ¬ (x = .int k m ∧ y = .int k' n)) (hs : ∀ m n, ¬ (x = .string m ∧ y = .string n))
    (hf : ∀ k m k' n, ¬ (x = .float k m ∧ y = .float k' n)) (hc : ∀ k m m' k' n n', ¬ (x = .complex k m m' ∧ y = .complex k' n n')) (neg : Bool) :
    (binOp (if neg then .neq else .eql) t x y).run P w = .ok (.bool (r != neg)) w := by
  have e : (Op.equal t x y).run P w = .ok r w := h
  cases neg
  · simp only [Bool.false_eq_true, if_false, binOp]
    split <;> first | (exact absurd ⟨rfl, rfl⟩ (hn _ _ _ _)) | (exact absurd ⟨rfl, rfl⟩ (hs _ _)) | (exact absurd ⟨rfl, rfl⟩ (hf _ _ _ _)) | (exact absurd ⟨rfl, rfl⟩ (hc _ _ _ _ _ _)) | skip
    all_goals simp_all
  · simp only [if_true, binOp]
    split <;> first | (exact absurd ⟨rfl, rfl⟩ (hn _ _ _ _)) | (exact absurd ⟨rfl, rfl⟩ (hs _ _)) | (exact absurd ⟨rfl, rfl⟩ (hf _ _ _ _)) | (exact absurd ⟨rfl, rfl⟩ (hc _ _ _ _ _ _)) | skip
    all_goals simp_all

theorem eqOp_sound {neg : Bool} {t : TypeId} {ox oy : Operand} {a b v : AV} {x y : Value} (h : eqOp P neg t ox oy a b = some v) (hx : VRel σ a x) (hy : VRel σ b y)
    (ha : ∀ k n, a ≠ .int k n) (hs : ∀ s, a ≠ .str s) :
    ∃ v', (do eqGuard (if neg then .neq else .eql) t ox oy x y; binOp (if neg then .neq else .eql) t x y : Sem Value).run P w = .ok v' w ∧ VRel σ v v' := by
  unfold eqOp at h
  split at h
  · rename_i hg
    split at h
    · rename_i r he
      cases h
      refine ⟨.bool (r != neg), ?_, .bool _⟩
      have hg' := guard_sound (P := P) (w := w) (op := if neg then .neq else .eql) (by cases neg <;> simp) hg hx hy
      rw [Sem.run_bind, hg', Result.andThen_ok]
      have hb1 : a ≠ .bad := by rintro rfl; simp [guardOk] at hg
      have hb2 : a ≠ .one := by rintro rfl; simp [guardOk] at hg
      refine binOp_equal (eqA_sound 10000 he hx hy) ?_ ?_ ?_ ?_ neg
      · rintro k m k' n ⟨rfl, rfl⟩; cases hx <;> first | exact absurd rfl (ha _ _) | exact absurd rfl hb1 | exact absurd rfl hb2
      · rintro m n ⟨rfl, rfl⟩; cases hx <;> first | exact absurd rfl (hs _) | exact absurd rfl hb1 | exact absurd rfl hb2
      · rintro k m k' n ⟨rfl, rfl⟩; cases hx <;> first | exact absurd rfl hb1 | exact absurd rfl hb2
      · rintro k m m' k' n n' ⟨rfl, rfl⟩; cases hx <;> first | exact absurd rfl hb1 | exact absurd rfl hb2
    · cases h
  · cases h
theorem binA_sound {op : BinOp} {t : TypeId} {ox oy : Operand} {a b v : AV} {x y : Value} (h : binA P op t ox oy a b = some v) (hx : VRel σ a x) (hy : VRel σ b y) :
    ∃ v', (do eqGuard op t ox oy x y; binOp op t x y : Sem Value).run P w = .ok v' w ∧ VRel σ v v' := by
  unfold binA at h
  split at h
  · split at h
    · cases hx; cases hy
      obtain ⟨v', h1, h2⟩ := intOp_sound (P := P) (σ := σ) (w := w) (t := t) h
      exact ⟨v', by rw [Sem.run_bind, eqGuard_int, Result.andThen_ok, h1], h2⟩
    · cases h
  · split at h
    · cases hx; cases hy
      rename_i s1 h1 s2 h2
      subst h1 h2
      obtain ⟨v', h1, h2⟩ := strOp_sound (P := P) (σ := σ) (w := w) (t := t) h
      exact ⟨v', by rw [Sem.run_bind, eqGuard_str, Result.andThen_ok, h1], h2⟩
    · cases h
  · rename_i h1 h2
    split at h
    · exact eqOp_sound (neg := false) h hx hy (fun k n e => h1 k n e) (fun s e => h2 s e)
    · exact eqOp_sound (neg := true) h hx hy (fun k n e => h1 k n e) (fun s e => h2 s e)
    · cases h

theorem lim_max (k : IntKind) : Int.ofNat (lim k) = k.max := by
  cases k <;> simp [lim, IntKind.max, IntKind.signed, IntKind.bits]
theorem unA_sound {op : UnOp} {a v : AV} {x : Value} (h : unA op a = some v) (hx : VRel σ a x) :
    ∃ v', (Op.unary op x).run P w = .ok v' w ∧ VRel σ v v' := by
  unfold unA at h
  split at h
  · cases hx
    rename_i k n
    split at h
    · cases h
      exact ⟨.int k (k.wrap (0 - n)), rfl, by rw [wrapA_eq, subA_eq]; exact .int _ _⟩
    · split at h
      · rename_i hs
        simp only [bitsA, Option.map_some, Option.some.injEq] at h
        subst h
        exact ⟨_, by simp [Op.unary, Op.intBits, hs], .int _ _⟩
      · rename_i hs
        rw [bitsF_eq, lim_max] at h
        simp only [bitsA, Option.map_some, Option.some.injEq] at h
        subst h
        exact ⟨_, by simp [Op.unary, Op.intBits, hs], .int _ _⟩
    · cases h
  · cases hx
    split at h
    · cases h; exact ⟨_, rfl, .bool _⟩
    · cases h
  · cases h
theorem convA_sound {src dst : TypeId} {a v : AV} {x : Value} (h : convA P src dst a = some v) (hx : VRel σ a x) :
    ∃ v', (convert src dst x).run P w = .ok v' w ∧ VRel σ v v' := by
  unfold convA at h
  split at h
  · rename_i n
    obtain rfl := hx.int_inv
    split at h
    · rename_i k hs hd
      cases h
      refine ⟨.int k (k.wrap n), ?_, by rw [wrapA_eq]; exact .int _ _⟩
      simp only [convert, Sem.run_bind, run_underlying_some hs, run_underlying_some hd, Result.andThen_ok]
      rfl
    · cases h
  · obtain ⟨s, rfl, hl⟩ := hx.str_inv
    split at h
    · rename_i hs hd
      cases h
      refine ⟨.string s, ?_, .str _ hl⟩
      simp only [convert, Sem.run_bind, run_underlying_some hs, run_underlying_some hd, Result.andThen_ok]
      rfl
    · cases h
  · cases h
theorem addr_add (b o n : Nat) : (Addr.mk b o none).add n = ⟨b, o + n, none⟩ := by
  unfold Addr.add; split
  · rename_i h; subst h; rfl
  · rfl
theorem fieldAddrA_sound {s : TypeId} {n : Nat} {a v : AV} {x : Value} (h : fieldAddrA P s a n = some v) (hx : VRel σ a x) :
    ∃ v', (Instr.fieldAt s x n).run P w = .ok v' w ∧ VRel σ v v' := by
  unfold fieldAddrA at h
  split at h
  · rename_i fs hu
    split at h
    · rename_i f hf
      split at h
      · rename_i z hz
        split at h
        · cases h; cases hx
          rename_i i hi
          refine ⟨.pointer (some ⟨i.blk, i.base + (_ + f.offset), none⟩), ?_, .ptr hi⟩
          simp only [Instr.fieldAt, Sem.run_bind, run_underlying_some hu, Result.andThen_ok, hf, Instr.sureAddr, Sem.run_pure, fieldPlace, run_sizeOf hz]
          simp [addr_add, Nat.add_assoc]
        · cases h
      · cases h
    · cases h
  · cases h
theorem fieldA_sound {t : TypeId} {n : Nat} {a v : AV} {x : Value} (h : fieldA P t a n = some v) (hx : VRel σ a x) :
    ∃ v', (Instr.field t x n).run P w = .ok v' w ∧ VRel σ v v' := by
  unfold fieldA at h
  split at h
  · rename_i fs hu
    split at h
    · rename_i f hf
      split at h
      · cases hx
        rename_i vs hvs
        obtain ⟨v', h1, h2⟩ := part_sound (w := w) h hvs
        refine ⟨v', ?_, h2⟩
        simp only [Instr.field, Sem.run_bind, run_underlying_some hu, Result.andThen_ok, hf, asAgg, Sem.run_pure, h1]
      · cases h
    · cases h
  · cases h
theorem inB_spec {i : Int} {len : Nat} (h : inB i len = true) : 0 ≤ i ∧ i < len ∧ natOf i = i.toNat := by
  unfold inB at h
  split at h
  · rename_i m; have h := Nat.le_of_ble_eq_true h; exact ⟨Int.natCast_nonneg _, by simp; omega, rfl⟩
  · cases h
theorem indexAddrA_sound {t : TypeId} {a ai v : AV} {x ix : Value} (h : indexAddrA P t a ai = some v) (hx : VRel σ a x) (hi : VRel σ ai ix) :
    ∃ v', (Instr.indexAt t x ix).run P w = .ok v' w ∧ VRel σ v v' := by
  unfold indexAddrA at h
  split at h
  · cases hi
    rename_i k i
    split at h
    · rename_i e hu
      split at h
      · rename_i n hn
        split at h
        · split at h
          · rename_i hb
            obtain ⟨h0, h1, h2⟩ := inB_spec hb
            cases h
            obtain ⟨j, o, hj, hl, ho, rfl⟩ := hx.slice_inv
            have ho := ho.resolve_right (by omega)
            subst ho
            refine ⟨.pointer (some ⟨j.blk, j.base + (_ + i.toNat * n), none⟩), ?_, by rw [h2]; exact .ptr hj⟩
            simp [Instr.indexAt, run_underlying_some hu, asIntOf, h0, h1, run_sizeOf hn, addr_add, Nat.add_assoc]
          · cases h
        · split at h
          · rename_i hb
            obtain ⟨h0, h1, h2⟩ := inB_spec hb
            cases h
            obtain ⟨j, o, c, hj, hl, hr, ho, rfl⟩ := hx.opn_inv
            have ho := ho.resolve_right (by omega)
            subst ho
            refine ⟨.pointer (some ⟨j.blk, j.base + (_ + i.toNat * n), none⟩), ?_, by rw [h2]; exact .ptr hj⟩
            simp [Instr.indexAt, run_underlying_some hu, asIntOf, h0, h1, run_sizeOf hn, addr_add, Nat.add_assoc]
          · cases h
        · split at h
          · rename_i hb
            obtain ⟨h0, h1, h2⟩ := inB_spec hb
            cases h
            obtain ⟨hl, rfl⟩ := hx.gsl_inv
            refine ⟨.pointer (some ⟨_, _ + i.toNat * n, none⟩), ?_, by rw [h2]; exact .gptr _ _⟩
            simp [Instr.indexAt, run_underlying_some hu, asIntOf, h0, h1, run_sizeOf hn, addr_add]
          · cases h
        · cases h
      · cases h
    · rename_i len e hu
      split at h
      · rename_i n hn
        split at h
        · rename_i hb
          obtain ⟨h0, h1, h2⟩ := inB_spec hb
          split at h
          · cases h; cases hx
            rename_i off j hj
            refine ⟨.pointer (some ⟨j.blk, j.base + (_ + i.toNat * n), none⟩), ?_, by rw [h2]; exact .ptr hj⟩
            simp [Instr.indexAt, run_underlying_some hu, asIntOf, h0, h1, run_sizeOf hn, addr_add, Nat.add_assoc, Instr.sureAddr]
          · cases h; cases hx
            rename_i g off
            refine ⟨.pointer (some ⟨g, off + i.toNat * n, none⟩), ?_, by rw [h2]; exact .gptr _ _⟩
            simp [Instr.indexAt, run_underlying_some hu, asIntOf, h0, h1, run_sizeOf hn, addr_add, Instr.sureAddr]
          · cases h
        · cases h
      · cases h
    · cases h
  · cases h
theorem indexA_sound {t : TypeId} {a ai v : AV} {x ix : Value} (h : indexA P t a ai = some v) (hx : VRel σ a x) (hi : VRel σ ai ix) :
    ∃ v', (Instr.index t x ix).run P w = .ok v' w ∧ VRel σ v v' := by
  unfold indexA at h
  split at h
  · cases hi
    rename_i k i
    split at h
    · rename_i len e hu
      split at h
      · rename_i n hn
        split at h
        · rename_i hb
          obtain ⟨h0, h1, h2⟩ := inB_spec hb
          split at h
          · cases hx
            rename_i vs hvs
            rw [h2] at h
            obtain ⟨v', h3, h4⟩ := part_sound (w := w) h hvs
            refine ⟨v', ?_, h4⟩
            have h3' : (part e vs (i.toNat * n)).run P w = .ok v' w := h3
            simp [Instr.index, run_underlying_some hu, asIntOf, h0, h1, run_sizeOf hn, h3']
          · cases h
        · cases h
      · cases h
    · rename_i hu
      split at h
      · cases hx
        rename_i s hs
        split at h
        · rename_i m
          split at h
          · rename_i b hb
            cases h
            subst hs
            have hm : s.data.toList[m]?.map UInt8.toNat = some b := by rw [← hb]; simp [bytesOf]
            cases hq : s.data.toList[m]? with
            | none => rw [hq] at hm; cases hm
            | some u =>
              rw [hq] at hm
              simp only [Option.map_some, Option.some.injEq] at hm
              refine ⟨.int .u8 (u.toNat : Int), ?_, by rw [← hm]; exact .int _ _⟩
              have hlt : m < s.size := by
                have := (List.getElem?_eq_some_iff.1 hq).1
                simpa using this
              have hgu : s[m]? = some u := by
                rw [getElem?_pos s m hlt]
                have := (List.getElem?_eq_some_iff.1 hq).2
                congr 1
              have h0 : (0 : Int) ≤ Int.ofNat m := Int.natCast_nonneg _
              have ht : (Int.ofNat m).toNat = m := rfl
              simp only [Instr.index, Sem.run_bind, run_underlying_some hu, asIntOf, Sem.run_pure, Result.andThen_ok, h0, if_true, ht, hgu]
          · cases h
        · cases h
      · cases h
    · cases h
  · cases h
end Go.Proofs.YtaadkdmbhckdeaaDoor.AX
