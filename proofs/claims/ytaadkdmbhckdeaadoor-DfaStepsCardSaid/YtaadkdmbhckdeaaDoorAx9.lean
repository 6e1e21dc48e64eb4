/- AX, part 9: building; every operation of class 0. -/
import Derived.Test.YtaadkdmbhckdeaaDoorAx8
namespace Go.Proofs.YtaadkdmbhckdeaaDoor.AX
open Go
variable {P : Program} {σ : Sig} {w : World}

theorem cellsA_rel {v : AV} {x : Value} {l : List AV} (h : cellsA v = some l) (hx : VRel σ v x) : VRels σ l x.cells.toList := by
  unfold cellsA at h
  split at h
  · cases h; obtain ⟨vs, rfl, hv⟩ := hx.agg_inv; exact hv
  · cases h
  · cases h
  · rename_i h1 h2 h3
    cases h
    have hc : x.cells = #[x] := by
      cases hx <;> first | rfl | (exact absurd rfl (h1 _)) | (exact absurd rfl h2) | (exact absurd rfl (h3 _)) | assumption
    rw [hc]
    exact .cons hx .nil
theorem zeroA_sound {t : TypeId} {v : AV} (h : zeroA P t = some v) : ∃ x, (zeroValue t).run P w = .ok x w ∧ VRel σ v x := by
  unfold zeroA at h
  split at h
  · rename_i i hi
    split at h
    · rename_i z hz
      cases h
      exact ⟨z, by simp [zeroValue, run_typeInfo hi, hz], ofVal_rel z⟩
    · cases h
  · cases h

theorem lay_fold : ∀ (new : List Value) (k off : Nat) (cells : Array Value), off + k + new.length ≤ cells.size →
    ((new.zipIdx k).foldl (fun cs (p : Value × Nat) => cs.setIfInBounds (off + p.2) p.1) cells).toList = cells.toList.take (off + k) ++ new ++ cells.toList.drop (off + k + new.length) := by
  intro new
  induction new with
  | nil => intro k off cells _; simp
  | cons v new ih =>
    intro k off cells hle
    simp only [List.length_cons] at hle
    simp only [List.zipIdx_cons, List.foldl_cons]
    rw [ih (k + 1) off _ (by simp; omega)]
    have hlt : off + k < cells.toList.length := by simp; omega
    simp only [Array.toList_setIfInBounds]
    have e1 : List.take (off + (k + 1)) (cells.toList.set (off + k) v) = cells.toList.take (off + k) ++ [v] := by
      rw [show off + (k + 1) = (off + k) + 1 from by omega, List.take_succ_eq_append_getElem (by simpa using hlt)]
      simp [List.take_set_of_le]
    have e2 : List.drop (off + (k + 1) + new.length) (cells.toList.set (off + k) v) = cells.toList.drop (off + k + (v :: new).length) := by
      rw [List.drop_set_of_lt (by omega)]
      congr 1
      simp; omega
    rw [e1, e2]
    simp
theorem fill_sound {pl : Nat → Option (Nat × Nat)} : ∀ {ps : List (Nat × AV)} {qs : List (Nat × Value)} {cs r : List AV} {zs : Array Value},
    fillA pl cs ps = some r → VRels σ cs zs.toList → ps.map (·.1) = qs.map (·.1) → VRels σ (ps.map (·.2)) (qs.map (·.2)) →
    ∃ rs, Instr.fill pl zs qs = some rs ∧ VRels σ r rs.toList := by
  intro ps
  induction ps with
  | nil =>
    intro qs cs r zs h hz h1 h2
    cases qs with
    | nil => simp only [fillA, Option.some.injEq] at h; subst h; exact ⟨zs, rfl, hz⟩
    | cons q qs => cases h1
  | cons p ps ih =>
    intro qs cs r zs h hz h1 h2
    cases qs with
    | nil => cases h1
    | cons q qs =>
      obtain ⟨i, v⟩ := p
      obtain ⟨j, x⟩ := q
      simp only [List.map_cons, List.cons.injEq] at h1
      obtain ⟨rfl, h1⟩ := h1
      simp only [List.map_cons] at h2
      cases h2 with
      | cons hv h2 =>
      simp only [fillA] at h
      split at h
      · rename_i off size hpl
        split at h
        · rename_i new hnew
          split at h
          · rename_i hsz hbd
            have hsz := Nat.eq_of_beq_eq_true hsz
            have hbd := Nat.le_of_ble_eq_true hbd
            have hc := cellsA_rel hnew hv
            have hlen : x.cells.size = new.length := by have := hc.length; simpa using this.symm
            have hzl : cs.length = zs.size := by have := hz.length; simpa using this
            simp only [Instr.fill, hpl]
            have c1 : ¬ (x.cells.size ≠ size ∨ off + x.cells.size > zs.size) := by omega
            have c2 : (decide (x.cells.size ≠ size) || decide (off + x.cells.size > zs.size)) = false := by
              simp only [Bool.or_eq_false_iff, decide_eq_false_iff_not]; omega
            simp only [c2, Bool.false_eq_true, if_false]
            refine ih h ?_ h1 h2
            have := lay_fold x.cells.toList 0 off zs (by simp; omega)
            simp only [Nat.add_zero] at this
            have e : new.length = x.cells.toList.length := by simpa using hlen.symm
            have h3 : VRels σ (layA cs off new) (zs.toList.take off ++ x.cells.toList ++ zs.toList.drop (off + x.cells.toList.length)) := by
              unfold layA
              rw [e]
              exact ((hz.take off).append hc).append (hz.drop _)
            rw [← this] at h3
            rw [← Array.foldl_toList, Array.toList_zipIdx]
            exact h3
          · cases h
        · cases h
      · cases h
theorem places_sound : ∀ {l : List Field} {pl : List (Nat × Nat)} {w : World}, fieldPlaces P l = some pl →
    (l.mapM (fun f => do pure (f.offset, ← sizeOf f.type) : Field → Sem (Nat × Nat))).run P w = .ok pl w := by
  intro l
  induction l with
  | nil => intro pl w h; simp only [fieldPlaces, Option.some.injEq] at h; subst h; rfl
  | cons f l ih =>
    intro pl w h
    simp only [fieldPlaces] at h
    split at h
    · rename_i n r hn hr
      cases h
      rw [List.mapM_cons]
      simp only [Sem.run_bind, run_sizeOf hn, Result.andThen_ok, Sem.run_pure, ih hr]
    · cases h
theorem buildA_sound {t : TypeId} {ps : List (Nat × AV)} {qs : Array (Nat × Value)} {v : AV} (h : buildA P t ps = some v) (h1 : ps.map (·.1) = qs.toList.map (·.1))
    (h2 : VRels σ (ps.map (·.2)) (qs.toList.map (·.2))) : ∃ v', (Instr.build t qs).run P w = .ok v' w ∧ VRel σ v v' := by
  unfold buildA at h
  split at h
  · rename_i z hz
    obtain ⟨zx, hz1, hz2⟩ := zeroA_sound (σ := σ) (w := w) hz
    obtain ⟨zs, rfl, hzs⟩ := hz2.agg_inv
    split at h
    · rename_i fs hu
      split at h
      · rename_i pl hpl
        split at h
        · rename_i cs hcs
          cases h
          obtain ⟨rs, hr1, hr2⟩ := fill_sound hcs hzs h1 h2
          refine ⟨.agg rs, ?_, .agg hr2⟩
          have hm := places_sound (P := P) (w := w) hpl
          simp only [Instr.build, Sem.run_bind, hz1, Result.andThen_ok, run_underlying_some hu, Value.cells]
          rw [Array.mapM_eq_mapM_toList, Sem.run_map, hm]
          simp [hr1]
        · cases h
      · cases h
    · rename_i n e hu
      split at h
      · rename_i k hk
        split at h
        · rename_i cs hcs
          cases h
          obtain ⟨rs, hr1, hr2⟩ := fill_sound hcs hzs h1 h2
          refine ⟨.agg rs, ?_, .agg hr2⟩
          simp only [Instr.build, Sem.run_bind, hz1, Result.andThen_ok, run_underlying_some hu, Value.cells, run_sizeOf hk, hr1, Sem.run_pure]
        · cases h
      · cases h
    · cases h
  · cases h
theorem lenA_sound {t : TypeId} {ts : Array TypeId} {ty : TypeId} {a v : AV} {x : Value} {xs : Array Value} (ht : ts[0]? = some t) (hxs : xs[0]? = some x) (h : lenA P t a = some v) (hx : VRel σ a x) :
    ∃ v', (Builtin.len_ ts ty xs).run P w = .ok v' w ∧ VRel σ v v' := by
  unfold lenA at h
  split at h
  · rename_i hu
    split at h
    · cases h
      obtain ⟨s, rfl, hs⟩ := hx.str_inv
      rename_i l
      have hl : l.length = s.size := by rw [← hs]; simp [bytesOf]
      refine ⟨.int .i64 s.size, ?_, by rw [hl]; exact .int _ _⟩
      simp only [Builtin.len_, ht, hxs, Sem.run_bind, run_underlying_some hu, Result.andThen_ok]; rfl
    · cases h
  · rename_i n e hu
    cases h
    refine ⟨.int .i64 n, ?_, .int _ _⟩
    simp only [Builtin.len_, ht, hxs, Sem.run_bind, run_underlying_some hu, Result.andThen_ok]; rfl
  · rename_i e hu
    split at h
    · cases h
      obtain rfl := hx.nils_inv
      refine ⟨.int .i64 0, ?_, .int _ _⟩
      simp only [Builtin.len_, ht, hxs, Sem.run_bind, run_underlying_some hu, Result.andThen_ok]; rfl
    · cases h
      obtain ⟨i, o, _, _, _, rfl⟩ := hx.slice_inv
      refine ⟨.int .i64 _, ?_, .int _ _⟩
      simp only [Builtin.len_, ht, hxs, Sem.run_bind, run_underlying_some hu, Result.andThen_ok]; rfl
    · cases h
      obtain ⟨i, o, c, _, _, _, _, rfl⟩ := hx.opn_inv
      refine ⟨.int .i64 _, ?_, .int _ _⟩
      simp only [Builtin.len_, ht, hxs, Sem.run_bind, run_underlying_some hu, Result.andThen_ok]; rfl
    · cases h
      obtain ⟨_, rfl⟩ := hx.gsl_inv
      refine ⟨.int .i64 _, ?_, .int _ _⟩
      simp only [Builtin.len_, ht, hxs, Sem.run_bind, run_underlying_some hu, Result.andThen_ok]; rfl
    · cases h
  · cases h
theorem extractA_sound {a v : AV} {x : Value} {i : Nat} (h : extractA a i = some v) (hx : VRel σ a x) : ∃ v', (Instr.extract x i).run P w = .ok v' w ∧ VRel σ v v' := by
  unfold extractA at h
  split at h
  · obtain ⟨vs, rfl, hvs⟩ := hx.tup_inv
    obtain ⟨y, hy, hr⟩ := hvs.get h
    have : vs[i]? = some y := by simpa using hy
    exact ⟨y, by simp [Instr.extract, this], hr⟩
  · cases h
theorem mkIfaceA_sound {t : TypeId} {a v : AV} {x : Value} (h : mkIfaceA P t a = some v) (hx : VRel σ a x) : ∃ v', (Instr.makeInterface t x).run P w = .ok v' w ∧ VRel σ v v' := by
  unfold mkIfaceA at h
  split at h
  · cases h
  · rename_i d hd hu
    cases h
    refine ⟨.iface t x, ?_, .iface t hx⟩
    simp only [Instr.makeInterface, Sem.run_bind, run_underlying_some hu, Result.andThen_ok]
    cases d <;> first | rfl | exact absurd hu (hd _)
  · cases h
theorem nilCheck_sound {o : Oper} {x : Operand} {ρ' : Operand → Value} {a v : AV} (ho : o.op = .nilCheck x) (h : nilCheckA a = some v) (hx : VRel σ a (ρ' x)) :
    ∃ v', (execOp ρ' o).run P w = .ok (.value v') w ∧ VRel σ v v' := by
  unfold nilCheckA at h
  generalize hX : ρ' x = X at hx
  split at h
  · cases h; obtain ⟨i, hi, rfl⟩ := hx.ptr_inv; exact ⟨_, by simp [execOp, ho, hX], .ptr hi⟩
  · cases h; obtain rfl := hx.gptr_inv; exact ⟨_, by simp [execOp, ho, hX], .gptr _ _⟩
  · cases h; obtain ⟨vs, ws, rfl, h1, h2⟩ := hx.fn_inv; exact ⟨_, by simp [execOp, ho, hX], .fn _ h1 h2⟩
  · cases h; obtain ⟨i, hi, rfl⟩ := hx.yld_inv; exact ⟨_, by simp [execOp, ho, hX], .yld hi⟩
  · cases h; obtain ⟨i, off, hi, hl, hof, rfl⟩ := hx.slice_inv; exact ⟨_, by simp [execOp, ho, hX], .slice hi hl hof⟩
  · cases h; obtain ⟨i, off, c, hi, hl, hr, hof, rfl⟩ := hx.opn_inv; exact ⟨_, by simp [execOp, ho, hX], .opn hi hl hr hof⟩
  · cases h; obtain ⟨y, rfl, hy⟩ := hx.iface_inv; exact ⟨_, by simp [execOp, ho, hX], .iface _ hy⟩
  · cases h; obtain ⟨i, hi, rfl⟩ := hx.map_inv; exact ⟨_, by simp [execOp, ho, hX], .map hi⟩
  · cases h
/-- A step that yields a value and leaves the world. -/
theorem val_of {o : Oper} {ρ' : Operand → Value} {s : Sem Value} {v : AV} (he : execOp ρ' o = (do pure (.value (← s)))) (h : ∃ v', s.run P w = .ok v' w ∧ VRel σ v v') :
    ∃ v', (execOp ρ' o).run P w = .ok (.value v') w ∧ VRel σ v v' := by
  obtain ⟨v', h1, h2⟩ := h
  exact ⟨v', by rw [he, Sem.run_bind, h1]; rfl, h2⟩
theorem mem_opts {lo : Option Operand} {x : Operand} (h : x ∈ lo) : x ∈ lo.toArray := by
  cases lo with
  | none => cases h
  | some y => cases h; simp
theorem maxL_sound : ∀ {l : List AV} {xs : List Value} {x v : AV} {y : Value}, maxL x l = some v → VRel σ x y → VRels σ l xs → ∃ v', (xs.foldlM Builtin.max2 y).run P w = .ok v' w ∧ VRel σ v v'
  | [], _, x, v, y, h, hx, .nil => by
    simp only [maxL, Option.some.injEq] at h
    subst h
    exact ⟨y, rfl, hx⟩
  | z :: l, _ :: xs, x, v, y, h, hx, .cons hz hl => by
    simp only [maxL] at h
    split at h
    · rename_i k a k' b
      obtain rfl := hx.int_inv
      obtain rfl := hz.int_inv
      obtain ⟨v', h1, h2⟩ := maxL_sound h (.int _ _) hl
      refine ⟨v', ?_, h2⟩
      rw [ltI_eq] at h1
      simp only [List.foldlM_cons, Builtin.max2, Sem.run_bind, Sem.run_pure, Result.andThen_ok]
      rw [← h1]
      by_cases hab : a < b
      · simp [hab]
      · simp [hab]
    · cases h
theorem minL_sound : ∀ {l : List AV} {xs : List Value} {x v : AV} {y : Value}, minL x l = some v → VRel σ x y → VRels σ l xs → ∃ v', (xs.foldlM Builtin.min2 y).run P w = .ok v' w ∧ VRel σ v v'
  | [], _, x, v, y, h, hx, .nil => by
    simp only [minL, Option.some.injEq] at h
    subst h
    exact ⟨y, rfl, hx⟩
  | z :: l, _ :: xs, x, v, y, h, hx, .cons hz hl => by
    simp only [minL] at h
    split at h
    · rename_i k a k' b
      obtain rfl := hx.int_inv
      obtain rfl := hz.int_inv
      obtain ⟨v', h1, h2⟩ := minL_sound h (.int _ _) hl
      refine ⟨v', ?_, h2⟩
      rw [ltI_eq] at h1
      simp only [List.foldlM_cons, Builtin.min2, Sem.run_bind, Sem.run_pure, Result.andThen_ok]
      rw [← h1]
      by_cases hab : b < a
      · simp [hab]
      · simp [hab]
    · cases h
theorem capA_sound {t : TypeId} {ts : Array TypeId} {ty : TypeId} {a v : AV} {x : Value} {xs : Array Value} (ht : ts[0]? = some t) (hxs : xs[0]? = some x) (h : capA P t a = some v) (hx : VRel σ a x) :
    ∃ v', (Builtin.cap_ ts ty xs).run P w = .ok v' w ∧ VRel σ v v' := by
  unfold capA at h
  split at h
  · rename_i n e hu
    cases h
    refine ⟨.int .i64 n, ?_, .int _ _⟩
    simp only [Builtin.cap_, ht, hxs, Sem.run_bind, run_underlying_some hu, Result.andThen_ok]; rfl
  · rename_i e hu
    split at h
    · cases h
      obtain rfl := hx.nils_inv
      refine ⟨.int .i64 0, ?_, .int _ _⟩
      simp only [Builtin.cap_, ht, hxs, Sem.run_bind, run_underlying_some hu, Result.andThen_ok]; rfl
    · cases h
      obtain ⟨i, o, _, _, _, rfl⟩ := hx.slice_inv
      refine ⟨.int .i64 _, ?_, .int _ _⟩
      simp only [Builtin.cap_, ht, hxs, Sem.run_bind, run_underlying_some hu, Result.andThen_ok]; rfl
    · cases h
      obtain ⟨_, rfl⟩ := hx.gsl_inv
      refine ⟨.int .i64 _, ?_, .int _ _⟩
      simp only [Builtin.cap_, ht, hxs, Sem.run_bind, run_underlying_some hu, Result.andThen_ok]; rfl
    · cases h
  · cases h
theorem typeAssertA_sound {a v : AV} {x : Value} {xt asserted : TypeId} {ok : Bool} (h : typeAssertA P a asserted ok = some v) (hx : VRel σ a x) :
    ∃ v', (Instr.typeAssert x xt asserted ok).run P w = .ok v' w ∧ VRel σ v v' := by
  unfold typeAssertA at h
  split at h
  · cases h
  · rename_i d hd hu
    have hni : ∀ m, d ≠ .interface m := hd
    split at h
    · obtain rfl : x = .nilIface := by cases hx; rfl
      split at h
      · split at h
        · rename_i z hz
          cases h
          obtain ⟨z', z1, z2⟩ := zeroA_sound (σ := σ) (w := w) hz
          refine ⟨.tuple #[z', .bool false], ?_, .tup (.cons z2 (.cons (.bool _) .nil))⟩
          cases d <;> first | (exact absurd rfl (hni _)) | skip
          all_goals simp only [Instr.typeAssert, Sem.run_bind, run_underlying_some hu, Result.andThen_ok, if_true, z1, Sem.run_pure]
        · cases h
      · cases h
    · rename_i t u
      obtain ⟨y, rfl, hy⟩ := hx.iface_inv
      split at h
      · rename_i hte
        have hte := Nat.eq_of_beq_eq_true hte
        subst hte
        split at h
        · cases h
          refine ⟨.tuple #[y, .bool true], ?_, .tup (.cons hy (.cons (.bool _) .nil))⟩
          cases d <;> first | (exact absurd rfl (hni _)) | skip
          all_goals simp only [Instr.typeAssert, Sem.run_bind, run_underlying_some hu, Result.andThen_ok, if_true, Sem.run_pure]
        · cases h
          refine ⟨y, ?_, hy⟩
          cases d <;> first | (exact absurd rfl (hni _)) | skip
          all_goals simp only [Instr.typeAssert, Sem.run_bind, run_underlying_some hu, Result.andThen_ok, if_true, Sem.run_pure, Bool.false_eq_true, if_false]
      · rename_i hte
        have hte := ne_of_beq hte
        split at h
        · split at h
          · rename_i z hz
            cases h
            obtain ⟨z', z1, z2⟩ := zeroA_sound (σ := σ) (w := w) hz
            refine ⟨.tuple #[z', .bool false], ?_, .tup (.cons z2 (.cons (.bool _) .nil))⟩
            cases d <;> first | (exact absurd rfl (hni _)) | skip
            all_goals simp only [Instr.typeAssert, Sem.run_bind, run_underlying_some hu, Result.andThen_ok, if_neg hte, if_true, z1, Sem.run_pure]
          · cases h
        · cases h
    · cases h
  · cases h
theorem pure_sound {o : Oper} {ρ : Operand → AV} {ρ' : Operand → Value} {v : AV} (h : pureA P o.op ρ = some v) (hr : ∀ x ∈ o.op.operands, VRel σ (ρ x) (ρ' x)) :
    ∃ v', (execOp ρ' o).run P w = .ok (.value v') w ∧ VRel σ v v' := by
  unfold pureA at h
  split at h
  · rename_i x ho
    rw [ho] at hr
    cases h
    exact ⟨ρ' x, by simp [execOp, ho], hr x (by simp [Op.operands])⟩
  · rename_i x ho
    rw [ho] at hr
    cases h
    exact ⟨ρ' x, by simp [execOp, ho], hr x (by simp [Op.operands])⟩
  · rename_i c a b ho
    rw [ho] at hr
    have hc := hr c (by simp [Op.operands])
    have ha := hr a (by simp [Op.operands])
    have hb := hr b (by simp [Op.operands])
    unfold pickA at h
    split at h
    · rename_i hcc
      rw [hcc] at hc
      cases h
      exact ⟨ρ' a, by simp [execOp, ho, hc.bool_inv, asBool], ha⟩
    · rename_i hcc
      rw [hcc] at hc
      cases h
      exact ⟨ρ' b, by simp [execOp, ho, hc.bool_inv, asBool], hb⟩
    · cases h
  · rename_i op t x y yt ho
    rw [ho] at hr
    obtain ⟨v', h1, h2⟩ := binA_sound (P := P) (w := w) h (hr x (by simp [Op.operands])) (hr y (by simp [Op.operands]))
    exact val_of (s := do eqGuard op t x y (ρ' x) (ρ' y); binOp op t (ρ' x) (ρ' y)) (by simp [execOp, ho]) ⟨v', h1, h2⟩
  · rename_i op t x ho
    rw [ho] at hr
    exact val_of (by simp [execOp, ho]) (unA_sound h (hr x (by simp [Op.operands])))
  · rename_i src dst x ho
    rw [ho] at hr
    exact val_of (by simp [execOp, ho]) (convA_sound h (hr x (by simp [Op.operands])))
  · rename_i x ho
    rw [ho] at hr
    exact nilCheck_sound ho h (hr x (by simp [Op.operands]))
  · rename_i s x f ho
    rw [ho] at hr
    exact val_of (by simp [execOp, ho]) (fieldAddrA_sound h (hr x (by simp [Op.operands])))
  · rename_i t x f ho
    rw [ho] at hr
    exact val_of (by simp [execOp, ho]) (fieldA_sound h (hr x (by simp [Op.operands])))
  · rename_i t x i ho
    rw [ho] at hr
    exact val_of (by simp [execOp, ho]) (indexAddrA_sound h (hr x (by simp [Op.operands])) (hr i (by simp [Op.operands])))
  · rename_i t x i ho
    rw [ho] at hr
    exact val_of (by simp [execOp, ho]) (indexA_sound h (hr x (by simp [Op.operands])) (hr i (by simp [Op.operands])))
  · rename_i t x lo hi mx ho
    rw [ho] at hr
    exact val_of (by simp [execOp, ho]) (sliceA_sound h (hr x (by simp [Op.operands]))
      (OptRel.map fun y hy => hr y (by simp [Op.operands]; right; left; simpa using hy))
      (OptRel.map fun y hy => hr y (by simp [Op.operands]; right; right; left; simpa using hy))
      (OptRel.map fun y hy => hr y (by simp [Op.operands]; right; right; right; simpa using hy)))
  · rename_i x i ho
    rw [ho] at hr
    exact val_of (by simp [execOp, ho]) (extractA_sound h (hr x (by simp [Op.operands])))
  · rename_i t ps ho
    rw [ho] at hr
    refine val_of (s := Instr.build t (ps.map fun (i, x) => (i, ρ' x))) (by simp [execOp, ho]) (buildA_sound h ?_ ?_)
    · simp [Function.comp_def]
    · have : ∀ p ∈ ps.toList, VRel σ (ρ p.2) (ρ' p.2) := fun p hp => hr p.2 (by
        simp [Op.operands]; exact ⟨p.1, by simpa using hp⟩)
      have h3 := VRels.map (σ := σ) (f := fun p : Nat × Operand => ρ p.2) (g := fun p => ρ' p.2) this
      simpa [Function.comp_def] using h3
  · rename_i t x ho
    rw [ho] at hr
    exact val_of (by simp [execOp, ho]) (mkIfaceA_sound h (hr x (by simp [Op.operands])))
  · rename_i fn first captured ho
    rw [ho] at hr
    split at h
    · cases h
    · cases h
      refine ⟨.func fn (first.map ρ') (captured.map ρ'), by simp [execOp, ho, Instr.makeFunc], .fn _ ?_ ?_⟩
      · have := VRels.map (σ := σ) (f := ρ) (g := ρ') (l := first.toList) fun x hx => hr x (by simp [Op.operands]; left; simpa using hx)
        simpa using this
      · have := VRels.map (σ := σ) (f := ρ) (g := ρ') (l := captured.toList) fun x hx => hr x (by simp [Op.operands]; right; simpa using hx)
        simpa using this
  · rename_i x xt asserted ok ho
    rw [ho] at hr
    exact val_of (by simp [execOp, ho]) (typeAssertA_sound (xt := xt) h (hr x (by simp [Op.operands])))
  · rename_i c ho
    rw [ho] at hr
    split at h
    · rename_i hcal
      split at h
      · rename_i t x ht hx
        have hxm : x ∈ c.args := Array.mem_of_getElem? hx
        have hrx := hr x (by simp [Op.operands, Call.operands, hcal, hxm])
        have hxs : (c.args.map ρ')[0]? = some (ρ' x) := by simp [hx]
        obtain ⟨v', h1, h2⟩ := lenA_sound (P := P) (w := w) (ty := o.type) ht hxs h hrx
        refine ⟨v', ?_, h2⟩
        simp [execOp, ho, resolve, hcal, invoke, builtin, h1]
      · cases h
    · rename_i hcal
      have hargs : VRels σ (c.args.toList.map ρ) (c.args.toList.map ρ') := VRels.map (fun x hx => hr x (by simp [Op.operands, Call.operands, hcal]; simpa using hx))
      split at h
      · rename_i x l hxl
        rw [hxl] at hargs
        generalize hys : c.args.toList.map ρ' = ys at hargs
        cases hargs with
        | cons hx hl =>
          rename_i y ys
          obtain ⟨v', h1, h2⟩ := maxL_sound (P := P) (w := w) h hx hl
          refine ⟨v', ?_, h2⟩
          simp [execOp, ho, resolve, hcal, invoke, builtin, Builtin.max_, hys, h1]
      · cases h
    · rename_i hcal
      have hargs : VRels σ (c.args.toList.map ρ) (c.args.toList.map ρ') := VRels.map (fun x hx => hr x (by simp [Op.operands, Call.operands, hcal]; simpa using hx))
      split at h
      · rename_i x l hxl
        rw [hxl] at hargs
        generalize hys : c.args.toList.map ρ' = ys at hargs
        cases hargs with
        | cons hx hl =>
          rename_i y ys
          obtain ⟨v', h1, h2⟩ := minL_sound (P := P) (w := w) h hx hl
          refine ⟨v', ?_, h2⟩
          simp [execOp, ho, resolve, hcal, invoke, builtin, Builtin.min_, hys, h1]
      · cases h
    · rename_i hcal
      split at h
      · rename_i t x ht hx
        have hxm : x ∈ c.args := Array.mem_of_getElem? hx
        have hrx := hr x (by simp [Op.operands, Call.operands, hcal, hxm])
        have hxs : (c.args.map ρ')[0]? = some (ρ' x) := by simp [hx]
        obtain ⟨v', h1, h2⟩ := capA_sound (P := P) (w := w) (ty := o.type) ht hxs h hrx
        refine ⟨v', ?_, h2⟩
        simp [execOp, ho, resolve, hcal, invoke, builtin, h1]
      · cases h
    · cases h
  · cases h
end Go.Proofs.YtaadkdmbhckdeaaDoor.AX
