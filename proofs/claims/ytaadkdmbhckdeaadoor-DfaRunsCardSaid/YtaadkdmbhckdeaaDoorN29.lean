/- Dfa: viewportref03.Go 29. -/
import Derived.Test.YtaadkdmbhckdeaaDoorN19
import Derived.Test.YtaadkdmbhckdeaaDoorN22
import Derived.Test.YtaadkdmbhckdeaaDoorN27
import Derived.Test.YtaadkdmbhckdeaaDoorN28
namespace Go.Proofs.YtaadkdmbhckdeaaDoor
open Go Go.Proofs Go.RowKit
attribute [local go_sem] Oper.semAt_some
/-- Which states are hit. -/
def hitL (n : Nat) (ks : List Int) : List Bool := (List.range n).map fun t : Nat => decide ((t : Int) ∈ ks)
def cbs (l : List Bool) : Array Value := (l.map Value.bool).toArray
theorem hitL_len (n : Nat) (ks : List Int) : (hitL n ks).length = n := by simp [hitL]
theorem hitL_at (n : Nat) (ks : List Int) (t : Nat) (h : t < n) : (cbs (hitL n ks))[t]? = some (.bool (decide ((t : Int) ∈ ks))) := by simp [cbs, hitL, h]
theorem hitL_set (n : Nat) (ks : List Int) (t : Nat) : (cbs (hitL n ks)).setIfInBounds t (.bool true) = cbs (hitL n (addK ks t)) := by
  apply Array.ext'
  refine List.ext_getElem? fun j => ?_
  unfold cbs
  simp only [Array.toList_setIfInBounds, List.toList_toArray, List.getElem?_set, List.getElem?_map, List.length_map]
  by_cases hj : j < n
  · have e1 : ∀ ks, (hitL n ks)[j]? = some (decide ((j : Int) ∈ ks)) := fun ks => by simp [hitL, hj]
    rw [e1, e1, hitL_len]
    by_cases e : t = j
    · subst e
      rw [if_pos rfl, if_pos hj]
      simp [mem_addK]
    · rw [if_neg e]
      have : ((j : Int) ∈ addK ks t) ↔ ((j : Int) ∈ ks) := by
        rw [mem_addK]
        constructor
        · rintro (h | h)
          · exact h
          · omega
        · exact .inl
      simp [this]
  · have e1 : ∀ ks, (hitL n ks)[j]? = none := fun ks => by simp [hitL]; omega
    rw [e1, e1, hitL_len]
    by_cases e : t = j
    · subst e
      rw [if_pos rfl, if_neg hj]; rfl
    · rw [if_neg e]
def outL (n : Nat) (ks : List Int) : List Int := ((List.range n).filter fun t : Nat => decide ((t : Int) ∈ ks)).map fun t : Nat => (t : Int)
theorem outL_succ (n : Nat) (ks : List Int) : outL (n + 1) ks = outL n ks ++ if (n : Int) ∈ ks then [(n : Int)] else [] := by
  unfold outL
  rw [List.range_succ, List.filter_append, List.map_append]
  congr 1
  by_cases h : (n : Int) ∈ ks <;> simp [h]
theorem outL_len (n : Nat) (ks : List Int) : (outL n ks).length ≤ n := by
  unfold outL
  rw [List.length_map]
  exact Nat.le_trans (List.length_filter_le _ _) (by simp)
theorem outL_step (N : Nf) (S : List Int) (b : Nat) : outL N.cl.length (setKf N.nx (fun t => hasN N t.toNat b) S []) = stepN N S b := by
  unfold outL stepN stepF
  congr 1
  refine List.filter_congr fun t _ => ?_
  rw [Bool.eq_iff_iff, decide_eq_true_eq, mem_setKf]
  simp only [List.not_mem_nil, false_or, Int.toNat_natCast, Bool.and_eq_true, List.any_eq_true, List.contains_iff_mem]
theorem info4' : (Tryd.prog.info? 4).map (fun i => (i.zero, i.size, i.bytes)) = some (some (.bool false), 1, 1) := by kernel_rfl
theorem makeB (n : Nat) (hn : n ≤ 2000) (w : World) : (Instr.makeSlice 85 (.int .i64 n) (.int .i64 n)).run Tryd.prog w = .ok (.slice (some ⟨w.heap.size, 0, none⟩) n n) (w.alloc (.cells (cbs (hitL n [])) 4)) := by
  obtain ⟨ti, hi, hz0, hz1, hz2⟩ := info_parts info4'
  have h := run_makeSlice (P := Tryd.prog) (w := w) 85 4 ti (.bool false) Tryd.underlying85 hi hz0 .i64 .i64 (n : Int) (n : Int) (by omega) (Int.le_refl _) (by rw [hz1]; simp; omega) (by rw [hz2]; omega) (by omega)
  rw [h]
  have e : madeCells (Value.bool false).cells ((n : Int).toNat * ti.size) = cbs (hitL n []) := by
    rw [hz1, Int.toNat_natCast, Nat.mul_one]
    refine Array.toList_inj.1 ?_
    show (madeCells #[Value.bool false] n).toList = _
    rw [toList_madeCells_one]
    unfold cbs hitL
    simp only [List.map_map, List.toList_toArray]
    refine List.ext_getElem (by simp) fun i h1 h2 => by simp
  rw [e, Int.toNat_natCast]
theorem wpList_make {ops : Array Oper} {rest : List Oper} {a : Act} {Q : Exit → Act → World → Prop} {d : Option Tmp} {t : TypeId} {x y : Operand} {ty : TypeId} {pos : String} {after : Array Edge} {w w' : World} {v1 v2 v : Value}
    (h1 : a.eval x = v1) (h2 : a.eval y = v2) (h : (Instr.makeSlice t v1 v2).run Tryd.prog w = .ok v w') (hK : wpList Tryd.prog ops Q rest (a.put d v) w') :
    wpList Tryd.prog ops Q ({ dst := d, op := .makeSlice t x y, type := ty, pos := pos, after := after, guard := none } :: rest) a w := by
  refine wpList_plain rfl fun K hK' => ?_
  unfold Oper.wp
  simp only [execOp, h1, h2]
  rw [show (do let x ← Instr.makeSlice t v1 v2; pure (Next.value x) : Sem Next).run Tryd.prog w = .ok (.value v) w' by simp [h]]
  exact hK' _ _ hK
theorem mk_id {P : Program} {ops : Array Oper} {Q : Exit → Act → World → Prop} {a : Act} {w : World} {rest : List Oper} {d : Option Tmp} {t : TypeId} {x y : Operand} {ty : TypeId} {pos : String} {after : Array Edge}
    (h : wpList P ops Q ({ dst := d, op := .makeSlice t x y, type := ty, pos := pos, after := after, guard := none } :: rest) a w) :
    wpList P ops Q ({ dst := d, op := .makeSlice t x y, type := ty, pos := pos, after := after, guard := none } :: rest) a w := h
theorem append_i {ops : Array Oper} {rest : List Oper} {o : Oper} {a : Act} {Q : Exit → Act → World → Prop} (W : World) (base : Nat) (v : Value) (pre l : List Int) (hgd : o.guard = none) (s y : Operand)
    (ho : o.op = .call { callee := .builtin .append, args := #[s, y], argTypes := #[24, 24] }) (hs : a.eval s = v) (hown : W.ownsRow base 3 1 v pre.length (pre.map (Value.int .i64))) (B c m : Nat) (hm : m = l.length) (hx : a.eval y = .slice (some ⟨B, 0, none⟩) m c)
    (hc : ∀ j (h : j < l.length), W.cell? ⟨B, j, none⟩ = some (.int .i64 l[j])) (hl : pre.length ≤ 1000000) (hl2 : l.length ≤ 1000000) (hb : base ≤ W.heap.size)
    (h : ∀ v' w', w'.ownsRow base 3 1 v' (pre.length + l.length) (pre.map (Value.int .i64) ++ l.map (Value.int .i64)) → W.grownBy w' v.ownBlock → (v'.ownBlock = v.ownBlock ∨ v'.ownBlock = some W.heap.size) → wpList Tryd.prog ops Q rest (a.put o.dst v') w') : wpList Tryd.prog ops Q (o :: rest) a W := by
  subst hm
  obtain ⟨ti, hi, hz0, hz1, hz2⟩ := info_parts info3'
  refine wpList_append_own_at (P := Tryd.prog) (w := W) hgd s y 24 ho base 3 ti (.int .i64 0) 1 8 Tryd.underlying24 hi hz0 hz1 hz2 rfl (by decide) v pre.length _ hs hown ⟨B, 0, none⟩ l.length c (l.map (Value.int .i64)) hx (by simp)
    (fun j u hj => by
      rw [addr_add, Nat.zero_add]
      obtain ⟨hj', rfl⟩ := List.getElem?_eq_some_iff.1 hj
      rw [List.getElem_map]
      exact hc j (by simpa using hj')) (fun u hu => by
      obtain ⟨k, _, rfl⟩ := List.mem_map.1 hu
      rfl) (by unfold maxLen; omega) (by omega) hb ?_
  intro v' w' h1 h2 _ h4
  exact h v' w' h1 h2 h4
theorem sz4 : AX.sizeT Tryd.prog 4 = some 1 := by kernel_rfl
end Go.Proofs.YtaadkdmbhckdeaaDoor
