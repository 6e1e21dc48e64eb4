/- AX, part 14n: ranges over maps: the beginning, the next entry. -/
import Derived.Test.YtnlieipdeepemaaGreatDoorAx14
namespace Go.Proofs.YtnlieipdeepemaaGreatDoor.AX
open Go
variable {P : Program} {σ : Sig} {w : World} {pr : Pr} {hp : Hp}

theorem heap_setBlock {w : World} {r : Nat} {o : Obj} (h : r < w.heap.size) : (ChangeMaps.setBlock w r o).heap[r]? = some o ∧ ∀ k, k ≠ r → (ChangeMaps.setBlock w r o).heap[k]? = w.heap[k]? := by
  refine ⟨by simp [ChangeMaps.setBlock, h], fun k hk => ?_⟩
  simp only [ChangeMaps.setBlock]
  exact Array.getElem?_setIfInBounds_ne (Ne.symm hk)
/-- What is left, abstract and true. -/
def LeftRel (σ : Sig) : List ((AV × AV) × Nat) → List MapEntry → Prop
  | [], [] => True
  | e :: es, m :: ms => VRel σ e.1.1 m.key ∧ VRel σ e.1.2 m.val ∧ m.born = e.2 ∧ LeftRel σ es ms
  | _, _ => False
theorem leftA_sound {seen : List Nat} : ∀ {es : List (AV × AV)} {bs : List Nat} {ms : List MapEntry}, EntsRel σ es ms → ms.map (·.born) = bs → LeftRel σ (leftA seen es bs) (ms.filter fun e => !seen.contains e.born)
  | [], bs, [], _, h => by cases h; trivial
  | e :: es, bs, m :: ms, ⟨h1, h2, h3⟩, h => by
    subst h
    simp only [List.map_cons, leftA]
    have ih := leftA_sound (seen := seen) (bs := ms.map (·.born)) h3 rfl
    split
    · rename_i hs
      rw [List.filter_cons_of_neg (by rw [hs]; simp)]
      exact ih
    · rename_i hs
      rw [List.filter_cons_of_pos (by rw [hs]; simp)]
      exact ⟨h1, h2, rfl, ih⟩
  | [], _, _ :: _, h, _ => h.elim
  | _ :: _, _, [], h, _ => h.elim
theorem toList_leftOf (es : Array MapEntry) (seen : List Nat) : (leftOf es seen.toArray).toList = es.toList.filter fun e => !seen.contains e.born := by
  unfold leftOf
  rw [Array.toList_filter]
  congr 1
  funext e
  simp
theorem rangeA_sound {t : TypeId} {x r0 : AV} {y : Value} {nx nx' : Nat} {hp' : Hp} (h : rangeA P t x hp nx = .done r0 hp' nx') (hx : VRel σ x y) (r : R pr σ hp w) (hfr : Fresh σ nx nx') :
    ∃ v' w' τ, (Instr.range t y).run P w = .ok v' w' ∧ VRel τ r0 v' ∧ Ext σ τ nx nx' ∧ R pr τ hp' w' := by
  have go : ∀ (o : Obj) (b : Blk), (∀ τ : Sig, σ ≤ τ → BlkRel τ b ⟨w.heap.size, 0, 0⟩ (w.heap.push o)) → σ nx = none → (Instr.range t y).run P w = .ok (.pointer (some ⟨w.heap.size, 0, none⟩)) { w with heap := w.heap.push o } →
      ∃ v' w' τ, (Instr.range t y).run P w = .ok v' w' ∧ VRel τ (.ptr nx 0) v' ∧ Ext σ τ nx (nx + 1) ∧ R pr τ (hp.set nx b) w' := by
    intro o b hb hf hrun
    have hle := Sig.put_le (σ := σ) (id := nx) ⟨w.heap.size, 0, 0⟩ hf
    exact ⟨_, _, _, hrun, VRel.ptr (i := ⟨w.heap.size, 0, 0⟩) (off := 0) (Sig.put_same _ _ _), Ext.one _ hf, r.new hf (hb _ hle) rfl ⟨rfl, rfl⟩⟩
  unfold rangeA at h
  split at h
  · rename_i kt e ht
    split at h
    · obtain rfl := hx.nilm_inv
      cases h
      refine go (.mapIter none 0 #[] 0) _ (fun τ _ => ⟨none, by simp, rfl, rfl⟩) (hfr _ (Nat.le_refl _) (Nat.lt_succ_self _)) ?_
      simp only [Instr.range, Sem.run_bind, run_underlying_some ht, Result.andThen_ok, Sem.run_pure, run_newObj]
    · rename_i id
      split at h
      · rename_i es bs clk hb
        cases h
        obtain ⟨i, hi, rfl⟩ := hx.map_inv
        obtain ⟨i', hi', ms, h1, h2, hbs⟩ := r.blk _ _ hb
        rw [hi] at hi'
        cases hi'
        refine go (.mapIter (some i.blk) clk #[] clk) _ (fun τ hle => ⟨some i.blk, by simp, rfl, i, hle _ _ hi, rfl⟩) (hfr _ (Nat.le_refl _) (Nat.lt_succ_self _)) ?_
        simp only [Instr.range, Sem.run_bind, run_underlying_some ht, Result.andThen_ok, Sem.run_pure, run_newObj, MapKept.run_getObj_map h1]
      · cases h
    · cases h
  · cases h
theorem nextA_sound {it r0 : AV} {y : Value} {ty : TypeId} {nx nx' : Nat} {hp' : Hp} (h : nextA it hp nx = .done r0 hp' nx') (hx : VRel σ it y) (r : R pr σ hp w) :
    ∃ v' w', (Instr.next y false ty).run P w = .ok v' w' ∧ VRel σ r0 v' ∧ nx' = nx ∧ R pr σ hp' w' := by
  unfold nextA at h
  split at h
  · rename_i id
    obtain ⟨i, hi, rfl⟩ := hx.ptr_inv
    split at h
    · rename_i hb
      cases h
      obtain ⟨i', hi', mo, h1, h0, h2⟩ := r.blk _ _ hb
      rw [hi] at hi'
      cases hi'
      have h2 : mo = none := h2
      subst h2
      refine ⟨.tuple #[.bool false], w, ?_, .tup (.cons (.bool _) .nil), rfl, r⟩
      simp only [Instr.next, Sem.run_bind, h0, getObj, Sem.run, h1, Result.andThen_ok, Sem.run_pure, Nat.add_zero]
    · rename_i m since seen last hb
      split at h
      · rename_i es bs clk hm
        split at h
        · cases h
        · rename_i hcond
          simp only [Bool.and_eq_true, List.all_eq_true] at hcond
          obtain ⟨i', hi', mo, h1, h0, h2⟩ := r.blk _ _ hb
          rw [hi] at hi'
          cases hi'
          obtain ⟨j, hj, rfl⟩ := h2
          obtain ⟨j', hj', ms, g1, g2, gb⟩ := r.blk _ _ hm
          rw [hj] at hj'
          cases hj'
          have hold : ∀ x ∈ ms.toList, x.born < since := fun x hx => Nat.le_of_ble_eq_true (hcond.1 _ (by rw [← gb]; exact List.mem_map_of_mem hx))
          have hle := Nat.le_of_ble_eq_true hcond.2
          have hL := leftA_sound (seen := seen) g2 gb
          rw [← toList_leftOf] at hL
          have hlt := (Array.getElem?_eq_some_iff.1 h1).1
          have hrun := run_next_at (P := P) w ty i.blk j.blk since last seen.toArray ms clk h1 g1 hold hle
          have e0 : (⟨i.blk, i.base + 0, none⟩ : Addr) = ⟨i.blk, 0, none⟩ := by rw [h0]
          rw [e0]
          split at h
          · rename_i hl
            cases h
            rw [hl] at hL
            rcases hrun with ⟨_, q2⟩ | ⟨e, q1, _⟩
            · exact ⟨_, w, q2, .tup (.cons (.bool _) .nil), rfl, r⟩
            · cases hq : (leftOf ms seen.toArray).toList with
              | nil => rw [hq] at q1; cases q1
              | cons a l => rw [hq] at hL; exact hL.elim
          · rename_i e b hl
            cases h
            rw [hl] at hL
            cases hq : (leftOf ms seen.toArray).toList with
            | nil => rw [hq] at hL; exact hL.elim
            | cons a l =>
              rw [hq] at hL
              obtain ⟨k1, k2, k3, k4⟩ := hL
              cases l with
              | cons _ _ => exact k4.elim
              | nil =>
                rcases hrun with ⟨q1, _⟩ | ⟨e', q1, w1, q2, q3⟩
                · have : (leftOf ms seen.toArray).toList.length = 0 := by simpa using q1
                  rw [hq] at this
                  cases this
                · rw [hq] at q1
                  obtain rfl := List.mem_singleton.1 q1
                  refine ⟨_, _, q3, .tup (.cons (.bool _) (.cons k1 (.cons k2 .nil))), rfl, ?_⟩
                  have hh : w1.heap = w.heap := by rcases q2 with rfl | rfl <;> rfl
                  have hs : Same w (ChangeMaps.setBlock w1 i.blk (.mapIter (some j.blk) since (seen.toArray.push e'.born) clk)) := by rcases q2 with rfl | rfl <;> exact ⟨rfl, rfl⟩
                  obtain ⟨p1, p2⟩ := heap_setBlock (w := w1) (r := i.blk) (o := .mapIter (some j.blk) since (seen.toArray.push e'.born) clk) (by rw [hh]; exact hlt)
                  refine r.turn hb hi ⟨some j.blk, ?_, h0, j, hj, rfl⟩ (fun k hk => by rw [p2 k hk, hh]) hs
                  rw [p1, k3]
                  simp
          · cases h
      · cases h
    · cases h
  · cases h
/-- Elements laid over others of a live block. -/
theorem copy_at {C : Ctx} {ts : Array TypeId} {ty t e : TypeId} {z n id off len cap m : Nat} {c : Cells} {cl : Cl} {i : Info} {o : Nat} {args : Array Value} {y : Value} {l : List AV} {xs : Array Value}
    (ht : ts[0]? = some t) (hu : C.P.underlying t = some (.slice e)) (hz : sizeT C.P e = some z) (a0 : args[0]? = some (.slice (some ⟨i.blk, o, none⟩) len cap)) (a1 : args[1]? = some y)
    (hn : (Builtin.lenOf y).run C.P w = .ok n w) (hx : (Builtin.firstCells z (Nat.min n len) y).run C.P w = .ok xs w) (hl : VRels σ l xs.toList) (hi : σ id = some i) (hb : hp.get id = some (.cells c m cl)) (hle : len ≤ cap) (ho : o = i.base + off ∨ cap = 0)
    (hm : off + Nat.min n len * z ≤ m) (hat : atomsB l = true) (hll : l.length = Nat.min n len * z) (r : R pr σ hp w) :
    ∃ w', (Builtin.copy_ ts ty args).run C.P w = .ok (.int .i64 (Int.ofNat (Nat.min n len))) w' ∧ R pr σ (hp.set id (.cells (writeL c off l) m cl)) w' := by
  obtain ⟨i', hi', hblk⟩ := r.blk _ _ hb
  rw [hi] at hi'
  cases hi'
  obtain ⟨cs, e0, fz, h1, h2, h3, h4, h5, h6⟩ := hblk
  have hone := atomsB_sound hat hl
  have hlen := hl.length
  have key : ∃ w', (storeCells ⟨i.blk, o, none⟩ xs.toList 0).run C.P w = .ok () w' ∧ w'.heap[i.blk]? = some (.cells (writeC cs (i.base + off) xs.toList) e0 fz) ∧ (∀ k, k ≠ i.blk → w'.heap[k]? = w.heap[k]?) ∧ Same w w' := by
    rcases ho with ho | ho
    · subst ho
      exact run_storeCells (P := C.P) (o := i.base + off) xs.toList 0 cs w h1 (by omega) h4 hone
    · have hmin : Nat.min n len = 0 := by
        have : len = 0 := by omega
        rw [this]; exact Nat.min_zero _
      rw [hmin, Nat.zero_mul] at hll
      have : xs.toList = [] := List.length_eq_zero_iff.1 (by omega)
      rw [this]
      exact ⟨w, rfl, h1, fun _ _ => rfl, Same.refl w⟩
  obtain ⟨w', e1, e2, e3, e4⟩ := key
  refine ⟨w', ?_, cells_turn r hb hi h1 h2 h3 h4 h5 h6 hl (by omega) e2 e3 e4⟩
  simp only [Builtin.copy_, ht, a0, a1, Sem.run_bind, run_underlying_some hu, Result.andThen_ok, hn, run_sizeOf hz, hx, e1]
  rfl
theorem copyA_sound {C : Ctx} {ts : Array TypeId} {ty : TypeId} {d s v : AV} {x y : Value} {args : Array Value} {nx nx' : Nat} {hp' : Hp} (h : copyA C ts d s hp nx = .done v hp' nx') (a0 : args[0]? = some x) (a1 : args[1]? = some y)
    (hd : VRel σ d x) (hs : VRel σ s y) (r : R pr σ hp w) : ∃ v' w', (Builtin.copy_ ts ty args).run C.P w = .ok v' w' ∧ VRel σ v v' ∧ nx' = nx ∧ R pr σ hp' w' := by
  unfold copyA at h
  split at h
  · rename_i t ht
    split at h
    · rename_i e hu
      split at h
      · rename_i z n hz hn
        split at h
        · obtain rfl := hd.nils_inv
          split at h
          · rename_i l hl
            cases h
            obtain ⟨xs, g1, g2⟩ := elemsA_any (P := C.P) hl hn (Nat.zero_le _) hs r
            refine ⟨.int .i64 0, w, ?_, .int _ _, rfl, r⟩
            have hm : Nat.min n 0 = 0 := Nat.min_zero _
            simp only [Builtin.copy_, ht, a0, a1, Sem.run_bind, run_underlying_some hu, Result.andThen_ok, (g2 w rfl).2, run_sizeOf hz, hm, (g2 w rfl).1]
            rfl
          · cases h
        · rename_i id off len cap
          split at h
          · rename_i l c m cl hl hb
            split at h
            · rename_i hc
              simp only [Bool.and_eq_true] at hc
              obtain ⟨⟨hm, hat⟩, hll⟩ := hc
              have hm := Nat.le_of_ble_eq_true hm
              have hll := Nat.eq_of_beq_eq_true hll
              cases h
              obtain ⟨i, o, hi, hle, ho, rfl⟩ := hd.slice_inv
              obtain ⟨xs, g1, g2⟩ := elemsA_any (P := C.P) hl hn (Nat.min_le_left _ _) hs r
              obtain ⟨w', e1, e2⟩ := copy_at (ty := ty) ht hu hz a0 a1 (g2 w rfl).2 (g2 w rfl).1 g1 hi hb hle ho hm hat hll r
              exact ⟨_, w', e1, .int _ _, rfl, e2⟩
            · cases h
          · cases h
        · rename_i id off len cap
          split at h
          · rename_i l c m cl hl hb
            split at h
            · rename_i hc
              simp only [Bool.and_eq_true] at hc
              obtain ⟨⟨hm, hat⟩, hll⟩ := hc
              have hm := Nat.le_of_ble_eq_true hm
              have hll := Nat.eq_of_beq_eq_true hll
              cases h
              obtain ⟨i, o, cc, hi, hle, _, ho, rfl⟩ := hd.opn_inv
              obtain ⟨xs, g1, g2⟩ := elemsA_any (P := C.P) hl hn (Nat.min_le_left _ _) hs r
              obtain ⟨w', e1, e2⟩ := copy_at (ty := ty) ht hu hz a0 a1 (g2 w rfl).2 (g2 w rfl).1 g1 hi hb hle ho hm hat hll r
              exact ⟨_, w', e1, .int _ _, rfl, e2⟩
            · cases h
          · cases h
        · cases h
      · cases h
    · cases h
  · cases h
end Go.Proofs.YtnlieipdeepemaaGreatDoor.AX
