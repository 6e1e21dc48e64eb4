/- AX, part 15: append. -/
import Derived.Test.YtnlieipdeepemaaGreatDoorAx14n
namespace Go.Proofs.YtnlieipdeepemaaGreatDoor.AX
open Go
variable {P : Program} {σ : Sig} {w : World} {pr : Pr} {hp : Hp}

theorem zeroOk_sound {e : TypeId} {z : Nat} (h : zeroOk P e z = true) : ∀ w, ∃ x, (zeroValue e).run P w = .ok x w ∧ x.cells.size = z := by
  intro w
  unfold zeroOk at h
  split at h
  · rename_i v hv
    split at h
    · rename_i l hl
      have h := Nat.eq_of_beq_eq_true h
      obtain ⟨x, h1, h2⟩ := zeroA_sound (σ := fun _ => none) (w := w) hv
      have := (cellsA_rel hl h2).length
      exact ⟨x, h1, by simp at this; omega⟩
    · cases h
  · cases h
theorem roomOk_sound {bytes need : Nat} (h : roomOk bytes need = true) : need ≤ 1000000000000 ∧ (need * 2 + 1000) * bytes ≤ 2 ^ 47 := by
  unfold roomOk at h
  split at h
  · rename_i h1
    exact ⟨Nat.le_of_ble_eq_true h1, by have := Nat.le_of_ble_eq_true h; simpa using this⟩
  · cases h
theorem room_limits {bytes need c : Nat} (h : roomOk bytes need = true) (hc : c < need) : ¬ (Builtin.nextslicecap need c * bytes > 2 ^ 48 ∨ ((need : Nat) : Int) > IntKind.i64.max) := by
  obtain ⟨h1, h2⟩ := roomOk_sound h
  have h3 : Builtin.nextslicecap need c * bytes ≤ (need * 2 + 1000) * bytes := Nat.mul_le_mul_right _ (nextslicecap_le hc)
  rintro (h | h)
  · omega
  · simp [IntKind.max, IntKind.signed, IntKind.bits] at h; omega

/-- The new row that a growing append lays. -/
theorem grow_new {z need newCap nx : Nat} {old new : List AV} {os ns rest : Array Value} {e : TypeId} {wd wf : World} (r : R pr σ hp w) (hw : wd.heap = w.heap) (hwf : wf.heap = wd.heap.push (.cells (os ++ ns ++ rest) e)) (hs : Same w wf)
    (ho : VRels σ old os.toList) (hn : VRels σ new ns.toList) (hl : old.length + new.length = need * z) (hr : rest.size = (newCap - need) * z) (hcap : need ≤ newCap) (hf : σ nx = none) (cl : Cl) (hty : ∀ t, cl = .ty t → e = t) (hwh : ∀ t, cl ≠ .whole t) :
    ∃ τ, VRel τ (.opn nx 0 need z) (.slice (some ⟨wd.heap.size, 0, none⟩) need newCap) ∧ Ext σ τ nx (nx + 1) ∧
      R pr τ (hp.set nx (.cells (ofL (old ++ new)) (need * z) cl)) wf := by
  have hsz : (os ++ ns ++ rest).size = newCap * z := by
    have h1 := ho.length
    have h2 := hn.length
    simp only [Array.length_toList] at h1 h2
    have : need * z + (newCap - need) * z = newCap * z := by rw [← Nat.add_mul]; congr 1; omega
    simp only [Array.size_append]
    omega
  refine ⟨σ.put nx ⟨w.heap.size, 0, newCap * z⟩, ?_, Ext.one _ hf, ?_⟩
  · rw [hw]
    exact .opn (Sig.put_same _ _ _) hcap (by simp) (.inl rfl)
  · rw [hw] at hwf
    refine r.new hf ?_ hwf hs
    have hrel := VRels.mono (Sig.put_le (σ := σ) (id := nx) ⟨w.heap.size, 0, newCap * z⟩ hf) (ho.append hn)
    have := fresh_cells (h := w.heap) (l := old ++ new) (n := need * z) (cl := cl) (cs := os ++ ns ++ rest) (e := e) (fz := (0, 0)) ⟨os.toList ++ ns.toList, rest.toList, hrel, by simp⟩
      (by rw [hsz]; exact Nat.mul_le_mul_right _ hcap) (noFz' _) (fun _ => rfl) hty (fun t h => absurd h (hwh t))
    rw [hsz] at this
    exact this
/-- The way on which 'append' makes a new row. -/
theorem run_grow {e : TypeId} {z need sCap newCap n sLen : Nat} {os ns : Array Value} {s x zv : Value} (hq : (Question.appendCap need sCap e).cut (w.tape w.drawn (.appendCap need sCap e)) = newCap)
    (h1 : ∀ w' : World, w'.heap = w.heap → (Builtin.firstCells z sLen s).run P w' = .ok os w') (h2 : ∀ w' : World, w'.heap = w.heap → (Builtin.firstCells z n x).run P w' = .ok ns w')
    (h3 : ∀ w', (zeroValue e).run P w' = .ok zv w') :
    (do let newCap ← choose (.appendCap need sCap e)
        let old ← Builtin.firstCells z sLen s
        let new ← Builtin.firstCells z n x
        let rest := Builtin.zeroCells (← zeroValue e).cells (newCap - need)
        pure (Value.slice (some (← newRow e (old ++ new ++ rest))) need newCap) : Sem Value).run P w
      = .ok (.slice (some ⟨w.heap.size, 0, none⟩) need newCap) { w with drawn := w.drawn + 1, heap := w.heap.push (.cells (os ++ ns ++ Builtin.zeroCells zv.cells (newCap - need)) e) } := by
  have hf : (Question.appendCap need sCap e).forced = false := rfl
  simp only [Sem.run_bind, run_choose, hf, Bool.false_eq_true, if_false, hq, Result.andThen_ok]
  rw [h1 { w with drawn := w.drawn + 1 } rfl]
  simp only [Result.andThen_ok]
  rw [h2 { w with drawn := w.drawn + 1 } rfl]
  simp only [Result.andThen_ok, h3, newRow, Sem.run_bind, run_newObj, Sem.run_pure]
theorem cut_ge (need old : Nat) (e : TypeId) (t : Nat) : need ≤ (Question.appendCap need old e).cut t := by simp [Question.cut]

theorem readN_len {c : Cells} : ∀ {n off : Nat} {l : List AV}, readN c off n = some l → l.length = n := by
  intro n
  induction n with
  | zero => intro off l h; rw [readN_zero] at h; cases h; rfl
  | succ n ih =>
    intro off l h
    rw [readN_succ] at h
    split at h
    · split at h
      · rename_i l' hl
        cases h
        simp [ih hl]
      · cases h
    · cases h
theorem readN_get {c : Cells} : ∀ {n off : Nat} {l : List AV} {j : Nat} {v : AV}, readN c off n = some l → l[j]? = some v → c.get (off + j) = some v := by
  intro n
  induction n with
  | zero => intro off l j v h hj; rw [readN_zero] at h; cases h; simp at hj
  | succ n ih =>
    intro off l j v h hj
    rw [readN_succ] at h
    split at h
    · rename_i u hu
      split at h
      · rename_i l' hl
        cases h
        cases j with
        | zero => simp at hj; subst hj; simpa using hu
        | succ j =>
          have := ih hl (by simpa using hj)
          rw [show off + (j + 1) = off + 1 + j from by omega]; exact this
      · cases h
    · cases h
theorem elemsA_len {z n : Nat} {a : AV} {l : List AV} (h : elemsA z n a hp = some l) (hs : ∀ s, a ≠ .str s) (hn : a ≠ .nils := by simp) : l.length = n * z := by
  unfold elemsA at h
  split at h
  · exact absurd rfl hn
  · split at h
    · split at h
      · exact readN_len h
      · cases h
    · cases h
  · split at h
    · split at h
      · exact readN_len h
      · cases h
    · cases h
  · exact absurd rfl (hs _)
  · cases h
/-- What 'append' must come to. -/
def AppOk (P : Program) (pr : Pr) (σ : Sig) (nx : Nat) (s : Sem Value) (w : World) (v : AV) (hp' : Hp) (nx' : Nat) : Prop :=
  ∃ v' w' τ, s.run P w = .ok v' w' ∧ VRel τ v v' ∧ Ext σ τ nx nx' ∧ R pr τ hp' w'

structure AppCx (P : Program) (ts : Array TypeId) (args : Array Value) (i : TypeInfo) (e : TypeId) (n : Nat) (x : Value) where
  t : TypeId
  t' : TypeId
  d : TypeDesc
  h0 : ts[0]? = some t
  h1 : ts[1]? = some t'
  hu : P.underlying t = some (.slice e)
  hu' : P.underlying t' = some d
  hd : ∀ k, d ≠ .int k
  hi : P.info? e = some i
  a1 : args[1]? = some x
  zero : zeroOk P e i.size = true

theorem zero_same {e : TypeId} {i : TypeInfo} {zv : Value} (hi : P.info? e = some i) (h : (zeroValue e).run P w = .ok zv w) {z : Nat} (ha : ∀ w, ∃ x, (zeroValue e).run P w = .ok x w ∧ x.cells.size = z) :
    ∀ w', (zeroValue e).run P w' = .ok zv w' := fun w' => by
  obtain ⟨zv', g1, _⟩ := ha w'
  have : zv' = zv := by
    cases hzi : i.zero with
    | none => simp [zeroValue, typeInfo, hi, hzi] at h
    | some q =>
      simp [zeroValue, typeInfo, hi, hzi] at h g1
      rw [← g1, ← h]
  rw [← this]; exact g1
theorem growA_sound {ts : Array TypeId} {ty : TypeId} {args : Array Value} {i : TypeInfo} {e : TypeId} {n len cap nx nx' : Nat} {x : Value} {old new : List AV} {os ns : Array Value} {v : AV} {hp' : Hp}
    (K : AppCx P ts args i e n x) {base : Option Addr} (a0 : args[0]? = some (.slice base len cap)) (h : growA e i.size i.bytes (len + n) old new hp nx = .done v hp' nx') (hc : ¬ len + n ≤ cap)
    (r : R pr σ hp w) (hf : Fresh σ nx nx') (ho : VRels σ old os.toList) (hn : VRels σ new ns.toList) (hl : old.length + new.length = (len + n) * i.size)
    (hlen : (Builtin.lenOf x).run P w = .ok n w)
    (r1 : ∀ w' : World, w'.heap = w.heap → (Builtin.firstCells i.size len (.slice base len cap)).run P w' = .ok os w') (r2 : ∀ w' : World, w'.heap = w.heap → (Builtin.firstCells i.size n x).run P w' = .ok ns w') :
    AppOk P pr σ nx (Builtin.append_ ts ty args) w v hp' nx' := by
  unfold growA at h
  split at h
  · rename_i hrm
    cases h
    obtain ⟨zv, hz1, hz2⟩ := zeroOk_sound K.zero w
    have hz3 : ∀ w', (zeroValue e).run P w' = .ok zv w' := zero_same K.hi hz1 (zeroOk_sound K.zero)
    have hrun := run_append (P := P) (w := w) (ty := ty) K.h0 K.h1 K.hu K.hu' K.hd K.hi a0 K.a1 hlen
    rw [if_neg hc, if_neg (room_limits hrm (by omega))] at hrun
    rw [run_grow rfl r1 r2 hz3] at hrun
    obtain ⟨τ, g1, g2, g3⟩ := grow_new (w := w) (wd := w) (wf := { w with drawn := w.drawn + 1, heap := w.heap.push (.cells (os ++ ns ++ Builtin.zeroCells zv.cells ((Question.appendCap (len + n) cap e).cut (w.tape w.drawn (.appendCap (len + n) cap e)) - (len + n))) e) }) (rest := Builtin.zeroCells zv.cells ((Question.appendCap (len + n) cap e).cut (w.tape w.drawn (.appendCap (len + n) cap e)) - (len + n)))
      (newCap := (Question.appendCap (len + n) cap e).cut (w.tape w.drawn (.appendCap (len + n) cap e))) (e := e) r rfl rfl ⟨rfl, rfl⟩ ho hn hl (by rw [zeroCells_toList, hz2]) (cut_ge _ _ _ _) (hf nx (Nat.le_refl _) (Nat.lt_succ_self _)) (.ty e) (fun _ h => by cases h; rfl) (fun _ h => by cases h)
    exact ⟨_, _, τ, hrun, g1, g2, g3⟩
  · cases h


/-- Appending within the room: the run. -/
theorem run_fits {ts : Array TypeId} {ty : TypeId} {args : Array Value} {i : TypeInfo} {e : TypeId} {n len cap b o : Nat} {x : Value} {ns cs : Array Value} {et : TypeId} {fz : Nat × Nat}
    (K : AppCx P ts args i e n x) (a0 : args[0]? = some (.slice (some ⟨b, o, none⟩) len cap)) (hc : len + n ≤ cap) (hlen : (Builtin.lenOf x).run P w = .ok n w)
    (r2 : (Builtin.firstCells i.size n x).run P w = .ok ns w) (hblk : w.heap[b]? = some (.cells cs et fz)) (hle : o + len * i.size + ns.size ≤ cs.size)
    (hfz : ∀ j, j < cs.size → ¬ (fz.1 ≤ j ∧ j < fz.2)) (hone : ∀ y ∈ ns.toList, y.oneCell' = true) :
    ∃ w', (Builtin.append_ ts ty args).run P w = .ok (.slice (some ⟨b, o, none⟩) (len + n) cap) w' ∧ w'.heap[b]? = some (.cells (writeC cs (o + len * i.size) ns.toList) et fz) ∧
      (∀ k, k ≠ b → w'.heap[k]? = w.heap[k]?) ∧ Same w w' := by
  obtain ⟨w', e1, e2, e3, e4⟩ := run_storeCells (P := P) (b := b) (o := o + len * i.size) ns.toList 0 cs w hblk (by simpa using hle) hfz hone
  refine ⟨w', ?_, e2, e3, e4⟩
  rw [run_append (P := P) (w := w) (ty := ty) K.h0 K.h1 K.hu K.hu' K.hd K.hi a0 K.a1 hlen, if_pos hc]
  simp only [Sem.run_bind, r2, Result.andThen_ok, addr_add, e1, Sem.run_pure]

theorem sliceAppA_sound {ts : Array TypeId} {ty : TypeId} {args : Array Value} {i : TypeInfo} {e : TypeId} {n id off len cap nx nx' : Nat} {x y : Value} {new : List AV} {ns : Array Value} {v : AV} {hp' : Hp}
    (K : AppCx P ts args i e n x) (a0 : args[0]? = some y) (hy : VRel σ (.slice id off len cap) y) (h : sliceAppA e id off len cap i.size i.bytes n new hp nx = .done v hp' nx')
    (r : R pr σ hp w) (hf : Fresh σ nx nx') (hn : VRels σ new ns.toList) (hl : new.length = n * i.size)
    (r2 : ∀ w' : World, w'.heap = w.heap → (Builtin.firstCells i.size n x).run P w' = .ok ns w' ∧ (Builtin.lenOf x).run P w' = .ok n w') (hpos : 0 < n) :
    AppOk P pr σ nx (Builtin.append_ ts ty args) w v hp' nx' := by
  obtain ⟨j, o, hj, hle, ho, rfl⟩ := hy.slice_inv
  unfold sliceAppA at h
  split at h
  · rename_i hc
    have hc := Nat.le_of_ble_eq_true hc
    have hc : len + n ≤ cap := hc
    split at h
    · rename_i c m cl hb
      split at h
      · rename_i hm hat
        have hm := Nat.le_of_ble_eq_true hm
        have hm : off + (len + n) * i.size ≤ m := hm
        cases h
        obtain ⟨j', hj', cs, et, fz, h1, h2, h3, h4, h5, h6⟩ := r.blk _ _ hb
        rw [hj] at hj'
        cases hj'
        have ho := ho.resolve_right (by omega)
        subst ho
        have hns : ns.size = n * i.size := by have := hn.length; simp at this; omega
        have hadd : (len + n) * i.size = len * i.size + n * i.size := Nat.add_mul _ _ _
        obtain ⟨w', g1, g2, g3, g4⟩ := run_fits (P := P) (w := w) (ty := ty) K a0 hc (r2 w rfl).2 (r2 w rfl).1 h1 (by omega) h4 (atomsB_sound hat hn)
        refine ⟨_, w', σ, g1, .slice hj hc (.inl rfl), Ext.refl _ _, ?_⟩
        have e1 : j.base + off + len * i.size = j.base + (off + len * i.size) := by omega
        rw [e1] at g2
        exact cells_turn r hb hj h1 h2 h3 h4 h5 h6 hn (by show off + len * i.size + new.length ≤ m; omega) g2 g3 g4
      · cases h
    · cases h
  · rename_i hc
    have hc : ¬ len + n ≤ cap := fun h => by
      have : Nat.ble (len + n) cap = true := Nat.ble_eq_true_of_le h
      have hc' : Nat.ble (len + n) cap = false := hc
      rw [this] at hc'; cases hc'
    split at h
    · rename_i old hold
      obtain ⟨os, g1, g2⟩ := elemsA_any (P := P) hold rfl (Nat.le_refl _) hy r
      have hol : old.length = len * i.size := elemsA_len hold (fun s => by simp)
      exact growA_sound K a0 h hc r hf g1 hn (by rw [Nat.add_mul]; omega) (r2 w rfl).2 (fun w' hw => (g2 w' hw).1) (fun w' hw => (r2 w' hw).1)
    · cases h

theorem row_ok {cl cl2 : Cl} {off base sz n sz' n' : Nat} {e t : TypeId} {fz : Nat × Nat} (hcl2 : cl2 = cl.row t ∧ off = 0 ∨ cl2 = .no) (h : ClOk cl e fz base sz n) : ClOk cl2 e fz (base + off) sz' n' := by
  rcases hcl2 with ⟨rfl, rfl⟩ | rfl
  · have h1 : (cl.row t).is = true → cl.is = true := by
      cases cl with
      | no => exact fun h => (by cases h)
      | _ => exact fun _ => rfl
    refine ⟨fun hh => h.1 (h1 hh), fun u hu => ?_, fun u hu => ?_⟩
    · cases cl with
      | no => cases hu
      | yes => cases hu
      | ty v =>
        unfold Cl.row at hu
        simp only at hu
        split at hu
        · rename_i hb
          cases hu
          rw [h.2.1 v rfl, Nat.eq_of_beq_eq_true hb]
        · cases hu
      | whole v =>
        unfold Cl.row at hu
        simp only at hu
        split at hu
        · rename_i hb
          cases hu
          rw [(h.2.2 v rfl).1, Nat.eq_of_beq_eq_true hb]
        · cases hu
    · cases cl with
      | no => cases hu
      | yes => cases hu
      | ty v => unfold Cl.row at hu; simp only at hu; split at hu <;> cases hu
      | whole v => unfold Cl.row at hu; simp only at hu; split at hu <;> cases hu
  · exact ⟨fun h => (by cases h), fun _ h => (by cases h), fun _ h => (by cases h)⟩
theorem row_new {cl cl2 : Cl} {off sz n : Nat} {t : TypeId} (hcl2 : cl2 = cl.row t ∧ off = 0 ∨ cl2 = .no) : ClOk cl2 t (0, 0) 0 sz n := by
  refine ⟨fun _ => ⟨rfl, rfl⟩, fun u hu => ?_, fun u hu => ?_⟩
  · rcases hcl2 with ⟨rfl, _⟩ | rfl
    · cases cl with
      | no => cases hu
      | yes => cases hu
      | ty v => unfold Cl.row at hu; simp only at hu; split at hu <;> cases hu; rfl
      | whole v => unfold Cl.row at hu; simp only at hu; split at hu <;> cases hu; rfl
    · cases hu
  · rcases hcl2 with ⟨rfl, _⟩ | rfl
    · cases cl with
      | no => cases hu
      | yes => cases hu
      | ty v => unfold Cl.row at hu; simp only at hu; split at hu <;> cases hu
      | whole v => unfold Cl.row at hu; simp only at hu; split at hu <;> cases hu
    · cases hu
/-- Appending to a slice whose capacity is not known. 't': the new name's cells. -/
theorem opn_append {ts : Array TypeId} {ty : TypeId} {args : Array Value} {i : TypeInfo} {e : TypeId} {n id off len m nx : Nat} {cl cl2 : Cl} (hcl2 : cl2 = cl.row e ∧ off = 0 ∨ cl2 = .no) {c t : Cells} {x y : Value} {new : List AV} {ns : Array Value}
    (K : AppCx P ts args i e n x) (a0 : args[0]? = some y) (hy : VRel σ (.opn id off len i.size) y) (hb : hp.get id = some (.cells c m cl)) (hm : off + len * i.size ≤ m)
    (hrm : roomOk i.bytes (len + n) = true) (hat : atomsB new = true)
    (r : R pr σ hp w) (hf : σ nx = none) (hn : VRels σ new ns.toList) (hl : new.length = n * i.size)
    (r2 : ∀ w' : World, w'.heap = w.heap → (Builtin.firstCells i.size n x).run P w' = .ok ns w' ∧ (Builtin.lenOf x).run P w' = .ok n w') (hpos : 0 < n)
    (ht : ∀ j v, j < (len + n) * i.size → t.get j = some v → (j < len * i.size ∧ c.get (off + j) = some v) ∨ (len * i.size ≤ j ∧ new[j - len * i.size]? = some v)) :
    AppOk P pr σ nx (Builtin.append_ ts ty args) w (.opn nx 0 (len + n) i.size) ((hp.put id none).set nx (.cells t ((len + n) * i.size) cl2)) (nx + 1) := by
  obtain ⟨j, o, cap, hj, hle, hr, ho, rfl⟩ := hy.opn_inv
  obtain ⟨j', hj', cs, et, fz, h1, h2, h3, h4, h5, h6⟩ := r.blk _ _ hb
  rw [hj] at hj'
  cases hj'
  have hadd : (len + n) * i.size = len * i.size + n * i.size := Nat.add_mul _ _ _
  have hns : ns.size = n * i.size := by have := hn.length; simp at this; omega
  by_cases hc : len + n ≤ cap
  · have ho := ho.resolve_right (by omega)
    subst ho
    have hcz : (len + n) * i.size ≤ cap * i.size := Nat.mul_le_mul_right _ hc
    obtain ⟨w', g1, g2, g3, g4⟩ := run_fits (P := P) (w := w) (ty := ty) K a0 hc (r2 w rfl).2 (r2 w rfl).1 h1 (by omega) h4 (atomsB_sound hat hn)
    refine ⟨_, w', σ.put nx ⟨j.blk, j.base + off, j.room - off⟩, g1, VRel.opn (i := ⟨j.blk, j.base + off, j.room - off⟩) (Sig.put_same _ _ _) hc (by show 0 + cap * i.size ≤ j.room - off; omega) (.inl (Nat.add_zero _).symm), Ext.one _ hf, ?_⟩
    refine r.rename hb hj hf rfl ⟨_, et, fz, g2, by rw [writeC_size]; simp only; omega, by simp only; omega, by rw [writeC_size]; exact h4, row_ok hcl2 h5, fun k v hk hv => ?_⟩ g3 g4
    simp only
    rw [writeC_get _ _ _ _ (by simp; omega)]
    have hsz : ns.toList.length = ns.size := by simp
    rcases ht k v hk hv with ⟨hk1, hk2⟩ | ⟨hk1, hk2⟩
    · obtain ⟨z, hz1, hz2⟩ := h6 _ _ (by omega) hk2
      rw [if_neg (by omega), show j.base + off + k = j.base + (off + k) from by omega]
      exact ⟨z, hz1, hz2.mono (Sig.put_le _ hf)⟩
    · obtain ⟨z, hz1, hz2⟩ := hn.get hk2
      rw [if_pos (by omega), show j.base + off + k - (j.base + off + len * i.size) = k - len * i.size from by omega]
      exact ⟨z, hz1, hz2.mono (Sig.put_le _ hf)⟩
  · -- a new row
    have hcz : len * i.size ≤ cap * i.size := Nat.mul_le_mul_right _ hle
    have hol : ((cs.toList.drop (j.base + off)).take (len * i.size)).length = len * i.size := by simp; omega
    have hread : ∀ w' : World, w'.heap = w.heap → (Builtin.firstCells i.size len (.slice (some ⟨j.blk, o, none⟩) len cap)).run P w' = .ok ((cs.toList.drop (j.base + off)).take (len * i.size)).toArray w' := by
      intro w' hw
      simp only [Builtin.firstCells]
      conv => lhs; rw [← hol]
      refine run_loadCells fun k z hz => ?_
      have hk : k < len * i.size := by have := (List.getElem?_eq_some_iff.1 hz).1; rw [hol] at this; exact this
      refine cell_at hw h1 ?_
      have ho := ho.resolve_right (fun h0 => by subst h0; have : len = 0 := by omega
                                                subst this; simp at hk)
      subst ho
      rw [List.getElem?_take, if_pos hk, List.getElem?_drop] at hz
      simpa using hz
    obtain ⟨zv, hz1, hz2⟩ := zeroOk_sound K.zero w
    have hz3 : ∀ w', (zeroValue e).run P w' = .ok zv w' := zero_same K.hi hz1 (zeroOk_sound K.zero)
    have hrun := run_append (P := P) (w := w) (ty := ty) K.h0 K.h1 K.hu K.hu' K.hd K.hi a0 K.a1 (r2 w rfl).2
    rw [if_neg hc, if_neg (room_limits hrm (by omega))] at hrun
    rw [run_grow rfl hread (fun w' hw => (r2 w' hw).1) hz3] at hrun
    -- what is known of the old cells
    let N := (Question.appendCap (len + n) cap e).cut (w.tape w.drawn (.appendCap (len + n) cap e))
    have hN : len + n ≤ N := cut_ge _ _ _ _
    have hNz : (len + n) * i.size + (N - (len + n)) * i.size = N * i.size := by rw [← Nat.add_mul]; congr 1; omega
    have hsz : ((((cs.toList.drop (j.base + off)).take (len * i.size)).toArray ++ ns) ++ Builtin.zeroCells zv.cells (N - (len + n))).size = N * i.size := by
      simp only [Array.size_append, List.size_toArray, hol, hns, zeroCells_toList, hz2]
      omega
    refine ⟨_, _, σ.put nx ⟨w.heap.size, 0, N * i.size⟩, hrun, VRel.opn (i := ⟨w.heap.size, 0, N * i.size⟩) (Sig.put_same _ _ _) hN (by show 0 + N * i.size ≤ N * i.size; omega) (.inl rfl), Ext.one _ hf, ?_⟩
    refine (r.drop id).new hf ⟨_, e, (0, 0), Array.getElem?_push_size, by simp only [Nat.zero_add]; exact hsz, Nat.mul_le_mul_right _ hN, noFz' _, row_new hcl2, fun k v hk hv => ?_⟩ rfl ⟨rfl, rfl⟩
    simp only [Nat.zero_add]
    rcases ht k v hk hv with ⟨hk1, hk2⟩ | ⟨hk1, hk2⟩
    · obtain ⟨z, hz1, hz2⟩ := h6 _ _ (by omega) hk2
      refine ⟨z, ?_, hz2.mono (Sig.put_le _ hf)⟩
      rw [Array.getElem?_append_left (by simp; omega), Array.getElem?_append_left (by simp; omega)]
      simp only [List.getElem?_toArray]
      rw [List.getElem?_take, if_pos hk1, List.getElem?_drop, show j.base + off + k = j.base + (off + k) from by omega]
      simpa using hz1
    · obtain ⟨z, hz1, hz2⟩ := hn.get hk2
      refine ⟨z, ?_, hz2.mono (Sig.put_le _ hf)⟩
      rw [Array.getElem?_append_left (by simp; omega), Array.getElem?_append_right (by simp; omega)]
      simp only [List.size_toArray, hol]
      simpa using hz1
end Go.Proofs.YtnlieipdeepemaaGreatDoor.AX
