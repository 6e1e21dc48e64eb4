/- AX, part 14n: ranges over maps: the beginning, the next entry. -/
import Derived.Test.YtdjeokgkeejpcaaGreatDoorAx10
import Derived.MapKept
import Derived.Maps.RangeRun
namespace Go.Proofs.YtdjeokgkeejpcaaGreatDoor.AX
open Go
variable {P : Program} {σ : Sig} {w : World} {pr : Pr} {hp : Hp}

theorem cell_at {h : Array Obj} {w : World} (hw : w.heap = h) {b o : Nat} {cs : Array Value} {e : TypeId} {fz : Nat × Nat} {x : Value} (hb : h[b]? = some (.cells cs e fz)) (hx : cs[o]? = some x) :
    w.cell? ⟨b, o, none⟩ = some x := by
  simp [World.cell?, hw, hb, hx]
theorem run_load_at {b o : Nat} {x : Value} (h : w.cell? ⟨b, o, none⟩ = some x) : (Go.load ⟨b, o, none⟩).run P w = .ok x w := by
  simp [run_load, h]
theorem run_loadCellsFrom {b o : Nat} : ∀ (n i : Nat) (xs : List Value) (acc : Array Value), xs.length = n → (∀ k x, xs[k]? = some x → w.cell? ⟨b, o + i + k, none⟩ = some x) →
    (loadCellsFrom ⟨b, o, none⟩ i n acc).run P w = .ok (acc ++ xs.toArray) w := by
  intro n
  induction n with
  | zero => intro i xs acc hl _; have : xs = [] := List.length_eq_zero_iff.1 hl; subst this; simp [loadCellsFrom]
  | succ n ih =>
    intro i xs acc hl h
    cases xs with
    | nil => simp at hl
    | cons x xs =>
      have h0 : w.cell? ⟨b, o + i, none⟩ = some x := h 0 x rfl
      simp only [loadCellsFrom, Sem.run_bind, addr_add, run_load_at h0, Result.andThen_ok]
      rw [ih (i + 1) xs (acc.push x) (by simpa using hl) (fun k y hy => by
        have := h (k + 1) y (by simpa using hy)
        rw [show o + (i + 1) + k = o + i + (k + 1) from by omega]; exact this)]
      simp
theorem run_loadCells {b o : Nat} {xs : List Value} (h : ∀ k x, xs[k]? = some x → w.cell? ⟨b, o + k, none⟩ = some x) :
    (Go.loadCells ⟨b, o, none⟩ xs.length).run P w = .ok xs.toArray w := by
  have := run_loadCellsFrom (P := P) (w := w) (b := b) (o := o) xs.length 0 xs #[] rfl (fun k x hx => by simpa using h k x hx)
  simpa [Go.loadCells] using this

theorem readN_zero (c : Cells) (off : Nat) : readN c off 0 = some [] := rfl
theorem readN_succ (c : Cells) (off n : Nat) : readN c off (n + 1) = (match c.get off with
    | some v => match readN c (off + 1) n with
      | some l => some (v :: l)
      | none => none
    | none => none) := rfl
/-- Cells that are known, read in a row. -/
theorem readN_sound {c : Cells} {m base : Nat} {cs : Array Value} (hc : ∀ j v, j < m → c.get j = some v → ∃ x, cs[base + j]? = some x ∧ VRel σ v x) :
    ∀ {n off : Nat} {l : List AV}, readN c off n = some l → off + n ≤ m → ∃ xs : List Value, xs.length = n ∧ VRels σ l xs ∧ ∀ k x, xs[k]? = some x → cs[base + off + k]? = some x := by
  intro n
  induction n with
  | zero => intro off l h _; rw [readN_zero] at h; cases h; exact ⟨[], rfl, .nil, fun k x hx => by simp at hx⟩
  | succ n ih =>
    intro off l h hle
    rw [readN_succ] at h
    split at h
    · rename_i v hv
      split at h
      · rename_i l' hl
        cases h
        obtain ⟨x, hx, hr⟩ := hc off v (by omega) hv
        obtain ⟨xs, h1, h2, h3⟩ := ih hl (by omega)
        refine ⟨x :: xs, by simp [h1], .cons hr h2, fun k y hy => ?_⟩
        cases k with
        | zero => simp at hy; subst hy; simpa using hx
        | succ k =>
          have := h3 k y (by simpa using hy)
          rw [show base + off + (k + 1) = base + (off + 1) + k from by omega]; exact this
      · cases h
    · cases h
theorem run_loadVar_one {t : TypeId} (ha : isAggT P t = some false) {b o : Nat} {x : Value} (h : w.cell? ⟨b, o, none⟩ = some x) : (loadVar t ⟨b, o, none⟩).run P w = .ok x w := by
  simp only [loadVar, Sem.run_bind, run_isAgg ha, Result.andThen_ok, Bool.false_eq_true, if_false, run_load_at h]
theorem run_loadVar_agg {t : TypeId} (ha : isAggT P t = some true) {n : Nat} (hn : sizeT P t = some n) {b o : Nat} {xs : List Value} (hl : xs.length = n)
    (h : ∀ k x, xs[k]? = some x → w.cell? ⟨b, o + k, none⟩ = some x) : (loadVar t ⟨b, o, none⟩).run P w = .ok (.agg xs.toArray) w := by
  subst hl
  simp only [loadVar, Sem.run_bind, run_isAgg ha, Result.andThen_ok, if_true, run_sizeOf hn, run_loadCells h, Sem.run_pure]

theorem loadA_sound {C : Ctx} {t : TypeId} {a v : AV} {x : Value} (h : loadA C t a hp = some v) (hx : VRel σ a x) (r : R pr σ hp w) (hg : GlOk C pr) :
    ∃ b o v', x = .pointer (some ⟨b, o, none⟩) ∧ (loadVar t ⟨b, o, none⟩).run C.P w = .ok v' w ∧ VRel σ v v' := by
  unfold loadA at h
  split at h
  · rename_i id off
    split at h
    · rename_i c n cl hb
      obtain ⟨i, hi, rfl⟩ := hx.ptr_inv
      obtain ⟨i', hi', hblk⟩ := r.blk _ _ hb
      rw [hi] at hi'
      cases hi'
      obtain ⟨cs, e, fz, h1, h2, h3, h4, h5, h6⟩ := hblk
      refine ⟨i.blk, i.base + off, ?_⟩
      unfold AX.loadCells at h
      split at h
      · rename_i ha
        split at h
        · rename_i hlt
          have hlt := Nat.le_of_ble_eq_true hlt
          obtain ⟨y, hy, hv⟩ := h6 off v hlt h
          exact ⟨y, rfl, run_loadVar_one ha (cell_at rfl h1 hy), hv⟩
        · cases h
      · rename_i ha
        split at h
        · rename_i z hz
          split at h
          · rename_i hlt
            have hlt := Nat.le_of_ble_eq_true hlt
            split at h
            · rename_i l hl
              cases h
              obtain ⟨xs, e1, e2, e3⟩ := readN_sound h6 hl hlt
              exact ⟨.agg xs.toArray, rfl, run_loadVar_agg ha hz e1 (fun k y hy => cell_at rfl h1 (e3 k y hy)), .agg (by simpa using e2)⟩
            · cases h
          · cases h
        · cases h
      · cases h
    · cases h
  · rename_i g off
    split at h
    · rename_i c hc
      split at h
      · rename_i ha
        obtain rfl := hx.gptr_inv
        obtain ⟨cs, e, fz, h1, h2⟩ := hg g c hc
        obtain ⟨y, hy, hv⟩ := h2 off v h
        exact ⟨g, off, y, rfl, run_loadVar_one ha (cell_at rfl (r.prot _ _ h1) hy), hv σ⟩
      · rename_i ha
        split at h
        · rename_i z hz
          split at h
          · rename_i l hl
            cases h
            obtain rfl := hx.gptr_inv
            obtain ⟨cs, e, fz, h1, h2⟩ := hg g c hc
            obtain ⟨xs, e1, e2, e3⟩ := readN_sound (m := off + z) (base := 0) (cs := cs) (fun j v _ hv => let ⟨x, h3, h4⟩ := h2 j v hv; ⟨x, by simpa using h3, h4 σ⟩) hl (Nat.le_refl _)
            exact ⟨g, off, .agg xs.toArray, rfl, run_loadVar_agg ha hz e1 (fun k y hy => cell_at rfl (r.prot _ _ h1) (by have := e3 k y hy; rwa [Nat.zero_add] at this)), .agg (by simpa using e2)⟩
          · cases h
        · cases h
      · cases h
    · cases h
  · cases h

/-- The first elements of a slice, as the model reads them. -/
theorem elemsA_any {z n len : Nat} {a : AV} {l : List AV} {x : Value} (h : elemsA z n a hp = some l) (hl : lenOfA a = some len) (hn : n ≤ len) (hx : VRel σ a x) (r : R pr σ hp w) :
    ∃ xs : Array Value, VRels σ l xs.toList ∧ ∀ w' : World, w'.heap = w.heap → (Builtin.firstCells z n x).run P w' = .ok xs w' ∧ (Builtin.lenOf x).run P w' = .ok len w' := by
  unfold elemsA at h
  split at h
  · cases h
    cases hl
    obtain rfl := hx.nils_inv
    exact ⟨#[], .nil, fun _ _ => ⟨rfl, rfl⟩⟩
  · rename_i id off len' cap
    cases hl
    split at h
    · rename_i c m cl hb
      split at h
      · rename_i hlt
        have hlt := Nat.le_of_ble_eq_true hlt
        obtain ⟨i, o, hi, hle, ho, rfl⟩ := hx.slice_inv
        obtain ⟨i', hi', hblk⟩ := r.blk _ _ hb
        rw [hi] at hi'
        cases hi'
        obtain ⟨cs, e, fz, h1, h2, h3, h4, h5, h6⟩ := hblk
        obtain ⟨xs, e1, e2, e3⟩ := readN_sound h6 h hlt
        refine ⟨xs.toArray, by simpa using e2, fun w' hw => ⟨?_, rfl⟩⟩
        have e1 : xs.length = n * z := e1
        simp only [Builtin.firstCells]
        rw [← e1]
        refine run_loadCells fun k y hy => cell_at hw h1 ?_
        rcases ho with ho | ho
        · rw [ho]; exact e3 k y hy
        · have : xs.length = 0 := by rw [e1, show n = 0 from by omega]; simp
          have := List.length_eq_zero_iff.1 this
          subst this; simp at hy
      · cases h
    · cases h
  · rename_i id off len' sz
    cases hl
    split at h
    · rename_i c m cl hb
      split at h
      · rename_i hlt
        have hlt := Nat.le_of_ble_eq_true hlt
        obtain ⟨i, o, cap, hi, hle, hr, ho, rfl⟩ := hx.opn_inv
        obtain ⟨i', hi', hblk⟩ := r.blk _ _ hb
        rw [hi] at hi'
        cases hi'
        obtain ⟨cs, e, fz, h1, h2, h3, h4, h5, h6⟩ := hblk
        obtain ⟨xs, e1, e2, e3⟩ := readN_sound h6 h hlt
        refine ⟨xs.toArray, by simpa using e2, fun w' hw => ⟨?_, rfl⟩⟩
        have e1 : xs.length = n * z := e1
        simp only [Builtin.firstCells]
        rw [← e1]
        refine run_loadCells fun k y hy => cell_at hw h1 ?_
        rcases ho with ho | ho
        · rw [ho]; exact e3 k y hy
        · have : xs.length = 0 := by rw [e1, show n = 0 from by omega]; simp
          have := List.length_eq_zero_iff.1 this
          subst this; simp at hy
      · cases h
    · cases h
  · rename_i s
    cases h
    cases hl
    obtain ⟨bs, rfl, hbs⟩ := hx.str_inv
    refine ⟨(bs.extract 0 n).data.map fun b => .int .u8 b.toNat, ?_, fun w' hw => ⟨rfl, ?_⟩⟩
    · rw [← hbs]
      have := VRels.map (σ := σ) (f := fun b : UInt8 => AV.int .u8 (Int.ofNat b.toNat)) (g := fun b : UInt8 => Value.int .u8 b.toNat) (l := bs.data.toList.take n) (fun x _ => .int _ _)
      simpa [bytesOf, ByteArray.data_extract, Array.toList_extract, List.extract_eq_take_drop, ← List.map_take, Function.comp_def] using this
    · have : bs.size = s.length := by rw [← hbs]; simp [bytesOf]
      simp [Builtin.lenOf, this]
  · cases h
theorem elemsA_sound {z n len : Nat} {a : AV} {l : List AV} {x : Value} (h : elemsA z n a hp = some l) (hl : lenOfA a = some len) (hn : n ≤ len) (hx : VRel σ a x) (r : R pr σ hp w) :
    ∃ xs : Array Value, (Builtin.firstCells z n x).run P w = .ok xs w ∧ VRels σ l xs.toList ∧ (Builtin.lenOf x).run P w = .ok len w := by
  obtain ⟨xs, h1, h2⟩ := elemsA_any (P := P) h hl hn hx r
  exact ⟨xs, (h2 w rfl).1, h1, (h2 w rfl).2⟩
end Go.Proofs.YtdjeokgkeejpcaaGreatDoor.AX

namespace Go.Proofs.YtdjeokgkeejpcaaGreatDoor.AX
open Go
variable {P : Program} {σ : Sig} {w : World} {pr : Pr} {hp : Hp}

theorem numsOf_cons (v : AV) (l : List AV) : numsOf (v :: l) = (match numOf v, numsOf l with
    | some n, some r => some (n :: r)
    | _, _ => none) := rfl
theorem numOf_eq {v : AV} {n : Int} (h : numOf v = some n) : v = .int .i64 n := by
  unfold numOf at h
  split at h
  · cases h; rfl
  · cases h
theorem numsOf_eq : ∀ {l : List AV} {x : List Int}, numsOf l = some x → l = x.map (AV.int .i64)
  | [], x, h => by cases h; rfl
  | v :: l, x, h => by
    rw [numsOf_cons] at h
    split at h
    · rename_i n r h1 h2
      cases h
      rw [List.map_cons, numOf_eq h1, numsOf_eq h2]
    · cases h
theorem eqL_cons (a b : Int) (l m : List Int) : eqL (a :: l) (b :: m) = (Bool.rec false (eqL l m) (eqI a b) : Bool) := rfl
theorem eqL_eq : ∀ (l m : List Int), eqL l m = decide (l = m)
  | [], [] => by simp [eqL]
  | [], _ :: _ => by simp [eqL]
  | _ :: _, [] => by simp [eqL]
  | a :: l, b :: m => by
    rw [eqL_cons, eqI_eq, eqL_eq l m]
    by_cases h : a = b
    · subst h; simp
    · have : (a == b) = false := by simpa using h
      rw [this]
      simp [h]
/-- A flat value, of the type's own make. -/
def flatV (P : Program) (t : TypeId) (x : List Int) : Option AV :=
  match isAggT P t with
  | some true => some (.agg (x.map (AV.int .i64)))
  | some false => (x.map (AV.int .i64))[0]?
  | none => none
theorem flat_size {d : Nat} {t : TypeId} {n : Nat} (h : flatI P d t = some n) : (isAggT P t = some true) ∨ (isAggT P t = some false ∧ n = 1 ∧ P.underlying t = some (.int .i64)) := by
  cases d with
  | zero => cases h
  | succ d =>
    unfold flatI at h
    split at h
    · rename_i hu
      split at h
      · cases h; exact .inr ⟨by simp [isAggT, hu], rfl, hu⟩
      · cases h
    · rename_i hu; exact .inl (by simp [isAggT, hu])
    · rename_i hu; exact .inl (by simp [isAggT, hu])
    · cases h
theorem part_flat {d : Nat} {t : TypeId} {n off : Nat} {cs : List Int} (h : flatI P d t = some n) (hz : sizeT P t = some n) (hn : 0 < n ∨ isAggT P t = some true) (hle : off + n ≤ cs.length) :
    partA P t (cs.map (AV.int .i64)) off = flatV P t ((cs.drop off).take n) := by
  unfold partA flatV
  rcases flat_size h with ha | ⟨ha, rfl, _⟩
  · rw [ha, hz]
    simp [List.map_drop, List.map_take]
  · rw [ha]
    simp only [List.getElem?_map, List.getElem?_take]
    simp
theorem both_some' {f : AV → AV → Option Bool} {a b : AV} : both f (some a) (some b) = f a b := rfl
theorem flat_some {d : Nat} {t : TypeId} {n : Nat} {x : List Int} (h : flatI P d t = some n) (hx : x.length = n) : ∃ a, flatV P t x = some a := by
  unfold flatV
  rcases flat_size h with ha | ⟨ha, rfl, _⟩
  · rw [ha]; exact ⟨_, rfl⟩
  · rw [ha]
    cases x with
    | nil => simp at hx
    | cons v l => exact ⟨_, rfl⟩
theorem take_split {x y : List Int} (off k m : Nat) : (x.drop off).take (k + m) = (y.drop off).take (k + m) ↔ (x.drop off).take k = (y.drop off).take k ∧ (x.drop (off + k)).take m = (y.drop (off + k)).take m := by
  have e : ∀ z : List Int, (z.drop off).take (k + m) = (z.drop off).take k ++ (z.drop (off + k)).take m := fun z => by
    rw [List.take_add, List.drop_drop]
  constructor
  · intro h
    refine ⟨?_, ?_⟩
    · have := congrArg (List.take k) h
      simpa [List.take_take, Nat.min_eq_left (Nat.le_add_right k m)] using this
    · have := congrArg (List.drop k) h
      rw [e x, e y] at h
      have h2 := congrArg (List.drop k) h
      have q : ∀ z : List Int, List.drop k ((z.drop off).take (k + m)) = (z.drop (off + k)).take m := fun z => by
        rw [List.drop_take, List.drop_drop]; congr 1; omega
      rw [q x, q y] at this
      exact this
  · rintro ⟨h1, h2⟩
    rw [e x, e y, h1, h2]
theorem flat_arr {d D : Nat} {e : TypeId} {k : Nat} {x y : List Int} (hk : flatI P d e = some k) (hz : sizeT P e = some k)
    (ih : ∀ (u v : List Int) (a b : AV), u.length = k → v.length = k → flatV P e u = some a → flatV P e v = some b → eqA P D e a b = some (decide (u = v))) :
    ∀ (n i : Nat), (i + n) * k ≤ x.length → (i + n) * k ≤ y.length → (0 < k ∨ isAggT P e = some true) →
      arrEq (fun i => both (eqA P D e) (partA P e (x.map (AV.int .i64)) (i * k)) (partA P e (y.map (AV.int .i64)) (i * k))) n i = some (decide ((x.drop (i * k)).take (n * k) = (y.drop (i * k)).take (n * k)))
  | 0, i, _, _, _ => by simp [arrEq]
  | n + 1, i, hx, hy, h0 => by
    have e1 : (i + (n + 1)) * k = i * k + k + n * k := by rw [Nat.add_mul, Nat.add_mul]; omega
    have e2 : (i + 1 + n) * k = (i + (n + 1)) * k := by congr 1; omega
    have l1 : ((x.drop (i * k)).take k).length = k := by simp; omega
    have l2 : ((y.drop (i * k)).take k).length = k := by simp; omega
    obtain ⟨a, ha⟩ := flat_some (P := P) hk l1
    obtain ⟨b, hb⟩ := flat_some (P := P) hk l2
    have r := ih _ _ a b l1 l2 ha hb
    unfold arrEq
    simp only [part_flat hk hz h0 (show i * k + k ≤ x.length by omega), part_flat hk hz h0 (show i * k + k ≤ y.length by omega), ha, hb, both_some', r]
    have rc := flat_arr (x := x) (y := y) hk hz ih n (i + 1) (by omega) (by omega) h0
    have e3 : (n + 1) * k = k + n * k := by rw [Nat.add_mul]; omega
    have e4 : (i + 1) * k = i * k + k := by rw [Nat.add_mul]; omega
    rw [e4] at rc
    have sp := take_split (x := x) (y := y) (i * k) k (n * k)
    rw [e3]
    by_cases h : (x.drop (i * k)).take k = (y.drop (i * k)).take k
    · simp only [h, decide_true]
      rw [rc]
      congr 1
      rw [decide_eq_decide, sp]
      simp [h]
    · simp only [h, decide_false]
      congr 1
      symm
      rw [decide_eq_false_iff_not, sp]
      simp [h]
theorem flat_fs {d D : Nat} {x y : List Int}
    (ih : ∀ (t : TypeId) (k : Nat), flatI P d t = some k → sizeT P t = some k → (0 < k ∨ isAggT P t = some true) ∧ ∀ (u v : List Int) (a b : AV), u.length = k → v.length = k → flatV P t u = some a → flatV P t v = some b → eqA P D t a b = some (decide (u = v))) :
    ∀ (l : List Field) (off n : Nat), flatFs (flatI P d) (sizeT P) l off = some n → n ≤ x.length → n ≤ y.length → off ≤ n ∧
      fldEq (fun f => both (eqA P D f.type) (partA P f.type (x.map (AV.int .i64)) f.offset) (partA P f.type (y.map (AV.int .i64)) f.offset)) l = some (decide ((x.drop off).take (n - off) = (y.drop off).take (n - off)))
  | [], off, n, h, _, _ => by
    simp only [flatFs, Option.some.injEq] at h
    subst h
    exact ⟨Nat.le_refl _, by simp [fldEq]⟩
  | f :: l, off, n, h, hx, hy => by
    unfold flatFs at h
    split at h
    · rename_i k k' hnm hoff hk hz
      split at h
      · rename_i hkk
        have hkk := Nat.eq_of_beq_eq_true hkk
        subst hkk
        have hoff := Nat.eq_of_beq_eq_true hoff
        obtain ⟨h0, ihf⟩ := ih f.type k hk hz
        obtain ⟨hle, rc⟩ := flat_fs ih l (off + k) n h hx hy
        have l1 : ((x.drop off).take k).length = k := by simp; omega
        have l2 : ((y.drop off).take k).length = k := by simp; omega
        obtain ⟨a, ha⟩ := flat_some (P := P) hk l1
        obtain ⟨b, hb⟩ := flat_some (P := P) hk l2
        have r := ihf _ _ a b l1 l2 ha hb
        refine ⟨by omega, ?_⟩
        unfold fldEq
        simp only [hnm, hoff, part_flat hk hz h0 (show off + k ≤ x.length by omega), part_flat hk hz h0 (show off + k ≤ y.length by omega), ha, hb, both_some', r]
        have sp := take_split (x := x) (y := y) off k (n - (off + k))
        rw [show k + (n - (off + k)) = n - off from by omega] at sp
        by_cases h : (x.drop off).take k = (y.drop off).take k
        · simp only [h, decide_true]
          rw [rc]
          congr 1
          rw [decide_eq_decide, sp]
          simp [h]
        · simp only [h, decide_false]
          congr 1
          symm
          rw [decide_eq_false_iff_not, sp]
          simp [h]
      · cases h
    · cases h
theorem flat_pos {d : Nat} {t : TypeId} {n : Nat} (h : flatI P d t = some n) : 0 < n ∨ isAggT P t = some true := by
  rcases flat_size h with ha | ⟨_, rfl, _⟩
  · exact .inr ha
  · exact .inl Nat.one_pos
theorem flat_eq : ∀ (d D : Nat), d ≤ D → ∀ (t : TypeId) (n : Nat), flatI P d t = some n → ∀ (u v : List Int) (a b : AV), u.length = n → v.length = n → flatV P t u = some a → flatV P t v = some b → eqA P D t a b = some (decide (u = v)) := by
  intro d
  induction d with
  | zero => intro D _ t n h; cases h
  | succ d ih =>
    intro D hD t n h u v a b hu hv ha hb
    obtain ⟨D, rfl⟩ : ∃ D', D = D' + 1 := ⟨D - 1, by omega⟩
    unfold flatI at h
    split at h
    · rename_i hut
      split at h
      · cases h
        have hag : isAggT P t = some false := by simp [isAggT, hut]
        match u, v, hu, hv with
        | [p], [q], _, _ =>
          unfold flatV at ha hb
          rw [hag] at ha hb
          cases ha
          cases hb
          unfold eqA
          simp only [hut, kindEq]
          rw [eqI_eq]
          by_cases hpq : p = q <;> simp [hpq]
      · cases h
    · rename_i len e hut
      split at h
      · rename_i k k' hk hz
        split at h
        · rename_i hkk
          have hkk := Nat.eq_of_beq_eq_true hkk
          subst hkk
          cases h
          have hag : isAggT P t = some true := by simp [isAggT, hut]
          unfold flatV at ha hb
          rw [hag] at ha hb
          cases ha
          cases hb
          unfold eqA
          simp only [hut, hz]
          have := flat_arr (D := D) (x := u) (y := v) hk hz (fun p q a b h1 h2 h3 h4 => ih D (by omega) e k hk p q a b h1 h2 h3 h4) len 0 (by simp; omega) (by simp; omega) (flat_pos hk)
          rw [this]
          simp only [Nat.zero_mul, List.drop_zero]
          rw [List.take_of_length_le (by omega), List.take_of_length_le (by omega)]
        · cases h
      · cases h
    · rename_i fs hut
      split at h
      · rename_i hst
        have hag : isAggT P t = some true := by simp [isAggT, hut]
        unfold flatV at ha hb
        rw [hag] at ha hb
        cases ha
        cases hb
        unfold eqA
        simp only [hut, hst]
        have := (flat_fs (D := D) (x := u) (y := v) (fun t k hk hz => ⟨flat_pos hk, fun p q a b h1 h2 h3 h4 => ih D (by omega) t k hk p q a b h1 h2 h3 h4⟩) fs.toList 0 n h (by omega) (by omega)).2
        rw [this]
        simp only [Nat.sub_zero, List.drop_zero]
        rw [List.take_of_length_le (by omega), List.take_of_length_le (by omega)]
      · cases h
    · cases h
/-- The look at a flat key passes. -/
theorem check_flat : ∀ (d D : Nat), d ≤ D → ∀ (t : TypeId) (n : Nat), flatI P d t = some n → ∀ (x : List Int) (v : Value) (em : Bool), x.length = n → (isAggT P t = some true → v = .agg (x.map (Value.int .i64)).toArray) → (isAggT P t = some false → ∃ k m, v = .int k m) →
    (Instr.checkKey em D t v).run P w = .ok () w := by
  intro d
  induction d with
  | zero => intro D _ t n h; cases h
  | succ d ih =>
    intro D hD t n h x v em hx hv1 hv2
    obtain ⟨D, rfl⟩ : ∃ D', D = D' + 1 := ⟨D - 1, by omega⟩
    have part_ok : ∀ (e : TypeId) (k off : Nat), flatI P d e = some k → sizeT P e = some k → off + k ≤ x.length → ∃ y, (part e (x.map (Value.int .i64)).toArray off).run P w = .ok y w ∧ (Instr.checkKey em D e y).run P w = .ok () w := by
      intro e k off hk hz hle
      have hp := part_flat (P := P) (cs := x) hk hz (flat_pos hk) hle
      have l1 : ((x.drop off).take k).length = k := by simp; omega
      obtain ⟨a, ha⟩ := flat_some (P := P) hk l1
      rw [ha] at hp
      have hr : VRels (fun _ => none) (x.map (AV.int .i64)) (x.map (Value.int .i64)).toArray.toList := by
        have := VRels.map (σ := fun _ => none) (f := AV.int .i64) (g := Value.int .i64) (l := x) (fun z _ => .int _ _)
        simpa using this
      obtain ⟨y, hy, hyr⟩ := part_sound (w := w) hp hr
      refine ⟨y, hy, ih D (by omega) e k hk _ y em l1 (fun hag => ?_) (fun hag => ?_)⟩
      · unfold flatV at ha
        rw [hag] at ha
        cases ha
        obtain ⟨vs, rfl, hvs⟩ := hyr.agg_inv
        congr 1
        have : ∀ (l : List Int) (xs : List Value), VRels (fun _ => none) (l.map (AV.int .i64)) xs → xs = l.map (Value.int .i64) := by
          intro l
          induction l with
          | nil => intro xs h; cases h; rfl
          | cons z l ih => intro xs h; cases h with | cons h1 h2 => rw [h1.int_inv, ih _ h2]; rfl
        have := this _ _ hvs
        rw [← this]
      · unfold flatV at ha
        rw [hag] at ha
        rw [List.getElem?_map] at ha
        cases hq : ((x.drop off).take k)[0]? with
        | none => rw [hq] at ha; cases ha
        | some z =>
          rw [hq] at ha
          cases ha
          exact ⟨_, _, hyr.int_inv⟩
    unfold flatI at h
    split at h
    · rename_i hut
      obtain ⟨k, m, rfl⟩ := hv2 (by simp [isAggT, hut])
      unfold Instr.checkKey
      simp only [Sem.run_bind, run_underlying_some hut, Result.andThen_ok, Sem.run_pure]
    · rename_i len e hut
      split at h
      · rename_i k k' hk hz
        split at h
        · rename_i hkk
          have hkk := Nat.eq_of_beq_eq_true hkk
          subst hkk
          cases h
          obtain rfl := hv1 (by simp [isAggT, hut])
          have loop : ∀ (n i : Nat), i + n ≤ len → (forIn (List.range' i n) PUnit.unit fun i (_ : PUnit) => do
              Instr.checkKey em D e (← part e (x.map (Value.int .i64)).toArray (i * (← sizeOf e)))
              pure (ForInStep.yield PUnit.unit) : Sem PUnit).run P w = .ok PUnit.unit w := by
            intro n
            induction n with
            | zero => intro i _; simp
            | succ n ihn =>
              intro i hi
              rw [List.range'_succ, List.forIn_cons]
              have hle : i * k + k ≤ x.length := by
                rw [hx]
                have : (i + 1) * k ≤ len * k := Nat.mul_le_mul_right _ (by omega)
                rw [Nat.add_mul] at this
                omega
              obtain ⟨y, h1, h2⟩ := part_ok e k (i * k) hk hz hle
              simp only [Sem.run_bind, run_sizeOf hz, Result.andThen_ok, h1, h2, Sem.run_pure]
              exact ihn (i + 1) (by omega)
          have := loop len 0 (by omega)
          unfold Instr.checkKey
          simp only [Sem.run_bind, run_underlying_some hut, Result.andThen_ok, Std.Legacy.Range.forIn_eq_forIn_range', Std.Legacy.Range.size, Nat.sub_zero, Nat.add_one_sub_one, Nat.div_one]
          simp at this ⊢
          simp [this]
        · cases h
      · cases h
    · rename_i fs hut
      split at h
      · rename_i hst
        obtain rfl := hv1 (by simp [isAggT, hut])
        have loop : ∀ (l : List Field) (off : Nat), flatFs (flatI P d) (sizeT P) l off = some n → off ≤ n ∧ (forIn l PUnit.unit fun f (_ : PUnit) => do
            if f.name ≠ "_" then Instr.checkKey em D f.type (← part f.type (x.map (Value.int .i64)).toArray f.offset)
            pure (ForInStep.yield PUnit.unit) : Sem PUnit).run P w = .ok PUnit.unit w := by
          intro l
          induction l with
          | nil => intro off h; simp only [flatFs, Option.some.injEq] at h; subst h; exact ⟨Nat.le_refl _, by simp⟩
          | cons f l ihl =>
            intro off h
            unfold flatFs at h
            split at h
            · rename_i k k' hnm hoff hk hz
              split at h
              · rename_i hkk
                have hkk := Nat.eq_of_beq_eq_true hkk
                subst hkk
                have hoff := Nat.eq_of_beq_eq_true hoff
                obtain ⟨hle, rc⟩ := ihl _ h
                obtain ⟨y, h1, h2⟩ := part_ok f.type k off hk hz (by omega)
                have hnm : f.name ≠ "_" := by simpa using hnm
                refine ⟨by omega, ?_⟩
                rw [List.forIn_cons]
                simp only [ne_eq, hnm, not_false_eq_true, if_true, Sem.run_bind, hoff, h1, Result.andThen_ok, h2, Sem.run_pure]
                exact rc
              · cases h
            · cases h
        have := (loop fs.toList 0 h).2
        unfold Instr.checkKey
        simp only [Sem.run_bind, run_underlying_some hut, Result.andThen_ok, ← Array.forIn_toList]
        simp at this ⊢
        simp [this]
      · cases h
    · cases h
end Go.Proofs.YtdjeokgkeejpcaaGreatDoor.AX

namespace Go.Proofs.YtdjeokgkeejpcaaGreatDoor.AX
open Go
variable {P : Program} {σ : Sig} {w : World} {pr : Pr} {hp : Hp}

theorem bytes_beq (x y : ByteArray) : (x == y) = (x.data == y.data) := rfl
theorem eqB_bytes {x y : ByteArray} : eqB (bytesOf x) (bytesOf y) = (x == y) := by
  rw [bytesOf, bytesOf, eqB_eq, bytes_beq, Bool.eq_iff_iff]
  simp
theorem keyEq_spec {d : TypeDesc} {a b : AV} {x y : Value} {r : Bool} (h : keyEq d a b = some r) (ha : VRel σ a x) (hb : VRel σ b y) : Instr.sameNow d x y = some r ∧ (r = true → Instr.sameBits 10000 y x = true) := by
  unfold keyEq at h
  split at h
  · split at h
    · rename_i k m k' n
      obtain rfl := ha.int_inv
      obtain rfl := hb.int_inv
      split at h
      · rename_i hk
        have hk := kindEq_eq hk
        subst hk
        cases h
        rw [eqI_eq]
        refine ⟨by simp [Instr.sameNow], fun hmn => ?_⟩
        have hmn : m = n := eq_of_beq hmn
        subst hmn
        simp [Instr.sameBits]
      · cases h
    · cases h
  · split at h
    · rename_i s u
      obtain ⟨s', rfl, rfl⟩ := ha.str_inv
      obtain ⟨u', rfl, rfl⟩ := hb.str_inv
      cases h
      rw [eqB_bytes]
      refine ⟨by simp [Instr.sameNow], fun hmn => ?_⟩
      rw [bytes_beq] at hmn
      have hmn : s'.data = u'.data := eq_of_beq hmn
      simp [Instr.sameBits, bytes_beq, hmn]
    · cases h
  · split at h
    · rename_i s u
      obtain rfl := ha.bool_inv
      obtain rfl := hb.bool_inv
      cases h
      refine ⟨by simp [Instr.sameNow], fun hmn => ?_⟩
      have hmn : s = u := eq_of_beq hmn
      subst hmn
      simp [Instr.sameBits]
    · cases h
  · cases h
theorem findA_nil (d : TypeDesc) (k : AV) : findA d k [] = some none := rfl
theorem findA_cons (d : TypeDesc) (k : AV) (e : AV × AV) (es : List (AV × AV)) : findA d k (e :: es) = (match keyEq d k e.1 with
    | none => none
    | some true => some (some e.2)
    | some false => findA d k es) := by
  show Option.rec (motive := fun _ => Option (Option AV)) none (fun b => Bool.rec (findA d k es) (some (some e.2)) b) (keyEq d k e.1) = _
  cases keyEq d k e.1 with
  | none => rfl
  | some b => cases b <;> rfl
theorem findA_sound {d : TypeDesc} {k : AV} {key : Value} (hk : VRel σ k key) : ∀ {es : List (AV × AV)} {ms : List MapEntry} {r : Option AV} (i : Nat), findA d k es = some r → EntsRel σ es ms →
    (r = none ∧ Instr.findNow d key ms i = some none) ∨ ∃ v j y, r = some v ∧ Instr.findNow d key ms i = some (some (j, y)) ∧ VRel σ v y
  | [], [], r, i, h, _ => by
    rw [findA_nil] at h
    cases h
    exact .inl ⟨rfl, rfl⟩
  | e :: es, m :: ms, r, i, h, ⟨h1, h2, h3⟩ => by
    rw [findA_cons] at h
    split at h
    · cases h
    · rename_i hb
      cases h
      exact .inr ⟨_, i, m.val, rfl, by simp [Instr.findNow, (keyEq_spec hb hk h1).1], h2⟩
    · rename_i hb
      rcases findA_sound hk (i + 1) h h3 with ⟨g1, g2⟩ | ⟨v, j, y, g1, g2, g3⟩
      · exact .inl ⟨g1, by simp [Instr.findNow, (keyEq_spec hb hk h1).1, g2]⟩
      · exact .inr ⟨v, j, y, g1, by simp [Instr.findNow, (keyEq_spec hb hk h1).1, g2], g3⟩
  | [], _ :: _, _, _, _, h => h.elim
  | _ :: _, [], _, _, _, h => h.elim
theorem entsA_sound {x : AV} {y : Value} {es : List (AV × AV)} (h : entsA x hp = some es) (hx : VRel σ x y) (r : R pr σ hp w) :
    (y = .map none ∧ es = []) ∨ ∃ b ms clock, y = .map (some b) ∧ w.heap[b]? = some (.map ms clock) ∧ EntsRel σ es ms.toList := by
  unfold entsA at h
  split at h
  · cases h; exact .inl ⟨hx.nilm_inv, rfl⟩
  · split at h
    · rename_i id es' bs clock hb
      cases h
      obtain ⟨i, hi, rfl⟩ := hx.map_inv
      obtain ⟨i', hi', ms, h1, h2, _⟩ := r.blk _ _ hb
      rw [hi] at hi'
      cases hi'
      exact .inr ⟨_, _, _, rfl, h1, h2⟩
    · cases h
  · cases h
theorem run_check {kt : TypeId} {d : TypeDesc} (hd : P.underlying kt = some d) (hk : keyD d = true) (e : Bool) (n : Nat) (v : Value) : (Instr.checkKey e (n + 1) kt v).run P w = .ok () w := by
  unfold Instr.checkKey
  simp only [Sem.run_bind, run_underlying_some hd, Result.andThen_ok]
  cases d <;> first | (cases hk; done) | rfl
theorem okA_rel {ok b : Bool} {v : AV} {y : Value} (h : VRel σ v y) : VRel σ (okA ok v b) (if ok then .tuple #[y, .bool b] else y) := by
  cases ok
  · exact h
  · exact .tup (.cons h (.cons (.bool b) .nil))
theorem kkind_one {kt : TypeId} {d : TypeDesc} (h : kkind P kt = .one d) : P.underlying kt = some d ∧ keyD d = true := by
  unfold kkind at h
  split at h
  · rename_i d' hd
    split at h
    · rename_i hk
      cases h
      exact ⟨hd, hk⟩
    · split at h <;> cases h
  · cases h
theorem kkind_flat {kt : TypeId} {n : Nat} (h : kkind P kt = .flat n) : (∃ d, P.underlying kt = some d ∧ keyD d = false) ∧ isAggT P kt = some true ∧ flatI P 10 kt = some n := by
  unfold kkind at h
  split at h
  · rename_i d' hd
    split at h
    · cases h
    · rename_i hk
      split at h
      · rename_i h1 h2
        cases h
        exact ⟨⟨_, hd, hk⟩, h1, h2⟩
      · cases h
  · cases h
theorem keyX_sound {n : Nat} {a : AV} {x : List Int} {y : Value} (h : keyX n a = some x) (hr : VRel σ a y) : x.length = n ∧ a = .agg (x.map (AV.int .i64)) ∧ y = .agg (x.map (Value.int .i64)).toArray := by
  unfold keyX at h
  split at h
  · rename_i l
    split at h
    · rename_i z hz
      split at h
      · rename_i hl
        cases h
        have hl := Nat.eq_of_beq_eq_true hl
        have e := numsOf_eq hz
        subst e
        obtain ⟨vs, rfl, hvs⟩ := hr.agg_inv
        refine ⟨hl, rfl, ?_⟩
        have : ∀ (l : List Int) (xs : List Value), VRels σ (l.map (AV.int .i64)) xs → xs = l.map (Value.int .i64) := by
          intro l
          induction l with
          | nil => intro xs h; cases h; rfl
          | cons z l ih => intro xs h; cases h with | cons h1 h2 => rw [h1.int_inv, ih _ h2]; rfl
        rw [← this _ _ hvs]
      · cases h
    · cases h
  · cases h
theorem flat_equal {kt : TypeId} {n : Nat} (ha : isAggT P kt = some true) (hf : flatI P 10 kt = some n) {x y : List Int} (hx : x.length = n) (hy : y.length = n) :
    (Op.equal kt (.agg (x.map (Value.int .i64)).toArray) (.agg (y.map (Value.int .i64)).toArray)).run P w = .ok (eqL x y) w := by
  have h := flat_eq 10 10000 (by omega) kt n hf x y _ _ hx hy (by unfold flatV; rw [ha]) (by unfold flatV; rw [ha])
  have hr : ∀ z : List Int, VRel (fun _ => none) (.agg (z.map (AV.int .i64))) (.agg (z.map (Value.int .i64)).toArray) := fun z => by
    have := VRels.map (σ := fun _ => none) (f := AV.int .i64) (g := Value.int .i64) (l := z) (fun z _ => .int _ _)
    exact .agg (by simpa using this)
  rw [eqL_eq]
  exact eqA_sound 10000 h (hr x) (hr y)
theorem sameNow_flat {d : TypeDesc} {a : Value} {b : Value} (hd : keyD d = false) : Instr.sameNow d a b = none := by
  cases d <;> first | (cases hd; done) | (cases a <;> cases b <;> rfl)
/-- The look for a flat key. -/
theorem findX_sound {kt : TypeId} {n : Nat} (ha : isAggT P kt = some true) (hf : flatI P 10 kt = some n) {x : List Int} (hx : x.length = n) : ∀ {es : List (AV × AV)} {ms : List MapEntry} {r : Option AV} (i : Nat), findX n x es = some r → EntsRel σ es ms →
    (r = none ∧ (Instr.findAsking kt (.agg (x.map (Value.int .i64)).toArray) ms i).run P w = .ok none w) ∨ ∃ v j y, r = some v ∧ (Instr.findAsking kt (.agg (x.map (Value.int .i64)).toArray) ms i).run P w = .ok (some (j, y)) w ∧ VRel σ v y
  | [], [], r, i, h, _ => by
    have h : some none = some r := h
    cases h
    exact .inl ⟨rfl, rfl⟩
  | e :: es, m :: ms, r, i, h, ⟨h1, h2, h3⟩ => by
    have h : (Option.rec none (fun y => Bool.rec (findX n x es) (some (some e.2)) (eqL x y)) (keyX n e.1) : Option (Option AV)) = some r := h
    cases hk : keyX n e.1 with
    | none => rw [hk] at h; cases h
    | some y =>
      rw [hk] at h
      obtain ⟨g1, g2, g3⟩ := keyX_sound hk h1
      have he := flat_equal (w := w) ha hf hx g1
      cases hb : eqL x y with
      | true =>
        have h : (Bool.rec (findX n x es) (some (some e.2)) (eqL x y) : Option (Option AV)) = some r := h
        rw [hb] at h
        cases h
        refine .inr ⟨_, i, m.val, rfl, ?_, h2⟩
        rw [Instr.findAsking, g3]
        simp only [Sem.run_bind, he, hb, Result.andThen_ok, if_true, Sem.run_pure]
      | false =>
        have h : (Bool.rec (findX n x es) (some (some e.2)) (eqL x y) : Option (Option AV)) = some r := h
        rw [hb] at h
        have step : (Instr.findAsking kt (.agg (x.map (Value.int .i64)).toArray) (m :: ms) i).run P w = (Instr.findAsking kt (.agg (x.map (Value.int .i64)).toArray) ms (i + 1)).run P w := by
          rw [Instr.findAsking, g3]
          simp only [Sem.run_bind, he, hb, Result.andThen_ok, Bool.false_eq_true, if_false]
        rcases findX_sound ha hf hx (i + 1) h h3 with ⟨q1, q2⟩ | ⟨v, j, z, q1, q2, q3⟩
        · exact .inl ⟨q1, by rw [step]; exact q2⟩
        · exact .inr ⟨v, j, z, q1, by rw [step]; exact q2, q3⟩
  | [], _ :: _, _, _, _, h => h.elim
  | _ :: _, [], _, _, _, h => h.elim
theorem findF_sound {kt : TypeId} {n : Nat} {k : AV} {key : Value} (hkk : kkind P kt = .flat n) (hk : VRel σ k key) {es : List (AV × AV)} {ms : List MapEntry} {r : Option AV} (h : findF n k es = some r) (he : EntsRel σ es ms) (em : Bool) :
    (Instr.checkKey em 10000 kt key).run P w = .ok () w ∧ ((r = none ∧ (Instr.findKey kt key ms).run P w = .ok none w) ∨ ∃ v j y, r = some v ∧ (Instr.findKey kt key ms).run P w = .ok (some (j, y)) w ∧ VRel σ v y) := by
  obtain ⟨⟨d, hd, hdk⟩, ha, hf⟩ := kkind_flat hkk
  unfold findF at h
  split at h
  · rename_i x hx
    obtain ⟨g1, g2, rfl⟩ := keyX_sound hx hk
    refine ⟨check_flat 10 10000 (by omega) kt n hf x _ em g1 (fun _ => rfl) (fun h => by rw [ha] at h; cases h), ?_⟩
    have hfk : (Instr.findKey kt (.agg (x.map (Value.int .i64)).toArray) ms).run P w = (Instr.findAsking kt (.agg (x.map (Value.int .i64)).toArray) ms).run P w := by
      cases ms with
      | nil => simp only [Instr.findKey, Sem.run_bind, run_underlying_some hd, Result.andThen_ok, Instr.findNow]; rfl
      | cons m ms => simp only [Instr.findKey, Sem.run_bind, run_underlying_some hd, Result.andThen_ok, Instr.findNow, sameNow_flat hdk]
    rw [hfk]
    exact findX_sound ha hf g1 0 h he
  · cases h
theorem lookupA_sound {t : TypeId} {x k v : AV} {ok : Bool} {y key : Value} (h : lookupA P t x k ok hp = some v) (hx : VRel σ x y) (hk : VRel σ k key) (r : R pr σ hp w) :
    ∃ v', (Instr.lookup t y key ok).run P w = .ok v' w ∧ VRel σ v v' := by
  unfold lookupA at h
  split at h
  · rename_i kt e ht
    split at h
    · rename_i d es hkk he
      obtain ⟨hd, hkd⟩ := kkind_one hkk
      have key2 : ∀ ms : Array MapEntry, EntsRel σ es ms.toList → (Instr.lookup t y key ok).run P w = (do
          Instr.checkKey ms.isEmpty 10000 kt key
          let (v, ok') ← match ← Instr.findKey kt key ms.toList with
            | some (_, v) => pure (v, true)
            | none => pure (← zeroValue e, false)
          pure (if ok then .tuple #[v, .bool ok'] else v) : Sem Value).run P w → ∃ v', (Instr.lookup t y key ok).run P w = .ok v' w ∧ VRel σ v v' := by
        intro ms hms hrun
        rw [hrun]
        split at h
        · rename_i v0 hf
          cases h
          rcases findA_sound hk 0 hf hms with ⟨g1, _⟩ | ⟨v1, j, y1, g1, g2, g3⟩
          · cases g1
          · cases g1
            refine ⟨_, ?_, okA_rel (ok := ok) (b := true) g3⟩
            simp only [Sem.run_bind, run_check hd hkd, Result.andThen_ok, Instr.findKey, run_underlying_some hd, g2, Sem.run_pure]
        · rename_i hf
          split at h
          · rename_i z hz
            cases h
            obtain ⟨z', z1, z2⟩ := zeroA_sound (σ := σ) (w := w) hz
            rcases findA_sound hk 0 hf hms with ⟨_, g2⟩ | ⟨v1, j, y1, g1, _⟩
            · refine ⟨_, ?_, okA_rel (ok := ok) (b := false) z2⟩
              simp only [Sem.run_bind, run_check hd hkd, Result.andThen_ok, Instr.findKey, run_underlying_some hd, g2, Sem.run_pure, z1]
            · cases g1
          · cases h
        · cases h
      rcases entsA_sound he hx r with ⟨rfl, rfl⟩ | ⟨b, ms, clock, rfl, h1, h2⟩
      · refine key2 #[] trivial ?_
        simp only [Instr.lookup, Sem.run_bind, run_underlying_some ht, Result.andThen_ok, Sem.run_pure]
        rfl
      · refine key2 ms h2 ?_
        simp only [Instr.lookup, Sem.run_bind, run_underlying_some ht, Result.andThen_ok, MapKept.run_getObj_map h1, Sem.run_pure]
        rfl
    · rename_i n es hkk he
      have key2 : ∀ ms : Array MapEntry, EntsRel σ es ms.toList → (Instr.lookup t y key ok).run P w = (do
          Instr.checkKey ms.isEmpty 10000 kt key
          let (v, ok') ← match ← Instr.findKey kt key ms.toList with
            | some (_, v) => pure (v, true)
            | none => pure (← zeroValue e, false)
          pure (if ok then .tuple #[v, .bool ok'] else v) : Sem Value).run P w → ∃ v', (Instr.lookup t y key ok).run P w = .ok v' w ∧ VRel σ v v' := by
        intro ms hms hrun
        rw [hrun]
        split at h
        · rename_i v0 hf
          cases h
          obtain ⟨hc, g⟩ := findF_sound (w := w) hkk hk hf hms ms.isEmpty
          rcases g with ⟨g1, _⟩ | ⟨v1, j, y1, g1, g2, g3⟩
          · cases g1
          · cases g1
            refine ⟨_, ?_, okA_rel (ok := ok) (b := true) g3⟩
            simp only [Sem.run_bind, hc, Result.andThen_ok, g2, Sem.run_pure]
        · rename_i hf
          split at h
          · rename_i z hz
            cases h
            obtain ⟨z', z1, z2⟩ := zeroA_sound (σ := σ) (w := w) hz
            obtain ⟨hc, g⟩ := findF_sound (w := w) hkk hk hf hms ms.isEmpty
            rcases g with ⟨_, g2⟩ | ⟨v1, j, y1, g1, _⟩
            · refine ⟨_, ?_, okA_rel (ok := ok) (b := false) z2⟩
              simp only [Sem.run_bind, hc, Result.andThen_ok, g2, Sem.run_pure, z1]
            · cases g1
          · cases h
        · cases h
      rcases entsA_sound he hx r with ⟨rfl, rfl⟩ | ⟨b, ms, clock, rfl, h1, h2⟩
      · refine key2 #[] trivial ?_
        simp only [Instr.lookup, Sem.run_bind, run_underlying_some ht, Result.andThen_ok, Sem.run_pure]
        rfl
      · refine key2 ms h2 ?_
        simp only [Instr.lookup, Sem.run_bind, run_underlying_some ht, Result.andThen_ok, MapKept.run_getObj_map h1, Sem.run_pure]
        rfl
    · cases h
  · cases h

/-! Writing. -/
def updL (d : TypeDesc) (k v : AV) : List (AV × AV) → Option (Bool × List (AV × AV))
  | [] => some (true, [(k, v)])
  | e :: l => match keyEq d k e.1 with
    | some true => some (false, (k, v) :: l)
    | some false => (updL d k v l).map fun r => (r.1, e :: r.2)
    | none => none
theorem forceN_eq {β : Type} (n : Nat) (k : Nat → β) : forceN n k = k n := rfl
theorem forceV_eq {β : Type} (v : AV) (k : AV → β) : forceV v k = k v := rfl
theorem updA_spec {d : TypeDesc} {k v : AV} {vf : AV} {hf : Hp} {nf : Nat} : ∀ {es : List (AV × AV)} {g : Bool → List (AV × AV) → Res}, updA d k v es g = .done vf hf nf → ∃ n l, updL d k v es = some (n, l) ∧ g n l = .done vf hf nf
  | [], g, h => ⟨_, _, rfl, h⟩
  | e :: es, g, h => by
    have h : Option.rec (motive := fun _ => Res) (.fail none) (fun b => Bool.rec (updA d k v es fun n l' => g n (e :: l')) (g false ((k, v) :: es)) b) (keyEq d k e.1) = .done vf hf nf := h
    unfold updL
    cases hk : keyEq d k e.1 with
    | none => rw [hk] at h; cases h
    | some b =>
      rw [hk] at h
      cases b with
      | true => exact ⟨_, _, rfl, h⟩
      | false =>
        obtain ⟨n, l, h1, h2⟩ := updA_spec (es := es) (g := fun n l' => g n (e :: l')) h
        exact ⟨n, e :: l, by simp [h1], h2⟩
theorem EntsRel.snoc : ∀ {es : List (AV × AV)} {ms : List MapEntry} {e : AV × AV} {m : MapEntry}, EntsRel σ es ms → VRel σ e.1 m.key → VRel σ e.2 m.val → EntsRel σ (es ++ [e]) (ms ++ [m])
  | [], [], _, _, _, h1, h2 => ⟨h1, h2, trivial⟩
  | _ :: _, _ :: _, _, _, ⟨a, b, c⟩, h1, h2 => ⟨a, b, EntsRel.snoc c h1 h2⟩
  | [], _ :: _, _, _, h, _, _ => h.elim
  | _ :: _, [], _, _, h, _, _ => h.elim
theorem updL_sound {d : TypeDesc} {k v : AV} {key val : Value} (hk : VRel σ k key) (hv : VRel σ v val) : ∀ {es : List (AV × AV)} {ms : List MapEntry} {n : Bool} {r : List (AV × AV)} (i : Nat), updL d k v es = some (n, r) → EntsRel σ es ms →
    (n = true ∧ Instr.findNow d key ms i = some none ∧ ∀ b, EntsRel σ r (ms ++ [⟨key, val, b⟩])) ∨
    ∃ j y e, n = false ∧ Instr.findNow d key ms i = some (some (i + j, y)) ∧ ms[j]? = some e ∧ Instr.sameBits 10000 e.key key = true ∧ EntsRel σ r (ms.modify j fun e => { e with key := key, val := val })
  | [], [], n, r, i, h, _ => by
    simp only [updL, Option.some.injEq, Prod.mk.injEq] at h
    obtain ⟨h0, h⟩ := h
    subst h
    exact .inl ⟨h0.symm, rfl, fun b => ⟨hk, hv, trivial⟩⟩
  | e :: es, m :: ms, n, r, i, h, ⟨h1, h2, h3⟩ => by
    simp only [updL] at h
    split at h
    · rename_i hb
      cases h
      obtain ⟨g1, g2⟩ := keyEq_spec hb hk h1
      exact .inr ⟨0, m.val, m, rfl, by simp [Instr.findNow, g1], rfl, g2 rfl, ⟨hk, hv, h3⟩⟩
    · rename_i hb
      obtain ⟨g1, _⟩ := keyEq_spec hb hk h1
      cases hu : updL d k v es with
      | none => rw [hu] at h; cases h
      | some l =>
        obtain ⟨n0, l⟩ := l
        rw [hu] at h
        simp only [Option.map_some, Option.some.injEq, Prod.mk.injEq] at h
        obtain ⟨h0, h⟩ := h
        subst h
        rcases updL_sound hk hv (i + 1) hu h3 with ⟨q0, q1, q2⟩ | ⟨j, y, e', q0, q1, q2, q3, q4⟩
        · exact .inl ⟨h0.symm.trans q0, by simp [Instr.findNow, g1, q1], fun b => ⟨h1, h2, q2 b⟩⟩
        · refine .inr ⟨j + 1, y, e', h0.symm.trans q0, ?_, by simpa using q2, q3, ?_⟩
          · simp only [Instr.findNow, g1, q1]
            rw [show i + 1 + j = i + (j + 1) from by omega]
          · exact ⟨h1, h2, q4⟩
    · cases h
  | [], _ :: _, _, _, _, _, h => h.elim
  | _ :: _, [], _, _, _, _, h => h.elim
theorem born_modify {key val : Value} : ∀ (ms : List MapEntry) (j : Nat), (ms.modify j fun e => { e with key := key, val := val }).map (·.born) = ms.map (·.born)
  | [], j => by cases j <;> rfl
  | m :: ms, 0 => rfl
  | m :: ms, j + 1 => by simp [List.modify_succ_cons, born_modify ms j]
theorem mapUpdateA_sound {t : TypeId} {m k v r0 : AV} {y key val : Value} {nx nx' : Nat} {hp' : Hp} (h : mapUpdateA P t m k v hp nx = .done r0 hp' nx') (hx : VRel σ m y) (hk : VRel σ k key) (hv : VRel σ v val) (r : R pr σ hp w) :
    ∃ w', (Instr.mapUpdate t y key val).run P w = .ok () w' ∧ r0 = .tup [] ∧ nx' = nx ∧ R pr σ hp' w' := by
  unfold mapUpdateA at h
  split at h
  · rename_i kt e ht
    split at h
    · rename_i d id hkk
      obtain ⟨hd, hkd⟩ := kkind_one hkk
      split at h
      · rename_i es bs clock hb
        rw [forceV_eq, forceV_eq] at h
        obtain ⟨n, l, hl, h⟩ := updA_spec h
        cases h
        obtain ⟨i, hi, rfl⟩ := hx.map_inv
        obtain ⟨i', hi', ms, h1, h2, hbs⟩ := r.blk _ _ hb
        rw [hi] at hi'
        cases hi'
        have hlt := (Array.getElem?_eq_some_iff.1 h1).1
        have put : ∀ o : Obj, ({ w with heap := w.heap.setIfInBounds i.blk o } : World).heap[i.blk]? = some o ∧ ∀ k, k ≠ i.blk → ({ w with heap := w.heap.setIfInBounds i.blk o } : World).heap[k]? = w.heap[k]? := fun o =>
          ⟨by simp [hlt], fun k hk => Array.getElem?_setIfInBounds_ne (Ne.symm hk)⟩
        rcases updL_sound hk hv 0 hl h2 with ⟨rfl, g1, g2⟩ | ⟨j, y1, e', rfl, g1, g2, g3, g4⟩
        · refine ⟨_, ?_, rfl, rfl, r.turn (w' := { w with heap := w.heap.setIfInBounds i.blk (.map (ms.push ⟨key, val, clock⟩) (clock + 1)) }) hb hi ⟨_, (put _).1, by simpa using g2 clock, by simp [hbs]⟩ (put _).2 ⟨rfl, rfl⟩⟩
          simp only [Instr.mapUpdate, Sem.run_bind, run_underlying_some ht, Result.andThen_ok, MapKept.run_getObj_map h1, run_check hd hkd, Instr.findKey, run_underlying_some hd, g1, Sem.run_pure, MapKept.run_setObj_map _ h1]
        · rw [Nat.zero_add] at g1
          refine ⟨_, ?_, rfl, rfl, r.turn (w' := { w with heap := w.heap.setIfInBounds i.blk (.map (ms.modify j fun e => { e with key := key, val := val }) clock) }) hb hi ⟨_, (put _).1, by simpa using g4, by rw [Array.toList_modify, born_modify, hbs]⟩ (put _).2 ⟨rfl, rfl⟩⟩
          have hej : ms[j]? = some e' := by simpa using g2
          have hkeep : ((ms[j]?).map (·.key)).getD key = e'.key := by rw [hej]; rfl
          simp only [Instr.mapUpdate, Sem.run_bind, run_underlying_some ht, Result.andThen_ok, MapKept.run_getObj_map h1, run_check hd hkd, Instr.findKey, run_underlying_some hd, g1, Sem.run_pure, hkeep, Instr.keyThatStays, g3, if_true, MapKept.run_setObj_map _ h1]
      · cases h
    · rename_i n id hkk
      split at h
      · rename_i es bs clock hb
        split at h
        · rename_i hf
          cases h
          obtain ⟨i, hi, rfl⟩ := hx.map_inv
          obtain ⟨i', hi', ms, h1, h2, hbs⟩ := r.blk _ _ hb
          rw [hi] at hi'
          cases hi'
          have hlt := (Array.getElem?_eq_some_iff.1 h1).1
          have put : ∀ o : Obj, ({ w with heap := w.heap.setIfInBounds i.blk o } : World).heap[i.blk]? = some o ∧ ∀ k, k ≠ i.blk → ({ w with heap := w.heap.setIfInBounds i.blk o } : World).heap[k]? = w.heap[k]? := fun o =>
            ⟨by simp [hlt], fun k hk => Array.getElem?_setIfInBounds_ne (Ne.symm hk)⟩
          obtain ⟨hc, g⟩ := findF_sound (w := w) hkk hk hf h2 false
          rcases g with ⟨_, g2⟩ | ⟨v1, j, y1, g1, _⟩
          · refine ⟨_, ?_, rfl, rfl, r.turn (w' := { w with heap := w.heap.setIfInBounds i.blk (.map (ms.push ⟨key, val, clock⟩) (clock + 1)) }) hb hi ⟨_, (put _).1, by simpa using EntsRel.snoc (e := (k, v)) (m := ⟨key, val, clock⟩) h2 hk hv, by simp [hbs]⟩ (put _).2 ⟨rfl, rfl⟩⟩
            simp only [Instr.mapUpdate, Sem.run_bind, run_underlying_some ht, Result.andThen_ok, MapKept.run_getObj_map h1, hc, g2, MapKept.run_setObj_map _ h1]
          · cases g1
        · cases h
      · cases h
    · cases h
  · cases h
end Go.Proofs.YtdjeokgkeejpcaaGreatDoor.AX

namespace Go.Proofs.YtdjeokgkeejpcaaGreatDoor.AX
open Go
variable {P : Program} {σ : Sig} {w : World} {pr : Pr} {hp : Hp}

theorem lastN_sound : ∀ {l : List Nat} {b : Nat}, lastN l = some b → l.toArray.back? = some b
  | [], _, h => by cases h
  | [a], b, h => by simp only [lastN, Option.some.injEq] at h; subst h; rfl
  | a :: c :: l, b, h => by
    have h : lastN (c :: l) = some b := h
    have := lastN_sound h
    simp only [List.back?_toArray] at this ⊢
    simpa using this
theorem findB_sound {b : Nat} : ∀ {es : List (AV × AV)} {bs : List Nat} {ms : List MapEntry} {e : AV × AV}, findB b es bs = some e → EntsRel σ es ms → ms.map (·.born) = bs → ∃ m, ms.find? (·.born == b) = some m ∧ VRel σ e.1 m.key ∧ VRel σ e.2 m.val
  | [], bs, [], e, h, _, _ => by cases bs <;> cases h
  | e0 :: es, bs, m :: ms, e, h, ⟨h1, h2, h3⟩, hb => by
    subst hb
    simp only [List.map_cons, findB] at h
    split at h
    · rename_i hc
      cases h
      exact ⟨m, by rw [List.find?_cons_of_pos]; simpa using hc, h1, h2⟩
    · rename_i hc
      obtain ⟨m', g1, g2⟩ := findB_sound h h3 rfl
      refine ⟨m', ?_, g2⟩
      rw [List.find?_cons_of_neg]
      · exact g1
      · have := ne_of_beq hc
        simpa using this
  | [], _, _ :: _, _, _, h, _ => h.elim
  | _ :: _, _, [], _, _, h, _ => h.elim
theorem entryA_sound {it v : AV} {y : Value} (h : entryA it hp = some v) (hx : VRel σ it y) (r : R pr σ hp w) : ∃ v', (Instr.entry y).run P w = .ok v' w ∧ VRel σ v v' := by
  unfold entryA at h
  split at h
  · rename_i id
    obtain ⟨i, hi, rfl⟩ := hx.ptr_inv
    split at h
    · rename_i m since seen last hb
      split at h
      · rename_i es bs clk b hm hl
        split at h
        · rename_i e hcl hf
          cases h
          have hcl := Nat.eq_of_beq_eq_true hcl
          subst hcl
          obtain ⟨i', hi', mo, h1, h0, h2⟩ := r.blk _ _ hb
          rw [hi] at hi'
          cases hi'
          obtain ⟨j, hj, rfl⟩ := h2
          obtain ⟨j', hj', ms, g1, g2, gb⟩ := r.blk _ _ hm
          rw [hj] at hj'
          cases hj'
          obtain ⟨m', q1, q2, q3⟩ := findB_sound hf g2 gb
          refine ⟨.tuple #[m'.key, m'.val], ?_, .tup (.cons q2 (.cons q3 .nil))⟩
          have e0 : (⟨i.blk, i.base + 0, none⟩ : Addr) = ⟨i.blk, 0, none⟩ := by rw [h0]
          rw [e0]
          have hfind : ms.find? (·.born == b) = some m' := by rw [← Array.find?_toList]; exact q1
          simp only [Instr.entry, getObj, Sem.run_bind, Sem.run, h1, Result.andThen, lastN_sound hl, g1, bne_self_eq_false, Bool.false_eq_true, if_false, hfind]
          rfl
        · cases h
      · cases h
    · cases h
  · cases h
end Go.Proofs.YtdjeokgkeejpcaaGreatDoor.AX

namespace Go.Proofs.YtdjeokgkeejpcaaGreatDoor.AX
open Go
variable {P : Program} {σ : Sig} {w : World} {pr : Pr} {hp : Hp}

theorem byteOf_sound {v : AV} {n : Nat} {x : Value} (h : AX.byteOf v = some n) (hx : VRel σ v x) : x = .int .u8 (n : Int) ∧ n < 256 := by
  unfold AX.byteOf at h
  split at h
  · split at h
    · rename_i hb
      have hb := Nat.le_of_ble_eq_true hb
      cases h
      exact ⟨hx.int_inv, by omega⟩
    · cases h
  · cases h
theorem bytes_loop : ∀ {l : List AV} {bs : List Nat} {xs : List Value} {s : ByteArray}, bytesA l = some bs → VRels σ l xs →
    ∃ s' : ByteArray, (forIn xs s fun c s => match c with
      | .int .u8 n => pure (ForInStep.yield (s.push (UInt8.ofNat n.toNat)))
      | _ => (do let _ ← (stuck "bytesToString: byte expected" : Sem PUnit); pure (ForInStep.yield s)) : Sem ByteArray).run P w = .ok s' w ∧ bytesOf s' = bytesOf s ++ bs := by
  intro l
  induction l with
  | nil => intro bs xs s h hr; cases h; cases hr; exact ⟨s, rfl, by simp⟩
  | cons v l ih =>
    intro bs xs s h hr
    cases hr with
    | cons hv hr =>
    simp only [bytesA] at h
    split at h
    · rename_i b r hb hl
      cases h
      obtain ⟨rfl, hlt⟩ := byteOf_sound hb hv
      obtain ⟨s', h1, h2⟩ := ih (s := s.push (UInt8.ofNat b)) hl hr
      refine ⟨s', ?_, ?_⟩
      · rw [List.forIn_cons]
        simp only [Sem.run_bind, Sem.run_pure, Result.andThen_ok, Int.toNat_natCast]
        exact h1
      · rw [h2]
        have : (UInt8.ofNat b).toNat = b := by simp; omega
        simp [bytesOf, this]
    · cases h
theorem readA_sound {C : Ctx} {o : Oper} {ρ : Operand → AV} {ρ' : Operand → Value} {v : AV} (h : readA C o.op ρ hp = some v) (hr : ∀ x ∈ o.op.operands, VRel σ (ρ x) (ρ' x))
    (r : R pr σ hp w) (hg : GlOk C pr) : ∃ v', (execOp ρ' o).run C.P w = .ok (.value v') w ∧ VRel σ v v' := by
  unfold readA at h
  split at h
  · rename_i t x ho
    rw [ho] at hr
    obtain ⟨b, off, v', h1, h2, h3⟩ := loadA_sound h (hr x (by simp [Op.operands])) r hg
    exact ⟨v', by simp [execOp, ho, Instr.loadAt, h1, Instr.sureAddr, h2], h3⟩
  · rename_i src dst x ho
    rw [ho] at hr
    have hx := hr x (by simp [Op.operands])
    split at h
    · rename_i e hs hd
      split at h
      · rename_i he
        split at h
        · rename_i n hn
          split at h
          · rename_i l hl
            split at h
            · rename_i bs hbs
              cases h
              have hn' : lenOfA (ρ x) = some n := by revert hn; cases ρ x <;> simp [sliceLen, lenOfA]
              obtain ⟨xs, h1, h2, h3⟩ := elemsA_sound (P := C.P) hl hn' (Nat.le_refl _) hx r
              have key : ∃ s : ByteArray, (Conv.bytesToString (ρ' x)).run C.P w = .ok (.string s) w ∧ bytesOf s = bs ∧ ∃ a m c, ρ' x = .slice a m c := by
                generalize hX : ρ' x = X at *
                generalize hA : ρ x = A at *
                clear hn'
                cases A <;> simp only [elemsA, reduceCtorEq] at hl <;> simp only [sliceLen, reduceCtorEq] at hn
                case nils =>
                  obtain rfl := hx.nils_inv
                  cases hl
                  cases hbs
                  exact ⟨.empty, rfl, rfl, _, _, _, rfl⟩
                case slice id off len cap =>
                  obtain ⟨i, o', hi, hle, hof, rfl⟩ := hx.slice_inv
                  cases hn
                  simp only [Builtin.firstCells, Nat.mul_one] at h1
                  obtain ⟨s', g1, g2⟩ := bytes_loop (P := C.P) (w := w) (s := .empty) hbs h2
                  refine ⟨s', ?_, by rw [g2]; rfl, _, _, _, rfl⟩
                  simp only [Conv.bytesToString, Sem.run_bind, h1, Result.andThen_ok]
                  rw [← Array.forIn_toList]
                  erw [g1]
                  rfl
                case opn id off len sz =>
                  obtain ⟨i, o', c, hi, hle, hrm, hof, rfl⟩ := hx.opn_inv
                  cases hn
                  simp only [Builtin.firstCells, Nat.mul_one] at h1
                  obtain ⟨s', g1, g2⟩ := bytes_loop (P := C.P) (w := w) (s := .empty) hbs h2
                  refine ⟨s', ?_, by rw [g2]; rfl, _, _, _, rfl⟩
                  simp only [Conv.bytesToString, Sem.run_bind, h1, Result.andThen_ok]
                  rw [← Array.forIn_toList]
                  erw [g1]
                  rfl
              obtain ⟨s, g1, g2, a, m, c, hX⟩ := key
              refine ⟨.string s, ?_, .str s g2⟩
              rw [hX] at g1
              simp only [execOp, ho, Sem.run_bind, Go.convert, run_underlying_some hs, run_underlying_some hd, Result.andThen_ok, hX]
              cases a <;> simp only [run_underlying_some he, Result.andThen_ok, g1, Sem.run_pure]
            · cases h
          · cases h
        · cases h
      · cases h
    · cases h
  · rename_i t x k ok ho
    rw [ho] at hr
    obtain ⟨v', h1, h2⟩ := lookupA_sound (P := C.P) h (hr x (by simp [Op.operands])) (hr k (by simp [Op.operands])) r
    exact ⟨v', by simp [execOp, ho, h1], h2⟩
  · rename_i it ho
    rw [ho] at hr
    obtain ⟨v', h1, h2⟩ := entryA_sound (P := C.P) h (hr it (by simp [Op.operands])) r
    exact ⟨v', by simp [execOp, ho, h1], h2⟩
  · rename_i c ho
    rw [ho] at hr
    split at h
    · rename_i hcal
      split at h
      · rename_i t x ht hx
        have hrx := hr x (by simp [Op.operands, Call.operands, hcal, Array.mem_of_getElem? hx])
        split at h
        · rename_i kt e es hu he
          cases h
          have hxs : (c.args.map ρ')[0]? = some (ρ' x) := by simp [hx]
          rcases entsA_sound he hrx r with ⟨hy, rfl⟩ | ⟨b, ms, clock, hy, h1, h2⟩
          · refine ⟨.int .i64 0, ?_, .int _ _⟩
            simp [execOp, ho, resolve, hcal, invoke, builtin, Builtin.len_, ht, hx, hy, run_underlying_some hu, goInt]
          · have hlen : es.length = ms.size := by
              have : ∀ {es : List (AV × AV)} {l : List MapEntry}, EntsRel σ es l → es.length = l.length := by
                intro es
                induction es with
                | nil => intro l h; cases l with
                  | nil => rfl
                  | cons => exact h.elim
                | cons e es ih => intro l h; cases l with
                  | nil => exact h.elim
                  | cons m l => simp [ih h.2.2]
              simpa using this h2
            refine ⟨.int .i64 (Int.ofNat es.length), ?_, .int _ _⟩
            rw [hlen]
            simp [execOp, ho, resolve, hcal, invoke, builtin, Builtin.len_, ht, hx, hy, run_underlying_some hu, MapKept.run_getObj_map h1, goInt]
        · cases h
      · cases h
    · cases h
  · cases h
end Go.Proofs.YtdjeokgkeejpcaaGreatDoor.AX

namespace Go.Proofs.YtdjeokgkeejpcaaGreatDoor.AX
open Go
variable {P : Program} {σ : Sig} {w : World}

theorem writeL_nil (c : Cells) (off : Nat) : writeL c off [] = c := rfl
theorem writeL_cons (c : Cells) (off : Nat) (v : AV) (l : List AV) : writeL c off (v :: l) = writeL (c.set off v) (off + 1) l := rfl
theorem writeL_get : ∀ (l : List AV) (c : Cells) (off j : Nat), (writeL c off l).get j = if off ≤ j ∧ j < off + l.length then l[j - off]? else c.get j
  | [], c, off, j => by
    rw [writeL_nil, if_neg (by simp)]
  | v :: l, c, off, j => by
    rw [writeL_cons, writeL_get l, Cells.get_set]
    by_cases h : j = off
    · subst h
      rw [if_neg (by omega), if_pos rfl, if_pos (by simp)]
      simp
    · by_cases h2 : off + 1 ≤ j ∧ j < off + 1 + l.length
      · rw [if_pos h2, if_pos (by simp; omega)]
        rw [show j - off = (j - (off + 1)) + 1 from by omega]
        simp
      · rw [if_neg h2, if_neg h, if_neg (by simp; omega)]
theorem ofL_get (l : List AV) (j : Nat) : (ofL l).get j = l[j]? := by
  rw [ofL, writeL_get]
  by_cases h : j < l.length
  · rw [if_pos (by omega)]; simp
  · rw [if_neg (by omega), Cells.get_leaf]; simp; omega

/-- A fresh row of cells. -/
theorem fresh_cells {h : Array Obj} {l : List AV} {n : Nat} {cl : Cl} {cs : Array Value} {e : TypeId} {fz : Nat × Nat} (hr : ∃ xs rest : List Value, VRels σ l xs ∧ cs.toList = xs ++ rest)
    (hn : n ≤ cs.size) (hfz : ∀ j, j < cs.size → ¬ (fz.1 ≤ j ∧ j < fz.2)) (hcl : cl.is = true → fz = (0, 0)) (hty : ∀ t, cl = .ty t → e = t) (hwh : ∀ t, cl = .whole t → e = t ∧ cs.size = n) :
    BlkRel σ (.cells (ofL l) n cl) ⟨h.size, 0, cs.size⟩ (h.push (.cells cs e fz)) := by
  refine ⟨cs, e, fz, by simp, by simp, hn, hfz, ⟨fun h => ⟨hcl h, rfl⟩, hty, hwh⟩, fun j v _ hv => ?_⟩
  obtain ⟨xs, rest, hx, hc⟩ := hr
  rw [ofL_get] at hv
  obtain ⟨x, h1, h2⟩ := hx.get hv
  refine ⟨x, ?_, h2⟩
  have : cs.toList[j]? = some x := by rw [hc, List.getElem?_append_left (List.getElem?_eq_some_iff.1 h1).1]; exact h1
  simpa using this

theorem varCells_sound {t : TypeId} {v : AV} {l : List AV} {x : Value} (h : varCells P t v = some l) (hx : VRel σ v x) :
    VRels σ l x.cells.toList ∧ (sizeT P t = some l.length) ∧ ∀ y ∈ x.cells.toList, (isAggT P t = some false → y.oneCell' = true) := by
  unfold varCells at h
  split at h
  · rename_i ha
    split at h
    · rename_i l'
      split at h
      · rename_i n hn
        split at h
        · rename_i hl
          have hl := Nat.eq_of_beq_eq_true hl
          cases h
          obtain ⟨vs, rfl, hv⟩ := hx.agg_inv
          exact ⟨hv, by rw [hl]; exact hn, fun y _ e => by rw [ha] at e; cases e⟩
        · cases h
      · cases h
    · cases h
  · rename_i ha
    split at h
    · cases h
    · cases h
    · cases h
    · rename_i h1 h2 h3
      split at h
      · rename_i hz
        cases h
        have hc : x.cells = #[x] ∧ x.oneCell' = true := by
          cases hx <;> first | exact ⟨rfl, rfl⟩ | (exact absurd rfl h1) | (exact absurd rfl (h2 _)) | (exact absurd rfl (h3 _)) | skip
          rename_i hc ht
          refine ⟨hc, ?_⟩
          cases x <;> first | rfl | (exact absurd rfl (ht _)) | skip
          rename_i vs
          exfalso
          have hc' : vs = #[Value.agg vs] := hc
          have hs := congrArg (fun v : Array Value => SizeOf.sizeOf v) hc'
          simp at hs
          omega
        refine ⟨by rw [hc.1]; exact .cons hx .nil, hz, fun y hy _ => ?_⟩
        rw [hc.1] at hy
        simp at hy
        subst hy
        exact hc.2
      · cases h
  · cases h

theorem bang_toList (a : Array Value) (i : Nat) : a.toList[i]! = a[i]! := by
  simp only [getElem!_def, Array.getElem?_toList]
theorem rep_rels {z : List AV} {zs : List Value} (h : VRels σ z zs) : ∀ n, VRels σ (rep z n) ((List.range (n * zs.length)).map fun i => zs[i % zs.length]!)
  | 0 => by simp [rep]; exact .nil
  | n + 1 => by
    have e : (List.range ((n + 1) * zs.length)).map (fun i => zs[i % zs.length]!) = zs ++ (List.range (n * zs.length)).map fun i => zs[i % zs.length]! := by
      apply List.ext_getElem?
      intro i
      by_cases hi : i < zs.length
      · rw [List.getElem?_append_left hi]
        have : i < (n + 1) * zs.length := by rw [Nat.add_mul]; omega
        simp [this, Nat.mod_eq_of_lt hi, hi]
      · have hi := Nat.le_of_not_lt hi
        rw [List.getElem?_append_right hi]
        by_cases h2 : i < (n + 1) * zs.length
        · have h3 : i - zs.length < n * zs.length := by rw [Nat.add_mul] at h2; omega
          have h4 : i % zs.length = (i - zs.length) % zs.length := by
            conv => lhs; rw [show i = (i - zs.length) + zs.length from by omega, Nat.add_mod_right]
          simp [h2, h3, h4]
        · have h3 : ¬ i - zs.length < n * zs.length := by rw [Nat.add_mul] at h2; omega
          simp [h2, h3]
    rw [e]
    exact h.append (rep_rels h n)
theorem lay_size : ∀ (l : List (Value × Nat)) (off : Nat) (cells : Array Value), (l.foldl (fun cs (p : Value × Nat) => cs.setIfInBounds (off + p.2) p.1) cells).size = cells.size
  | [], _, _ => rfl
  | p :: l, off, cells => by rw [List.foldl_cons, lay_size l off]; simp
theorem fill_size {pl : Nat → Option (Nat × Nat)} : ∀ {qs : List (Nat × Value)} {zs rs : Array Value}, Instr.fill pl zs qs = some rs → rs.size = zs.size
  | [], zs, rs, h => by simp [Instr.fill] at h; rw [h]
  | (i, v) :: qs, zs, rs, h => by
    simp only [Instr.fill] at h
    split at h
    · cases h
    · split at h
      · cases h
      · rw [fill_size h, ← Array.foldl_toList, Array.toList_zipIdx]
        exact lay_size _ _ _
theorem modify_push (h : Array Obj) (o : Obj) (f : Obj → Obj) : (h.push o).modify h.size f = h.push (f o) := by
  apply Array.ext_getElem?
  intro i
  rw [Array.getElem?_modify]
  by_cases e : h.size = i
  · subst e; simp
  · rw [if_neg e]
    by_cases h2 : i < h.size
    · rw [Array.getElem?_push_lt h2, Array.getElem?_push_lt h2]
    · rw [Array.getElem?_eq_none (by simp; omega), Array.getElem?_eq_none (by simp; omega)]
/-- What an operation of class 2 does. -/
def MakesBlk (P : Program) (σ : Sig) (s : Sem Next) (w : World) (b : Blk) (mk : Nat → AV) : Prop :=
  ∃ v' w' ob room, s.run P w = .ok (.value v') w' ∧ w'.heap = w.heap.push ob ∧ Same w w' ∧
    ∀ τ : Sig, σ ≤ τ → BlkRel τ b ⟨w.heap.size, 0, room⟩ (w.heap.push ob) ∧ ∀ id, τ id = some ⟨w.heap.size, 0, room⟩ → VRel τ (mk id) v'
theorem noFz (cs : Array Value) : ∀ j, j < cs.size → ¬ ((0, 0) : Nat × Nat).1 ≤ j ∨ ¬ j < ((0, 0) : Nat × Nat).2 := fun j _ => .inr (by simp)
theorem noFz' (cs : Array Value) : ∀ j, j < cs.size → ¬ (((0, 0) : Nat × Nat).1 ≤ j ∧ j < ((0, 0) : Nat × Nat).2) := fun j _ => by simp
theorem ptr_new {τ : Sig} {id n room : Nat} (h : τ id = some ⟨n, 0, room⟩) : VRel τ (.ptr id 0) (.pointer (some ⟨n, 0, none⟩)) := by
  have := VRel.ptr (σ := τ) (off := 0) h
  simpa using this
theorem newVar_makes {t : TypeId} {l : List AV} {x : Value} (hl : VRels σ l x.cells.toList) :
    MakesBlk P σ (do pure (.value (.pointer (some (← newVar t x))))) w (.cells (ofL l) l.length (.whole t)) (fun id => .ptr id 0) := by
  have hlen : l.length = x.cells.size := by simpa using hl.length
  refine ⟨.pointer (some ⟨w.heap.size, 0, none⟩), { w with heap := w.heap.push (.cells x.cells t) }, .cells x.cells t (0, 0), x.cells.size, ?_, rfl, ⟨rfl, rfl⟩, fun τ hle => ⟨?_, fun id hid => ptr_new hid⟩⟩
  · simp [newVar, newRow]
  · exact fresh_cells ⟨x.cells.toList, [], VRels.mono hle hl, by simp⟩ (by omega) (noFz' _) (fun _ => rfl) (fun _ h => by cases h) (fun _ h => by cases h; exact ⟨rfl, hlen.symm⟩)
theorem range_arr (n : Nat) (f : Nat → Value) : ((Array.range n).map f).toList = (List.range n).map f := by simp
theorem alloc_sound {C : Ctx} {o : Oper} {ρ : Operand → AV} {ρ' : Operand → Value} {b : Blk} {mk : Nat → AV} (h : allocA C o.op ρ = some (b, mk))
    (hr : ∀ x ∈ o.op.operands, VRel σ (ρ x) (ρ' x)) : MakesBlk C.P σ (execOp ρ' o) w b mk := by
  unfold allocA at h
  split at h
  · rename_i t ho
    split at h
    · rename_i v hv
      split at h
      · rename_i l hl
        cases h
        obtain ⟨x, h1, h2⟩ := zeroA_sound (σ := σ) (w := w) hv
        obtain ⟨v', w', ob, room, e1, e2, e3⟩ := newVar_makes (P := C.P) (t := t) (w := w) (cellsA_rel hl h2)
        exact ⟨v', w', ob, room, by simpa [execOp, ho, Instr.alloc, h1] using e1, e2, e3⟩
      · cases h
    · cases h
  · rename_i t x ho
    rw [ho] at hr
    split at h
    · rename_i l hl
      cases h
      obtain ⟨h1, h2, h3⟩ := varCells_sound hl (hr x (by simp [Op.operands]))
      obtain ⟨v', w', ob, room, e1, e2, e3⟩ := newVar_makes (P := C.P) (t := t) (w := w) h1
      exact ⟨v', w', ob, room, by simpa [execOp, ho, Instr.box] using e1, e2, e3⟩
    · cases h
  · rename_i t len ps ho
    rw [ho] at hr
    split at h
    · rename_i e hu
      split at h
      · rename_i n v hn hv
        split at h
        · rename_i z hz
          split at h
          · rename_i cs hzl hbd hfl
            have hzl := Nat.eq_of_beq_eq_true hzl
            have hbd := Nat.le_of_ble_eq_true hbd
            cases h
            obtain ⟨x, h1, h2⟩ := zeroA_sound (σ := σ) (w := w) hv
            have hz2 := cellsA_rel hz h2
            have hzs : x.cells.size = n := by have := hz2.length; simp at this; omega
            have hrp := rep_rels hz2 len
            have hfill := fill_sound (pl := fun i => some (i * n, n)) (zs := (Array.range (len * n)).map fun i => x.cells[i % x.cells.size]!) (qs := ps.toList.map fun p => (p.1, ρ' p.2)) hfl
              (by
                have e1 : x.cells.toList.length = n := by simpa using hzs
                rw [e1] at hrp
                simp only [range_arr]
                rw [hzs]
                have : (fun i => x.cells.toList[i % n]!) = fun i => x.cells[i % n]! := by funext i; exact bang_toList _ _
                rw [← this]; exact hrp)
              (by simp [Function.comp_def])
              (by
                have : ∀ p ∈ ps.toList, VRel σ (ρ p.2) (ρ' p.2) := fun p hp => hr p.2 (by
                  simp [Op.operands]; exact ⟨p.1, by simpa using hp⟩)
                have h3 := VRels.map (σ := σ) (f := fun p : Nat × Operand => ρ p.2) (g := fun p => ρ' p.2) this
                simpa [Function.comp_def] using h3)
            obtain ⟨rs, g1, g2⟩ := hfill
            have hlen : cs.length = rs.size := by simpa using g2.length
            have hrs : rs.size = len * n := by
              have := fill_size g1
              simpa using this
            refine ⟨.slice (some ⟨w.heap.size, 0, none⟩) len len, { w with heap := w.heap.push (.cells rs e) }, .cells rs e (0, 0), rs.size, ?_, rfl, ⟨rfl, rfl⟩, fun τ hle => ⟨?_, fun id hid => ?_⟩⟩
            · have hbd' : ¬ len * n > 2 ^ 24 := by omega
              have g1' : Instr.fill (fun i => some (i * n, n)) ((Array.range (len * n)).map (fun i => x.cells[i % x.cells.size]!)) (ps.map fun p => (p.1, ρ' p.2)).toList = some rs := by rw [Array.toList_map]; exact g1
              by_cases h0 : len * n = 0
              · have e0 : ∀ f : Nat → Value, (Array.range (len * n)).map f = #[] := fun f => by rw [h0]; simp
                rw [e0] at g1'
                simp only [execOp, ho, Instr.buildSlice, Sem.run_bind, run_underlying_some hu, Result.andThen_ok, run_sizeOf hn, if_neg hbd', if_pos h0, Sem.run_pure, e0, g1', newRow, run_newObj, pure_bind]
              · simp only [execOp, ho, Instr.buildSlice, Sem.run_bind, run_underlying_some hu, Result.andThen_ok, run_sizeOf hn, if_neg hbd', if_neg h0, Sem.run_pure, h1, g1', newRow, run_newObj, pure_bind]
            · rw [← hrs]
              exact fresh_cells ⟨rs.toList, [], VRels.mono hle g2, by simp⟩ (Nat.le_refl _) (noFz' _) (fun _ => rfl) (fun _ h => by cases h; rfl) (fun _ h => by cases h)
            · exact .slice hid (Nat.le_refl _) (.inl rfl)
          · cases h
        · cases h
      · cases h
    · cases h
  · rename_i t lo co ho
    rw [ho] at hr
    split at h
    · rename_i e hu
      split at h
      · rename_i i v hi hv
        split at h
        · rename_i z k1 l k2 c hz hl hc
          split at h
          · rename_i hzl hlc hcb hby
            have hzl := Nat.eq_of_beq_eq_true hzl
            have hlc := Nat.le_of_ble_eq_true hlc
            have hcb := Nat.le_of_ble_eq_true hcb
            have hby := Nat.le_of_ble_eq_true hby
            cases h
            obtain ⟨x, h1, h2⟩ := zeroA_sound (σ := σ) (w := w) hv
            have hz2 := cellsA_rel hz h2
            have hzs : x.cells.size = i.size := by have := hz2.length; simp at this; omega
            have hrp := rep_rels hz2 c
            have hrl := hr lo (by simp [Op.operands])
            have hrc := hr co (by simp [Op.operands])
            rw [hl] at hrl
            rw [hc] at hrc
            have el := hrl.int_inv
            have ec := hrc.int_inv
            have hsz : sizeT C.P e = some i.size := by simp [sizeT, hi]
            have wl : IntKind.i64.wrap (Int.ofNat l) = Int.ofNat l := lim_nonneg .i64 l (by simp [lim]; omega)
            have wc : IntKind.i64.wrap (Int.ofNat c) = Int.ofNat c := lim_nonneg .i64 c (by simp [lim]; omega)
            have e1 : x.cells.toList.length = i.size := by simpa using hzs
            rw [e1] at hrp
            have hcs : ∃ cs : Array Value, (Array.range (c * i.size)).map (fun j => (if c * i.size = 0 then #[] else x.cells)[j % (if c * i.size = 0 then #[] else x.cells).size]!) = cs ∧ cs.toList = (List.range (c * i.size)).map (fun j => x.cells.toList[j % i.size]!) := by
              refine ⟨_, rfl, ?_⟩
              by_cases h0 : c * i.size = 0
              · rw [h0]; simp
              · simp only [if_neg h0, range_arr, hzs]
                have : (fun j => x.cells.toList[j % i.size]!) = fun j => x.cells[j % i.size]! := by funext j; exact bang_toList _ _
                rw [this]
            obtain ⟨cs, hcs1, hcs2⟩ := hcs
            have hsize : cs.size = c * i.size := by have := congrArg List.length hcs2; simpa using this
            refine ⟨.slice (some ⟨w.heap.size, 0, none⟩) l c, { w with heap := w.heap.push (.cells cs e) }, .cells cs e (0, 0), cs.size, ?_, rfl, ⟨rfl, rfl⟩, fun τ hle => ⟨?_, fun id hid => ?_⟩⟩
            · have c1 : ¬ ((decide (Int.ofNat c < 0) || decide ((i.bytes : Int) * Int.ofNat c > 2 ^ 48)) = true ∨ Int.ofNat l < 0 ∨ Int.ofNat l > Int.ofNat c) := by
                have : (i.bytes : Int) * Int.ofNat c ≤ 281474976710656 := by
                  have := Int.ofNat_le.2 hby
                  simpa using this
                simp only [Bool.or_eq_true, decide_eq_true_eq]
                have h2 := Int.natCast_nonneg c
                have h3 := Int.natCast_nonneg l
                have h4 := Int.ofNat_le.2 hlc
                simp only [Int.ofNat_eq_natCast] at *
                omega
              have c2 : (decide (Int.ofNat c < 0) || decide ((i.bytes : Int) * Int.ofNat c > 2 ^ 48) || decide (Int.ofNat l < 0) || decide (Int.ofNat l > Int.ofNat c)) = false := by
                cases hh : (decide (Int.ofNat c < 0) || decide ((i.bytes : Int) * Int.ofNat c > 2 ^ 48) || decide (Int.ofNat l < 0) || decide (Int.ofNat l > Int.ofNat c)) with
                | false => rfl
                | true =>
                  simp only [Bool.or_eq_true, decide_eq_true_eq] at hh c1
                  exact absurd (by rcases hh with (hh | hh) | hh
                                   · exact .inl hh
                                   · exact .inr (.inl hh)
                                   · exact .inr (.inr hh)) c1
              have tl : (Int.ofNat l).toNat = l := rfl
              have tc : (Int.ofNat c).toNat = c := rfl
              simp only [execOp, ho, Instr.makeSlice, Sem.run_bind, run_underlying_some hu, Result.andThen_ok, el, ec, asInt, asIntOf, Sem.run_pure, run_typeInfo hi, wl, wc, pure_bind]
              simp only [c2, Bool.false_eq_true, if_false, Sem.run_bind, run_askRoom, Result.andThen_ok, run_sizeOf hsz, tc, tl]
              by_cases h0 : c * i.size = 0
              · simp only [if_pos h0] at hcs1
                simp only [if_pos h0, hcs1, newRow, Sem.run_bind, run_newObj, Sem.run_pure, Result.andThen_ok]
              · simp only [if_neg h0] at hcs1
                simp only [if_neg h0, Sem.run_bind, h1, hcs1, newRow, run_newObj, Sem.run_pure, Result.andThen_ok]
            · rw [← hsize]
              refine fresh_cells ⟨cs.toList, [], ?_, by simp⟩ (Nat.le_refl _) (noFz' _) (fun _ => rfl) (fun _ h => by cases h; rfl) (fun _ h => by cases h)
              rw [hcs2]
              exact VRels.mono hle hrp
            · exact .slice hid hlc (.inl rfl)
          · cases h
        · cases h
      · cases h
    · cases h
  · rename_i src dst x ho
    rw [ho] at hr
    split at h
    · rename_i e hs hd
      split at h
      · rename_i he
        split at h
        · rename_i l hx
          cases h
          have hrx := hr x (by simp [Op.operands])
          rw [hx] at hrx
          obtain ⟨s, hX, hl⟩ := hrx.str_inv
          have hlen : l.length = s.size := by rw [← hl]; simp [bytesOf]
          have hq : (Question.appendCap s.size 0 e).forced = false := rfl
          obtain ⟨cap, hcap, hcle⟩ : ∃ cap, (Question.appendCap s.size 0 e).cut (w.tape w.drawn (.appendCap s.size 0 e)) = cap ∧ s.size ≤ cap := ⟨_, rfl, by simp [Question.cut]⟩
          refine ⟨.slice (some ⟨w.heap.size, 0, none⟩) s.size cap, { w with drawn := w.drawn + 1, heap := w.heap.push (.cells (s.data.map (fun b => Value.int .u8 b.toNat) ++ Array.replicate (cap - s.size) (.int .u8 0)) e (cap, cap + 1)) },
            .cells (s.data.map (fun b => Value.int .u8 b.toNat) ++ Array.replicate (cap - s.size) (.int .u8 0)) e (cap, cap + 1), cap, ?_, rfl, ⟨rfl, rfl⟩, fun τ hle => ⟨?_, fun id hid => ?_⟩⟩
          · have hsz : (s.data.map (fun b => Value.int .u8 b.toNat) ++ Array.replicate (cap - s.size) (Value.int .u8 0)).size = cap := by
              have : s.data.size = s.size := rfl
              simp; omega
            simp only [execOp, ho, Sem.run_bind, Go.convert, run_underlying_some hs, run_underlying_some hd, Result.andThen_ok, hX, run_underlying_some he, Conv.stringToBytes, run_choose, hq, Bool.false_eq_true, if_false, hcap, newRow, run_newObj, Sem.run_pure, markStringish, run_shape]
            have hsh : ({ w with drawn := w.drawn + 1, heap := w.heap.push (.cells (s.data.map (fun b => Value.int .u8 b.toNat) ++ Array.replicate (cap - s.size) (.int .u8 0)) e) } : World).shape? w.heap.size = some (e, cap) := by
              simp only [World.shape?]
              simp only [Array.getElem?_push_size, hsz]
            simp only [hsh]
            simp only [run_freeze, Result.andThen_ok]
            simp [World.freeze]
            exact modify_push _ _ _
          · have hsz : (s.data.map (fun b => Value.int .u8 b.toNat) ++ Array.replicate (cap - s.size) (Value.int .u8 0)).size = cap := by
              have : s.data.size = s.size := rfl
              simp; omega
            have := fresh_cells (σ := τ) (h := w.heap) (l := l.map fun b => AV.int .u8 (Int.ofNat b)) (n := l.length) (cl := .no) (e := e) (fz := (cap, cap + 1)) (cs := s.data.map (fun b => Value.int .u8 b.toNat) ++ Array.replicate (cap - s.size) (.int .u8 0))
              ⟨s.data.toList.map (fun b => Value.int .u8 b.toNat), List.replicate (cap - s.size) (.int .u8 0), ?_, by simp⟩ (by rw [hsz]; omega) (fun j hj => by rw [hsz] at hj; simp; omega) (fun h => by cases h) (fun _ h => by cases h) (fun _ h => by cases h)
            · rw [hsz] at this; exact this
            · rw [← hl]
              have := VRels.map (σ := τ) (f := fun b : UInt8 => AV.int .u8 (Int.ofNat b.toNat)) (g := fun b : UInt8 => Value.int .u8 b.toNat) (l := s.data.toList) (fun x _ => .int _ _)
              simpa [bytesOf, Function.comp_def] using this
          · rw [← hlen]
            rw [← hlen] at hcle
            exact .opn hid hcle (by simp) (.inl rfl)
        · cases h
      · cases h
    · cases h
  · rename_i t rs ho
    have mk : ∀ (q : Option Value), (Instr.makeMap t q).run C.P w = .ok (.map (some w.heap.size)) { w with heap := w.heap.push (.map #[] 0) } → execOp ρ' o = (do pure (.value (← Instr.makeMap t q))) → MakesBlk C.P σ (execOp ρ' o) w (.map [] [] 0) (fun id => .map id) := by
      intro q hq he
      refine ⟨.map (some w.heap.size), { w with heap := w.heap.push (.map #[] 0) }, .map #[] 0, 0, ?_, rfl, ⟨rfl, rfl⟩, fun τ _ => ⟨⟨#[], by simp, trivial, rfl⟩, fun id hid => .map hid⟩⟩
      rw [he]
      simp only [Sem.run_bind, hq, Result.andThen_ok, Sem.run_pure]
    split at h
    · cases h
      exact mk none (by simp [Instr.makeMap, run_newObj]) (by simp [execOp, ho])
    · rename_i q
      rw [ho] at hr
      split at h
      · rename_i kt e k n hu hq
        cases h
        have hrq := hr q (by simp [Op.operands])
        rw [hq] at hrq
        have hq' := hrq.int_inv
        exact mk (some (ρ' q)) (by simp [Instr.makeMap, run_newObj, run_underlying_some hu, hq', asInt, asIntOf]) (by simp [execOp, ho])
      · cases h
  · cases h
end Go.Proofs.YtdjeokgkeejpcaaGreatDoor.AX

namespace Go.Proofs.YtdjeokgkeejpcaaGreatDoor.AX
open Go
variable {P : Program} {σ : Sig} {w : World} {pr : Pr} {hp : Hp}

/-- Values laid into a row of cells from a place on. -/
def writeC (cs : Array Value) (o : Nat) : List Value → Array Value
  | [] => cs
  | x :: xs => writeC (cs.setIfInBounds o x) (o + 1) xs
theorem writeC_size : ∀ (xs : List Value) (cs : Array Value) (o : Nat), (writeC cs o xs).size = cs.size
  | [], _, _ => rfl
  | x :: xs, cs, o => by rw [writeC, writeC_size xs]; simp
theorem writeC_get : ∀ (xs : List Value) (cs : Array Value) (o j : Nat), o + xs.length ≤ cs.size → (writeC cs o xs)[j]? = if o ≤ j ∧ j < o + xs.length then xs[j - o]? else cs[j]?
  | [], cs, o, j, _ => by rw [writeC, if_neg (by simp)]
  | x :: xs, cs, o, j, h => by
    simp only [List.length_cons] at h
    rw [writeC, writeC_get xs _ _ _ (by simp; omega)]
    by_cases h0 : j = o
    · subst h0
      have hlt : j < cs.size := by omega
      rw [if_neg (by omega), if_pos (by simp)]
      simp [hlt]
    · by_cases h1 : o + 1 ≤ j ∧ j < o + 1 + xs.length
      · rw [if_pos h1, if_pos (by simp; omega)]
        rw [show j - o = (j - (o + 1)) + 1 from by omega]
        simp
      · rw [if_neg h1, if_neg (by simp; omega)]
        exact Array.getElem?_setIfInBounds_ne (by omega)
theorem heap_setCell {h : Array Obj} {b o : Nat} {x : Value} {cs : Array Value} {e : TypeId} {fz : Nat × Nat} (hw : w.heap = h) (hb : h[b]? = some (.cells cs e fz)) :
    (w.setCell ⟨b, o, none⟩ x).heap[b]? = some (.cells (cs.setIfInBounds o x) e fz) ∧ ∀ k, k ≠ b → (w.setCell ⟨b, o, none⟩ x).heap[k]? = h[k]? := by
  subst hw
  simp only [World.setCell, Array.getElem?_modify]
  refine ⟨by simp [hb], fun k hk => by rw [if_neg (Ne.symm hk)]⟩
theorem run_storeCells {b o : Nat} {e : TypeId} {fz : Nat × Nat} : ∀ (xs : List Value) (i : Nat) (cs : Array Value) (w : World), w.heap[b]? = some (.cells cs e fz) →
    o + i + xs.length ≤ cs.size → (∀ j, j < cs.size → ¬ (fz.1 ≤ j ∧ j < fz.2)) → (∀ x ∈ xs, x.oneCell' = true) →
    ∃ w', (storeCells ⟨b, o, none⟩ xs i).run P w = .ok () w' ∧ w'.heap[b]? = some (.cells (writeC cs (o + i) xs) e fz) ∧ (∀ k, k ≠ b → w'.heap[k]? = w.heap[k]?) ∧ Same w w' := by
  intro xs
  induction xs with
  | nil => intro i cs w hb _ _ _; exact ⟨w, rfl, hb, fun _ _ => rfl, Same.refl w⟩
  | cons x xs ih =>
    intro i cs w hb hle hfz hone
    simp only [List.length_cons] at hle
    have hlt : o + i < cs.size := by omega
    have hc : w.cell? ⟨b, o + i, none⟩ = some cs[o + i] := cell_at rfl hb (by simp [hlt])
    have hf : w.frozen? ⟨b, o + i, none⟩ = false := by
      have := hfz (o + i) hlt
      obtain ⟨lo, hi⟩ := fz
      simp only [World.frozen?, hb]
      simp only at this
      cases hh : (decide (lo ≤ o + i) && decide (o + i < hi)) with
      | false => rfl
      | true => simp only [Bool.and_eq_true, decide_eq_true_eq] at hh; exact absurd hh this
    obtain ⟨h1, h2⟩ := heap_setCell (w := w) (o := o + i) (x := x) rfl hb
    obtain ⟨w', g1, g2, g3, g4⟩ := ih (i + 1) (cs.setIfInBounds (o + i) x) (w.setCell ⟨b, o + i, none⟩ x) h1 (by simp; omega) (by simpa using hfz) (fun y hy => hone y (by simp [hy]))
    refine ⟨w', ?_, ?_, fun k hk => by rw [g3 k hk, h2 k hk], Same.trans ⟨rfl, rfl⟩ g4⟩
    · simp only [storeCells, Sem.run_bind, addr_add]
      rw [run_store P w _ x .plain (hone x (by simp)), hc]
      simp only [hf, Bool.false_eq_true, if_false, Result.andThen_ok]
      exact g1
    · rw [g2]; rfl
theorem atomB_sound {v : AV} {x : Value} (h : atomB v = true) (hx : VRel σ v x) : x.oneCell' = true := by
  cases hx <;> first | rfl | (cases h; done) | skip
  rename_i hc ht
  cases x <;> first | rfl | (exact absurd rfl (ht _)) | skip
  rename_i vs
  exfalso
  have hc' : vs = #[Value.agg vs] := hc
  have hs := congrArg (fun v : Array Value => SizeOf.sizeOf v) hc'
  simp at hs
  omega
theorem atomsB_sound : ∀ {l : List AV} {xs : List Value}, atomsB l = true → VRels σ l xs → ∀ x ∈ xs, x.oneCell' = true
  | _, _, _, .nil => fun x hx => by cases hx
  | v :: l, y :: xs, h, .cons hv hr => by
    simp only [atomsB] at h
    split at h
    · rename_i ha
      intro x hx
      rcases List.mem_cons.1 hx with rfl | hx
      · exact atomB_sound ha hv
      · exact atomsB_sound h hr x hx
    · cases h

/-- Nothing but new names between two counts. -/
structure Ext (σ τ : Sig) (a b : Nat) : Prop where
  le : σ ≤ τ
  nx : a ≤ b
  out : ∀ id, (id < a ∨ b ≤ id) → τ id = σ id
theorem Ext.refl (σ : Sig) (n : Nat) : Ext σ σ n n := ⟨Sig.refl _, Nat.le_refl _, fun _ _ => rfl⟩
theorem Ext.trans {σ τ υ : Sig} {a b c : Nat} (h : Ext σ τ a b) (h' : Ext τ υ b c) : Ext σ υ a c :=
  ⟨Sig.trans h.le h'.le, Nat.le_trans h.nx h'.nx, fun id hid => by
    have := h.nx; have := h'.nx
    rw [h'.out id (by omega), h.out id (by omega)]⟩
theorem Ext.one {σ : Sig} {n : Nat} (i : Info) (h : σ n = none) : Ext σ (σ.put n i) n (n + 1) :=
  ⟨Sig.put_le i h, Nat.le_succ _, fun id hid => Sig.put_other _ _ (by omega)⟩
def Fresh (σ : Sig) (a b : Nat) : Prop := ∀ id, a ≤ id → id < b → σ id = none
theorem Fresh.after {σ τ : Sig} {a b c : Nat} (h : Fresh σ a c) (e : Ext σ τ a b) : Fresh τ b c := fun id h1 h2 => by
  have := e.nx
  rw [e.out id (.inr h1)]; exact h id (by omega) h2
theorem Fresh.upto {σ : Sig} {a b c : Nat} (h : Fresh σ a c) (hb : b ≤ c) : Fresh σ a b := fun id h1 h2 => h id h1 (by omega)

/-- The step yields this value: its own, or none. -/
def YieldsV (n : Next) (v : Value) : Prop := n = .value v ∨ (n = .skip ∧ v = undef)
/-- What a step that calls nothing comes to. -/
def StepOk (P : Program) (pr : Pr) (σ : Sig) (nx : Nat) (s : Sem Next) (w : World) (v : AV) (hp' : Hp) (nx' : Nat) : Prop :=
  ∃ n w' τ v', s.run P w = .ok n w' ∧ YieldsV n v' ∧ VRel τ v v' ∧ Ext σ τ nx nx' ∧ R pr τ hp' w'

/-- Cells of a live block turn. -/
theorem cells_turn {id : Nat} {c : Cells} {n off : Nat} {cl : Cl} {i : Info} {l : List AV} {xs : List Value} {w w' : World} {cs : Array Value} {e : TypeId} {fz : Nat × Nat}
    (r : R pr σ hp w) (hb : hp.get id = some (.cells c n cl)) (hi : σ id = some i) (_hblk : w.heap[i.blk]? = some (.cells cs e fz)) (hsz : cs.size = i.base + i.room)
    (hn : n ≤ i.room) (hfz : ∀ j, j < cs.size → ¬ (fz.1 ≤ j ∧ j < fz.2)) (hcl : ClOk cl e fz i.base cs.size n) (hk : ∀ j v, j < n → c.get j = some v → ∃ x, cs[i.base + j]? = some x ∧ VRel σ v x)
    (hl : VRels σ l xs) (hle : off + l.length ≤ n) (h1 : w'.heap[i.blk]? = some (.cells (writeC cs (i.base + off) xs) e fz)) (h2 : ∀ k, k ≠ i.blk → w'.heap[k]? = w.heap[k]?) (h3 : Same w w') :
    R pr σ (hp.set id (.cells (writeL c off l) n cl)) w' := by
  have hlen := hl.length
  refine r.turn hb hi ⟨_, e, fz, h1, by rw [writeC_size]; exact hsz, hn, by rw [writeC_size]; exact hfz, by rw [writeC_size]; exact hcl, fun j v hj hv => ?_⟩ h2 h3
  rw [writeL_get] at hv
  rw [writeC_get _ _ _ _ (by omega)]
  split at hv
  · rename_i hin
    obtain ⟨x, hx, hr⟩ := hl.get hv
    refine ⟨x, ?_, hr⟩
    rw [if_pos (by omega), show i.base + j - (i.base + off) = j - off from by omega]
    exact hx
  · rename_i hin
    obtain ⟨x, hx, hr⟩ := hk j v hj hv
    exact ⟨x, by rw [if_neg (by omega)]; exact hx, hr⟩

theorem storeA_sound {C : Ctx} {t : TypeId} {a v r0 : AV} {x y : Value} {nx : Nat} {hp' : Hp} {nx' : Nat} (h : storeA C t a v hp nx = .done r0 hp' nx') (hx : VRel σ a x) (hy : VRel σ v y)
    (r : R pr σ hp w) : ∃ w', (Instr.storeAt t x y).run C.P w = .ok () w' ∧ r0 = .tup [] ∧ nx' = nx ∧ R pr σ hp' w' := by
  unfold storeA at h
  split at h
  · rename_i id off
    split at h
    · rename_i c n cl hb
      split at h
      · rename_i l hl
        split at h
        · rename_i hle hat
          have hle := Nat.le_of_ble_eq_true hle
          cases h
          obtain ⟨i, hi, rfl⟩ := hx.ptr_inv
          obtain ⟨i', hi', hblk⟩ := r.blk _ _ hb
          rw [hi] at hi'
          cases hi'
          obtain ⟨cs, e, fz, h1, h2, h3, h4, h5, h6⟩ := hblk
          obtain ⟨g1, g2, _⟩ := varCells_sound hl hy
          have hone := atomsB_sound hat g1
          have hlen : l.length = y.cells.size := by simpa using g1.length
          have hle : off + l.length ≤ n := hle
          obtain ⟨w', e1, e2, e3, e4⟩ := run_storeCells (P := C.P) (o := i.base + off) y.cells.toList 0 cs w h1 (by simp; omega) h4 hone
          refine ⟨w', ?_, rfl, rfl, cells_turn r hb hi h1 h2 h3 h4 h5 h6 g1 hle e2 e3 e4⟩
          have hne : ¬ y.cells.size ≠ l.length := by omega
          simp only [Instr.storeAt, Instr.sureAddr, Sem.run_bind, Sem.run_pure, Result.andThen_ok, storeVar, run_sizeOf g2, if_neg hne]
          exact e1
        · cases h
      · cases h
    · cases h
  · cases h

theorem nextslicecap_le {need c : Nat} (h : c < need) : Builtin.nextslicecap need c ≤ need * 2 + 1000 := by
  have g : ∀ n c, c < need * 2 + 1000 → c ≤ need + (need + 768) / 4 + 1 → Builtin.growBy need n c ≤ need + (need + 768) / 4 + 1 := by
    intro n
    induction n with
    | zero => intro c _ h; exact h
    | succ n ih =>
      intro c h1 h2
      unfold Builtin.growBy
      split
      · exact h2
      · exact ih _ (by omega) (by omega)
  unfold Builtin.nextslicecap
  split
  · omega
  · split
    · omega
    · have := g 4 c (by omega) (by omega); omega
theorem zeroCells_toList (z : Array Value) (n : Nat) : (Builtin.zeroCells z n).size = n * z.size := by simp [Builtin.zeroCells]

/-- 'append' where what is appended is no 'make'. -/
theorem run_append {t t' e : TypeId} {d : TypeDesc} {i : TypeInfo} {ts : Array TypeId} {ty : TypeId} {args : Array Value} {base : Option Addr} {sLen sCap n : Nat} {x : Value}
    (h0 : ts[0]? = some t) (h1 : ts[1]? = some t') (hu : P.underlying t = some (.slice e)) (hu' : P.underlying t' = some d) (hd : ∀ k, d ≠ .int k)
    (hi : P.info? e = some i) (a0 : args[0]? = some (.slice base sLen sCap)) (a1 : args[1]? = some x) (hn : (Builtin.lenOf x).run P w = .ok n w) :
    (Builtin.append_ ts ty args).run P w = (if sLen + n ≤ sCap then
        (do let new ← Builtin.firstCells i.size n x
            if let some a := base then storeCells (a.add (sLen * i.size)) new.toList
            pure (Value.slice base (sLen + n) sCap) : Sem Value).run P w
      else if Builtin.nextslicecap (sLen + n) sCap * i.bytes > 2 ^ 48 ∨ ((sLen + n : Nat) : Int) > IntKind.i64.max then (Builtin.append_ ts ty args).run P w
      else
        (do let newCap ← choose (.appendCap (sLen + n) sCap e)
            let old ← Builtin.firstCells i.size sLen (.slice base sLen sCap)
            let new ← Builtin.firstCells i.size n x
            let rest := Builtin.zeroCells (← zeroValue e).cells (newCap - (sLen + n))
            pure (Value.slice (some (← newRow e (old ++ new ++ rest))) (sLen + n) newCap) : Sem Value).run P w) := by
  have hsz : sizeT P e = some i.size := by simp [sizeT, hi]
  have hz : (match d with | .int _ => true | _ => false) = false := by cases d <;> first | rfl | exact absurd rfl (hd _)
  by_cases hc : sLen + n ≤ sCap
  · rw [if_pos hc]
    cases d <;> first | (exact absurd rfl (hd _)) | skip
    all_goals
      cases base <;>
      simp only [Builtin.append_, h0, h1, a0, a1, Sem.run_bind, run_underlying_some hu, run_underlying_some hu', Result.andThen_ok, run_sizeOf hsz, Sem.run_pure, Bool.false_eq_true, if_false, hn, if_pos hc, Bool.not_false, if_true]
  · rw [if_neg hc]
    by_cases hb : Builtin.nextslicecap (sLen + n) sCap * i.bytes > 2 ^ 48 ∨ ((sLen + n : Nat) : Int) > IntKind.i64.max
    · rw [if_pos hb]
    · rw [if_neg hb]
      have hb1 : ¬ (Builtin.nextslicecap (sLen + n) sCap * i.bytes > 2 ^ 48) := fun h => hb (.inl h)
      have hb2 : ¬ (((sLen + n : Nat) : Int) > IntKind.i64.max) := fun h => hb (.inr h)
      cases d <;> first | (exact absurd rfl (hd _)) | skip
      all_goals
        simp only [Builtin.append_, h0, h1, a0, a1, Sem.run_bind, run_underlying_some hu, run_underlying_some hu', Result.andThen_ok, run_sizeOf hsz, Sem.run_pure, Bool.false_eq_true, if_false, hn, if_neg hc, Bool.not_false, if_true, run_typeInfo hi, hb2, false_and, hb1, run_askRoom, false_or]
end Go.Proofs.YtdjeokgkeejpcaaGreatDoor.AX

namespace Go.Proofs.YtdjeokgkeejpcaaGreatDoor.AX
open Go
variable {P : Program} {σ : Sig} {w : World} {pr : Pr} {hp : Hp}

theorem heap_setBlock {w : World} {r : Nat} {o : Obj} (h : r < w.heap.size) : (ChangeMaps.setBlock w r o).heap[r]? = some o ∧ ∀ k, k ≠ r → (ChangeMaps.setBlock w r o).heap[k]? = w.heap[k]? := by
  refine ⟨by simp [ChangeMaps.setBlock, h], fun k hk => ?_⟩
  simp only [ChangeMaps.setBlock]
  exact Array.getElem?_setIfInBounds_ne (Ne.symm hk)
/-- What is left, abstract and true. -/
def LeftRel (σ : Sig) : List ((AV × AV) × Nat) → List MapEntry → Prop
  | [], [] => True
  | e :: es, m :: ms => VRel σ e.1.1 m.key ∧ VRel σ e.1.2 m.val ∧ m.born = e.2 ∧ LeftRel σ es ms
  | _, _ => False
theorem leftA_sound {seen : List Nat} : ∀ {es : List (AV × AV)} {bs : List Nat} {ms : List MapEntry}, EntsRel σ es ms → ms.map (·.born) = bs → LeftRel σ (leftA seen es bs) (ms.filter fun e => !seen.contains e.born)
  | [], bs, [], _, h => by cases h; trivial
  | e :: es, bs, m :: ms, ⟨h1, h2, h3⟩, h => by
    subst h
    simp only [List.map_cons, leftA]
    have ih := leftA_sound (seen := seen) (bs := ms.map (·.born)) h3 rfl
    split
    · rename_i hs
      rw [List.filter_cons_of_neg (by rw [hs]; simp)]
      exact ih
    · rename_i hs
      rw [List.filter_cons_of_pos (by rw [hs]; simp)]
      exact ⟨h1, h2, rfl, ih⟩
  | [], _, _ :: _, h, _ => h.elim
  | _ :: _, _, [], h, _ => h.elim
theorem toList_leftOf (es : Array MapEntry) (seen : List Nat) : (leftOf es seen.toArray).toList = es.toList.filter fun e => !seen.contains e.born := by
  unfold leftOf
  rw [Array.toList_filter]
  congr 1
  funext e
  simp
theorem rangeA_sound {t : TypeId} {x r0 : AV} {y : Value} {nx nx' : Nat} {hp' : Hp} (h : rangeA P t x hp nx = .done r0 hp' nx') (hx : VRel σ x y) (r : R pr σ hp w) (hfr : Fresh σ nx nx') :
    ∃ v' w' τ, (Instr.range t y).run P w = .ok v' w' ∧ VRel τ r0 v' ∧ Ext σ τ nx nx' ∧ R pr τ hp' w' := by
  have go : ∀ (o : Obj) (b : Blk), (∀ τ : Sig, σ ≤ τ → BlkRel τ b ⟨w.heap.size, 0, 0⟩ (w.heap.push o)) → σ nx = none → (Instr.range t y).run P w = .ok (.pointer (some ⟨w.heap.size, 0, none⟩)) { w with heap := w.heap.push o } →
      ∃ v' w' τ, (Instr.range t y).run P w = .ok v' w' ∧ VRel τ (.ptr nx 0) v' ∧ Ext σ τ nx (nx + 1) ∧ R pr τ (hp.set nx b) w' := by
    intro o b hb hf hrun
    have hle := Sig.put_le (σ := σ) (id := nx) ⟨w.heap.size, 0, 0⟩ hf
    exact ⟨_, _, _, hrun, VRel.ptr (i := ⟨w.heap.size, 0, 0⟩) (off := 0) (Sig.put_same _ _ _), Ext.one _ hf, r.new hf (hb _ hle) rfl ⟨rfl, rfl⟩⟩
  unfold rangeA at h
  split at h
  · rename_i kt e ht
    split at h
    · obtain rfl := hx.nilm_inv
      cases h
      refine go (.mapIter none 0 #[] 0) _ (fun τ _ => ⟨none, by simp, rfl, rfl⟩) (hfr _ (Nat.le_refl _) (Nat.lt_succ_self _)) ?_
      simp only [Instr.range, Sem.run_bind, run_underlying_some ht, Result.andThen_ok, Sem.run_pure, run_newObj]
    · rename_i id
      split at h
      · rename_i es bs clk hb
        cases h
        obtain ⟨i, hi, rfl⟩ := hx.map_inv
        obtain ⟨i', hi', ms, h1, h2, hbs⟩ := r.blk _ _ hb
        rw [hi] at hi'
        cases hi'
        refine go (.mapIter (some i.blk) clk #[] clk) _ (fun τ hle => ⟨some i.blk, by simp, rfl, i, hle _ _ hi, rfl⟩) (hfr _ (Nat.le_refl _) (Nat.lt_succ_self _)) ?_
        simp only [Instr.range, Sem.run_bind, run_underlying_some ht, Result.andThen_ok, Sem.run_pure, run_newObj, MapKept.run_getObj_map h1]
      · cases h
    · cases h
  · cases h
theorem nextA_sound {it r0 : AV} {y : Value} {ty : TypeId} {nx nx' : Nat} {hp' : Hp} (h : nextA it hp nx = .done r0 hp' nx') (hx : VRel σ it y) (r : R pr σ hp w) :
    ∃ v' w', (Instr.next y false ty).run P w = .ok v' w' ∧ VRel σ r0 v' ∧ nx' = nx ∧ R pr σ hp' w' := by
  unfold nextA at h
  split at h
  · rename_i id
    obtain ⟨i, hi, rfl⟩ := hx.ptr_inv
    split at h
    · rename_i hb
      cases h
      obtain ⟨i', hi', mo, h1, h0, h2⟩ := r.blk _ _ hb
      rw [hi] at hi'
      cases hi'
      have h2 : mo = none := h2
      subst h2
      refine ⟨.tuple #[.bool false], w, ?_, .tup (.cons (.bool _) .nil), rfl, r⟩
      simp only [Instr.next, Sem.run_bind, h0, getObj, Sem.run, h1, Result.andThen_ok, Sem.run_pure, Nat.add_zero]
    · rename_i m since seen last hb
      split at h
      · rename_i es bs clk hm
        split at h
        · cases h
        · rename_i hcond
          simp only [Bool.and_eq_true, List.all_eq_true] at hcond
          obtain ⟨i', hi', mo, h1, h0, h2⟩ := r.blk _ _ hb
          rw [hi] at hi'
          cases hi'
          obtain ⟨j, hj, rfl⟩ := h2
          obtain ⟨j', hj', ms, g1, g2, gb⟩ := r.blk _ _ hm
          rw [hj] at hj'
          cases hj'
          have hold : ∀ x ∈ ms.toList, x.born < since := fun x hx => Nat.le_of_ble_eq_true (hcond.1 _ (by rw [← gb]; exact List.mem_map_of_mem hx))
          have hle := Nat.le_of_ble_eq_true hcond.2
          have hL := leftA_sound (seen := seen) g2 gb
          rw [← toList_leftOf] at hL
          have hlt := (Array.getElem?_eq_some_iff.1 h1).1
          have hrun := run_next_at (P := P) w ty i.blk j.blk since last seen.toArray ms clk h1 g1 hold hle
          have e0 : (⟨i.blk, i.base + 0, none⟩ : Addr) = ⟨i.blk, 0, none⟩ := by rw [h0]
          rw [e0]
          split at h
          · rename_i hl
            cases h
            rw [hl] at hL
            rcases hrun with ⟨_, q2⟩ | ⟨e, q1, _⟩
            · exact ⟨_, w, q2, .tup (.cons (.bool _) .nil), rfl, r⟩
            · cases hq : (leftOf ms seen.toArray).toList with
              | nil => rw [hq] at q1; cases q1
              | cons a l => rw [hq] at hL; exact hL.elim
          · rename_i e b hl
            cases h
            rw [hl] at hL
            cases hq : (leftOf ms seen.toArray).toList with
            | nil => rw [hq] at hL; exact hL.elim
            | cons a l =>
              rw [hq] at hL
              obtain ⟨k1, k2, k3, k4⟩ := hL
              cases l with
              | cons _ _ => exact k4.elim
              | nil =>
                rcases hrun with ⟨q1, _⟩ | ⟨e', q1, w1, q2, q3⟩
                · have : (leftOf ms seen.toArray).toList.length = 0 := by simpa using q1
                  rw [hq] at this
                  cases this
                · rw [hq] at q1
                  obtain rfl := List.mem_singleton.1 q1
                  refine ⟨_, _, q3, .tup (.cons (.bool _) (.cons k1 (.cons k2 .nil))), rfl, ?_⟩
                  have hh : w1.heap = w.heap := by rcases q2 with rfl | rfl <;> rfl
                  have hs : Same w (ChangeMaps.setBlock w1 i.blk (.mapIter (some j.blk) since (seen.toArray.push e'.born) clk)) := by rcases q2 with rfl | rfl <;> exact ⟨rfl, rfl⟩
                  obtain ⟨p1, p2⟩ := heap_setBlock (w := w1) (r := i.blk) (o := .mapIter (some j.blk) since (seen.toArray.push e'.born) clk) (by rw [hh]; exact hlt)
                  refine r.turn hb hi ⟨some j.blk, ?_, h0, j, hj, rfl⟩ (fun k hk => by rw [p2 k hk, hh]) hs
                  rw [p1, k3]
                  simp
          · cases h
      · cases h
    · cases h
  · cases h
/-- Elements laid over others of a live block. -/
theorem copy_at {C : Ctx} {ts : Array TypeId} {ty t e : TypeId} {z n id off len cap m : Nat} {c : Cells} {cl : Cl} {i : Info} {o : Nat} {args : Array Value} {y : Value} {l : List AV} {xs : Array Value}
    (ht : ts[0]? = some t) (hu : C.P.underlying t = some (.slice e)) (hz : sizeT C.P e = some z) (a0 : args[0]? = some (.slice (some ⟨i.blk, o, none⟩) len cap)) (a1 : args[1]? = some y)
    (hn : (Builtin.lenOf y).run C.P w = .ok n w) (hx : (Builtin.firstCells z (Nat.min n len) y).run C.P w = .ok xs w) (hl : VRels σ l xs.toList) (hi : σ id = some i) (hb : hp.get id = some (.cells c m cl)) (hle : len ≤ cap) (ho : o = i.base + off ∨ cap = 0)
    (hm : off + Nat.min n len * z ≤ m) (hat : atomsB l = true) (hll : l.length = Nat.min n len * z) (r : R pr σ hp w) :
    ∃ w', (Builtin.copy_ ts ty args).run C.P w = .ok (.int .i64 (Int.ofNat (Nat.min n len))) w' ∧ R pr σ (hp.set id (.cells (writeL c off l) m cl)) w' := by
  obtain ⟨i', hi', hblk⟩ := r.blk _ _ hb
  rw [hi] at hi'
  cases hi'
  obtain ⟨cs, e0, fz, h1, h2, h3, h4, h5, h6⟩ := hblk
  have hone := atomsB_sound hat hl
  have hlen := hl.length
  have key : ∃ w', (storeCells ⟨i.blk, o, none⟩ xs.toList 0).run C.P w = .ok () w' ∧ w'.heap[i.blk]? = some (.cells (writeC cs (i.base + off) xs.toList) e0 fz) ∧ (∀ k, k ≠ i.blk → w'.heap[k]? = w.heap[k]?) ∧ Same w w' := by
    rcases ho with ho | ho
    · subst ho
      exact run_storeCells (P := C.P) (o := i.base + off) xs.toList 0 cs w h1 (by omega) h4 hone
    · have hmin : Nat.min n len = 0 := by
        have : len = 0 := by omega
        rw [this]; exact Nat.min_zero _
      rw [hmin, Nat.zero_mul] at hll
      have : xs.toList = [] := List.length_eq_zero_iff.1 (by omega)
      rw [this]
      exact ⟨w, rfl, h1, fun _ _ => rfl, Same.refl w⟩
  obtain ⟨w', e1, e2, e3, e4⟩ := key
  refine ⟨w', ?_, cells_turn r hb hi h1 h2 h3 h4 h5 h6 hl (by omega) e2 e3 e4⟩
  simp only [Builtin.copy_, ht, a0, a1, Sem.run_bind, run_underlying_some hu, Result.andThen_ok, hn, run_sizeOf hz, hx, e1]
  rfl
theorem copyA_sound {C : Ctx} {ts : Array TypeId} {ty : TypeId} {d s v : AV} {x y : Value} {args : Array Value} {nx nx' : Nat} {hp' : Hp} (h : copyA C ts d s hp nx = .done v hp' nx') (a0 : args[0]? = some x) (a1 : args[1]? = some y)
    (hd : VRel σ d x) (hs : VRel σ s y) (r : R pr σ hp w) : ∃ v' w', (Builtin.copy_ ts ty args).run C.P w = .ok v' w' ∧ VRel σ v v' ∧ nx' = nx ∧ R pr σ hp' w' := by
  unfold copyA at h
  split at h
  · rename_i t ht
    split at h
    · rename_i e hu
      split at h
      · rename_i z n hz hn
        split at h
        · obtain rfl := hd.nils_inv
          split at h
          · rename_i l hl
            cases h
            obtain ⟨xs, g1, g2⟩ := elemsA_any (P := C.P) hl hn (Nat.zero_le _) hs r
            refine ⟨.int .i64 0, w, ?_, .int _ _, rfl, r⟩
            have hm : Nat.min n 0 = 0 := Nat.min_zero _
            simp only [Builtin.copy_, ht, a0, a1, Sem.run_bind, run_underlying_some hu, Result.andThen_ok, (g2 w rfl).2, run_sizeOf hz, hm, (g2 w rfl).1]
            rfl
          · cases h
        · rename_i id off len cap
          split at h
          · rename_i l c m cl hl hb
            split at h
            · rename_i hc
              simp only [Bool.and_eq_true] at hc
              obtain ⟨⟨hm, hat⟩, hll⟩ := hc
              have hm := Nat.le_of_ble_eq_true hm
              have hll := Nat.eq_of_beq_eq_true hll
              cases h
              obtain ⟨i, o, hi, hle, ho, rfl⟩ := hd.slice_inv
              obtain ⟨xs, g1, g2⟩ := elemsA_any (P := C.P) hl hn (Nat.min_le_left _ _) hs r
              obtain ⟨w', e1, e2⟩ := copy_at (ty := ty) ht hu hz a0 a1 (g2 w rfl).2 (g2 w rfl).1 g1 hi hb hle ho hm hat hll r
              exact ⟨_, w', e1, .int _ _, rfl, e2⟩
            · cases h
          · cases h
        · rename_i id off len cap
          split at h
          · rename_i l c m cl hl hb
            split at h
            · rename_i hc
              simp only [Bool.and_eq_true] at hc
              obtain ⟨⟨hm, hat⟩, hll⟩ := hc
              have hm := Nat.le_of_ble_eq_true hm
              have hll := Nat.eq_of_beq_eq_true hll
              cases h
              obtain ⟨i, o, cc, hi, hle, _, ho, rfl⟩ := hd.opn_inv
              obtain ⟨xs, g1, g2⟩ := elemsA_any (P := C.P) hl hn (Nat.min_le_left _ _) hs r
              obtain ⟨w', e1, e2⟩ := copy_at (ty := ty) ht hu hz a0 a1 (g2 w rfl).2 (g2 w rfl).1 g1 hi hb hle ho hm hat hll r
              exact ⟨_, w', e1, .int _ _, rfl, e2⟩
            · cases h
          · cases h
        · cases h
      · cases h
    · cases h
  · cases h
end Go.Proofs.YtdjeokgkeejpcaaGreatDoor.AX
