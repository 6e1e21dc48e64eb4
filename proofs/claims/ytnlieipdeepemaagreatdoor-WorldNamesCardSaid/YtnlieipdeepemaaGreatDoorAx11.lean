/- AX, part 11: what reads memory; what makes a block. -/
import Derived.Test.YtnlieipdeepemaaGreatDoorAx10
namespace Go.Proofs.YtnlieipdeepemaaGreatDoor.AX
open Go
variable {P : Program} {σ : Sig} {w : World} {pr : Pr} {hp : Hp}

theorem cell_at {h : Array Obj} {w : World} (hw : w.heap = h) {b o : Nat} {cs : Array Value} {e : TypeId} {fz : Nat × Nat} {x : Value} (hb : h[b]? = some (.cells cs e fz)) (hx : cs[o]? = some x) :
    w.cell? ⟨b, o, none⟩ = some x := by
  simp [World.cell?, hw, hb, hx]
theorem run_load_at {b o : Nat} {x : Value} (h : w.cell? ⟨b, o, none⟩ = some x) : (Go.load ⟨b, o, none⟩).run P w = .ok x w := by
  simp [run_load, h]
theorem run_loadCellsFrom {b o : Nat} : ∀ (n i : Nat) (xs : List Value) (acc : Array Value), xs.length = n → (∀ k x, xs[k]? = some x → w.cell? ⟨b, o + i + k, none⟩ = some x) →
    (loadCellsFrom ⟨b, o, none⟩ i n acc).run P w = .ok (acc ++ xs.toArray) w := by
  intro n
  induction n with
  | zero => intro i xs acc hl _; have : xs = [] := List.length_eq_zero_iff.1 hl; subst this; simp [loadCellsFrom]
  | succ n ih =>
    intro i xs acc hl h
    cases xs with
    | nil => simp at hl
    | cons x xs =>
      have h0 : w.cell? ⟨b, o + i, none⟩ = some x := h 0 x rfl
      simp only [loadCellsFrom, Sem.run_bind, addr_add, run_load_at h0, Result.andThen_ok]
      rw [ih (i + 1) xs (acc.push x) (by simpa using hl) (fun k y hy => by
        have := h (k + 1) y (by simpa using hy)
        rw [show o + (i + 1) + k = o + i + (k + 1) from by omega]; exact this)]
      simp
theorem run_loadCells {b o : Nat} {xs : List Value} (h : ∀ k x, xs[k]? = some x → w.cell? ⟨b, o + k, none⟩ = some x) :
    (Go.loadCells ⟨b, o, none⟩ xs.length).run P w = .ok xs.toArray w := by
  have := run_loadCellsFrom (P := P) (w := w) (b := b) (o := o) xs.length 0 xs #[] rfl (fun k x hx => by simpa using h k x hx)
  simpa [Go.loadCells] using this

theorem readN_zero (c : Cells) (off : Nat) : readN c off 0 = some [] := rfl
theorem readN_succ (c : Cells) (off n : Nat) : readN c off (n + 1) = (match c.get off with
    | some v => match readN c (off + 1) n with
      | some l => some (v :: l)
      | none => none
    | none => none) := rfl
/-- Cells that are known, read in a row. -/
theorem readN_sound {c : Cells} {m base : Nat} {cs : Array Value} (hc : ∀ j v, j < m → c.get j = some v → ∃ x, cs[base + j]? = some x ∧ VRel σ v x) :
    ∀ {n off : Nat} {l : List AV}, readN c off n = some l → off + n ≤ m → ∃ xs : List Value, xs.length = n ∧ VRels σ l xs ∧ ∀ k x, xs[k]? = some x → cs[base + off + k]? = some x := by
  intro n
  induction n with
  | zero => intro off l h _; rw [readN_zero] at h; cases h; exact ⟨[], rfl, .nil, fun k x hx => by simp at hx⟩
  | succ n ih =>
    intro off l h hle
    rw [readN_succ] at h
    split at h
    · rename_i v hv
      split at h
      · rename_i l' hl
        cases h
        obtain ⟨x, hx, hr⟩ := hc off v (by omega) hv
        obtain ⟨xs, h1, h2, h3⟩ := ih hl (by omega)
        refine ⟨x :: xs, by simp [h1], .cons hr h2, fun k y hy => ?_⟩
        cases k with
        | zero => simp at hy; subst hy; simpa using hx
        | succ k =>
          have := h3 k y (by simpa using hy)
          rw [show base + off + (k + 1) = base + (off + 1) + k from by omega]; exact this
      · cases h
    · cases h
theorem run_loadVar_one {t : TypeId} (ha : isAggT P t = some false) {b o : Nat} {x : Value} (h : w.cell? ⟨b, o, none⟩ = some x) : (loadVar t ⟨b, o, none⟩).run P w = .ok x w := by
  simp only [loadVar, Sem.run_bind, run_isAgg ha, Result.andThen_ok, Bool.false_eq_true, if_false, run_load_at h]
theorem run_loadVar_agg {t : TypeId} (ha : isAggT P t = some true) {n : Nat} (hn : sizeT P t = some n) {b o : Nat} {xs : List Value} (hl : xs.length = n)
    (h : ∀ k x, xs[k]? = some x → w.cell? ⟨b, o + k, none⟩ = some x) : (loadVar t ⟨b, o, none⟩).run P w = .ok (.agg xs.toArray) w := by
  subst hl
  simp only [loadVar, Sem.run_bind, run_isAgg ha, Result.andThen_ok, if_true, run_sizeOf hn, run_loadCells h, Sem.run_pure]

theorem loadA_sound {C : Ctx} {t : TypeId} {a v : AV} {x : Value} (h : loadA C t a hp = some v) (hx : VRel σ a x) (r : R pr σ hp w) (hg : GlOk C pr) :
    ∃ b o v', x = .pointer (some ⟨b, o, none⟩) ∧ (loadVar t ⟨b, o, none⟩).run C.P w = .ok v' w ∧ VRel σ v v' := by
  unfold loadA at h
  split at h
  · rename_i id off
    split at h
    · rename_i c n cl hb
      obtain ⟨i, hi, rfl⟩ := hx.ptr_inv
      obtain ⟨i', hi', hblk⟩ := r.blk _ _ hb
      rw [hi] at hi'
      cases hi'
      obtain ⟨cs, e, fz, h1, h2, h3, h4, h5, h6⟩ := hblk
      refine ⟨i.blk, i.base + off, ?_⟩
      unfold AX.loadCells at h
      split at h
      · rename_i ha
        split at h
        · rename_i hlt
          have hlt := Nat.le_of_ble_eq_true hlt
          obtain ⟨y, hy, hv⟩ := h6 off v hlt h
          exact ⟨y, rfl, run_loadVar_one ha (cell_at rfl h1 hy), hv⟩
        · cases h
      · rename_i ha
        split at h
        · rename_i z hz
          split at h
          · rename_i hlt
            have hlt := Nat.le_of_ble_eq_true hlt
            split at h
            · rename_i l hl
              cases h
              obtain ⟨xs, e1, e2, e3⟩ := readN_sound h6 hl hlt
              exact ⟨.agg xs.toArray, rfl, run_loadVar_agg ha hz e1 (fun k y hy => cell_at rfl h1 (e3 k y hy)), .agg (by simpa using e2)⟩
            · cases h
          · cases h
        · cases h
      · cases h
    · cases h
  · rename_i g off
    split at h
    · rename_i c hc
      split at h
      · rename_i ha
        obtain rfl := hx.gptr_inv
        obtain ⟨cs, e, fz, h1, h2⟩ := hg g c hc
        obtain ⟨y, hy, hv⟩ := h2 off v h
        exact ⟨g, off, y, rfl, run_loadVar_one ha (cell_at rfl (r.prot _ _ h1) hy), hv σ⟩
      · rename_i ha
        split at h
        · rename_i z hz
          split at h
          · rename_i l hl
            cases h
            obtain rfl := hx.gptr_inv
            obtain ⟨cs, e, fz, h1, h2⟩ := hg g c hc
            obtain ⟨xs, e1, e2, e3⟩ := readN_sound (m := off + z) (base := 0) (cs := cs) (fun j v _ hv => let ⟨x, h3, h4⟩ := h2 j v hv; ⟨x, by simpa using h3, h4 σ⟩) hl (Nat.le_refl _)
            exact ⟨g, off, .agg xs.toArray, rfl, run_loadVar_agg ha hz e1 (fun k y hy => cell_at rfl (r.prot _ _ h1) (by have := e3 k y hy; rwa [Nat.zero_add] at this)), .agg (by simpa using e2)⟩
          · cases h
        · cases h
      · cases h
    · cases h
  · cases h

/-- The first elements of a slice, as the model reads them. -/
theorem elemsA_any {z n len : Nat} {a : AV} {l : List AV} {x : Value} (h : elemsA z n a hp = some l) (hl : lenOfA a = some len) (hn : n ≤ len) (hx : VRel σ a x) (r : R pr σ hp w) :
    ∃ xs : Array Value, VRels σ l xs.toList ∧ ∀ w' : World, w'.heap = w.heap → (Builtin.firstCells z n x).run P w' = .ok xs w' ∧ (Builtin.lenOf x).run P w' = .ok len w' := by
  unfold elemsA at h
  split at h
  · cases h
    cases hl
    obtain rfl := hx.nils_inv
    exact ⟨#[], .nil, fun _ _ => ⟨rfl, rfl⟩⟩
  · rename_i id off len' cap
    cases hl
    split at h
    · rename_i c m cl hb
      split at h
      · rename_i hlt
        have hlt := Nat.le_of_ble_eq_true hlt
        obtain ⟨i, o, hi, hle, ho, rfl⟩ := hx.slice_inv
        obtain ⟨i', hi', hblk⟩ := r.blk _ _ hb
        rw [hi] at hi'
        cases hi'
        obtain ⟨cs, e, fz, h1, h2, h3, h4, h5, h6⟩ := hblk
        obtain ⟨xs, e1, e2, e3⟩ := readN_sound h6 h hlt
        refine ⟨xs.toArray, by simpa using e2, fun w' hw => ⟨?_, rfl⟩⟩
        have e1 : xs.length = n * z := e1
        simp only [Builtin.firstCells]
        rw [← e1]
        refine run_loadCells fun k y hy => cell_at hw h1 ?_
        rcases ho with ho | ho
        · rw [ho]; exact e3 k y hy
        · have : xs.length = 0 := by rw [e1, show n = 0 from by omega]; simp
          have := List.length_eq_zero_iff.1 this
          subst this; simp at hy
      · cases h
    · cases h
  · rename_i id off len' sz
    cases hl
    split at h
    · rename_i c m cl hb
      split at h
      · rename_i hlt
        have hlt := Nat.le_of_ble_eq_true hlt
        obtain ⟨i, o, cap, hi, hle, hr, ho, rfl⟩ := hx.opn_inv
        obtain ⟨i', hi', hblk⟩ := r.blk _ _ hb
        rw [hi] at hi'
        cases hi'
        obtain ⟨cs, e, fz, h1, h2, h3, h4, h5, h6⟩ := hblk
        obtain ⟨xs, e1, e2, e3⟩ := readN_sound h6 h hlt
        refine ⟨xs.toArray, by simpa using e2, fun w' hw => ⟨?_, rfl⟩⟩
        have e1 : xs.length = n * z := e1
        simp only [Builtin.firstCells]
        rw [← e1]
        refine run_loadCells fun k y hy => cell_at hw h1 ?_
        rcases ho with ho | ho
        · rw [ho]; exact e3 k y hy
        · have : xs.length = 0 := by rw [e1, show n = 0 from by omega]; simp
          have := List.length_eq_zero_iff.1 this
          subst this; simp at hy
      · cases h
    · cases h
  · rename_i s
    cases h
    cases hl
    obtain ⟨bs, rfl, hbs⟩ := hx.str_inv
    refine ⟨(bs.extract 0 n).data.map fun b => .int .u8 b.toNat, ?_, fun w' hw => ⟨rfl, ?_⟩⟩
    · rw [← hbs]
      have := VRels.map (σ := σ) (f := fun b : UInt8 => AV.int .u8 (Int.ofNat b.toNat)) (g := fun b : UInt8 => Value.int .u8 b.toNat) (l := bs.data.toList.take n) (fun x _ => .int _ _)
      simpa [bytesOf, ByteArray.data_extract, Array.toList_extract, List.extract_eq_take_drop, ← List.map_take, Function.comp_def] using this
    · have : bs.size = s.length := by rw [← hbs]; simp [bytesOf]
      simp [Builtin.lenOf, this]
  · cases h
theorem elemsA_sound {z n len : Nat} {a : AV} {l : List AV} {x : Value} (h : elemsA z n a hp = some l) (hl : lenOfA a = some len) (hn : n ≤ len) (hx : VRel σ a x) (r : R pr σ hp w) :
    ∃ xs : Array Value, (Builtin.firstCells z n x).run P w = .ok xs w ∧ VRels σ l xs.toList ∧ (Builtin.lenOf x).run P w = .ok len w := by
  obtain ⟨xs, h1, h2⟩ := elemsA_any (P := P) h hl hn hx r
  exact ⟨xs, (h2 w rfl).1, h1, (h2 w rfl).2⟩
end Go.Proofs.YtnlieipdeepemaaGreatDoor.AX
