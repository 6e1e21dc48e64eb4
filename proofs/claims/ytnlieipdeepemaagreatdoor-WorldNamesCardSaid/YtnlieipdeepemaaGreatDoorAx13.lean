/- AX, part 13: operations of class 2. -/
import Derived.Test.YtnlieipdeepemaaGreatDoorAx12
namespace Go.Proofs.YtnlieipdeepemaaGreatDoor.AX
open Go
variable {P : Program} {σ : Sig} {w : World}

theorem writeL_nil (c : Cells) (off : Nat) : writeL c off [] = c := rfl
theorem writeL_cons (c : Cells) (off : Nat) (v : AV) (l : List AV) : writeL c off (v :: l) = writeL (c.set off v) (off + 1) l := rfl
theorem writeL_get : ∀ (l : List AV) (c : Cells) (off j : Nat), (writeL c off l).get j = if off ≤ j ∧ j < off + l.length then l[j - off]? else c.get j
  | [], c, off, j => by
    rw [writeL_nil, if_neg (by simp)]
  | v :: l, c, off, j => by
    rw [writeL_cons, writeL_get l, Cells.get_set]
    by_cases h : j = off
    · subst h
      rw [if_neg (by omega), if_pos rfl, if_pos (by simp)]
      simp
    · by_cases h2 : off + 1 ≤ j ∧ j < off + 1 + l.length
      · rw [if_pos h2, if_pos (by simp; omega)]
        rw [show j - off = (j - (off + 1)) + 1 from by omega]
        simp
      · rw [if_neg h2, if_neg h, if_neg (by simp; omega)]
theorem ofL_get (l : List AV) (j : Nat) : (ofL l).get j = l[j]? := by
  rw [ofL, writeL_get]
  by_cases h : j < l.length
  · rw [if_pos (by omega)]; simp
  · rw [if_neg (by omega), Cells.get_leaf]; simp; omega

/-- A fresh row of cells. -/
theorem fresh_cells {h : Array Obj} {l : List AV} {n : Nat} {cl : Cl} {cs : Array Value} {e : TypeId} {fz : Nat × Nat} (hr : ∃ xs rest : List Value, VRels σ l xs ∧ cs.toList = xs ++ rest)
    (hn : n ≤ cs.size) (hfz : ∀ j, j < cs.size → ¬ (fz.1 ≤ j ∧ j < fz.2)) (hcl : cl.is = true → fz = (0, 0)) (hty : ∀ t, cl = .ty t → e = t) (hwh : ∀ t, cl = .whole t → e = t ∧ cs.size = n) :
    BlkRel σ (.cells (ofL l) n cl) ⟨h.size, 0, cs.size⟩ (h.push (.cells cs e fz)) := by
  refine ⟨cs, e, fz, by simp, by simp, hn, hfz, ⟨fun h => ⟨hcl h, rfl⟩, hty, hwh⟩, fun j v _ hv => ?_⟩
  obtain ⟨xs, rest, hx, hc⟩ := hr
  rw [ofL_get] at hv
  obtain ⟨x, h1, h2⟩ := hx.get hv
  refine ⟨x, ?_, h2⟩
  have : cs.toList[j]? = some x := by rw [hc, List.getElem?_append_left (List.getElem?_eq_some_iff.1 h1).1]; exact h1
  simpa using this

theorem varCells_sound {t : TypeId} {v : AV} {l : List AV} {x : Value} (h : varCells P t v = some l) (hx : VRel σ v x) :
    VRels σ l x.cells.toList ∧ (sizeT P t = some l.length) ∧ ∀ y ∈ x.cells.toList, (isAggT P t = some false → y.oneCell' = true) := by
  unfold varCells at h
  split at h
  · rename_i ha
    split at h
    · rename_i l'
      split at h
      · rename_i n hn
        split at h
        · rename_i hl
          have hl := Nat.eq_of_beq_eq_true hl
          cases h
          obtain ⟨vs, rfl, hv⟩ := hx.agg_inv
          exact ⟨hv, by rw [hl]; exact hn, fun y _ e => by rw [ha] at e; cases e⟩
        · cases h
      · cases h
    · cases h
  · rename_i ha
    split at h
    · cases h
    · cases h
    · cases h
    · rename_i h1 h2 h3
      split at h
      · rename_i hz
        cases h
        have hc : x.cells = #[x] ∧ x.oneCell' = true := by
          cases hx <;> first | exact ⟨rfl, rfl⟩ | (exact absurd rfl h1) | (exact absurd rfl (h2 _)) | (exact absurd rfl (h3 _)) | skip
          rename_i hc ht
          refine ⟨hc, ?_⟩
          cases x <;> first | rfl | (exact absurd rfl (ht _)) | skip
          rename_i vs
          exfalso
          have hc' : vs = #[Value.agg vs] := hc
          have hs := congrArg (fun v : Array Value => SizeOf.sizeOf v) hc'
          simp at hs
          omega
        refine ⟨by rw [hc.1]; exact .cons hx .nil, hz, fun y hy _ => ?_⟩
        rw [hc.1] at hy
        simp at hy
        subst hy
        exact hc.2
      · cases h
  · cases h

theorem bang_toList (a : Array Value) (i : Nat) : a.toList[i]! = a[i]! := by
  simp only [getElem!_def, Array.getElem?_toList]
theorem rep_rels {z : List AV} {zs : List Value} (h : VRels σ z zs) : ∀ n, VRels σ (rep z n) ((List.range (n * zs.length)).map fun i => zs[i % zs.length]!)
  | 0 => by simp [rep]; exact .nil
  | n + 1 => by
    have e : (List.range ((n + 1) * zs.length)).map (fun i => zs[i % zs.length]!) = zs ++ (List.range (n * zs.length)).map fun i => zs[i % zs.length]! := by
      apply List.ext_getElem?
      intro i
      by_cases hi : i < zs.length
      · rw [List.getElem?_append_left hi]
        have : i < (n + 1) * zs.length := by rw [Nat.add_mul]; omega
        simp [this, Nat.mod_eq_of_lt hi, hi]
      · have hi := Nat.le_of_not_lt hi
        rw [List.getElem?_append_right hi]
        by_cases h2 : i < (n + 1) * zs.length
        · have h3 : i - zs.length < n * zs.length := by rw [Nat.add_mul] at h2; omega
          have h4 : i % zs.length = (i - zs.length) % zs.length := by
            conv => lhs; rw [show i = (i - zs.length) + zs.length from by omega, Nat.add_mod_right]
          simp [h2, h3, h4]
        · have h3 : ¬ i - zs.length < n * zs.length := by rw [Nat.add_mul] at h2; omega
          simp [h2, h3]
    rw [e]
    exact h.append (rep_rels h n)
theorem lay_size : ∀ (l : List (Value × Nat)) (off : Nat) (cells : Array Value), (l.foldl (fun cs (p : Value × Nat) => cs.setIfInBounds (off + p.2) p.1) cells).size = cells.size
  | [], _, _ => rfl
  | p :: l, off, cells => by rw [List.foldl_cons, lay_size l off]; simp
theorem fill_size {pl : Nat → Option (Nat × Nat)} : ∀ {qs : List (Nat × Value)} {zs rs : Array Value}, Instr.fill pl zs qs = some rs → rs.size = zs.size
  | [], zs, rs, h => by simp [Instr.fill] at h; rw [h]
  | (i, v) :: qs, zs, rs, h => by
    simp only [Instr.fill] at h
    split at h
    · cases h
    · split at h
      · cases h
      · rw [fill_size h, ← Array.foldl_toList, Array.toList_zipIdx]
        exact lay_size _ _ _
theorem modify_push (h : Array Obj) (o : Obj) (f : Obj → Obj) : (h.push o).modify h.size f = h.push (f o) := by
  apply Array.ext_getElem?
  intro i
  rw [Array.getElem?_modify]
  by_cases e : h.size = i
  · subst e; simp
  · rw [if_neg e]
    by_cases h2 : i < h.size
    · rw [Array.getElem?_push_lt h2, Array.getElem?_push_lt h2]
    · rw [Array.getElem?_eq_none (by simp; omega), Array.getElem?_eq_none (by simp; omega)]
/-- What an operation of class 2 does. -/
def MakesBlk (P : Program) (σ : Sig) (s : Sem Next) (w : World) (b : Blk) (mk : Nat → AV) : Prop :=
  ∃ v' w' ob room, s.run P w = .ok (.value v') w' ∧ w'.heap = w.heap.push ob ∧ Same w w' ∧
    ∀ τ : Sig, σ ≤ τ → BlkRel τ b ⟨w.heap.size, 0, room⟩ (w.heap.push ob) ∧ ∀ id, τ id = some ⟨w.heap.size, 0, room⟩ → VRel τ (mk id) v'
theorem noFz (cs : Array Value) : ∀ j, j < cs.size → ¬ ((0, 0) : Nat × Nat).1 ≤ j ∨ ¬ j < ((0, 0) : Nat × Nat).2 := fun j _ => .inr (by simp)
theorem noFz' (cs : Array Value) : ∀ j, j < cs.size → ¬ (((0, 0) : Nat × Nat).1 ≤ j ∧ j < ((0, 0) : Nat × Nat).2) := fun j _ => by simp
theorem ptr_new {τ : Sig} {id n room : Nat} (h : τ id = some ⟨n, 0, room⟩) : VRel τ (.ptr id 0) (.pointer (some ⟨n, 0, none⟩)) := by
  have := VRel.ptr (σ := τ) (off := 0) h
  simpa using this
theorem newVar_makes {t : TypeId} {l : List AV} {x : Value} (hl : VRels σ l x.cells.toList) :
    MakesBlk P σ (do pure (.value (.pointer (some (← newVar t x))))) w (.cells (ofL l) l.length (.whole t)) (fun id => .ptr id 0) := by
  have hlen : l.length = x.cells.size := by simpa using hl.length
  refine ⟨.pointer (some ⟨w.heap.size, 0, none⟩), { w with heap := w.heap.push (.cells x.cells t) }, .cells x.cells t (0, 0), x.cells.size, ?_, rfl, ⟨rfl, rfl⟩, fun τ hle => ⟨?_, fun id hid => ptr_new hid⟩⟩
  · simp [newVar, newRow]
  · exact fresh_cells ⟨x.cells.toList, [], VRels.mono hle hl, by simp⟩ (by omega) (noFz' _) (fun _ => rfl) (fun _ h => by cases h) (fun _ h => by cases h; exact ⟨rfl, hlen.symm⟩)
theorem range_arr (n : Nat) (f : Nat → Value) : ((Array.range n).map f).toList = (List.range n).map f := by simp
theorem alloc_sound {C : Ctx} {o : Oper} {ρ : Operand → AV} {ρ' : Operand → Value} {b : Blk} {mk : Nat → AV} (h : allocA C o.op ρ = some (b, mk))
    (hr : ∀ x ∈ o.op.operands, VRel σ (ρ x) (ρ' x)) : MakesBlk C.P σ (execOp ρ' o) w b mk := by
  unfold allocA at h
  split at h
  · rename_i t ho
    split at h
    · rename_i v hv
      split at h
      · rename_i l hl
        cases h
        obtain ⟨x, h1, h2⟩ := zeroA_sound (σ := σ) (w := w) hv
        obtain ⟨v', w', ob, room, e1, e2, e3⟩ := newVar_makes (P := C.P) (t := t) (w := w) (cellsA_rel hl h2)
        exact ⟨v', w', ob, room, by simpa [execOp, ho, Instr.alloc, h1] using e1, e2, e3⟩
      · cases h
    · cases h
  · rename_i t x ho
    rw [ho] at hr
    split at h
    · rename_i l hl
      cases h
      obtain ⟨h1, h2, h3⟩ := varCells_sound hl (hr x (by simp [Op.operands]))
      obtain ⟨v', w', ob, room, e1, e2, e3⟩ := newVar_makes (P := C.P) (t := t) (w := w) h1
      exact ⟨v', w', ob, room, by simpa [execOp, ho, Instr.box] using e1, e2, e3⟩
    · cases h
  · rename_i t len ps ho
    rw [ho] at hr
    split at h
    · rename_i e hu
      split at h
      · rename_i n v hn hv
        split at h
        · rename_i z hz
          split at h
          · rename_i cs hzl hbd hfl
            have hzl := Nat.eq_of_beq_eq_true hzl
            have hbd := Nat.le_of_ble_eq_true hbd
            cases h
            obtain ⟨x, h1, h2⟩ := zeroA_sound (σ := σ) (w := w) hv
            have hz2 := cellsA_rel hz h2
            have hzs : x.cells.size = n := by have := hz2.length; simp at this; omega
            have hrp := rep_rels hz2 len
            have hfill := fill_sound (pl := fun i => some (i * n, n)) (zs := (Array.range (len * n)).map fun i => x.cells[i % x.cells.size]!) (qs := ps.toList.map fun p => (p.1, ρ' p.2)) hfl
              (by
                have e1 : x.cells.toList.length = n := by simpa using hzs
                rw [e1] at hrp
                simp only [range_arr]
                rw [hzs]
                have : (fun i => x.cells.toList[i % n]!) = fun i => x.cells[i % n]! := by funext i; exact bang_toList _ _
                rw [← this]; exact hrp)
              (by simp [Function.comp_def])
              (by
                have : ∀ p ∈ ps.toList, VRel σ (ρ p.2) (ρ' p.2) := fun p hp => hr p.2 (by
                  simp [Op.operands]; exact ⟨p.1, by simpa using hp⟩)
                have h3 := VRels.map (σ := σ) (f := fun p : Nat × Operand => ρ p.2) (g := fun p => ρ' p.2) this
                simpa [Function.comp_def] using h3)
            obtain ⟨rs, g1, g2⟩ := hfill
            have hlen : cs.length = rs.size := by simpa using g2.length
            have hrs : rs.size = len * n := by
              have := fill_size g1
              simpa using this
            refine ⟨.slice (some ⟨w.heap.size, 0, none⟩) len len, { w with heap := w.heap.push (.cells rs e) }, .cells rs e (0, 0), rs.size, ?_, rfl, ⟨rfl, rfl⟩, fun τ hle => ⟨?_, fun id hid => ?_⟩⟩
            · have hbd' : ¬ len * n > 2 ^ 24 := by omega
              have g1' : Instr.fill (fun i => some (i * n, n)) ((Array.range (len * n)).map (fun i => x.cells[i % x.cells.size]!)) (ps.map fun p => (p.1, ρ' p.2)).toList = some rs := by rw [Array.toList_map]; exact g1
              by_cases h0 : len * n = 0
              · have e0 : ∀ f : Nat → Value, (Array.range (len * n)).map f = #[] := fun f => by rw [h0]; simp
                rw [e0] at g1'
                simp only [execOp, ho, Instr.buildSlice, Sem.run_bind, run_underlying_some hu, Result.andThen_ok, run_sizeOf hn, if_neg hbd', if_pos h0, Sem.run_pure, e0, g1', newRow, run_newObj, pure_bind]
              · simp only [execOp, ho, Instr.buildSlice, Sem.run_bind, run_underlying_some hu, Result.andThen_ok, run_sizeOf hn, if_neg hbd', if_neg h0, Sem.run_pure, h1, g1', newRow, run_newObj, pure_bind]
            · rw [← hrs]
              exact fresh_cells ⟨rs.toList, [], VRels.mono hle g2, by simp⟩ (Nat.le_refl _) (noFz' _) (fun _ => rfl) (fun _ h => by cases h; rfl) (fun _ h => by cases h)
            · exact .slice hid (Nat.le_refl _) (.inl rfl)
          · cases h
        · cases h
      · cases h
    · cases h
  · rename_i t lo co ho
    rw [ho] at hr
    split at h
    · rename_i e hu
      split at h
      · rename_i i v hi hv
        split at h
        · rename_i z k1 l k2 c hz hl hc
          split at h
          · rename_i hzl hlc hcb hby
            have hzl := Nat.eq_of_beq_eq_true hzl
            have hlc := Nat.le_of_ble_eq_true hlc
            have hcb := Nat.le_of_ble_eq_true hcb
            have hby := Nat.le_of_ble_eq_true hby
            cases h
            obtain ⟨x, h1, h2⟩ := zeroA_sound (σ := σ) (w := w) hv
            have hz2 := cellsA_rel hz h2
            have hzs : x.cells.size = i.size := by have := hz2.length; simp at this; omega
            have hrp := rep_rels hz2 c
            have hrl := hr lo (by simp [Op.operands])
            have hrc := hr co (by simp [Op.operands])
            rw [hl] at hrl
            rw [hc] at hrc
            have el := hrl.int_inv
            have ec := hrc.int_inv
            have hsz : sizeT C.P e = some i.size := by simp [sizeT, hi]
            have wl : IntKind.i64.wrap (Int.ofNat l) = Int.ofNat l := lim_nonneg .i64 l (by simp [lim]; omega)
            have wc : IntKind.i64.wrap (Int.ofNat c) = Int.ofNat c := lim_nonneg .i64 c (by simp [lim]; omega)
            have e1 : x.cells.toList.length = i.size := by simpa using hzs
            rw [e1] at hrp
            have hcs : ∃ cs : Array Value, (Array.range (c * i.size)).map (fun j => (if c * i.size = 0 then #[] else x.cells)[j % (if c * i.size = 0 then #[] else x.cells).size]!) = cs ∧ cs.toList = (List.range (c * i.size)).map (fun j => x.cells.toList[j % i.size]!) := by
              refine ⟨_, rfl, ?_⟩
              by_cases h0 : c * i.size = 0
              · rw [h0]; simp
              · simp only [if_neg h0, range_arr, hzs]
                have : (fun j => x.cells.toList[j % i.size]!) = fun j => x.cells[j % i.size]! := by funext j; exact bang_toList _ _
                rw [this]
            obtain ⟨cs, hcs1, hcs2⟩ := hcs
            have hsize : cs.size = c * i.size := by have := congrArg List.length hcs2; simpa using this
            refine ⟨.slice (some ⟨w.heap.size, 0, none⟩) l c, { w with heap := w.heap.push (.cells cs e) }, .cells cs e (0, 0), cs.size, ?_, rfl, ⟨rfl, rfl⟩, fun τ hle => ⟨?_, fun id hid => ?_⟩⟩
            · have c1 : ¬ ((decide (Int.ofNat c < 0) || decide ((i.bytes : Int) * Int.ofNat c > 2 ^ 48)) = true ∨ Int.ofNat l < 0 ∨ Int.ofNat l > Int.ofNat c) := by
                have : (i.bytes : Int) * Int.ofNat c ≤ 281474976710656 := by
                  have := Int.ofNat_le.2 hby
                  simpa using this
                simp only [Bool.or_eq_true, decide_eq_true_eq]
                have h2 := Int.natCast_nonneg c
                have h3 := Int.natCast_nonneg l
                have h4 := Int.ofNat_le.2 hlc
                simp only [Int.ofNat_eq_natCast] at *
                omega
              have c2 : (decide (Int.ofNat c < 0) || decide ((i.bytes : Int) * Int.ofNat c > 2 ^ 48) || decide (Int.ofNat l < 0) || decide (Int.ofNat l > Int.ofNat c)) = false := by
                cases hh : (decide (Int.ofNat c < 0) || decide ((i.bytes : Int) * Int.ofNat c > 2 ^ 48) || decide (Int.ofNat l < 0) || decide (Int.ofNat l > Int.ofNat c)) with
                | false => rfl
                | true =>
                  simp only [Bool.or_eq_true, decide_eq_true_eq] at hh c1
                  exact absurd (by rcases hh with (hh | hh) | hh
                                   · exact .inl hh
                                   · exact .inr (.inl hh)
                                   · exact .inr (.inr hh)) c1
              have tl : (Int.ofNat l).toNat = l := rfl
              have tc : (Int.ofNat c).toNat = c := rfl
              simp only [execOp, ho, Instr.makeSlice, Sem.run_bind, run_underlying_some hu, Result.andThen_ok, el, ec, asInt, asIntOf, Sem.run_pure, run_typeInfo hi, wl, wc, pure_bind]
              simp only [c2, Bool.false_eq_true, if_false, Sem.run_bind, run_askRoom, Result.andThen_ok, run_sizeOf hsz, tc, tl]
              by_cases h0 : c * i.size = 0
              · simp only [if_pos h0] at hcs1
                simp only [if_pos h0, hcs1, newRow, Sem.run_bind, run_newObj, Sem.run_pure, Result.andThen_ok]
              · simp only [if_neg h0] at hcs1
                simp only [if_neg h0, Sem.run_bind, h1, hcs1, newRow, run_newObj, Sem.run_pure, Result.andThen_ok]
            · rw [← hsize]
              refine fresh_cells ⟨cs.toList, [], ?_, by simp⟩ (Nat.le_refl _) (noFz' _) (fun _ => rfl) (fun _ h => by cases h; rfl) (fun _ h => by cases h)
              rw [hcs2]
              exact VRels.mono hle hrp
            · exact .slice hid hlc (.inl rfl)
          · cases h
        · cases h
      · cases h
    · cases h
  · rename_i src dst x ho
    rw [ho] at hr
    split at h
    · rename_i e hs hd
      split at h
      · rename_i he
        split at h
        · rename_i l hx
          cases h
          have hrx := hr x (by simp [Op.operands])
          rw [hx] at hrx
          obtain ⟨s, hX, hl⟩ := hrx.str_inv
          have hlen : l.length = s.size := by rw [← hl]; simp [bytesOf]
          have hq : (Question.appendCap s.size 0 e).forced = false := rfl
          obtain ⟨cap, hcap, hcle⟩ : ∃ cap, (Question.appendCap s.size 0 e).cut (w.tape w.drawn (.appendCap s.size 0 e)) = cap ∧ s.size ≤ cap := ⟨_, rfl, by simp [Question.cut]⟩
          refine ⟨.slice (some ⟨w.heap.size, 0, none⟩) s.size cap, { w with drawn := w.drawn + 1, heap := w.heap.push (.cells (s.data.map (fun b => Value.int .u8 b.toNat) ++ Array.replicate (cap - s.size) (.int .u8 0)) e (cap, cap + 1)) },
            .cells (s.data.map (fun b => Value.int .u8 b.toNat) ++ Array.replicate (cap - s.size) (.int .u8 0)) e (cap, cap + 1), cap, ?_, rfl, ⟨rfl, rfl⟩, fun τ hle => ⟨?_, fun id hid => ?_⟩⟩
          · have hsz : (s.data.map (fun b => Value.int .u8 b.toNat) ++ Array.replicate (cap - s.size) (Value.int .u8 0)).size = cap := by
              have : s.data.size = s.size := rfl
              simp; omega
            simp only [execOp, ho, Sem.run_bind, Go.convert, run_underlying_some hs, run_underlying_some hd, Result.andThen_ok, hX, run_underlying_some he, Conv.stringToBytes, run_choose, hq, Bool.false_eq_true, if_false, hcap, newRow, run_newObj, Sem.run_pure, markStringish, run_shape]
            have hsh : ({ w with drawn := w.drawn + 1, heap := w.heap.push (.cells (s.data.map (fun b => Value.int .u8 b.toNat) ++ Array.replicate (cap - s.size) (.int .u8 0)) e) } : World).shape? w.heap.size = some (e, cap) := by
              simp only [World.shape?]
              simp only [Array.getElem?_push_size, hsz]
            simp only [hsh]
            simp only [run_freeze, Result.andThen_ok]
            simp [World.freeze]
            exact modify_push _ _ _
          · have hsz : (s.data.map (fun b => Value.int .u8 b.toNat) ++ Array.replicate (cap - s.size) (Value.int .u8 0)).size = cap := by
              have : s.data.size = s.size := rfl
              simp; omega
            have := fresh_cells (σ := τ) (h := w.heap) (l := l.map fun b => AV.int .u8 (Int.ofNat b)) (n := l.length) (cl := .no) (e := e) (fz := (cap, cap + 1)) (cs := s.data.map (fun b => Value.int .u8 b.toNat) ++ Array.replicate (cap - s.size) (.int .u8 0))
              ⟨s.data.toList.map (fun b => Value.int .u8 b.toNat), List.replicate (cap - s.size) (.int .u8 0), ?_, by simp⟩ (by rw [hsz]; omega) (fun j hj => by rw [hsz] at hj; simp; omega) (fun h => by cases h) (fun _ h => by cases h) (fun _ h => by cases h)
            · rw [hsz] at this; exact this
            · rw [← hl]
              have := VRels.map (σ := τ) (f := fun b : UInt8 => AV.int .u8 (Int.ofNat b.toNat)) (g := fun b : UInt8 => Value.int .u8 b.toNat) (l := s.data.toList) (fun x _ => .int _ _)
              simpa [bytesOf, Function.comp_def] using this
          · rw [← hlen]
            rw [← hlen] at hcle
            exact .opn hid hcle (by simp) (.inl rfl)
        · cases h
      · cases h
    · cases h
  · rename_i t rs ho
    have mk : ∀ (q : Option Value), (Instr.makeMap t q).run C.P w = .ok (.map (some w.heap.size)) { w with heap := w.heap.push (.map #[] 0) } → execOp ρ' o = (do pure (.value (← Instr.makeMap t q))) → MakesBlk C.P σ (execOp ρ' o) w (.map [] [] 0) (fun id => .map id) := by
      intro q hq he
      refine ⟨.map (some w.heap.size), { w with heap := w.heap.push (.map #[] 0) }, .map #[] 0, 0, ?_, rfl, ⟨rfl, rfl⟩, fun τ _ => ⟨⟨#[], by simp, trivial, rfl⟩, fun id hid => .map hid⟩⟩
      rw [he]
      simp only [Sem.run_bind, hq, Result.andThen_ok, Sem.run_pure]
    split at h
    · cases h
      exact mk none (by simp [Instr.makeMap, run_newObj]) (by simp [execOp, ho])
    · rename_i q
      rw [ho] at hr
      split at h
      · rename_i kt e k n hu hq
        cases h
        have hrq := hr q (by simp [Op.operands])
        rw [hq] at hrq
        have hq' := hrq.int_inv
        exact mk (some (ρ' q)) (by simp [Instr.makeMap, run_newObj, run_underlying_some hu, hq', asInt, asIntOf]) (by simp [execOp, ho])
      · cases h
  · cases h
end Go.Proofs.YtnlieipdeepemaaGreatDoor.AX
