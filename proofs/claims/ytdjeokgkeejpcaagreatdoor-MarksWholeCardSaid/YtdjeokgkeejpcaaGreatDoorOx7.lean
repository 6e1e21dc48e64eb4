/- OX, part 7: known answers: (*strings.Builder).copyCheck, strings.Join, strings.IndexByte. -/
import Derived.Test.YtdjeokgkeejpcaaGreatDoorOx1
import Derived.Lib.Builder
import Derived.Lib.Join
import Derived.Lib.Bytealg
namespace Go.Proofs.YtdjeokgkeejpcaaGreatDoor.AX
open Go Go.RowKit
variable {P : Program} {σ : Sig} {w : World} {pr : Pr} {hp : Hp}

/-- copyCheck of a Builder in a block of its own. T: the Builder's type. -/
noncomputable def copyCheckA (t0 : Nat) (args : List AV) (hp : Hp) (nx : Nat) : Option (AV × Hp × Nat) :=
  match args with
  | [.ptr id 0] => match hp.get id with
    | some (.cells c n (.whole t)) => match Nat.beq t t0 && Nat.beq n 2, c.get 0 with
      | true, some .nilp => some (.tup [], hp.set id (.cells (c.set 0 (.ptr id 0)) n (.whole t)), nx)
      | true, some (.ptr k 0) => match Nat.beq k id with
        | true => some (.tup [], hp, nx)
        | false => none
      | _, _ => none
    | _ => none
  | _ => none
theorem heap_setCell0 {w : World} {b : Nat} {cs : Array Value} {e : TypeId} {fz : Nat × Nat} (hb : w.heap[b]? = some (.cells cs e fz)) (v : Value) :
    (w.setCell ⟨b, 0, none⟩ v).heap[b]? = some (.cells (cs.setIfInBounds 0 v) e fz) ∧ ∀ k, k ≠ b → (w.setCell ⟨b, 0, none⟩ v).heap[k]? = w.heap[k]? := by
  refine ⟨?_, fun k hk => ?_⟩
  · simp [World.setCell, Array.getElem?_modify, hb]
  · simp only [World.setCell, Array.getElem?_modify]
    rw [if_neg (Ne.symm hk)]
theorem copyCheckA_good {C : Ctx} {f t0 : Nat} (hb : ∃ (fn : Func) (c : Code), C.P.funcs[f]? = some fn ∧ fn.body = some c)
    (h1 : ∀ (b : Nat) (w : World), w.cell? ⟨b, 0, none⟩ = some (.pointer none) → w.shape? b = some (t0, 2) → w.frozen? ⟨b, 0, none⟩ = false →
      Calls C.P f #[.pointer (some ⟨b, 0, none⟩)] w fun e w' => e = .returned (.tuple #[]) ∧ w' = w.setCell ⟨b, 0, none⟩ (.pointer (some ⟨b, 0, none⟩)))
    (h2 : ∀ (b : Nat) (w : World), w.cell? ⟨b, 0, none⟩ = some (.pointer (some ⟨b, 0, none⟩)) → Calls C.P f #[.pointer (some ⟨b, 0, none⟩)] w fun e w' => e = .returned (.tuple #[]) ∧ w' = w) : OrcGood C f (copyCheckA t0) := by
  refine ⟨hb, fun args hp nx v hp' nx' ho => ?_⟩
  unfold copyCheckA at ho
  split at ho
  · rename_i id
    split at ho
    · rename_i c n t hblk
      split at ho
      · rename_i hchk hc0
        simp only [Bool.and_eq_true] at hchk
        have ht := Nat.eq_of_beq_eq_true hchk.1
        have hn := Nat.eq_of_beq_eq_true hchk.2
        subst ht hn
        cases ho
        refine ⟨Nat.le_refl _, fun pr σ w args' r hg hf ha => ?_⟩
        obtain ⟨y, rfl, hy⟩ := args_one ha
        obtain ⟨i, hi, rfl⟩ := hy.ptr_inv
        obtain ⟨i', hi', cs, e, fz, g1, g2, g3, g4, g5, g6⟩ := r.blk _ _ hblk
        rw [hi] at hi'
        cases hi'
        obtain ⟨hfz, hbase⟩ := g5.1 rfl
        obtain ⟨he, hsz⟩ := g5.2.2 t rfl
        obtain ⟨x, hx, hxr⟩ := g6 0 _ (by omega) hc0
        cases hxr
        rw [hbase] at hx ⊢
        refine (callsIn_wide.2 (h1 i.blk w (by simpa [World.cell?, g1] using hx) (by simp [World.shape?, g1, he, hsz]) (by simp [World.frozen?, g1, hfz]))).mono ?_
        rintro e' w' ⟨rfl, rfl⟩
        obtain ⟨q1, q2⟩ := heap_setCell0 g1 (.pointer (some ⟨i.blk, 0, none⟩))
        refine ⟨σ, _, rfl, .tup .nil, Ext.refl _ _, r.turn hblk hi ⟨_, e, fz, q1, by simpa using g2, g3, by simpa using g4, by simpa using g5, fun j v hj hv => ?_⟩ q2 ⟨rfl, rfl⟩⟩
        rw [Cells.get_set] at hv
        split at hv
        · rename_i hj0
          subst hj0
          cases hv
          refine ⟨.pointer (some ⟨i.blk, 0, none⟩), ?_, ?_⟩
          · rw [hbase]
            have : 0 < cs.size := by omega
            simp [this]
          · have := VRel.ptr (σ := σ) (off := 0) hi
            rw [hbase] at this
            exact this
        · rename_i hj0
          obtain ⟨y, k1, k2⟩ := g6 j v hj hv
          exact ⟨y, by rw [Array.getElem?_setIfInBounds_ne (by omega)]; exact k1, k2⟩
      · rename_i k hchk hc0
        split at ho
        · rename_i hk
          have hk := Nat.eq_of_beq_eq_true hk
          subst hk
          simp only [Bool.and_eq_true] at hchk
          have hn := Nat.eq_of_beq_eq_true hchk.2
          subst hn
          cases ho
          refine ⟨Nat.le_refl _, fun pr σ w args' r hg hf ha => ?_⟩
          obtain ⟨y, rfl, hy⟩ := args_one ha
          obtain ⟨i, hi, rfl⟩ := hy.ptr_inv
          obtain ⟨i', hi', cs, e, fz, g1, g2, g3, g4, g5, g6⟩ := r.blk _ _ hblk
          rw [hi] at hi'
          cases hi'
          obtain ⟨hfz, hbase⟩ := g5.1 rfl
          obtain ⟨x, hx, hxr⟩ := g6 0 _ (by omega) hc0
          obtain ⟨i2, hi2, rfl⟩ := hxr.ptr_inv
          rw [hi] at hi2
          cases hi2
          rw [hbase] at hx ⊢
          refine (callsIn_wide.2 (h2 i.blk w (by simpa [World.cell?, g1] using hx))).mono ?_
          rintro e' w' ⟨rfl, rfl⟩
          exact ⟨σ, _, rfl, .tup .nil, Ext.refl _ _, r⟩
        · cases ho
      · cases ho
    · cases ho
  · cases ho

/-- strings.IndexByte. -/
def idxB (b : Nat) : List Nat → Int
  | [] => -1
  | a :: l => match Nat.beq a b with
    | true => 0
    | false => match idxB b l with
      | .negSucc _ => -1
      | .ofNat n => .ofNat (n + 1)
theorem idxB_eq (b : UInt8) : ∀ s : List UInt8, idxB b.toNat (s.map UInt8.toNat) = Lib.indexByte s b ∧ (-1 ≤ Lib.indexByte s b)
  | [] => ⟨rfl, by simp [Lib.indexByte]⟩
  | a :: l => by
    obtain ⟨ih, ih2⟩ := idxB_eq b l
    simp only [List.map_cons, idxB, Lib.indexByte]
    by_cases h : a = b
    · subst h
      simp [Nat.beq_refl]
    · have hb : Nat.beq a.toNat b.toNat = false := by
        cases hh : Nat.beq a.toNat b.toNat with
        | false => rfl
        | true => exact absurd (UInt8.toNat_inj.1 (Nat.eq_of_beq_eq_true hh)) h
      have he : (a == b) = false := by simpa using h
      simp only [hb, he, Bool.false_eq_true, if_false]
      rw [ih]
      cases hx : Lib.indexByte l b with
      | negSucc n =>
        rw [hx] at ih2
        have : n = 0 := by omega
        subst this
        exact ⟨rfl, by decide⟩
      | ofNat n =>
        have : ((Int.ofNat n == -1) = false) := by simp
        simp only [this, Bool.false_eq_true, if_false]
        exact ⟨rfl, by have : (0 : Int) ≤ Int.ofNat n := Int.natCast_nonneg n; omega⟩
noncomputable def indexByteA (args : List AV) (hp : Hp) (nx : Nat) : Option (AV × Hp × Nat) :=
  match args with
  | [.str s, .int .u8 (.ofNat b)] => match Nat.ble b 255 with
    | true => some (.int .i64 (idxB b s), hp, nx)
    | false => none
  | _ => none
theorem args_two {x y : AV} {args' : Array Value} (h : VRels σ [x, y] args'.toList) : ∃ v u, args' = #[v, u] ∧ VRel σ x v ∧ VRel σ y u := by
  obtain ⟨l⟩ := args'
  cases h with
  | cons p t => cases t with
    | cons q t => cases t with
      | nil => exact ⟨_, _, rfl, p, q⟩
theorem indexByteA_good {C : Ctx} {f : FuncId} (hb : ∃ (fn : Func) (c : Code), C.P.funcs[f]? = some fn ∧ fn.body = some c)
    (h : ∀ (s : ByteArray) (c : Int) (w : World), Calls C.P f #[.string s, .int .u8 c] w fun e w' => e = .returned (.int .i64 (Lib.indexByte s.data.toList c.toNat.toUInt8)) ∧ w' = w) : OrcGood C f indexByteA := by
  refine ⟨hb, fun args hp nx v hp' nx' ho => ?_⟩
  unfold indexByteA at ho
  split at ho
  · rename_i s b
    split at ho
    · rename_i hle
      have hle := Nat.le_of_ble_eq_true hle
      cases ho
      refine ⟨Nat.le_refl _, fun pr σ w args' r hg hf ha => ?_⟩
      obtain ⟨y, u, rfl, hy, hu⟩ := args_two ha
      obtain rfl := hu.int_inv
      cases hy with
      | str s' hs =>
      refine (callsIn_wide.2 (h s' (Int.ofNat b) w)).mono ?_
      rintro e w' ⟨rfl, rfl⟩
      refine ⟨σ, _, rfl, ?_, Ext.refl _ _, r⟩
      have hn : ((Int.ofNat b).toNat.toUInt8).toNat = b := by
        show (UInt8.ofNat b).toNat = b
        simp
        omega
      have := (idxB_eq ((Int.ofNat b).toNat.toUInt8) s'.data.toList).1
      rw [hn] at this
      have hs' : s'.data.toList.map UInt8.toNat = s := hs
      rw [hs'] at this
      rw [← this]
      exact .int _ _
    · cases ho
  · cases ho

/-- strings.Join. -/
def strsA : List AV → Option (List (List Nat))
  | [] => some []
  | v :: l => match v with
    | .str s => match strsA l with
      | some r => some (s :: r)
      | none => none
    | _ => none
def joinB (sep : List Nat) : List (List Nat) → List Nat
  | [] => []
  | [x] => x
  | x :: y :: l => x ++ (sep ++ joinB sep (y :: l))
theorem joinB_eq (sep : List UInt8) : ∀ l : List (List UInt8), joinB (sep.map UInt8.toNat) (l.map fun x => x.map UInt8.toNat) = (Lib.join l sep).map UInt8.toNat
  | [] => rfl
  | [x] => by simp [joinB, Lib.join_one]
  | x :: y :: l => by
    have ih := joinB_eq sep (y :: l)
    have : Lib.join (x :: y :: l) sep = x ++ (sep ++ Lib.join (y :: l) sep) := by simp [Lib.join, List.intercalate, List.intersperse]
    rw [this]
    simp only [List.map_cons, joinB, List.map_append] at ih ⊢
    rw [ih]
noncomputable def joinA (args : List AV) (hp : Hp) (nx : Nat) : Option (AV × Hp × Nat) :=
  match args with
  | [x, .str sep] => match sliceLen x with
    | some 0 => some (.str [], hp, nx)
    | some (n + 1) => match Nat.ble (n + 1) 1000000, elemsA 1 (n + 1) x hp with
      | true, some l => match strsA l with
        | some ss => match Nat.ble (joinB sep ss).length 1000000000 with
          | true => some (.str (joinB sep ss), hp, nx)
          | false => none
        | none => none
      | _, _ => none
    | none => none
  | _ => none
theorem strsA_sound : ∀ {l : List AV} {ss : List (List Nat)} {xs : List Value}, strsA l = some ss → VRels σ l xs → ∃ bs : List ByteArray, xs = bs.map Value.string ∧ ss = bs.map bytesOf
  | [], ss, xs, h, hx => by
    cases h
    cases hx
    exact ⟨[], rfl, rfl⟩
  | v :: l, ss, xs, h, hx => by
    cases hx with
    | cons h1 h2 =>
    simp only [strsA] at h
    split at h
    · split at h
      · rename_i r hr
        cases h
        obtain ⟨bs, g1, g2⟩ := strsA_sound hr h2
        cases h1 with
        | str s hs => exact ⟨s :: bs, by rw [g1]; rfl, by rw [g2, ← hs]; rfl⟩
      · cases h
    · cases h
theorem joinA_good {C : Ctx} {f : FuncId} (hb : ∃ (fn : Func) (c : Code), C.P.funcs[f]? = some fn ∧ fn.body = some c)
    (h0 : ∀ (a : Option Addr) (c : Nat) (sep : ByteArray) (w : World), Calls C.P f #[.slice a 0 c, .string sep] w fun e w' => e = .returned (.string ⟨#[]⟩) ∧ w' = w)
    (h1 : ∀ (bk o c : Nat) (xs : List ByteArray) (sep : ByteArray) (w : World), (∀ (j : Nat) x, xs[j]? = some x → w.cell? ⟨bk, o + j, none⟩ = some (.string x)) → bk < w.heap.size → xs.length ≤ 140737488355328 → xs.length ≤ c →
      (Lib.join (xs.map (·.data.toList)) sep.data.toList).length ≤ 140737488355328 →
      Calls C.P f #[.slice (some ⟨bk, o, none⟩) xs.length c, .string sep] w fun e w' => e = .returned (.string ⟨(Lib.join (xs.map (·.data.toList)) sep.data.toList).toArray⟩) ∧ Below w.heap.size w w') : OrcGood C f joinA := by
  refine ⟨hb, fun args hp nx v hp' nx' ho => ?_⟩
  unfold joinA at ho
  split at ho
  · rename_i x sep
    split at ho
    · rename_i hn
      cases ho
      refine ⟨Nat.le_refl _, fun pr σ w args' r hg hf ha => ?_⟩
      obtain ⟨y, u, rfl, hy, hu⟩ := args_two ha
      cases hu with
      | str s' hs =>
      have hv : ∃ a c, y = .slice a 0 c := by
        unfold sliceLen at hn
        split at hn
        · obtain rfl := hy.nils_inv; exact ⟨_, _, rfl⟩
        · cases hn; obtain ⟨i, o, _, _, _, rfl⟩ := hy.slice_inv; exact ⟨_, _, rfl⟩
        · cases hn; obtain ⟨i, o, c, _, _, _, _, rfl⟩ := hy.opn_inv; exact ⟨_, _, rfl⟩
        · cases hn
      obtain ⟨a, c, rfl⟩ := hv
      refine (callsIn_wide.2 (h0 a c s' w)).mono ?_
      rintro e w' ⟨rfl, rfl⟩
      exact ⟨σ, _, rfl, .str _ rfl, Ext.refl _ _, r⟩
    · rename_i n hn
      split at ho
      · rename_i l hle hl
        have hle := Nat.le_of_ble_eq_true hle
        split at ho
        · rename_i ss hss
          split at ho
          · rename_i hlen
            have hlen := Nat.le_of_ble_eq_true hlen
            cases ho
            refine ⟨Nat.le_refl _, fun pr σ w args' r hg hf ha => ?_⟩
            obtain ⟨y, u, rfl, hy, hu⟩ := args_two ha
            cases hu with
            | str s' hs =>
            have key : ∀ {id off : Nat} {i : Info} {c : Cells} {m : Nat} {cl : Cl}, σ id = some i → hp.get id = some (.cells c m cl) → readN c off (Nat.mul (n + 1) 1) = some l → Nat.add off (Nat.mul (n + 1) 1) ≤ m →
                i.blk < w.heap.size ∧ ∃ bs : List ByteArray, bs.length = n + 1 ∧ ss = bs.map bytesOf ∧ ∀ (j : Nat) x, bs[j]? = some x → w.cell? ⟨i.blk, i.base + off + j, none⟩ = some (.string x) := by
              intro id off i c m cl hi hg hr hle'
              obtain ⟨i', hi', hblk⟩ := r.blk _ _ hg
              rw [hi] at hi'
              cases hi'
              have hlt := hblk.lt
              obtain ⟨cs, e, fz, k1, k2, k3, k4, k5, k6⟩ := hblk
              obtain ⟨xs, e1, e2, e3⟩ := readN_sound k6 hr hle'
              obtain ⟨bs, g1, g2⟩ := strsA_sound hss e2
              refine ⟨hlt, bs, ?_, g2, fun j x hj => cell_at rfl k1 (e3 j _ ?_)⟩
              · have := congrArg List.length g1
                rw [List.length_map, e1] at this
                simpa using this.symm
              · rw [g1, List.getElem?_map, hj]; rfl
            have fin : ∀ (b o c : Nat), b < w.heap.size → (∃ bs : List ByteArray, bs.length = n + 1 ∧ ss = bs.map bytesOf ∧ ∀ (j : Nat) x, bs[j]? = some x → w.cell? ⟨b, o + j, none⟩ = some (.string x)) → n + 1 ≤ c → y = .slice (some ⟨b, o, none⟩) (n + 1) c →
                CallsIn (FF none) 0 C.P f #[y, .string s'] w (Post pr σ nx (.str (joinB sep ss)) hp nx) := by
              rintro b o c hlt ⟨bs, q1, q2, q3⟩ hc rfl
              have hj : joinB sep ss = (Lib.join (bs.map (·.data.toList)) s'.data.toList).map UInt8.toNat := by
                rw [← joinB_eq, List.map_map, q2]
                have : s'.data.toList.map UInt8.toNat = sep := hs
                rw [this]
                rfl
              have hjl : (Lib.join (bs.map (·.data.toList)) s'.data.toList).length ≤ 140737488355328 := by
                rw [hj] at hlen
                simp at hlen
                omega
              have := h1 b o c bs s' w q3 hlt (by omega) (by omega) hjl
              rw [q1] at this
              refine (callsIn_wide.2 this).mono ?_
              rintro e w' ⟨rfl, hk⟩
              refine ⟨σ, _, rfl, .str _ (by rw [hj]; simp [bytesOf]), Ext.refl _ _, r.kept ⟨hk.os, hk.output, hk.tape, fun k o hk' => (hk.block k (Array.getElem?_eq_some_iff.1 hk').1).trans hk'⟩⟩
            unfold sliceLen at hn
            split at hn
            · cases hn
            · cases hn
              obtain ⟨i, o, hi, hle', ho, rfl⟩ := hy.slice_inv
              have ho := ho.resolve_right (by omega)
              subst ho
              have hl' := hl
              unfold elemsA at hl'
              simp only at hl'
              split at hl'
              · rename_i c m cl hg
                split at hl'
                · rename_i hle2
                  obtain ⟨hlt, hbs⟩ := key hi hg hl' (Nat.le_of_ble_eq_true hle2)
                  exact fin _ _ _ hlt hbs hle' rfl
                · cases hl'
              · cases hl'
            · cases hn
              obtain ⟨i, o, cc, hi, hle', _, ho, rfl⟩ := hy.opn_inv
              have ho := ho.resolve_right (by omega)
              subst ho
              have hl' := hl
              unfold elemsA at hl'
              simp only at hl'
              split at hl'
              · rename_i c m cl hg
                split at hl'
                · rename_i hle2
                  obtain ⟨hlt, hbs⟩ := key hi hg hl' (Nat.le_of_ble_eq_true hle2)
                  exact fin _ _ _ hlt hbs hle' rfl
                · cases hl'
              · cases hl'
            · cases hn
          · cases ho
        · cases ho
      · cases ho
    · cases ho
  · cases ho
end Go.Proofs.YtdjeokgkeejpcaaGreatDoor.AX
