/- AX: functions whose answer is known: the least, the greatest of a row of numbers; the keys of a map, sorted. -/
import Derived.Test.YtdjeokgkeejpcaaGreatDoorAx24
import Derived.Lib.Slices
import Derived.Lib.SlKeysI
import Derived.Laws.AppendOwn
import Derived.Maps.Own
namespace Go.Proofs.YtdjeokgkeejpcaaGreatDoor.AX
open Go
variable {P : Program} {σ : Sig} {w w' : World} {pr : Pr} {hp : Hp}

/-- A block that came to be is taken over. -/
theorem R.adopt (r : R pr σ hp w) (k : Kept w w') {id : Nat} {b : Blk} {i : Info} (hf : σ id = none) (hi : w.heap.size ≤ i.blk) (hb : BlkRel (σ.put id i) b i w'.heap) : R pr (σ.put id i) (hp.set id b) w' := by
  have r' := r.kept k
  have hlt : ∀ {j c i'}, hp.get j = some c → σ j = some i' → i'.blk < w.heap.size := fun {j c i'} h1 h2 => by
    obtain ⟨i2, h3, h4⟩ := r.blk _ _ h1
    rw [h2] at h3
    cases h3
    exact h4.lt
  have hne : ∀ {j c}, hp.get j = some c → j ≠ id := fun {j c} h1 e => by
    obtain ⟨i2, h3, _⟩ := r.blk _ _ h1
    rw [e, hf] at h3
    cases h3
  refine ⟨fun j c hc => ?_, fun j j' c c' i1 i2 hc hc' h1 h2 e => ?_, r'.prot, fun j c i1 hc h1 => ?_, r'.same⟩
  · rw [T.get_set] at hc
    split at hc
    · rename_i e; subst e; cases hc; exact ⟨i, Sig.put_same _ _ _, hb⟩
    · rename_i e
      obtain ⟨i2, h3, h4⟩ := r'.blk _ _ hc
      exact ⟨i2, Sig.put_le _ hf _ _ h3, h4.mono (Sig.put_le _ hf)⟩
  · rw [T.get_set] at hc hc'
    by_cases e1 : j = id <;> by_cases e2 : j' = id
    · rw [e1, e2]
    · rw [if_neg e2] at hc'
      rw [Sig.put_other _ _ e2] at h2
      subst e1
      rw [Sig.put_same] at h1
      cases h1
      have := hlt hc' h2
      omega
    · rw [if_neg e1] at hc
      rw [Sig.put_other _ _ e1] at h1
      subst e2
      rw [Sig.put_same] at h2
      cases h2
      have := hlt hc h1
      omega
    · rw [if_neg e1] at hc
      rw [if_neg e2] at hc'
      rw [Sig.put_other _ _ e1] at h1
      rw [Sig.put_other _ _ e2] at h2
      exact r.inj _ _ _ _ _ _ hc hc' h1 h2 e
  · rw [T.get_set] at hc
    by_cases e1 : j = id
    · subst e1
      rw [Sig.put_same] at h1
      cases h1
      cases hp' : pr i.blk with
      | none => rfl
      | some o =>
        have := (Array.getElem?_eq_some_iff.1 (r.prot _ _ hp')).1
        omega
    · rw [if_neg e1] at hc
      rw [Sig.put_other _ _ e1] at h1
      exact r.free _ _ _ hc h1

/- NUMBERS IN A ROW -/
theorem numsOf_sound : ∀ {l : List AV} {zs : List Int} {xs : List Value}, numsOf l = some zs → VRels σ l xs → xs = zs.map (Value.int .i64)
  | [], zs, _, h, .nil => by cases h; rfl
  | v :: l, zs, _, h, .cons hv hr => by
    rw [numsOf_cons] at h
    split at h
    · rename_i n r h1 h2
      cases h
      have := numsOf_sound h2 hr
      subst this
      unfold numOf at h1
      split at h1
      · cases h1; rw [hv.int_inv]; rfl
      · cases h1
    · cases h
noncomputable def foldI (f : Int → Int → Int) (l : List Int) : Int → Int := List.rec (fun a => a) (fun x _ ih a => ih (f a x)) l
theorem foldI_eq (f : Int → Int → Int) : ∀ (l : List Int) (a : Int), foldI f l a = l.foldl f a
  | [], _ => rfl
  | x :: l, a => foldI_eq f l (f a x)
def min2 (a b : Int) : Int := match leI a b with | true => a | false => b
def max2 (a b : Int) : Int := match leI a b with | true => b | false => a
theorem min2_eq (a b : Int) : min2 a b = min a b := by
  unfold min2; rw [leI_eq]
  by_cases h : a ≤ b
  · simp [h]; omega
  · simp [h]; omega
theorem max2_eq (a b : Int) : max2 a b = max a b := by
  unfold max2; rw [leI_eq]
  by_cases h : a ≤ b
  · simp [h]; omega
  · simp [h]; omega
/-- The numbers of a slice that is not empty. -/
noncomputable def rowA (x : AV) (hp : Hp) : Option (List Int) :=
  match sliceLen x with
  | some (n + 1) => match Nat.ble (n + 1) 1000000000, elemsA 1 (n + 1) x hp with
    | true, some l => numsOf l
    | _, _ => none
  | _ => none
theorem rowA_sound {x : AV} {v : Value} {zs : List Int} (h : rowA x hp = some zs) (hx : VRel σ x v) (r : R pr σ hp w) :
    ∃ b o c, v = .slice (some ⟨b, o, none⟩) zs.length c ∧ 0 < zs.length ∧ zs.length ≤ 9223372036854775807 ∧ ∀ j, j < zs.length → w.cell? ⟨b, o + j, none⟩ = some (.int .i64 (zs.getD j 0)) := by
  unfold rowA at h
  split at h
  · rename_i n hn
    split at h
    · rename_i l hb hl
      have hb := Nat.le_of_ble_eq_true hb
      have key : ∀ {id off : Nat} {i : Info} {c : Cells} {m : Nat} {cl : Cl}, σ id = some i → hp.get id = some (.cells c m cl) → readN c off (Nat.mul (n + 1) 1) = some l → Nat.add off (Nat.mul (n + 1) 1) ≤ m →
          zs.length = n + 1 ∧ ∀ j, j < zs.length → w.cell? ⟨i.blk, i.base + off + j, none⟩ = some (.int .i64 (zs.getD j 0)) := by
        intro id off i c m cl hi hg hr hle
        obtain ⟨i', hi', hblk⟩ := r.blk _ _ hg
        rw [hi] at hi'
        cases hi'
        obtain ⟨cs, e, fz, h1, h2, h3, h4, h5, h6⟩ := hblk
        obtain ⟨xs, e1, e2, e3⟩ := readN_sound h6 hr hle
        have hxs := numsOf_sound h e2
        have hlen : zs.length = n + 1 := by
          rw [hxs, List.length_map] at e1
          simpa using e1
        refine ⟨hlen, fun j hj => cell_at rfl h1 (e3 j _ ?_)⟩
        rw [hxs, List.getElem?_map, List.getElem?_eq_getElem hj]
        simp [List.getD, hj]
      have fin : ∀ {id off cap' : Nat} {i : Info} {o cap : Nat}, σ id = some i → (o = i.base + off ∨ cap = 0) → n + 1 ≤ cap → elemsA 1 (n + 1) (.slice id off (n + 1) cap') hp = some l → v = .slice (some ⟨i.blk, o, none⟩) (n + 1) cap →
          ∃ b o c, v = .slice (some ⟨b, o, none⟩) zs.length c ∧ 0 < zs.length ∧ zs.length ≤ 9223372036854775807 ∧ ∀ j, j < zs.length → w.cell? ⟨b, o + j, none⟩ = some (.int .i64 (zs.getD j 0)) := by
        intro id off cap' i o cap hi ho hle' he hv
        have he : (match hp.get id with
          | some (.cells c m _) => match Nat.ble (Nat.add off (Nat.mul (n + 1) 1)) m with
            | true => readN c off (Nat.mul (n + 1) 1)
            | false => none
          | _ => none) = some l := he
        split at he
        · rename_i c m cl hg
          split at he
          · rename_i hle
            have ho := ho.resolve_right (by omega)
            subst ho
            obtain ⟨k1, k2⟩ := key hi hg he (Nat.le_of_ble_eq_true hle)
            exact ⟨i.blk, i.base + off, cap, by rw [k1]; exact hv, by omega, by omega, k2⟩
          · cases he
        · cases he
      unfold sliceLen at hn
      split at hn
      · cases hn
      · cases hn
        obtain ⟨i, o, hi, hle', ho, rfl⟩ := hx.slice_inv
        exact fin hi ho hle' hl rfl
      · cases hn
        obtain ⟨i, o, cc, hi, hle', _, ho, rfl⟩ := hx.opn_inv
        exact fin (cap' := 0) hi ho hle' hl rfl
      · cases hn
    · cases h
  · cases h
/-- slices.Min, slices.Max of a row of numbers. -/
noncomputable def minA (args : List AV) (hp : Hp) (nx : Nat) : Option (AV × Hp × Nat) :=
  match args with
  | [x] => match rowA x hp with
    | some (z :: zs) => some (.int .i64 (foldI min2 zs z), hp, nx)
    | _ => none
  | _ => none
noncomputable def maxA (args : List AV) (hp : Hp) (nx : Nat) : Option (AV × Hp × Nat) :=
  match args with
  | [x] => match rowA x hp with
    | some (z :: zs) => some (.int .i64 (foldI max2 zs z), hp, nx)
    | _ => none
  | _ => none
theorem foldI_min (zs : List Int) (z : Int) : foldI min2 zs z = Lib.minOf (z :: zs) := by
  rw [foldI_eq]
  have : min2 = min := by funext a b; exact min2_eq a b
  rw [this]; simp [Lib.minOf]
theorem foldI_max (zs : List Int) (z : Int) : foldI max2 zs z = Lib.maxOf (z :: zs) := by
  rw [foldI_eq]
  have : max2 = max := by funext a b; exact max2_eq a b
  rw [this]; simp [Lib.maxOf]
/-- What a known answer is to be. -/
def OrcGood (C : Ctx) (f : FuncId) (o : List AV → Hp → Nat → Option (AV × Hp × Nat)) : Prop :=
  (∃ (fn : Func) (c : Code), C.P.funcs[f]? = some fn ∧ fn.body = some c) ∧
  ∀ args hp nx v hp' nx', o args hp nx = some (v, hp', nx') → nx ≤ nx' ∧ ∀ (pr : Pr) (σ : Sig) (w : World) (args' : Array Value), R pr σ hp w → GlOk C pr → Fresh σ nx nx' → VRels σ args args'.toList →
    CallsIn (FF none) 0 C.P f args' w (Post pr σ nx v hp' nx')
theorem OrcOk.of {P : Program} {gl : T Cells} {x : T Nat} {y z : T (List AV → Hp → Nat → Option (AV × Hp × Nat))} {b : Bool} (h : ∀ f o, y.get f = some o → OrcGood ⟨P, gl, x, y, z, b⟩ f o) : OrcOk ⟨P, gl, x, y, z, b⟩ := fun f o ho => h f o ho
theorem orc_set {y : T (List AV → Hp → Nat → Option (AV × Hp × Nat))} {g : Nat} {q : List AV → Hp → Nat → Option (AV × Hp × Nat)} {C : Ctx} (hq : OrcGood C g q) (h : ∀ f o, y.get f = some o → OrcGood C f o) : ∀ f o, (y.set g q).get f = some o → OrcGood C f o := by
  intro f o ho
  rw [T.get_set] at ho
  split at ho
  · rename_i e; subst e; cases ho; exact hq
  · exact h f o ho
theorem orc_leaf {C : Ctx} : ∀ f o, (T.leaf : T (List AV → Hp → Nat → Option (AV × Hp × Nat))).get f = some o → OrcGood C f o := fun f o h => by simp [T.get_leaf] at h
theorem args_one {x : AV} {args' : Array Value} (h : VRels σ [x] args'.toList) : ∃ v, args' = #[v] ∧ VRel σ x v := by
  obtain ⟨l⟩ := args'
  cases h with
  | cons p t => cases t with
    | nil => exact ⟨_, rfl, p⟩
theorem minA_good {C : Ctx} {f : FuncId} (hb : ∃ (fn : Func) (c : Code), C.P.funcs[f]? = some fn ∧ fn.body = some c)
    (h : ∀ (b off n c : Nat) (zs : List Int) (w : World), 0 < n → n ≤ zs.length → n ≤ 9223372036854775807 → (∀ j, j < zs.length → w.cell? ⟨b, off + j, none⟩ = some (.int .i64 (zs.getD j 0))) →
      Calls C.P f #[.slice (some ⟨b, off, none⟩) n c] w fun e w' => e = .returned (.int .i64 (Lib.minOf (zs.take n))) ∧ w' = w) : OrcGood C f minA := by
  refine ⟨hb, fun args hp nx v hp' nx' ho => ?_⟩
  unfold minA at ho
  split at ho
  · rename_i x
    split at ho
    · rename_i z zs hz
      cases ho
      refine ⟨Nat.le_refl _, fun pr σ w args' r hg hf ha => ?_⟩
      obtain ⟨y, rfl, hy⟩ := args_one ha
      obtain ⟨b, o, c, rfl, h1, h2, h3⟩ := rowA_sound hz hy r
      refine (callsIn_wide.2 (h b o _ c (z :: zs) w h1 (Nat.le_refl _) h2 h3)).mono ?_
      rintro e w' ⟨rfl, rfl⟩
      refine ⟨σ, _, rfl, ?_, Ext.refl _ _, r⟩
      rw [List.take_length, ← foldI_min]
      exact .int _ _
    · cases ho
  · cases ho
theorem maxA_good {C : Ctx} {f : FuncId} (hb : ∃ (fn : Func) (c : Code), C.P.funcs[f]? = some fn ∧ fn.body = some c)
    (h : ∀ (b off n c : Nat) (zs : List Int) (w : World), 0 < n → n ≤ zs.length → n ≤ 9223372036854775807 → (∀ j, j < zs.length → w.cell? ⟨b, off + j, none⟩ = some (.int .i64 (zs.getD j 0))) →
      Calls C.P f #[.slice (some ⟨b, off, none⟩) n c] w fun e w' => e = .returned (.int .i64 (Lib.maxOf (zs.take n))) ∧ w' = w) : OrcGood C f maxA := by
  refine ⟨hb, fun args hp nx v hp' nx' ho => ?_⟩
  unfold maxA at ho
  split at ho
  · rename_i x
    split at ho
    · rename_i z zs hz
      cases ho
      refine ⟨Nat.le_refl _, fun pr σ w args' r hg hf ha => ?_⟩
      obtain ⟨y, rfl, hy⟩ := args_one ha
      obtain ⟨b, o, c, rfl, h1, h2, h3⟩ := rowA_sound hz hy r
      refine (callsIn_wide.2 (h b o _ c (z :: zs) w h1 (Nat.le_refl _) h2 h3)).mono ?_
      rintro e w' ⟨rfl, rfl⟩
      refine ⟨σ, _, rfl, ?_, Ext.refl _ _, r⟩
      rw [List.take_length, ← foldI_max]
      exact .int _ _
    · cases ho
  · cases ho
end Go.Proofs.YtdjeokgkeejpcaaGreatDoor.AX
