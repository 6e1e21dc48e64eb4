/- AX, part 11m: maps. -/
import Derived.Test.YtnlieipdeepemaaGreatDoorAx11f
import Derived.MapKept
namespace Go.Proofs.YtnlieipdeepemaaGreatDoor.AX
open Go
variable {P : Program} {σ : Sig} {w : World} {pr : Pr} {hp : Hp}

theorem bytes_beq (x y : ByteArray) : (x == y) = (x.data == y.data) := rfl
theorem eqB_bytes {x y : ByteArray} : eqB (bytesOf x) (bytesOf y) = (x == y) := by
  rw [bytesOf, bytesOf, eqB_eq, bytes_beq, Bool.eq_iff_iff]
  simp
theorem keyEq_spec {d : TypeDesc} {a b : AV} {x y : Value} {r : Bool} (h : keyEq d a b = some r) (ha : VRel σ a x) (hb : VRel σ b y) : Instr.sameNow d x y = some r ∧ (r = true → Instr.sameBits 10000 y x = true) := by
  unfold keyEq at h
  split at h
  · split at h
    · rename_i k m k' n
      obtain rfl := ha.int_inv
      obtain rfl := hb.int_inv
      split at h
      · rename_i hk
        have hk := kindEq_eq hk
        subst hk
        cases h
        rw [eqI_eq]
        refine ⟨by simp [Instr.sameNow], fun hmn => ?_⟩
        have hmn : m = n := eq_of_beq hmn
        subst hmn
        simp [Instr.sameBits]
      · cases h
    · cases h
  · split at h
    · rename_i s u
      obtain ⟨s', rfl, rfl⟩ := ha.str_inv
      obtain ⟨u', rfl, rfl⟩ := hb.str_inv
      cases h
      rw [eqB_bytes]
      refine ⟨by simp [Instr.sameNow], fun hmn => ?_⟩
      rw [bytes_beq] at hmn
      have hmn : s'.data = u'.data := eq_of_beq hmn
      simp [Instr.sameBits, bytes_beq, hmn]
    · cases h
  · split at h
    · rename_i s u
      obtain rfl := ha.bool_inv
      obtain rfl := hb.bool_inv
      cases h
      refine ⟨by simp [Instr.sameNow], fun hmn => ?_⟩
      have hmn : s = u := eq_of_beq hmn
      subst hmn
      simp [Instr.sameBits]
    · cases h
  · cases h
theorem findA_nil (d : TypeDesc) (k : AV) : findA d k [] = some none := rfl
theorem findA_cons (d : TypeDesc) (k : AV) (e : AV × AV) (es : List (AV × AV)) : findA d k (e :: es) = (match keyEq d k e.1 with
    | none => none
    | some true => some (some e.2)
    | some false => findA d k es) := by
  show Option.rec (motive := fun _ => Option (Option AV)) none (fun b => Bool.rec (findA d k es) (some (some e.2)) b) (keyEq d k e.1) = _
  cases keyEq d k e.1 with
  | none => rfl
  | some b => cases b <;> rfl
theorem findA_sound {d : TypeDesc} {k : AV} {key : Value} (hk : VRel σ k key) : ∀ {es : List (AV × AV)} {ms : List MapEntry} {r : Option AV} (i : Nat), findA d k es = some r → EntsRel σ es ms →
    (r = none ∧ Instr.findNow d key ms i = some none) ∨ ∃ v j y, r = some v ∧ Instr.findNow d key ms i = some (some (j, y)) ∧ VRel σ v y
  | [], [], r, i, h, _ => by
    rw [findA_nil] at h
    cases h
    exact .inl ⟨rfl, rfl⟩
  | e :: es, m :: ms, r, i, h, ⟨h1, h2, h3⟩ => by
    rw [findA_cons] at h
    split at h
    · cases h
    · rename_i hb
      cases h
      exact .inr ⟨_, i, m.val, rfl, by simp [Instr.findNow, (keyEq_spec hb hk h1).1], h2⟩
    · rename_i hb
      rcases findA_sound hk (i + 1) h h3 with ⟨g1, g2⟩ | ⟨v, j, y, g1, g2, g3⟩
      · exact .inl ⟨g1, by simp [Instr.findNow, (keyEq_spec hb hk h1).1, g2]⟩
      · exact .inr ⟨v, j, y, g1, by simp [Instr.findNow, (keyEq_spec hb hk h1).1, g2], g3⟩
  | [], _ :: _, _, _, _, h => h.elim
  | _ :: _, [], _, _, _, h => h.elim
theorem entsA_sound {x : AV} {y : Value} {es : List (AV × AV)} (h : entsA x hp = some es) (hx : VRel σ x y) (r : R pr σ hp w) :
    (y = .map none ∧ es = []) ∨ ∃ b ms clock, y = .map (some b) ∧ w.heap[b]? = some (.map ms clock) ∧ EntsRel σ es ms.toList := by
  unfold entsA at h
  split at h
  · cases h; exact .inl ⟨hx.nilm_inv, rfl⟩
  · split at h
    · rename_i id es' bs clock hb
      cases h
      obtain ⟨i, hi, rfl⟩ := hx.map_inv
      obtain ⟨i', hi', ms, h1, h2, _⟩ := r.blk _ _ hb
      rw [hi] at hi'
      cases hi'
      exact .inr ⟨_, _, _, rfl, h1, h2⟩
    · cases h
  · cases h
theorem run_check {kt : TypeId} {d : TypeDesc} (hd : P.underlying kt = some d) (hk : keyD d = true) (e : Bool) (n : Nat) (v : Value) : (Instr.checkKey e (n + 1) kt v).run P w = .ok () w := by
  unfold Instr.checkKey
  simp only [Sem.run_bind, run_underlying_some hd, Result.andThen_ok]
  cases d <;> first | (cases hk; done) | rfl
theorem okA_rel {ok b : Bool} {v : AV} {y : Value} (h : VRel σ v y) : VRel σ (okA ok v b) (if ok then .tuple #[y, .bool b] else y) := by
  cases ok
  · exact h
  · exact .tup (.cons h (.cons (.bool b) .nil))
theorem kkind_one {kt : TypeId} {d : TypeDesc} (h : kkind P kt = .one d) : P.underlying kt = some d ∧ keyD d = true := by
  unfold kkind at h
  split at h
  · rename_i d' hd
    split at h
    · rename_i hk
      cases h
      exact ⟨hd, hk⟩
    · split at h <;> cases h
  · cases h
theorem kkind_flat {kt : TypeId} {n : Nat} (h : kkind P kt = .flat n) : (∃ d, P.underlying kt = some d ∧ keyD d = false) ∧ isAggT P kt = some true ∧ flatI P 10 kt = some n := by
  unfold kkind at h
  split at h
  · rename_i d' hd
    split at h
    · cases h
    · rename_i hk
      split at h
      · rename_i h1 h2
        cases h
        exact ⟨⟨_, hd, hk⟩, h1, h2⟩
      · cases h
  · cases h
theorem keyX_sound {n : Nat} {a : AV} {x : List Int} {y : Value} (h : keyX n a = some x) (hr : VRel σ a y) : x.length = n ∧ a = .agg (x.map (AV.int .i64)) ∧ y = .agg (x.map (Value.int .i64)).toArray := by
  unfold keyX at h
  split at h
  · rename_i l
    split at h
    · rename_i z hz
      split at h
      · rename_i hl
        cases h
        have hl := Nat.eq_of_beq_eq_true hl
        have e := numsOf_eq hz
        subst e
        obtain ⟨vs, rfl, hvs⟩ := hr.agg_inv
        refine ⟨hl, rfl, ?_⟩
        have : ∀ (l : List Int) (xs : List Value), VRels σ (l.map (AV.int .i64)) xs → xs = l.map (Value.int .i64) := by
          intro l
          induction l with
          | nil => intro xs h; cases h; rfl
          | cons z l ih => intro xs h; cases h with | cons h1 h2 => rw [h1.int_inv, ih _ h2]; rfl
        rw [← this _ _ hvs]
      · cases h
    · cases h
  · cases h
theorem flat_equal {kt : TypeId} {n : Nat} (ha : isAggT P kt = some true) (hf : flatI P 10 kt = some n) {x y : List Int} (hx : x.length = n) (hy : y.length = n) :
    (Op.equal kt (.agg (x.map (Value.int .i64)).toArray) (.agg (y.map (Value.int .i64)).toArray)).run P w = .ok (eqL x y) w := by
  have h := flat_eq 10 10000 (by omega) kt n hf x y _ _ hx hy (by unfold flatV; rw [ha]) (by unfold flatV; rw [ha])
  have hr : ∀ z : List Int, VRel (fun _ => none) (.agg (z.map (AV.int .i64))) (.agg (z.map (Value.int .i64)).toArray) := fun z => by
    have := VRels.map (σ := fun _ => none) (f := AV.int .i64) (g := Value.int .i64) (l := z) (fun z _ => .int _ _)
    exact .agg (by simpa using this)
  rw [eqL_eq]
  exact eqA_sound 10000 h (hr x) (hr y)
theorem sameNow_flat {d : TypeDesc} {a : Value} {b : Value} (hd : keyD d = false) : Instr.sameNow d a b = none := by
  cases d <;> first | (cases hd; done) | (cases a <;> cases b <;> rfl)
/-- The look for a flat key. -/
theorem findX_sound {kt : TypeId} {n : Nat} (ha : isAggT P kt = some true) (hf : flatI P 10 kt = some n) {x : List Int} (hx : x.length = n) : ∀ {es : List (AV × AV)} {ms : List MapEntry} {r : Option AV} (i : Nat), findX n x es = some r → EntsRel σ es ms →
    (r = none ∧ (Instr.findAsking kt (.agg (x.map (Value.int .i64)).toArray) ms i).run P w = .ok none w) ∨ ∃ v j y, r = some v ∧ (Instr.findAsking kt (.agg (x.map (Value.int .i64)).toArray) ms i).run P w = .ok (some (j, y)) w ∧ VRel σ v y
  | [], [], r, i, h, _ => by
    have h : some none = some r := h
    cases h
    exact .inl ⟨rfl, rfl⟩
  | e :: es, m :: ms, r, i, h, ⟨h1, h2, h3⟩ => by
    have h : (Option.rec none (fun y => Bool.rec (findX n x es) (some (some e.2)) (eqL x y)) (keyX n e.1) : Option (Option AV)) = some r := h
    cases hk : keyX n e.1 with
    | none => rw [hk] at h; cases h
    | some y =>
      rw [hk] at h
      obtain ⟨g1, g2, g3⟩ := keyX_sound hk h1
      have he := flat_equal (w := w) ha hf hx g1
      cases hb : eqL x y with
      | true =>
        have h : (Bool.rec (findX n x es) (some (some e.2)) (eqL x y) : Option (Option AV)) = some r := h
        rw [hb] at h
        cases h
        refine .inr ⟨_, i, m.val, rfl, ?_, h2⟩
        rw [Instr.findAsking, g3]
        simp only [Sem.run_bind, he, hb, Result.andThen_ok, if_true, Sem.run_pure]
      | false =>
        have h : (Bool.rec (findX n x es) (some (some e.2)) (eqL x y) : Option (Option AV)) = some r := h
        rw [hb] at h
        have step : (Instr.findAsking kt (.agg (x.map (Value.int .i64)).toArray) (m :: ms) i).run P w = (Instr.findAsking kt (.agg (x.map (Value.int .i64)).toArray) ms (i + 1)).run P w := by
          rw [Instr.findAsking, g3]
          simp only [Sem.run_bind, he, hb, Result.andThen_ok, Bool.false_eq_true, if_false]
        rcases findX_sound ha hf hx (i + 1) h h3 with ⟨q1, q2⟩ | ⟨v, j, z, q1, q2, q3⟩
        · exact .inl ⟨q1, by rw [step]; exact q2⟩
        · exact .inr ⟨v, j, z, q1, by rw [step]; exact q2, q3⟩
  | [], _ :: _, _, _, _, h => h.elim
  | _ :: _, [], _, _, _, h => h.elim
theorem findF_sound {kt : TypeId} {n : Nat} {k : AV} {key : Value} (hkk : kkind P kt = .flat n) (hk : VRel σ k key) {es : List (AV × AV)} {ms : List MapEntry} {r : Option AV} (h : findF n k es = some r) (he : EntsRel σ es ms) (em : Bool) :
    (Instr.checkKey em 10000 kt key).run P w = .ok () w ∧ ((r = none ∧ (Instr.findKey kt key ms).run P w = .ok none w) ∨ ∃ v j y, r = some v ∧ (Instr.findKey kt key ms).run P w = .ok (some (j, y)) w ∧ VRel σ v y) := by
  obtain ⟨⟨d, hd, hdk⟩, ha, hf⟩ := kkind_flat hkk
  unfold findF at h
  split at h
  · rename_i x hx
    obtain ⟨g1, g2, rfl⟩ := keyX_sound hx hk
    refine ⟨check_flat 10 10000 (by omega) kt n hf x _ em g1 (fun _ => rfl) (fun h => by rw [ha] at h; cases h), ?_⟩
    have hfk : (Instr.findKey kt (.agg (x.map (Value.int .i64)).toArray) ms).run P w = (Instr.findAsking kt (.agg (x.map (Value.int .i64)).toArray) ms).run P w := by
      cases ms with
      | nil => simp only [Instr.findKey, Sem.run_bind, run_underlying_some hd, Result.andThen_ok, Instr.findNow]; rfl
      | cons m ms => simp only [Instr.findKey, Sem.run_bind, run_underlying_some hd, Result.andThen_ok, Instr.findNow, sameNow_flat hdk]
    rw [hfk]
    exact findX_sound ha hf g1 0 h he
  · cases h
theorem lookupA_sound {t : TypeId} {x k v : AV} {ok : Bool} {y key : Value} (h : lookupA P t x k ok hp = some v) (hx : VRel σ x y) (hk : VRel σ k key) (r : R pr σ hp w) :
    ∃ v', (Instr.lookup t y key ok).run P w = .ok v' w ∧ VRel σ v v' := by
  unfold lookupA at h
  split at h
  · rename_i kt e ht
    split at h
    · rename_i d es hkk he
      obtain ⟨hd, hkd⟩ := kkind_one hkk
      have key2 : ∀ ms : Array MapEntry, EntsRel σ es ms.toList → (Instr.lookup t y key ok).run P w = (do
          Instr.checkKey ms.isEmpty 10000 kt key
          let (v, ok') ← match ← Instr.findKey kt key ms.toList with
            | some (_, v) => pure (v, true)
            | none => pure (← zeroValue e, false)
          pure (if ok then .tuple #[v, .bool ok'] else v) : Sem Value).run P w → ∃ v', (Instr.lookup t y key ok).run P w = .ok v' w ∧ VRel σ v v' := by
        intro ms hms hrun
        rw [hrun]
        split at h
        · rename_i v0 hf
          cases h
          rcases findA_sound hk 0 hf hms with ⟨g1, _⟩ | ⟨v1, j, y1, g1, g2, g3⟩
          · cases g1
          · cases g1
            refine ⟨_, ?_, okA_rel (ok := ok) (b := true) g3⟩
            simp only [Sem.run_bind, run_check hd hkd, Result.andThen_ok, Instr.findKey, run_underlying_some hd, g2, Sem.run_pure]
        · rename_i hf
          split at h
          · rename_i z hz
            cases h
            obtain ⟨z', z1, z2⟩ := zeroA_sound (σ := σ) (w := w) hz
            rcases findA_sound hk 0 hf hms with ⟨_, g2⟩ | ⟨v1, j, y1, g1, _⟩
            · refine ⟨_, ?_, okA_rel (ok := ok) (b := false) z2⟩
              simp only [Sem.run_bind, run_check hd hkd, Result.andThen_ok, Instr.findKey, run_underlying_some hd, g2, Sem.run_pure, z1]
            · cases g1
          · cases h
        · cases h
      rcases entsA_sound he hx r with ⟨rfl, rfl⟩ | ⟨b, ms, clock, rfl, h1, h2⟩
      · refine key2 #[] trivial ?_
        simp only [Instr.lookup, Sem.run_bind, run_underlying_some ht, Result.andThen_ok, Sem.run_pure]
        rfl
      · refine key2 ms h2 ?_
        simp only [Instr.lookup, Sem.run_bind, run_underlying_some ht, Result.andThen_ok, MapKept.run_getObj_map h1, Sem.run_pure]
        rfl
    · rename_i n es hkk he
      have key2 : ∀ ms : Array MapEntry, EntsRel σ es ms.toList → (Instr.lookup t y key ok).run P w = (do
          Instr.checkKey ms.isEmpty 10000 kt key
          let (v, ok') ← match ← Instr.findKey kt key ms.toList with
            | some (_, v) => pure (v, true)
            | none => pure (← zeroValue e, false)
          pure (if ok then .tuple #[v, .bool ok'] else v) : Sem Value).run P w → ∃ v', (Instr.lookup t y key ok).run P w = .ok v' w ∧ VRel σ v v' := by
        intro ms hms hrun
        rw [hrun]
        split at h
        · rename_i v0 hf
          cases h
          obtain ⟨hc, g⟩ := findF_sound (w := w) hkk hk hf hms ms.isEmpty
          rcases g with ⟨g1, _⟩ | ⟨v1, j, y1, g1, g2, g3⟩
          · cases g1
          · cases g1
            refine ⟨_, ?_, okA_rel (ok := ok) (b := true) g3⟩
            simp only [Sem.run_bind, hc, Result.andThen_ok, g2, Sem.run_pure]
        · rename_i hf
          split at h
          · rename_i z hz
            cases h
            obtain ⟨z', z1, z2⟩ := zeroA_sound (σ := σ) (w := w) hz
            obtain ⟨hc, g⟩ := findF_sound (w := w) hkk hk hf hms ms.isEmpty
            rcases g with ⟨_, g2⟩ | ⟨v1, j, y1, g1, _⟩
            · refine ⟨_, ?_, okA_rel (ok := ok) (b := false) z2⟩
              simp only [Sem.run_bind, hc, Result.andThen_ok, g2, Sem.run_pure, z1]
            · cases g1
          · cases h
        · cases h
      rcases entsA_sound he hx r with ⟨rfl, rfl⟩ | ⟨b, ms, clock, rfl, h1, h2⟩
      · refine key2 #[] trivial ?_
        simp only [Instr.lookup, Sem.run_bind, run_underlying_some ht, Result.andThen_ok, Sem.run_pure]
        rfl
      · refine key2 ms h2 ?_
        simp only [Instr.lookup, Sem.run_bind, run_underlying_some ht, Result.andThen_ok, MapKept.run_getObj_map h1, Sem.run_pure]
        rfl
    · cases h
  · cases h

/-! Writing. -/
def updL (d : TypeDesc) (k v : AV) : List (AV × AV) → Option (Bool × List (AV × AV))
  | [] => some (true, [(k, v)])
  | e :: l => match keyEq d k e.1 with
    | some true => some (false, (k, v) :: l)
    | some false => (updL d k v l).map fun r => (r.1, e :: r.2)
    | none => none
theorem forceN_eq {β : Type} (n : Nat) (k : Nat → β) : forceN n k = k n := rfl
theorem forceV_eq {β : Type} (v : AV) (k : AV → β) : forceV v k = k v := rfl
theorem updA_spec {d : TypeDesc} {k v : AV} {vf : AV} {hf : Hp} {nf : Nat} : ∀ {es : List (AV × AV)} {g : Bool → List (AV × AV) → Res}, updA d k v es g = .done vf hf nf → ∃ n l, updL d k v es = some (n, l) ∧ g n l = .done vf hf nf
  | [], g, h => ⟨_, _, rfl, h⟩
  | e :: es, g, h => by
    have h : Option.rec (motive := fun _ => Res) (.fail none) (fun b => Bool.rec (updA d k v es fun n l' => g n (e :: l')) (g false ((k, v) :: es)) b) (keyEq d k e.1) = .done vf hf nf := h
    unfold updL
    cases hk : keyEq d k e.1 with
    | none => rw [hk] at h; cases h
    | some b =>
      rw [hk] at h
      cases b with
      | true => exact ⟨_, _, rfl, h⟩
      | false =>
        obtain ⟨n, l, h1, h2⟩ := updA_spec (es := es) (g := fun n l' => g n (e :: l')) h
        exact ⟨n, e :: l, by simp [h1], h2⟩
theorem EntsRel.snoc : ∀ {es : List (AV × AV)} {ms : List MapEntry} {e : AV × AV} {m : MapEntry}, EntsRel σ es ms → VRel σ e.1 m.key → VRel σ e.2 m.val → EntsRel σ (es ++ [e]) (ms ++ [m])
  | [], [], _, _, _, h1, h2 => ⟨h1, h2, trivial⟩
  | _ :: _, _ :: _, _, _, ⟨a, b, c⟩, h1, h2 => ⟨a, b, EntsRel.snoc c h1 h2⟩
  | [], _ :: _, _, _, h, _, _ => h.elim
  | _ :: _, [], _, _, h, _, _ => h.elim
theorem updL_sound {d : TypeDesc} {k v : AV} {key val : Value} (hk : VRel σ k key) (hv : VRel σ v val) : ∀ {es : List (AV × AV)} {ms : List MapEntry} {n : Bool} {r : List (AV × AV)} (i : Nat), updL d k v es = some (n, r) → EntsRel σ es ms →
    (n = true ∧ Instr.findNow d key ms i = some none ∧ ∀ b, EntsRel σ r (ms ++ [⟨key, val, b⟩])) ∨
    ∃ j y e, n = false ∧ Instr.findNow d key ms i = some (some (i + j, y)) ∧ ms[j]? = some e ∧ Instr.sameBits 10000 e.key key = true ∧ EntsRel σ r (ms.modify j fun e => { e with key := key, val := val })
  | [], [], n, r, i, h, _ => by
    simp only [updL, Option.some.injEq, Prod.mk.injEq] at h
    obtain ⟨h0, h⟩ := h
    subst h
    exact .inl ⟨h0.symm, rfl, fun b => ⟨hk, hv, trivial⟩⟩
  | e :: es, m :: ms, n, r, i, h, ⟨h1, h2, h3⟩ => by
    simp only [updL] at h
    split at h
    · rename_i hb
      cases h
      obtain ⟨g1, g2⟩ := keyEq_spec hb hk h1
      exact .inr ⟨0, m.val, m, rfl, by simp [Instr.findNow, g1], rfl, g2 rfl, ⟨hk, hv, h3⟩⟩
    · rename_i hb
      obtain ⟨g1, _⟩ := keyEq_spec hb hk h1
      cases hu : updL d k v es with
      | none => rw [hu] at h; cases h
      | some l =>
        obtain ⟨n0, l⟩ := l
        rw [hu] at h
        simp only [Option.map_some, Option.some.injEq, Prod.mk.injEq] at h
        obtain ⟨h0, h⟩ := h
        subst h
        rcases updL_sound hk hv (i + 1) hu h3 with ⟨q0, q1, q2⟩ | ⟨j, y, e', q0, q1, q2, q3, q4⟩
        · exact .inl ⟨h0.symm.trans q0, by simp [Instr.findNow, g1, q1], fun b => ⟨h1, h2, q2 b⟩⟩
        · refine .inr ⟨j + 1, y, e', h0.symm.trans q0, ?_, by simpa using q2, q3, ?_⟩
          · simp only [Instr.findNow, g1, q1]
            rw [show i + 1 + j = i + (j + 1) from by omega]
          · exact ⟨h1, h2, q4⟩
    · cases h
  | [], _ :: _, _, _, _, _, h => h.elim
  | _ :: _, [], _, _, _, _, h => h.elim
theorem born_modify {key val : Value} : ∀ (ms : List MapEntry) (j : Nat), (ms.modify j fun e => { e with key := key, val := val }).map (·.born) = ms.map (·.born)
  | [], j => by cases j <;> rfl
  | m :: ms, 0 => rfl
  | m :: ms, j + 1 => by simp [List.modify_succ_cons, born_modify ms j]
theorem mapUpdateA_sound {t : TypeId} {m k v r0 : AV} {y key val : Value} {nx nx' : Nat} {hp' : Hp} (h : mapUpdateA P t m k v hp nx = .done r0 hp' nx') (hx : VRel σ m y) (hk : VRel σ k key) (hv : VRel σ v val) (r : R pr σ hp w) :
    ∃ w', (Instr.mapUpdate t y key val).run P w = .ok () w' ∧ r0 = .tup [] ∧ nx' = nx ∧ R pr σ hp' w' := by
  unfold mapUpdateA at h
  split at h
  · rename_i kt e ht
    split at h
    · rename_i d id hkk
      obtain ⟨hd, hkd⟩ := kkind_one hkk
      split at h
      · rename_i es bs clock hb
        rw [forceV_eq, forceV_eq] at h
        obtain ⟨n, l, hl, h⟩ := updA_spec h
        cases h
        obtain ⟨i, hi, rfl⟩ := hx.map_inv
        obtain ⟨i', hi', ms, h1, h2, hbs⟩ := r.blk _ _ hb
        rw [hi] at hi'
        cases hi'
        have hlt := (Array.getElem?_eq_some_iff.1 h1).1
        have put : ∀ o : Obj, ({ w with heap := w.heap.setIfInBounds i.blk o } : World).heap[i.blk]? = some o ∧ ∀ k, k ≠ i.blk → ({ w with heap := w.heap.setIfInBounds i.blk o } : World).heap[k]? = w.heap[k]? := fun o =>
          ⟨by simp [hlt], fun k hk => Array.getElem?_setIfInBounds_ne (Ne.symm hk)⟩
        rcases updL_sound hk hv 0 hl h2 with ⟨rfl, g1, g2⟩ | ⟨j, y1, e', rfl, g1, g2, g3, g4⟩
        · refine ⟨_, ?_, rfl, rfl, r.turn (w' := { w with heap := w.heap.setIfInBounds i.blk (.map (ms.push ⟨key, val, clock⟩) (clock + 1)) }) hb hi ⟨_, (put _).1, by simpa using g2 clock, by simp [hbs]⟩ (put _).2 ⟨rfl, rfl⟩⟩
          simp only [Instr.mapUpdate, Sem.run_bind, run_underlying_some ht, Result.andThen_ok, MapKept.run_getObj_map h1, run_check hd hkd, Instr.findKey, run_underlying_some hd, g1, Sem.run_pure, MapKept.run_setObj_map _ h1]
        · rw [Nat.zero_add] at g1
          refine ⟨_, ?_, rfl, rfl, r.turn (w' := { w with heap := w.heap.setIfInBounds i.blk (.map (ms.modify j fun e => { e with key := key, val := val }) clock) }) hb hi ⟨_, (put _).1, by simpa using g4, by rw [Array.toList_modify, born_modify, hbs]⟩ (put _).2 ⟨rfl, rfl⟩⟩
          have hej : ms[j]? = some e' := by simpa using g2
          have hkeep : ((ms[j]?).map (·.key)).getD key = e'.key := by rw [hej]; rfl
          simp only [Instr.mapUpdate, Sem.run_bind, run_underlying_some ht, Result.andThen_ok, MapKept.run_getObj_map h1, run_check hd hkd, Instr.findKey, run_underlying_some hd, g1, Sem.run_pure, hkeep, Instr.keyThatStays, g3, if_true, MapKept.run_setObj_map _ h1]
      · cases h
    · rename_i n id hkk
      split at h
      · rename_i es bs clock hb
        split at h
        · rename_i hf
          cases h
          obtain ⟨i, hi, rfl⟩ := hx.map_inv
          obtain ⟨i', hi', ms, h1, h2, hbs⟩ := r.blk _ _ hb
          rw [hi] at hi'
          cases hi'
          have hlt := (Array.getElem?_eq_some_iff.1 h1).1
          have put : ∀ o : Obj, ({ w with heap := w.heap.setIfInBounds i.blk o } : World).heap[i.blk]? = some o ∧ ∀ k, k ≠ i.blk → ({ w with heap := w.heap.setIfInBounds i.blk o } : World).heap[k]? = w.heap[k]? := fun o =>
            ⟨by simp [hlt], fun k hk => Array.getElem?_setIfInBounds_ne (Ne.symm hk)⟩
          obtain ⟨hc, g⟩ := findF_sound (w := w) hkk hk hf h2 false
          rcases g with ⟨_, g2⟩ | ⟨v1, j, y1, g1, _⟩
          · refine ⟨_, ?_, rfl, rfl, r.turn (w' := { w with heap := w.heap.setIfInBounds i.blk (.map (ms.push ⟨key, val, clock⟩) (clock + 1)) }) hb hi ⟨_, (put _).1, by simpa using EntsRel.snoc (e := (k, v)) (m := ⟨key, val, clock⟩) h2 hk hv, by simp [hbs]⟩ (put _).2 ⟨rfl, rfl⟩⟩
            simp only [Instr.mapUpdate, Sem.run_bind, run_underlying_some ht, Result.andThen_ok, MapKept.run_getObj_map h1, hc, g2, MapKept.run_setObj_map _ h1]
          · cases g1
        · cases h
      · cases h
    · cases h
  · cases h
end Go.Proofs.YtnlieipdeepemaaGreatDoor.AX
