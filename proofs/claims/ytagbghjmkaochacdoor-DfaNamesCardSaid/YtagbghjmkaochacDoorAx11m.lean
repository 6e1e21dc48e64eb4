/- AX, part 11m: maps. -/
import Derived.Test.YtagbghjmkaochacDoorAx11
import Derived.MapKept
namespace Go.Proofs.YtagbghjmkaochacDoor.AX
open Go
variable {P : Program} {σ : Sig} {w : World} {pr : Pr} {hp : Hp}

theorem bytes_beq (x y : ByteArray) : (x == y) = (x.data == y.data) := rfl
theorem eqB_bytes {x y : ByteArray} : eqB (bytesOf x) (bytesOf y) = (x == y) := by
  rw [bytesOf, bytesOf, eqB_eq, bytes_beq, Bool.eq_iff_iff]
  simp
theorem keyEq_spec {d : TypeDesc} {a b : AV} {x y : Value} {r : Bool} (h : keyEq d a b = some r) (ha : VRel σ a x) (hb : VRel σ b y) : Instr.sameNow d x y = some r ∧ (r = true → Instr.sameBits 10000 y x = true) := by
  unfold keyEq at h
  split at h
  · split at h
    · rename_i k m k' n
      obtain rfl := ha.int_inv
      obtain rfl := hb.int_inv
      split at h
      · rename_i hk
        have hk := kindEq_eq hk
        subst hk
        cases h
        rw [eqI_eq]
        refine ⟨by simp [Instr.sameNow], fun hmn => ?_⟩
        have hmn : m = n := eq_of_beq hmn
        subst hmn
        simp [Instr.sameBits]
      · cases h
    · cases h
  · split at h
    · rename_i s u
      obtain ⟨s', rfl, rfl⟩ := ha.str_inv
      obtain ⟨u', rfl, rfl⟩ := hb.str_inv
      cases h
      rw [eqB_bytes]
      refine ⟨by simp [Instr.sameNow], fun hmn => ?_⟩
      rw [bytes_beq] at hmn
      have hmn : s'.data = u'.data := eq_of_beq hmn
      simp [Instr.sameBits, bytes_beq, hmn]
    · cases h
  · split at h
    · rename_i s u
      obtain rfl := ha.bool_inv
      obtain rfl := hb.bool_inv
      cases h
      refine ⟨by simp [Instr.sameNow], fun hmn => ?_⟩
      have hmn : s = u := eq_of_beq hmn
      subst hmn
      simp [Instr.sameBits]
    · cases h
  · cases h
theorem findA_nil (d : TypeDesc) (k : AV) : findA d k [] = some none := rfl
theorem findA_cons (d : TypeDesc) (k : AV) (e : AV × AV) (es : List (AV × AV)) : findA d k (e :: es) = (match keyEq d k e.1 with
    | none => none
    | some true => some (some e.2)
    | some false => findA d k es) := by
  show Option.rec (motive := fun _ => Option (Option AV)) none (fun b => Bool.rec (findA d k es) (some (some e.2)) b) (keyEq d k e.1) = _
  cases keyEq d k e.1 with
  | none => rfl
  | some b => cases b <;> rfl
theorem findA_sound {d : TypeDesc} {k : AV} {key : Value} (hk : VRel σ k key) : ∀ {es : List (AV × AV)} {ms : List MapEntry} {r : Option AV} (i : Nat), findA d k es = some r → EntsRel σ es ms →
    (r = none ∧ Instr.findNow d key ms i = some none) ∨ ∃ v j y, r = some v ∧ Instr.findNow d key ms i = some (some (j, y)) ∧ VRel σ v y
  | [], [], r, i, h, _ => by
    rw [findA_nil] at h
    cases h
    exact .inl ⟨rfl, rfl⟩
  | e :: es, m :: ms, r, i, h, ⟨h1, h2, h3⟩ => by
    rw [findA_cons] at h
    split at h
    · cases h
    · rename_i hb
      cases h
      exact .inr ⟨_, i, m.val, rfl, by simp [Instr.findNow, (keyEq_spec hb hk h1).1], h2⟩
    · rename_i hb
      rcases findA_sound hk (i + 1) h h3 with ⟨g1, g2⟩ | ⟨v, j, y, g1, g2, g3⟩
      · exact .inl ⟨g1, by simp [Instr.findNow, (keyEq_spec hb hk h1).1, g2]⟩
      · exact .inr ⟨v, j, y, g1, by simp [Instr.findNow, (keyEq_spec hb hk h1).1, g2], g3⟩
  | [], _ :: _, _, _, _, h => h.elim
  | _ :: _, [], _, _, _, h => h.elim
theorem entsA_sound {x : AV} {y : Value} {es : List (AV × AV)} (h : entsA x hp = some es) (hx : VRel σ x y) (r : R pr σ hp w) :
    (y = .map none ∧ es = []) ∨ ∃ b ms clock, y = .map (some b) ∧ w.heap[b]? = some (.map ms clock) ∧ EntsRel σ es ms.toList := by
  unfold entsA at h
  split at h
  · cases h; exact .inl ⟨hx.nilm_inv, rfl⟩
  · split at h
    · rename_i id es' bs clock hb
      cases h
      obtain ⟨i, hi, rfl⟩ := hx.map_inv
      obtain ⟨i', hi', ms, h1, h2, _⟩ := r.blk _ _ hb
      rw [hi] at hi'
      cases hi'
      exact .inr ⟨_, _, _, rfl, h1, h2⟩
    · cases h
  · cases h
theorem run_check {kt : TypeId} {d : TypeDesc} (hd : P.underlying kt = some d) (hk : keyD d = true) (e : Bool) (n : Nat) (v : Value) : (Instr.checkKey e (n + 1) kt v).run P w = .ok () w := by
  unfold Instr.checkKey
  simp only [Sem.run_bind, run_underlying_some hd, Result.andThen_ok]
  cases d <;> first | (cases hk; done) | rfl
theorem okA_rel {ok b : Bool} {v : AV} {y : Value} (h : VRel σ v y) : VRel σ (okA ok v b) (if ok then .tuple #[y, .bool b] else y) := by
  cases ok
  · exact h
  · exact .tup (.cons h (.cons (.bool b) .nil))
theorem lookupA_sound {t : TypeId} {x k v : AV} {ok : Bool} {y key : Value} (h : lookupA P t x k ok hp = some v) (hx : VRel σ x y) (hk : VRel σ k key) (r : R pr σ hp w) :
    ∃ v', (Instr.lookup t y key ok).run P w = .ok v' w ∧ VRel σ v v' := by
  unfold lookupA at h
  split at h
  · rename_i kt e ht
    split at h
    · rename_i d es hd he
      have key2 : ∀ ms : Array MapEntry, EntsRel σ es ms.toList → (Instr.lookup t y key ok).run P w = (do
          Instr.checkKey ms.isEmpty 10000 kt key
          let (v, ok') ← match ← Instr.findKey kt key ms.toList with
            | some (_, v) => pure (v, true)
            | none => pure (← zeroValue e, false)
          pure (if ok then .tuple #[v, .bool ok'] else v) : Sem Value).run P w → ∃ v', (Instr.lookup t y key ok).run P w = .ok v' w ∧ VRel σ v v' := by
        intro ms hms hrun
        rw [hrun]
        split at h
        · rename_i v0 hkd hf
          cases h
          rcases findA_sound hk 0 hf hms with ⟨g1, _⟩ | ⟨v1, j, y1, g1, g2, g3⟩
          · cases g1
          · cases g1
            refine ⟨_, ?_, okA_rel (ok := ok) (b := true) g3⟩
            simp only [Sem.run_bind, run_check hd hkd, Result.andThen_ok, Instr.findKey, run_underlying_some hd, g2, Sem.run_pure]
        · rename_i hkd hf
          split at h
          · rename_i z hz
            cases h
            obtain ⟨z', z1, z2⟩ := zeroA_sound (σ := σ) (w := w) hz
            rcases findA_sound hk 0 hf hms with ⟨_, g2⟩ | ⟨v1, j, y1, g1, _⟩
            · refine ⟨_, ?_, okA_rel (ok := ok) (b := false) z2⟩
              simp only [Sem.run_bind, run_check hd hkd, Result.andThen_ok, Instr.findKey, run_underlying_some hd, g2, Sem.run_pure, z1]
            · cases g1
          · cases h
        · cases h
      rcases entsA_sound he hx r with ⟨rfl, rfl⟩ | ⟨b, ms, clock, rfl, h1, h2⟩
      · refine key2 #[] trivial ?_
        simp only [Instr.lookup, Sem.run_bind, run_underlying_some ht, Result.andThen_ok, Sem.run_pure]
        rfl
      · refine key2 ms h2 ?_
        simp only [Instr.lookup, Sem.run_bind, run_underlying_some ht, Result.andThen_ok, MapKept.run_getObj_map h1, Sem.run_pure]
        rfl
    · cases h
  · cases h

/-! Writing. -/
def updL (d : TypeDesc) (k v : AV) : List (AV × AV) → Option (Bool × List (AV × AV))
  | [] => some (true, [(k, v)])
  | e :: l => match keyEq d k e.1 with
    | some true => some (false, (k, v) :: l)
    | some false => (updL d k v l).map fun r => (r.1, e :: r.2)
    | none => none
theorem forceN_eq {β : Type} (n : Nat) (k : Nat → β) : forceN n k = k n := rfl
theorem forceV_eq {β : Type} (v : AV) (k : AV → β) : forceV v k = k v := rfl
theorem updA_spec {d : TypeDesc} {k v : AV} {vf : AV} {hf : Hp} {nf : Nat} : ∀ {es : List (AV × AV)} {g : Bool → List (AV × AV) → Res}, updA d k v es g = .done vf hf nf → ∃ n l, updL d k v es = some (n, l) ∧ g n l = .done vf hf nf
  | [], g, h => ⟨_, _, rfl, h⟩
  | e :: es, g, h => by
    have h : Option.rec (motive := fun _ => Res) (.fail none) (fun b => Bool.rec (updA d k v es fun n l' => g n (e :: l')) (g false ((k, v) :: es)) b) (keyEq d k e.1) = .done vf hf nf := h
    unfold updL
    cases hk : keyEq d k e.1 with
    | none => rw [hk] at h; cases h
    | some b =>
      rw [hk] at h
      cases b with
      | true => exact ⟨_, _, rfl, h⟩
      | false =>
        obtain ⟨n, l, h1, h2⟩ := updA_spec (es := es) (g := fun n l' => g n (e :: l')) h
        exact ⟨n, e :: l, by simp [h1], h2⟩
theorem EntsRel.snoc : ∀ {es : List (AV × AV)} {ms : List MapEntry} {e : AV × AV} {m : MapEntry}, EntsRel σ es ms → VRel σ e.1 m.key → VRel σ e.2 m.val → EntsRel σ (es ++ [e]) (ms ++ [m])
  | [], [], _, _, _, h1, h2 => ⟨h1, h2, trivial⟩
  | _ :: _, _ :: _, _, _, ⟨a, b, c⟩, h1, h2 => ⟨a, b, EntsRel.snoc c h1 h2⟩
  | [], _ :: _, _, _, h, _, _ => h.elim
  | _ :: _, [], _, _, h, _, _ => h.elim
theorem updL_sound {d : TypeDesc} {k v : AV} {key val : Value} (hk : VRel σ k key) (hv : VRel σ v val) : ∀ {es : List (AV × AV)} {ms : List MapEntry} {n : Bool} {r : List (AV × AV)} (i : Nat), updL d k v es = some (n, r) → EntsRel σ es ms →
    (n = true ∧ Instr.findNow d key ms i = some none ∧ ∀ b, EntsRel σ r (ms ++ [⟨key, val, b⟩])) ∨
    ∃ j y e, n = false ∧ Instr.findNow d key ms i = some (some (i + j, y)) ∧ ms[j]? = some e ∧ Instr.sameBits 10000 e.key key = true ∧ EntsRel σ r (ms.modify j fun e => { e with key := key, val := val })
  | [], [], n, r, i, h, _ => by
    simp only [updL, Option.some.injEq, Prod.mk.injEq] at h
    obtain ⟨h0, h⟩ := h
    subst h
    exact .inl ⟨h0.symm, rfl, fun b => ⟨hk, hv, trivial⟩⟩
  | e :: es, m :: ms, n, r, i, h, ⟨h1, h2, h3⟩ => by
    simp only [updL] at h
    split at h
    · rename_i hb
      cases h
      obtain ⟨g1, g2⟩ := keyEq_spec hb hk h1
      exact .inr ⟨0, m.val, m, rfl, by simp [Instr.findNow, g1], rfl, g2 rfl, ⟨hk, hv, h3⟩⟩
    · rename_i hb
      obtain ⟨g1, _⟩ := keyEq_spec hb hk h1
      cases hu : updL d k v es with
      | none => rw [hu] at h; cases h
      | some l =>
        obtain ⟨n0, l⟩ := l
        rw [hu] at h
        simp only [Option.map_some, Option.some.injEq, Prod.mk.injEq] at h
        obtain ⟨h0, h⟩ := h
        subst h
        rcases updL_sound hk hv (i + 1) hu h3 with ⟨q0, q1, q2⟩ | ⟨j, y, e', q0, q1, q2, q3, q4⟩
        · exact .inl ⟨h0.symm.trans q0, by simp [Instr.findNow, g1, q1], fun b => ⟨h1, h2, q2 b⟩⟩
        · refine .inr ⟨j + 1, y, e', h0.symm.trans q0, ?_, by simpa using q2, q3, ?_⟩
          · simp only [Instr.findNow, g1, q1]
            rw [show i + 1 + j = i + (j + 1) from by omega]
          · exact ⟨h1, h2, q4⟩
    · cases h
  | [], _ :: _, _, _, _, _, h => h.elim
  | _ :: _, [], _, _, _, _, h => h.elim
theorem born_modify {key val : Value} : ∀ (ms : List MapEntry) (j : Nat), (ms.modify j fun e => { e with key := key, val := val }).map (·.born) = ms.map (·.born)
  | [], j => by cases j <;> rfl
  | m :: ms, 0 => rfl
  | m :: ms, j + 1 => by simp [List.modify_succ_cons, born_modify ms j]
theorem mapUpdateA_sound {t : TypeId} {m k v r0 : AV} {y key val : Value} {nx nx' : Nat} {hp' : Hp} (h : mapUpdateA P t m k v hp nx = .done r0 hp' nx') (hx : VRel σ m y) (hk : VRel σ k key) (hv : VRel σ v val) (r : R pr σ hp w) :
    ∃ w', (Instr.mapUpdate t y key val).run P w = .ok () w' ∧ r0 = .tup [] ∧ nx' = nx ∧ R pr σ hp' w' := by
  unfold mapUpdateA at h
  split at h
  · rename_i kt e ht
    split at h
    · rename_i d id hd
      split at h
      · rename_i es bs clock hb hkd
        rw [forceV_eq, forceV_eq] at h
        obtain ⟨n, l, hl, h⟩ := updA_spec h
        cases h
        obtain ⟨i, hi, rfl⟩ := hx.map_inv
        obtain ⟨i', hi', ms, h1, h2, hbs⟩ := r.blk _ _ hb
        rw [hi] at hi'
        cases hi'
        have hlt := (Array.getElem?_eq_some_iff.1 h1).1
        have put : ∀ o : Obj, ({ w with heap := w.heap.setIfInBounds i.blk o } : World).heap[i.blk]? = some o ∧ ∀ k, k ≠ i.blk → ({ w with heap := w.heap.setIfInBounds i.blk o } : World).heap[k]? = w.heap[k]? := fun o =>
          ⟨by simp [hlt], fun k hk => Array.getElem?_setIfInBounds_ne (Ne.symm hk)⟩
        rcases updL_sound hk hv 0 hl h2 with ⟨rfl, g1, g2⟩ | ⟨j, y1, e', rfl, g1, g2, g3, g4⟩
        · refine ⟨_, ?_, rfl, rfl, r.turn (w' := { w with heap := w.heap.setIfInBounds i.blk (.map (ms.push ⟨key, val, clock⟩) (clock + 1)) }) hb hi ⟨_, (put _).1, by simpa using g2 clock, by simp [hbs]⟩ (put _).2 ⟨rfl, rfl⟩⟩
          simp only [Instr.mapUpdate, Sem.run_bind, run_underlying_some ht, Result.andThen_ok, MapKept.run_getObj_map h1, run_check hd hkd, Instr.findKey, run_underlying_some hd, g1, Sem.run_pure, MapKept.run_setObj_map _ h1]
        · rw [Nat.zero_add] at g1
          refine ⟨_, ?_, rfl, rfl, r.turn (w' := { w with heap := w.heap.setIfInBounds i.blk (.map (ms.modify j fun e => { e with key := key, val := val }) clock) }) hb hi ⟨_, (put _).1, by simpa using g4, by rw [Array.toList_modify, born_modify, hbs]⟩ (put _).2 ⟨rfl, rfl⟩⟩
          have hej : ms[j]? = some e' := by simpa using g2
          have hkeep : ((ms[j]?).map (·.key)).getD key = e'.key := by rw [hej]; rfl
          simp only [Instr.mapUpdate, Sem.run_bind, run_underlying_some ht, Result.andThen_ok, MapKept.run_getObj_map h1, run_check hd hkd, Instr.findKey, run_underlying_some hd, g1, Sem.run_pure, hkeep, Instr.keyThatStays, g3, if_true, MapKept.run_setObj_map _ h1]
      · cases h
    · cases h
  · cases h
end Go.Proofs.YtagbghjmkaochacDoor.AX
