/- AX, part 24: a law without arguments, called: from the run of AX to the row's contract. -/
import Derived.Test.YtnlieipdeepemaaGreatDoorAx23
import Derived.ProofKit
import Derived.OpenShut
namespace Go.Proofs.YtnlieipdeepemaaGreatDoor.AX
open Go Go.ChangeShapes Go.WideShapes Go.ChangeAt Go.RowKit

def prOf (w : World) : Pr := ⟨fun k => w.heap[k]?, w.os, (w.output, w.tape)⟩
theorem R.start (w : World) : R (prOf w) (fun _ => none) .leaf w :=
  ⟨fun id b h => by simp [T.get_leaf] at h, fun id id' b b' i i' h => by simp [T.get_leaf] at h, fun k o h => h, fun id b i h => by simp [T.get_leaf] at h, rfl, rfl⟩
theorem Post.kept {σ : Sig} {w w' : World} {nx nx' : Nat} {v : AV} {hp' : Hp} {e : Ending} (h : Post (prOf w) σ nx v hp' nx' e w') : ∃ τ v', e = .returned v' ∧ VRel τ v v' ∧ Kept w w' := by
  obtain ⟨τ, v', h1, h2, h3, h4⟩ := h
  exact ⟨τ, v', h1, h2, h4.same.1, congrArg Prod.fst h4.same.2, congrArg Prod.snd h4.same.2, fun k o hk => h4.prot k o hk⟩

theorem saysTrue_spec {r : Res} (h : saysTrue r = true) : ∃ hp nx, r = .done (.bool true) hp nx := by
  unfold saysTrue at h
  split at h
  · exact ⟨_, _, rfl⟩
  · cases h
/-- What a run says of a call. -/
theorem calls_of {C : Ctx} (hP : POk C.P) (hX : ExtOk C) (hO : OrcOk C) (hD : DfdOk C) {n f : Nat} {w : World} {args : List AV} {args' : Array Value} {v : AV} {hp' : Hp} {nx' : Nat} (h : callA C n (.fn f) args .leaf 0 = .done v hp' nx') (hg : GlOk C (prOf w)) (ha : VRels (fun _ => none) args args'.toList) :
    Calls C.P f args' w (fun e w' => ∃ τ v', e = .returned v' ∧ VRel τ v v' ∧ Kept w w') := by
  have := ((callA_ok hP hX hO hD n).fn f args .leaf 0 v hp' nx' h (prOf w) (fun _ => none) w args' (R.start w) hg (fun _ _ _ => rfl) ha).2
  exact (callsIn_wide.1 this).mono fun e w' hp => hp.kept
noncomputable def valOf (r : Res) : Option AV :=
  match r with
  | .done v _ _ => some v
  | _ => none
theorem valOf_spec {r : Res} {v : AV} (h : valOf r = some v) : ∃ hp nx, r = .done v hp nx := by
  unfold valOf at h
  split at h
  · cases h; exact ⟨_, _, rfl⟩
  · cases h
theorem calls_of_val {C : Ctx} (hP : POk C.P) (hX : ExtOk C) (hO : OrcOk C) (hD : DfdOk C) {n f : Nat} {w : World} {args : List AV} {args' : Array Value} {v : AV} (h : valOf (callA C n (.fn f) args .leaf 0) = some v) (hg : GlOk C (prOf w)) (ha : VRels (fun _ => none) args args'.toList) :
    Calls C.P f args' w (fun e w' => ∃ τ v', e = .returned v' ∧ VRel τ v v' ∧ Kept w w') :=
  let ⟨_, _, h⟩ := valOf_spec h
  calls_of hP hX hO hD h hg ha
theorem closed_calls {C : Ctx} (hP : POk C.P) (hX : ExtOk C) (hO : OrcOk C) (hD : DfdOk C) {n f : Nat} {w : World} (h : saysTrue (callA C n (.fn f) [] .leaf 0) = true) (hg : GlOk C (prOf w)) :
    Calls C.P f #[] w (fun e w' => e = .returned (.bool true) ∧ Kept w w') := by
  obtain ⟨hp', nx', hr⟩ := saysTrue_spec h
  refine (calls_of hP hX hO hD hr hg .nil).mono fun e w' hp => ?_
  obtain ⟨τ, v', rfl, h2, h3⟩ := hp
  obtain rfl := h2.bool_inv
  exact ⟨rfl, h3⟩

theorem Kept.size {W W' : World} (h : Kept W W') : W.heap.size ≤ W'.heap.size := by
  rcases Nat.eq_zero_or_pos W.heap.size with h0 | h0
  · omega
  · have := h.block (W.heap.size - 1) W.heap[W.heap.size - 1] (Array.getElem?_eq_getElem (by omega))
    have := (Array.getElem?_eq_some_iff.1 this).1
    omega
theorem Kept.below {W W' : World} (h : Kept W W') : Below W.heap.size W W' :=
  ⟨h.os, h.tape, h.out, h.size, fun k hk => by rw [h.block k W.heap[k] (Array.getElem?_eq_getElem hk), Array.getElem?_eq_getElem hk]⟩
theorem Kept.of_below {W W' : World} {n : Nat} (h : Below n W W') (hn : W.heap.size ≤ n) : Kept W W' :=
  ⟨h.os, h.output, h.tape, fun k _ hk => (h.block k (Nat.lt_of_lt_of_le (Array.getElem?_eq_some_iff.1 hk).1 hn)).trans hk⟩
theorem Kept.refl (W : World) : Kept W W := ⟨rfl, rfl, rfl, fun _ _ h => h⟩
theorem Kept.trans {A B C : World} (h : Kept A B) (k : Kept B C) : Kept A C := ⟨k.os.trans h.os, k.out.trans h.out, k.tape.trans h.tape, fun i o hi => k.block i o (h.block i o hi)⟩
theorem Kept.frame {W W' : World} (h : Kept W W') (may : MemPlace → Prop) : W.keptBut W' may := by
  refine ⟨h.os, h.out, fun i hi => ?_⟩
  rw [h.block i W.heap[i] (Array.getElem?_eq_getElem hi), Array.getElem?_eq_getElem hi]
  split <;> simp_all
theorem Kept.frozen {W W' : World} (h : Kept W W') {b : Nat} (off : Nat) (hb : b < W.heap.size) : W'.frozen? ⟨b, off, none⟩ = W.frozen? ⟨b, off, none⟩ := by
  have := h.block b W.heap[b] (Array.getElem?_eq_getElem hb)
  unfold World.frozen?
  simp only [this, Array.getElem?_eq_getElem hb]

/-- 'post' where of what was there nothing has turned. -/
theorem post_of_kept {H : Type} {enc : TypeId × Value → H} {P : Program} {f : Func} {s : ChangeSpec} {apart fresh handsOn again : Bool} {W W' : World} {args : Array Value} {v : Value} {ds gs : List (DataW H)} {before pa pv : List MemPlace}
    (hW : DataW.Whole enc P f.params.toList s.vars apart W args.toList ds gs before)
    (hres : ∀ (b : Nat) (sp : Nat → Bool) (hd : Bool), DataW.TrodAll enc P W' b sp hd f.resultTypes.toList (v.resultList f.resultTypes.size) (s.fn H (ds ++ gs)).results [])
    (hargs : ∀ sp : Nat → Bool, (∀ p ∈ before, sp p.block = true) → DataW.TrodAll enc P W' 0 sp true f.params.toList args.toList (s.fn H (ds ++ gs)).args pa)
    (hvars : ∀ sp : Nat → Bool, (∀ p ∈ before, sp p.block = true) → DataW.TrodVars enc P W' sp s.vars (s.fn H (ds ++ gs)).vars pv)
    (hps : before = pa ++ pv) (hk : Kept W W')
    (hok : ∀ (j : Nat) (t : TypeId) (r : Value), f.resultTypes[j]? = some t → (v.resultList f.resultTypes.size)[j]? = some r → Value.okWide P W' .any 0 t r) :
    s.post enc P f apart fresh handsOn again W args v W' := by
  have hlt : ∀ p ∈ before, p.block < W.heap.size := fun p hp => hW.lt p hp
  have hold : ∀ p ∈ before, (fun b => decide (b < W.heap.size)) p.block = true := fun p hp => by simpa using hlt p hp
  refine ⟨ds, gs, before, [], pa, pv, hW, hres _ _ _, hargs _ hold, hvars _ hold, World.keptBut_mono (fun p hp => ⟨hp, ?_⟩) (hk.frame (· ∈ before)), fun _ => ?_⟩
  · rw [hps, List.mem_append] at hp
    exact Or.inr hp
  · obtain ⟨_, _, _, _, _, hz, hn⟩ := hW
    refine ⟨hok, _, _, ([] ++ pa) ++ pv, ⟨[] ++ pa, pv, trodAll_append (hargs _ (fun _ _ => rfl)) (hres _ _ _), hvars _ (fun _ _ => rfl), rfl, ?_, ?_⟩, ?_⟩
    · intro b off hp
      have hp : MemPlace.cell b off ∈ before := by rw [hps]; simpa using hp
      rw [hk.frozen off (show b < W.heap.size from hlt _ hp)]
      exact hz b off hp
    · intro ha
      have := hn ha
      rw [hps] at this
      simpa using this
    · intro p hp _
      rw [hps]
      simpa using hp

/-- A package-level array of small numbers, as it is laid. -/
def numsAt (W : World) (g : Nat) (k : IntKind) (ns : List Int) : Prop := ∃ cs e fz, W.heap[g]? = some (.cells cs e fz) ∧ cs.toList = ns.map fun n => Value.int k n
theorem glOk_nums {P : Program} {W : World} {g : Nat} {k : IntKind} {ns : List Int} {x : T Nat} {y z : T (List AV → Hp → Nat → Option (AV × Hp × Nat))} {b : Bool} (h : numsAt W g k ns) : GlOk ⟨P, T.set .leaf g (ofL (ns.map fun n => AV.int k n)), x, y, z, b⟩ (prOf W) := by
  obtain ⟨cs, e, fz, h1, h2⟩ := h
  intro g' c hc
  simp only at hc
  rw [T.get_set] at hc
  split at hc
  · rename_i e1
    cases hc
    subst e1
    refine ⟨cs, e, fz, h1, fun j v hv => ?_⟩
    rw [ofL_get] at hv
    rw [List.getElem?_map] at hv
    cases hn : ns[j]? with
    | none => rw [hn] at hv; cases hv
    | some n =>
      rw [hn] at hv
      cases hv
      refine ⟨.int k n, ?_, fun τ => .int k n⟩
      have : cs.toList[j]? = some (Value.int k n) := by rw [h2, List.getElem?_map, hn]; rfl
      simpa using this
  · simp [T.get_leaf] at hc
/-- The same, out of what the row lists. -/
theorem numsAt_of_laid {P : Program} {W : World} {name : String} {g n : Nat} {t e : TypeId} {k : IntKind} {ns : List Int} (hg : P.globalNamed name = some g) (ht : (P.globals[g]?).map (·.type) = some t)
    (harr : P.underlying t = some (.array n e)) (he : P.underlying e = some (.int k)) (hc : P.cellsOf e = 1) (hct : P.cellsOf t = n) {l : List (String × DataW Unit)} {ps : List MemPlace}
    (h : DataW.LaidVars P W ((name, .agg (ns.map fun n => .lit (.int k n))) :: l) ps) : numsAt W g k ns := by
  obtain ⟨g0, t0, cs0, f0, p0, q0, hg0, ht0, hv0, hd0, _⟩ := h
  obtain rfl := Option.some.inj (hg.symm.trans hg0)
  obtain rfl := Option.some.inj (ht.symm.trans ht0)
  obtain ⟨xs, m, rfl, hx, hlen, hxn, hel⟩ := DataW.trod_array harr hd0
  simp only [Prod.mk.injEq, DataW.agg.injEq] at hx
  have hheap : ∃ e fz, W.heap[g]? = some (.cells cs0 e fz) := by
    simp only [World.var?, hg0, Option.bind_some] at hv0
    split at hv0
    · rename_i c1 e1 fz1 hh
      cases hv0
      exact ⟨_, _, hh⟩
    · cases hv0
  obtain ⟨e1, fz1, hh⟩ := hheap
  refine ⟨cs0, e1, fz1, hh, List.ext_getElem? fun i => ?_⟩
  have hnl : ns.length = n := by
    have := congrArg List.length hx.1
    simp only [List.length_map] at this
    omega
  by_cases hi : i < n
  · have h1 := hel i hi
    rw [hc, Nat.mul_one] at h1
    have hxi : xs[i]? = some (xs[i]'(by omega)) := List.getElem?_eq_getElem (by omega)
    rw [hxi] at h1
    obtain ⟨r, e2, e3, _⟩ := DataW.trod_int he h1
    have h4 : (xs.map (·.1))[i]? = some (DataW.lit (.int k r)) := by rw [List.getElem?_map, hxi]; simp [e3]
    rw [← hx.1, List.getElem?_map] at h4
    have h5 : cs0.toList[i]? = some (Value.int k r) := by
      have := congrArg (fun l : List Value => l[0]?) e2
      simpa using this
    rw [h5, List.getElem?_map]
    cases hn : ns[i]? with
    | none => rw [hn] at h4; cases h4
    | some y =>
      rw [hn] at h4
      simp at h4
      simp [h4]
  · rw [List.getElem?_eq_none (by omega), List.getElem?_eq_none (by simp; omega)]

/-- What AX asks of the program: two closed facts. -/
def nameOk (P : Program) : Bool := P.funcs.all fun fn => !fn.body.isSome || !(fn.name == "runtime.NumGoroutine")
theorem POk.of {P : Program} (h1 : nameOk P = true) (h2 : P.follows .mixedOrders = true) : POk P := by
  refine ⟨fun f fn hf hb => ?_, h2⟩
  have := Array.all_eq_true_iff_forall_mem.1 h1 fn (Array.mem_of_getElem? hf)
  rw [hb] at this
  simpa using this
theorem DfdOk.leaf {P : Program} {gl : T Cells} {x : T Nat} {y : T (List AV → Hp → Nat → Option (AV × Hp × Nat))} {b : Bool} : DfdOk ⟨P, gl, x, y, .leaf, b⟩ := fun g k h => by simp [T.get_leaf] at h
theorem OrcOk.leaf {P : Program} {gl : T Cells} {x : T Nat} {z : T (List AV → Hp → Nat → Option (AV × Hp × Nat))} {b : Bool} : OrcOk ⟨P, gl, x, .leaf, z, b⟩ := fun g k h => by simp [T.get_leaf] at h
theorem ExtOk.leaf {P : Program} {gl : T Cells} {y z : T (List AV → Hp → Nat → Option (AV × Hp × Nat))} {b : Bool} : ExtOk ⟨P, gl, .leaf, y, z, b⟩ := fun g k h => by simp [T.get_leaf] at h
theorem ExtOk.one {P : Program} {gl : T Cells} {y z : T (List AV → Hp → Nat → Option (AV × Hp × Nat))} {b : Bool} {f kd : Nat} {fn : Func} (h1 : P.funcs[f]? = some fn) (h2 : (fn.name == "runtime.NumGoroutine") = false) (h3 : fn.body.isNone = true) (h4 : Extern.findNext fn = none)
    (h5 : ExtFn kd fn) : ExtOk ⟨P, gl, T.set .leaf f kd, y, z, b⟩ := fun g k h => by
  simp only at h
  rw [T.get_set] at h
  split at h
  · rename_i e
    cases h
    exact ⟨fn, by rw [e]; exact h1, h2, h3, h4, h5⟩
  · simp [T.get_leaf] at h
end Go.Proofs.YtnlieipdeepemaaGreatDoor.AX
