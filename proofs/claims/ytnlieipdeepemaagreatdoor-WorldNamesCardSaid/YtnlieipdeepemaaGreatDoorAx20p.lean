/- AX, part 20p: a region that draws, run in another order of its text. -/
import Derived.Test.YtnlieipdeepemaaGreatDoorAx20
namespace Go.Proofs.YtnlieipdeepemaaGreatDoor.AX
open Go
variable {P : Program} {σ : Sig} {w : World} {pr : Pr} {hp : Hp} {C : Ctx} {cl : CallF} {ro : Option Nat}

/-- The operations of one row, in another order. -/
structure PermOf (p : Nat → Nat) (ops ops' : Array Oper) : Prop where
  size : ops'.size = ops.size
  lt : ∀ i, p i < ops.size ↔ i < ops.size
  inj : ∀ i j, i < ops.size → j < ops.size → p i = p j → i = j
  back : ∀ k, k < ops.size → ∃ i, i < ops.size ∧ p i = k
  op : ∀ i o, ops[i]? = some o → ops'[p i]? = some (remap p o)
theorem PermOf.yielded {p : Nat → Nat} {ops ops' : Array Oper} (h : PermOf p ops ops') (tm : Array Value) (j : Nat) : yielded ops' tm (p j) = yielded ops tm j := by
  unfold Go.yielded
  cases ho : ops[j]? with
  | none =>
    have hn : ops'[p j]? = none := by
      rw [Array.getElem?_eq_none_iff] at ho ⊢
      rw [h.size]
      have := (h.lt j).1
      omega
    rw [hn]
  | some o => rw [h.op j o ho]; rfl
theorem PermOf.wanted {p : Nat → Nat} {ops ops' : Array Oper} (h : PermOf p ops ops') (tm : Array Value) (o : Oper) : Region.wanted (remap p o) (Go.yielded ops' tm) = Region.wanted o (Go.yielded ops tm) := by
  unfold Region.wanted remap
  cases hg : o.guard with
  | none => rfl
  | some g =>
    obtain ⟨j, u⟩ := g
    simp only [Option.map_some]
    rw [h.yielded]
/-- What is true of every order of the one is true of every order of the other. -/
theorem any_perm {p : Nat → Nat} {ops ops' : Array Oper} (h : PermOf p ops ops') {Q : Exit → Act → World → Prop} : ∀ (fuel : Nat) (listed listed' : Array Bool) (a : Act) (w : World), listed.size = ops.size → listed'.size = ops.size → (∀ i, i < ops.size → listed'[p i]? = listed[i]?) →
    wpAnyIn (FF ro) 0 P .any ops' Q fuel listed' a w → wpAnyIn (FF ro) 0 P .any ops Q fuel listed a w := by
  intro fuel
  have getD_eq : ∀ {listed listed' : Array Bool}, listed.size = ops.size → listed'.size = ops.size → (∀ i, i < ops.size → listed'[p i]? = listed[i]?) → ∀ i b, listed'.getD (p i) b = listed.getD i b := by
    intro listed listed' h1 h2 h3 i b
    by_cases hi : i < ops.size
    · simp only [Array.getD_eq_getD_getElem?, h3 i hi]
    · have hpi : ¬ p i < ops.size := fun hh => hi ((h.lt i).1 hh)
      simp only [Array.getD_eq_getD_getElem?]
      rw [Array.getElem?_eq_none (by omega), Array.getElem?_eq_none (by omega)]
  have ready_to : ∀ {listed listed' : Array Bool}, listed.size = ops.size → listed'.size = ops.size → (∀ i, i < ops.size → listed'[p i]? = listed[i]?) → ∀ i, i ∈ Region.ready .any ops listed → p i ∈ Region.ready .any ops' listed' := by
    intro listed listed' h1 h2 h3 i hi
    rw [mem_ready] at hi ⊢
    obtain ⟨g1, o, ho, g2⟩ := hi
    refine ⟨by rw [getD_eq h1 h2 h3]; exact g1, _, h.op i o ho, fun e he hb => ?_⟩
    simp only [remap, Array.mem_map] at he
    obtain ⟨e0, he0, rfl⟩ := he
    have hb0 : Region.binds .any e0 = true := hb
    have := g2 e0 he0 hb0
    show listed'.getD (p e0.on) false = true
    rw [getD_eq h1 h2 h3]; exact this
  have ready_from : ∀ {listed listed' : Array Bool}, listed.size = ops.size → listed'.size = ops.size → (∀ i, i < ops.size → listed'[p i]? = listed[i]?) → ∀ k, k ∈ Region.ready .any ops' listed' → ∃ i, i ∈ Region.ready .any ops listed := by
    intro listed listed' h1 h2 h3 k hk
    rw [mem_ready] at hk
    obtain ⟨g1, o', ho', g2⟩ := hk
    have hk : k < ops.size := by rw [← h.size]; exact (Array.getElem?_eq_some_iff.1 ho').1
    obtain ⟨i, hi, rfl⟩ := h.back k hk
    have ho : ops[i]? = some ops[i] := Array.getElem?_eq_getElem hi
    have := h.op i _ ho
    rw [ho'] at this
    cases this
    refine ⟨i, ?_⟩
    rw [mem_ready]
    refine ⟨by rw [← getD_eq h1 h2 h3]; exact g1, _, ho, fun e he hb => ?_⟩
    have := g2 { e with on := p e.on } (by simp only [remap, Array.mem_map]; exact ⟨e, he, rfl⟩) hb
    rw [← getD_eq h1 h2 h3]; exact this
  have none_to : ∀ {listed listed' : Array Bool}, listed.size = ops.size → listed'.size = ops.size → (∀ i, i < ops.size → listed'[p i]? = listed[i]?) → Region.ready .any ops listed = [] → Region.ready .any ops' listed' = [] := by
    intro listed listed' h1 h2 h3 hr
    cases hq : Region.ready .any ops' listed' with
    | nil => rfl
    | cons k l =>
      obtain ⟨i, hi⟩ := ready_from h1 h2 h3 k (by rw [hq]; simp)
      rw [hr] at hi
      cases hi
  induction fuel with
  | zero =>
    intro listed listed' a w h1 h2 h3 hw
    refine ⟨?_, hw.2⟩
    cases hq : Region.ready .any ops listed with
    | nil => rfl
    | cons i l =>
      have := ready_to h1 h2 h3 i (by rw [hq]; simp)
      rw [hw.1] at this
      cases this
  | succ fuel ih =>
    intro listed listed' a w h1 h2 h3 hw
    refine ⟨fun hr => hw.1 (none_to h1 h2 h3 hr), fun i hi => ?_⟩
    have hp := hw.2 (p i) (ready_to h1 h2 h3 i hi)
    rw [mem_ready] at hi
    obtain ⟨_, o, ho, _⟩ := hi
    have hlt : i < ops.size := (Array.getElem?_eq_some_iff.1 ho).1
    have hpl : p i < ops.size := (h.lt i).2 hlt
    have next : ∀ a' w', wpAnyIn (FF ro) 0 P .any ops' Q fuel (listed'.setIfInBounds (p i) true) a' w' → wpAnyIn (FF ro) 0 P .any ops Q fuel (listed.setIfInBounds i true) a' w' := by
      intro a' w' hh
      refine ih _ _ a' w' (by simpa using h1) (by simpa using h2) (fun j hj => ?_) hh
      by_cases e : j = i
      · subst e
        simp [h1, h2, hlt, hpl]
      · have e' : p i ≠ p j := fun hh => e (h.inj _ _ hlt hj hh).symm
        rw [Array.getElem?_setIfInBounds_ne e', Array.getElem?_setIfInBounds_ne (Ne.symm e)]
        exact h3 j hj
    unfold wpOpIn at hp ⊢
    rw [h.op i o ho] at hp
    rw [ho]
    simp only at hp ⊢
    rw [h.wanted] at hp
    split
    · rename_i hwt
      rw [if_pos hwt] at hp
      exact Oper.wpIn_mono next (show o.wpIn (FF ro) 0 P a w _ Q from hp)
    · rename_i hwt
      rw [if_neg hwt] at hp
      exact ⟨hp.1, next _ _ hp.2⟩
theorem idxN_get {i : Nat} : ∀ {l : List Nat}, i ∈ l → l[idxN i l]? = some i
  | x :: l, h => by
    unfold idxN
    split
    · rename_i hx
      have := Nat.eq_of_beq_eq_true hx
      subst this
      rfl
    · rename_i hx
      have hne := ne_of_beq hx
      have : i ∈ l := by
        rcases List.mem_cons.1 h with rfl | h
        · exact absurd rfl hne
        · exact h
      simpa using idxN_get this
theorem idxN_mem {i : Nat} : ∀ {l : List Nat}, idxN i l < l.length → i ∈ l
  | [], h => by simp at h
  | x :: l, h => by
    unfold idxN at h
    split at h
    · rename_i hx
      have := Nat.eq_of_beq_eq_true hx
      subst this
      simp
    · simp only [List.length_cons, Nat.succ_eq_add_one] at h
      exact List.mem_cons_of_mem _ (idxN_mem (by omega))
theorem permA_of {l : List Nat} {ops : Array Oper} (h : permOk l ops.size = true) : PermOf (fun j => idxN j l) ops (permA l ops) := by
  unfold permOk at h
  simp only [Bool.and_eq_true, List.all_eq_true, List.any_eq_true, List.mem_range] at h
  obtain ⟨⟨⟨h1, h2⟩, h3⟩, h4⟩ := h
  have h1 := Nat.eq_of_beq_eq_true h1
  have hmem : ∀ i, i < ops.size → i ∈ l := fun i hi => by
    obtain ⟨x, hx, e⟩ := h3 i hi
    have := Nat.eq_of_beq_eq_true e
    subst this
    exact hx
  have hlt : ∀ i, i ∈ l → i < ops.size := fun i hi => Nat.le_of_ble_eq_true (h2 i hi)
  have hpos : ∀ i, i ∈ l → idxN i l < l.length := fun i hi => (List.getElem?_eq_some_iff.1 (idxN_get hi)).1
  refine ⟨by simp [permA, h1], fun i => ⟨fun hi => hlt i (idxN_mem (by omega)), fun hi => by have := hpos i (hmem i hi); omega⟩, fun i j hi hj e => ?_, fun k hk => ?_, fun i o ho => ?_⟩
  · have e1 := idxN_get (hmem i hi)
    have e2 := idxN_get (hmem j hj)
    have e : idxN i l = idxN j l := e
    rw [e, e2] at e1
    exact (Option.some.inj e1).symm
  · have := h4 k hk
    have hkl : k < l.length := by omega
    rw [List.getElem?_eq_getElem hkl] at this
    exact ⟨l[k], hlt _ (List.getElem_mem hkl), Nat.eq_of_beq_eq_true this⟩
  · have hi : i < ops.size := (Array.getElem?_eq_some_iff.1 ho).1
    have e1 := idxN_get (hmem i hi)
    simp only [permA, List.getElem?_toArray, List.getElem?_map, e1, Option.map_some]
    have : ops[i]! = o := by rw [getElem!_def, ho]
    rw [this]
section
variable {nf : Nat}
theorem draw_sound (hP : POk C.P) (hX : ExtOk C) (hc : CallsOk C cl) (hg : GlOk C pr) {sz id : Nat} {ops : Array Oper} {m : T Nat} {fr : Fr} {ds : List ADef} {nx : Nat} {a : Act} {s' : Dr}
    (hb : drawBefs C.P ops = some m) (h : drawOps C cl sz ops m ops.toList 0 ⟨fr, hp, hp, nx, [], [], []⟩ = .ok s') (hle : s'.nx ≤ nf)
    (s : St pr σ sz nf fr ds hp nx a w) {Q : Exit → Act → World → Prop}
    (hn : ∀ σ' a' w', Ext σ σ' nx s'.nx → St pr σ' sz nf s'.fr ds s'.hp s'.nx a' w' → Q .normal a' w') :
    (Code.region id ops true).wpIn (FF ro) 0 C.P Q a w :=
  wpIn_region_any hP.mixed (draw_any hP hX hc hg hb h hle s hn)
theorem draw_turned (hP : POk C.P) (hX : ExtOk C) (hc : CallsOk C cl) (hg : GlOk C pr) {sz id : Nat} {ops ops' : Array Oper} {m : T Nat} {fr : Fr} {ds : List ADef} {nx : Nat} {a : Act} {s' : Dr}
    (hb : turned C.P ops = some (ops', m)) (h : drawOps C cl sz ops' m ops'.toList 0 ⟨fr, hp, hp, nx, [], [], []⟩ = .ok s') (hle : s'.nx ≤ nf)
    (s : St pr σ sz nf fr ds hp nx a w) {Q : Exit → Act → World → Prop}
    (hn : ∀ σ' a' w', Ext σ σ' nx s'.nx → St pr σ' sz nf s'.fr ds s'.hp s'.nx a' w' → Q .normal a' w') :
    (Code.region id ops true).wpIn (FF ro) 0 C.P Q a w := by
  unfold turned at hb
  split at hb
  · simp only at hb
    split at hb
    · rename_i hok
      split at hb
      · rename_i m' hm'
        cases hb
        have hp := permA_of hok
        have := draw_any (ro := ro) hP hX hc hg hm' h hle s hn
        refine wpIn_region_any hP.mixed (any_perm hp ops.size (Array.replicate ops.size false) (Array.replicate ops.size false) a _ (by simp) (by simp) (fun i hi => ?_) (by rw [hp.size] at this; exact this))
        have hpi := (hp.lt i).2 hi
        rw [Array.getElem?_eq_getElem (by simpa using hpi), Array.getElem?_eq_getElem (by simpa using hi)]
        simp
      · cases hb
    · cases hb
  · cases hb
end
end Go.Proofs.YtnlieipdeepemaaGreatDoor.AX
