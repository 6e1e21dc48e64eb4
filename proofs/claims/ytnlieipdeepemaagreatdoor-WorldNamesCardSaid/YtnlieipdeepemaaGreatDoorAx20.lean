/- AX, part 20: a region that draws its order. -/
import Derived.Test.YtnlieipdeepemaaGreatDoorAx20a
namespace Go.Proofs.YtnlieipdeepemaaGreatDoor.AX
open Go
variable {P : Program} {σ : Sig} {w : World} {pr : Pr} {hp : Hp} {C : Ctx} {cl : CallF} {ro : Option Nat}

theorem opd_slot {fr : Fr} {a : Act} (x : Operand) (h : ∀ t, x = .tmp t → ∀ v, fr.get t = some v → ∃ y, a.tmps[t]? = some y ∧ VRel σ v y) : VRel σ (opd fr x) (a.eval x) := by
  unfold opd
  split
  · rename_i t
    split
    · rename_i v hv
      obtain ⟨y, h1, h2⟩ := h t rfl v hv
      have : a.eval (.tmp t) = y := by simp [Act.eval, h1]
      rw [this]; exact h2
    · exact .bad _
  · exact ofVal_rel _
  · exact .gptr _ _
  · exact .fn _ .nil .nil
theorem wanted_slot {all : Array Oper} {fr : Fr} {a : Act} {o : Oper} {b : Bool} (h : wantedA all fr o = some b)
    (hs : ∀ t, looks all o t = true → ∀ v, fr.get t = some v → ∃ y, a.tmps[t]? = some y ∧ VRel σ v y) : Region.wanted o (yielded all a.tmps) = b := by
  unfold wantedA at h
  unfold Region.wanted
  split at h
  · rename_i hg; cases h; rw [hg]
  · rename_i j u hg
    rw [hg]
    simp only
    split at h
    · rename_i d hd
      have hl : looks all o d = true := by simp [looks, hg, hd]
      split at h
      · rename_i x hx
        cases h
        obtain ⟨y, h1, h2⟩ := hs d hl _ hx
        obtain rfl := h2.bool_inv
        simp [yielded, hd, h1]
      · rename_i x hx
        cases h
        obtain ⟨y, h1, h2⟩ := hs d hl _ hx
        obtain ⟨vs, rfl, _⟩ := h2.tup_inv
        simp [yielded, hd, h1]
      · cases h
    · cases h
theorem looks_of_mem {all : Array Oper} {o : Oper} {t : Nat} (h : (.tmp t : Operand) ∈ o.op.operands) : looks all o t = true := by
  have : o.op.operands.toList.any (isTmp t) = true := List.any_eq_true.2 ⟨.tmp t, by simpa using h, by simp [isTmp]⟩
  simp [looks, this]
theorem putD_some {sz : Nat} {d : Option Tmp} {v : AV} {fr fr' : Fr} (h : putD sz d v fr = some fr') : (d = none ∧ fr' = fr) ∨ ∃ t, d = some t ∧ t < sz ∧ fr' = fr.set t v := by
  unfold putD at h
  split at h
  · cases h; exact .inl ⟨rfl, rfl⟩
  · rename_i t
    split at h
    · rename_i ht
      rw [forceV_eq] at h
      cases h
      exact .inr ⟨t, rfl, Nat.le_of_ble_eq_true ht, rfl⟩
    · cases h

section
variable {sz : Nat} {ops : Array Oper} {B : Nat → Nat} {S : Nat → Dr} {kd : Nat → Kd} {V : Nat → AV}

theorem Did.put {o : Oper} {i b : Nat} {s t : Dr} {k : Kd} {v : AV} (h : Did C cl sz ops o i b s t k v) : putD sz o.dst v s.fr = some t.fr := by
  cases h <;> assumption
theorem Tr.fr_stay (T : Tr C cl sz ops B S kd V) {t i : Nat} : ∀ {j : Nat}, i ≤ j → j ≤ ops.size → (∀ k o, i ≤ k → k < j → ops[k]? = some o → o.dst ≠ some t) → (S j).fr.get t = (S i).fr.get t
  | 0, h, _, _ => by have : i = 0 := by omega
                     subst this; rfl
  | j + 1, h, hj, hk => by
    by_cases e : i = j + 1
    · subst e; rfl
    · have ih := Tr.fr_stay T (t := t) (i := i) (j := j) (by omega) (by omega) (fun k o h1 h2 => hk k o h1 (by omega))
      rw [← ih]
      have ho : ops[j]? = some ops[j] := Array.getElem?_eq_getElem (by omega)
      rcases putD_some (T.step j _ ho).put with ⟨_, h2⟩ | ⟨u, h1, _, h2⟩
      · rw [h2]
      · rw [h2, Fr.get_set, if_neg]
        intro e2
        subst e2
        exact hk j _ (by omega) (by omega) ho h1

/-- What the slots hold when L is listed. -/
structure Slots (sz : Nat) (ops : Array Oper) (S : Nat → Dr) (L : Nat → Prop) (σ : Sig) (tm : Array Value) : Prop where
  size : tm.size = sz
  new : ∀ i o t, L i → ops[i]? = some o → o.dst = some t → ∀ v, (S (i + 1)).fr.get t = some v → ∃ x, tm[t]? = some x ∧ VRel σ v x
  old : ∀ t, (∀ i o, L i → ops[i]? = some o → o.dst ≠ some t) → ∀ v, (S 0).fr.get t = some v → ∃ x, tm[t]? = some x ∧ VRel σ v x

theorem sameDst_of {a b : Oper} {t : Nat} (ha : a.dst = some t) (hb : b.dst = some t) : sameDst a b = true := by
  simp [sameDst, ha, hb]
theorem Ord.dst_inj (O : Ord P ops B) {i j t : Nat} {oi oj : Oper} (hi : ops[i]? = some oi) (hj : ops[j]? = some oj) (h1 : oi.dst = some t) (h2 : oj.dst = some t) : i = j := by
  rcases Nat.lt_trichotomy i j with h | h | h
  · have := (O.pair i j oi oj h hi hj).1
    rw [sameDst_of h1 h2] at this; cases this
  · exact h
  · have := (O.pair j i oj oi h hj hi).1
    rw [sameDst_of h2 h1] at this; cases this
theorem slot_ok (T : Tr C cl sz ops B S kd V) (O : Ord P ops B) {L : Nat → Prop} {tm : Array Value} (hL : Closed ops L) (s : Slots sz ops S L σ tm) {i : Nat} {o : Oper} (hi : ops[i]? = some o) (hn : ¬ L i)
    (hu : Upon L o) {t : Nat} (hl : looks ops o t = true) : ∀ v, (S i).fr.get t = some v → ∃ x, tm[t]? = some x ∧ VRel σ v x := by
  have hlt : i < ops.size := (Array.getElem?_eq_some_iff.1 hi).1
  intro v hv
  by_cases h : ∃ k ok, k < i ∧ ops[k]? = some ok ∧ ok.dst = some t
  · obtain ⟨k, ok, h1, h2, h3⟩ := h
    have hk : L k := O.bits i o hi L hL hu k ((O.pair k i ok o h1 h2 hi).2 (by simp [tied, h3, hl]))
    refine s.new k ok t hk h2 h3 v ?_
    rw [← hv]
    exact (T.fr_stay (by omega) (by omega) fun k' o' g1 g2 g3 g4 => by have := O.dst_inj h2 g3 h3 g4; omega).symm
  · refine s.old t (fun j oj hj hoj hd => ?_) v ?_
    · rcases Nat.lt_trichotomy j i with h1 | h1 | h1
      · exact h ⟨j, oj, h1, hoj, hd⟩
      · subst h1; exact hn hj
      · exact hn (O.bits j oj hoj L hL (hL j oj hj hoj) i ((O.pair i j o oj h1 hi hoj).2 (by simp [tied, hd, hl])))
    · rw [← hv]
      exact (T.fr_stay (by omega) (by omega) fun k' o' g1 g2 g3 g4 => h ⟨k', o', g2, g3, g4⟩).symm
/-- L with one more. -/
def More (L : Nat → Prop) (i : Nat) : Nat → Prop := fun k => k = i ∨ L k
theorem Slots.put {τ : Sig} (T : Tr C cl sz ops B S kd V) (O : Ord P ops B) {L : Nat → Prop} {a : Act} (hs : σ ≤ τ) (s : Slots sz ops S L σ a.tmps) {i : Nat} {o : Oper} (hi : ops[i]? = some o) (_hn : ¬ L i)
    {x : Value} (hx : VRel τ (V i) x) : Slots sz ops S (More L i) τ (a.put o.dst x).tmps := by
  rcases putD_some (T.step i o hi).put with ⟨h1, h2⟩ | ⟨u, h1, hu, h2⟩
  · rw [h1]
    refine ⟨s.size, fun j oj t hj hoj hd v hv => ?_, fun t ht v hv => ?_⟩
    · rcases hj with rfl | hj
      · rw [hi] at hoj; cases hoj; rw [h1] at hd; cases hd
      · obtain ⟨y, g1, g2⟩ := s.new j oj t hj hoj hd v hv
        exact ⟨y, g1, g2.mono hs⟩
    · obtain ⟨y, g1, g2⟩ := s.old t (fun j oj hj => ht j oj (.inr hj)) v hv
      exact ⟨y, g1, g2.mono hs⟩
  · rw [h1]
    have hsz := s.size
    have e : ∀ t, t ≠ u → (a.put (some u) x).tmps[t]? = a.tmps[t]? := fun t ht => by simp [Act.put, Array.getElem?_setIfInBounds_ne (Ne.symm ht)]
    have e' : (a.put (some u) x).tmps[u]? = some x := by simp [Act.put, hsz, hu]
    refine ⟨by simp [Act.put, hsz], fun j oj t hj hoj hd v hv => ?_, fun t ht v hv => ?_⟩
    · by_cases ht : t = u
      · subst ht
        have := O.dst_inj hoj hi hd h1
        subst this
        rw [h2, Fr.get_set, if_pos rfl] at hv
        obtain rfl := nb_some hv
        exact ⟨x, e', hx⟩
      · rw [e t ht]
        rcases hj with rfl | hj
        · rw [hi] at hoj; cases hoj; rw [h1] at hd; cases hd; exact absurd rfl ht
        · obtain ⟨y, g1, g2⟩ := s.new j oj t hj hoj hd v hv
          exact ⟨y, g1, g2.mono hs⟩
    · have hne : t ≠ u := fun e => ht i o (.inl rfl) hi (by rw [e]; exact h1)
      rw [e t hne]
      obtain ⟨y, g1, g2⟩ := s.old t (fun j oj hj => ht j oj (.inr hj)) v hv
      exact ⟨y, g1, g2.mono hs⟩

/-- Blocks that were made early: protected until their turn comes. -/
structure Early (pr : Pr) (S : Nat → Dr) (kd : Nat → Kd) (L : Nat → Prop) (p : Nat) (pr' : Pr) (σ : Sig) (h : World) : Prop where
  le : ∀ k o, pr k = some o → pr' k = some o
  ref : pr'.os = pr.os ∧ pr'.out = pr.out
  at_ : ∀ i bl, p ≤ i → L i → kd i = .alloc bl → ∃ j o, σ (S i).nx = some j ∧ pr' j.blk = some o ∧ pr j.blk = none ∧ BlkRel σ bl j h.heap
  inj : ∀ i i' bl bl' j j', p ≤ i → p ≤ i' → L i → L i' → kd i = .alloc bl → kd i' = .alloc bl' → σ (S i).nx = some j → σ (S i').nx = some j' → j.blk = j'.blk → i = i'
theorem Early.adv {p : Nat} {L : Nat → Prop} {pr' : Pr} {h : World} (T : Tr C cl sz ops B S kd V) (hp : p < ops.size) (e : Early pr S kd L p pr' σ h) (r : R pr' σ (S p).hp h)
    (hw : kd p ≠ .write) (ha : ∀ bl, kd p = .alloc bl → L p) : ∃ pr'', Early pr S kd L (p + 1) pr'' σ h ∧ R pr'' σ (S (p + 1)).hp h := by
  have ho : ops[p]? = some ops[p] := Array.getElem?_eq_getElem hp
  have hd := T.step p _ ho
  have still : kd p = .still → ∃ pr'', Early pr S kd L (p + 1) pr'' σ h ∧ R pr'' σ (S (p + 1)).hp h := by
    intro hk
    have : (S (p + 1)).hp = (S p).hp := by
      rw [hk] at hd
      generalize S (p + 1) = t at hd
      generalize V p = v at hd
      cases hd <;> rfl
    refine ⟨pr', ⟨e.le, e.ref, fun i bl hi => e.at_ i bl (by omega), fun i i' bl bl' j j' h1 h2 => e.inj i i' bl bl' j j' (by omega) (by omega)⟩, by rw [this]; exact r⟩
  cases hk : kd p with
  | still => exact still hk
  | write => exact absurd hk hw
  | alloc bl =>
    have hLp := ha bl hk
    obtain ⟨j, o, h1, h2, h3, h4⟩ := e.at_ p bl (Nat.le_refl _) hLp hk
    have hhp : (S (p + 1)).hp = (S p).hp.set (S p).nx bl := by
      rw [hk] at hd
      generalize S (p + 1) = t at hd
      generalize V p = v at hd
      cases hd
      rfl
    refine ⟨{ pr' with old := fun k => if k = j.blk then none else pr' k }, ⟨fun k o' hk' => ?_, e.ref, fun i bl' hi hL' hk' => ?_, fun i i' b b' k k' g1 g2 => e.inj i i' b b' k k' (by omega) (by omega)⟩, ?_⟩
    · have : k ≠ j.blk := fun e' => by rw [e', h3] at hk'; cases hk'
      show (if k = j.blk then none else pr' k) = some o'
      rw [if_neg this]; exact e.le _ _ hk'
    · obtain ⟨j', o', g1, g2, g3, g4⟩ := e.at_ i bl' (by omega) hL' hk'
      refine ⟨j', o', g1, ?_, g3, g4⟩
      show (if j'.blk = j.blk then none else pr' j'.blk) = some o'
      rw [if_neg]
      · exact g2
      · intro e'
        have := e.inj i p bl' bl j' j (by omega) (Nat.le_refl _) hL' hLp hk' hk g1 h1 e'
        omega
    · rw [hhp]
      refine ⟨fun id b hb => ?_, fun id id' b b' k k' hb hb' g1 g2 g3 => ?_, fun k o' hk' => ?_, fun id b k hb g1 => ?_, r.same⟩
      · rw [_root_.Go.Proofs.YtnlieipdeepemaaGreatDoor.AX.T.get_set] at hb
        split at hb
        · rename_i e'; subst e'; cases hb; exact ⟨j, h1, h4⟩
        · exact r.blk id b hb
      · rw [_root_.Go.Proofs.YtnlieipdeepemaaGreatDoor.AX.T.get_set] at hb hb'
        by_cases e1 : id = (S p).nx <;> by_cases e2 : id' = (S p).nx
        · rw [e1, e2]
        · rw [if_neg e2] at hb'
          have := r.free _ _ _ hb' g2
          rw [← g3] at this
          rw [e1, h1] at g1
          cases g1
          rw [h2] at this; cases this
        · rw [if_neg e1] at hb
          have := r.free _ _ _ hb g1
          rw [g3] at this
          rw [e2, h1] at g2
          cases g2
          rw [h2] at this; cases this
        · rw [if_neg e1] at hb
          rw [if_neg e2] at hb'
          exact r.inj _ _ _ _ _ _ hb hb' g1 g2 g3
      · have hk' : (if k = j.blk then none else pr' k) = some o' := hk'
        split at hk'
        · cases hk'
        · exact r.prot _ _ hk'
      · rw [_root_.Go.Proofs.YtnlieipdeepemaaGreatDoor.AX.T.get_set] at hb
        show (if k.blk = j.blk then none else pr' k.blk) = none
        split at hb
        · rename_i e'
          rw [e', h1] at g1
          cases g1
          rw [if_pos rfl]
        · split
          · rfl
          · exact r.free _ _ _ hb g1
theorem Early.advs {L : Nat → Prop} {h : World} (T : Tr C cl sz ops B S kd V) : ∀ (d : Nat) {p : Nat} {pr' : Pr}, p + d ≤ ops.size → Early pr S kd L p pr' σ h → R pr' σ (S p).hp h →
    (∀ i, p ≤ i → i < p + d → kd i ≠ .write ∧ ∀ bl, kd i = .alloc bl → L i) → ∃ pr'', Early pr S kd L (p + d) pr'' σ h ∧ R pr'' σ (S (p + d)).hp h
  | 0, p, pr', _, e, r, _ => ⟨pr', e, r⟩
  | d + 1, p, pr', hd, e, r, hk => by
    obtain ⟨pr1, e1, r1⟩ := Early.adv T (by omega) e r (hk p (Nat.le_refl _) (by omega)).1 (hk p (Nat.le_refl _) (by omega)).2
    obtain ⟨pr2, e2, r2⟩ := Early.advs T d (by omega) e1 r1 (fun i h1 h2 => hk i (by omega) (by omega))
    exact ⟨pr2, by rw [show p + (d + 1) = p + 1 + d from by omega]; exact e2, by rw [show p + (d + 1) = p + 1 + d from by omega]; exact r2⟩

/-- Counts rise. -/
theorem Tr.nx_le (hc : CallsOk C cl) (T : Tr C cl sz ops B S kd V) {i : Nat} : ∀ {j : Nat}, i ≤ j → j ≤ ops.size → (S i).nx ≤ (S j).nx
  | 0, h, _ => by have : i = 0 := by omega
                  subst this; exact Nat.le_refl _
  | j + 1, h, hj => by
    by_cases e : i = j + 1
    · subst e; exact Nat.le_refl _
    · have ih := Tr.nx_le hc T (i := i) (j := j) (by omega) (by omega)
      have ho : ops[j]? = some ops[j] := Array.getElem?_eq_getElem (by omega)
      have hd := T.step j _ ho
      have : (S j).nx ≤ (S (j + 1)).nx := by
        generalize S (j + 1) = t at hd
        generalize V j = v at hd
        generalize kd j = k at hd
        cases hd with
        | write v fr hp1 nx1 h hcl hv hr hp => exact wA_mono hc.mono _ _ _ hv
        | alloc => exact Nat.le_succ _
        | _ => exact Nat.le_refl _
      omega
/-- Where the last writer stands. -/
def Base (kd : Nat → Kd) (L : Nat → Prop) (p : Nat) : Prop := (p = 0 ∨ ∃ q, p = q + 1 ∧ kd q = .write ∧ L q) ∧ ∀ i, p ≤ i → L i → kd i ≠ .write
theorem Tr.base_hb (T : Tr C cl sz ops B S kd V) (h0 : (S 0).hb = (S 0).hp) {p : Nat} (hp : p = 0 ∨ ∃ q, p = q + 1 ∧ kd q = .write) (hpn : p ≤ ops.size) : (S p).hb = (S p).hp := by
  rcases hp with rfl | ⟨q, rfl, hk⟩
  · exact h0
  · have ho : ops[q]? = some ops[q] := Array.getElem?_eq_getElem (by omega)
    have hd := T.step q _ ho
    rw [hk] at hd
    generalize S (q + 1) = t at hd
    generalize V q = v at hd
    cases hd
    rfl
/-- Where a region begins. -/
def Begun (s : Dr) : Prop := s.hb = s.hp ∧ s.wl = [] ∧ s.al = []
theorem Tr.base_wl (T : Tr C cl sz ops B S kd V) (h0 : (S 0).wl = []) {p : Nat} (hp : p = 0 ∨ ∃ q, p = q + 1 ∧ kd q = .write) (hpn : p ≤ ops.size) : baseW (S p).wl = p := by
  rcases hp with rfl | ⟨q, rfl, hk⟩
  · rw [h0]; rfl
  · have ho : ops[q]? = some ops[q] := Array.getElem?_eq_getElem (by omega)
    have hd := T.step q _ ho
    rw [hk] at hd
    generalize S (q + 1) = t at hd
    generalize V q = v at hd
    cases hd
    rfl
theorem Tr.al_mem (T : Tr C cl sz ops B S kd V) (h0 : (S 0).al = []) {k id : Nat} {bl : Blk} : ∀ {i : Nat}, i ≤ ops.size → (k, id, bl) ∈ (S i).al → kd k = .alloc bl ∧ (S k).nx = id ∧ k < i
  | 0, _, h => by rw [h0] at h; cases h
  | i + 1, hi, h => by
    have ho : ops[i]? = some ops[i] := Array.getElem?_eq_getElem (by omega)
    have hd := T.step i _ ho
    have ih := Tr.al_mem T h0 (k := k) (id := id) (bl := bl) (i := i) (by omega)
    have hs : (k, id, bl) ∈ (S i).al → kd k = .alloc bl ∧ (S k).nx = id ∧ k < i + 1 := fun h => by
      obtain ⟨h1, h2, h3⟩ := ih h
      exact ⟨h1, h2, by omega⟩
    generalize S (i + 1) = t at hd h
    generalize V i = v at hd
    generalize hkd : kd i = kk at hd
    cases hd with
    | alloc bl' mk fr h1 hc hv hp =>
      rcases List.mem_cons.1 h with e | h
      · cases e
        exact ⟨hkd, rfl, Nat.lt_succ_self _⟩
      · exact hs h
    | _ => exact hs h
theorem readOwn_mem {b p : Nat} {o : Op} {ρ : Operand → AV} {v : AV} : ∀ {l : List (Nat × Nat × Blk)}, readOwn C b p o ρ v l = true → ∃ k id bl, (k, id, bl) ∈ l ∧ p ≤ k ∧ Nat.testBit b k = true ∧ readA C o ρ (T.set .leaf id bl) = some v
  | [], h => by cases h
  | (k, id, bl) :: l, h => by
    simp only [readOwn, Bool.or_eq_true, Bool.and_eq_true] at h
    rcases h with ⟨⟨h1, h2⟩, h3⟩ | h
    · exact ⟨k, id, bl, List.mem_cons_self .., Nat.le_of_ble_eq_true h1, h2, sameRead_imp h3⟩
    · obtain ⟨k', id', bl', g1, g2⟩ := readOwn_mem h
      exact ⟨k', id', bl', List.mem_cons_of_mem _ g1, g2⟩
theorem Tr.back (T : Tr C cl sz ops B S kd V) {b p : Nat} {o : Op} {ρ : Operand → AV} {v : AV} {al : List (Nat × Nat × Blk)} : ∀ {i : Nat}, p ≤ i → i ≤ ops.size → (∀ q, p ≤ q → q < i → kd q = .write → Nat.testBit b q = false) →
    (readA C o ρ (S i).hb = some v ∨ readOwn C b (baseW (S i).wl) o ρ v al = true) → readBack C b o ρ v al (S i).wl = true → (readA C o ρ (S p).hb = some v ∨ readOwn C b (baseW (S p).wl) o ρ v al = true)
  | 0, h, _, _, h1, _ => by have : p = 0 := by omega
                            subst this; exact h1
  | i + 1, h, hi, hq, h1, h2 => by
    by_cases e : p = i + 1
    · subst e; exact h1
    · have ho : ops[i]? = some ops[i] := Array.getElem?_eq_getElem (by omega)
      have hd := T.step i _ ho
      have hk := hq i (by omega) (by omega)
      refine Tr.back T (i := i) (by omega) (by omega) (fun q g1 g2 => hq q g1 (by omega)) ?_ ?_
      all_goals
        generalize S (i + 1) = t at hd h1 h2
        generalize V i = v' at hd
        generalize hkd : kd i = k at hd
        cases hd with
        | write v fr hp1 nx1 h hcl hv hr hp =>
          simp only [readBack, hk hkd, Bool.and_eq_true, Bool.or_eq_true] at h2
          first | exact h2.1.imp sameRead_imp id | exact h2.2
        | _ => first | exact h1 | exact h2
theorem readOn_mem {b : Nat} {h : Hp} : ∀ {l : List (Nat × Op × Fr × AV)}, readOn C b h l = true → ∀ r o fr v, (r, o, fr, v) ∈ l → Nat.testBit b r = true ∨ readA C o (opd fr) h = some v
  | [], _, _, _, _, _, hm => by cases hm
  | (r', o', fr', v') :: l, h1, r, o, fr, v, hm => by
    simp only [readOn, Bool.and_eq_true, Bool.or_eq_true] at h1
    cases hm with
    | head => exact h1.1.imp id sameRead_imp
    | tail _ hm => exact readOn_mem h1.2 r o fr v hm
theorem Tr.rl_mem (T : Tr C cl sz ops B S kd V) {x : Nat × Op × Fr × AV} {i : Nat} (h : x ∈ (S i).rl) : ∀ {j : Nat}, i ≤ j → j ≤ ops.size → x ∈ (S j).rl
  | 0, h1, _ => by have : i = 0 := by omega
                   subst this; exact h
  | j + 1, h1, hj => by
    by_cases e : i = j + 1
    · subst e; exact h
    · have ih := Tr.rl_mem T h (j := j) (by omega) (by omega)
      have ho : ops[j]? = some ops[j] := Array.getElem?_eq_getElem (by omega)
      have hd := T.step j _ ho
      generalize S (j + 1) = t at hd
      generalize V j = v at hd
      generalize kd j = k at hd
      cases hd with
      | read => exact List.mem_cons_of_mem _ ih
      | _ => exact ih

theorem R.weak {pr' : Pr} {hp : Hp} {h : World} (r : R pr' σ hp h) (hle : ∀ k o, pr k = some o → pr' k = some o) (hrf : pr'.os = pr.os ∧ pr'.out = pr.out) : R pr σ hp h :=
  ⟨r.blk, r.inj, fun k o hk => r.prot k o (hle k o hk), fun id b i hb hi => (by
    have := r.free id b i hb hi
    cases hk : pr i.blk with
    | none => rfl
    | some o => rw [hle _ _ hk] at this; cases this), r.same.1.trans hrf.1, r.same.2.trans hrf.2⟩
theorem GlOk.more {pr' : Pr} (hg : GlOk C pr) (hle : ∀ k o, pr k = some o → pr' k = some o) : GlOk C pr' := fun g c hc =>
  let ⟨cs, e, fz, h1, h2⟩ := hg g c hc
  ⟨cs, e, fz, hle _ _ h1, h2⟩
theorem Early.more {p i : Nat} {L : Nat → Prop} {pr' : Pr} {h : World} (e : Early pr S kd L p pr' σ h) (hk : kd i = .still) : Early pr S kd (More L i) p pr' σ h := by
  have f : ∀ k bl, More L i k → kd k = .alloc bl → L k := fun k bl h1 h2 => by
    rcases h1 with rfl | h1
    · rw [hk] at h2; cases h2
    · exact h1
  exact ⟨e.le, e.ref, fun k bl h1 h2 h3 => e.at_ k bl h1 (f k bl h2 h3) h3, fun k k' bl bl' j j' h1 h2 h3 h4 h5 h6 => e.inj k k' bl bl' j j' h1 h2 (f _ _ h3 h5) (f _ _ h4 h6) h5 h6⟩
theorem Base.more {p i : Nat} {L : Nat → Prop} (b : Base kd L p) (hk : kd i ≠ .write) : Base kd (More L i) p :=
  ⟨b.1.imp id fun ⟨q, h1, h2, h3⟩ => ⟨q, h1, h2, .inr h3⟩, fun k h1 h2 => h2.elim (fun e => by rw [e]; exact hk) (b.2 k h1)⟩

/-- What holds when L is listed. -/
structure Inv (C : Ctx) (sz : Nat) (ops : Array Oper) (S : Nat → Dr) (kd : Nat → Kd) (pr : Pr) (nf : Nat) (ds : List ADef) (σ₀ : Sig) (L : Nat → Prop) (σ : Sig) (a : Act) (w : World) : Prop where
  down : Closed ops L
  slots : Slots sz ops S L σ a.tmps
  ds : DsRel σ ds a.defers
  ext : Ext σ₀ σ (S 0).nx (S ops.size).nx
  fresh : ∀ i, i < ops.size → ¬ L i → Fresh σ (S i).nx (S (i + 1)).nx
  late : Fresh σ (S ops.size).nx nf
  core : ∃ p pr', p ≤ ops.size ∧ Base kd L p ∧ Early pr S kd L p pr' σ w ∧ R pr' σ (S p).hp w

variable {nf : Nat} {ds : List ADef} {σ₀ : Sig} {L : Nat → Prop} {a : Act}
theorem Inv.step (hc : CallsOk C cl) (T : Tr C cl sz ops B S kd V) (O : Ord C.P ops B) (I : Inv C sz ops S kd pr nf ds σ₀ L σ a w) {i : Nat} {o : Oper} (hi : ops[i]? = some o) (hn : ¬ L i) (hu : Upon L o)
    {τ : Sig} {x : Value} {w' : World} (e : Ext σ τ (S i).nx (S (i + 1)).nx) (hx : VRel τ (V i) x)
    (core : ∃ p pr', p ≤ ops.size ∧ Base kd (More L i) p ∧ Early pr S kd (More L i) p pr' τ w' ∧ R pr' τ (S p).hp w') : Inv C sz ops S kd pr nf ds σ₀ (More L i) τ (a.put o.dst x) w' := by
  have hlt : i < ops.size := (Array.getElem?_eq_some_iff.1 hi).1
  have n1 := T.nx_le hc (i := 0) (j := i) (by omega) (by omega)
  have n2 := T.nx_le hc (i := i + 1) (j := ops.size) (by omega) (by omega)
  refine ⟨fun k ok hk hok ed he hb => ?_, I.slots.put T O e.le hi hn hx, by rw [put_defers]; exact I.ds.mono e.le, ⟨Sig.trans I.ext.le e.le, I.ext.nx, fun id hid => ?_⟩, fun k hk hnk id h1 h2 => ?_, fun id h1 h2 => ?_, core⟩
  · rcases hk with rfl | hk
    · rw [hi] at hok; cases hok; exact .inr (hu ed he hb)
    · exact .inr (I.down k ok hk hok ed he hb)
  · have := e.nx
    rw [e.out id (by omega), I.ext.out id hid]
  · have hne : k ≠ i := fun e => hnk (.inl e)
    have hf := I.fresh k hk (fun h => hnk (.inr h)) id h1 h2
    rw [e.out id ?_]
    · exact hf
    · rcases Nat.lt_or_gt_of_ne hne with h | h
      · have := T.nx_le hc (i := k + 1) (j := i) (by omega) (by omega)
        exact .inl (by omega)
      · have := T.nx_le hc (i := i + 1) (j := k) (by omega) (by omega)
        exact .inr (by omega)
  · rw [e.out id (.inr (by omega))]; exact I.late id h1 h2
theorem tied_cls {ok oi : Oper} (h1 : 2 ≤ cls P ok.op) (h2 : 3 ≤ cls P oi.op) : tied P ops ok oi = true := by
  have e1 : Nat.ble 3 (cls P oi.op) = true := Nat.ble_eq_true_of_le h2
  have e2 : Nat.ble 2 (cls P ok.op) = true := Nat.ble_eq_true_of_le h1
  simp [tied, e1, e2]
theorem Tr.write_cls (T : Tr C cl sz ops B S kd V) {q : Nat} {o : Oper} (ho : ops[q]? = some o) (hk : kd q = .write) : 3 ≤ cls C.P o.op := by
  have hd := T.step q o ho
  rw [hk] at hd
  generalize S (q + 1) = t at hd
  generalize V q = v at hd
  cases hd with
  | write v fr hp1 nx1 h hcl => exact hcl
theorem Tr.alloc_cls (T : Tr C cl sz ops B S kd V) {q : Nat} {o : Oper} {bl : Blk} (ho : ops[q]? = some o) (hk : kd q = .alloc bl) : 2 ≤ cls C.P o.op := by
  have hd := T.step q o ho
  rw [hk] at hd
  generalize S (q + 1) = t at hd
  generalize V q = v at hd
  cases hd with
  | alloc _ mk fr h hcl => exact hcl
/-- What makes or writes, not yet listed, stands behind the last writer. -/
theorem Base.le (T : Tr C cl sz ops B S kd V) (O : Ord C.P ops B) (hL : Closed ops L) {p i : Nat} {o : Oper} (b : Base kd L p) (hpn : p ≤ ops.size) (hi : ops[i]? = some o) (hn : ¬ L i) (hcl : 2 ≤ cls C.P o.op) : p ≤ i := by
  rcases b.1 with rfl | ⟨q, rfl, h2, h3⟩
  · omega
  · rcases Nat.lt_trichotomy q i with h | h | h
    · exact h
    · subst h; exact absurd h3 hn
    · have ho : ops[q]? = some ops[q] := Array.getElem?_eq_getElem (by omega)
      exact absurd (O.bits q _ ho L hL (hL q _ h3 ho) i ((O.pair i q _ _ h hi ho).2 (tied_cls hcl (T.write_cls ho h2)))) hn
theorem op_ok (hP : POk C.P) (hX : ExtOk C) (hc : CallsOk C cl) (hg : GlOk C pr) (h0 : Begun (S 0)) (T : Tr C cl sz ops B S kd V) (O : Ord C.P ops B) (I : Inv C sz ops S kd pr nf ds σ₀ L σ a w)
    {i : Nat} {o : Oper} (hi : ops[i]? = some o) (hn : ¬ L i) (hu : Upon L o) {Q : Exit → Act → World → Prop} {K : Act → World → Prop} (hK : ∀ τ a' w', Inv C sz ops S kd pr nf ds σ₀ (More L i) τ a' w' → K a' w') :
    wpOpIn (FF ro) 0 C.P ops Q i K a w := by
  have hlt : i < ops.size := (Array.getElem?_eq_some_iff.1 hi).1
  have slot : ∀ t, looks ops o t = true → ∀ v, (S i).fr.get t = some v → ∃ y, a.tmps[t]? = some y ∧ VRel σ v y := fun t ht => slot_ok T O I.down I.slots hi hn hu ht
  have hops : ∀ x ∈ o.op.operands, VRel σ (opd (S i).fr x) (a.eval x) := fun x hx => opd_slot x fun t ht => slot t (looks_of_mem (ht ▸ hx))
  have hd := T.step i o hi
  have hnx : kd i = .still → Ext σ σ (S i).nx (S (i + 1)).nx := fun hk => by
    rw [hk] at hd
    generalize hS : S (i + 1) = t at hd
    generalize V i = v at hd
    cases hd <;> exact Ext.refl _ _
  have still : kd i = .still → ∃ p pr', p ≤ ops.size ∧ Base kd (More L i) p ∧ Early pr S kd (More L i) p pr' σ w ∧ R pr' σ (S p).hp w := fun hk => by
    obtain ⟨p, pr', h1, h2, h3, h4⟩ := I.core
    exact ⟨p, pr', h1, h2.more (by rw [hk]; intro h; cases h), h3.more hk, h4⟩
  unfold wpOpIn
  simp only [hi]
  generalize hS : S (i + 1) = t at hd
  generalize hV : V i = v at hd
  generalize hk : kd i = k at hd
  cases hd with
  | skip fr h hp =>
    rw [wanted_slot h slot, if_neg (by simp)]
    exact ⟨fun _ _ => trivial, hK _ _ _ (I.step hc T O hi hn hu (hnx hk) (by rw [hV]; exact .tup .nil) (still hk))⟩
  | pure v fr h hv hp =>
    rw [wanted_slot h slot, if_pos rfl]
    refine ⟨fun _ _ => trivial, ?_⟩
    obtain ⟨v', e1, e2⟩ := pure_sound (w := w) hv hops
    rw [Oper.semAt_eq _ _ _ (fun c hcc => by rw [hcc] at hv; simp [pureA] at hv), e1, Oper.uponIn_value]
    exact hK _ _ _ (I.step hc T O hi hn hu (hnx hk) (by rw [hV]; exact e2) (still hk))
  | read v fr h hc0 hv hb hp =>
    rw [wanted_slot h slot, if_pos rfl]
    refine ⟨fun _ _ => trivial, ?_⟩
    obtain ⟨p, pr', h1, h2, h3, h4⟩ := I.core
    have hbase : p = 0 ∨ ∃ q, p = q + 1 ∧ kd q = .write := h2.1.imp id fun ⟨q, g1, g2, _⟩ => ⟨q, g1, g2⟩
    have hread : ∃ hp0 pr0, readA C o.op (opd (S i).fr) hp0 = some v ∧ R pr0 σ hp0 w ∧ GlOk C pr0 := by
      rcases Nat.lt_or_ge i p with hip | hip
      · refine ⟨_, _, ?_, h4, hg.more h3.le⟩
        rcases h2.1 with rfl | ⟨q, rfl, g2, g3⟩
        · omega
        · have hiq : i ≠ q := fun e => hn (e ▸ g3)
          have ho : ops[q]? = some ops[q] := Array.getElem?_eq_getElem (by omega)
          have hdq := T.step q _ ho
          rw [g2] at hdq
          have hm : (i, o.op, (S i).fr, v) ∈ (S q).rl := T.rl_mem (i := i + 1) (by rw [hS]; exact List.mem_cons_self ..) (by omega) (by omega)
          generalize S (q + 1) = t at hdq
          generalize V q = v' at hdq
          cases hdq with
          | write v' fr' hp1 nx1 g4 g5 g6 g7 g8 =>
            refine (readOn_mem g7 _ _ _ _ hm).resolve_left fun hbit => hn (O.bits q _ ho L I.down (I.down q _ g3 ho) i hbit)
      · have hb1 := T.back hip (by omega) (fun q g1 g2 g3 => by
          cases hbit : Nat.testBit (B i) q with
          | false => rfl
          | true => exact absurd g3 (h2.2 q g1 (O.bits i o hi L I.down hu q hbit))) hv hb
        rcases hb1 with hb1 | hb1
        · refine ⟨_, _, ?_, h4, hg.more h3.le⟩
          rw [← T.base_hb h0.1 hbase h1]
          exact hb1
        · rw [T.base_wl h0.2.1 hbase h1] at hb1
          obtain ⟨k, id, bl, g1, g2, g3, g4⟩ := readOwn_mem hb1
          obtain ⟨g5, g6, g7⟩ := T.al_mem h0.2.2 (by omega) g1
          have hLk := O.bits i o hi L I.down hu k g3
          obtain ⟨j, o', q1, q2, q3, q4⟩ := h3.at_ k bl g2 hLk g5
          rw [g6] at q1
          refine ⟨_, pr, g4, ⟨fun x c hx => ?_, fun x x' c c' i1 i2 hx hx' _ _ _ => ?_, fun x c hx => h4.prot _ _ (h3.le _ _ hx), fun x c i1 hx hi1 => ?_, h4.same.1.trans h3.ref.1, h4.same.2.trans h3.ref.2⟩, hg⟩
          · rw [_root_.Go.Proofs.YtnlieipdeepemaaGreatDoor.AX.T.get_set] at hx
            split at hx
            · rename_i e; subst e; cases hx; exact ⟨j, q1, q4⟩
            · simp [_root_.Go.Proofs.YtnlieipdeepemaaGreatDoor.AX.T.get_leaf] at hx
          · rw [_root_.Go.Proofs.YtnlieipdeepemaaGreatDoor.AX.T.get_set] at hx hx'
            split at hx
            · rename_i e1
              split at hx'
              · rename_i e2; rw [e1, e2]
              · simp [_root_.Go.Proofs.YtnlieipdeepemaaGreatDoor.AX.T.get_leaf] at hx'
            · simp [_root_.Go.Proofs.YtnlieipdeepemaaGreatDoor.AX.T.get_leaf] at hx
          · rw [_root_.Go.Proofs.YtnlieipdeepemaaGreatDoor.AX.T.get_set] at hx
            split at hx
            · rename_i e; subst e; rw [q1] at hi1; cases hi1; exact q3
            · simp [_root_.Go.Proofs.YtnlieipdeepemaaGreatDoor.AX.T.get_leaf] at hx
    obtain ⟨hp0, pr0, hread, hR, hG⟩ := hread
    obtain ⟨v', e1, e2⟩ := readA_sound (w := w) hread hops hR hG
    rw [Oper.semAt_eq _ _ _ (fun c hcc => by obtain ⟨h', hv'⟩ := hc0; rw [hcc] at hv'; simp [readA] at hv'), e1, Oper.uponIn_value]
    exact hK _ _ _ (I.step hc T O hi hn hu (hnx hk) (by rw [hV]; exact e2) (still hk))
  | alloc bl mk fr h hcl hv hp =>
    rw [wanted_slot h slot, if_pos rfl]
    refine ⟨fun _ _ => trivial, ?_⟩
    obtain ⟨p, pr', h1, h2, h3, h4⟩ := I.core
    have hpi := h2.le T O I.down h1 hi hn hcl
    obtain ⟨v', w', ob, room, e1, e2, es, e3⟩ := alloc_sound (w := w) hv hops
    have hnx' : (S (i + 1)).nx = (S i).nx + 1 := by rw [hS]
    have hfr : σ (S i).nx = none := I.fresh i hlt hn _ (Nat.le_refl _) (by omega)
    have hext := Ext.one (σ := σ) (n := (S i).nx) ⟨w.heap.size, 0, room⟩ hfr
    obtain ⟨g1, g2⟩ := e3 _ hext.le
    rw [Oper.semAt_eq _ _ _ (fun c hcc => by rw [hcc] at hv; simp [allocA] at hv), e1, Oper.uponIn_value]
    have hold : ∀ k o', pr' k = some o' → k < w.heap.size := fun k o' hk' => (Array.getElem?_eq_some_iff.1 (h4.prot k o' hk')).1
    have hnone : pr' w.heap.size = none := by
      cases hh : pr' w.heap.size with
      | none => rfl
      | some o' => have := hold _ _ hh; omega
    have hnone0 : pr w.heap.size = none := by
      cases hh : pr w.heap.size with
      | none => rfl
      | some o' => rw [h3.le _ _ hh] at hnone; cases hnone
    have hpush : ∀ k, k < w.heap.size → w'.heap[k]? = w.heap[k]? := fun k hk' => by
      rw [e2, Array.getElem?_push_lt hk', Array.getElem?_eq_getElem hk']
    have hat : ∀ k bl', p ≤ k → L k → kd k = .alloc bl' → (S k).nx ≠ (S i).nx := fun k bl' m1 m2 m3 m4 => by
      obtain ⟨j, _, m5, _⟩ := h3.at_ k bl' m1 m2 m3
      rw [m4, hfr] at m5; cases m5
    refine hK _ _ _ (I.step hc T O hi hn hu (by rw [hnx']; exact hext) (by rw [hV]; exact g2 _ (Sig.put_same _ _ _)) ⟨p, { pr' with old := fun k => if k = w.heap.size then some ob else pr' k }, h1, h2.more (by rw [hk]; intro h; cases h), ?_, ?_⟩)
    · refine ⟨fun k o' hk' => ?_, h3.ref, fun k bl' m1 m2 m3 => ?_, fun k k' b b' j j' m1 m2 m3 m4 m5 m6 m7 m8 m9 => ?_⟩
      · have : k ≠ w.heap.size := fun e => by rw [e, hnone0] at hk'; cases hk'
        show (if k = w.heap.size then some ob else pr' k) = some o'
        rw [if_neg this]; exact h3.le _ _ hk'
      · rcases m2 with rfl | m2
        · rw [hk] at m3
          cases m3
          exact ⟨_, ob, Sig.put_same _ _ _, if_pos rfl, hnone0, by rw [e2]; exact g1⟩
        · obtain ⟨j, o', q1, q2, q3, q4⟩ := h3.at_ k bl' m1 m2 m3
          have hj := hold _ _ q2
          refine ⟨j, o', hext.le _ _ q1, ?_, q3, (q4.mono hext.le).heap (hpush _ hj)⟩
          show (if j.blk = w.heap.size then some ob else pr' j.blk) = some o'
          rw [if_neg (by omega)]; exact q2
      · rcases m3 with rfl | m3 <;> rcases m4 with rfl | m4
        · rfl
        · obtain ⟨j2, o', q1, q2, q3, q4⟩ := h3.at_ k' b' m2 m4 m6
          have hj := hold _ _ q2
          rw [hext.le _ _ q1] at m8
          cases m8
          rw [Sig.put_same] at m7
          cases m7
          simp only at m9
          omega
        · obtain ⟨j2, o', q1, q2, q3, q4⟩ := h3.at_ k b m1 m3 m5
          have hj := hold _ _ q2
          rw [hext.le _ _ q1] at m7
          cases m7
          rw [Sig.put_same] at m8
          cases m8
          simp only at m9
          omega
        · obtain ⟨j1, _, q1, _⟩ := h3.at_ k b m1 m3 m5
          obtain ⟨j2, _, q2, _⟩ := h3.at_ k' b' m2 m4 m6
          rw [hext.le _ _ q1] at m7
          rw [hext.le _ _ q2] at m8
          cases m7
          cases m8
          exact h3.inj k k' b b' _ _ m1 m2 m3 m4 m5 m6 q1 q2 m9
    · have hlive : ∀ id b, (S p).hp.get id = some b → ∃ j, σ id = some j ∧ BlkRel σ b j w.heap := h4.blk
      have hsame : ∀ id b, (S p).hp.get id = some b → (σ.put (S i).nx ⟨w.heap.size, 0, room⟩) id = σ id := fun id b hb => by
        obtain ⟨j, q1, _⟩ := hlive id b hb
        refine Sig.put_other _ _ fun e => ?_
        rw [e, hfr] at q1; cases q1
      refine ⟨fun id b hb => ?_, fun id id' b b' j j' m1 m2 m3 m4 m5 => ?_, fun k o' hk' => ?_, fun id b j m1 m2 => ?_, h4.out es⟩
      · obtain ⟨j, q1, q2⟩ := hlive id b hb
        exact ⟨j, hext.le _ _ q1, (q2.mono hext.le).heap (hpush _ q2.lt)⟩
      · rw [hsame _ _ m1] at m3
        rw [hsame _ _ m2] at m4
        exact h4.inj _ _ _ _ _ _ m1 m2 m3 m4 m5
      · have hk' : (if k = w.heap.size then some ob else pr' k) = some o' := hk'
        split at hk'
        · rename_i e
          cases hk'
          rw [e2, e]
          simp
        · rw [hpush _ (hold _ _ hk')]; exact h4.prot _ _ hk'
      · rw [hsame _ _ m1] at m2
        obtain ⟨j', q1, q2⟩ := hlive id b m1
        rw [m2] at q1
        cases q1
        have := q2.lt
        show (if j.blk = w.heap.size then some ob else pr' j.blk) = none
        rw [if_neg (by omega)]
        exact h4.free _ _ _ m1 m2
  | write v fr hp1 nx1 h hcl hv hr hp =>
    rw [wanted_slot h slot, if_pos rfl]
    refine ⟨fun _ _ => trivial, ?_⟩
    obtain ⟨p, pr', h1, h2, h3, h4⟩ := I.core
    have hpi := h2.le T O I.down h1 hi hn (by omega)
    have hmid : ∀ k, p ≤ k → k < p + (i - p) → kd k ≠ .write ∧ ∀ bl, kd k = .alloc bl → L k := fun k g1 g2 => by
      have ho : ops[k]? = some ops[k] := Array.getElem?_eq_getElem (by omega)
      have hbit : 2 ≤ cls C.P ops[k].op → L k := fun g3 => O.bits i o hi L I.down hu k ((O.pair k i _ _ (by omega) ho hi).2 (tied_cls g3 hcl))
      exact ⟨fun g3 => h2.2 k g1 (hbit (by have := T.write_cls ho g3; omega)) g3, fun bl g3 => hbit (T.alloc_cls ho g3)⟩
    obtain ⟨pr1, h5, h6⟩ := Early.advs T (i - p) (by omega) h3 h4 hmid
    rw [show p + (i - p) = i from by omega] at h5 h6
    have hnx' : (S (i + 1)).nx = nx1 := by rw [hS]
    have hhp' : (S (i + 1)).hp = hp1 := by rw [hS]
    refine wA_sound hP hX hc (hg.more h5.le) hv hops h6 (by rw [← hnx']; exact I.fresh i hlt hn) fun v' w' τ e1 e2 e3 => ?_
    refine hK _ _ _ (I.step hc T O hi hn hu (by rw [hnx']; exact e2) (by rw [hV]; exact e1) ⟨i + 1, pr1, hlt, ⟨.inr ⟨i, rfl, hk, .inl rfl⟩, fun k g1 g2 => ?_⟩, ?_, by rw [hhp']; exact e3⟩)
    · rcases g2 with rfl | g2
      · omega
      · exact h2.2 k (by omega) g2
    · have f : ∀ k, i + 1 ≤ k → More L i k → L k := fun k g1 g2 => g2.resolve_left (by omega)
      refine ⟨h5.le, h5.ref, fun k bl m1 m2 m3 => ?_, fun k k' b b' j j' m1 m2 m3 m4 m5 m6 m7 m8 => ?_⟩
      · obtain ⟨j, o', q1, q2, q3, q4⟩ := h5.at_ k bl (by omega) (f k m1 m2) m3
        refine ⟨j, o', e2.le _ _ q1, q2, q3, (q4.mono e2.le).heap ?_⟩
        rw [h6.prot _ _ q2, e3.prot _ _ q2]
      · obtain ⟨j1, _, q1, _⟩ := h5.at_ k b (by omega) (f _ m1 m3) m5
        obtain ⟨j2, _, q2, _⟩ := h5.at_ k' b' (by omega) (f _ m2 m4) m6
        rw [e2.le _ _ q1] at m7
        rw [e2.le _ _ q2] at m8
        cases m7
        cases m8
        exact h5.inj k k' b b' _ _ (by omega) (by omega) (f _ m1 m3) (f _ m2 m4) m5 m6 q1 q2
theorem Inv.all (T : Tr C cl sz ops B S kd V) (I : Inv C sz ops S kd pr nf ds σ₀ L σ a w) (O : Ord C.P ops B) (hall : ∀ i, i < ops.size → L i) : St pr σ sz nf (S ops.size).fr ds (S ops.size).hp (S ops.size).nx a w := by
  refine ⟨⟨I.slots.size, fun t v hv => ?_⟩, I.ds, ?_, I.late⟩
  · by_cases h : ∃ (i : Nat) (o : Oper), ops[i]? = some o ∧ o.dst = some t
    · obtain ⟨i, o, hi, hd⟩ := h
      have hlt : i < ops.size := (Array.getElem?_eq_some_iff.1 hi).1
      refine I.slots.new i o t (hall i hlt) hi hd v ?_
      rw [← hv]
      exact (T.fr_stay (by omega) (Nat.le_refl _) fun k o' g1 g2 g3 g4 => by have := O.dst_inj hi g3 hd g4; omega).symm
    · refine I.slots.old t (fun i o _ hi hd => h ⟨i, o, hi, hd⟩) v ?_
      rw [← hv]
      exact (T.fr_stay (by omega) (Nat.le_refl _) fun k o' g1 g2 g3 g4 => h ⟨k, o', g3, g4⟩).symm
  · obtain ⟨p, pr', h1, h2, h3, h4⟩ := I.core
    obtain ⟨pr1, h5, h6⟩ := Early.advs T (ops.size - p) (by omega) h3 h4 (fun k g1 g2 => ⟨h2.2 k g1 (hall k (by omega)), fun _ _ => hall k (by omega)⟩)
    rw [show p + (ops.size - p) = ops.size from by omega] at h5 h6
    exact h6.weak h5.le h5.ref
def Lof (listed : Array Bool) : Nat → Prop := fun i => listed.getD i false = true
theorem Lof_set {listed : Array Bool} {i : Nat} (hi : i < listed.size) : Lof (listed.setIfInBounds i true) = More (Lof listed) i := by
  funext k
  apply propext
  unfold Lof More
  by_cases h : k = i
  · subst h; simp [hi]
  · rw [getD_set_ne false (Ne.symm h)]; simp [h]
theorem any_ok (hP : POk C.P) (hX : ExtOk C) (hc : CallsOk C cl) (hg : GlOk C pr) (h0 : Begun (S 0)) (T : Tr C cl sz ops B S kd V) (O : Ord C.P ops B) {Q : Exit → Act → World → Prop}
    (hn : ∀ σ' a' w', Ext σ₀ σ' (S 0).nx (S ops.size).nx → St pr σ' sz nf (S ops.size).fr ds (S ops.size).hp (S ops.size).nx a' w' → Q .normal a' w') :
    ∀ (fuel : Nat) (listed : Array Bool) (σ : Sig) (a : Act) (w : World), listed.size = ops.size → listed.toList.count false ≤ fuel → Inv C sz ops S kd pr nf ds σ₀ (Lof listed) σ a w →
      wpAnyIn (FF ro) 0 C.P .any ops Q fuel listed a w := by
  intro fuel
  have stuck : ∀ (listed : Array Bool) (L' : Nat → Prop), L' = Lof listed → listed.size = ops.size → Region.ready .any ops listed = [] → ∀ i, i < ops.size → L' i := by
    intro listed L' hL' hsz hr i
    induction i using Nat.strongRecOn with
    | ind i ih =>
      intro hi
      by_cases hl : L' i
      · exact hl
      · have ho : ops[i]? = some ops[i] := Array.getElem?_eq_getElem hi
        have : i ∈ Region.ready .any ops listed := by
          rw [mem_ready]
          refine ⟨?_, _, ho, fun e he hb => ?_⟩
          · rw [hL'] at hl
            unfold Lof at hl
            simp only [Array.getD_eq_getD_getElem?, Array.getElem?_eq_getElem (hsz ▸ hi : i < listed.size), Option.getD_some] at hl ⊢
            simpa using hl
          · have h1 := O.edges i _ ho e he hb
            have := ih e.on h1 (by omega)
            rw [hL'] at this
            exact this
        rw [hr] at this
        cases this
  have fin : ∀ (listed : Array Bool) (σ : Sig) (a : Act) (w : World), listed.size = ops.size → Inv C sz ops S kd pr nf ds σ₀ (Lof listed) σ a w → Region.ready .any ops listed = [] → Q .normal a w :=
    fun listed σ a w hsz I hr => hn σ a w I.ext (I.all T O (stuck listed _ rfl hsz hr))
  induction fuel with
  | zero =>
    intro listed σ a w hsz hcnt I
    have hr : Region.ready .any ops listed = [] := by
      cases hr : Region.ready .any ops listed with
      | nil => rfl
      | cons i l =>
        have hm : i ∈ Region.ready .any ops listed := by rw [hr]; exact List.mem_cons_self ..
        rw [mem_ready] at hm
        obtain ⟨h1, o, ho, _⟩ := hm
        have hlt : i < listed.size := by rw [hsz]; exact (Array.getElem?_eq_some_iff.1 ho).1
        have : false ∈ listed.toList := by
          simp only [Array.getD_eq_getD_getElem?, Array.getElem?_eq_getElem hlt, Option.getD_some] at h1
          rw [← h1]
          exact Array.getElem_mem_toList hlt
        have := List.count_pos_iff.2 this
        omega
    exact ⟨hr, fin listed σ a w hsz I hr⟩
  | succ fuel ih =>
    intro listed σ a w hsz hcnt I
    refine ⟨fin listed σ a w hsz I, fun i hi => ?_⟩
    rw [mem_ready] at hi
    obtain ⟨h1, o, ho, h2⟩ := hi
    have hlt : i < listed.size := by rw [hsz]; exact (Array.getElem?_eq_some_iff.1 ho).1
    have hf : listed[i] = false := by simpa only [Array.getD_eq_getD_getElem?, Array.getElem?_eq_getElem hlt, Option.getD_some] using h1
    have hnl : ¬ Lof listed i := by
      unfold Lof
      simp only [Array.getD_eq_getD_getElem?, Array.getElem?_eq_getElem hlt, Option.getD_some, hf]
      simp
    refine op_ok hP hX hc hg h0 T O I ho hnl h2 fun τ a' w' I' => ?_
    refine ih _ τ a' w' (by simpa using hsz) ?_ (by rw [Lof_set hlt]; exact I')
    have h3 : (listed.setIfInBounds i true).toList = listed.toList.set i true := by simp
    rw [h3, List.count_set (by simpa using hlt)]
    have h4 : listed.toList[i]'(by simpa using hlt) = false := by simpa using hf
    rw [h4]
    simp only [beq_self_eq_true, if_true]
    have h5 : ((true : Bool) == false) = false := rfl
    rw [h5]
    simp only [Bool.false_eq_true, if_false, Nat.add_zero]
    omega
end
section
variable {vf : AV} {hf : Hp} {nf : Nat}
theorem draw_any (hP : POk C.P) (hX : ExtOk C) (hc : CallsOk C cl) (hg : GlOk C pr) {sz : Nat} {ops : Array Oper} {m : T Nat} {fr : Fr} {ds : List ADef} {nx : Nat} {a : Act} {s' : Dr}
    (hb : drawBefs C.P ops = some m) (h : drawOps C cl sz ops m ops.toList 0 ⟨fr, hp, hp, nx, [], [], []⟩ = .ok s') (hle : s'.nx ≤ nf)
    (s : St pr σ sz nf fr ds hp nx a w) {Q : Exit → Act → World → Prop}
    (hn : ∀ σ' a' w', Ext σ σ' nx s'.nx → St pr σ' sz nf s'.fr ds s'.hp s'.nx a' w' → Q .normal a' w') :
    wpAnyIn (FF ro) 0 C.P .any ops Q ops.size (Array.replicate ops.size false) a { w with drawn := w.drawn + 1 } := by
  obtain ⟨f, f1, f2, f3⟩ := drawOps_tr _ _ _ _ h
  simp only [Nat.zero_add, Array.length_toList, Array.getElem?_toList] at f2 f3
  let S : Nat → Dr := fun i => (f i).1
  have T : Tr C cl sz ops (fun i => (f i).2.2.2) S (fun i => (f i).2.1) (fun i => (f i).2.2.1) := ⟨fun i o ho => (f3 i o ho).2⟩
  have O : Ord C.P ops (fun i => (f i).2.2.2) := drawBefs_ord hb fun i o ho => (f3 i o ho).1
  have hS0 : S 0 = ⟨fr, hp, hp, nx, [], [], []⟩ := f1
  have hSn : S ops.size = s' := f2
  have hnn := T.nx_le hc (i := 0) (j := ops.size) (by omega) (Nat.le_refl _)
  have hL : ∀ i, ¬ Lof (Array.replicate ops.size false) i := fun i h => by
    unfold Lof at h
    by_cases hi : i < ops.size
    · simp [hi] at h
    · simp [hi] at h
  refine (any_ok (S := S) (σ₀ := σ) (ds := ds) (nf := nf) hP hX hc hg (by rw [hS0]; exact ⟨rfl, rfl, rfl⟩) T O ?_ _ _ σ a { w with drawn := w.drawn + 1 } (by simp) ?_ ?_)
  · intro σ' a' w' h1 h2
    rw [hS0, hSn] at h1
    rw [hSn] at h2
    exact hn σ' a' w' h1 h2
  · simp
  · refine ⟨fun i o hi => absurd hi (hL i), ⟨s.fr.1, fun i o t hi => absurd hi (hL i), fun t _ v hv => ?_⟩, s.ds, ⟨Sig.refl _, hnn, fun _ _ => rfl⟩, fun i hi _ id h1 h2 => ?_, fun id h1 h2 => ?_, 0, pr, by omega, ⟨.inl rfl, fun i _ hi => absurd hi (hL i)⟩, ?_, ?_⟩
    · rw [hS0] at hv
      exact s.fr.2 t v hv
    · have n1 := T.nx_le hc (i := 0) (j := i) (by omega) (by omega)
      have n2 := T.nx_le hc (i := i + 1) (j := ops.size) (by omega) (by omega)
      rw [hS0] at n1
      rw [hSn] at n2
      exact s.fresh id (by simp only at n1; omega) (by omega)
    · rw [hS0, hSn] at hnn
      rw [hSn] at h1
      exact s.fresh id (by simp only at hnn; omega) h2
    · exact ⟨fun _ _ h => h, ⟨rfl, rfl⟩, fun i bl _ hi => absurd hi (hL i), fun i _ _ _ _ _ _ _ hi => absurd hi (hL i)⟩
    · rw [hS0]; exact s.r.of_heap rfl ⟨rfl, rfl⟩
end
end Go.Proofs.YtnlieipdeepemaaGreatDoor.AX
