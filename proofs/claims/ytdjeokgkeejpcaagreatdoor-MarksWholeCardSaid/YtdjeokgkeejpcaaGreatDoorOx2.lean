/- AX: slices.Sorted of maps.Keys, its answer known: keys that are ints. -/
import Derived.Test.YtdjeokgkeejpcaaGreatDoorOx1
import Derived.Shelf.SlIterI.Nil
namespace Go.Proofs.YtdjeokgkeejpcaaGreatDoor.AX
open Go Go.ChangeShapes Go.WideShapes Go.ChangeAt Go.RowKit
variable {P : Program} {σ : Sig} {w w' : World} {pr : Pr} {hp : Hp}

def insI (x : Int) : List Int → List Int
  | [] => [x]
  | y :: l => match leI x y with
    | true => x :: y :: l
    | false => y :: insI x l
def sortI : List Int → List Int
  | [] => []
  | x :: l => insI x (sortI l)
theorem insI_perm (x : Int) : ∀ l, (insI x l).Perm (x :: l)
  | [] => .refl _
  | y :: l => by
    unfold insI
    split
    · exact .refl _
    · exact ((insI_perm x l).cons y).trans (.swap ..)
theorem sortI_perm : ∀ l, (sortI l).Perm l
  | [] => .refl _
  | x :: l => (insI_perm x (sortI l)).trans ((sortI_perm l).cons x)
theorem insI_sorted (x : Int) : ∀ {l : List Int}, l.Pairwise (fun a b => Go.leI a b = true) → (insI x l).Pairwise fun a b => Go.leI a b = true
  | [], _ => by simp [insI]
  | y :: l, h => by
    have h1 := List.pairwise_cons.1 h
    unfold insI
    split
    · rename_i hxy
      rw [AX.leI_eq] at hxy
      have hxy : x ≤ y := by simpa using hxy
      refine List.pairwise_cons.2 ⟨fun a ha => ?_, h⟩
      rcases List.mem_cons.1 ha with rfl | ha
      · simpa [Go.leI] using hxy
      · have := h1.1 a ha
        simp only [Go.leI, decide_eq_true_eq] at this ⊢
        omega
    · rename_i hxy
      rw [AX.leI_eq] at hxy
      have hxy : ¬ x ≤ y := by simpa using hxy
      refine List.pairwise_cons.2 ⟨fun a ha => ?_, insI_sorted x h1.2⟩
      rcases List.mem_cons.1 ((insI_perm x l).mem_iff.1 ha) with rfl | ha
      · simp only [Go.leI, decide_eq_true_eq]; omega
      · exact h1.1 a ha
theorem sortI_sorted : ∀ l, (sortI l).Pairwise fun a b => Go.leI a b = true
  | [] => .nil
  | x :: l => insI_sorted x (sortI_sorted l)
theorem sortI_eq {l ss : List Int} (h : ss.Perm l) : ss.mergeSort (fun x y => decide (x ≤ y)) = sortI l := by
  have tr : ∀ a b c : Int, Go.leI a b = true → Go.leI b c = true → Go.leI a c = true := fun a b c h1 h2 => by simp only [Go.leI, decide_eq_true_eq] at *; exact Int.le_trans h1 h2
  have to : ∀ a b : Int, (Go.leI a b || Go.leI b a) = true := fun a b => by simp only [Go.leI, Bool.or_eq_true, decide_eq_true_eq]; exact Int.le_total a b
  refine List.Perm.eq_of_pairwise (le := fun a b => Go.leI a b = true) (fun a b _ _ h1 h2 => ?_) (List.pairwise_mergeSort tr to ss) (sortI_sorted l) (((List.mergeSort_perm ss Go.leI).trans h).trans (sortI_perm l).symm)
  simp only [Go.leI, decide_eq_true_eq] at h1 h2
  exact Int.le_antisymm h1 h2

def okI (n : Int) : Bool := leI (-9223372036854775808) n && leI n 9223372036854775807
def notIn (x : Int) : List Int → Bool
  | [] => true
  | y :: l => match eqI x y with
    | true => false
    | false => notIn x l
def nodupI : List Int → Bool
  | [] => true
  | x :: l => notIn x l && nodupI l
theorem notIn_sound {x : Int} : ∀ {l : List Int}, notIn x l = true → x ∉ l
  | [], _ => by simp
  | y :: l, h => by
    unfold notIn at h
    split at h
    · cases h
    · rename_i hxy
      rw [eqI_eq] at hxy
      have hxy : x ≠ y := by simpa using hxy
      simp only [List.mem_cons, not_or]
      exact ⟨hxy, notIn_sound h⟩
theorem nodupI_sound : ∀ {l : List Int}, nodupI l = true → l.Nodup
  | [], _ => .nil
  | x :: l, h => by
    simp only [nodupI, Bool.and_eq_true] at h
    exact List.nodup_cons.2 ⟨notIn_sound h.1, nodupI_sound h.2⟩
def notInN (x : Nat) : List Nat → Bool
  | [] => true
  | y :: l => match Nat.beq x y with
    | true => false
    | false => notInN x l
def nodupN : List Nat → Bool
  | [] => true
  | x :: l => notInN x l && nodupN l
theorem notInN_sound {x : Nat} : ∀ {l : List Nat}, notInN x l = true → x ∉ l
  | [], _ => by simp
  | y :: l, h => by
    unfold notInN at h
    split at h
    · cases h
    · rename_i hxy
      simp only [List.mem_cons, not_or]
      exact ⟨ne_of_beq hxy, notInN_sound h⟩
theorem nodupN_sound : ∀ {l : List Nat}, nodupN l = true → l.Nodup
  | [], _ => .nil
  | x :: l, h => by
    simp only [nodupN, Bool.and_eq_true] at h
    exact List.nodup_cons.2 ⟨notInN_sound h.1, nodupN_sound h.2⟩
def intKeysA : List (AV × AV) → Option (List Int)
  | [] => some []
  | e :: l => match numOf e.1, intKeysA l with
    | some k, some r => some (k :: r)
    | _, _ => none
theorem intKeysA_sound : ∀ {es : List (AV × AV)} {ks : List Int} {ms : List MapEntry}, intKeysA es = some ks → EntsRel σ es ms → ms.map (·.key) = ks.map (Value.int .i64)
  | [], ks, [], h, _ => by cases h; rfl
  | e :: es, ks, m :: ms, h, ⟨h1, h2, h3⟩ => by
    simp only [intKeysA] at h
    split at h
    · rename_i k r g1 g2
      cases h
      have := intKeysA_sound g2 h3
      unfold numOf at g1
      split at g1
      · rename_i n he
        cases g1
        rw [he] at h1
        simp [this, h1.int_inv]
      · cases g1
    · cases h
  | [], _, _ :: _, _, h => h.elim
  | _ :: _, _, [], _, h => h.elim
/-- slices.Sorted(maps.Keys(m)): 'lit' is the number of what maps.Keys hands back. -/
noncomputable def sortedA (lit : Nat) (args : List AV) (hp : Hp) (nx : Nat) : Option (AV × Hp × Nat) :=
  match args with
  | [.fn (.func g) [] [.ptr c 0]] => match Nat.beq g lit, hp.get c with
    | true, some (.cells cs n cl) => match Nat.ble 1 n && cl.is, cs.get 0 with
      | true, some (.map id) => match hp.get id with
        | some (.map es bs clk) => match intKeysA es with
          | some ks => match ks.all okI && nodupI ks && nodupN bs && bs.all (fun b => Nat.ble (Nat.succ b) clk) && Nat.ble ks.length 1000000 with
            | true => match ks with
              | [] => some (.nils, hp, nx)
              | _ :: _ => some (.opn nx 0 ks.length 1, hp.set nx (.cells (ofL ((sortI ks).map fun k => .int .i64 k)) ks.length .yes), Nat.succ nx)
            | false => none
          | none => none
        | _ => none
      | _, _ => none
    | _, _ => none
  | _ => none
theorem insert_perm {H : Type} (x : Lit × DataW H) : ∀ l, (DataW.insert x l).Perm (x :: l)
  | [] => .refl _
  | y :: r => by
    unfold DataW.insert
    split
    · exact .refl _
    · exact ((insert_perm x r).cons y).trans (.swap ..)
theorem foldr_insert_perm {H : Type} : ∀ l : List (Lit × DataW H), (l.foldr DataW.insert []).Perm l
  | [] => .refl _
  | x :: l => (insert_perm x _).trans ((foldr_insert_perm l).cons x)
/-- A map of int keys, in the kit's words. -/
theorem own_ints {k : TypeId} (hk : P.underlying k = some (.int .i64)) {b : Nat} {ms : Array MapEntry} {clk : Nat} {ks : List Int} (hb : w.heap[b]? = some (.map ms clk)) (hks : ms.toList.map (·.key) = ks.map (Value.int .i64)) (h1 : ∀ x ∈ ks, okI x = true) (h2 : ks.Nodup)
    (h3 : (ms.toList.map (·.born)).Nodup) (h4 : ∀ x ∈ ms.toList, x.born < clk) (h5 : ks.length ≤ 1000000) :
    ∃ D : DataW Unit, w.ownsMap P k (fun _ => some (.nil, [])) b ks.length D ∧ (intKeys D).Perm ks ∧ Maps.size D = ks.length := by
  have hlen : ms.size = ks.length := by have := congrArg List.length hks; simpa using this
  have hkey : ∀ x ∈ ms.toList, ∃ n ∈ ks, x.key = .int .i64 n := fun x hx => by
    have : x.key ∈ ms.toList.map (·.key) := List.mem_map_of_mem hx
    rw [hks, List.mem_map] at this
    obtain ⟨n, hn, e⟩ := this
    exact ⟨n, hn, e.symm⟩
  have hwf : ∀ n ∈ ks, (Lit.int .i64 n).wf = true := fun n hn => by
    have := h1 n hn
    simp only [okI, Bool.and_eq_true, AX.leI_eq, decide_eq_true_eq] at this
    simp [Lit.wf, IntKind.min, IntKind.max, IntKind.signed, IntKind.bits]
    omega
  have hrd : ∀ x ∈ ms.toList, ∀ n, x.key = .int .i64 n → WideElems.rd (H := Unit) P k (fun _ => some (.nil, [])) x = some (.int .i64 n, .nil) := fun x hx n hn => by
    obtain ⟨n', hn', e⟩ := hkey x hx
    rw [hn] at e
    cases e
    simp [WideElems.rd, keyOf, hk, mapKey, hn, hwf n hn']
  have hrg : ms.toList.map (WideElems.rg (H := Unit) P k (fun _ => some (.nil, []))) = ks.map fun n => (Lit.int .i64 n, DataW.nil) := by
    have : ∀ (l : List MapEntry) (zs : List Int), (∀ x ∈ l, x ∈ ms.toList) → l.map (·.key) = zs.map (Value.int .i64) → l.map (WideElems.rg (H := Unit) P k (fun _ => some (.nil, []))) = zs.map fun n => (Lit.int .i64 n, DataW.nil) := by
      intro l
      induction l with
      | nil => intro zs _ h; cases zs with
        | nil => rfl
        | cons _ _ => cases h
      | cons x l ih => intro zs hm h; cases zs with
        | nil => cases h
        | cons z zs =>
          simp only [List.map_cons, List.cons.injEq] at h ⊢
          exact ⟨WideElems.rg_of (hrd x (hm x (by simp)) z h.1), ih zs (fun y hy => hm y (by simp [hy])) h.2⟩
    exact this _ _ (fun _ h => h) hks
  refine ⟨_, ⟨ms, clk, hb, ⟨by unfold maxLen; omega, ⟨h4, h3, ?_⟩, fun x hx => ?_⟩, by omega, rfl⟩, ?_, ?_⟩
  · rw [hks]
    exact List.pairwise_map.2 (h2.imp fun hne e => hne (by simpa using e))
  · obtain ⟨n, _, e⟩ := hkey x hx
    exact ⟨_, hrd x hx n e⟩
  · rw [hrg]
    have := (foldr_insert_perm (ks.map fun n => (Lit.int .i64 n, (DataW.nil : DataW Unit)))).map fun p => intOf p.1
    refine this.trans ?_
    rw [List.map_map]
    have : ((fun p : Lit × DataW Unit => intOf p.1) ∘ fun n => (Lit.int .i64 n, DataW.nil)) = (id : Int → Int) := rfl
    rw [this, List.map_id]
  · rw [hrg]
    have := (foldr_insert_perm (ks.map fun n => (Lit.int .i64 n, (DataW.nil : DataW Unit)))).length_eq
    simpa [Maps.size] using this
theorem sortedA_good {C : Ctx} {f lit : FuncId} {k e : TypeId} (hk : C.P.underlying k = some (.int .i64)) (hb : ∃ (fn : Func) (c : Code), C.P.funcs[f]? = some fn ∧ fn.body = some c)
    (h1 : ∀ (Bm b nn : Nat) (D : DataW Unit) (w : World), Bm < w.heap.size → w.cell? ⟨Bm, 0, none⟩ = some (.map (some b)) → w.ownsMap C.P k (fun _ => some (.nil, [])) b nn D → Maps.size D ≤ 1000000 →
      Calls C.P f #[.func (.func lit) #[] #[.pointer (some ⟨Bm, 0, none⟩)]] w fun ed w' => ∃ (v : Value) (ss : List Int), ed = .returned v ∧ ss.Perm (intKeys D) ∧
        w'.ownsRow w.heap.size e 1 v ss.length ((ss.mergeSort (fun x y => decide (x ≤ y))).map encZ) ∧ (v = .slice none 0 0 ↔ ss = []) ∧ Below w.heap.size w w') :
    OrcGood C f (sortedA lit) := by
  refine ⟨hb, fun args hp nx v hp' nx' ho => ?_⟩
  unfold sortedA at ho
  split at ho
  · rename_i g c
    split at ho
    · rename_i cs n cl hg hc
      have hg := Nat.eq_of_beq_eq_true hg
      subst hg
      split at ho
      · rename_i id hn hm
        simp only [Bool.and_eq_true] at hn
        obtain ⟨hn, hcl⟩ := hn
        have hn := Nat.le_of_ble_eq_true hn
        split at ho
        · rename_i es bs clk hmb
          split at ho
          · rename_i ks hks
            split at ho
            · rename_i hcond
              simp only [Bool.and_eq_true, List.all_eq_true] at hcond
              obtain ⟨⟨⟨⟨c1, c2⟩, c3⟩, c4⟩, c5⟩ := hcond
              have c5 := Nat.le_of_ble_eq_true c5
              have facts : ∀ (pr : Pr) (σ : Sig) (w : World) (args' : Array Value), R pr σ hp w → VRels σ [.fn (.func g) [] [.ptr c 0]] args'.toList →
                  Calls C.P f args' w fun ed w' => ∃ (v : Value) (ss : List Int), ed = .returned v ∧ ss.Perm ks ∧
                    w'.ownsRow w.heap.size e 1 v ss.length ((sortI ks).map encZ) ∧ (v = .slice none 0 0 ↔ ss = []) ∧ Below w.heap.size w w' := by
                intro pr σ w args' r ha
                obtain ⟨y, rfl, hy⟩ := args_one ha
                obtain ⟨vs, ws, rfl, q1, q2⟩ := hy.fn_inv
                obtain ⟨l1⟩ := vs
                obtain ⟨l2⟩ := ws
                cases q1
                cases q2 with
                | cons qp qn =>
                cases qn
                obtain ⟨i, hi, rfl⟩ := qp.ptr_inv
                obtain ⟨i', hi', cs', e0, fz, g1, g2, g3, g4, g5, g6⟩ := r.blk _ _ hc
                rw [hi] at hi'
                cases hi'
                obtain ⟨x, hx, hxr⟩ := g6 0 _ (by omega) hm
                obtain ⟨j, hj, rfl⟩ := hxr.map_inv
                obtain ⟨j', hj', ms, k1, k2, k3⟩ := r.blk _ _ hmb
                rw [hj] at hj'
                cases hj'
                have hkeys := intKeysA_sound hks k2
                obtain ⟨D, o1, o2, o3⟩ := own_ints (w := w) hk k1 hkeys (fun x hx => c1 x hx) (nodupI_sound c2) (by rw [k3]; exact nodupN_sound c3) (fun x hx => Nat.le_of_ble_eq_true (c4 _ (by rw [← k3]; exact List.mem_map_of_mem hx))) c5
                have hlt : i.blk < w.heap.size := (Array.getElem?_eq_some_iff.1 g1).1
                have hbase : i.base = 0 := (g5.1 hcl).2
                have hcell : w.cell? ⟨i.blk, i.base + 0, none⟩ = some (.map (some j.blk)) := cell_at rfl g1 hx
                rw [hbase] at hcell ⊢
                refine (h1 i.blk j.blk _ D w hlt hcell o1 (by omega)).mono ?_
                rintro ed w' ⟨v, ss, p1, p2, p3, p4, p5⟩
                refine ⟨v, ss, p1, p2.trans o2, ?_, p4, p5⟩
                rw [← sortI_eq (p2.trans o2)]
                exact p3
              split at ho
              · cases ho
                refine ⟨Nat.le_refl _, fun pr σ w args' r hgl hf ha => ?_⟩
                refine (callsIn_wide.2 (facts pr σ w args' r ha)).mono ?_
                rintro ed w' ⟨v, ss, rfl, p2, p3, p4, p5⟩
                have hss : ss = [] := by have := p2.length_eq; simpa using this
                obtain rfl := p4.2 hss
                exact ⟨σ, _, rfl, .nils, Ext.refl _ _, r.kept (Kept.of_below p5 (Nat.le_refl _))⟩
              · rename_i k0 kr _
                cases ho
                refine ⟨Nat.le_succ _, fun pr σ w args' r hgl hf ha => ?_⟩
                refine (callsIn_wide.2 (facts pr σ w args' r ha)).mono ?_
                rintro ed w' ⟨v, ss, rfl, p2, p3, p4, p5⟩
                have hlen : ss.length = (k0 :: kr).length := p2.length_eq
                have hfx : σ nx = none := hf nx (Nat.le_refl _) (Nat.lt_succ_self _)
                obtain ⟨q0, q1⟩ := p3
                rcases q1 with ⟨_, q2⟩ | ⟨g1, cap, cur, rfl, q3, q4, q5, q6, q7, q8⟩
                · rw [hlen] at q2; simp at q2
                · have hsl : (sortI (k0 :: kr)).length = (k0 :: kr).length := (sortI_perm _).length_eq
                  have hle := Sig.put_le (σ := σ) (id := nx) ⟨g1, 0, cap⟩ hfx
                  refine ⟨σ.put nx ⟨g1, 0, cap⟩, _, rfl, ?_, Ext.one _ hfx, r.adopt (Kept.of_below p5 (Nat.le_refl _)) hfx q3 ⟨cur, e, (0, 0), q4, by simp only; omega, by simp only; omega, noFz' _, ⟨fun _ => ⟨rfl, rfl⟩, fun _ h => (by cases h), fun _ h => (by cases h)⟩, fun j u hj hu => ?_⟩⟩
                  · rw [hlen]
                    exact VRel.opn (i := ⟨g1, 0, cap⟩) (Sig.put_same _ _ _) (by omega) (by simp only; omega) (.inl rfl)
                  · rw [ofL_get, List.getElem?_map] at hu
                    cases hq : (sortI (k0 :: kr))[j]? with
                    | none => rw [hq] at hu; cases hu
                    | some z =>
                      rw [hq] at hu
                      cases hu
                      refine ⟨.int .i64 z, ?_, .int _ _⟩
                      have h2 : ((sortI (k0 :: kr)).map encZ)[j]? = some (.int .i64 z) := by rw [List.getElem?_map, hq]; rfl
                      rw [← q8, List.getElem?_take] at h2
                      split at h2
                      · simpa using h2
                      · cases h2
            · cases ho
          · cases ho
        · cases ho
      · cases ho
    · cases ho
  · cases ho
end Go.Proofs.YtdjeokgkeejpcaaGreatDoor.AX
