/- AX: slices.Sorted of maps.Keys, its answer known: keys that are strings. -/
import Derived.Test.YtdjeokgkeejpcaaGreatDoorOx2
import Derived.Shelf.SlIter.Nil
namespace Go.Proofs.YtdjeokgkeejpcaaGreatDoor.AX
open Go Go.ChangeShapes Go.WideShapes Go.ChangeAt Go.RowKit
open Go.Proofs (encStr)
variable {P : Program} {σ : Sig} {w w' : World} {pr : Pr} {hp : Hp}

def leS : List Nat → List Nat → Bool
  | [], _ => true
  | _ :: _, [] => false
  | a :: x, b :: y => match Nat.beq a b with
    | true => leS x y
    | false => Nat.ble a b
def nat8 (x : List UInt8) : List Nat := x.map UInt8.toNat
theorem leS_eq : ∀ (x y : List UInt8), leS (nat8 x) (nat8 y) = decide (x ≤ y)
  | [], y => by simp [nat8, leS]
  | a :: x, [] => by
    have : ¬ (a :: x ≤ ([] : List UInt8)) := by simp
    simp [nat8, leS]
  | a :: x, b :: y => by
    have ih := leS_eq x y
    simp only [nat8, List.map_cons, leS] at ih ⊢
    rw [Bool.eq_iff_iff, decide_eq_true_iff, List.cons_le_cons_iff]
    split
    · rename_i h
      have h : a = b := UInt8.toNat_inj.1 (Nat.eq_of_beq_eq_true h)
      subst h
      rw [ih]
      simp
    · rename_i h
      have h := ne_of_beq h
      have hne : a ≠ b := fun e => h (by rw [e])
      rw [Nat.ble_eq, UInt8.lt_iff_toNat_lt]
      simp [hne]
      omega
def insS (x : List Nat) : List (List Nat) → List (List Nat)
  | [] => [x]
  | y :: l => match leS x y with
    | true => x :: y :: l
    | false => y :: insS x l
def sortS : List (List Nat) → List (List Nat)
  | [] => []
  | x :: l => insS x (sortS l)
def insU (x : List UInt8) : List (List UInt8) → List (List UInt8)
  | [] => [x]
  | y :: l => if x ≤ y then x :: y :: l else y :: insU x l
def sortU : List (List UInt8) → List (List UInt8)
  | [] => []
  | x :: l => insU x (sortU l)
theorem insS_map (x : List UInt8) : ∀ l, insS (nat8 x) (l.map nat8) = (insU x l).map nat8
  | [] => rfl
  | y :: l => by
    simp only [List.map_cons, insS, insU, leS_eq]
    by_cases h : x ≤ y
    · simp [h]
    · simp [h, insS_map x l]
theorem sortS_map : ∀ l, sortS (l.map nat8) = (sortU l).map nat8
  | [] => rfl
  | x :: l => by simp only [List.map_cons, sortS, sortU, sortS_map l, insS_map]
theorem insU_perm (x : List UInt8) : ∀ l, (insU x l).Perm (x :: l)
  | [] => .refl _
  | y :: l => by
    unfold insU
    split
    · exact .refl _
    · exact ((insU_perm x l).cons y).trans (.swap ..)
theorem sortU_perm : ∀ l, (sortU l).Perm l
  | [] => .refl _
  | x :: l => (insU_perm x (sortU l)).trans ((sortU_perm l).cons x)
theorem insU_sorted (x : List UInt8) : ∀ {l : List (List UInt8)}, l.Pairwise (fun a b => leB a b = true) → (insU x l).Pairwise fun a b => leB a b = true
  | [], _ => by simp [insU]
  | y :: l, h => by
    have h1 := List.pairwise_cons.1 h
    unfold insU
    split
    · rename_i hxy
      refine List.pairwise_cons.2 ⟨fun a ha => ?_, h⟩
      rcases List.mem_cons.1 ha with rfl | ha
      · simpa [leB] using hxy
      · have := h1.1 a ha
        simp only [leB, decide_eq_true_eq] at this ⊢
        exact List.le_trans hxy this
    · rename_i hxy
      refine List.pairwise_cons.2 ⟨fun a ha => ?_, insU_sorted x h1.2⟩
      rcases List.mem_cons.1 ((insU_perm x l).mem_iff.1 ha) with rfl | ha
      · simp only [leB, decide_eq_true_eq]
        exact (List.le_total y a).resolve_right hxy
      · exact h1.1 a ha
theorem sortU_sorted : ∀ l, (sortU l).Pairwise fun a b => leB a b = true
  | [] => .nil
  | x :: l => insU_sorted x (sortU_sorted l)
theorem sortU_eq {l ss : List (List UInt8)} (h : ss.Perm l) : ss.mergeSort (fun x y => decide (x ≤ y)) = sortU l := by
  have tr : ∀ a b c : List UInt8, leB a b = true → leB b c = true → leB a c = true := fun a b c h1 h2 => by simp only [leB, decide_eq_true_eq] at *; exact List.le_trans h1 h2
  have to : ∀ a b : List UInt8, (leB a b || leB b a) = true := fun a b => by simp only [leB, Bool.or_eq_true, decide_eq_true_eq]; exact List.le_total a b
  refine List.Perm.eq_of_pairwise (le := fun a b => leB a b = true) (fun a b _ _ h1 h2 => ?_) (List.pairwise_mergeSort tr to ss) (sortU_sorted l) (((List.mergeSort_perm ss leB).trans h).trans (sortU_perm l).symm)
  simp only [leB, decide_eq_true_eq] at h1 h2
  exact List.le_antisymm h1 h2
def notInS (x : List Nat) : List (List Nat) → Bool
  | [] => true
  | y :: l => match eqB x y with
    | true => false
    | false => notInS x l
def nodupS : List (List Nat) → Bool
  | [] => true
  | x :: l => notInS x l && nodupS l
theorem eqB_self : ∀ x : List Nat, eqB x x = true
  | [] => rfl
  | a :: x => by simp [eqB, eqB_self x]
theorem notInS_sound {x : List Nat} : ∀ {l : List (List Nat)}, notInS x l = true → x ∉ l
  | [], _ => by simp
  | y :: l, h => by
    unfold notInS at h
    split at h
    · cases h
    · rename_i hxy
      have hne : x ≠ y := fun e => by rw [e, eqB_self] at hxy; cases hxy
      simp only [List.mem_cons, not_or]
      exact ⟨hne, notInS_sound h⟩
theorem nodupS_sound : ∀ {l : List (List Nat)}, nodupS l = true → l.Nodup
  | [], _ => .nil
  | x :: l, h => by
    simp only [nodupS, Bool.and_eq_true] at h
    exact List.nodup_cons.2 ⟨notInS_sound h.1, nodupS_sound h.2⟩
def strKeysA : List (AV × AV) → Option (List (List Nat))
  | [] => some []
  | e :: l => match e.1, strKeysA l with
    | .str k, some r => some (k :: r)
    | _, _ => none
theorem strKeysA_sound : ∀ {es : List (AV × AV)} {ks : List (List Nat)} {ms : List MapEntry}, strKeysA es = some ks → EntsRel σ es ms → ∃ zs : List (List UInt8), ks = zs.map nat8 ∧ ms.map (·.key) = zs.map encStr
  | [], ks, [], h, _ => by cases h; exact ⟨[], rfl, rfl⟩
  | e :: es, ks, m :: ms, h, ⟨h1, h2, h3⟩ => by
    simp only [strKeysA] at h
    split at h
    · rename_i k r he g2
      cases h
      obtain ⟨zs, q1, q2⟩ := strKeysA_sound g2 h3
      rw [he] at h1
      obtain ⟨s, hs, hb⟩ := h1.str_inv
      refine ⟨s.data.toList :: zs, ?_, ?_⟩
      · simp only [List.map_cons, q1]
        rw [← hb]; rfl
      · simp only [List.map_cons, q2, hs]
    · cases h
  | [], _, _ :: _, _, h => h.elim
  | _ :: _, _, [], _, h => h.elim
/-- slices.Sorted(maps.Keys(m)), the keys strings. -/
noncomputable def sortedSA (lit : Nat) (args : List AV) (hp : Hp) (nx : Nat) : Option (AV × Hp × Nat) :=
  match args with
  | [.fn (.func g) [] [.ptr c 0]] => match Nat.beq g lit, hp.get c with
    | true, some (.cells cs n cl) => match Nat.ble 1 n && cl.is, cs.get 0 with
      | true, some (.map id) => match hp.get id with
        | some (.map es bs clk) => match strKeysA es with
          | some ks => match ks.all (fun k => Nat.ble k.length 1000000) && nodupS ks && nodupN bs && bs.all (fun b => Nat.ble (Nat.succ b) clk) && Nat.ble ks.length 1000000 with
            | true => match ks with
              | [] => some (.nils, hp, nx)
              | _ :: _ => some (.opn nx 0 ks.length 1, hp.set nx (.cells (ofL ((sortS ks).map AV.str)) ks.length .yes), Nat.succ nx)
            | false => none
          | none => none
        | _ => none
      | _, _ => none
    | _, _ => none
  | _ => none
theorem own_strs {k : TypeId} (hk : P.underlying k = some .string) {b : Nat} {ms : Array MapEntry} {clk : Nat} {zs : List (List UInt8)} (hb : w.heap[b]? = some (.map ms clk)) (hks : ms.toList.map (·.key) = zs.map encStr) (h1 : ∀ x ∈ zs, x.length ≤ 1000000) (h2 : zs.Nodup)
    (h3 : (ms.toList.map (·.born)).Nodup) (h4 : ∀ x ∈ ms.toList, x.born < clk) (h5 : zs.length ≤ 1000000) :
    ∃ D : DataW Unit, w.ownsMap P k (fun _ => some (.nil, [])) b zs.length D ∧ (strKeys D).Perm zs ∧ Maps.size D = zs.length := by
  have hlen : ms.size = zs.length := by have := congrArg List.length hks; simpa using this
  have hkey : ∀ x ∈ ms.toList, ∃ n ∈ zs, x.key = encStr n := fun x hx => by
    have : x.key ∈ ms.toList.map (·.key) := List.mem_map_of_mem hx
    rw [hks, List.mem_map] at this
    obtain ⟨n, hn, e⟩ := this
    exact ⟨n, hn, e.symm⟩
  have hrd : ∀ x ∈ ms.toList, ∀ n ∈ zs, x.key = encStr n → WideElems.rd (H := Unit) P k (fun _ => some (.nil, [])) x = some (.string n, .nil) := fun x hx n hn e => by
    have hsz : n.length ≤ maxLen := by have := h1 n hn; unfold maxLen; omega
    have hsz' : (ByteArray.mk n.toArray).size ≤ maxLen := by
      show n.toArray.size ≤ maxLen
      simpa using hsz
    have e : x.key = .string ⟨n.toArray⟩ := e
    simp [WideElems.rd, keyOf, hk, mapKey, e, hsz']
  have hrg : ms.toList.map (WideElems.rg (H := Unit) P k (fun _ => some (.nil, []))) = zs.map fun n => (Lit.string n, DataW.nil) := by
    have : ∀ (l : List MapEntry) (ys : List (List UInt8)), (∀ x ∈ l, x ∈ ms.toList) → (∀ y ∈ ys, y ∈ zs) → l.map (·.key) = ys.map encStr → l.map (WideElems.rg (H := Unit) P k (fun _ => some (.nil, []))) = ys.map fun n => (Lit.string n, DataW.nil) := by
      intro l
      induction l with
      | nil => intro ys _ _ h; cases ys with
        | nil => rfl
        | cons _ _ => cases h
      | cons x l ih => intro ys hm hy h; cases ys with
        | nil => cases h
        | cons z ys =>
          simp only [List.map_cons, List.cons.injEq] at h ⊢
          exact ⟨WideElems.rg_of (hrd x (hm x (by simp)) z (hy z (by simp)) h.1), ih ys (fun y hy => hm y (by simp [hy])) (fun y h => hy y (by simp [h])) h.2⟩
    exact this _ _ (fun _ h => h) (fun _ h => h) hks
  refine ⟨_, ⟨ms, clk, hb, ⟨by unfold maxLen; omega, ⟨h4, h3, ?_⟩, fun x hx => ?_⟩, by omega, rfl⟩, ?_, ?_⟩
  · rw [hks]
    exact List.pairwise_map.2 (h2.imp fun hne e => hne (encStr_inj e))
  · obtain ⟨n, hn, e⟩ := hkey x hx
    exact ⟨_, hrd x hx n hn e⟩
  · rw [hrg]
    have := (foldr_insert_perm (zs.map fun n => (Lit.string n, (DataW.nil : DataW Unit)))).map fun p => strOf p.1
    refine this.trans ?_
    rw [List.map_map]
    have : ((fun p : Lit × DataW Unit => strOf p.1) ∘ fun n => (Lit.string n, DataW.nil)) = (id : List UInt8 → List UInt8) := rfl
    rw [this, List.map_id]
  · rw [hrg]
    have := (foldr_insert_perm (zs.map fun n => (Lit.string n, (DataW.nil : DataW Unit)))).length_eq
    simpa [Maps.size] using this
theorem sortedSA_good {C : Ctx} {f lit : FuncId} {k e : TypeId} (hk : C.P.underlying k = some .string) (hb : ∃ (fn : Func) (c : Code), C.P.funcs[f]? = some fn ∧ fn.body = some c)
    (h1 : ∀ (Bm b nn : Nat) (D : DataW Unit) (w : World), Bm < w.heap.size → w.cell? ⟨Bm, 0, none⟩ = some (.map (some b)) → w.ownsMap C.P k (fun _ => some (.nil, [])) b nn D → Maps.size D ≤ 1000000 →
      Calls C.P f #[.func (.func lit) #[] #[.pointer (some ⟨Bm, 0, none⟩)]] w fun ed w' => ∃ (v : Value) (ss : List (List UInt8)), ed = .returned v ∧ ss.Perm (strKeys D) ∧
        w'.ownsRow w.heap.size e 1 v ss.length ((ss.mergeSort (fun x y => decide (x ≤ y))).map encStr) ∧ (v = .slice none 0 0 ↔ ss = []) ∧ Below w.heap.size w w') :
    OrcGood C f (sortedSA lit) := by
  refine ⟨hb, fun args hp nx v hp' nx' ho => ?_⟩
  unfold sortedSA at ho
  split at ho
  · rename_i g c
    split at ho
    · rename_i cs n cl hg hc
      have hg := Nat.eq_of_beq_eq_true hg
      subst hg
      split at ho
      · rename_i id hn hm
        simp only [Bool.and_eq_true] at hn
        obtain ⟨hn, hcl⟩ := hn
        have hn := Nat.le_of_ble_eq_true hn
        split at ho
        · rename_i es bs clk hmb
          split at ho
          · rename_i ks hks
            split at ho
            · rename_i hcond
              simp only [Bool.and_eq_true, List.all_eq_true] at hcond
              obtain ⟨⟨⟨⟨c1, c2⟩, c3⟩, c4⟩, c5⟩ := hcond
              have c5 := Nat.le_of_ble_eq_true c5
              have facts : ∀ (pr : Pr) (σ : Sig) (w : World) (args' : Array Value), R pr σ hp w → VRels σ [.fn (.func g) [] [.ptr c 0]] args'.toList →
                  ∃ zs : List (List UInt8), ks = zs.map nat8 ∧ Calls C.P f args' w fun ed w' => ∃ (v : Value) (ss : List (List UInt8)), ed = .returned v ∧ ss.Perm zs ∧
                    w'.ownsRow w.heap.size e 1 v ss.length ((sortU zs).map encStr) ∧ (v = .slice none 0 0 ↔ ss = []) ∧ Below w.heap.size w w' := by
                intro pr σ w args' r ha
                obtain ⟨y, rfl, hy⟩ := args_one ha
                obtain ⟨vs, ws, rfl, q1, q2⟩ := hy.fn_inv
                obtain ⟨l1⟩ := vs
                obtain ⟨l2⟩ := ws
                cases q1
                cases q2 with
                | cons qp qn =>
                cases qn
                obtain ⟨i, hi, rfl⟩ := qp.ptr_inv
                obtain ⟨i', hi', cs', e0, fz, g1, g2, g3, g4, g5, g6⟩ := r.blk _ _ hc
                rw [hi] at hi'
                cases hi'
                obtain ⟨x, hx, hxr⟩ := g6 0 _ (by omega) hm
                obtain ⟨j, hj, rfl⟩ := hxr.map_inv
                obtain ⟨j', hj', ms, k1, k2, k3⟩ := r.blk _ _ hmb
                rw [hj] at hj'
                cases hj'
                obtain ⟨zs, hz, hkeys⟩ := strKeysA_sound hks k2
                have hzl : ks.length = zs.length := by rw [hz, List.length_map]
                have hnd : zs.Nodup := by
                  have := nodupS_sound c2
                  rw [hz] at this
                  exact (List.pairwise_map.1 this).imp fun h e => h (by rw [e])
                have hle : ∀ x ∈ zs, x.length ≤ 1000000 := fun x hx => by
                  have := Nat.le_of_ble_eq_true (c1 (nat8 x) (by rw [hz]; exact List.mem_map_of_mem hx))
                  simpa [nat8] using this
                obtain ⟨D, o1, o2, o3⟩ := own_strs (w := w) hk k1 hkeys hle hnd (by rw [k3]; exact nodupN_sound c3) (fun x hx => Nat.le_of_ble_eq_true (c4 _ (by rw [← k3]; exact List.mem_map_of_mem hx))) (by omega)
                have hlt : i.blk < w.heap.size := (Array.getElem?_eq_some_iff.1 g1).1
                have hbase : i.base = 0 := (g5.1 hcl).2
                have hcell : w.cell? ⟨i.blk, i.base + 0, none⟩ = some (.map (some j.blk)) := cell_at rfl g1 hx
                rw [hbase] at hcell ⊢
                refine ⟨zs, hz, (h1 i.blk j.blk _ D w hlt hcell o1 (by omega)).mono ?_⟩
                rintro ed w' ⟨v, ss, p1, p2, p3, p4, p5⟩
                refine ⟨v, ss, p1, p2.trans o2, ?_, p4, p5⟩
                rw [← sortU_eq (p2.trans o2)]
                exact p3
              split at ho
              · cases ho
                refine ⟨Nat.le_refl _, fun pr σ w args' r hgl hf ha => ?_⟩
                obtain ⟨zs, hz, hcall⟩ := facts pr σ w args' r ha
                refine (callsIn_wide.2 hcall).mono ?_
                rintro ed w' ⟨v, ss, rfl, p2, p3, p4, p5⟩
                have hz0 : zs = [] := by cases zs with
                  | nil => rfl
                  | cons _ _ => cases hz
                have hss : ss = [] := by subst hz0; have := p2.length_eq; simpa using this
                obtain rfl := p4.2 hss
                exact ⟨σ, _, rfl, .nils, Ext.refl _ _, r.kept (Kept.of_below p5 (Nat.le_refl _))⟩
              · rename_i k0 kr _
                cases ho
                refine ⟨Nat.le_succ _, fun pr σ w args' r hgl hf ha => ?_⟩
                obtain ⟨zs, hz, hcall⟩ := facts pr σ w args' r ha
                refine (callsIn_wide.2 hcall).mono ?_
                rintro ed w' ⟨v, ss, rfl, p2, p3, p4, p5⟩
                have hzl : (k0 :: kr).length = zs.length := by rw [hz, List.length_map]
                have hlen : ss.length = (k0 :: kr).length := by rw [p2.length_eq, hzl]
                have hfx : σ nx = none := hf nx (Nat.le_refl _) (Nat.lt_succ_self _)
                obtain ⟨q0, q1⟩ := p3
                rcases q1 with ⟨_, q2⟩ | ⟨g1, cap, cur, rfl, q3, q4, q5, q6, q7, q8⟩
                · rw [hlen] at q2; simp at q2
                · have hle := Sig.put_le (σ := σ) (id := nx) ⟨g1, 0, cap⟩ hfx
                  refine ⟨σ.put nx ⟨g1, 0, cap⟩, _, rfl, ?_, Ext.one _ hfx, r.adopt (Kept.of_below p5 (Nat.le_refl _)) hfx q3 ⟨cur, e, (0, 0), q4, by simp only; omega, by simp only; omega, noFz' _, ⟨fun _ => ⟨rfl, rfl⟩, fun _ h => (by cases h), fun _ h => (by cases h)⟩, fun j u hj hu => ?_⟩⟩
                  · rw [hlen]
                    exact VRel.opn (i := ⟨g1, 0, cap⟩) (Sig.put_same _ _ _) (by omega) (by simp only; omega) (.inl rfl)
                  · rw [hz, sortS_map, ofL_get, List.map_map, List.getElem?_map] at hu
                    cases hq : (sortU zs)[j]? with
                    | none => rw [hq] at hu; cases hu
                    | some z =>
                      rw [hq] at hu
                      cases hu
                      refine ⟨encStr z, ?_, .str _ ?_⟩
                      · have h2 : ((sortU zs).map encStr)[j]? = some (encStr z) := by rw [List.getElem?_map, hq]; rfl
                        rw [← q8, List.getElem?_take] at h2
                        split at h2
                        · simpa using h2
                        · cases h2
                      · simp [bytesOf, nat8]
            · cases ho
          · cases ho
        · cases ho
      · cases ho
    · cases ho
  · cases ho
end Go.Proofs.YtdjeokgkeejpcaaGreatDoor.AX
