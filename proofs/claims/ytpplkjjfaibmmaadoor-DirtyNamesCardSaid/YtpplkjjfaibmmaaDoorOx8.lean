/- OX, part 8: slices.Insert of one element, into a row whose room is not known. -/
import Derived.Test.YtpplkjjfaibmmaaDoorOx7
namespace Go.Proofs.YtpplkjjfaibmmaaDoor.AX
open Go Go.RowKit
variable {P : Program} {σ : Sig} {w : World} {pr : Pr} {hp : Hp}

/-- Where the elements lie behind the call: in the same block, or in a new one. -/
def InsPost (w : World) (b z n i : Nat) (cs vs : List Value) (en : Ending) (w' : World) : Prop :=
  ∃ (b' off' c' : Nat) (row : Array Value) (e : TypeId) (fz : Nat × Nat), en = .returned (.slice (some ⟨b', off', none⟩) (n + 1) c') ∧ n + 1 ≤ c' ∧ w'.heap[b']? = some (.cells row e fz) ∧ (∀ j, j < row.size → ¬ (fz.1 ≤ j ∧ j < fz.2)) ∧ off' + c' * z ≤ row.size ∧
    (∀ j v, (cs.take (i * z) ++ (vs ++ cs.drop (i * z)))[j]? = some v → row[off' + j]? = some v) ∧ Same w w' ∧ ((b' = b ∧ ∀ k, k ≠ b → w'.heap[k]? = w.heap[k]?) ∨ (b' = w.heap.size ∧ ∀ (k : Nat) (o : Obj), w.heap[k]? = some o → w'.heap[k]? = some o))
def InsOk (P : Program) (f : FuncId) (z : Nat) : Prop := ∀ (b off n c i vb voff vc : Nat) (cs vs : List Value) (w : World) (row vrow : Array Value) (e ve : TypeId) (fz : Nat × Nat),
  i ≤ n → n ≤ c → n ≤ 1000000 → cs.length = n * z → vs.length = z → vb ≠ b → w.heap[b]? = some (.cells row e fz) → (∀ j, j < row.size → ¬ (fz.1 ≤ j ∧ j < fz.2)) → (0 < c → off + c * z ≤ row.size) →
  w.heap[vb]? = some (.cells vrow ve (0, 0)) → (∀ j v, cs[j]? = some v → row[off + j]? = some v) → (∀ j v, vs[j]? = some v → vrow[voff + j]? = some v) → (∀ v ∈ cs, v.oneCell' = true) → (∀ v ∈ vs, v.oneCell' = true) →
  Calls P f #[.slice (some ⟨b, off, none⟩) n c, .int .i64 i, .slice (some ⟨vb, voff, none⟩) 1 vc] w (InsPost w b z n i cs vs)

noncomputable def insertA (z : Nat) (args : List AV) (hp : Hp) (nx : Nat) : Option (AV × Hp × Nat) :=
  match args with
  | [.opn id off n z', .int .i64 (.ofNat i), .slice vid voff 1 vcap] => match hp.get id, hp.get vid with
    | some (.cells c m _), some (.cells vc vm vcl) => match Nat.ble i n, Nat.beq z' z, Nat.ble n 1000000, Nat.beq id vid, vcl.is with
      | true, true, true, false, true => match Nat.ble (Nat.add off (Nat.mul n z)) m, Nat.ble (Nat.add voff z) vm, Nat.ble 1 vcap with
        | true, true, true => match readN c off (Nat.mul n z), readN vc voff z with
          | some old, some new => match atomsB old, atomsB new with
            | true, true => some (.opn nx 0 (Nat.succ n) z, (hp.put id none).set nx (.cells (ofL (old.take (Nat.mul i z) ++ (new ++ old.drop (Nat.mul i z)))) (Nat.mul (Nat.succ n) z) .no), Nat.succ nx)
            | _, _ => none
          | _, _ => none
        | _, _, _ => none
      | _, _, _, _, _ => none
    | _, _ => none
  | _ => none
theorem VRels.of_get : ∀ {l : List AV} {xs : List Value}, l.length = xs.length → (∀ (j : Nat) v, l[j]? = some v → ∃ x, xs[j]? = some x ∧ VRel σ v x) → VRels σ l xs
  | [], [], _, _ => .nil
  | v :: l, x :: xs, hl, h => by
    obtain ⟨y, h1, h2⟩ := h 0 v rfl
    simp at h1
    subst h1
    exact .cons h2 (VRels.of_get (by simpa using hl) fun j u hj => by simpa using h (j + 1) u (by simpa using hj))
theorem args_three {x y z : AV} {args' : Array Value} (h : VRels σ [x, y, z] args'.toList) : ∃ v u t, args' = #[v, u, t] ∧ VRel σ x v ∧ VRel σ y u ∧ VRel σ z t := by
  obtain ⟨l⟩ := args'
  match l, h with
  | [v, u, t], .cons h1 (.cons h2 (.cons h3 _)) => exact ⟨v, u, t, rfl, h1, h2, h3⟩
/-- The values of cells that are known. -/
theorem read_rel {c : Cells} {n m off : Nat} {i : Info} {old : List AV} {cs : Array Value} (hr : readN c off n = some old) (hm : off + n ≤ m) (hmr : m ≤ i.room) (hsz : cs.size = i.base + i.room)
    (h6 : ∀ j v, j < m → c.get j = some v → ∃ x, cs[i.base + j]? = some x ∧ VRel σ v x) : VRels σ old ((cs.toList.drop (i.base + off)).take n) ∧ ((cs.toList.drop (i.base + off)).take n).length = n := by
  have hl : ((cs.toList.drop (i.base + off)).take n).length = n := by simp; omega
  refine ⟨?_, hl⟩
  refine VRels.of_get (by rw [readN_len hr, hl]) fun j v hj => ?_
  have hjn : j < n := by have := (List.getElem?_eq_some_iff.1 hj).1; rw [readN_len hr] at this; exact this
  obtain ⟨x, h1, h2⟩ := h6 _ _ (by omega) (readN_get hr hj)
  refine ⟨x, ?_, h2⟩
  rw [List.getElem?_take, if_pos hjn, List.getElem?_drop, show i.base + off + j = i.base + (off + j) from by omega]
  simpa using h1
theorem insertA_good {C : Ctx} {f : FuncId} {z : Nat} (hz0 : 0 < z) (hb : ∃ (fn : Func) (c : Code), C.P.funcs[f]? = some fn ∧ fn.body = some c) (h : InsOk C.P f z) : OrcGood C f (insertA z) := by
  refine ⟨hb, fun args hp nx v hp' nx' ho => ?_⟩
  unfold insertA at ho
  split at ho
  · rename_i id off n z' i vid voff vcap
    split at ho
    · rename_i c m cl vc vm vcl hg1 hg2
      split at ho
      · rename_i e1 e2 e3 e4 e5
        split at ho
        · rename_i e6 e7 e8
          split at ho
          · rename_i old new hr1 hr2
            split at ho
            · rename_i ha1 ha2
              cases ho
              refine ⟨Nat.le_succ _, fun pr σ w args' r hg hf ha => ?_⟩
              have e1 := Nat.le_of_ble_eq_true e1
              have e2 := Nat.eq_of_beq_eq_true e2
              have e3 := Nat.le_of_ble_eq_true e3
              have e4 := Nat.ne_of_beq_eq_false e4
              have e6 := Nat.le_of_ble_eq_true e6
              have e7 := Nat.le_of_ble_eq_true e7
              have e8 := Nat.le_of_ble_eq_true e8
              have e6 : off + n * z ≤ m := e6
              have e7 : voff + z ≤ vm := e7
              have hr1 : readN c off (n * z) = some old := hr1
              subst e2
              obtain ⟨s, u, t, rfl, hs, hu, ht⟩ := args_three ha
              obtain rfl := hu.int_inv
              obtain ⟨j, o, cap, hj, hle, hrm, hof, rfl⟩ := hs.opn_inv
              obtain ⟨vj, vo, hvj, hvle, hvof, rfl⟩ := ht.slice_inv
              have hvof := hvof.resolve_right (by omega)
              subst hvof
              obtain ⟨j', hj', cs, et, fz, h1, h2, h3, h4, h5, h6⟩ := r.blk _ _ hg1
              rw [hj] at hj'; cases hj'
              obtain ⟨vj', hvj', vcs, vet, vfz, g1, g2, g3, g4, g5, g6⟩ := r.blk _ _ hg2
              rw [hvj] at hvj'; cases hvj'
              obtain ⟨rfl, _⟩ := g5.1 e5
              have hne : vj.blk ≠ j.blk := fun h => e4 (r.inj _ _ _ _ _ _ hg1 hg2 hj hvj h.symm)
              obtain ⟨q1, q2⟩ := read_rel hr1 e6 h3 h2 h6
              obtain ⟨p1, p2⟩ := read_rel hr2 e7 g3 g2 g6
              obtain ⟨OLD, hOLD⟩ : ∃ OLD, OLD = (cs.toList.drop (j.base + off)).take (n * z') := ⟨_, rfl⟩
              obtain ⟨NEW, hNEW⟩ : ∃ NEW, NEW = (vcs.toList.drop (vj.base + voff)).take z' := ⟨_, rfl⟩
              rw [← hOLD] at q1 q2
              rw [← hNEW] at p1 p2
              have hcz : ∀ k, k ≤ cap → k * z' ≤ cap * z' := fun k hk => Nat.mul_le_mul_right _ hk
              have call := h j.blk o n cap i vj.blk (vj.base + voff) vcap OLD NEW w cs vcs et vet fz e1 hle e3 q2 p2 hne h1 h4 (fun hc => by
                  have := hof.resolve_right (by omega)
                  omega) g1 (fun k x hk => by
                  have hkl : k < n * z' := by have := (List.getElem?_eq_some_iff.1 hk).1; omega
                  have hn0 : 0 < n := by
                    rcases Nat.eq_zero_or_pos n with h0 | h0
                    · subst h0; simp at hkl
                    · exact h0
                  have := hof.resolve_right (by omega)
                  subst this
                  rw [hOLD, List.getElem?_take, if_pos hkl, List.getElem?_drop] at hk
                  simpa using hk) (fun k x hk => by
                  have hkl : k < z' := by have := (List.getElem?_eq_some_iff.1 hk).1; omega
                  rw [hNEW, List.getElem?_take, if_pos hkl, List.getElem?_drop] at hk
                  simpa using hk) (atomsB_sound ha1 q1) (atomsB_sound ha2 p1)
              refine (callsIn_wide.2 call).mono ?_
              rintro en w' ⟨b', off', c', row, e, fz', rfl, k1, k2, k3, k4, k5, k6, k7⟩
              have hnew : VRels σ (old.take (Nat.mul i z') ++ (new ++ old.drop (Nat.mul i z'))) (OLD.take (i * z') ++ (NEW ++ OLD.drop (i * z'))) :=
                (q1.take _).append (p1.append (q1.drop _))
              have hlen : (OLD.take (i * z') ++ (NEW ++ OLD.drop (i * z'))).length = (n + 1) * z' := by
                have : i * z' ≤ n * z' := Nat.mul_le_mul_right _ e1
                have : (n + 1) * z' = n * z' + z' := Nat.succ_mul _ _
                simp only [List.length_append, List.length_take, List.length_drop, q2, p2]
                omega
              have hc1 : (n + 1) * z' ≤ c' * z' := Nat.mul_le_mul_right _ k1
              have hf' := hf nx (Nat.le_refl _) (Nat.lt_succ_self _)
              have hblk : BlkRel (σ.put nx ⟨b', off', row.size - off'⟩) (.cells (ofL (old.take (Nat.mul i z') ++ (new ++ old.drop (Nat.mul i z')))) (Nat.mul (Nat.succ n) z') .no) ⟨b', off', row.size - off'⟩ w'.heap := by
                refine ⟨row, e, fz', k2, by simp only; omega, by show (n + 1) * z' ≤ row.size - off'; omega, k3, ⟨fun h => by simp [Cl.is] at h, fun t h => by simp at h, fun t h => by simp at h⟩, fun k v hk hv => ?_⟩
                rw [ofL_get] at hv
                obtain ⟨x, x1, x2⟩ := hnew.get hv
                exact ⟨x, k5 _ _ x1, x2.mono (Sig.put_le _ hf')⟩
              refine ⟨σ.put nx ⟨b', off', row.size - off'⟩, _, rfl, VRel.opn (i := ⟨b', off', row.size - off'⟩) (Sig.put_same _ _ _) k1 (by show 0 + c' * z' ≤ row.size - off'; omega) (.inl (Nat.add_zero _).symm), Ext.one _ hf', ?_⟩
              rcases k7 with ⟨rfl, k7⟩ | ⟨rfl, k7⟩
              · exact r.rename hg1 hj hf' rfl hblk k7 k6
              · exact (r.drop id).adopt ⟨k6.1, (Prod.mk.inj k6.2).1, (Prod.mk.inj k6.2).2, k7⟩ hf' (Nat.le_refl _) hblk
            · cases ho
          · cases ho
        · cases ho
      · cases ho
    · cases ho
  · cases ho
end Go.Proofs.YtpplkjjfaibmmaaDoor.AX
