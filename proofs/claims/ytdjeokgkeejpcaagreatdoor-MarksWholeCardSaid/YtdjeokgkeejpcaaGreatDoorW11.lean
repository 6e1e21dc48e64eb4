/- MarksWhole returns true at every input: its calls are answered by contracts, each proved by walking the code; lives() is reckoned by an abstract machine, proved sound over the model. Condition: the table math/bits.deBruijn64tab lies as the program lays it (the row's own). -/
import Derived.Test.YtdjeokgkeejpcaaGreatDoorW7
import Derived.MapKept
import Derived.Test.YtdjeokgkeejpcaaGreatDoorM20
import Derived.Test.YtdjeokgkeejpcaaGreatDoorM22
import Derived.Test.YtdjeokgkeejpcaaGreatDoorM23
namespace Go.Proofs.YtdjeokgkeejpcaaGreatDoor
open Go Go.Proofs Go.RowKit
attribute [local go_sem] Oper.semAt_some
/-- The same tree, but for what met it. -/
structure Lk (l l' : List Pt) : Prop where
  len : l'.length = l.length
  is : ∀ j, ∃ m, pt l' j = metP m (pt l j)
theorem Lk.kids {l l' : List Pt} (h : Lk l l') (j : Nat) : (pt l' j).kids = (pt l j).kids := by obtain ⟨m, e⟩ := h.is j; rw [e]; rfl
theorem Lk.frm {l l' : List Pt} (h : Lk l l') (j : Nat) : (pt l' j).frm = (pt l j).frm := by obtain ⟨m, e⟩ := h.is j; rw [e]; rfl
theorem Lk.too {l l' : List Pt} (h : Lk l l') (j : Nat) : (pt l' j).too = (pt l j).too := by obtain ⟨m, e⟩ := h.is j; rw [e]; rfl
theorem Lk.kidsF {l l' : List Pt} (h : Lk l l') (e : Nat → Option Nat) : ∀ (ks : List Int) (n : Nat) (a : Int), kidsF l' e n a ks = kidsF l e n a ks
  | [], _, _ => rfl
  | k :: ks, n, a => by
    simp only [YtdjeokgkeejpcaaGreatDoor.kidsF, h.len, h.frm, h.too]
    split
    · congr 1
      funext m
      exact h.kidsF e ks m _
    · rfl
theorem Lk.endF {l l' : List Pt} (h : Lk l l') : ∀ (f i : Nat), endF l' f i = endF l f i
  | 0, _ => rfl
  | f + 1, i => by
    have ih : YtdjeokgkeejpcaaGreatDoor.endF l' f = YtdjeokgkeejpcaaGreatDoor.endF l f := funext fun i => h.endF f i
    simp only [YtdjeokgkeejpcaaGreatDoor.endF, ih, h.kidsF, h.kids, h.frm, h.too]
theorem Lk.tr {l l' : List Pt} (h : Lk l l') (hT : Tr l) : Tr l' := ⟨fun e => hT.some (List.eq_nil_of_length_eq_zero (by rw [← h.len, e]; rfl)), by rw [h.endF, h.len]; exact hT.whole⟩
theorem BareOk.met {p : Pt} (h : BareOk p) (m : Nat) : BareOk (metP m p) := ⟨h.k1, h.k6, h.a0, h.at', h.lk, h.tok, h.non, h.mis, h.leaf⟩
theorem Lk.trOk {l l' : List Pt} (h : Lk l l') (hT : TrOk l) : TrOk l' := ⟨h.tr hT.tr, fun j hj => by
    obtain ⟨m, e⟩ := h.is j
    rw [e]
    exact (hT.bare j (by rw [← h.len]; exact hj)).met m, fun j hj h0 => by
    obtain ⟨m, e⟩ := h.is j
    rw [e]
    exact hT.root j (by rw [← h.len]; exact hj) h0⟩
theorem Lk.bare (l : List Pt) : Lk l (l.map (metP 0)) := ⟨List.length_map _, fun j => by
  by_cases hj : j < l.length
  · exact ⟨0, by simp [pt, List.getD_eq_getElem?_getD, hj]⟩
  · exact ⟨0, by simp [pt, List.getD_eq_getElem?_getD, hj, metP]; rfl⟩⟩
theorem bare_met (l : List Pt) (j : Nat) (hj : j < l.length) : (pt (l.map (metP 0)) j).met = 0 := by simp [pt, List.getD_eq_getElem?_getD, hj, metP]
theorem Lk.set {l l' : List Pt} (h : Lk l l') (i m : Nat) (hi : i < l.length) : Lk l (l'.set i (metP m (pt l' i))) := ⟨by rw [List.length_set]; exact h.len, fun j => by
  by_cases e : i = j
  · subst e
    refine ⟨m, ?_⟩
    obtain ⟨m', e'⟩ := h.is i
    have : pt (l'.set i (metP m (pt l' i))) i = metP m (pt l' i) := by simp [pt, List.getD_eq_getElem?_getD, h.len, hi]
    rw [this, e']
    rfl
  · obtain ⟨m', e'⟩ := h.is j
    refine ⟨m', ?_⟩
    rw [← e']
    simp [pt, List.getD_eq_getElem?_getD, List.getElem?_set_ne e]⟩
/-- A map whose keys are ks, its values all 1. -/
def WAt (W : World) (r : Nat) (ks : List Int) : Prop := ∃ es clock, W.heap[r]? = some (.map es clock) ∧ es.toList.map (·.key) = ks.map (Value.int .i64) ∧ (∀ x ∈ es.toList, x.val = .int .i64 1) ∧ MapKept.Stamped es clock
theorem WAt.keys {es : Array MapEntry} {ks : List Int} (hk : es.toList.map (·.key) = ks.map (Value.int .i64)) : ∀ x ∈ es.toList, MapKept.IsKey (.int .i64) x.key := fun x hx => by
  have : x.key ∈ es.toList.map (·.key) := List.mem_map_of_mem hx
  rw [hk, List.mem_map] at this
  obtain ⟨n, _, e⟩ := this
  rw [← e]
  rfl
theorem WAt.lt {W : World} {r : Nat} {ks : List Int} (h : WAt W r ks) : r < W.heap.size := by
  obtain ⟨_, _, h, _⟩ := h
  exact (Array.getElem?_eq_some_iff.1 h).1
theorem WAt.below {n r : Nat} {W W' : World} {ks : List Int} (h : WAt W r ks) (hb : Below n W W') (hn : r < n) : WAt W' r ks := by
  obtain ⟨es, c, h1, h2⟩ := h
  exact ⟨es, c, (hb.block r hn).trans h1, h2⟩
theorem WAt.put {T : TypeId} (hm : Tryz.prog.underlying T = some (.map 3 3)) {W : World} {r : Nat} {ks : List Int} (h : WAt W r ks) (k : Int) (hn : k ∉ ks) :
    ∃ W', (Instr.mapUpdate T (.map (some r)) (.int .i64 k) (.int .i64 1)).run Tryz.prog W = .ok () W' ∧ WAt W' r (ks ++ [k]) ∧ Below 0 W W' ∧ ∀ j, j ≠ r → W'.heap[j]? = W.heap[j]? := by
  obtain ⟨es, clock, hb, hk, hv, hs⟩ := h
  have hd : Tryz.prog.underlying 3 = some (.int .i64) := Tryz.underlying3
  have hkk : MapKept.IsKey (.int .i64) (Value.int .i64 k) := rfl
  rcases MapKept.findNow_spec hkk es.toList 0 (WAt.keys hk) with ⟨h1, h2⟩ | ⟨j, e, h1, h2, h3⟩
  · refine ⟨{ W with heap := W.heap.setIfInBounds r (.map (es.push { key := .int .i64 k, val := .int .i64 1, born := clock }) (clock + 1)) }, ?_, ⟨_, _, (MapKept.heap_set hb).1, ?_, ?_, MapKept.stamped_push hs h2⟩, ⟨rfl, rfl, rfl, by simp, fun j hj => absurd hj (Nat.not_lt_zero _)⟩, fun j hne => (MapKept.heap_set hb).2 j hne⟩
    · simp [Instr.mapUpdate, run_underlying hm, MapKept.run_getObj_map hb, MapKept.run_checkKey hd hkk, MapKept.run_findKey hd h1, MapKept.run_setObj_map _ hb, Result.andThen]
    · simp [hk]
    · intro x hx
      rw [Array.toList_push, List.mem_append] at hx
      rcases hx with hx | hx
      · exact hv x hx
      · rw [List.mem_singleton.1 hx]
  · exfalso
    have : e.key ∈ es.toList.map (·.key) := List.mem_map_of_mem (List.mem_of_getElem? h2)
    rw [h3, hk] at this
    obtain ⟨x, hx, e2⟩ := List.mem_map.1 this
    cases e2
    exact hn hx
theorem WAt.look {T : TypeId} (hm : Tryz.prog.underlying T = some (.map 3 3)) {W : World} {r : Nat} {ks : List Int} (h : WAt W r ks) (k : Int) :
    (Instr.lookup T (.map (some r)) (.int .i64 k) false).run Tryz.prog W = .ok (.int .i64 (if k ∈ ks then 1 else 0)) W := by
  obtain ⟨es, clock, hb, hk, hv, hs⟩ := h
  have hd : Tryz.prog.underlying 3 = some (.int .i64) := Tryz.underlying3
  have hkk : MapKept.IsKey (.int .i64) (Value.int .i64 k) := rfl
  have hz := Tryz.zeroValue3
  have hc : (Instr.checkKey es.isEmpty 10000 3 (.int .i64 k)).run Tryz.prog W = .ok () W := MapKept.run_checkKey hd hkk _ 9999
  rcases MapKept.findNow_spec hkk es.toList 0 (WAt.keys hk) with ⟨h1, h2⟩ | ⟨j, e, h1, h2, h3⟩
  · have hn : k ∉ ks := fun hmem => by
      have : Value.int .i64 k ∈ es.toList.map (·.key) := by rw [hk]; exact List.mem_map_of_mem hmem
      obtain ⟨x, hx, e⟩ := List.mem_map.1 this
      exact h2 x hx e
    rw [if_neg hn]
    simp only [Instr.lookup, Sem.run_bind, run_underlying hm, Result.andThen_ok, MapKept.run_getObj_map hb, Sem.run_pure, hc, MapKept.run_findKey hd h1, hz]
    rfl
  · have hn : k ∈ ks := by
      have : e.key ∈ es.toList.map (·.key) := List.mem_map_of_mem (List.mem_of_getElem? h2)
      rw [h3, hk] at this
      obtain ⟨x, hx, e2⟩ := List.mem_map.1 this
      cases e2
      exact hx
    rw [if_pos hn, ← hv e (List.mem_of_getElem? h2)]
    simp only [Instr.lookup, Sem.run_bind, run_underlying hm, Result.andThen_ok, MapKept.run_getObj_map hb, Sem.run_pure, hc, MapKept.run_findKey hd h1]
    rfl
theorem WAt.len {T : TypeId} (hm : Tryz.prog.underlying T = some (.map 3 3)) {W : World} {r : Nat} {ks : List Int} (h : WAt W r ks) (ty : TypeId) : (Builtin.len_ #[T] ty #[.map (some r)]).run Tryz.prog W = .ok (.int .i64 ks.length) W := by
  obtain ⟨es, clock, hb, hk, hv, hs⟩ := h
  have : es.size = ks.length := by
    have := congrArg List.length hk
    simpa using this
  rw [← this]
  simp [Builtin.len_, run_underlying hm, MapKept.run_getObj_map hb, goInt]
end Go.Proofs.YtdjeokgkeejpcaaGreatDoor

namespace Go.Proofs.YtdjeokgkeejpcaaGreatDoor
open Go Go.Proofs Go.RowKit
attribute [local go_sem] Oper.semAt_some
theorem or_one (a : Nat) (ha : a < 18446744073709551616) : ∃ m : Nat, bits .or .u64 (a : Int) 1 = (m : Nat) ∧ m ≠ 0 := by
  have h1 : (BitVec.ofInt 64 (a : Int)).toNat = a := by
    rw [BitVec.ofInt_natCast, BitVec.toNat_ofNat]; exact Nat.mod_eq_of_lt (by omega)
  have h2 : (BitVec.ofInt 64 (1 : Int)).toNat = 1 := by decide
  have h3 : a ||| 1 < 18446744073709551616 := Nat.or_lt_two_pow (n := 64) ha (by decide)
  refine ⟨a ||| 1, ?_, fun h => ?_⟩
  · show IntKind.u64.wrap ((BitVec.ofInt 64 (a : Int) ||| BitVec.ofInt 64 1).toNat : Int) = _
    rw [BitVec.toNat_or, h1, h2, IntKind.wrap_u64]
    omega
  · have := congrArg (Nat.testBit · 0) h
    simp at this
theorem idx32 (x0 x1 x2 x3 : Value) (w : World) : (Instr.index 32 (.agg #[x0, x1, x2, x3]) (.int .i64 3)).run Tryz.prog w = .ok x3 w := by kernel_rfl
theorem idx32' (x0 x1 x2 x3 : Value) (w : World) : (Instr.index 32 (.agg #[x0, x1, x2, x3]) (.int .i64 1)).run Tryz.prog w = .ok x1 w := by kernel_rfl
theorem reach_any (l : List Pt) (k : Int) : True := trivial
/-- The way up, one step. -/
theorem way_step {U : List Int} (f i : Nat) : wayF U (f + 1) i = i :: (if it U i < 0 then [] else wayF U f (it U i).toNat) := rfl
theorem mk37 (W : World) : (Instr.makeMap 37 none).run Tryz.prog W = .ok (.map (some W.heap.size)) (W.alloc (.map #[] 0)) := run_makeMap 37 W
theorem wpList_way {ops : Array Oper} {rest : List Oper} {a : Act} {Q : Exit → Act → World → Prop} {m kx v : Operand} {ty : TypeId} {pos : String} {after : Array Edge} (W : World) (r : Nat) (ks : List Int) (k : Int)
    (hm : a.eval m = .map (some r)) (hk : a.eval kx = .int .i64 k) (hv : a.eval v = .int .i64 1) (hH : WAt W r ks) (hn : k ∉ ks)
    (h : ∀ W', WAt W' r (ks ++ [k]) → Below 0 W W' → (∀ j, j ≠ r → W'.heap[j]? = W.heap[j]?) → wpList Tryz.prog ops Q rest a W') :
    wpList Tryz.prog ops Q ({ dst := none, op := .mapUpdate 37 m kx v, type := ty, pos := pos, after := after, guard := none } :: rest) a W := by
  obtain ⟨W', hr, h1, h2, h3⟩ := hH.put Tryz.underlying37 k hn
  refine wpList_plain rfl fun K hK => ?_
  have hx : (execOp a.eval { dst := none, op := .mapUpdate 37 m kx v, type := ty, pos := pos, after := after, guard := none }).run Tryz.prog W = .ok .skip W' := by
    simp only [execOp, hm, hk, hv, Sem.run_bind, hr]
    rfl
  unfold Oper.wp
  rw [hx]
  exact hK _ _ (h _ h1 h2 h3)
theorem wAt_new (W : World) : WAt (W.alloc (.map #[] 0)) W.heap.size [] := ⟨#[], 0, (MapKept.heap_alloc W _).1, rfl, by simp, MapKept.stamped_empty 0⟩
/-- What the law does behind the marks, of the parts met at i alone. -/
structure Fin (l : List Pt) (i : Nat) (U M : List Int) : Prop where
  tr : Tr l
  up : Ups l U
  ml : M.length = l.length
  iff : ∀ j, j < l.length → (it M j = 1 ↔ j ∈ wayF U (i + 1) i)
theorem Fin.of {l : List Pt} {i : Nat} {U M : List Int} {X : List Bool} {R : List Int} {f : Int} (hT : Tr l) (hU : Ups l U) (hX : StaleOk l X) (hM : MarksOk l X R f M) (hi : i < l.length) (hm : ∀ j, j < l.length → ((pt l j).met ≠ 0 ↔ j = i)) : Fin l i U M :=
  ⟨hT, hU, hM.len, fun j hj => by rw [hM.is j hj, mark1, stale_way hT hU hX hi hm j hj]⟩
theorem Fin.cnt {l : List Pt} {i : Nat} {U M : List Int} (h : Fin l i U M) (hi : i < l.length) : cntF M 1 = (wayF U (i + 1) i).length := by
  classical
  rw [cnt_one (p := fun j => decide (j ∈ wayF U (i + 1) i)) fun j hj => by rw [h.iff j (by rw [← h.ml]; exact hj)]; simp]
  refine cnt_way _ _ _ (way_falls h.tr h.up _ _ hi) fun x => ⟨fun hx => ⟨?_, by simpa using hx⟩, fun hx => by simpa using hx.2⟩
  have := way_lt h.tr h.up _ _ hi x hx
  rw [h.ml]
  omega
/-- The way so far, and the rest of it. -/
structure Wy (l : List Pt) (i : Nat) (U : List Int) (ks : List Int) (k : Int) : Prop where
  way : ∃ n : Nat, (k = -1 ∧ ks.map Int.toNat = wayF U (i + 1) i ∨ ∃ f c : Nat, k = c ∧ c < l.length ∧ c < f ∧ ks.map Int.toNat ++ wayF U f c = wayF U (i + 1) i) ∧ n = 0
  nn : ∀ x ∈ ks, 0 ≤ x
theorem Wy.start (l : List Pt) (i : Nat) (hi : i < l.length) (U : List Int) : Wy l i U [] i := ⟨⟨0, .inr ⟨i + 1, i, rfl, hi, Nat.lt_succ_self i, rfl⟩, rfl⟩, by simp⟩
theorem Wy.next {l : List Pt} {i : Nat} {U : List Int} {ks : List Int} {c : Nat} (hT : Tr l) (hU : Ups l U) (hi : i < l.length) (h : Wy l i U ks c) : c < l.length ∧ (c : Int) ∉ ks ∧ Wy l i U (ks ++ [(c : Int)]) (it U c) ∧ it U c < c ∧ -1 ≤ it U c := by
  obtain ⟨⟨n, hw, _⟩, hn⟩ := h
  rcases hw with ⟨h1, _⟩ | ⟨f, c', h1, h2, h3, h4⟩
  · omega
  · obtain rfl : c = c' := by omega
    cases f with
    | zero => omega
    | succ f =>
      have hfall := way_falls hT hU (i + 1) i hi
      rw [← h4, way_step] at hfall
      have hnot : (c : Int) ∉ ks := fun hm => by
        have h5 := (List.pairwise_append.1 hfall).2.2 c (by
          rw [List.mem_map]; exact ⟨(c : Int), hm, by simp⟩) c (List.mem_cons_self ..)
        omega
      have hnn : ∀ x ∈ ks ++ [(c : Int)], 0 ≤ x := fun x hx => by
        rcases List.mem_append.1 hx with hx | hx
        · exact hn x hx
        · rw [List.mem_singleton.1 hx]; omega
      rw [way_step] at h4
      by_cases h0 : c = 0
      · subst h0
        have hr := hU.root
        rw [hr] at h4 ⊢
        refine ⟨h2, hnot, ⟨⟨0, .inl ⟨rfl, ?_⟩, rfl⟩, hnn⟩, by omega, by omega⟩
        rw [← h4, if_pos (by decide)]
        simp
      · obtain ⟨j, hj, hlt, _⟩ := hU.dn hT (by omega) h2
        rw [hj, if_neg (by omega), Int.toNat_natCast] at h4
        rw [hj]
        refine ⟨h2, hnot, ⟨⟨0, .inr ⟨f, j, rfl, by omega, by omega, ?_⟩, rfl⟩, hnn⟩, by omega, by omega⟩
        rw [← h4]
        simp
theorem Wy.all {l : List Pt} {i : Nat} {U : List Int} {ks : List Int} {k : Int} (h : Wy l i U ks k) (hk : k < 0) : ks.map Int.toNat = wayF U (i + 1) i := by
  obtain ⟨⟨n, hw, _⟩, _⟩ := h
  rcases hw with ⟨_, h1⟩ | ⟨f, c, h1, _⟩
  · exact h1
  · omega
theorem Wy.mem {l : List Pt} {i : Nat} {U : List Int} {ks : List Int} {k : Int} (h : Wy l i U ks k) (hk : k < 0) (j : Nat) : (j : Int) ∈ ks ↔ j ∈ wayF U (i + 1) i := by
  rw [← h.all hk, List.mem_map]
  constructor
  · intro hm; exact ⟨_, hm, by simp⟩
  · rintro ⟨x, hx, e⟩
    have := h.nn x hx
    obtain rfl : x = (j : Int) := by omega
    exact hx
theorem Wy.len {l : List Pt} {i : Nat} {U : List Int} {ks : List Int} {k : Int} (h : Wy l i U ks k) (hk : k < 0) : ks.length = (wayF U (i + 1) i).length := by rw [← h.all hk, List.length_map]
theorem cp_parts {L : List (Pt × Value)} {l : List Pt} (e : L.map Prod.fst = l) : L.length = l.length := by rw [← e, List.length_map]
theorem set_fst (L : List (Pt × Value)) (i m : Nat) (hi : i < L.length) : (L.set i (metQ m L[i])).map Prod.fst = (L.map Prod.fst).set i (metP m (pt (L.map Prod.fst) i)) := by
  rw [List.map_set]
  congr 1
  simp [pt, metQ, metP, List.getD_eq_getElem?_getD, hi]
theorem met_one (l : List Pt) (i m : Nat) (hi : i < l.length) (hm : m ≠ 0) : ∀ j, j < l.length → ((pt ((l.map (metP 0)).set i (metP m (pt (l.map (metP 0)) i))) j).met ≠ 0 ↔ j = i) := by
  intro j hj
  by_cases e : i = j
  · subst e
    have : pt ((l.map (metP 0)).set i (metP m (pt (l.map (metP 0)) i))) i = metP m (pt (l.map (metP 0)) i) := by simp [pt, List.getD_eq_getElem?_getD, hi]
    rw [this]
    exact ⟨fun _ => rfl, fun _ => hm⟩
  · have : pt ((l.map (metP 0)).set i (metP m (pt (l.map (metP 0)) i))) j = pt (l.map (metP 0)) j := by simp [pt, List.getD_eq_getElem?_getD, List.getElem?_set_ne e]
    rw [this, bare_met l j hj]
    exact ⟨fun h => absurd rfl h, fun h => absurd h.symm e⟩
theorem kids_many {l : List Pt} (hT : Tr l) (j : Nat) (hj : j < l.length) : (pt l j).kids.length ≤ l.length := by
  have h1 := hT.sum
  have h2 := kidsN_add l (Nat.zero_le j) (Nat.le_of_lt hj)
  have h3 := kidsN_add l (Nat.le_succ j) hj
  have h4 := kidsN_one l hj
  have : kidsN l j l.length = kidsN l j (j + 1) + kidsN l (j + 1) l.length := h3
  omega
theorem kids_mem {l : List Pt} (hT : Tr l) (p : Pt) (hp : p ∈ l) : p.kids.length ≤ l.length := by
  obtain ⟨j, hj, rfl⟩ := List.mem_iff_getElem.1 hp
  have := kids_many hT j hj
  rwa [show pt l j = l[j] by simp [pt, List.getD_eq_getElem?_getD, hj]] at this
end Go.Proofs.YtdjeokgkeejpcaaGreatDoor

namespace Go.Proofs.YtdjeokgkeejpcaaGreatDoor
open Go Go.Proofs Go.RowKit
attribute [local go_sem] Oper.semAt_some
def M4Post (t : List Pt) (n : Nat) (e : Ending) (W : World) : Prop := ∃ gm X M, e = .returned (.slice (some ⟨gm, 0, none⟩) n n) ∧ Bx W gm 3 (intsA M) ∧ StaleOk t X ∧ MarksOk t X (reachF t 2) (-1) M
theorem marks4 {l t : List Pt} (hl : l.length ≤ 120) (hT : TrOk l) (ht : Lk l t) (lo : Option Addr) (co : Nat) (W : World) (hP : PRow W lo t) :
    Calls Tryz.prog 8 #[.slice lo l.length co, .int .i64 2, .int .i64 (-1)] W fun e w' => M4Post t l.length e w' ∧ Below W.heap.size W w' := by
  have := marks8_k t (by rw [ht.len]; exact hl) (ht.trOk hT) lo co 2 (-1) (by decide) (by decide) W hP
  unfold MkPost at this
  rw [ht.len] at this
  exact this
def U4Post (t : List Pt) (n : Nat) (w : World) (e : Ending) (w' : World) : Prop := ∃ g U, e = .returned (.slice (some ⟨g, 0, none⟩) n n) ∧ w.heap.size ≤ g ∧ Bx w' g 3 (intsA U) ∧ Ups t U ∧ Below w.heap.size w w'
theorem parents4 {l t : List Pt} (hl : l.length ≤ 120) (hT : TrOk l) (ht : Lk l t) (lo : Option Addr) (co : Nat) (W : World) (hP : PRow W lo t) :
    Calls Tryz.prog 12 #[.slice lo l.length co] W (U4Post t l.length W) := by
  have := parents12_k t (by rw [ht.len]; exact hl) (ht.trOk hT) lo co W hP
  unfold UpPost at this
  rw [ht.len] at this
  exact this
theorem count4 {M : List Int} {n : Nat} (hn : M.length = n) (hl : n ≤ 120) (g c : Nat) (W : World) (hg : Bx W g 3 (intsA M)) (q : Nat) (_ : cntF M 1 = q ∨ True) :
    Calls Tryz.prog 10 #[.slice (some ⟨g, 0, none⟩) n c] W fun e w' => e = .returned (.agg #[.int .i64 (cntF M 0 : Nat), .int .i64 (cntF M 1 : Nat), .int .i64 (cntF M 2 : Nat), .int .i64 (cntF M 3 : Nat)]) ∧ Below W.heap.size W w' := by
  subst hn
  exact count10_k M hl g c W hg
def C4Post (n : Nat) (w : World) (e : Ending) (w' : World) : Prop := ∃ c0 c1 c2 : Nat, e = .returned (.agg #[.int .i64 c0, .int .i64 c1, .int .i64 c2, .int .i64 n]) ∧ Below w.heap.size w w'
def C1Post (n : Nat) (w : World) (e : Ending) (w' : World) : Prop := ∃ c0 c2 c3 : Nat, e = .returned (.agg #[.int .i64 c0, .int .i64 n, .int .i64 c2, .int .i64 c3]) ∧ Below w.heap.size w w'
set_option maxRecDepth 100000 in
set_option maxHeartbeats 16000000 in
theorem whole_k (l : List Pt) (hll : l.length ≤ 9223372036854775807) (la : Option Addr) (c : Nat) (i : Int) (met : Nat) (hmet : met < 18446744073709551616) (w : World) (hR : PRow w la l)
    (hL : ∀ W, Below w.heap.size w W → Calls Tryz.prog 5 #[] W fun e w' => e = .returned (.bool true) ∧ Below W.heap.size W w') :
    Calls Tryz.prog 4 #[.slice la l.length c, .int .i64 i, .int .u64 met] w fun e w' => e = .returned (.bool true) ∧ Below w.heap.size w w' := by
  have hlt := fun W (hb : Below w.heap.size w W) => light_k l hll la c W (hR.below hb (Nat.le_refl _))
  have hck := fun (hl : l.length ≤ 120) W (hb : Below w.heap.size w W) => check7_k l hl la c W (hR.below hb (Nat.le_refl _))
  go_enter Tryz.func4, Tryz.ntmps4
  go_upto_region 3 with (first
    | (go_at_call 5; (with_reducible refine (hL _ (Below.refl _ w)).mono ?_); rintro e W2 ⟨rfl, hB2⟩))
  have h6 := hlt W2 hB2
  clear hL
  have h67 : Calls Tryz.prog 6 #[.slice la l.length c, .int .i64 120] W2 fun e w' => (e = .returned (.bool true) ∧ l.length ≤ 120 ∨ e = .returned (.bool false)) ∧ Below w.heap.size w w' := h6.mono (by
    rintro e W3 ⟨⟨z, rfl, hz⟩, hb3⟩
    refine ⟨?_, hB2.trans (hb3.mono hB2.size)⟩
    cases z with
    | true => exact .inl ⟨rfl, hz rfl⟩
    | false => exact .inr rfl)
  have h77 : ∀ (hl : l.length ≤ 120) W, Below w.heap.size w W → Calls Tryz.prog 7 #[.slice la l.length c] W fun e w' => (e = .returned (.int .i64 0) ∧ TrOk l ∨ ∃ z : Int, e = .returned (.int .i64 z) ∧ z ≠ 0) ∧ Below w.heap.size w w' := fun hl W hb => (hck hl W hb).mono (by
    rintro e W3 ⟨⟨z, rfl, hz⟩, hb3⟩
    refine ⟨?_, hb.trans (hb3.mono hb.size)⟩
    by_cases h : z = 0
    · exact .inl ⟨by rw [h], hz h⟩
    · exact .inr ⟨z, rfl, h⟩)
  clear h6 hlt hck
  go_upto_region 5 with (first
    | (go_at_call 6; (with_reducible refine h67.mono ?_); rintro e W3 ⟨(⟨rfl, hl⟩ | rfl), hB3⟩)
    | (go_at_call 7; (with_reducible refine (h77 hl _ hB3).mono ?_); rintro e W4 ⟨(⟨rfl, hT⟩ | ⟨z, rfl, hz⟩), hB4⟩))
  rotate_left
  · exact bodyPost_ret (v := .bool true) (by simp [results, Tryz.results4, go_sem]) rfl ⟨rfl, hB4⟩
  · exact bodyPost_ret (v := .bool true) (by simp [results, Tryz.results4, go_sem]) rfl ⟨rfl, hB3⟩
  clear h67 h77
  have h9 := bare9_k l hl hT la c W4 (hR.below hB4 (Nat.le_refl _))
  have hTr := Lib.hid hT.tr
  have hT' := Lib.hid hT
  have hpos := hT.tr.pos
  clear hR hT
  go_upto_region 6 with (go_at_call 9; ((with_reducible refine h9.mono ?_); rintro e W5 ⟨v, L, rfl, e1, hC, hb5⟩))
  clear h9
  have hB5 := hB4.trans (hb5.mono hB4.size)
  have hLl : L.length = l.length := by rw [cp_parts e1, List.length_map]
  have hkm : ∀ q, q ∈ L → q.1.kids.length ≤ 9223372036854775807 := fun q hq => by
    have h1 : q.1 ∈ l.map (metP 0) := by rw [← e1]; exact List.mem_map_of_mem hq
    have := kids_mem ((Lk.bare l).tr hTr.out) _ h1
    rw [List.length_map] at this
    omega
  obtain ⟨g, co, rfl⟩ : ∃ g co, v = .slice (some ⟨g, 0, none⟩) L.length co := by
    rcases hC.row.2 with ⟨_, h0⟩ | ⟨g, cap, cur, e, _⟩
    · omega
    · exact ⟨g, cap, e⟩
  have hP5 : PRow W5 (some ⟨g, 0, none⟩) (l.map (metP 0)) := by
    obtain ⟨la', c', e2, hP⟩ := hC.prow hkm
    simp only [Value.slice.injEq] at e2
    rw [e2.1, ← e1]
    exact hP
  have h8 := marks4 hl hT'.out (Lk.bare l) (some ⟨g, 0, none⟩) co W5 hP5
  have HC := Lib.hid hC
  have HE1 := Lib.hid e1
  have HLl := Lib.hid hLl
  have HKm := Lib.hid hkm
  rw [hLl]
  clear hC e1 hLl hkm hP5 hb5
  go_upto_region 7 with (go_at_call 8; ((with_reducible refine h8.mono ?_); rintro e W6 ⟨⟨gm, X, M, rfl, hM, hX, hMk⟩, hb6⟩))
  clear h8
  have hB6 := hB5.trans (hb6.mono hB5.size)
  have h10 : Calls Tryz.prog 10 #[.slice (some ⟨gm, 0, none⟩) l.length l.length] W6 (C4Post l.length W6) := by
    have hlen : M.length = l.length := by rw [hMk.len, List.length_map]
    refine (count4 hlen hl gm l.length W6 hM 0 (.inr trivial)).mono ?_
    rintro e W ⟨rfl, hb⟩
    have hall := marks_all ((Lk.bare l).tr hTr.out) hX (fun j hj => bare_met l j (by rw [List.length_map] at hj; exact hj)) hMk
    have h3 : cntF M 3 = l.length := by
      rw [cnt_all fun j hj => hall j (by rw [← hMk.len]; exact hj), hlen]
    rw [h3]
    exact ⟨_, _, _, rfl, hb⟩
  have h11 := fun W => pick11_k i l.length hpos hl W
  have hix := fun (x0 x1 x2 x3 : Value) W => idx32 x0 x1 x2 x3 W
  clear hM hX hMk
  go_upto_region 9 with (go_at_call 10; ((with_reducible refine h10.mono ?_); rintro e W7 ⟨c0, c1, c2, rfl, hb7⟩))
  clear h10
  have hB7 := hB6.trans (hb7.mono hB6.size)
  go_upto_region 10 with (go_at_call 11; ((with_reducible refine (h11 _).mono ?_); rintro e W8 ⟨k, hk, rfl, rfl⟩))
  clear h11 hix
  obtain ⟨m, hm1, hm2⟩ := or_one met hmet
  have hC7 := HC.out.low ((Below.refl _ W5).trans (hb6.trans (hb7.mono hb6.size))) (Nat.le_refl _)
  have hkL : k < L.length := by rw [HLl.out]; exact hk
  have hCm := hC7.met hkL m
  obtain ⟨q1, q2, q3⟩ := hC7.at7 hkL
  have q3 : W4.heap.size ≤ g := q3
  have hB8 := hB7.setCell (p := ⟨g, k * 8 + 7, none⟩) (Nat.le_trans hB4.size q3) (.int .u64 (m : Nat))
  have hP8 : PRow (W8.setCell ⟨g, k * 8 + 7, none⟩ (.int .u64 (m : Nat))) (some ⟨g, 0, none⟩) ((l.map (metP 0)).set k (metP m (pt (l.map (metP 0)) k))) := by
    rw [← HE1.out, ← set_fst L k m hkL]
    have hlen2 : (L.set k (metQ m L[k])).length = L.length := List.length_set
    rw [← hlen2] at hCm
    obtain ⟨la', c', e2, hP⟩ := hCm.prow (fun q hq => by
      rcases List.mem_or_eq_of_mem_set hq with hq | rfl
      · exact HKm.out q hq
      · exact HKm.out L[k] (List.getElem_mem hkL))
    simp only [Value.slice.injEq] at e2
    rw [e2.1]
    exact hP
  have hLk : Lk l ((l.map (metP 0)).set k (metP m (pt (l.map (metP 0)) k))) := (Lk.bare l).set k m hk
  have hmet1 := met_one l k m hk hm2
  obtain ⟨mo, hmo⟩ : ∃ z, z = (L[k]'hkL).1.met := ⟨_, rfl⟩
  rw [← hmo] at q1
  clear hmo hC7 hCm hm2 hb6 hb7
  generalize (l.map (metP 0)).set k (metP m (pt (l.map (metP 0)) k)) = t at *
  have HP8 := Lib.hid hP8
  have HLk := Lib.hid hLk
  have HMe := Lib.hid hmet1
  clear hP8 hLk hmet1 HC HE1 HKm
  have hk0 : (0 : Int) ≤ (k : Int) := by omega
  have hk1 : (k : Int) < (l.length : Int) := by omega
  go_upto_region 11 with fail
  generalize W8.setCell ⟨g, k * 8 + 7, none⟩ (.int .u64 (m : Nat)) = W9 at *
  have h8b := marks4 hl hT'.out HLk.out (some ⟨g, 0, none⟩) co W9 HP8.out
  clear q1 q2
  go_upto_region 12 with (go_at_call 8; ((with_reducible refine h8b.mono ?_); rintro e W10 ⟨⟨g2, X2, M2, rfl, b2, s2, m2⟩, hb10⟩))
  clear h8b
  have hB10 := hB8.trans (hb10.mono hB8.size)
  have hmk := fun W => mk37 W
  have hP10 := HP8.out.below hb10 (Nat.le_refl _)
  go_upto_region 15 with fail
  clear hmk
  have hwa := wAt_new W10
  have ha := (Below.refl W10.heap.size W10).alloc (Nat.le_refl _) (.map #[] 0)
  have hB11 := hB10.trans (ha.mono hB10.size)
  have hP11 := hP10.below ha (Nat.le_refl _)
  have b2 := b2.below ha b2.lt
  obtain ⟨r, hr⟩ : ∃ r, r = W10.heap.size := ⟨_, rfl⟩
  have hrl : r < (W10.alloc (.map #[] 0)).heap.size := by rw [hr]; exact hwa.lt
  have hwr : w.heap.size ≤ r := by rw [hr]; exact hB10.size
  rw [← hr] at hwa ⊢
  clear hr hP10 ha
  generalize W10.alloc (.map #[] 0) = W11 at *
  have h12 := parents4 hl hT'.out HLk.out (some ⟨g, 0, none⟩) co W11 hP11
  go_upto_region 16 with (go_at_call 12; ((with_reducible refine h12.mono ?_); rintro e W12 ⟨gu, U, rfl, hgu, bu, hu, hb12⟩))
  clear h12 hP11
  have hB12 := hB11.trans (hb12.mono hB11.size)
  have b2 := b2.below hb12 b2.lt
  have hwa := hwa.below hb12 hrl
  have htl : t.length = l.length := HLk.out.len
  have HF : Hid (Fin t k U M2) := Lib.hid (Fin.of (HLk.out.tr hTr.out) hu s2 m2 (by rw [htl]; exact hk) fun j hj => HMe.out j (by rw [← htl]; exact hj))
  have hU := Lib.hid hu
  have hm2l : M2.length = l.length := by rw [m2.len, htl]
  have hul : U.length = l.length := by rw [hu.len, htl]
  have hgr : g2 ≠ r := fun e => by
    obtain ⟨_, _, h1, _⟩ := hwa
    have h2 : W12.heap[g2]? = _ := b2
    rw [e, h1] at h2
    cases h2
  have hur : gu ≠ r := by omega
  have HM2 := Lib.hid hm2l
  have HUl := Lib.hid hul
  have HT := Lib.hid htl
  have hW0 : Hid (Wy t k U [] k) := Lib.hid (Wy.start t k (by rw [htl]; exact hk) U)
  clear hu s2 m2 hm2l hul htl hb12 hb10
  go_wp2_with fail
  go_loopw [12] (fun v wr => ∃ (ks : List Int) (kk : Int), v = .int .i64 kk ∧ -1 ≤ kk ∧ kk < l.length ∧ WAt wr r ks ∧ Hid (Wy t k U ks kk) ∧ Bx wr g2 3 (intsA M2) ∧ Bx wr gu 3 (intsA U) ∧ Below w.heap.size w wr) (fun v _ => (intOf v + 1).toNat)
  case atStart => exact ⟨[], k, rfl, by omega, hk1, hwa, hW0, b2, bu, hB12⟩
  case round =>
    obtain ⟨ks, kk, rfl, kk1, kk2, hwa', hWy, b2', bu', hB⟩ := hrel
    by_cases hneg : 0 ≤ kk
    · obtain ⟨cc, rfl⟩ : ∃ cc : Nat, kk = cc := ⟨kk.toNat, by omega⟩
      obtain ⟨n1, n2, n3, n4, n5⟩ := hWy.out.next (HLk.out.tr hTr.out) hU.out (by rw [HT.out]; exact hk)
      have q : ∀ W : World, (∀ j, j ≠ r → W.heap[j]? = wr.heap[j]?) → W.cell? ⟨gu, cc, none⟩ = some (.int .i64 (it U cc)) := fun W h => ((show Bx W gu 3 (intsA U) from (h gu hur).trans bu').cell cc).trans (intsA_get (by rw [HUl.out]; omega))
      have HN := Lib.hid n3
      obtain ⟨x, hx⟩ : ∃ x, x = it U cc := ⟨_, rfl⟩
      rw [← hx] at q n4 n5 HN
      clear hx hWy n1 n3
      go_wp2_with (at_mapUpdate; (with_reducible refine wpList_way wr r ks cc rfl rfl rfl hwa' n2 ?_); intro W13 h13 hb13 hs13; have q13 := q W13 hs13)
      go_roundw
      case rel => exact ⟨_, x, rfl, n5, by omega, h13, HN, (hs13 g2 hgr).trans b2', (hs13 gu hur).trans bu', hB.trans ⟨hb13.os, hb13.tape, hb13.output, hb13.size, fun j hj => hs13 j (by omega)⟩⟩
      case measure => simp [intOf]; omega
    · have hkn : kk < 0 := by omega
      obtain ⟨w1, rfl⟩ : ∃ w1 : World, w1 = wr := ⟨_, rfl⟩
      have hcnt : cntF M2 1 = ks.length := (HF.out.cnt (by rw [HT.out]; exact hk)).trans (hWy.out.len hkn).symm
      have hall : Hid (∀ j, j < l.length → (it M2 j = 1 ↔ (j : Int) ∈ ks)) := Lib.hid fun j hj => by rw [HF.out.iff j (by rw [HT.out]; exact hj), hWy.out.mem hkn j]
      obtain ⟨nk, hnk⟩ : ∃ z, z = ks.length := ⟨_, rfl⟩
      have hC10 : ∀ W, Below w1.heap.size w1 W → Calls Tryz.prog 10 #[.slice (some ⟨g2, 0, none⟩) l.length l.length] W (C1Post nk W) := fun W hb => (count4 HM2.out hl g2 l.length W (b2'.below hb b2'.lt) 0 (.inr trivial)).mono (by
        rintro e W ⟨rfl, hb⟩
        rw [hcnt, ← hnk]
        exact ⟨_, _, _, rfl, hb⟩)
      have hlen : ∀ W, Below w1.heap.size w1 W → ∀ ty, (Builtin.len_ #[37] ty #[.map (some r)]).run Tryz.prog W = .ok (.int .i64 nk) W := fun W hb ty => by
        rw [hnk]
        exact (hwa'.below hb hwa'.lt).len Tryz.underlying37 ty
      have hix := fun (x0 x1 x2 x3 : Value) W => idx32' x0 x1 x2 x3 W
      clear kk1 kk2 hcnt hnk hWy HF
      go_wp2_with fail
      go_loopw [13] (fun i wr => ∃ n : Nat, n ≤ l.length ∧ i = .int .i64 n ∧ Below w1.heap.size w1 wr) (fun i _ => l.length - (intOf i).toNat)
      case atStart => exact ⟨0, Nat.zero_le _, rfl, Below.refl _ _⟩
      case round =>
        obtain ⟨n, hn, rfl, hB2⟩ := hrel
        have hn0 : (0 : Int) ≤ (n : Int) := by omega
        have hBw := hB.trans (hB2.mono hB.size)
        by_cases hlt : n < l.length
        · have hn1 : (n : Int) < (l.length : Int) := by omega
          have c1 := hall.out n hlt
          have q1 : ∀ q : BW wr, q.W.cell? ⟨g2, 0 + n, none⟩ = some (.int .i64 (it M2 n)) := by
            rw [Nat.zero_add]; exact BW.cell (((hB2.cell (p := ⟨g2, n, none⟩) b2'.lt).trans (b2'.cell n)).trans (intsA_get (by rw [HM2.out]; exact hlt))) (Nat.lt_of_lt_of_le b2'.lt hB2.size)
          have hlk : ∀ q : BW wr, (Instr.lookup 37 (.map (some r)) (.int .i64 n) false).run Tryz.prog q.W = .ok (.int .i64 (if (n : Int) ∈ ks then 1 else 0)) q.W := fun q => ((hwa'.below hB2 hwa'.lt).below q.h (hwa'.below hB2 hwa'.lt).lt).look Tryz.underlying37 n
          obtain ⟨x1, hx1⟩ : ∃ x, x = it M2 n := ⟨_, rfl⟩
          rw [← hx1] at c1 q1
          have p1 := q1
          simp only [Nat.zero_add] at p1
          clear hx1
          by_cases hm : (n : Int) ∈ ks
          · rw [if_pos hm] at hlk
            obtain rfl : x1 = 1 := c1.2 hm
            clear c1 hm hC10 hlen hix
            go_upto_region 23 with (fail)
            refine region_below (by kernel_rfl) (by kernel_rfl) ?_
            repeat (go_big_quiet_step (fail))
            refine wpQuiet_nil ?_
            rintro _ ⟨q, rfl⟩
            go_wp2_with fail
            go_roundw
            case rel => exact ⟨n + 1, by omega, by simp, hB2.trans (q.h.mono hB2.size)⟩
            case measure => simp [intOf]; omega
          · rw [if_neg hm] at hlk
            have hx : (x1 == 1) = false := beq_eq_false_iff_ne.2 fun h => hm (c1.1 h)
            clear c1 hm hC10 hlen hix
            go_upto_region 23 with (fail)
            refine region_below (by kernel_rfl) (by kernel_rfl) ?_
            repeat (go_big_quiet_step (fail))
            refine wpQuiet_nil ?_
            rintro _ ⟨q, rfl⟩
            go_wp2_with fail
            go_roundw
            case rel => exact ⟨n + 1, by omega, by simp, hB2.trans (q.h.mono hB2.size)⟩
            case measure => simp [intOf]; omega
        · have hn1 : ¬ (n : Int) < (l.length : Int) := by omega
          have h10 := hC10 wr hB2
          clear hC10 hall
          go_wp2_with (go_at_call 10; ((with_reducible refine h10.mono ?_); rintro e W14 ⟨d0, d2, d3, rfl, hb14⟩; have hl14 := hlen W14 (hB2.trans (hb14.mono hB2.size))))
          exact bodyPost_ret (v := .bool true) (by simp [results, Tryz.results4, go_sem]) rfl ⟨rfl, hBw.trans (hb14.mono hBw.size)⟩
end Go.Proofs.YtdjeokgkeejpcaaGreatDoor

namespace Go.Proofs.YtdjeokgkeejpcaaGreatDoor
open Go Go.Proofs Go.ChangeShapes Go.WideShapes Go.ChangeAt Go.RowKit
set_option maxRecDepth 100000 in
set_option maxHeartbeats 1000000 in
theorem marksWhole_lifted (os : Os) (started : os.Started) (H : Type) (enc : TypeId × Value → H) :
    ReturnsInHanded {} Tryz.checked os 4 .any (fun w args => (Rows.marksWholeSpec.pre enc Tryz.prog Tryz.f4 [] false w args ∧ laidMetH Tryz.prog laid1 w) ∧ sizedMet enc Tryz.prog Tryz.f4 (OpenSpec.ofChange Rows.marksWholeSpec) false w args)
      (Rows.marksWholeSpec.post enc Tryz.prog Tryz.f4 false true false false) := by
  refine returnsInHanded_of_change_and (C := Tryz.checked) (X := fun w _ => laidMetH Tryz.prog laid1 w) (fun _ _ _ hh h => h.of_heap hh) own started (by kernel_rfl) Tryz.func4
    (ChangeSpec.witness_shaped (enc := enc) (C := Tryz.checked) (os := os) (X := fun w _ => laidMetH Tryz.prog laid1 w) false (World.doorLaid Tryz.prog 14 os) #[.slice none 0 0, .int .i64 0, .int .u64 0] 8 rfl (World.shaped_of_RefB (by kernel_rfl) (by kernel_rfl)) (by kernel_rfl) (by kernel_rfl) (by kernel_rfl) (door_met os #[.slice none 0 0, .int .i64 0, .int .u64 0])) ?_
  intro W base args ds gs before hval0 hW _ _ hL _
  have hval : ∀ (j : Nat) t v, Tryz.f4.params[j]? = some t → args[j]? = some v → Value.okWide Tryz.prog W .any base t v := hval0
  have hW' := hW
  obtain ⟨p, q, hA0, hV, rfl, hfz, hnd⟩ := hW
  have hA : DataW.TrodAll enc Tryz.prog W 0 (fun _ => true) true Tryz.f4.params.toList args.toList ds p := hA0
  rw [Tryz.params4] at hA hval
  obtain ⟨rfl, rfl⟩ := trodVars_none hV
  obtain ⟨v0, l, d0, dl, p0, q0, h0, rfl, rfl, k0, hA⟩ := trodAll_cons hA
  obtain ⟨v1, l, d1, dl, p1, q1, rfl, rfl, rfl, k1, hA⟩ := trodAll_cons hA
  obtain ⟨v2, l, d2, dl, p2, q2, rfl, rfl, rfl, k2, hA⟩ := trodAll_cons hA
  obtain ⟨rfl, rfl, rfl⟩ := trodAll_nil hA
  have ha : args = #[v0, v1, v2] := by cases args; simp_all
  subst ha
  obtain ⟨z1, rfl, rfl, rfl, _⟩ := open_int Tryz.underlying3 (hval 1 3 v1 rfl rfl) k1
  obtain ⟨z2, rfl, rfl, rfl, w2⟩ := open_int Tryz.underlying30 (hval 2 30 v2 rfl rfl) k2
  obtain ⟨la, l, c, rfl, hll, hR⟩ := open_parts (hval 0 22 v0 rfl rfl) k0
  obtain ⟨m, rfl, hm⟩ := nat_of_u64 w2
  have hcall := whole_k l hll la c z1 m hm W hR (fun W1 hB => lives_k (numsAt hL) W1 hB)
  refine hcall.mono fun e W' ⟨he, hkp⟩ => ?_
  subst he
  exact ⟨_, rfl, AX.post_true (l := [22, 36, 3, 27, 30]) (by kernel_rfl) (by rw [Tryz.params4]; simp) hW' (fun _ _ _ => (trodAll_cons_mk (shut_bool Tryz.underlying4 _) trodAll_mk0)) rfl rfl rfl (below_kept hkp) (Go.RowKit.ok_one (by kernel_rfl) rfl (okWide_bool_mk Tryz.underlying4 _))⟩

theorem marksWhole_holds : Rows.MarksWholeSaid :=
  OpenClaim.holds_of_wide 4 Tryz.f4 rfl rfl rfl rfl rfl rfl rfl ⟨rfl, rfl, rfl, rfl, rfl⟩ rfl rfl rfl rfl rfl (by kernel_rfl) Tryz.func4 (by kernel_rfl)
    (of_decide_eq_true (by kernel_rfl)) (by unfold Func.isWrapper; first | (rw [if_pos (by decide +kernel)]; kernel_rfl) | (rw [if_neg (by decide +kernel)]; exact ⟨rfl, rfl⟩))
    (fun os started H enc _ => marksWhole_lifted os started H enc)

theorem marksWhole_card : Rows.MarksWholeCardSaid :=
  Claim7.holds_tied_plain_at .later [] [.data] true (true, "40b4eb62889484b44fac0c70dcb65e7f928949305a467701fcadfbb0d62f9733") true
    marksWhole_holds (fun _ h => by cases h) (by kernel_rfl) (fun _ h => by cases h) marksWhole_row_tie rfl ⟨rfl, rfl⟩ (by kernel_rfl) rfl
    (fun f fn hf hfn => by
      obtain rfl : f = 4 := Option.some.inj ((show Tryz.prog.funcNamed "viewport/viewportlaw19.MarksWhole" = some 4 by kernel_rfl).symm.trans hf) |>.symm
      obtain rfl : fn = Tryz.f4 := (Option.some.inj (Tryz.func4.symm.trans hfn)).symm
      exact ⟨by kernel_rfl, fun j t ht => by
        rw [Tryz.params4] at ht
        match j, ht with
        | 0, ht => cases ht; exact (show Tryz.prog.wantsStandIn 22 = false by kernel_rfl)
        | 1, ht => cases ht; exact (show Tryz.prog.wantsStandIn 3 = false by kernel_rfl)
        | 2, ht => cases ht; exact (show Tryz.prog.wantsStandIn 30 = false by kernel_rfl)⟩)
    (by kernel_rfl)
#print axioms marksWhole_card
end Go.Proofs.YtdjeokgkeejpcaaGreatDoor
