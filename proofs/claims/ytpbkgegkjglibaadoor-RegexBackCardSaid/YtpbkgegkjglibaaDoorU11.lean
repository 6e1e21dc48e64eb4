/- Regex: Text 14 walked. -/
import Derived.Test.YtpbkgegkjglibaaDoorU8
import Derived.Test.YtpbkgegkjglibaaDoorW8
import Derived.Test.YtpbkgegkjglibaaDoorW17
import Derived.Test.YtpbkgegkjglibaaDoorR10
namespace Go.Proofs.YtpbkgegkjglibaaDoor
open Go Go.Proofs Go.RowKit
attribute [local go_sem] Oper.semAt_some
theorem upd_k (W : World) (r clock : Nat) (es : Array MapEntry) (k : Int) (val : Value) (hb : W.heap[r]? = some (.map es clock)) (hf : Instr.findNow (.int .i64) (.int .i64 k) es.toList 0 = some none) :
    (Instr.mapUpdate 68 (.map (some r)) (.int .i64 k) val).run Tryd.prog W = .ok () { W with heap := W.heap.setIfInBounds r (.map (es.push { key := .int .i64 k, val := val, born := clock }) (clock + 1)) } := by
  have hc : (Instr.checkKey false 10000 3 (.int .i64 k)).run Tryd.prog W = .ok () W := MapKept.run_checkKey (k := .int .i64 k) Tryd.underlying3 (by simp [MapKept.IsKey]) false 9999
  simp [Instr.mapUpdate, run_underlying Tryd.underlying68, MapKept.run_getObj_map hb, hc, MapKept.run_findKey Tryd.underlying3 hf, MapKept.run_setObj_map _ hb, Result.andThen]
theorem look_k (W : World) (r clock : Nat) (es : Array MapEntry) (hne : es.isEmpty = false) (k : Int) (a : Option (Nat × Value)) (hb : W.heap[r]? = some (.map es clock)) (hf : Instr.findNow (.int .i64) (.int .i64 k) es.toList 0 = some a) :
    (Instr.lookup 68 (.map (some r)) (.int .i64 k) false).run Tryd.prog W = .ok ((a.map (fun p => p.2)).getD (.slice none 0 0)) W := by
  have hc : (Instr.checkKey false 10000 3 (.int .i64 k)).run Tryd.prog W = .ok () W := MapKept.run_checkKey (k := .int .i64 k) Tryd.underlying3 (by simp [MapKept.IsKey]) false 9999
  cases a with
  | none => simp [Instr.lookup, run_underlying Tryd.underlying68, MapKept.run_getObj_map hb, hne, hc, MapKept.run_findKey Tryd.underlying3 hf, Tryd.zeroValue67, Result.andThen]
  | some p => simp [Instr.lookup, run_underlying Tryd.underlying68, MapKept.run_getObj_map hb, hne, hc, MapKept.run_findKey Tryd.underlying3 hf, Result.andThen]
theorem wpList_insert {ops : Array Oper} {rest : List Oper} {a : Act} {Q : Exit → Act → World → Prop} {m kx v : Operand} {ty : TypeId} {pos : String} {after : Array Edge} (W : World) (r clock : Nat) (es : Array MapEntry) (k : Int) (val : Value)
    (hm : a.eval m = .map (some r)) (hk : a.eval kx = .int .i64 k) (hv : a.eval v = val) (hb : W.heap[r]? = some (.map es clock)) (hf : Instr.findNow (.int .i64) (.int .i64 k) es.toList 0 = some none)
    (h : ∀ W', W'.heap[r]? = some (.map (es.push { key := .int .i64 k, val := val, born := clock }) (clock + 1)) → AX.But r W W' → wpList Tryd.prog ops Q rest a W') :
    wpList Tryd.prog ops Q ({ dst := none, op := .insert 68 m kx v, type := ty, pos := pos, after := after, guard := none } :: rest) a W := by
  refine wpList_plain rfl fun K hK => ?_
  have hr : (execOp a.eval { dst := none, op := .insert 68 m kx v, type := ty, pos := pos, after := after, guard := none }).run Tryd.prog W = .ok .skip { W with heap := W.heap.setIfInBounds r (.map (es.push { key := .int .i64 k, val := val, born := clock }) (clock + 1)) } := by
    simp only [execOp, hm, hk, hv, Sem.run_bind, upd_k W r clock es k val hb hf]
    rfl
  unfold Oper.wp
  rw [hr]
  obtain ⟨g1, g2⟩ := MapKept.heap_set (o' := .map (es.push { key := .int .i64 k, val := val, born := clock }) (clock + 1)) hb
  refine hK _ _ (h _ g1 ⟨⟨rfl, rfl, rfl, ?_, fun j hj => absurd hj (Nat.not_lt_zero _)⟩, fun j hj hne => g2 j hne⟩)
  simp
/-- The bytes behind a node's parts. -/
def behV (k : Int) : List UInt8 := if k = 5 then [42] else if k = 6 then [43] else if k = 7 then [63] else []
/-- The map of what stands behind. -/
def Beh (W : World) (r : Nat) : Prop := ∃ b c d : Nat, W.heap[r]? = some (.map #[{ key := .int .i64 5, val := .slice (some ⟨b, 0, none⟩) 1 1, born := 0 }, { key := .int .i64 6, val := .slice (some ⟨c, 0, none⟩) 1 1, born := 1 }, { key := .int .i64 7, val := .slice (some ⟨d, 0, none⟩) 1 1, born := 2 }] 3) ∧
  Bx W b 5 #[.int .u8 42] ∧ Bx W c 5 #[.int .u8 43] ∧ Bx W d 5 #[.int .u8 63]
theorem Beh.lt {W : World} {r : Nat} (h : Beh W r) : r < W.heap.size := by
  obtain ⟨_, _, _, h, _⟩ := h
  exact (Array.getElem?_eq_some_iff.1 h).1
theorem Beh.below {W W' : World} {r n : Nat} (h : Beh W r) (hb : Below n W W') (hn : W.heap.size ≤ n) : Beh W' r := by
  have hl := h.lt
  obtain ⟨b, c, d, h1, h2, h3, h4⟩ := h
  exact ⟨b, c, d, (hb.block r (by omega)).trans h1, h2.below hb (Nat.lt_of_lt_of_le h2.lt hn), h3.below hb (Nat.lt_of_lt_of_le h3.lt hn), h4.below hb (Nat.lt_of_lt_of_le h4.lt hn)⟩
theorem cells_ne {W : World} {A B : Nat} {t t' : TypeId} {cs cs' : Array Value} (h : Bx W A t cs) (h' : Bx W B t' cs') (ht : t ≠ t') : B ≠ A := by
  rintro rfl
  have := (show W.heap[B]? = _ from h).symm.trans h'
  cases this
  exact ht rfl
theorem map_ne {W : World} {A B : Nat} {t : TypeId} {cs : Array Value} {es : Array MapEntry} {n : Nat} (h : Bx W A t cs) (h' : W.heap[B]? = some (.map es n)) : B ≠ A := by
  rintro rfl
  have := (show W.heap[B]? = _ from h).symm.trans h'
  cases this
theorem Beh.but {W W' : World} {r A : Nat} {t : TypeId} {cs : Array Value} (h : Beh W r) (hA : Bx W A t cs) (ht : t ≠ 5) (hb : AX.But A W W') : Beh W' r := by
  have hl := h.lt
  obtain ⟨b, c, d, h1, h2, h3, h4⟩ := h
  exact ⟨b, c, d, (hb.same r hl (map_ne hA h1)).trans h1, (hb.same b h2.lt (cells_ne hA h2 ht)).trans h2, (hb.same c h3.lt (cells_ne hA h3 ht)).trans h3, (hb.same d h4.lt (cells_ne hA h4 ht)).trans h4⟩
theorem find3 (x y z : Value) (k : Int) : Instr.findNow (.int .i64) (.int .i64 k) [{ key := .int .i64 5, val := x, born := 0 }, { key := .int .i64 6, val := y, born := 1 }, { key := .int .i64 7, val := z, born := 2 }] 0 =
    some (if k = 5 then some (0, x) else if k = 6 then some (1, y) else if k = 7 then some (2, z) else none) := by
  by_cases h5 : k = 5
  · subst h5; rfl
  by_cases h6 : k = 6
  · subst h6; rfl
  by_cases h7 : k = 7
  · subst h7; rfl
  have e5 : (k == 5) = false := by simp [h5]
  have e6 : (k == 6) = false := by simp [h6]
  have e7 : (k == 7) = false := by simp [h7]
  simp [Instr.findNow, Instr.sameNow, h5, h6, h7, e5, e6, e7]
set_option maxRecDepth 100000 in
theorem Beh.tell {W : World} {r T : Nat} {t : TypeId} {cs : Array Value} (h : Beh W r) (hT : Bx W T t cs) (ht : t ≠ 5) (k : Int) : ∃ v, ∀ W', AX.But T W W' → (Instr.lookup 68 (.map (some r)) (.int .i64 k) false).run Tryd.prog W' = .ok v W' ∧ (convert 67 9 v).run Tryd.prog W' = .ok (.string ⟨(behV k).toArray⟩) W' := by
  have hl := h.lt
  obtain ⟨b, c, d, h1, h2, h3, h4⟩ := h
  refine ⟨((if k = 5 then some (0, .slice (some ⟨b, 0, none⟩) 1 1) else if k = 6 then some (1, .slice (some ⟨c, 0, none⟩) 1 1) else if k = 7 then some (2, .slice (some ⟨d, 0, none⟩) 1 1) else none : Option (Nat × Value)).map (fun p => p.2)).getD (.slice none 0 0), fun W' hb => ?_⟩
  replace h1 := (hb.same r hl (map_ne hT h1)).trans h1
  replace h2 : Bx W' b 5 _ := (hb.same b h2.lt (cells_ne hT h2 ht)).trans h2
  replace h3 : Bx W' c 5 _ := (hb.same c h3.lt (cells_ne hT h3 ht)).trans h3
  replace h4 : Bx W' d 5 _ := (hb.same d h4.lt (cells_ne hT h4 ht)).trans h4
  refine ⟨look_k W' r 3 _ rfl k _ h1 (find3 _ _ _ k), ?_⟩
  by_cases h5 : k = 5
  · subst h5
    exact conv_one W' b 42 (h2.cell 0)
  by_cases h6 : k = 6
  · subst h6
    exact conv_one W' c 43 (h3.cell 0)
  by_cases h7 : k = 7
  · subst h7
    exact conv_one W' d 63 (h4.cell 0)
  rw [if_neg h5, if_neg h6, if_neg h7, behV, if_neg h5, if_neg h6, if_neg h7]
  exact run_convert_bytes_nil W' 67 5 Tryd.underlying67 Tryd.underlying5 _ _ 9 Tryd.underlying9
end Go.Proofs.YtpbkgegkjglibaaDoor

namespace Go.Proofs.YtpbkgegkjglibaaDoor
open Go Go.Proofs Go.RowKit
attribute [local go_sem] Oper.semAt_some
def strV (t : List UInt8) : Value := .string ⟨t.toArray⟩
def kidT (acc : List (Int × List UInt8)) (kd k : Int) : List UInt8 := if brkV kd (acc.getD k.toNat (0, [])).1 then 40 :: ((acc.getD k.toNat (0, [])).2 ++ [41]) else (acc.getD k.toNat (0, [])).2
def clsT (x : Nd) : List UInt8 := (ctV ((bytesB x.a x.b x.c x.d).map UInt8.ofNat)).data.toList
def nodeT (acc : List (Int × List UInt8)) (x : Nd) : List UInt8 :=
  if x.k = 1 then [40, 41] else if x.k = 2 then clsT x else if x.k = 4 then Lib.join (x.kids.map (kidT acc x.k)) [124] else Lib.join (x.kids.map (kidT acc x.k)) [] ++ behV x.k
def txK (acc : List (Int × List UInt8)) (x : Nd) : List (Int × List UInt8) := acc ++ [(x.k, nodeT acc x)]
def txs (r : List Nd) : List (Int × List UInt8) := r.foldl txK []
theorem txs_snoc (r : List Nd) (x : Nd) : txs (r ++ [x]) = txs r ++ [(x.k, nodeT (txs r) x)] := by simp [txs, txK]
theorem txs_len (r : List Nd) : (txs r).length = r.length := by
  have h : ∀ (r : List Nd) (acc : List (Int × List UInt8)), (r.foldl txK acc).length = acc.length + r.length := by
    intro r
    induction r with
    | nil => simp
    | cons x r ih => intro acc; rw [List.foldl_cons, ih]; simp [txK]; omega
  have := h r []
  simpa [txs] using this
/-- The text of an expression. -/
def textOf (r : List Nd) : List UInt8 := ((txs r).getLastD (0, [])).2
/-- The row of texts behind i nodes. -/
def txRow (r : List Nd) (i : Nat) : List (List UInt8) := (txs (r.take i)).map (·.2) ++ List.replicate (r.length - i) []
theorem txRow_len (r : List Nd) (i : Nat) (h : i ≤ r.length) : (txRow r i).length = r.length := by
  unfold txRow
  rw [List.length_append, List.length_map, txs_len, List.length_take, List.length_replicate]
  omega
theorem txRow_kid (r : List Nd) (i j : Nat) (h : i ≤ r.length) (hj : j < i) : (txRow r i)[j]? = some ((txs (r.take i)).getD j (0, [])).2 := by
  unfold txRow
  have hl : j < (txs (r.take i)).length := by rw [txs_len, List.length_take]; omega
  rw [List.getElem?_append_left (by rw [List.length_map]; exact hl), List.getElem?_map, List.getD_eq_getElem?_getD, List.getElem?_eq_getElem hl]
  rfl
theorem txs_at : ∀ (n : Nat) (r : List Nd), r.length = n → ∀ (j : Nat) (x : Nd), r[j]? = some x → (txs r).getD j (0, []) = (x.k, nodeT (txs (r.take j)) x) := by
  intro n
  induction n with
  | zero => intro r hr j x hx; obtain rfl : r = [] := List.eq_nil_of_length_eq_zero hr; simp at hx
  | succ n ih =>
    intro r hr j x hx
    obtain ⟨r', y, rfl⟩ : ∃ r' y, r = r' ++ [y] := ⟨r.dropLast, r.getLast (by intro e; rw [e] at hr; simp at hr), (List.dropLast_concat_getLast _).symm⟩
    rw [txs_snoc]
    by_cases hj : j < r'.length
    · rw [List.getElem?_append_left hj] at hx
      have := ih r' (by simp at hr; exact hr) j x hx
      rw [List.getD_eq_getElem?_getD, List.getElem?_append_left (by rw [txs_len]; exact hj), ← List.getD_eq_getElem?_getD, List.take_append_of_le_length (by omega)]
      exact this
    · have hl := (List.getElem?_eq_some_iff.1 hx).1
      simp at hl
      obtain rfl : j = r'.length := by omega
      rw [List.getElem?_append_right (Nat.le_refl _), Nat.sub_self] at hx
      simp at hx
      subst hx
      rw [List.getD_eq_getElem?_getD, List.getElem?_append_right (by rw [txs_len]; exact Nat.le_refl _), txs_len, Nat.sub_self, List.take_left]
      rfl
theorem txs_below (r : List Nd) (k m : Nat) (hm : m < k) (x : Nd) (hx : r[m]? = some x) : (txs (r.take k)).getD m (0, []) = (x.k, nodeT (txs (r.take m)) x) := by
  have := txs_at _ (r.take k) rfl m x (by rw [List.getElem?_take, if_pos hm]; exact hx)
  rw [List.take_take, Nat.min_eq_left (Nat.le_of_lt hm)] at this
  exact this
theorem txRow_next (r : List Nd) (i : Nat) (x : Nd) (hx : r[i]? = some x) : (txRow r i).set i (nodeT (txs (r.take i)) x) = txRow r (i + 1) := by
  have hl := (List.getElem?_eq_some_iff.1 hx).1
  unfold txRow
  have e1 : r.take (i + 1) = r.take i ++ [x] := by rw [List.take_add_one, hx]; rfl
  have e2 : ((txs (r.take i)).map (fun q => q.2)).length = i := by rw [List.length_map, txs_len, List.length_take]; omega
  rw [e1, txs_snoc, List.map_append, List.set_append_right _ _ (by rw [e2]; exact Nat.le_refl _), e2, Nat.sub_self]
  obtain ⟨m, hm⟩ : ∃ m, r.length - i = m + 1 := ⟨r.length - i - 1, by omega⟩
  rw [hm, show r.length - (i + 1) = m by omega, List.replicate_succ, List.set_cons_zero]
  simp
/-- The row of texts in memory. -/
def TxAt (W : World) (B : Nat) (l : List (List UInt8)) : Prop := Bx W B 9 (l.map strV).toArray
theorem TxAt.cell {W : World} {B : Nat} {l : List (List UInt8)} (h : TxAt W B l) (j : Nat) (t : List UInt8) (hj : l[j]? = some t) : W.cell? ⟨B, j, none⟩ = some (strV t) := by
  have h' : Bx W B 9 (l.map strV).toArray := h
  have e : (l.map strV).toArray[j]? = some (strV t) := by rw [List.getElem?_toArray, List.getElem?_map, hj]; exact Option.map_some _ _
  exact (Bx.cell h' j).trans e
theorem info9' : (Tryd.prog.info? 9).map (fun i => (i.zero, i.size, i.bytes)) = some (some (.string ⟨#[]⟩), 1, 16) := by kernel_rfl
theorem mk_strs (n : Nat) (hn : n ≤ 1000) (w : World) : ∃ W0, (Instr.makeSlice 69 (.int .i64 n) (.int .i64 n)).run Tryd.prog w = .ok (.slice (some ⟨w.heap.size, 0, none⟩) n n) W0 ∧ TxAt W0 w.heap.size (List.replicate n []) ∧ Below w.heap.size w W0 ∧ W0.heap.size = w.heap.size + 1 := by
  obtain ⟨ti, hi, hz0, hz1, hz2⟩ := info_parts info9'
  have h := run_makeSlice (P := Tryd.prog) (w := w) 69 9 ti (.string ⟨#[]⟩) Tryd.underlying69 hi hz0 .i64 .i64 (n : Int) (n : Int) (by omega) (Int.le_refl _) (by rw [hz1]; simp; omega) (by rw [hz2]; omega) (by omega)
  have e : madeCells (Value.string ⟨#[]⟩).cells (n * ti.size) = ((List.replicate n ([] : List UInt8)).map strV).toArray := by
    change madeCells #[Value.string ⟨#[]⟩] (n * ti.size) = _
    rw [hz1, Nat.mul_one]
    apply Array.ext'
    apply List.ext_getElem?
    intro i
    by_cases hi : i < n
    · have := made_get (.string ⟨#[]⟩) n i hi
      rw [Array.getElem?_toList, this]
      simp [hi, strV]
    · rw [Array.getElem?_toList, Array.getElem?_eq_none (by simp [madeCells]; omega)]
      simp; omega
  rw [Int.toNat_natCast, e] at h
  exact ⟨_, h, Bx.new w 9 _, (Below.refl _ w).alloc (Nat.le_refl _) _, by simp⟩
/-- Texts of one's own. -/
def StOwn (W : World) (base : Nat) (v : Value) (l : List (List UInt8)) : Prop := W.ownsRow base 9 1 v l.length (l.map strV)
theorem append_st {ops : Array Oper} {rest : List Oper} {o : Oper} {a : Act} {Q : Exit → Act → World → Prop} (W : World) (base : Nat) (v : Value) (pre : List (List UInt8)) (x : List UInt8) (hgd : o.guard = none) (s y : Operand)
    (ho : o.op = .call { callee := .builtin .append, args := #[s, y], argTypes := #[69, 69] }) (hs : a.eval s = v) (hown : StOwn W base v pre) (B c : Nat) (hx : a.eval y = .slice (some ⟨B, 0, none⟩) 1 c)
    (hc : W.cell? ⟨B, 0, none⟩ = some (strV x)) (hl : pre.length ≤ 100000) (hb : base ≤ W.heap.size)
    (h : ∀ v' w', StOwn w' base v' (pre ++ [x]) → W.grownBy w' v.ownBlock → wpList Tryd.prog ops Q rest (a.put o.dst v') w') : wpList Tryd.prog ops Q (o :: rest) a W := by
  obtain ⟨ti, hi, hz0, hz1, hz2⟩ := info_parts info9'
  refine wpList_append_own_at (P := Tryd.prog) (w := W) hgd s y 69 ho base 9 ti (.string ⟨#[]⟩) 1 16 Tryd.underlying69 hi hz0 hz1 hz2 rfl (by decide) v pre.length _ hs hown ⟨B, 0, none⟩ 1 c [strV x] hx rfl
    (fun j u hj => by
      rw [addr_add, Nat.zero_add]
      cases j with
      | zero => simp at hj; rw [← hj]; exact hc
      | succ j => simp at hj) (fun u hu => by rw [List.mem_singleton.1 hu]; rfl) (by unfold maxLen; omega) (by omega) hb ?_
  intro v' w' h1 h2 _ h4
  refine h v' w' ?_ h2
  unfold StOwn
  rw [List.length_append, List.map_append]
  exact h1
/-- strings.Join of texts of one's own. -/
theorem jn_k (sep : List UInt8) (W : World) (base : Nat) (v : Value) (l : List (List UInt8)) (h : StOwn W base v l) (hl : l.length ≤ 100000) (hs : (Lib.join l sep).length ≤ 2000000) :
    Calls Tryd.prog 35 #[v, .string ⟨sep.toArray⟩] W fun e w' => e = .returned (strV (Lib.join l sep)) ∧ Below W.heap.size W w' := by
  rcases h.2 with ⟨rfl, hn⟩ | ⟨g, cap, cur, rfl, hg, hc, h3, h4, h5, h6⟩
  · obtain rfl : l = [] := List.eq_nil_of_length_eq_zero hn
    refine (join_none none 0 _ W).mono ?_
    rintro e w' ⟨rfl, rfl⟩
    exact ⟨rfl, Below.refl _ _⟩
  · have hm : (l.map (fun t => (⟨t.toArray⟩ : ByteArray))).map (fun s => s.data.toList) = l := by
      rw [List.map_map]
      exact (List.map_congr_left fun _ _ => rfl).trans (List.map_id _)
    have := join_some g 0 cap (l.map (fun t => (⟨t.toArray⟩ : ByteArray))) ⟨sep.toArray⟩ W (fun j x hj => by
      rw [Nat.zero_add]
      rw [List.getElem?_map] at hj
      obtain ⟨t, ht, rfl⟩ : ∃ t, l[j]? = some t ∧ (⟨t.toArray⟩ : ByteArray) = x := by
        cases e : l[j]? with
        | none => rw [e] at hj; cases hj
        | some t => rw [e] at hj; exact ⟨t, rfl, Option.some.inj hj⟩
      have hjl := (List.getElem?_eq_some_iff.1 ht).1
      have h7 := h.cellAt j (by simpa using hjl)
      rw [h7]
      simp [ht, strV]) (Array.getElem?_eq_some_iff.1 hc).1 (by simp; omega) (by simpa using h3) (by rw [hm]; simp; omega)
    rw [hm] at this
    rw [List.length_map] at this
    exact this
end Go.Proofs.YtpbkgegkjglibaaDoor

namespace Go.Proofs.YtpbkgegkjglibaaDoor
open Go Go.Proofs Go.RowKit
attribute [local go_sem] Oper.semAt_some
theorem brk_b (i p : Int) (w : World) : ∀ q : AX.BW w, Calls Tryd.prog 33 #[.int .i64 i, .int .i64 p] q.W fun x w' => x = .returned (.bool (brkV i p)) ∧ ∃ q : AX.BW w, w' = q.W := fun q =>
  AX.below_of ((brk_k i p q.W).mono fun e w' h => ⟨h.1, by rw [h.2]; exact Below.refl _ _⟩)
theorem StOwn.below {W W' : World} {base n : Nat} {v : Value} {l : List (List UInt8)} (h : StOwn W base v l) (hb : Below n W W') (hn : W.heap.size ≤ n) : StOwn W' base v l :=
  World.ownsRow.kept (row := none) h ⟨hb.os, hb.tape, hb.output, hb.size, fun j hj _ => hb.block j (by omega)⟩ (by cases hv : v.ownBlock <;> simp)
theorem add_lists (W : World) (x y : List UInt8) (h : x.length + y.length ≤ 9223372036854775807) : (Op.stringOp .add ⟨x.toArray⟩ ⟨y.toArray⟩).run Tryd.prog W = .ok (.string ⟨(x ++ y).toArray⟩) W := by
  rw [run_string_add_sum (P := Tryd.prog) (w := W) ⟨x.toArray⟩ ⟨y.toArray⟩ h]
  congr 2
theorem sz9 : AX.sizeT Tryd.prog 9 = some 1 := by kernel_rfl
theorem TxAt.set {W' : World} {T k : Nat} {l : List (List UInt8)} {t : List UInt8} (h : W'.heap[T]? = some (.cells ((l.map strV).toArray.setIfInBounds k (strV t)) 9 (0, 0))) : TxAt W' T (l.set k t) := by
  refine h.trans ?_
  rw [List.setIfInBounds_toArray, ← List.map_set]
theorem wlt_of {x : Nd} (h : x.Wd) : wlt x.a x.b x.c x.d := fun k => by
  unfold wd
  split
  · exact h.a
  split
  · exact h.b
  split
  · exact h.c
  · exact h.d
def plan14_19 : AX.Plan := .plain 0 (.plain 1 (.plain 2 (.plain 4 (.plain 5 (.plain 6 (.two 3 (.one 7 (.plain 8 (.plain 9 (.plain 10 (.one 11 (.nil)))))) 7 (.plain 8 (.one 3 (.plain 9 (.plain 10 (.one 11 (.nil))))))))))))
def inf14_19 : List AX.Inf := [⟨0, 4611686018427387904, 64, true⟩, ⟨0, 9223372036854775808, 128, true⟩, ⟨0, 18446744073709551616, 512, true⟩, ⟨4, 36893488147419103232, 18446744073709551616, false⟩, ⟨0, 73786976294838206464, 32, true⟩, ⟨0, 147573952589676412928, 256, true⟩, ⟨32, 295147905179352825856, 147573952589676412928, true⟩, ⟨80, 590295810358705651712, 368934881474191032320, false⟩, ⟨128, 1180591620717411303424, 590295810358705651712, true⟩, ⟨264, 2361183241434822606848, 1217485108864830406656, true⟩, ⟨1023, 4722366482869645213696, 13835058055282163712, true⟩, ⟨2047, 0, 7083549724304467820544, false⟩]
theorem fit14_19 : AX.planF inf14_19 plan14_19 0 12 = true := by kernel_rfl
theorem ins_id {P : Program} {ops : Array Oper} {Q : Exit → Act → World → Prop} {a : Act} {w : World} {rest : List Oper} {t : TypeId} {m x y : Operand} {ty : TypeId} {pos : String} {after : Array Edge}
    (h : wpList P ops Q ({ dst := none, op := .insert t m x y, type := ty, pos := pos, after := after, guard := none } :: rest) a w) :
    wpList P ops Q ({ dst := none, op := .insert t m x y, type := ty, pos := pos, after := after, guard := none } :: rest) a w := h
set_option maxRecDepth 100000 in
set_option maxHeartbeats 4000000 in
theorem text_k (r : List Nd) (ok : RxOk r) (v : Value) (w : World) (h0 : 0 < w.heap.size) (hT : TabAt w) (hR : RRow w v r) (hwd : ∀ x ∈ r, x.Wd) (hck : checkV r = 0) (hbnd : ∀ i x, r[i]? = some x → (nodeT (txs (r.take i)) x).length ≤ 1000000) :
    Calls Tryd.prog 14 #[v] w fun e w' => e = .returned (.tuple #[strV (textOf r), .int .i64 0]) ∧ Below w.heap.size w w' := by
  have hck := check_k r v (by have := ok.most; omega) w hR
  obtain ⟨la, c, rfl, hR1, hR2⟩ := hR
  obtain ⟨n, hn⟩ : ∃ n, n = r.length := ⟨_, rfl⟩
  have hn1 : 1 ≤ n := by rw [hn]; exact ok.one
  have hn2 : n ≤ 512 := by rw [hn]; exact ok.most
  rw [← hn] at hck ⊢
  have HN := Lib.hid hn
  clear hn
  have hmm : ∀ W : World, (Instr.makeMap 68 none).run Tryd.prog W = .ok (.map (some W.heap.size)) (W.alloc (.map #[] 0)) := fun W => run_makeMap 68 W
  go_enter Tryd.func14, Tryd.ntmps14
  go_upto_region 4 with (go_at_call 10; (with_reducible refine hck.mono ?_); rintro e W1 ⟨rfl, hb1⟩)
  obtain ⟨U, hU⟩ : ∃ U, U = W1.heap.size := ⟨_, rfl⟩
  have HU := Lib.hid hU
  have m0 : ∀ o : Obj, ((W1.alloc (.map #[] 0)).alloc o).heap[U]? = some (.map #[] 0) := fun o => (Below.heap_alloc _ _ _ (by rw [hU]; simp)).trans (by rw [hU]; exact World.alloc_heap_new _ _)
  have x0 : Bx ((W1.alloc (.map #[] 0)).alloc (.cells #[.int .u8 42] 5)) (U + 1) 5 #[.int .u8 42] := by rw [hU]; have := Bx.new (W1.alloc (.map #[] 0)) 5 #[.int .u8 42]; simpa using this
  have l0 : Below W1.heap.size W1 ((W1.alloc (.map #[] 0)).alloc (.cells #[.int .u8 42] 5)) := ((Below.refl _ W1).alloc (Nat.le_refl _) _).alloc (by simp) _
  rw [← hU] at l0
  have hU1 : U ≤ W1.heap.size := Nat.le_of_eq hU
  have hUw : w.heap.size ≤ U := by rw [hU]; exact hb1.size
  clear hU
  go_upto_region 5 with (first
    | ((with_reducible refine ins_id ?_); (try rw [← HU.out]); refine wpList_insert _ U 0 #[] 5 (.slice (some ⟨U + 1, 0, none⟩) 1 1) rfl rfl rfl (m0 _) rfl ?_; rintro W2 hM2 hB2; have hU2 : U < W2.heap.size := (by have := (Array.getElem?_eq_some_iff.1 hM2).1; exact this); have x2 : Bx W2 (U + 1) 5 #[.int .u8 42] := (hB2.same _ x0.lt (by omega)).trans x0; have m2 := fun o : Obj => (Below.heap_alloc W2 o _ hU2).trans hM2; have l2 : Below U W1 (W2.alloc (.cells #[.int .u8 43] 5)) := (l0.trans (hB2.below (by have := l0.size; omega) (Nat.le_refl _))).alloc (by omega) _; have y0 := Bx.new W2 5 #[.int .u8 43]; have x2' := x2.alloc (.cells #[.int .u8 43] 5))
    | ((with_reducible refine ins_id ?_); (try rw [← HU.out]); refine wpList_insert _ U 1 _ 6 (.slice (some ⟨W2.heap.size, 0, none⟩) 1 1) rfl rfl rfl (m2 _) rfl ?_; rintro W3 hM3 hB3; have hU3 : U < W3.heap.size := (by have := (Array.getElem?_eq_some_iff.1 hM3).1; exact this); have x3 : Bx W3 (U + 1) 5 #[.int .u8 42] := (hB3.same _ x2'.lt (by omega)).trans x2'; have y3 : Bx W3 W2.heap.size 5 #[.int .u8 43] := (hB3.same _ y0.lt (by omega)).trans y0; have m3 := fun o : Obj => (Below.heap_alloc W3 o _ hU3).trans hM3; have l3 : Below U W1 (W3.alloc (.cells #[.int .u8 63] 5)) := (l2.trans (hB3.below (by have := l2.size; omega) (Nat.le_refl _))).alloc (by omega) _; have z0 := Bx.new W3 5 #[.int .u8 63]; have x3' := x3.alloc (.cells #[.int .u8 63] 5); have y3' := y3.alloc (.cells #[.int .u8 63] 5))
    | ((with_reducible refine ins_id ?_); (try rw [← HU.out]); refine wpList_insert _ U 2 _ 7 (.slice (some ⟨W3.heap.size, 0, none⟩) 1 1) rfl rfl rfl (m3 _) rfl ?_; rintro W4 hM4 hB4; have hBeh : Beh W4 U := ⟨_, _, _, hM4, (hB4.same _ x3'.lt (by omega)).trans x3', (hB4.same _ y3'.lt (by omega)).trans y3', (hB4.same _ z0.lt (by omega)).trans z0⟩; have l4 : Below U W1 W4 := l3.trans (hB4.below (by have := l3.size; omega) (Nat.le_refl _))))
  obtain ⟨T, hTe⟩ : ∃ T, T = W4.heap.size := ⟨_, rfl⟩
  obtain ⟨W5, hmk, hTx, hb5, hs5⟩ := mk_strs n (by omega) W4
  rw [← hTe] at hmk hTx hb5 hs5
  have hwT : w.heap.size ≤ T := by rw [hTe]; exact (hb1.trans (l4.mono hUw)).size
  have hbw5 : Below w.heap.size w W5 := (hb1.trans (l4.mono hUw)).trans (hb5.mono hwT)
  have hBeh5 : Beh W5 U := hBeh.below hb5 (by omega)
  have hTx0 : TxAt W5 T (txRow r 0) := by
    have e : txRow r 0 = List.replicate n [] := by rw [HN.out]; rfl
    rw [e]; exact hTx
  clear hTe hBeh l4 l3 l2 l0 hb1 hck hmm hU1 m0 m2 m3 x0 x2 x2' x3 x3' y0 y3 y3' z0 hB2 hB3 hB4 hM2 hM3 hM4 hU2 hU3 hTx hUw hs5 hb5
  have HK := Lib.hid ok.nd
  have HWD := Lib.hid hwd
  clear hwd
  have HB := Lib.hid hbnd
  clear hbnd
  go_wp2_with fail
  go_loopw [28] (fun i wr => ∃ k : Nat, k ≤ n ∧ i = .int .i64 k ∧ TxAt wr T (txRow r k) ∧ Beh wr U ∧ Below w.heap.size w wr ∧ T < wr.heap.size)
    (fun i _ => n - (intOf i).toNat)
  case atStart => exact ⟨0, Nat.zero_le _, rfl, hTx0, hBeh5, hbw5, Bx.lt hTx0⟩
  case round =>
    clear hTx0 hBeh5 hbw5 hmk
    obtain ⟨k, hk, rfl, hTx, hBe, hlow, hTl⟩ := hrel
    by_cases hkl : k < n
    · obtain ⟨x, hx⟩ : ∃ x, r[k]? = some x := ⟨_, List.getElem?_eq_getElem (by rw [← HN.out]; exact hkl)⟩
      cases la with
      | none => exfalso; have := hR1 rfl; rw [this] at hx; simp at hx
      | some ad =>
      obtain ⟨B, off, rfl, hBl, hX⟩ := hR2 _ rfl (by intro e; rw [e] at hx; simp at hx)
      obtain ⟨k0, k1, k2, k3, k4, kv, k5, hIR⟩ := hX k x hx
      have hkn : ∀ (m : Nat) (y : Nd), r[m]? = some y → w.cell? ⟨B, off + m * 6, none⟩ = some (.int .i64 y.k) := fun m y h => (hX m y h).c0
      have HKN := Lib.hid hkn
      replace k0 := (hlow.cell (p := ⟨B, off + k * 6, none⟩) hBl).trans k0
      replace k1 := (hlow.cell (p := ⟨B, off + k * 6 + 1, none⟩) hBl).trans k1
      replace k2 := (hlow.cell (p := ⟨B, off + k * 6 + 2, none⟩) hBl).trans k2
      replace k3 := (hlow.cell (p := ⟨B, off + k * 6 + 3, none⟩) hBl).trans k3
      replace k4 := (hlow.cell (p := ⟨B, off + k * 6 + 4, none⟩) hBl).trans k4
      replace k5 := (hlow.cell (p := ⟨B, off + k * 6 + 5, none⟩) hBl).trans k5
      have hBw : B < wr.heap.size := Nat.lt_of_lt_of_le hBl hlow.size
      obtain ⟨lk, ck, rfl, hK1, hK2⟩ := hIR
      have hnd := HK.out k x hx
      have hkk : x.kids.length ≤ 512 := by have := hnd.high; have := high_le x.k; omega
      have HKD := Lib.hid hnd.kids
      have HND := Lib.hid hnd
      have HX := Lib.hid hx
      have hk00 : (0 : Int) ≤ (k : Int) := by omega
      have hk01 : (k : Int) < (n : Int) := by omega
      have hkt : (k : Int).toNat = k := by omega
      have hZ := Bx.new wr 45 #[.int .i64 0, .int .u64 0, .int .u64 0, .int .u64 0, .int .u64 0, .slice none 0 0]
      have hbZ : Below wr.heap.size wr (wr.alloc (.cells #[.int .i64 0, .int .u64 0, .int .u64 0, .int .u64 0, .int .u64 0, .slice none 0 0] 45)) := (Below.refl _ _).alloc (Nat.le_refl _) _
      clear hnd hx hX hR1 hR2 hkn
      obtain ⟨kd, hkd⟩ : ∃ kd, kd = x.k := ⟨_, rfl⟩
      rw [← hkd] at k0
      have HKE := Lib.hid hkd
      clear hkd
      go_wp2_with ((with_reducible refine st_id ?_); refine AX.wpList_storeBox (vs := [.int .i64 kd, .int .u64 x.a, .int .u64 x.b, .int .u64 x.c, .int .u64 x.d, .slice lk x.kids.length ck]) rfl rfl sz45 hZ rfl rfl ?_; rintro W4 h3 h4 h5; have hN4 : Bx W4 wr.heap.size 45 #[.int .i64 kd, .int .u64 x.a, .int .u64 x.b, .int .u64 x.c, .int .u64 x.d, .slice lk x.kids.length ck] := h3; have hb4 : Below wr.heap.size wr W4 := hbZ.trans (AX.below_turn (Nat.le_refl _) (.inl (Array.getElem?_eq_some_iff.1 h3).1) h4 h5); clear h3 h4 h5; have n5 : W4.cell? ⟨wr.heap.size, 5, none⟩ = some (.slice lk x.kids.length ck) := hN4.cell 5)
      obtain ⟨s1, hs1⟩ : ∃ s1, s1 = W4.heap.size := ⟨_, rfl⟩
      have hNbl : wr.heap.size < s1 := by rw [hs1]; exact hN4.lt
      have hr0 : StOwn W4 s1 (.slice none 0 0) [] := World.ownsRow_nil _ _ _ _
      have hTx4 : TxAt W4 T (txRow r k) := Bx.below hTx hb4 hTl
      have hBe4 : Beh W4 U := hBe.below hb4 (Nat.le_refl _)
      have hlow4 : Below w.heap.size w W4 := hlow.trans (hb4.mono hlow.size)
      obtain ⟨Nb, hNbe⟩ : ∃ Nb, Nb = wr.heap.size := ⟨_, rfl⟩
      rw [← hNbe] at hN4 n5 hNbl hb4 ⊢
      have hNbT : Nb ≠ T := by omega
      have hwN : w.heap.size ≤ Nb := by rw [hNbe]; exact hlow.size
      have HNB := Lib.hid hNbe
      have HS1 := Lib.hid hs1
      have hs1w : w.heap.size ≤ s1 := by omega
      have hTs : T < s1 := by omega
      clear hNbe hs1 hZ hbZ hTx hBe hlow hb4 hTl k0 k1 k2 k3 k4 k5 hBw
      go_loopw [9, 36] (fun t9 t36 wr => ∃ j : Nat, j ≤ x.kids.length ∧ t36 = .int .i64 j ∧ StOwn wr s1 t9 ((x.kids.take j).map (kidT (txs (r.take k)) kd)) ∧ Below s1 W4 wr)
        (fun _ t36 _ => x.kids.length - (intOf t36).toNat)
      case atStart => exact ⟨0, Nat.zero_le _, rfl, hr0, Below.refl _ _⟩
      case round =>
        clear hr0
        obtain ⟨j, hj, rfl, hr, hb⟩ := hrel
        by_cases hjl : j < x.kids.length
        · obtain ⟨q, hq⟩ : ∃ q, x.kids[j]? = some q := ⟨_, List.getElem?_eq_getElem hjl⟩
          obtain ⟨hq0, hqk⟩ := HKD.out q (List.mem_of_getElem? hq)
          obtain ⟨m, rfl⟩ : ∃ m : Nat, q = (m : Int) := ⟨q.toNat, by omega⟩
          have hmk : m < k := by omega
          obtain ⟨y, hy⟩ : ∃ y, r[m]? = some y := ⟨_, List.getElem?_eq_getElem (by rw [← HN.out]; omega)⟩
          cases lk with
          | none => exfalso; have := hK1 rfl; rw [this] at hq; simp at hq
          | some ad =>
          obtain ⟨B2, off2, rfl, hB2, hKc⟩ := hK2 _ rfl (by intro e; rw [e] at hq; simp at hq)
          have hloww : Below w.heap.size w wr := hlow4.trans (hb.mono hs1w)
          have d0 := (hloww.cell (p := ⟨B2, off2 + j, none⟩) hB2).trans (hKc j m hq)
          have hB2w : B2 < wr.heap.size := Nat.lt_of_lt_of_le hB2 hloww.size
          have hBw : B < wr.heap.size := Nat.lt_of_lt_of_le hBl hloww.size
          have dk := (hloww.cell (p := ⟨B, off + m * 6, none⟩) hBl).trans (HKN.out m y hy)
          obtain ⟨t, ht⟩ : ∃ t, t = ((txs (r.take k)).getD m (0, [])).2 := ⟨_, rfl⟩
          obtain ⟨yk, hyk⟩ : ∃ yk, yk = y.k := ⟨_, rfl⟩
          have hTxw : TxAt wr T (txRow r k) := Bx.below hTx4 hb hTs
          have dt : wr.cell? ⟨T, m, none⟩ = some (.string ⟨t.toArray⟩) := TxAt.cell hTxw m t (by rw [ht]; exact txRow_kid r k m (by rw [← HN.out]; exact hk) hmk)
          have hN5 : Bx wr Nb 45 #[.int .i64 kd, .int .u64 x.a, .int .u64 x.b, .int .u64 x.c, .int .u64 x.d, .slice (some ⟨B2, off2, none⟩) x.kids.length ck] := hN4.below hb hNbl
          have dn : wr.cell? ⟨Nb, 0, none⟩ = some (.int .i64 kd) := hN5.cell 0
          have hkind : ((txs (r.take k)).getD m (0, [])).1 = yk := by rw [hyk, txs_below r k m hmk y hy]
          have htl : t.length ≤ 1000000 := by rw [ht, txs_below r k m hmk y hy]; exact HB.out m y hy
          have HTL := Lib.hid htl
          clear htl
          have hkt2 : Hid (kidT (txs (r.take k)) kd (m : Int) = if brkV kd yk then 40 :: (t ++ [41]) else t) := Lib.hid (by unfold kidT; rw [Int.toNat_natCast, hkind, ← ht])
          rw [← hyk] at dk
          have HTJ : Hid (x.kids.take (j + 1) = x.kids.take j ++ [(m : Int)]) := Lib.hid (by rw [List.take_add_one, hq]; rfl)
          have hj0 : (0 : Int) ≤ (j : Int) := by omega
          have hj1 : (j : Int) < (x.kids.length : Int) := by omega
          have hjt : (j : Int).toNat = j := by omega
          have hm0 : (0 : Int) ≤ (m : Int) := by omega
          have hm1 : (m : Int) < (n : Int) := by omega
          have hmt : (m : Int).toNat = m := by omega
          have hNw : Nb < wr.heap.size := hN5.lt
          have hTw : T < wr.heap.size := Bx.lt hTxw
          clear hq hy ht hyk hkind hKc hK1 hK2 hTxw hN5
          go_upto_region 14 with (fail)
          have D0 := AX.cell_all dn hNw
          have D1 := AX.cell_all dk hBw
          have hbr := brk_b kd yk wr
          refine AX.region_below (by kernel_rfl) (by kernel_rfl) ?_
          repeat (go_big_quiet_step (first | (go_at_call 33; with_reducible exact (hbr _))))
          refine wpQuiet_nil ?_
          rintro W7 ⟨p, rfl⟩
          obtain ⟨W7, hb7⟩ := p
          change Below _ _ _ at hb7
          have hr7 := hr.below hb7 (Nat.le_refl _)
          have hb77 : Below s1 W4 W7 := hb.trans (hb7.mono (by have := hb.size; have := HS1.out; omega))
          obtain ⟨bv, hbv⟩ : ∃ bv, bv = brkV kd yk := ⟨_, rfl⟩
          rw [← hbv] at hkt2 ⊢
          clear D0 D1 hbr hbv hb hr d0 dk dt dn
          go_upto_if 51 with (fail)
          go_cut [12] from 52 to 54 (fun t12 wz => t12 = .string ⟨(kidT (txs (r.take k)) kd (m : Int)).toArray⟩ ∧ wz = W7)
          case first =>
            cases bv with
            | true =>
              have hkv := hkt2.out
              rw [if_pos rfl] at hkv
              have HKV := Lib.hid hkv
              have ha1 : ∀ W, (Op.stringOp .add ⟨#[40]⟩ ⟨t.toArray⟩).run Tryd.prog W = .ok (.string ⟨(40 :: t).toArray⟩) W := fun W => add_lists W [40] t (by have := HTL.out; simp; omega)
              have ha2 : ∀ W, (Op.stringOp .add ⟨(40 :: t).toArray⟩ ⟨#[41]⟩).run Tryd.prog W = .ok (.string ⟨(40 :: (t ++ [41])).toArray⟩) W := fun W => add_lists W (40 :: t) [41] (by have := HTL.out; simp; omega)
              clear hkv hkt2
              go_wp2_with fail

              go_meet
              case rel => exact ⟨by rw [HKV.out], rfl⟩
            | false =>
              have hkv := hkt2.out
              rw [if_neg (by decide)] at hkv
              have HKV := Lib.hid hkv
              clear hkv hkt2
              go_wp2_with fail
              go_meet
              case rel => exact ⟨by rw [HKV.out], rfl⟩
          case rest =>
            obtain ⟨rfl, rfl⟩ := hcut
            clear hkt2
            obtain ⟨kt, hkt3⟩ : ∃ kt, kt = kidT (txs (r.take k)) kd (m : Int) := ⟨_, rfl⟩
            rw [← hkt3]
            have HKT := Lib.hid hkt3
            clear hkt3
            have hbw : Below s1 wc (wc.alloc (.cells #[.string ⟨kt.toArray⟩] 9)) := (Below.refl s1 wc).alloc (by have := hb77.size; have := HS1.out; omega) _
            have hcb := (Bx.new wc 9 #[.string ⟨kt.toArray⟩]).cell 0
            have hra : StOwn (wc.alloc (.cells #[.string ⟨kt.toArray⟩] 9)) s1 u9 ((x.kids.take j).map (kidT (txs (r.take k)) kd)) := World.ownsRow.alloc hr7 _
            have hsz9 : s1 ≤ (wc.alloc (.cells #[.string ⟨kt.toArray⟩] 9)).heap.size := by have := hb77.size; have := HS1.out; simp; omega
            have hlt9 : ((x.kids.take j).map (kidT (txs (r.take k)) kd)).length ≤ 100000 := by simp; omega
            go_wp2_with (at_builtin; refine append_st _ s1 u9 _ kt rfl _ _ rfl rfl hra wc.heap.size 1 rfl hcb hlt9 hsz9 ?_; intro v' W5 hr5 hg5)
            exact ⟨⟨j + 1, by omega, by simp, by rw [HTJ.out, List.map_append, List.map_cons, List.map_nil, ← HKT.out]; exact hr5, (hb77.trans hbw).trans ((Below.refl s1 _).grown hg5 hsz9 fun g e => (World.ownsRow.lt hra g e).1)⟩, by simp [intOf]; omega⟩
        · obtain rfl : j = x.kids.length := by omega
          rw [List.take_length] at hr
          have hTx5 : TxAt wr T (txRow r k) := Bx.below hTx4 hb hTs
          have hBe5 : Beh wr U := hBe4.below hb (by have := HS1.out; omega)
          have hN5 := hN4.below hb hNbl
          have hlow5 : Below w.heap.size w wr := hlow4.trans (hb.mono hs1w)
          have hTl5 : T < wr.heap.size := Bx.lt hTx5
          have d0 : wr.cell? ⟨Nb, 0, none⟩ = some (.int .i64 kd) := hN5.cell 0
          have hlen : (txRow r k).length = n := by rw [txRow_len r k (by rw [← HN.out]; exact hk), ← HN.out]
          have hsz : k < ((txRow r k).map strV).toArray.size := by simp; omega
          have fin : ∀ (W : World) (t : List UInt8), t = nodeT (txs (r.take k)) x → TxAt W T ((txRow r k).set k t) → Beh W U → Below w.heap.size w W → T < W.heap.size → (∃ k_1 : Nat, k_1 ≤ n ∧ Value.int IntKind.i64 ((k : Int) + 1) = Value.int IntKind.i64 (k_1 : Int) ∧ TxAt W T (txRow r k_1) ∧ Beh W U ∧ Below w.heap.size w W ∧ T < W.heap.size) ∧ n - (intOf (Value.int IntKind.i64 ((k : Int) + 1))).toNat < n - (intOf (Value.int IntKind.i64 (k : Int))).toNat := by
            rintro W t rfl h1 h2 h3 h4
            rw [txRow_next r k x HX.out] at h1
            exact ⟨⟨k + 1, by omega, by simp, h1, h2, h3, h4⟩, by simp [intOf]; omega⟩
          clear hTx4 hBe4 hN4 hlow4 hb hK1 hK2
          by_cases h1 : kd = 1
          · have hnt : nodeT (txs (r.take k)) x = [40, 41] := by unfold nodeT; rw [if_pos (by rw [← HKE.out]; exact h1)]
            have HNT := Lib.hid hnt
            clear hnt
            subst h1
            go_wp2_with ((with_reducible refine st_id ?_); refine AX.wpList_storeCell (o := k) (v := strV [40, 41]) rfl rfl rfl sz9 hTx5 hsz ?_; rintro W6 h3 h4 h5)
            exact fin W6 _ HNT.out.symm (TxAt.set h3) (hBe5.but hTx5 (by decide) ⟨AX.below_turn (Nat.zero_le _) (.inl (Array.getElem?_eq_some_iff.1 h3).1) h4 h5, fun j _ hj => h4 j hj⟩) (hlow5.trans (AX.below_turn hwT (.inl (Array.getElem?_eq_some_iff.1 h3).1) h4 h5)) (Array.getElem?_eq_some_iff.1 h3).1
          by_cases h2 : kd = 2
          · have hnt : nodeT (txs (r.take k)) x = clsT x := by unfold nodeT; rw [if_neg (by rw [← HKE.out]; exact h1), if_pos (by rw [← HKE.out]; exact h2)]
            have HNT := Lib.hid hnt
            have hct := fun W (hb : Below wr.heap.size wr W) => ctext_k x.a x.b x.c x.d (wlt_of (HWD.out x (List.mem_of_getElem? HX.out))) W (Nat.lt_of_lt_of_le (Nat.lt_of_lt_of_le h0 hlow5.size) hb.size) ((hT.below hlow5 h0).below hb (Nat.lt_of_lt_of_le h0 hlow5.size))
            have dc : ∀ o v, #[Value.int .i64 kd, .int .u64 (x.a : Nat), .int .u64 (x.b : Nat), .int .u64 (x.c : Nat), .int .u64 (x.d : Nat), .slice lk x.kids.length ck][o]? = some v → wr.cell? ⟨Nb, o, none⟩ = some v := fun o v h => (hN5.cell o).trans h
            have c1 := dc 1 _ rfl
            have c2 := dc 2 _ rfl
            have c3 := dc 3 _ rfl
            have c4 := dc 4 _ rfl
            clear hnt dc
            have hct2 := hct wr (Below.refl _ _)
            clear hct
            subst h2
            go_wp2_with (first
              | (go_at_call 34; (with_reducible refine hct2.mono ?_); rintro e W7 ⟨rfl, hb7⟩; have hTx7 : TxAt W7 T (txRow r k) := Bx.below hTx5 hb7 hTl5; have hBe7 := hBe5.below hb7 (Nat.le_refl _); have hlow7 := hlow5.trans (hb7.mono hlow5.size))
              | ((with_reducible refine st_id ?_); refine AX.wpList_storeCell (o := k) (v := strV (clsT x)) rfl rfl rfl sz9 hTx7 hsz ?_; rintro W6 h3 h4 h5))
            exact fin W6 _ HNT.out.symm (TxAt.set h3) (hBe7.but hTx7 (by decide) ⟨AX.below_turn (Nat.zero_le _) (.inl (Array.getElem?_eq_some_iff.1 h3).1) h4 h5, fun j _ hj => h4 j hj⟩) (hlow7.trans (AX.below_turn hwT (.inl (Array.getElem?_eq_some_iff.1 h3).1) h4 h5)) (Array.getElem?_eq_some_iff.1 h3).1
          have hls : (x.kids.map (kidT (txs (r.take k)) kd)).length ≤ 100000 := by rw [List.length_map]; omega
          by_cases h4 : kd = 4
          · have hnt : nodeT (txs (r.take k)) x = Lib.join (x.kids.map (kidT (txs (r.take k)) kd)) [124] := by unfold nodeT; rw [if_neg (by rw [← HKE.out]; exact h1), if_neg (by rw [← HKE.out]; exact h2), if_pos (by rw [← HKE.out]; exact h4), ← HKE.out]
            have hjl : (Lib.join (x.kids.map (kidT (txs (r.take k)) kd)) [124]).length ≤ 2000000 := by rw [← hnt]; have := HB.out k x HX.out; omega
            have hjn := jn_k [124] wr s1 u9 _ hr hls hjl
            obtain ⟨J, hJ⟩ : ∃ J, J = Lib.join (x.kids.map (kidT (txs (r.take k)) kd)) [124] := ⟨_, rfl⟩
            rw [← hJ] at hjn hnt
            have HNT := Lib.hid hnt
            have HJ := Lib.hid hJ
            clear hnt hjl hJ
            subst h4
            go_wp2_with (first
              | (go_at_call 35; (with_reducible refine hjn.mono ?_); rintro e W7 ⟨rfl, hb7⟩; have hTx7 : TxAt W7 T (txRow r k) := Bx.below hTx5 hb7 hTl5; have hBe7 := hBe5.below hb7 (Nat.le_refl _); have hlow7 := hlow5.trans (hb7.mono hlow5.size))
              | ((with_reducible refine st_id ?_); refine AX.wpList_storeCell (o := k) (v := strV J) rfl rfl rfl sz9 hTx7 hsz ?_; rintro W6 h3 h4 h5))
            exact fin W6 _ HNT.out.symm (TxAt.set h3) (hBe7.but hTx7 (by decide) ⟨AX.below_turn (Nat.zero_le _) (.inl (Array.getElem?_eq_some_iff.1 h3).1) h4 h5, fun j _ hj => h4 j hj⟩) (hlow7.trans (AX.below_turn hwT (.inl (Array.getElem?_eq_some_iff.1 h3).1) h4 h5)) (Array.getElem?_eq_some_iff.1 h3).1
          · have hnt : nodeT (txs (r.take k)) x = Lib.join (x.kids.map (kidT (txs (r.take k)) kd)) [] ++ behV kd := by unfold nodeT; rw [if_neg (by rw [← HKE.out]; exact h1), if_neg (by rw [← HKE.out]; exact h2), if_neg (by rw [← HKE.out]; exact h4), ← HKE.out]
            have hjl : (Lib.join (x.kids.map (kidT (txs (r.take k)) kd)) []).length ≤ 1000000 := by have := HB.out k x HX.out; rw [hnt, List.length_append] at this; omega
            have hjn := fun W (hb : Below wr.heap.size wr W) => jn_k [] W s1 u9 _ (hr.below hb (Nat.le_refl _)) hls (by omega)
            obtain ⟨J, hJ⟩ : ∃ J, J = Lib.join (x.kids.map (kidT (txs (r.take k)) kd)) [] := ⟨_, rfl⟩
            rw [← hJ] at hnt hjl
            simp only [← hJ] at hjn
            have HNT := Lib.hid hnt
            have HJ := Lib.hid hJ
            have hbl : (behV kd).length ≤ 1 := by unfold behV; split <;> (try split) <;> (try split) <;> simp
            have hadd : ∀ W, (Op.stringOp .add ⟨J.toArray⟩ ⟨(behV kd).toArray⟩).run Tryd.prog W = .ok (.string ⟨(J ++ behV kd).toArray⟩) W := fun W => add_lists W J (behV kd) (by omega)
            obtain ⟨v, hv⟩ := hBe5.tell hTx5 (by decide) kd
            have c0 : (kd == 1) = false := by simp [h1]
            have c2 : (kd == 2) = false := by simp [h2]
            have c4 : (kd == 4) = false := by simp [h4]
            clear hnt hJ hbl hjl
            go_upto_region 19 with (fail)
            obtain ⟨C, hCi, hCo⟩ : ∃ C : World → Prop, (∀ Z, C Z → AX.But T wr Z) ∧ (∀ Z, AX.But T wr Z → C Z) := ⟨_, fun _ h => h, fun _ h => h⟩
            have hWd : Below wr.heap.size wr wr.drew := (Below.refl _ wr).drew
            have hW0 : C wr.drew := hCo _ (AX.But.of_below hWd)
            haveI : Inhabited (AX.CW C) := ⟨⟨_, hW0⟩⟩
            have e0 : ∀ p : AX.CW C, p.W.cell? ⟨Nb, 0, none⟩ = some (.int .i64 kd) := fun p => (Bx.same hN5 ((hCi _ p.h).same Nb hN5.lt hNbT)).cell 0
            have e1 : ∀ p : AX.CW C, (convert 67 9 v).run Tryd.prog p.W = .ok (.string ⟨(behV kd).toArray⟩) p.W := fun p => (hv _ (hCi _ p.h)).2
            have HV := Lib.hid hv
            have HCO := Lib.hid hCo
            clear hv hCo hCi d0
            refine AX.region_tree (C := fun W => ∃ p : AX.CW C, W = p.W) plan14_19 inf14_19 (by kernel_rfl) (by kernel_rfl) (by kernel_rfl) fit14_19 (by intro c a d v w h; cases d <;> exact h) ⟨⟨_, hW0⟩, rfl⟩ ?_
            unfold plan14_19
            clear hW0
            generalize wr.drew = Wd at *
            repeat (refine AX.tree_plain _ (by rfl) ?_; go_big_quiet_step (fail); refine wpQuiet_nil ?_)
            refine ⟨?_, ?_⟩
            · refine AX.tree_call (hjn _ hWd) (by rfl) (by rfl) (by rfl) Tryd.func35 (by kernel_rfl) (by rfl) (by simp only [List.map_toArray, List.map_cons, List.map_nil]; rfl) ?_
              rintro e W7 ⟨rfl, hb7⟩
              have hW7 : Below wr.heap.size wr W7 := hWd.trans (hb7.mono hWd.size)
              have hBut7 := AX.But.of_below (A := T) hW7
              refine ⟨_, rfl, ⟨⟨W7, HCO.out _ hBut7⟩, rfl⟩, ?_⟩
              simp only [Act.put, List.setIfInBounds_toArray, List.set_cons_succ, List.set_cons_zero]
              have hlk := (HV.out W7 hBut7).1
              refine AX.tree_op _ (by rfl) (by rfl) ?_
              unfold Oper.wp
              go_simp
              refine ⟨⟨⟨_, HCO.out _ hBut7⟩, rfl⟩, ?_⟩
              have hTx7 : TxAt W7 T (txRow r k) := Bx.below hTx5 hW7 hTl5
              have hBe7 := hBe5.below hW7 (Nat.le_refl _)
              have hlow7 := hlow5.trans (hW7.mono hlow5.size)
              unfold strV
              repeat (refine AX.tree_plain _ (by rfl) ?_; go_big_quiet_step (fail); refine wpQuiet_nil ?_)
              refine AX.tree_op _ (by rfl) (by rfl) ?_
              refine AX.oper_storeCell (o := k) (v := strV (J ++ behV kd)) rfl rfl rfl sz9 hTx7 hsz ?_
              intro W6 h3 h4 h5
              have hBut6 : AX.But T W7 W6 := ⟨AX.below_turn (Nat.zero_le _) (.inl (Array.getElem?_eq_some_iff.1 h3).1) h4 h5, fun j _ hj => h4 j hj⟩
              refine ⟨⟨⟨W6, HCO.out _ (hBut7.trans hBut6)⟩, rfl⟩, ?_⟩
              unfold AX.wpTree
              go_wp2_with fail
              exact fin W6 _ HNT.out.symm (TxAt.set h3) (hBe7.but hTx7 (by decide) hBut6) (hlow7.trans (AX.below_turn hwT (.inl (Array.getElem?_eq_some_iff.1 h3).1) h4 h5)) (Array.getElem?_eq_some_iff.1 h3).1
            · have hlk := (HV.out Wd (AX.But.of_below hWd)).1
              refine AX.tree_op _ (by rfl) (by rfl) ?_
              unfold Oper.wp
              go_simp
              refine ⟨⟨⟨_, HCO.out _ (AX.But.of_below hWd)⟩, rfl⟩, ?_⟩
              refine AX.tree_plain _ (by rfl) ?_; go_big_quiet_step (fail); refine wpQuiet_nil ?_
              refine AX.tree_call (hjn _ hWd) (by rfl) (by rfl) (by rfl) Tryd.func35 (by kernel_rfl) (by rfl) (by simp only [List.map_toArray, List.map_cons, List.map_nil]; rfl) ?_
              rintro e W7 ⟨rfl, hb7⟩
              have hW7 : Below wr.heap.size wr W7 := hWd.trans (hb7.mono hWd.size)
              have hBut7 := AX.But.of_below (A := T) hW7
              refine ⟨_, rfl, ⟨⟨W7, HCO.out _ hBut7⟩, rfl⟩, ?_⟩
              simp only [Act.put, List.setIfInBounds_toArray, List.set_cons_succ, List.set_cons_zero]
              have hTx7 : TxAt W7 T (txRow r k) := Bx.below hTx5 hW7 hTl5
              have hBe7 := hBe5.below hW7 (Nat.le_refl _)
              have hlow7 := hlow5.trans (hW7.mono hlow5.size)
              unfold strV
              repeat (refine AX.tree_plain _ (by rfl) ?_; go_big_quiet_step (fail); refine wpQuiet_nil ?_)
              refine AX.tree_op _ (by rfl) (by rfl) ?_
              refine AX.oper_storeCell (o := k) (v := strV (J ++ behV kd)) rfl rfl rfl sz9 hTx7 hsz ?_
              intro W6 h3 h4 h5
              have hBut6 : AX.But T W7 W6 := ⟨AX.below_turn (Nat.zero_le _) (.inl (Array.getElem?_eq_some_iff.1 h3).1) h4 h5, fun j _ hj => h4 j hj⟩
              refine ⟨⟨⟨W6, HCO.out _ (hBut7.trans hBut6)⟩, rfl⟩, ?_⟩
              unfold AX.wpTree
              go_wp2_with fail
              exact fin W6 _ HNT.out.symm (TxAt.set h3) (hBe7.but hTx7 (by decide) hBut6) (hlow7.trans (AX.below_turn hwT (.inl (Array.getElem?_eq_some_iff.1 h3).1) h4 h5)) (Array.getElem?_eq_some_iff.1 h3).1
    · obtain rfl : k = n := by omega
      have hnl : ¬ (k : Int) < (k : Int) := by omega
      obtain ⟨m, hm⟩ : ∃ m, k = m + 1 := ⟨k - 1, by omega⟩
      have hlast : (txRow r k)[m]? = some (textOf r) := by
        have e : k = r.length := HN.out
        unfold txRow textOf
        rw [e, List.take_length, Nat.sub_self]
        simp only [List.replicate_zero, List.append_nil]
        rw [List.getElem?_map]
        have hl : (txs r).length = m + 1 := by rw [txs_len, ← e, hm]
        have h2 : (txs r).getLastD (0, []) = (txs r).getD m (0, []) := by
          rw [List.getLastD_eq_getLast?, List.getLast?_eq_getElem?, hl, List.getD_eq_getElem?_getD]
          rfl
        rw [h2, List.getD_eq_getElem?_getD, List.getElem?_eq_getElem (by omega)]
        rfl
      have dl := TxAt.cell hTx m _ hlast
      have hk1 : (k : Int) - 1 = (m : Int) := by omega
      have hk2 : (m : Int) < (k : Int) := by omega
      have hmt : (m : Int).toNat = m := by omega
      have HM := Lib.hid hm
      clear hm hlast
      unfold strV at dl
      go_wp2_with fail
      exact bodyPost_ret (v := .tuple #[strV (textOf r), .int .i64 0]) (by simp [results, Tryd.results14, go_sem]; rfl) rfl ⟨rfl, hlow⟩
end Go.Proofs.YtpbkgegkjglibaaDoor
