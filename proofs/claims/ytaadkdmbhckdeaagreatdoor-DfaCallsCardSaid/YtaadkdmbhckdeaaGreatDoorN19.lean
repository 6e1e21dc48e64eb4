/- Dfa: nfa.Step 25; a maker in memory. -/
import Derived.Test.YtaadkdmbhckdeaaGreatDoorN18
namespace Go.Proofs.YtaadkdmbhckdeaaGreatDoor
open Go Go.Proofs Go.RowKit
attribute [local go_sem] Oper.semAt_some
set_option maxRecDepth 100000 in
set_option maxHeartbeats 4000000 in
theorem step25_k (N : Nf) (o : NfOk N) (ac an ar : Option Addr) (cc cn cr : Nat) (S : List Int) (hS : S.length ≤ 1000000) (hin : ∀ q ∈ S, 0 ≤ q ∧ q < (N.cl.length : Int)) (aS : Option Addr) (cs : Nat) (b : Nat) (hb : b < 256) (w : World) (h : NfAt w N ac an ar) (hI : IRow w aS S) :
  Calls Tryz.prog 28 #[.agg #[.slice ac N.cl.length cc, .slice an N.nx.length cn, .slice ar N.ru.length cr], .slice aS S.length cs, .int .u8 b] w fun e w' => ∃ v, e = .returned v ∧ w'.ownsRow w.heap.size 3 1 v (stepN N S b).length ((stepN N S b).map (Value.int .i64)) ∧ Below w.heap.size w w' := by
 have hb0 : Below w.heap.size w (w.alloc (.cells #[.slice ac N.cl.length cc, .slice an N.nx.length cn, .slice ar N.ru.length cr] 26)) := (Below.refl _ w).alloc (Nat.le_refl _) _
 have hck := check_fine o (cc := cc) (cn := cn) (cr := cr) (h.below hb0 (Nat.le_refl _))
 have hst := fun W (hB : Below w.heap.size w W) => step41_k N o ac an ar cc cn cr S hS hin aS cs b hb W (h.below hB (Nat.le_refl _)) (hI.below hB (Nat.le_refl _))
 have g0 : ∀ (W : World) (j : Nat) (v : Value), Below (w.alloc (.cells #[.slice ac N.cl.length cc, .slice an N.nx.length cn, .slice ar N.ru.length cr] 26)).heap.size (w.alloc (.cells #[.slice ac N.cl.length cc, .slice an N.nx.length cn, .slice ar N.ru.length cr] 26)) W → (#[Value.slice ac N.cl.length cc, .slice an N.nx.length cn, .slice ar N.ru.length cr])[j]? = some v → W.cell? ⟨w.heap.size, j, none⟩ = some v := fun W j v hb hv => (hb.cell (p := ⟨w.heap.size, j, none⟩) (by simp)).trans (by simp [hv])
 go_enter Tryz.func28, Tryz.ntmps28
 go_wp2_with (first
  | (go_at_call 23; (with_reducible refine hck.mono ?_); rintro e W1 ⟨rfl, hb1⟩; have e0 := g0 W1 0 _ hb1 rfl; have e1 := g0 W1 1 _ hb1 rfl; have e2 := g0 W1 2 _ hb1 rfl; have hb2 := hb0.trans (hb1.mono (by simp)))
  | (go_at_call 47; (with_reducible refine (hst _ hb2).mono ?_); rintro e W3 ⟨v, rfl, hrow, hb3⟩))
 exact bodyPost_ret (v := v) (by simp [results, Tryz.results28, go_sem]) rfl ⟨v, rfl, row_base hrow hb2.size, hb2.trans (hb3.mono hb2.size)⟩
structure Ch (bad : List Nat) (X Y : World) : Prop where
 low : Below 0 X Y
 same : ∀ k, k < X.heap.size → k ∉ bad → Y.heap[k]? = X.heap[k]?
theorem Ch.refl (bad : List Nat) (X : World) : Ch bad X X := ⟨Below.refl _ _, fun _ _ _ => rfl⟩
theorem Ch.trans' {bad bad' : List Nat} {X Y Z : World} (h : Ch bad X Y) (k : Ch bad' Y Z) (hb : ∀ b ∈ bad', b < X.heap.size → b ∈ bad) : Ch bad X Z :=
 ⟨h.low.trans k.low, fun i hi hn => (k.same i (Nat.lt_of_lt_of_le hi h.low.size) (fun hm => hn (hb i hm hi))).trans (h.same i hi hn)⟩
theorem Ch.trans {bad : List Nat} {X Y Z : World} (h : Ch bad X Y) (k : Ch bad Y Z) : Ch bad X Z := h.trans' k fun _ hb _ => hb
theorem Ch.mono {bad bad' : List Nat} {X Y : World} (h : Ch bad X Y) (hb : ∀ b ∈ bad, b < X.heap.size → b ∈ bad') : Ch bad' X Y := ⟨h.low, fun k hk hn => h.same k hk fun hm => hn (hb k hm hk)⟩
theorem Ch.of_below {X Y : World} (h : Below X.heap.size X Y) (bad : List Nat) : Ch bad X Y := ⟨h.mono (Nat.zero_le _), fun k hk _ => h.block k hk⟩
theorem Ch.of_but {A : Nat} {X Y : World} (h : AX.But A X Y) {bad : List Nat} (hA : A ∈ bad) : Ch bad X Y := ⟨h.low, fun k hk hn => h.same k hk fun e => hn (e ▸ hA)⟩
theorem Ch.of_turn {A : Nat} {X Y : World} (hl : Below 0 X Y) (h : ∀ k, k ≠ A → Y.heap[k]? = X.heap[k]?) {bad : List Nat} (hA : A ∈ bad) : Ch bad X Y := ⟨hl, fun k _ hn => h k fun e => hn (e ▸ hA)⟩
theorem Ch.of_grown {X Y : World} {row : Option Nat} (h : X.grownBy Y row) {bad : List Nat} (hA : ∀ g, row = some g → g ∈ bad) : Ch bad X Y :=
 ⟨(Below.refl 0 X).grown h (Nat.zero_le _) (fun _ _ => Nat.zero_le _), fun k hk hn => h.block k hk fun e => hn (hA k e.symm)⟩
theorem Ch.below {n : Nat} {bad : List Nat} {X Y : World} (h : Ch bad X Y) (hn : n ≤ X.heap.size) (hb : ∀ b ∈ bad, n ≤ b) : Below n X Y :=
 ⟨h.low.os, h.low.tape, h.low.output, h.low.size, fun k hk => h.same k (by omega) fun hm => by have := hb k hm; omega⟩
theorem Ch.cell {bad : List Nat} {X Y : World} (h : Ch bad X Y) {b : Nat} (hb : b < X.heap.size) (hn : b ∉ bad) (o : Nat) : Y.cell? ⟨b, o, none⟩ = X.cell? ⟨b, o, none⟩ := by
 unfold World.cell?
 rw [h.same b hb hn]
theorem Ch.bx {bad : List Nat} {X Y : World} (h : Ch bad X Y) {b : Nat} {t : TypeId} {cs : Array Value} (hX : Bx X b t cs) (hn : b ∉ bad) : Bx Y b t cs := (h.same b hX.lt hn).trans hX
def SAt (W : World) (bad : List Nat) (v : Value) (l : List Int) : Prop := ∃ a c, v = .slice a l.length c ∧ (l ≠ [] → ∃ b off, a = some ⟨b, off, none⟩ ∧ b < W.heap.size ∧ b ∉ bad ∧ ∀ j (h : j < l.length), W.cell? ⟨b, off + j, none⟩ = some (.int .i64 l[j]))
theorem SAt.ch {bad : List Nat} {X Y : World} {v : Value} {l : List Int} (h : SAt X bad v l) (hc : Ch bad X Y) : SAt Y bad v l := by
 obtain ⟨a, c, rfl, h⟩ := h
 refine ⟨a, c, rfl, fun h0 => ?_⟩
 obtain ⟨b, off, h1, h2, h3, h4⟩ := h h0
 exact ⟨b, off, h1, Nat.lt_of_lt_of_le h2 hc.low.size, h3, fun j hj => (hc.cell h2 h3 _).trans (h4 j hj)⟩
theorem SAt.more {bad bad' : List Nat} {X : World} {v : Value} {l : List Int} (h : SAt X bad v l) (hb : ∀ k ∈ bad', k < X.heap.size → k ∈ bad) : SAt X bad' v l := by
 obtain ⟨a, c, rfl, h⟩ := h
 refine ⟨a, c, rfl, fun h0 => ?_⟩
 obtain ⟨b, off, h1, h2, h3, h4⟩ := h h0
 exact ⟨b, off, h1, h2, fun hm => h3 (hb b hm h2), h4⟩
theorem SAt.irow {bad : List Nat} {X : World} {v : Value} {l : List Int} (h : SAt X bad v l) : ∃ a c, v = .slice a l.length c ∧ IRow X a l := by
 obtain ⟨a, c, rfl, h⟩ := h
 refine ⟨a, c, rfl, fun h0 => ?_⟩
 obtain ⟨b, off, h1, h2, _, h4⟩ := h h0
 exact ⟨b, off, h1, h2, h4⟩
theorem addr_add (B o j : Nat) : (⟨B, o, none⟩ : Addr).add j = ⟨B, o + j, none⟩ := by unfold Addr.add; split <;> simp_all
theorem SAt.of_own {bad : List Nat} {X : World} {base : Nat} {v : Value} {l : List Int} (h : X.ownsRow base 3 1 v l.length (l.map (Value.int .i64))) (hb : ∀ k ∈ bad, k < base) : SAt X bad v l := by
 obtain ⟨a, c, rfl⟩ := row_shape h
 have hn : ∀ n, Value.slice a n c = Value.slice a l.length c → True := fun _ _ => trivial
 rcases h.2 with ⟨h0, hl⟩ | ⟨g, cap, cur, h0, _⟩
 · refine ⟨none, 0, ?_, fun hne => absurd (List.eq_nil_of_length_eq_zero hl) hne⟩
   rw [h0, hl]
 · cases h0
   refine ⟨_, _, rfl, fun hne => ⟨g, 0, rfl, (h.lt g rfl).2, fun hm => ?_, fun j hj => ?_⟩⟩
   · have h1 := (h.lt g rfl).1
     have h2 := hb g hm
     omega
   · have := h.cells (g := g) rfl j (.int .i64 l[j]) (by simp [hj])
     rw [addr_add] at this
     exact this
def kv (S : List Int) : Value := .string ⟨(keyL S).toArray⟩
def entsF : Nat → Sets → List MapEntry
 | _, [] => []
 | o, S :: T => { key := kv S, val := .int .i64 (o : Int), born := o } :: entsF (o + 1) T
theorem entsF_snoc : ∀ (o : Nat) (T : Sets) (S : List Int), entsF o (T ++ [S]) = entsF o T ++ [{ key := kv S, val := .int .i64 ((o + T.length : Nat) : Int), born := o + T.length }]
 | o, [], S => by simp [entsF]
 | o, U :: T, S => by
  show _ :: entsF (o + 1) (T ++ [S]) = _ :: (entsF (o + 1) T ++ _)
  rw [entsF_snoc (o + 1) T S, List.length_cons, show o + 1 + T.length = o + (T.length + 1) by omega]
def Small (S : List Int) : Prop := ∀ k ∈ S, 0 ≤ k ∧ k < 65536
theorem byte_inj {a b : Int} (ha : 0 ≤ a ∧ a < 65536) (hb : 0 ≤ b ∧ b < 65536) (h1 : UInt8.ofNat (a / 256 % 256).toNat = UInt8.ofNat (b / 256 % 256).toNat) (h2 : UInt8.ofNat (a % 256).toNat = UInt8.ofNat (b % 256).toNat) : a = b := by
 rw [← UInt8.toNat_inj, UInt8.toNat_ofNat', UInt8.toNat_ofNat'] at h1 h2
 omega
theorem keyL_inj : ∀ {S U : List Int}, Small S → Small U → keyL S = keyL U → S = U
 | [], [], _, _, _ => rfl
 | [], u :: U, _, _, h => by simp [keyL] at h
 | s :: S, [], _, _, h => by simp [keyL] at h
 | s :: S, u :: U, hS, hU, h => by
  have h' : UInt8.ofNat (s / 256 % 256).toNat :: UInt8.ofNat (s % 256).toNat :: keyL S = UInt8.ofNat (u / 256 % 256).toNat :: UInt8.ofNat (u % 256).toNat :: keyL U := h
  obtain ⟨h1, h2⟩ := List.cons.inj h'
  obtain ⟨h2, h3⟩ := List.cons.inj h2
  rw [byte_inj (hS s (List.mem_cons_self ..)) (hU u (List.mem_cons_self ..)) h1 h2, keyL_inj (fun k hk => hS k (List.mem_cons_of_mem _ hk)) (fun k hk => hU k (List.mem_cons_of_mem _ hk)) h3]
theorem kv_inj {S U : List Int} (hS : Small S) (hU : Small U) : kv S = kv U ↔ S = U := by
 refine ⟨fun h => ?_, fun h => by rw [h]⟩
 unfold kv at h
 have : (keyL S).toArray = (keyL U).toArray := by
  have h2 := Value.string.inj h
  exact congrArg ByteArray.data h2
 exact keyL_inj hS hU (by simpa using this)
theorem findE {S : List Int} (hS : Small S) : ∀ (T : Sets) (o i : Nat), (∀ U ∈ T, Small U) → Instr.findNow .string (kv S) (entsF o T) i =
  some (if T.findIdx (fun U => U == S) < T.length then some (i + T.findIdx (fun U => U == S), .int .i64 ((o + T.findIdx (fun U => U == S) : Nat) : Int)) else none)
 | [], o, i, _ => by simp [entsF, Instr.findNow]
 | U :: T, o, i, hT => by
  obtain ⟨r, hr, hiff⟩ := MapKept.sameNow_of_keys (d := .string) (a := kv S) (b := kv U) trivial trivial
  have ih := findE hS T (o + 1) (i + 1) (fun V hV => hT V (List.mem_cons_of_mem _ hV))
  rw [kv_inj hS (hT U (List.mem_cons_self ..))] at hiff
  unfold entsF Instr.findNow
  simp only [hr]
  by_cases e : U = S
  · have : r = true := hiff.2 e.symm
    subst this
    subst e
    simp [List.findIdx_cons]
  · have : r = false := by
     cases r with
     | false => rfl
     | true => exact absurd (hiff.1 rfl).symm e
    subst this
    have e' : (U == S) = false := by simpa using e
    simp only [ih, List.findIdx_cons, e', cond_false, List.length_cons, Nat.add_lt_add_iff_right]
    split
    · congr 3
      · omega
      · congr 2; omega
    · rfl
def fi (T : Sets) (S : List Int) : Nat := T.findIdx (fun U => U == S)
theorem look52 {W : World} {r : Nat} {T : Sets} {c : Nat} {S : List Int} (hb : W.heap[r]? = some (.map (entsF 0 T).toArray c)) (hS : Small S) (hT : ∀ U ∈ T, Small U) :
  (Instr.lookup 46 (.map (some r)) (kv S) true).run Tryz.prog W = .ok (.tuple #[.int .i64 (if fi T S < T.length then (fi T S : Int) else 0), .bool (decide (fi T S < T.length))]) W := by
 have hm : Tryz.prog.underlying 46 = some (.map 9 3) := Tryz.underlying46
 have hd : Tryz.prog.underlying 9 = some .string := Tryz.underlying9
 have hc : (Instr.checkKey (entsF 0 T).toArray.isEmpty 10000 9 (kv S)).run Tryz.prog W = .ok () W := MapKept.run_checkKey hd (k := kv S) trivial _ 9999
 have hf := findE hS T 0 0 hT
 have hz := Tryz.zeroValue3
 change _ = some (if fi T S < T.length then some (0 + fi T S, Value.int .i64 ((0 + fi T S : Nat) : Int)) else none) at hf
 by_cases h : fi T S < T.length
 · rw [if_pos h, Nat.zero_add] at hf
   rw [if_pos h, decide_eq_true h]
   simp only [Instr.lookup, Sem.run_bind, run_underlying hm, Result.andThen_ok, MapKept.run_getObj_map hb, Sem.run_pure, hc, MapKept.run_findKey hd (l := (entsF 0 T).toArray.toList) hf]
   rfl
 · rw [if_neg h] at hf
   rw [if_neg h, decide_eq_false h]
   simp only [Instr.lookup, Sem.run_bind, run_underlying hm, Result.andThen_ok, MapKept.run_getObj_map hb, Sem.run_pure, hc, MapKept.run_findKey hd (l := (entsF 0 T).toArray.toList) hf, hz]
   rfl
theorem upd52 {W : World} {r : Nat} {T : Sets} {S : List Int} (hb : W.heap[r]? = some (.map (entsF 0 T).toArray T.length)) (hS : Small S) (hT : ∀ U ∈ T, Small U) (hn : ¬ fi T S < T.length) :
  ∃ W', (Instr.mapUpdate 46 (.map (some r)) (kv S) (.int .i64 T.length)).run Tryz.prog W = .ok () W' ∧ W'.heap[r]? = some (.map (entsF 0 (T ++ [S])).toArray (T ++ [S]).length) ∧ AX.But r W W' := by
 have hm : Tryz.prog.underlying 46 = some (.map 9 3) := Tryz.underlying46
 have hd : Tryz.prog.underlying 9 = some .string := Tryz.underlying9
 have hf := findE hS T 0 0 hT
 change _ = some (if fi T S < T.length then some (0 + fi T S, Value.int .i64 ((0 + fi T S : Nat) : Int)) else none) at hf
 rw [if_neg hn] at hf
 have hc : (Instr.checkKey false 10000 9 (kv S)).run Tryz.prog W = .ok () W := MapKept.run_checkKey hd (k := kv S) trivial _ 9999
 have hx : ((entsF 0 T).toArray.push { key := kv S, val := .int .i64 (T.length : Int), born := T.length }) = (entsF 0 (T ++ [S])).toArray := by
  rw [entsF_snoc, Nat.zero_add]
  simp
 refine ⟨{ W with heap := W.heap.setIfInBounds r (.map ((entsF 0 T).toArray.push { key := kv S, val := .int .i64 (T.length : Int), born := T.length }) (T.length + 1)) }, ?_, ?_, ⟨⟨rfl, rfl, rfl, by simp, fun j hj => absurd hj (Nat.not_lt_zero _)⟩, fun j hj hne => (MapKept.heap_set hb).2 j hne⟩⟩
 · simp only [Instr.mapUpdate, Sem.run_bind, run_underlying hm, Result.andThen_ok, MapKept.run_getObj_map hb, hc, MapKept.run_findKey hd (l := (entsF 0 T).toArray.toList) hf, MapKept.run_setObj_map _ hb]
 · rw [← hx, List.length_append]
   exact (MapKept.heap_set hb).1
def bads (M r : Nat) (sv : Value) (oth : List Nat) : List Nat := M :: r :: (sv.ownBlock.toList ++ oth)
structure Mkr (W : World) (base : Nat) (oth : List Nat) (M r : Nat) (x0 x1 x2 : Value) (most : Nat) (sv : Value) (vals : List Value) (T : Sets) : Prop where
 box : Bx W M 48 #[x0, x1, x2, .int .i64 most, sv, .map (some r)]
 own : W.ownsRow base 24 1 sv T.length vals
 vl : vals.length = T.length
 row : ∀ (i : Nat) (v : Value) (S : List Int), vals[i]? = some v → T[i]? = some S → SAt W (bads M r sv oth) v S
 map : W.heap[r]? = some (.map (entsF 0 T).toArray T.length)
 bM : base ≤ M
 br : base ≤ r
 small : ∀ U ∈ T, Small U
theorem Mkr.ne {W : World} {base : Nat} {oth : List Nat} {M r : Nat} {x0 x1 x2 : Value} {most : Nat} {sv : Value} {vals : List Value} {T : Sets} (h : Mkr W base oth M r x0 x1 x2 most sv vals T) : M ≠ r := by
 intro e
 have h1 := h.box
 have h2 := h.map
 rw [← e, show W.heap[M]? = _ from h1] at h2
 cases h2
theorem own_cells {W : World} {base : Nat} {e : TypeId} {k : Nat} {v : Value} {n : Nat} {xs : List Value} (h : W.ownsRow base e k v n xs) (g : Nat) (hg : v.ownBlock = some g) : ∃ cs, W.heap[g]? = some (.cells cs e (0, 0)) := by
 rcases h.2 with ⟨rfl, _⟩ | ⟨g', cap, cur, rfl, _, hh, _⟩
 · cases hg
 · cases hg
   exact ⟨cur, hh⟩
theorem Mkr.neM {W : World} {base : Nat} {oth : List Nat} {M r : Nat} {x0 x1 x2 : Value} {most : Nat} {sv : Value} {vals : List Value} {T : Sets} (h : Mkr W base oth M r x0 x1 x2 most sv vals T) : sv.ownBlock ≠ some M := fun e => by
 obtain ⟨cs, hc⟩ := own_cells h.own M e
 rw [show W.heap[M]? = _ from h.box] at hc
 cases hc
theorem Mkr.ner {W : World} {base : Nat} {oth : List Nat} {M r : Nat} {x0 x1 x2 : Value} {most : Nat} {sv : Value} {vals : List Value} {T : Sets} (h : Mkr W base oth M r x0 x1 x2 most sv vals T) : sv.ownBlock ≠ some r := fun e => by
 obtain ⟨cs, hc⟩ := own_cells h.own r e
 rw [h.map] at hc
 cases hc
theorem info24' : (Tryz.prog.info? 24).map (fun i => (i.zero, i.size, i.bytes)) = some (some (.slice none 0 0), 1, 24) := by kernel_rfl
theorem append_s {ops : Array Oper} {rest : List Oper} {o : Oper} {a : Act} {Q : Exit → Act → World → Prop} (W : World) (base : Nat) (v : Value) (pre : List Value) (y : Value) (hgd : o.guard = none) (s z : Operand)
  (ho : o.op = .call { callee := .builtin .append, args := #[s, z], argTypes := #[23, 23] }) (hs : a.eval s = v) (n : Nat) (hn : pre.length = n) (hown : W.ownsRow base 24 1 v n pre) (B c : Nat) (hx : a.eval z = .slice (some ⟨B, 0, none⟩) 1 c)
  (hc0 : W.cell? ⟨B, 0, none⟩ = some y) (hy : y.oneCell' = true) (hl : pre.length ≤ 10000000) (hb : base ≤ W.heap.size)
  (h : ∀ v' w', w'.ownsRow base 24 1 v' (n + 1) (pre ++ [y]) → W.grownBy w' v.ownBlock → (v'.ownBlock = v.ownBlock ∨ v'.ownBlock = some W.heap.size) → wpList Tryz.prog ops Q rest (a.put o.dst v') w') : wpList Tryz.prog ops Q (o :: rest) a W := by
 obtain ⟨ti, hi, hz0, hz1, hz2⟩ := info_parts info24'
 refine wpList_append_own_at (P := Tryz.prog) (w := W) hgd s z 23 ho base 24 ti (.slice none 0 0) 1 24 Tryz.underlying23 hi hz0 hz1 hz2 rfl (by decide) v n _ hs hown ⟨B, 0, none⟩ 1 c [y] hx rfl
  (fun j u hj => by
   rcases j with _ | j
   · simp at hj; subst hj; exact hc0
   · simp at hj) (fun u hu => by rw [List.mem_singleton.1 hu]; exact hy) (by unfold maxLen; omega) (by omega) hb ?_
 intro v' w' h1 h2 h3 h4
 exact h v' w' h1 h2 h4
end Go.Proofs.YtaadkdmbhckdeaaGreatDoor
