/- Dfa: what Build's loops need: marks, rows, a range over Each. -/
import Derived.Test.YtaadkdmbhckdeaaGreatDoorN21
namespace Go.Proofs.YtaadkdmbhckdeaaGreatDoor
open Go Go.Proofs Go.RowKit Go.Shelf
attribute [local go_sem] Oper.semAt_some
theorem st_in {F : Fence} {m : Nat} {P : Program} {ops : Array Oper} {Q : Exit → Act → World → Prop} {a : Act} {w : World} {rest : List Oper} {t : TypeId} {x y : Operand} {ty : TypeId} {pos : String} {after : Array Edge}
 (h : wpListIn F m P ops Q ({ dst := none, op := .store t x y, type := ty, pos := pos, after := after, guard := none } :: rest) a w) :
 wpListIn F m P ops Q ({ dst := none, op := .store t x y, type := ty, pos := pos, after := after, guard := none } :: rest) a w := h
theorem info3' : (Tryz.prog.info? 3).map (fun i => (i.zero, i.size, i.bytes)) = some (some (.int .i64 0), 1, 8) := by kernel_rfl
theorem append_iIn {F : Fence} {n : Nat} {ops : Array Oper} {rest : List Oper} {o : Oper} {a : Act} {Q : Exit → Act → World → Prop} (W : World) (base : Nat) (v : Value) (pre l : List Int) (hgd : o.guard = none) (s y : Operand)
  (ho : o.op = .call { callee := .builtin .append, args := #[s, y], argTypes := #[24, 24] }) (hs : a.eval s = v) (hown : W.ownsRow base 3 1 v pre.length (pre.map (Value.int .i64))) (B c m : Nat) (hm : m = l.length) (hx : a.eval y = .slice (some ⟨B, 0, none⟩) m c)
  (hc : ∀ j (h : j < l.length), W.cell? ⟨B, j, none⟩ = some (.int .i64 l[j])) (hl : pre.length ≤ 1000000) (hl2 : l.length ≤ 1000000) (hb : base ≤ W.heap.size)
  (h : ∀ v' w', w'.ownsRow base 3 1 v' (pre.length + l.length) (pre.map (Value.int .i64) ++ l.map (Value.int .i64)) → W.grownBy w' v.ownBlock → (v'.ownBlock = v.ownBlock ∨ v'.ownBlock = some W.heap.size) → wpListIn F n Tryz.prog ops Q rest (a.put o.dst v') w') : wpListIn F n Tryz.prog ops Q (o :: rest) a W := by
 subst hm
 obtain ⟨ti, hi, hz0, hz1, hz2⟩ := info_parts info3'
 refine wpListIn_plain hgd fun K hK => ?_
 obtain ⟨v', w', hr, h2, h3, _, h5⟩ := run_append_own_at (P := Tryz.prog) W base 24 o.type 3 ti (.int .i64 0) 1 8 Tryz.underlying24 hi hz0 hz1 hz2 rfl (by decide) v pre.length _ hown ⟨B, 0, none⟩ l.length c (l.map (Value.int .i64)) (by simp)
  (fun j u hj => by
   rw [addr_add, Nat.zero_add]
   obtain ⟨hj', rfl⟩ := List.getElem?_eq_some_iff.1 hj
   rw [List.getElem_map]
   exact hc j (by simpa using hj')) (fun u hu => by
   obtain ⟨k, _, rfl⟩ := List.mem_map.1 hu
   rfl) (by unfold maxLen; omega) (by omega) hb
 unfold Oper.wpIn
 refine ⟨?_, ?_⟩
 · simp [Oper.about, ho, resolve, Target.leads, Sem.run_pure]
 · rw [Oper.semAt_plain F _ _ (by rw [ho]; intro c hc'; cases hc')]
   simp [execOp, ho, resolve, invoke, builtin, hs, hx, hr, Result.andThen]
   exact hK _ _ (h v' w' h2 h3 h5)
def Mk (base : Nat) (W : World) : List Deferred → Prop
 | [] => True
 | d :: ds => ∃ D, d = { target := .collected D, args := #[] } ∧ base ≤ D ∧ W.heap[D]? = some (.deferred (some [])) ∧ (∀ d' ∈ ds, d' ≠ { target := .collected D, args := #[] }) ∧ Mk base W ds
theorem Mk.mem {base : Nat} {W : World} : ∀ {ds : List Deferred}, Mk base W ds → ∀ d ∈ ds, ∃ D, d = { target := .collected D, args := #[] } ∧ base ≤ D ∧ W.heap[D]? = some (.deferred (some []))
 | [], _, d, hd => by cases hd
 | d0 :: ds, ⟨D, h1, h2, h3, _, h5⟩, d, hd => by
  rcases List.mem_cons.1 hd with rfl | hd
  · exact ⟨D, h1, h2, h3⟩
  · exact Mk.mem h5 d hd
theorem Mk.keep {base : Nat} {W W' : World} : ∀ {ds : List Deferred}, Mk base W ds → (∀ D, { target := .collected D, args := #[] } ∈ ds → W.heap[D]? = some (.deferred (some [])) → W'.heap[D]? = some (.deferred (some []))) → Mk base W' ds
 | [], _, _ => trivial
 | d0 :: ds, ⟨D, h1, h2, h3, h4, h5⟩, hk => ⟨D, h1, h2, hk D (by rw [h1]; exact List.mem_cons_self ..) h3, h4, h5.keep fun D' hD' => hk D' (List.mem_cons_of_mem _ hD')⟩
structure Tk (base : Nat) (W W' : World) : Prop where
 low : Below base W W'
 same : ∀ (k : Nat) (o : Obj), W.heap[k]? = some o → o.isCells = true → W'.heap[k]? = some o
theorem leaves_mk {F : Fence} {n : Nat} {P : Program} {fn : Func} {tmps : Array Value} {R : Ending → World → Prop} {base : Nat} : ∀ (ds : List Deferred) (W : World), Mk base W ds → (∀ W', Tk base W W' → LeavesIn F n P fn tmps R [] .returning W') → LeavesInM F n P fn tmps R ds .returning W
 | [], W, _, h => h W ⟨Below.refl _ _, fun _ _ hk _ => hk⟩
 | d :: ds, W, ⟨D, h1, h2, h3, h4, h5⟩, h => by
  subst h1
  refine ⟨by simp, .inl ⟨_, _, rfl, run_takeDeferred h3, ?_⟩⟩
  have hlow : Below base W (W.putObj D (.deferred none)) := (Below.refl base W).grown (grownBy_putObj' W D _) (by have := (Array.getElem?_eq_some_iff.1 h3).1; omega) (fun k e => by cases e; exact h2)
  refine leaves_mk ds _ (h5.keep fun D' hD' hk => ?_) fun W' hT => h W' ⟨hlow.trans hT.low, fun k o hk hc => hT.same k o ((World.putObj_heap_other (fun e => ?_)).trans hk) hc⟩
  · exact (World.putObj_heap_other (fun e => h4 _ hD' (by rw [e]))).trans hk
  · subst e; rw [h3] at hk; cases hk; cases hc
theorem Mk.dk {base : Nat} {W W' : World} {ds : List Deferred} (h : Mk base W ds) (hd : Dk W W') : Mk base W' ds := h.keep fun D _ hD => hd D hD
def ci (l : List Int) : Array Value := (l.map (Value.int .i64)).toArray
theorem ci_at (l : List Int) (j : Nat) (h : j < l.length) : (ci l)[j]? = some (.int .i64 l[j]) := by simp [ci, h]
theorem ci_set (l : List Int) (j : Nat) (t : Int) : (ci l).setIfInBounds j (.int .i64 t) = ci (l.set j t) := by simp [ci, List.map_set]
theorem make256 (w : World) : (Instr.makeSlice 24 (.int .i64 256) (.int .i64 256)).run Tryz.prog w = .ok (.slice (some ⟨w.heap.size, 0, none⟩) 256 256) (w.alloc (.cells (ci (List.replicate 256 0)) 3)) := by
 obtain ⟨ti, hi, hz0, hz1, hz2⟩ := info_parts info3'
 have h := run_makeSlice (P := Tryz.prog) (w := w) 24 3 ti (.int .i64 0) Tryz.underlying24 hi hz0 .i64 .i64 256 256 (by decide) (Int.le_refl _) (by rw [hz1]; decide) (by rw [hz2]; decide) (by decide)
 rw [h]
 have e : madeCells (Value.int .i64 0).cells ((256 : Int).toNat * ti.size) = ci (List.replicate 256 0) := by
  rw [hz1]
  refine Array.toList_inj.1 ?_
  show (madeCells #[Value.int .i64 0] 256).toList = _
  rw [toList_madeCells_one]
  unfold ci
  rw [List.map_replicate]
 rw [e]
 rfl
theorem wpListIn_make {F : Fence} {m : Nat} {ops : Array Oper} {rest : List Oper} {a : Act} {Q : Exit → Act → World → Prop} {d : Option Tmp} {t : TypeId} {x y : Operand} {ty : TypeId} {pos : String} {after : Array Edge} {w w' : World} {v1 v2 v : Value}
  (h1 : a.eval x = v1) (h2 : a.eval y = v2) (h : (Instr.makeSlice t v1 v2).run Tryz.prog w = .ok v w') (hK : wpListIn F m Tryz.prog ops Q rest (a.put d v) w') :
  wpListIn F m Tryz.prog ops Q ({ dst := d, op := .makeSlice t x y, type := ty, pos := pos, after := after, guard := none } :: rest) a w := by
 refine wpListIn_plain rfl fun K hK' => ?_
 unfold Oper.wpIn
 refine ⟨?_, ?_⟩
 · simp [Oper.about]
 · rw [Oper.semAt_plain F _ _ (by intro c hc'; cases hc')]
   simp only [execOp, h1, h2]
   rw [show (do let x ← Instr.makeSlice t v1 v2; pure (Next.value x) : Sem Next).run Tryz.prog w = .ok (.value v) w' by simp [h]]
   exact hK' _ _ hK
theorem each_seq (n : Nat) (hn : 1 ≤ n) {b : Nat} (x : Kl) {w0 : World} (hT : TabAt w0) (hC : ClsAt b x.a x.b x.c x.d w0) (hb : b < w0.heap.size) (h0 : 0 < w0.heap.size) (l : Nat) (J : Nat → List Nat → World → Prop) (Jx : List Nat → World → Prop) (W : World) (hW : Below w0.heap.size w0 W)
  (hY : ∀ (pre : List Nat) (y H : Nat) (W1 : World), J H pre W1 → H ≤ W1.heap.size → y < 256 → YieldAt Fence.wide (n - 1) Tryz.prog l #[.int .u8 (y : Nat)] W1 fun e W' => (e = .returned (.bool true) ∧ J W'.heap.size (pre ++ [y]) W' ∧ AX.Keep (fun k => k = 0) H W1 W') ∨ (e = .returned (.bool false) ∧ Jx (pre ++ [y]) W'))
  (hJ : J W.heap.size [] W) : CallsIn Fence.wide n Tryz.prog 48 #[.func (.yield l) #[] #[], .pointer (some ⟨b, 0, none⟩)] W fun e W' => (∃ v, e = .returned v) ∧ ((∃ H xs, xs = x.by_ ∧ J H xs W') ∨ (∃ pre, True ∧ Jx pre W')) := by
 refine (each1_in Fence.wide n trivial trivial rfl hn l b 1 x.a x.b x.c x.d x.h (by decide) (fun pre W => (∃ H, J H pre W ∧ H ≤ W.heap.size) ∧ 0 < W.heap.size) Jx ?_ W (hT.below hW h0) (hC.below hW hb) ⟨⟨_, hJ, Nat.le_refl _⟩, Nat.lt_of_lt_of_le h0 hW.size⟩).mono ?_
 · rintro pre y W1 ⟨⟨H, hJ1, hH⟩, hp⟩ - hy
   refine (hY pre y H W1 hJ1 hH hy).mono ?_
   rintro e W2 (⟨rfl, hJ2, hk⟩ | ⟨rfl, hJ2⟩)
   · refine .inl ⟨rfl, ⟨⟨_, hJ2, Nat.le_refl _⟩, Nat.lt_of_lt_of_le hp hk.low.size⟩, hk.low.os, hk.low.tape, hk.low.output, hk.low.size, fun k hk1 => ?_⟩
     obtain rfl : k = 0 := by omega
     obtain ⟨o, ho⟩ : ∃ o, W1.heap[0]? = some o := ⟨_, Array.getElem?_eq_getElem hp⟩
     rw [ho]
     exact hk.same 0 o ho (.inl rfl)
   · exact .inr ⟨rfl, hJ2⟩
 · rintro e W2 ⟨hv, (⟨ys, rfl, ⟨H, hJ2, _⟩, _⟩ | ⟨pre, _, hJ2⟩)⟩
   · exact ⟨hv, .inl ⟨H, _, rfl, hJ2⟩⟩
   · exact ⟨hv, .inr ⟨pre, trivial, hJ2⟩⟩
end Go.Proofs.YtaadkdmbhckdeaaGreatDoor
