/- Dfa: Build 9: what its loops say. -/
import Derived.Test.YtaadkdmbhckdeaaGreatDoorN22
namespace Go.Proofs.YtaadkdmbhckdeaaGreatDoor
open Go Go.Proofs Go.RowKit Go.Shelf
attribute [local go_sem] Oper.semAt_some
def BPost (w : World) (N : Nf) (most : Nat) (e : Ending) (w' : World) : Prop :=
 Below w.heap.size w w' ∧ ((bldB most (stepN N) (lowsOf (spl N.cl)) (most + 1) 0 [[0]] = none ∧ e = .returned (.tuple #[.agg #[.slice none 0 0, .slice none 0 0], .int .i64 10])) ∨
 ∃ tss T an ar cn cr, bldB most (stepN N) (lowsOf (spl N.cl)) (most + 1) 0 [[0]] = some (tss, T) ∧ e = .returned (.tuple #[.agg #[.slice an (nextOf (clsOf (spl N.cl)) tss).length cn, .slice ar (rulesOf N.ru T).length cr], .int .i64 0]) ∧ IRow w' an (nextOf (clsOf (spl N.cl)) tss) ∧ IRow w' ar (rulesOf N.ru T))
def slots (a : Array Value) (k : Nat) : Value := a.getD k undef
def TOk (N : Nf) (T : Sets) : Prop := ∀ S ∈ T, S.length ≤ 1024 ∧ ∀ q ∈ S, 0 ≤ q ∧ q < (N.cl.length : Int)
def OI (w W : World) (N : Nf) (x0 x1 x2 : Value) (U D r ga most i : Nat) (ds : List Deferred) : Prop :=
 ∃ oth sv nv rv vals T tss, Bs w W x0 x1 x2 U (U + 1) D (r + 1) r ga (spl N.cl) most oth sv nv rv vals T (nextOf (clsOf (spl N.cl)) tss) ((T.take i).map (ruleF N.ru)) ∧ Mk w.heap.size W ds ∧
  BldS most (stepN N) (lowsOf (spl N.cl)) [[0]] i tss T ∧ tss.length = i ∧ i ≤ T.length ∧ T.length ≤ most ∧ TOk N T ∧ ∀ k ∈ oth, k < W.heap.size
def II (w W : World) (N : Nf) (x0 x1 x2 : Value) (U D r ga most RB g j : Nat) (ds : List Deferred) (nv rv : Value) (next rule : List Int) (T0 : Sets) (Si : List Int) : Prop :=
 ∃ oth sv vals T ts rw, Bs w W x0 x1 x2 U (U + 1) D (r + 1) r ga (spl N.cl) most oth sv nv rv vals T next rule ∧ Mk w.heap.size W ds ∧
  (Bx W g 3 (ci rw) ∧ Bx W RB 24 #[.slice (some ⟨g, 0, none⟩) 256 256] ∧ RB ∉ bads (r + 1) r sv oth ∧ g ∈ oth ∧ nv.ownBlock ≠ some g ∧ rv.ownBlock ≠ some g) ∧
  rowB most (stepN N Si) ((lowsOf (spl N.cl)).take j) T0 = some (ts, T) ∧ Rw (spl N.cl) ts j rw ∧ ts.length = j ∧ T.length ≤ most ∧ TOk N T ∧ (∃ R, T = T0 ++ R) ∧ ∀ k ∈ oth, k < W.heap.size
theorem Bs.set {w W : World} {x0 x1 x2 : Value} {U R4 D M r ga : Nat} {d : List Kl} {most : Nat} {oth : List Nat} {sv nv rv : Value} {vals : List Value} {T : Sets} {next rule : List Int} (h : Bs w W x0 x1 x2 U R4 D M r ga d most oth sv nv rv vals T next rule) {i : Nat} (hi : i < T.length) :
  ∃ gs c v, sv = .slice (some ⟨gs, 0, none⟩) T.length c ∧ gs < W.heap.size ∧ gs ∈ bads M r sv [] ∧ W.cell? ⟨gs, i, none⟩ = some v ∧ SAt W (bads M r sv oth) v (T.getD i []) := by
 obtain ⟨sa, sc, hsv⟩ := row_shape h.mkr.own
 rcases h.mkr.own.2 with ⟨_, h0⟩ | ⟨gs, cap, cur, e, _, hh, _⟩
 · omega
 · have hv : i < vals.length := by rw [h.mkr.vl]; exact hi
   have hc := h.mkr.own.cells (g := gs) (by rw [e]; rfl) i vals[i] (List.getElem?_eq_getElem hv)
   rw [addr_add, Nat.zero_add] at hc
   refine ⟨gs, cap, vals[i], e, (Array.getElem?_eq_some_iff.1 hh).1, by unfold bads; rw [e]; simp [Value.ownBlock], hc, ?_⟩
   rw [List.getD_eq_getElem?_getD, List.getElem?_eq_getElem hi]
   exact h.mkr.row i _ _ (List.getElem?_eq_getElem hv) (List.getElem?_eq_getElem hi)
theorem Mkr.more {W : World} {base : Nat} {oth : List Nat} {M r : Nat} {x0 x1 x2 : Value} {most : Nat} {sv : Value} {vals : List Value} {T : Sets} (h : Mkr W base oth M r x0 x1 x2 most sv vals T) (z : Nat) (hz : W.heap.size ≤ z) : Mkr W base (z :: oth) M r x0 x1 x2 most sv vals T :=
 { h with
  row := fun i v S hv hS => (h.row i v S hv hS).more fun k hk hlt => Decidable.byContradiction fun hn => notin_cons hn (z := z) (by omega) hk }
theorem oper_append_l {o : Oper} {a : Act} {K : Act → World → Prop} {Q : Exit → Act → World → Prop} {W : World} (base : Nat) (v : Value) (pre l : List Int) (s y : Operand)
  (ho : o.op = .call { callee := .builtin .append, args := #[s, y], argTypes := #[24, 24] }) (hs : a.eval s = v) (hown : W.ownsRow base 3 1 v pre.length (pre.map (Value.int .i64))) (B c m : Nat) (hm : m = l.length) (hx : a.eval y = .slice (some ⟨B, 0, none⟩) m c)
  (hc : ∀ j (h : j < l.length), W.cell? ⟨B, j, none⟩ = some (.int .i64 l[j])) (hl : pre.length ≤ 1000000) (hl2 : l.length ≤ 1000000) (hb : base ≤ W.heap.size)
  (h : ∀ v' w', w'.ownsRow base 3 1 v' (pre.length + l.length) (pre.map (Value.int .i64) ++ l.map (Value.int .i64)) → W.grownBy w' v.ownBlock → (v'.ownBlock = v.ownBlock ∨ v'.ownBlock = some W.heap.size) → K (a.put o.dst v') w') : o.wp Tryz.prog a W K Q := by
 subst hm
 obtain ⟨ti, hi, hz0, hz1, hz2⟩ := info_parts info3'
 obtain ⟨v', w', hr, h2, h3, _, h5⟩ := run_append_own_at (P := Tryz.prog) W base 24 o.type 3 ti (.int .i64 0) 1 8 Tryz.underlying24 hi hz0 hz1 hz2 rfl (by decide) v pre.length _ hown ⟨B, 0, none⟩ l.length c (l.map (Value.int .i64)) (by simp)
  (fun j u hj => by
   rw [addr_add, Nat.zero_add]
   obtain ⟨hj', rfl⟩ := List.getElem?_eq_some_iff.1 hj
   rw [List.getElem_map]
   exact hc j (by simpa using hj')) (fun u hu => by
   obtain ⟨k, _, rfl⟩ := List.mem_map.1 hu
   rfl) (by unfold maxLen; omega) (by omega) hb
 unfold Oper.wp execOp
 simp only [ho, resolve, invoke, builtin, Sem.run_bind, Sem.run_pure, Result.andThen_ok, List.map_toArray, List.map_cons, List.map_nil, hs, hx, hr]
 exact h v' w' h2 h3 h5
theorem mk_in {F : Fence} {m : Nat} {P : Program} {ops : Array Oper} {Q : Exit → Act → World → Prop} {a : Act} {w : World} {rest : List Oper} {d : Option Tmp} {t : TypeId} {x y : Operand} {ty : TypeId} {pos : String} {after : Array Edge}
 (h : wpListIn F m P ops Q ({ dst := d, op := .makeSlice t x y, type := ty, pos := pos, after := after, guard := none } :: rest) a w) :
 wpListIn F m P ops Q ({ dst := d, op := .makeSlice t x y, type := ty, pos := pos, after := after, guard := none } :: rest) a w := h
theorem sz32 : AX.sizeT Tryz.prog 28 = some 2 := by kernel_rfl
theorem sz24 : AX.sizeT Tryz.prog 24 = some 1 := by kernel_rfl
def rowL9_13 : List (Nat × Nat) := [(0, 0), (1, 0), (2, 0), (3, 0), (4, 0), (5, 0), (6, 0), (7, 0), (8, 0), (9, 0), (10, 2), (11, 2), (12, 2), (13, 0), (14, 2)]
def inf9_13 : List AX.Inf := [⟨0, 4503599627370496, 512, true⟩, ⟨1, 9007199254740992, 4503599627370496, true⟩, ⟨0, 18014398509481984, 4, true⟩, ⟨0, 36028797018963968, 128, true⟩, ⟨8, 72057594037927936, 36028797018963968, true⟩, ⟨16, 144115188075855872, 72057594037927936, true⟩, ⟨32, 288230376151711744, 144115188075855872, true⟩, ⟨0, 576460752303423488, 1024, true⟩, ⟨192, 1152921504606846976, 864691128455135232, true⟩, ⟨256, 2305843009213693952, 1152921504606846976, true⟩, ⟨516, 4611686018427387904, 2323857407723175936, false⟩, ⟨1024, 9223372036854775808, 4611686018427387904, false⟩, ⟨3074, 18446744073709551616, 9232379236109516800, false⟩, ⟨8191, 36893488147419103232, 512, true⟩, ⟨16383, 0, 55340232221128654848, false⟩]
theorem fit9_13 : AX.mixF inf9_13 (AX.asF rowL9_13) 0 = true := by kernel_rfl
theorem fitl9_13 : AX.fitL inf9_13 14 rowL9_13 = true := by kernel_rfl
theorem mk52 (W : World) : (Instr.makeMap 46 none).run Tryz.prog W = .ok (.map (some W.heap.size)) (W.alloc (.map #[] 0)) := run_makeMap 52 W
theorem Mkr.new {w W : World} {M r : Nat} {x0 x1 x2 : Value} {most : Nat} (hb : Bx W M 48 #[x0, x1, x2, .int .i64 most, .slice none 0 0, .map (some r)]) (hm : W.heap[r]? = some (.map #[] 0)) (h1 : w.heap.size ≤ M) (h2 : w.heap.size ≤ r) : Mkr W w.heap.size [] M r x0 x1 x2 most (.slice none 0 0) [] [] where
 box := hb
 own := World.ownsRow_nil _ _ _ _
 vl := rfl
 row i v S hv _ := by simp at hv
 map := hm
 bM := h1
 br := h2
 small U hU := by simp at hU
def zrow : List Int := List.replicate 256 0
theorem make256z (w : World) : (Instr.makeSlice 24 (.int .i64 256) (.int .i64 256)).run Tryz.prog w = .ok (.slice (some ⟨w.heap.size, 0, none⟩) 256 256) (w.alloc (.cells (ci zrow) 3)) := make256 w
theorem Rw.startz (d : List Kl) : Rw d [] 0 zrow := Rw.start d
def SF (w V0 V : World) (x0 x1 x2 : Value) (U D M r ga : Nat) (d : List Kl) (most : Nat) (oth : List Nat) (sv nv rv : Value) (T : Sets) (S : List Int) (next rule : List Int) (t : Int) (ok : Bool) : Prop :=
 Dk V0 V ∧ V0.heap.size ≤ V.heap.size ∧ ((ok = false ∧ addS most T S = none ∧ Bx V (U + 1) 28 #[.slice none 0 0, .slice none 0 0] ∧ Below w.heap.size w V) ∨
  (ok = true ∧ ∃ T2 sv' vals', addS most T S = some (t, T2) ∧ Bs w V x0 x1 x2 U (U + 1) D M r ga d most oth sv' nv rv vals' T2 next rule ∧ (∀ k ∈ oth, k < V.heap.size) ∧ Ch (bads M r sv []) V0 V ∧ (sv'.ownBlock = sv.ownBlock ∨ ∃ g, sv'.ownBlock = some g ∧ V0.heap.size ≤ g)))
section
variable {w V0 V V' : World} {x0 x1 x2 : Value} {U D M r ga : Nat} {d : List Kl} {most : Nat} {oth : List Nat} {sv nv rv : Value} {vals : List Value} {T : Sets} {S next rule : List Int} {t : Int} {ok : Bool}
theorem SF.below (h : SF w V0 V x0 x1 x2 U D M r ga d most oth sv nv rv T S next rule t ok) (hb : Below V.heap.size V V') : SF w V0 V' x0 x1 x2 U D M r ga d most oth sv nv rv T S next rule t ok := by
 obtain ⟨h1, h2, h3⟩ := h
 refine ⟨h1.trans (Dk.of_below hb), Nat.le_trans h2 hb.size, ?_⟩
 rcases h3 with ⟨a, b, c, e⟩ | ⟨a, T2, sv', vals', b, c, e, f, g⟩
 · exact .inl ⟨a, b, c.below hb c.lt, e.trans (hb.mono e.size)⟩
 · exact .inr ⟨a, T2, sv', vals', b, c.below hb, fun k hk => Nat.lt_of_lt_of_le (e k hk) hb.size, f.trans (Ch.of_below hb _), g⟩
theorem Bs.cons (h : Bs w V x0 x1 x2 U (U + 1) D M r ga d most oth sv nv rv vals T next rule) (hb : Below V.heap.size V V') : Bs w V' x0 x1 x2 U (U + 1) D M r ga d most (V.heap.size :: oth) sv nv rv vals T next rule :=
 (h.more (V.heap.size :: oth) (fun k hk hlt => by
  rcases List.mem_cons.1 hk with e | hk
  · omega
  · exact hk) (fun k hk => List.mem_cons_of_mem _ hk) (fun k hk => by
  rcases List.mem_cons.1 hk with e | hk
  · rw [e]; exact h.low.size
  · exact h.lo k hk)).below hb
theorem SF.cons (h : SF w V0 V x0 x1 x2 U D M r ga d most oth sv nv rv T S next rule t ok) (hb : Below V.heap.size V V') (hz : V.heap.size < V'.heap.size) : SF w V0 V' x0 x1 x2 U D M r ga d most (V.heap.size :: oth) sv nv rv T S next rule t ok := by
 have h' := h.below hb
 obtain ⟨h1, h2, h3⟩ := h'
 obtain ⟨_, _, k3⟩ := h
 refine ⟨h1, h2, ?_⟩
 rcases k3 with ⟨a, b, c, e⟩ | ⟨a, T2, sv', vals', b, c, e, f, g⟩
 · rcases h3 with h3 | ⟨a', _⟩
   · exact .inl h3
   · rw [a] at a'; cases a'
 · refine .inr ⟨a, T2, sv', vals', b, c.cons hb, fun k hk => ?_, f.trans (Ch.of_below hb _), g⟩
   rcases List.mem_cons.1 hk with e' | hk
   · rw [e']; exact hz
   · exact Nat.lt_of_lt_of_le (e k hk) hb.size
theorem SF.store (h : SF w V0 V x0 x1 x2 U D M r ga d most oth sv nv rv T S next rule t ok) {TB : Nat} {cs : Array Value} (hT : TB ∈ oth) (h0 : V0.heap.size ≤ TB) (hw : w.heap.size ≤ V0.heap.size) (hcs : V.heap[TB]? = some (.cells cs 3 (0, 0))) (hn : nv.ownBlock ≠ some TB) (hr : rv.ownBlock ≠ some TB)
  (h4 : ∀ k, k ≠ TB → V'.heap[k]? = V.heap[k]?) (hl : Below 0 V V') : SF w V0 V' x0 x1 x2 U D M r ga d most oth sv nv rv T S next rule t ok := by
 obtain ⟨h1, h2, h3⟩ := h
 have hc : Ch [TB] V V' := Ch.of_turn (A := TB) hl h4 (by simp)
 refine ⟨h1.trans (Dk.of_ch hc fun k hk _ e => by rw [List.mem_singleton.1 hk, hcs] at e; cases e), Nat.le_trans h2 hl.size, ?_⟩
 rcases h3 with ⟨a, b, c, e⟩ | ⟨a, T2, sv', vals', b, c, e, f, g⟩
 · refine .inl ⟨a, b, (h4 _ (fun e => by rw [← e, show V.heap[_]? = _ from c] at hcs; cases hcs)).trans c, e.trans (hc.below e.size fun k hk => by rw [List.mem_singleton.1 hk]; omega)⟩
 · refine .inr ⟨a, T2, sv', vals', b, c.row hT hcs hn hr hc, fun k hk => Nat.lt_of_lt_of_le (e k hk) hl.size, f.trans' hc fun k hk hlt => ?_, g⟩
   rw [List.mem_singleton.1 hk] at hlt
   omega
theorem SF.of_state {X : World} {e : Ending} (hB : Bs w X x0 x1 x2 U (U + 1) D M r ga d most oth sv nv rv vals T next rule) (hd : Dk V0 X) (hb : Below V0.heap.size V0 X) (hl : ∀ k ∈ oth, k < X.heap.size) (h : StPost X w.heap.size oth M r x0 x1 x2 most sv T S e V) :
  ∃ t ok, e = .returned (.tuple #[.int .i64 t, .bool ok]) ∧ SF w V0 V x0 x1 x2 U D M r ga d most oth sv nv rv T S next rule t ok := by
 rcases h with ⟨h1, rfl, h3⟩ | ⟨t, T2, sv', vals', h1, rfl, h3, h4, h5⟩
 · refine ⟨0, false, rfl, hd.trans (hB.mkr.dk h3), Nat.le_trans hb.size h3.low.size, .inl ⟨rfl, h1, h3.bx hB.rb (fun hm => hB.nR (bads_nil hm)), hB.low.trans (h3.below hB.low.size fun b hb' => ?_)⟩⟩
   unfold bads at hb'
   simp only [List.mem_cons, List.mem_append, Option.mem_toList, List.not_mem_nil, or_false] at hb'
   rcases hb' with rfl | rfl | hb'
   · exact hB.mkr.bM
   · exact hB.mkr.br
   · exact (hB.mkr.own.lt b hb').1
 · exact ⟨t, true, rfl, hd.trans (hB.mkr.dk h4), Nat.le_trans hb.size h4.low.size, .inr ⟨rfl, T2, sv', vals', h1, hB.state h3 h4 h5, fun k hk => Nat.lt_of_lt_of_le (hl k hk) h4.low.size, (Ch.of_below hb _).trans h4, h5.imp id fun ⟨g, h6, h7⟩ => ⟨g, h6, Nat.le_trans hb.size h7⟩⟩⟩
end
theorem Ch.lets {g b : Nat} {W0 X Y : World} (h : Ch [g, b] W0 X) (hl : AX.Lets b W0.heap.size X Y) : Ch [g, b] W0 Y := ⟨h.low.trans hl.low, fun k hk hn => by
 have h1 := h.same k hk hn
 obtain ⟨o, ho⟩ : ∃ o, W0.heap[k]? = some o := ⟨_, Array.getElem?_eq_getElem hk⟩
 rw [ho] at h1 ⊢
 exact hl.same k o h1 (fun e => hn (by rw [e]; simp)) (.inl hk)⟩
theorem bx_ne {W : World} {B B' : Nat} {t t' : TypeId} {cs cs' : Array Value} (h : Bx W B t cs) (h' : Bx W B' t' cs') (ht : t ≠ t') : B ≠ B' := by
 rintro rfl
 have := (show W.heap[B]? = _ from h).symm.trans h'
 cases this
 exact ht rfl
theorem sz3 : AX.sizeT Tryz.prog 3 = some 1 := by kernel_rfl
theorem bads_lt {w V : World} {x0 x1 x2 : Value} {U D M r ga : Nat} {d : List Kl} {most : Nat} {oth : List Nat} {sv nv rv : Value} {vals : List Value} {T : Sets} {next rule : List Int} (h : Bs w V x0 x1 x2 U (U + 1) D M r ga d most oth sv nv rv vals T next rule) (hl : ∀ k ∈ oth, k < V.heap.size) : ∀ k ∈ bads M r sv oth, k < V.heap.size := fun k hk => by
 unfold bads at hk
 simp only [List.mem_cons, List.mem_append, Option.mem_toList] at hk
 rcases hk with rfl | rfl | hk | hk
 · exact h.mkr.box.lt
 · exact (Array.getElem?_eq_some_iff.1 h.mkr.map).1
 · exact (h.mkr.own.lt k hk).2
 · exact hl k hk
theorem StPost.ch {W W' : World} {base : Nat} {oth : List Nat} {M r : Nat} {x0 x1 x2 : Value} {most : Nat} {sv : Value} {T : Sets} {S : List Int} {e : Ending} (h : StPost W base oth M r x0 x1 x2 most sv T S e W') : Ch (bads M r sv []) W W' := by
 rcases h with ⟨_, _, h⟩ | ⟨_, _, _, _, _, _, _, h, _⟩
 · exact h
 · exact h
def plan9_19 : AX.Plan := .plain 0 (.plain 1 (.plain 2 (.plain 3 (.plain 4 (.plain 6 (.plain 9 (.two 5 (.plain 7 (.two 8 (.two 10 (.two 11 (.plain 12 (.plain 13 (.plain 14 (.one 15 (.one 16 (.plain 17 .nil)))))) 15 (.one 11 (.plain 12 (.plain 13 (.plain 14 (.one 16 (.plain 17 .nil))))))) 15 (.one 10 (.one 11 (.plain 12 (.plain 13 (.plain 14 (.one 16 (.plain 17 .nil)))))))) 15 (.one 8 (.one 10 (.one 11 (.plain 12 (.plain 13 (.plain 14 (.one 16 (.plain 17 .nil)))))))))) 15 (.one 5 (.plain 7 (.one 8 (.one 10 (.one 11 (.plain 12 (.plain 13 (.plain 14 (.one 16 (.plain 17 .nil)))))))))))))))))
def inf9_19 : List AX.Inf := [⟨0, 604462909807314587353088, 128, true⟩, ⟨0, 1208925819614629174706176, 4, true⟩, ⟨0, 2417851639229258349412352, 128, true⟩, ⟨4, 4835703278458516698824704, 2417851639229258349412352, true⟩, ⟨8, 9671406556917033397649408, 4835703278458516698824704, true⟩, ⟨16, 19342813113834066795298816, 9671406556917033397649408, true⟩, ⟨0, 38685626227668133590597632, 1024, true⟩, ⟨96, 77371252455336267181195264, 58028439341502200385896448, true⟩, ⟨128, 154742504910672534362390528, 77371252455336267181195264, true⟩, ⟨0, 309485009821345068724781056, 16384, true⟩, ⟨770, 618970019642690137449562112, 465436440551632232261877760, false⟩, ⟨1025, 1237940039285380274899124224, 619574482552497452036915200, false⟩, ⟨2048, 302231454903657293676544, 1237940039285380274899124224, true⟩, ⟨4096, 2475880078570760549798248448, 302231454903657293676544, true⟩, ⟨4096, 4951760157141521099596496896, 302231454903657293676544, true⟩, ⟨0, 65536, 0, false⟩, ⟨49151, 0, 2475880078570760549798313984, false⟩, ⟨131071, 131072, 4951760157141521099596496896, true⟩]
theorem fit9_19 : AX.planF inf9_19 plan9_19 0 18 = true := by kernel_rfl
end Go.Proofs.YtaadkdmbhckdeaaGreatDoor
