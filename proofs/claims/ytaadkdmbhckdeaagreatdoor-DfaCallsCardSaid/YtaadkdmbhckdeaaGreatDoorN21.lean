/- Dfa: what Build keeps in memory. -/
import Derived.Test.YtaadkdmbhckdeaaGreatDoorN20
import Derived.Test.YtaadkdmbhckdeaaGreatDoorN17
import Derived.Test.YtaadkdmbhckdeaaGreatDoorV8
namespace Go.Proofs.YtaadkdmbhckdeaaGreatDoor
open Go Go.Proofs Go.RowKit
attribute [local go_sem] Oper.semAt_some
theorem part_eq {l : List Kl} {p q : Kl} (hp : p ∈ parts l) (hq : q ∈ parts l) (h : p.low = q.low) : p = q := by
 have ok := parts_ok l
 obtain ⟨i, hi, rfl⟩ := List.getElem_of_mem hp
 obtain ⟨j, hj, rfl⟩ := List.getElem_of_mem hq
 have nz : ∀ k (hk : k < (parts l).length), ∃ x, x < 256 ∧ (parts l)[k].has x = true := fun k hk => ok.some _ (List.getElem_mem hk)
 obtain ⟨x, hx, h1⟩ := nz i hi
 obtain ⟨y, hy, h2⟩ := nz j hj
 obtain ⟨a1, a2, _⟩ := has_low hx h1
 obtain ⟨b1, b2, _⟩ := has_low hy h2
 rw [h] at a2
 have := part_one ok hi hj b1 a2 b2
 subst this
 rfl
def spl (l : List Kl) : List Kl := (parts l).mergeSort fun x y => decide (x.low ≤ y.low)
theorem spl_is {l d : List Kl} (h : d.Perm (parts l)) (hs : d.Pairwise fun x y => x.low ≤ y.low) : d = spl l := by
 have tr : ∀ a b c : Kl, decide (a.low ≤ b.low) = true → decide (b.low ≤ c.low) = true → decide (a.low ≤ c.low) = true := fun a b c h1 h2 => by simp only [decide_eq_true_eq] at *; omega
 have to : ∀ a b : Kl, (decide (a.low ≤ b.low) || decide (b.low ≤ a.low)) = true := fun a b => by simp only [Bool.or_eq_true, decide_eq_true_eq]; omega
 refine List.Perm.eq_of_pairwise (le := fun a b : Kl => decide (a.low ≤ b.low) = true) (fun a b ha hb h1 h2 => ?_) (hs.imp fun h => by simpa using h) (List.pairwise_mergeSort tr to _) (h.trans (List.mergeSort_perm _ _).symm)
 simp only [decide_eq_true_eq] at h1 h2
 exact part_eq (h.mem_iff.1 ha) ((List.mergeSort_perm _ _).mem_iff.1 hb) (by omega)
theorem spl_perm (l : List Kl) : (spl l).Perm (parts l) := List.mergeSort_perm _ _
theorem spl_parted (l : List Kl) : Parted l (spl l) := (parts_ok l).perm (spl_perm l)
theorem spl_sorted (l : List Kl) : (spl l).Pairwise fun x y => x.low ≤ y.low := by
 have tr : ∀ a b c : Kl, decide (a.low ≤ b.low) = true → decide (b.low ≤ c.low) = true → decide (a.low ≤ c.low) = true := fun a b c h1 h2 => by simp only [decide_eq_true_eq] at *; omega
 have to : ∀ a b : Kl, (decide (a.low ≤ b.low) || decide (b.low ≤ a.low)) = true := fun a b => by simp only [Bool.or_eq_true, decide_eq_true_eq]; omega
 exact (List.pairwise_mergeSort tr to (parts l)).imp fun h => by simpa using h
theorem crow_rowAt {w : World} {a : Option Addr} {l : List Kl} (h : CRow w a l) (h0 : l ≠ []) : ∃ B off, a = some ⟨B, off, none⟩ ∧ B < w.heap.size ∧ RowAt w B off l := by
 obtain ⟨B, off, h1, h2, h3⟩ := h h0
 refine ⟨B, off, h1, h2, fun i hi j v hv => ?_⟩
 obtain ⟨c0, c1, c2, c3⟩ := h3 i hi
 simp only [encC] at hv
 match j, hv with
 | 0, hv => simp at hv; subst hv; exact c0
 | 1, hv => simp at hv; subst hv; exact c1
 | 2, hv => simp at hv; subst hv; exact c2
 | 3, hv => simp at hv; subst hv; exact c3
 | j + 4, hv => simp at hv
theorem split_k (l : List Kl) (hl : l.length ≤ 12) (la : Option Addr) (c : Nat) (w : World) (hp : 0 < w.heap.size) (hT : TabAt w) (hL : CRow w la l) :
  Calls Tryz.prog 25 #[.slice la l.length c] w fun e w' => ∃ g cap, e = .returned (.slice (some ⟨g, 0, none⟩) (spl l).length cap) ∧ w.heap.size ≤ g ∧ g < w'.heap.size ∧ RowAt w' g 0 (spl l) ∧ Below w.heap.size w w' :=
 (split_calls l hl la c w hp hT (crow_rowAt hL)).mono fun e w' ⟨g, cap, d, h1, h2, h3, h4, h5, h6, h7⟩ => by
  have := spl_is h4 h5
  subst this
  exact ⟨g, cap, h1, h2, h3, h6, h7⟩
def Dk (X Y : World) : Prop := ∀ k : Nat, X.heap[k]? = some (Obj.deferred (some [])) → Y.heap[k]? = some (Obj.deferred (some []))
theorem Dk.trans {X Y Z : World} (h : Dk X Y) (k : Dk Y Z) : Dk X Z := fun i hi => k i (h i hi)
theorem Dk.of_below {X Y : World} (h : Below X.heap.size X Y) : Dk X Y := fun k hk => (h.block k (Array.getElem?_eq_some_iff.1 hk).1).trans hk
theorem Dk.of_ch {bad : List Nat} {X Y : World} (h : Ch bad X Y) (hb : ∀ k ∈ bad, k < X.heap.size → X.heap[k]? ≠ some (.deferred (some []))) : Dk X Y := fun k hk =>
 (h.same k (Array.getElem?_eq_some_iff.1 hk).1 (fun hm => hb k hm (Array.getElem?_eq_some_iff.1 hk).1 hk)).trans hk
structure Bs (w W : World) (x0 x1 x2 : Value) (U R4 D M r ga : Nat) (d : List Kl) (most : Nat) (oth : List Nat) (sv nv rv : Value) (vals : List Value) (T : Sets) (next rule : List Int) : Prop where
 low : Below w.heap.size w W
 mkr : Mkr W w.heap.size oth M r x0 x1 x2 most sv vals T
 ub : Bx W U 26 #[x0, x1, x2]
 rb : Bx W R4 28 #[.slice none 0 0, .slice none 0 0]
 db : Bx W D 28 #[nv, rv]
 al : RowAt W ga 0 d
 gl : ga < W.heap.size
 no : W.ownsRow w.heap.size 3 1 nv next.length (next.map (Value.int .i64))
 ro : W.ownsRow w.heap.size 3 1 rv rule.length (rule.map (Value.int .i64))
 ap : ∀ g, nv.ownBlock = some g → rv.ownBlock ≠ some g
 nU : U ∉ bads M r sv oth
 nR : R4 ∉ bads M r sv oth
 nA : ga ∉ bads M r sv oth
 oD : D ∈ oth
 oN : ∀ g, nv.ownBlock = some g → g ∈ oth
 oR : ∀ g, rv.ownBlock = some g → g ∈ oth
 lo : ∀ k ∈ oth, w.heap.size ≤ k
theorem bads_nil {M r : Nat} {sv : Value} {oth : List Nat} {k : Nat} (h : k ∈ bads M r sv []) : k ∈ bads M r sv oth := by
 unfold bads at *
 simp only [List.mem_cons, List.mem_append, Option.mem_toList, List.not_mem_nil, or_false] at *
 rcases h with h | h | h
 · exact .inl h
 · exact .inr (.inl h)
 · exact .inr (.inr (.inl h))
theorem oth_bads {M r : Nat} {sv : Value} {oth : List Nat} {k : Nat} (h : k ∈ oth) : k ∈ bads M r sv oth := by unfold bads; simp [h]
theorem notin_step {M r : Nat} {sv sv' : Value} {oth : List Nat} {X : World} {k : Nat} (h : k ∉ bads M r sv oth) (hk : k < X.heap.size) (hs : sv'.ownBlock = sv.ownBlock ∨ ∃ g, sv'.ownBlock = some g ∧ X.heap.size ≤ g) : k ∉ bads M r sv' oth := fun hm => h (by
 unfold bads at *
 simp only [List.mem_cons, List.mem_append, Option.mem_toList] at *
 rcases hm with hm | hm | hm | hm
 · exact .inl hm
 · exact .inr (.inl hm)
 · rcases hs with hs | ⟨g, hg, hge⟩
   · rw [hs] at hm; exact .inr (.inr (.inl hm))
   · rw [hg] at hm; cases hm; omega
 · exact .inr (.inr (.inr hm)))
theorem notin_cons {M r : Nat} {sv : Value} {oth : List Nat} {k z : Nat} (h : k ∉ bads M r sv oth) (hz : k ≠ z) : k ∉ bads M r sv (z :: oth) := fun hm => h (by
 unfold bads at *
 simp only [List.mem_cons, List.mem_append, Option.mem_toList] at *
 rcases hm with hm | hm | hm | hm | hm
 · exact .inl hm
 · exact .inr (.inl hm)
 · exact .inr (.inr (.inl hm))
 · exact absurd hm hz
 · exact .inr (.inr (.inr hm)))
theorem Mkr.typ {W : World} {base : Nat} {oth : List Nat} {M r : Nat} {x0 x1 x2 : Value} {most : Nat} {sv : Value} {vals : List Value} {T : Sets} (h : Mkr W base oth M r x0 x1 x2 most sv vals T) {k : Nat} (hk : k ∈ bads M r sv []) : (∃ cs, W.heap[k]? = some (.cells cs 48 (0, 0))) ∨ (∃ es c, W.heap[k]? = some (.map es c)) ∨ ∃ cs, W.heap[k]? = some (.cells cs 24 (0, 0)) := by
 unfold bads at hk
 simp only [List.mem_cons, List.mem_append, Option.mem_toList, List.not_mem_nil, or_false] at hk
 rcases hk with rfl | rfl | hk
 · exact .inl ⟨_, h.box⟩
 · exact .inr (.inl ⟨_, _, h.map⟩)
 · exact .inr (.inr (own_cells h.own k hk))
theorem Mkr.notyp {W : World} {base : Nat} {oth : List Nat} {M r : Nat} {x0 x1 x2 : Value} {most : Nat} {sv : Value} {vals : List Value} {T : Sets} (h : Mkr W base oth M r x0 x1 x2 most sv vals T) {k : Nat} {cs : Array Value} {t : TypeId} (hk : W.heap[k]? = some (.cells cs t (0, 0))) (h1 : t ≠ 48) (h2 : t ≠ 24) : k ∉ bads M r sv [] := fun hm => by
 rcases h.typ hm with ⟨cs', e⟩ | ⟨es, c, e⟩ | ⟨cs', e⟩
 · rw [hk] at e; cases e; exact h1 rfl
 · rw [hk] at e; cases e
 · rw [hk] at e; cases e; exact h2 rfl
theorem Mkr.dk {W W' : World} {base : Nat} {oth : List Nat} {M r : Nat} {x0 x1 x2 : Value} {most : Nat} {sv : Value} {vals : List Value} {T : Sets} (h : Mkr W base oth M r x0 x1 x2 most sv vals T) (hc : Ch (bads M r sv []) W W') : Dk W W' := Dk.of_ch hc fun k hk _ e => by
 rcases h.typ hk with ⟨cs', e'⟩ | ⟨es, c, e'⟩ | ⟨cs', e'⟩ <;> (rw [e] at e'; cases e')
theorem RowAt.ch {bad : List Nat} {X Y : World} {B off : Nat} {l : List Kl} (h : RowAt X B off l) (hc : Ch bad X Y) (hB : B < X.heap.size) (hn : B ∉ bad) : RowAt Y B off l := fun i hi j v hv => (hc.cell hB hn _).trans (h i hi j v hv)
section
variable {w W W' : World} {x0 x1 x2 : Value} {U R4 D M r ga : Nat} {d : List Kl} {most : Nat} {oth : List Nat} {sv nv rv : Value} {vals : List Value} {T : Sets} {next rule : List Int}
theorem Bs.nD (h : Bs w W x0 x1 x2 U R4 D M r ga d most oth sv nv rv vals T next rule) : D ∉ bads M r sv [] := h.mkr.notyp h.db (by decide) (by decide)
theorem Bs.nN (h : Bs w W x0 x1 x2 U R4 D M r ga d most oth sv nv rv vals T next rule) : ∀ g, nv.ownBlock = some g → g ∉ bads M r sv [] := fun g hg => by
 obtain ⟨cs, hc⟩ := own_cells h.no g hg
 exact h.mkr.notyp hc (by decide) (by decide)
theorem Bs.nRv (h : Bs w W x0 x1 x2 U R4 D M r ga d most oth sv nv rv vals T next rule) : ∀ g, rv.ownBlock = some g → g ∉ bads M r sv [] := fun g hg => by
 obtain ⟨cs, hc⟩ := own_cells h.ro g hg
 exact h.mkr.notyp hc (by decide) (by decide)
theorem Bs.state (h : Bs w W x0 x1 x2 U R4 D M r ga d most oth sv nv rv vals T next rule) {sv' : Value} {vals' : List Value} {T' : Sets} (hm : Mkr W' w.heap.size oth M r x0 x1 x2 most sv' vals' T') (hc : Ch (bads M r sv []) W W') (hs : sv'.ownBlock = sv.ownBlock ∨ ∃ g, sv'.ownBlock = some g ∧ W.heap.size ≤ g) :
  Bs w W' x0 x1 x2 U R4 D M r ga d most oth sv' nv rv vals' T' next rule where
 low := h.low.trans (hc.below h.low.size fun b hb => by
  unfold bads at hb
  simp only [List.mem_cons, List.mem_append, Option.mem_toList, List.not_mem_nil, or_false] at hb
  rcases hb with rfl | rfl | hb
  · exact h.mkr.bM
  · exact h.mkr.br
  · exact (h.mkr.own.lt b hb).1)
 mkr := hm
 ub := hc.bx h.ub fun hb => h.nU (bads_nil hb)
 rb := hc.bx h.rb fun hb => h.nR (bads_nil hb)
 db := hc.bx h.db h.nD
 al := h.al.ch hc h.gl fun hb => h.nA (bads_nil hb)
 gl := Nat.lt_of_lt_of_le h.gl hc.low.size
 no := own_ch h.no hc h.nN
 ro := own_ch h.ro hc h.nRv
 ap := h.ap
 nU := notin_step h.nU h.ub.lt hs
 nR := notin_step h.nR h.rb.lt hs
 nA := notin_step h.nA h.gl hs
 oD := h.oD
 oN := h.oN
 oR := h.oR
 lo := h.lo
theorem Bs.below (h : Bs w W x0 x1 x2 U R4 D M r ga d most oth sv nv rv vals T next rule) (hb : Below W.heap.size W W') : Bs w W' x0 x1 x2 U R4 D M r ga d most oth sv nv rv vals T next rule :=
 h.state (h.mkr.below hb) (Ch.of_below hb _) (.inl rfl)
theorem notin_of {M r : Nat} {sv : Value} {oth oth' : List Nat} {k : Nat} (h : k ∉ bads M r sv oth) (hk : k ∈ oth' → k ∈ oth) : k ∉ bads M r sv oth' := fun hm => h (by
 unfold bads at *
 simp only [List.mem_cons, List.mem_append, Option.mem_toList] at *
 rcases hm with hm | hm | hm | hm
 · exact .inl hm
 · exact .inr (.inl hm)
 · exact .inr (.inr (.inl hm))
 · exact .inr (.inr (.inr (hk hm))))
theorem Bs.more (h : Bs w W x0 x1 x2 U R4 D M r ga d most oth sv nv rv vals T next rule) (oth' : List Nat) (h1 : ∀ k ∈ oth', k < W.heap.size → k ∈ oth) (h2 : ∀ k ∈ oth, k ∈ oth') (h3 : ∀ k ∈ oth', w.heap.size ≤ k) : Bs w W x0 x1 x2 U R4 D M r ga d most oth' sv nv rv vals T next rule where
 low := h.low
 mkr := { h.mkr with
  row := fun i v S hv hS => (h.mkr.row i v S hv hS).more fun k hk hlt => by
   refine Decidable.byContradiction fun hn => notin_of hn (fun hm => h1 k hm hlt) hk }
 ub := h.ub
 rb := h.rb
 db := h.db
 al := h.al
 gl := h.gl
 no := h.no
 ro := h.ro
 ap := h.ap
 nU := notin_of h.nU fun hm => h1 _ hm h.ub.lt
 nR := notin_of h.nR fun hm => h1 _ hm h.rb.lt
 nA := notin_of h.nA fun hm => h1 _ hm h.gl
 oD := h2 _ h.oD
 oN g hg := h2 _ (h.oN g hg)
 oR g hg := h2 _ (h.oR g hg)
 lo := h3
theorem Bs.row (h : Bs w W x0 x1 x2 U R4 D M r ga d most oth sv nv rv vals T next rule) {g : Nat} {cs : Array Value} (hg : g ∈ oth) (hcs : W.heap[g]? = some (.cells cs 3 (0, 0))) (hN : nv.ownBlock ≠ some g) (hR : rv.ownBlock ≠ some g) (hc : Ch [g] W W') : Bs w W' x0 x1 x2 U R4 D M r ga d most oth sv nv rv vals T next rule := by
 have hn := h.mkr.notyp hcs (by decide) (by decide)
 have hM : M ∉ [g] := by
  intro e; rw [List.mem_singleton] at e; subst e; exact hn (by unfold bads; simp)
 have hr : r ∉ [g] := by
  intro e; rw [List.mem_singleton] at e; subst e; exact hn (by unfold bads; simp)
 have hs : ∀ b, sv.ownBlock = some b → b ∉ [g] := fun b hb e => by
  rw [List.mem_singleton] at e; subst e; exact hn (by unfold bads; simp [hb])
 have hne : ∀ k, k ∉ bads M r sv oth → k ∉ [g] := fun k hk e => by
  rw [List.mem_singleton] at e; subst e; exact hk (oth_bads hg)
 exact { h with
  low := h.low.trans (hc.below h.low.size fun b hb => by rw [List.mem_singleton.1 hb]; exact h.lo g hg)
  mkr := h.mkr.ch hc (fun b hb => by rw [List.mem_singleton.1 hb]; exact hg) hM hr hs
  ub := hc.bx h.ub (hne _ h.nU)
  rb := hc.bx h.rb (hne _ h.nR)
  db := hc.bx h.db (fun e => by rw [List.mem_singleton] at e; subst e; have := h.db; rw [show W.heap[_]? = _ from this] at hcs; cases hcs)
  al := h.al.ch hc h.gl (hne _ h.nA)
  gl := Nat.lt_of_lt_of_le h.gl hc.low.size
  no := own_ch h.no hc fun b hb e => by rw [List.mem_singleton] at e; subst e; exact hN hb
  ro := own_ch h.ro hc fun b hb e => by rw [List.mem_singleton] at e; subst e; exact hR hb }
theorem Bs.push {W5 W6 : World} (b : Bool) (h : Bs w W x0 x1 x2 U R4 D M r ga d most oth sv nv rv vals T next rule) {v' : Value} {l : List Int}
  (h6 : W5.ownsRow w.heap.size 3 1 v' ((if b then rule else next).length + l.length) ((if b then rule else next).map (Value.int .i64) ++ l.map (Value.int .i64))) (h7 : W.grownBy W5 (if b then rv else nv).ownBlock) (h8 : v'.ownBlock = (if b then rv else nv).ownBlock ∨ v'.ownBlock = some W.heap.size)
  (g3 : Bx W6 D 28 (if b then #[nv, v'] else #[v', rv])) (g4 : ∀ k, k ≠ D → W6.heap[k]? = W5.heap[k]?) (hl : Below 0 W5 W6) :
  Bs w W6 x0 x1 x2 U R4 D M r ga d most (v'.ownBlock.toList ++ oth) sv (if b then nv else v') (if b then v' else rv) vals T (if b then next else next ++ l) (if b then rule ++ l else rule) ∧ Dk W W6 := by
 have hv5 : ∀ g, v'.ownBlock = some g → w.heap.size ≤ g := fun g hg => (h6.lt g hg).1
 have h := h.more (v'.ownBlock.toList ++ oth) (fun k hk hlt => by
  rcases List.mem_append.1 hk with hk | hk
  · rw [Option.mem_toList] at hk
    rcases h8 with e | e
    · rw [e] at hk; cases b; exact h.oN k hk; exact h.oR k hk
    · rw [e] at hk; cases hk; omega
  · exact hk) (fun k hk => List.mem_append_right _ hk) (fun k hk => by
  rcases List.mem_append.1 hk with hk | hk
  · exact hv5 k (Option.mem_toList.1 hk)
  · exact h.lo k hk)
 have vO' : ∀ g, v'.ownBlock = some g → g ∈ v'.ownBlock.toList ++ oth := fun g hg => List.mem_append_left _ (Option.mem_toList.2 hg)
 generalize v'.ownBlock.toList ++ oth = oth' at h vO'
 have hown : W.ownsRow w.heap.size 3 1 (if b then rv else nv) (if b then rule else next).length ((if b then rule else next).map (Value.int .i64)) := by cases b; exact h.no; exact h.ro
 have hO : ∀ g, (if b then rv else nv).ownBlock = some g → g ∈ oth' := by cases b; exact h.oN; exact h.oR
 obtain ⟨bad, hbad⟩ : ∃ bad : List Nat, bad = D :: (if b then rv else nv).ownBlock.toList := ⟨_, rfl⟩
 have hbo : ∀ k ∈ bad, k ∈ oth' := fun k hk => by
  rw [hbad, List.mem_cons, Option.mem_toList] at hk
  rcases hk with rfl | hk
  · exact h.oD
  · exact hO k hk
 have hbn : ∀ k ∈ bad, k ∉ bads M r sv [] := fun k hk => by
  rw [hbad, List.mem_cons, Option.mem_toList] at hk
  rcases hk with rfl | hk
  · exact h.nD
  · cases b
    · exact h.nN k hk
    · exact h.nRv k hk
 have c1 : Ch bad W W5 := Ch.of_grown h7 fun g hg => by rw [hbad]; simp [hg]
 have c2 : Ch bad W W6 := c1.trans (Ch.of_turn (A := D) hl g4 (by rw [hbad]; simp))
 have hne : ∀ k, k ∉ bads M r sv oth' → k ∉ bad := fun k hk e => hk (oth_bads (hbo k e))
 have hx5 : Bx W5 D 28 #[nv, rv] := (h7.block D h.db.lt (fun e => by
  obtain ⟨cs, hc⟩ := own_cells hown D e.symm
  rw [show W.heap[D]? = _ from h.db] at hc
  cases hc)).trans h.db
 have o6 : W6.ownsRow w.heap.size 3 1 v' ((if b then rule else next).length + l.length) ((if b then rule else next).map (Value.int .i64) ++ l.map (Value.int .i64)) := own_ch h6 (Ch.of_turn (A := D) (bad := [D]) hl g4 (by simp)) fun g hg e => by
  obtain ⟨cs, hc⟩ := own_cells h6 g hg
  rw [List.mem_singleton.1 e, show W5.heap[D]? = _ from hx5] at hc
  cases hc
 have hM : M ∉ bad := fun e => hbn M e (by unfold bads; simp)
 have hr : r ∉ bad := fun e => hbn r e (by unfold bads; simp)
 have hs : ∀ g, sv.ownBlock = some g → g ∉ bad := fun g hg e => hbn g e (by unfold bads; simp [hg])
 have other : ∀ g, (if b then nv else rv).ownBlock = some g → g ∉ bad := fun g hg e => by
  rw [hbad, List.mem_cons, Option.mem_toList] at e
  rcases e with rfl | e
  · cases b
    · obtain ⟨cs, hc⟩ := own_cells h.ro _ hg
      rw [show W.heap[_]? = _ from h.db] at hc
      cases hc
    · obtain ⟨cs, hc⟩ := own_cells h.no _ hg
      rw [show W.heap[_]? = _ from h.db] at hc
      cases hc
  · cases b
    · exact h.ap g e hg
    · exact h.ap g hg e
 have vO := vO'
 have hlow : Below w.heap.size w W6 := h.low.trans (c2.below h.low.size fun k hk => h.lo k (hbo k hk))
 have hmk := h.mkr.ch c2 hbo hM hr hs
 have hap : ∀ g, v'.ownBlock = some g → (if b then nv else rv).ownBlock ≠ some g := fun g hg e => by
  rcases h8 with e8 | e8
  · rw [e8] at hg
    cases b
    · exact h.ap g hg e
    · exact h.ap g e hg
  · rw [e8] at hg
    cases hg
    cases b
    · have := (h.ro.lt _ e).2; omega
    · have := (h.no.lt _ e).2; omega
 refine ⟨?_, Dk.of_ch c2 fun k hk _ e => ?_⟩
 · cases b
   · exact { h with
      low := hlow
      mkr := hmk
      ub := c2.bx h.ub (hne _ h.nU)
      rb := c2.bx h.rb (hne _ h.nR)
      db := g3
      al := h.al.ch c2 h.gl (hne _ h.nA)
      gl := Nat.lt_of_lt_of_le h.gl c2.low.size
      no := by rw [if_neg Bool.false_ne_true, if_neg Bool.false_ne_true, List.length_append, List.map_append]; exact o6
      ro := own_ch h.ro c2 other
      ap := hap
      oN := vO }
   · exact { h with
      low := hlow
      mkr := hmk
      ub := c2.bx h.ub (hne _ h.nU)
      rb := c2.bx h.rb (hne _ h.nR)
      db := g3
      al := h.al.ch c2 h.gl (hne _ h.nA)
      gl := Nat.lt_of_lt_of_le h.gl c2.low.size
      no := own_ch h.no c2 other
      ro := by rw [if_pos rfl, if_pos rfl, List.length_append, List.map_append]; exact o6
      ap := fun g hg e => hap g e hg
      oR := vO }
 · rw [hbad, List.mem_cons, Option.mem_toList] at hk
   rcases hk with rfl | hk
   · rw [show W.heap[_]? = _ from h.db] at e; cases e
   · obtain ⟨cs, hc⟩ := own_cells hown k hk
     rw [hc] at e; cases e
end
end Go.Proofs.YtaadkdmbhckdeaaGreatDoor
