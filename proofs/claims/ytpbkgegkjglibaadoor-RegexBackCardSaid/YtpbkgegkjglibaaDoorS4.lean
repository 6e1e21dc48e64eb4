/- Regex: the reader: alt. -/
import Derived.Test.YtpbkgegkjglibaaDoorW17
import Derived.Test.YtpbkgegkjglibaaDoorR4
import Derived.Test.YtpbkgegkjglibaaDoorR10
import Derived.Test.YtpbkgegkjglibaaDoorRg7
import Derived.Test.YtpbkgegkjglibaaDoorSt4
import Derived.Test.YtpbkgegkjglibaaDoorQ2
namespace Go.Proofs.YtpbkgegkjglibaaDoor
open Go Go.Proofs Go.RowKit
attribute [local go_sem] Oper.semAt_some
def encF (f : Value × Value) : List Value := [f.1, f.2]
/-- Frames of one's own. -/
def SOwn (W : World) (base : Nat) (v : Value) (l : List (Value × Value)) : Prop := W.ownsRow base 53 2 v l.length (l.flatMap encF)
/-- Blocks of other types are as they were. -/
def SBut (t : TypeId) (W W' : World) : Prop := ∀ (j : Nat) (cs : Array Value) (e : TypeId), W.heap[j]? = some (.cells cs e (0, 0)) → e ≠ t → W'.heap[j]? = W.heap[j]?
theorem own_sbut {W W' : World} {base : Nat} {e t : TypeId} {size n : Nat} {v : Value} {xs : List Value} (h : W.ownsRow base e size v n xs) (hs : SBut t W W') (hne : e ≠ t) : W'.ownsRow base e size v n xs :=
  own_same h fun g hg => by obtain ⟨cs, hc⟩ := own_type h g hg; exact hs g cs e hc hne
theorem KAt.sbut {W W' : World} {own : Option Nat} {kv : Value} {l : List Int} {t : TypeId} (h : KAt W own kv l) (hs : SBut t W W') (hne : (3 : Nat) ≠ t) : KAt W' own kv l :=
  h.same fun B cs hB hn => ⟨hs B cs 3 hB hne, hn⟩
theorem sbut_grown {W W' : World} {base : Nat} {t : TypeId} {size n : Nat} {v : Value} {xs : List Value} (h : W.ownsRow base t size v n xs) (hg : W.grownBy W' v.ownBlock) : SBut t W W' :=
  fun j _ _ hj hne => hg.block j (Array.getElem?_eq_some_iff.1 hj).1 (not_own h hj hne)
theorem sbut_block {W W' : World} {B : Nat} {t : TypeId} {cs : Array Value} (hB : W.heap[B]? = some (.cells cs t (0, 0))) (h : ∀ j, j ≠ B → W'.heap[j]? = W.heap[j]?) : SBut t W W' :=
  fun j cs' e hj hne => h j fun e' => by subst e'; rw [hB] at hj; cases hj; exact hne rfl
theorem sbut_but {W W' : World} {B : Nat} {t : TypeId} {cs : Array Value} (hB : W.heap[B]? = some (.cells cs t (0, 0))) (h : AX.But B W W') : SBut t W W' :=
  fun j cs' e hj hne => h.same j (Array.getElem?_eq_some_iff.1 hj).1 fun e' => by subst e'; rw [hB] at hj; cases hj; exact hne rfl
/-- No two share a block. -/
def Apart (u v : Value) : Prop := ∀ g, u.ownBlock = some g → v.ownBlock ≠ some g
theorem Apart.symm {u v : Value} (h : Apart u v) : Apart v u := fun g hg hg' => h g hg' hg
/-- The reader's memory. -/
structure St (w W : World) (Rb : Nat) (s : ByteArray) (at_ e : Int) (rv sv : Value) (r : List NL) (fs : List (Value × Value)) (rows : List (Value × List Int)) : Prop where
  low : Below w.heap.size w W
  rb : w.heap.size ≤ Rb
  rd : Rdr W Rb s at_ rv sv e
  ro : NOwn W w.heap.size rv r
  so : SOwn W w.heap.size sv fs
  io : ∀ p ∈ rows, IOwn W w.heap.size p.1 p.2
  dis : rows.Pairwise fun p q => Apart p.1 q.1
  ka : ∀ y ∈ r, KAt W none y.kv y.x.kids
  kd : ∀ y ∈ r, ∀ p ∈ rows, Apart p.1 y.kv
section
variable {w W W' : World} {Rb : Nat} {s : ByteArray} {at_ e : Int} {rv sv : Value} {r : List NL} {fs : List (Value × Value)} {rows : List (Value × List Int)}
theorem St.below (h : St w W Rb s at_ e rv sv r fs rows) (hb : Below W.heap.size W W') : St w W' Rb s at_ e rv sv r fs rows :=
  ⟨h.low.trans (hb.mono h.low.size), h.rb, h.rd.below hb h.rd.lt, own_same h.ro (fun g e => hb.block _ (World.ownsRow.lt h.ro g e).2), own_same h.so (fun g e => hb.block _ (World.ownsRow.lt h.so g e).2),
    fun p hp => own_same (h.io p hp) (fun g e => hb.block _ (World.ownsRow.lt (h.io p hp) g e).2), h.dis, fun y hy => (h.ka y hy).same fun _ _ hB hn => ⟨hb.block _ (Array.getElem?_eq_some_iff.1 hB).1, hn⟩, h.kd⟩
/-- The reader's box alone is turned. -/
theorem St.box {at2 e2 : Int} (h : St w W Rb s at_ e rv sv r fs rows) (hb : AX.But Rb W W') (hR : Rdr W' Rb s at2 rv sv e2) : St w W' Rb s at2 e2 rv sv r fs rows := by
  have hs : SBut 56 W W' := sbut_but h.rd hb
  exact ⟨h.low.trans (((ButS.of_but (S := fun j => j = Rb) hb rfl).below h.low.size (fun k hk => by rw [hk]; exact h.rb))), h.rb, hR, own_sbut h.ro hs (by decide), own_sbut h.so hs (by decide), fun p hp => own_sbut (h.io p hp) hs (by decide), h.dis, fun y hy => (h.ka y hy).sbut hs (by decide), h.kd⟩
/-- A node is put behind the others. -/
theorem St.node {W1 W2 : World} {rv' : Value} (h : St w W Rb s at_ e rv sv r fs rows) (y : NL) (hk : KAt W none y.kv y.x.kids) (hd : ∀ p ∈ rows, Apart p.1 y.kv) (hn : NOwn W1 w.heap.size rv' (r ++ [y])) (hg : W.grownBy W1 rv.ownBlock)
    (hR : Rdr W2 Rb s at_ rv' sv e) (h4 : ∀ j, j ≠ Rb → W2.heap[j]? = W1.heap[j]?) (h5 : AX.Same W1 W2) : St w W2 Rb s at_ e rv' sv (r ++ [y]) fs rows := by
  have s1 : SBut 45 W W1 := sbut_grown h.ro hg
  have hR1 : Rdr W1 Rb s at_ rv sv e := (s1 Rb _ 56 h.rd (by decide)).trans h.rd
  have s2 : SBut 56 W1 W2 := sbut_block hR1 h4
  have b1 := (Below.refl w.heap.size W).grown hg h.low.size fun j ej => (World.ownsRow.lt h.ro j ej).1
  have b2 := AX.below_turn (n := w.heap.size) h.rb (.inl hR.lt) h4 h5
  refine ⟨h.low.trans (b1.trans b2), h.rb, hR, own_sbut hn s2 (by decide), own_sbut (own_sbut h.so s1 (by decide)) s2 (by decide), fun p hp => own_sbut (own_sbut (h.io p hp) s1 (by decide)) s2 (by decide), h.dis, fun z hz => ?_, fun z hz => ?_⟩
  · rcases List.mem_append.1 hz with hz | hz
    · exact ((h.ka z hz).sbut s1 (by decide)).sbut s2 (by decide)
    · rw [List.mem_singleton.1 hz]; exact (hk.sbut s1 (by decide)).sbut s2 (by decide)
  · rcases List.mem_append.1 hz with hz | hz
    · exact h.kd z hz
    · rw [List.mem_singleton.1 hz]; exact hd
/-- A row is let go. -/
theorem St.drop {p : Value × List Int} (h : St w W Rb s at_ e rv sv r fs (p :: rows)) : St w W Rb s at_ e rv sv r fs rows :=
  ⟨h.low, h.rb, h.rd, h.ro, h.so, fun q hq => h.io q (List.mem_cons_of_mem _ hq), (List.pairwise_cons.1 h.dis).2, h.ka, fun y hy q hq => h.kd y hy q (List.mem_cons_of_mem _ hq)⟩
/-- The row that is let go, as a node's parts. -/
theorem St.kids {p : Value × List Int} (h : St w W Rb s at_ e rv sv r fs (p :: rows)) : KAt W none p.1 p.2 ∧ ∀ q ∈ rows, Apart q.1 p.1 :=
  ⟨KAt.of_own (h.io p (List.mem_cons_self ..)) (fun g _ => by simp), fun q hq => ((List.pairwise_cons.1 h.dis).1 q hq).symm⟩
theorem St.perm {rows' : List (Value × List Int)} (h : St w W Rb s at_ e rv sv r fs rows) (p : rows.Perm rows') : St w W Rb s at_ e rv sv r fs rows' :=
  ⟨h.low, h.rb, h.rd, h.ro, h.so, fun q hq => h.io q (p.mem_iff.2 hq), p.pairwise h.dis Apart.symm, h.ka, fun y hy q hq => h.kd y hy q (p.mem_iff.2 hq)⟩
/-- A number is put behind a row. -/
theorem St.num {v v' : Value} {l l' : List Int} (h : St w W Rb s at_ e rv sv r fs ((v, l) :: rows)) (ho : IOwn W' w.heap.size v' l') (hg : W.grownBy W' v.ownBlock) (hat : v'.ownBlock = v.ownBlock ∨ v'.ownBlock = some W.heap.size) : St w W' Rb s at_ e rv sv r fs ((v', l') :: rows) := by
  have hv := h.io (v, l) (List.mem_cons_self ..)
  have s1 : SBut 3 W W' := sbut_grown hv hg
  have b1 := (Below.refl w.heap.size W).grown hg h.low.size fun j ej => (World.ownsRow.lt hv j ej).1
  have hd := (List.pairwise_cons.1 h.dis).1
  have hap : ∀ u : Value, (∀ g, u.ownBlock = some g → g < W.heap.size) → Apart v u → Apart v' u := fun u hu hau g hgv hgu => by
    rcases hat with e1 | e1
    · exact hau g (e1 ▸ hgv) hgu
    · rw [e1] at hgv
      have := hu g hgu
      have := Option.some.inj hgv
      omega
  refine ⟨h.low.trans b1, h.rb, (s1 Rb _ 56 h.rd (by decide)).trans h.rd, own_sbut h.ro s1 (by decide), own_sbut h.so s1 (by decide), fun q hq => ?_, ?_, fun y hy => ?_, fun y hy q hq => ?_⟩
  · rcases List.mem_cons.1 hq with rfl | hq
    · exact ho
    · refine own_same (h.io q (List.mem_cons_of_mem _ hq)) fun g eg => hg.block g (World.ownsRow.lt (h.io q (List.mem_cons_of_mem _ hq)) g eg).2 fun e' => hd q hq g e'.symm eg
  · refine List.pairwise_cons.2 ⟨fun q hq => hap q.1 (fun g eg => (World.ownsRow.lt (h.io q (List.mem_cons_of_mem _ hq)) g eg).2) (hd q hq), (List.pairwise_cons.1 h.dis).2⟩
  · rcases h.ka y hy with hk | ⟨B, c, cs, e1, e2, e3, e4⟩
    · exact .inl hk
    · have e5 := hg.block B (Array.getElem?_eq_some_iff.1 e2).1 (fun e' => h.kd y hy (v, l) (List.mem_cons_self ..) B e'.symm (by rw [e1]; rfl))
      exact .inr ⟨B, c, cs, e1, e5.trans e2, e3, fun i x hx => (cell_same e5).trans (e4 i x hx)⟩
  · rcases List.mem_cons.1 hq with rfl | hq
    · refine hap y.kv (fun g eg => ?_) (h.kd y hy (v, l) (List.mem_cons_self ..))
      rcases h.ka y hy with ⟨e1, _⟩ | ⟨B, c, cs, e1, e2, e3, e4⟩
      · rw [e1] at eg; simp [Value.ownBlock] at eg
      · rw [e1] at eg
        have : B = g := by simpa [Value.ownBlock] using eg
        rw [← this]
        exact (Array.getElem?_eq_some_iff.1 e2).1
    · exact h.kd y hy q (List.mem_cons_of_mem _ hq)
/-- A row that is empty. -/
theorem St.empty (h : St w W Rb s at_ e rv sv r fs rows) : St w W Rb s at_ e rv sv r fs ((.slice none 0 0, []) :: rows) := by
  have hn : ∀ u, Apart (.slice none 0 0) u := fun u g hg => by simp [Value.ownBlock] at hg
  refine ⟨h.low, h.rb, h.rd, h.ro, h.so, fun q hq => ?_, List.pairwise_cons.2 ⟨fun q _ => hn _, h.dis⟩, h.ka, fun y hy q hq => ?_⟩
  · rcases List.mem_cons.1 hq with rfl | hq
    · exact World.ownsRow_nil _ _ _ _
    · exact h.io q hq
  · rcases List.mem_cons.1 hq with rfl | hq
    · exact hn _
    · exact h.kd y hy q hq
/-- Where the frames lie. -/
theorem SOwn.block {base : Nat} (h : SOwn W base sv fs) (hn : fs ≠ []) : ∃ Sb c cs, sv = .slice (some ⟨Sb, 0, none⟩) fs.length c ∧ W.heap[Sb]? = some (.cells cs 53 (0, 0)) ∧ base ≤ Sb ∧ fs.length * 2 ≤ cs.size ∧ cs.toList.take (fs.length * 2) = fs.flatMap encF := by
  rcases h.2 with ⟨_, h0⟩ | ⟨g, cap, cur, e1, hg, hh, hc1, hc2, hc3, hc4⟩
  · exact absurd (List.eq_nil_of_length_eq_zero h0) hn
  · exact ⟨g, cap, cur, e1, hh, hg, by rw [hc3]; exact Nat.mul_le_mul_right _ hc1, hc4⟩
theorem flat2 (l : List (Value × Value)) : (l.flatMap encF).length = l.length * 2 := flat_len encF 2 (fun _ => rfl) l
/-- The frame that is read. -/
theorem St.top {f : Value × Value} {Sb c : Nat} (h : St w W Rb s at_ e rv sv r (fs ++ [f]) rows) (hsv : sv = .slice (some ⟨Sb, 0, none⟩) (fs.length + 1) c) :
    W.cell? ⟨Sb, fs.length * 2, none⟩ = some f.1 ∧ W.cell? ⟨Sb, fs.length * 2 + 1, none⟩ = some f.2 := by
  have hc : ∀ q v, (encF f)[q]? = some v → W.cell? ⟨Sb, fs.length * 2 + q, none⟩ = some v := fun q v hv => by
    have := World.ownsRow.cells h.so (g := Sb) (by rw [hsv]; rfl) (fs.length * 2 + q) v (flat_get encF 2 (fun _ => rfl) _ fs.length f (by simp) q v hv)
    rwa [addr_add, Nat.zero_add] at this
  exact ⟨hc 0 _ rfl, hc 1 _ rfl⟩
end
end Go.Proofs.YtpbkgegkjglibaaDoor

namespace Go.Proofs.YtpbkgegkjglibaaDoor
open Go Go.Proofs Go.RowKit
attribute [local go_sem] Oper.semAt_some
def inf43_1 : List AX.Inf := [⟨0, 512, 1, true⟩, ⟨0, 1024, 1, true⟩, ⟨2, 2048, 1024, true⟩, ⟨4, 4096, 2048, true⟩, ⟨8, 8192, 4096, true⟩, ⟨0, 16384, 2, true⟩, ⟨0, 32768, 64, true⟩, ⟨0, 65536, 8, true⟩, ⟨224, 131072, 114688, true⟩, ⟨256, 262144, 131072, false⟩, ⟨528, 524288, 270336, false⟩, ⟨2047, 1048576, 512, true⟩, ⟨4095, 2097152, 1048576, true⟩, ⟨6143, 0, 2621440, false⟩]
theorem KAt.low {W W' : World} {kv : Value} {l : List Int} (h : KAt W none kv l) (hb : Below W.heap.size W W') : KAt W' none kv l := h.same fun _ _ hB hn => ⟨hb.block _ (Array.getElem?_eq_some_iff.1 hB).1, hn⟩
theorem KAt.form {W : World} {own : Option Nat} {kv : Value} {l : List Int} (h : KAt W own kv l) : ∃ la c, kv = .slice la l.length c := by
  rcases h with ⟨e, e2⟩ | ⟨B, c, cs, e, _⟩
  · exact ⟨none, 0, by rw [e, e2]; rfl⟩
  · exact ⟨_, _, e⟩
theorem NOwn.form {W : World} {base : Nat} {v : Value} {l : List NL} (h : NOwn W base v l) : ∃ la c, v = .slice la l.length c := by
  rcases h.2 with ⟨e, h0⟩ | ⟨g, cap, cur, e, _⟩
  · exact ⟨none, 0, by rw [h0]; exact e⟩
  · exact ⟨_, _, e⟩
theorem IOwn.form {W : World} {base : Nat} {v : Value} {l : List Int} (h : IOwn W base v l) : ∃ la c, v = .slice la l.length c := by
  rcases h.2 with ⟨e, h0⟩ | ⟨g, cap, cur, e, _⟩
  · exact ⟨none, 0, by rw [h0]; exact e⟩
  · exact ⟨_, _, e⟩
theorem sz24' : AX.sizeT Tryd.prog 24 = some 1 := by kernel_rfl
theorem oper_append_n {o : Oper} {a : Act} {K : Act → World → Prop} {Q : Exit → Act → World → Prop} {W : World} (base : Nat) (v : Value) (l : List NL) (y : NL) (s x : Operand)
    (ho : o.op = .call { callee := .builtin .append, args := #[s, x], argTypes := #[24, 24] }) (hs : a.eval s = v) (hown : NOwn W base v l) (B c : Nat) (hx : a.eval x = .slice (some ⟨B, 0, none⟩) 1 c)
    (hc : Bx W B 45 (encN y).toArray) (hyk : y.kv.oneCell' = true) (hl : l.length ≤ 100000) (hb : base ≤ W.heap.size)
    (h : ∀ v' w', NOwn w' base v' (l ++ [y]) → W.grownBy w' v.ownBlock → K (a.put o.dst v') w') : o.wp Tryd.prog a W K Q := by
  obtain ⟨ti, hi, hz0, hz1, hz2⟩ := info_parts info45'
  refine wp_append_own (P := Tryd.prog) (w := W) s x 24 ho base 45 ti (.agg #[.int .i64 0, .int .u64 0, .int .u64 0, .int .u64 0, .int .u64 0, .slice none 0 0]) 6 64 Tryd.underlying24 hi hz0 hz1 hz2 rfl (by decide) v l.length _ hs hown ⟨B, 0, none⟩ 1 c (encN y) hx rfl
    (fun j u hj => by rw [addr_add, Nat.zero_add, hc.cell]; simpa using hj) (fun u hu => by
      simp only [encN, List.mem_cons, List.not_mem_nil, or_false] at hu
      rcases hu with rfl | rfl | rfl | rfl | rfl | rfl <;> first | rfl | exact hyk) (by unfold maxLen; omega) (by omega) hb ?_
  intro v' w' h1 h2 _
  refine h v' w' ?_ h2
  unfold NOwn
  rw [List.length_append, List.flatMap_append]
  simpa using h1
section
variable {w W : World} {Rb : Nat} {s : ByteArray} {at_ e : Int} {rv sv : Value} {r : List NL} {fs : List (Value × Value)} {rows : List (Value × List Int)}
def ndOf (k : Int) (c : C4) (l : List Int) : Nd := ⟨k, c.a, c.b, c.c, c.d, l⟩
set_option maxRecDepth 100000 in
set_option maxHeartbeats 4000000 in
theorem put_k (k : Int) (c : C4) (kv : Value) (kids : List Int) (h : St w W Rb s at_ e rv sv r fs rows) (hk : KAt W none kv kids) (hd : ∀ p ∈ rows, Apart p.1 kv) (hl : r.length ≤ 10000) :
    Calls Tryd.prog 43 #[.pointer (some ⟨Rb, 0, none⟩), .int .i64 k, c.v, kv] W fun x W' => x = .returned (.int .i64 r.length) ∧ ∃ rv', St w W' Rb s at_ e rv' sv (r ++ [⟨ndOf k c kids, kv⟩]) fs rows := by
  obtain ⟨lk, ck, rfl⟩ := hk.form
  obtain ⟨ca, cb, cc, cd⟩ := c
  unfold C4.v
  dsimp only
  have hb0 := (Below.refl W.heap.size W).alloc (Nat.le_refl _) (.cells #[.int .u64 ca, .int .u64 cb, .int .u64 cc, .int .u64 cd] 38)
  have h0 := h.below hb0
  have hB0 := Bx.new W 38 #[.int .u64 ca, .int .u64 cb, .int .u64 cc, .int .u64 cd]
  have hk0 := hk.low hb0
  clear hb0 h hk
  go_enter Tryd.func43, Tryd.ntmps43
  go_wp2_with fail
  obtain ⟨Bc, hBc⟩ : ∃ Bc, Bc = W.heap.size := ⟨_, rfl⟩
  rw [← hBc] at hB0 ⊢
  clear hBc
  generalize W.alloc (.cells #[.int .u64 ca, .int .u64 cb, .int .u64 cc, .int .u64 cd] 38) = W0 at *
  have hbd := (Below.refl W0.heap.size W0).drew
  have h0d := h0.below hbd
  have hBd := hB0.below hbd hB0.lt
  have hkd := hk0.low hbd
  obtain ⟨C, hCi, hCo⟩ : ∃ C : World → Prop, (∀ Z, C Z → Rdr Z Rb s at_ rv sv e ∧ Bx Z Bc 38 #[.int .u64 ca, .int .u64 cb, .int .u64 cc, .int .u64 cd]) ∧ (∀ Z, Rdr Z Rb s at_ rv sv e ∧ Bx Z Bc 38 #[.int .u64 ca, .int .u64 cb, .int .u64 cc, .int .u64 cd] → C Z) := ⟨_, fun _ h => h, fun _ h => h⟩
  have hW0 : C W0.drew := hCo _ ⟨h0d.rd, hBd⟩
  haveI : Inhabited (AX.CW C) := ⟨⟨_, hW0⟩⟩
  haveI : Inhabited (AX.CW fun _ => True) := ⟨⟨w, trivial⟩⟩
  have a2 := fun p : AX.CW C => (Bx.fiv (hCi _ p.h).1).2.2.1
  have b0 : ∀ p : AX.CW C, p.W.cell? ⟨Bc, 0, none⟩ = some (.int .u64 ca) := fun p => (hCi _ p.h).2.cell 0
  have b1 : ∀ p : AX.CW C, p.W.cell? ⟨Bc, 1, none⟩ = some (.int .u64 cb) := fun p => (hCi _ p.h).2.cell 1
  have b2 : ∀ p : AX.CW C, p.W.cell? ⟨Bc, 2, none⟩ = some (.int .u64 cc) := fun p => (hCi _ p.h).2.cell 2
  have b3 : ∀ p : AX.CW C, p.W.cell? ⟨Bc, 3, none⟩ = some (.int .u64 cd) := fun p => (hCi _ p.h).2.cell 3
  have HC := Lib.hid hCo
  clear hCo hCi
  refine AX.region_mixL (C := fun W => ∃ p : AX.CW C, W = p.W) (CT := fun W => ∃ p : AX.CW fun _ => True, W = p.W) 13 [(0, 0), (1, 0), (2, 0), (3, 0), (4, 0), (5, 0), (6, 0), (7, 0), (8, 0), (9, 2), (10, 2), (11, 1), (12, 0), (13, 2)] inf43_1 (by kernel_rfl) (by kernel_rfl) (by kernel_rfl) (by kernel_rfl) (by decide) (by kernel_rfl) (by kernel_rfl) (by intro c a d v w h; cases d <;> exact h) ⟨⟨⟨_, trivial⟩, rfl⟩, ⟨⟨_, hW0⟩, rfl⟩⟩ ?_
  clear h0 hB0 hk0 hW0 hbd
  generalize W0.drew = W1 at *
  repeat ((first | refine AX.mixL_own _ (by rfl) ?_ | refine AX.mixL_all _ (by rfl) ?_); go_big_quiet_step (fail); refine wpQuiet_nil ?_)
  refine AX.mixL_op _ (by rfl) (by rfl) ?_
  unfold Oper.wp
  go_simp
  have hB7 := Bx.new W1 45 #[.int .i64 k, .int .u64 ca, .int .u64 cb, .int .u64 cc, .int .u64 cd, .slice lk kids.length ck]
  have hb7 : Below W1.heap.size W1 (W1.alloc (.cells #[.int .i64 k, .int .u64 ca, .int .u64 cb, .int .u64 cc, .int .u64 cd, .slice lk kids.length ck] 45)) := (Below.refl _ _).alloc (Nat.le_refl _) _
  have h7 := h0d.below hb7
  have hBc7 := hBd.below hb7 hBd.lt
  have hk7 := hkd.low hb7
  clear h0d hBd hkd hb7
  obtain ⟨Bn, hBn⟩ : ∃ Bn, Bn = W1.heap.size := ⟨_, rfl⟩
  rw [← hBn] at hB7 ⊢
  clear hBn
  generalize W1.alloc (.cells #[.int .i64 k, .int .u64 ca, .int .u64 cb, .int .u64 cc, .int .u64 cd, .slice lk kids.length ck] 45) = W7 at *
  refine ⟨⟨⟨⟨W7, trivial⟩, rfl⟩, fun _ => ⟨⟨W7, HC.out _ ⟨h7.rd, hBc7⟩⟩, rfl⟩⟩, ?_⟩
  simp only [show Nat.beq 9 13 = false from rfl]
  refine AX.mixL_op _ (by rfl) (by rfl) ?_
  refine oper_append_n w.heap.size rv r ⟨ndOf k ⟨ca, cb, cc, cd⟩ kids, .slice lk kids.length ck⟩ _ _ rfl rfl h7.ro Bn 1 rfl hB7 rfl (by omega) h7.low.size ?_
  intro v' W8 hR8 hg8
  have s8 : SBut 45 W7 W8 := sbut_grown h7.ro hg8
  have hr8 : Rdr W8 Rb s at_ rv sv e := (s8 Rb _ 56 h7.rd (by decide)).trans h7.rd
  have hbc8 : Bx W8 Bc 38 #[.int .u64 ca, .int .u64 cb, .int .u64 cc, .int .u64 cd] := (s8 Bc _ 38 hBc7 (by decide)).trans hBc7
  refine ⟨⟨⟨⟨W8, trivial⟩, rfl⟩, fun _ => ⟨⟨W8, HC.out _ ⟨hr8, hbc8⟩⟩, rfl⟩⟩, ?_⟩
  simp only [Act.put, List.setIfInBounds_toArray, List.set_cons_succ, List.set_cons_zero]
  repeat ((first | refine AX.mixL_own _ (by rfl) ?_ | refine AX.mixL_all _ (by rfl) ?_); go_big_quiet_step (fail); refine wpQuiet_nil ?_)
  refine AX.mixL_op _ (by rfl) (by rfl) ?_
  obtain ⟨lv, cv, hv'⟩ := hR8.form
  refine AX.oper_storeCell (o := 2) (v := v') rfl rfl (by rw [hv']; rfl) sz24' hr8 (show 2 < 5 by decide) ?_
  rintro W9 h3 h4 h5
  have hr9 : Rdr W9 Rb s at_ v' sv e := h3
  have h9 := h7.node ⟨ndOf k ⟨ca, cb, cc, cd⟩ kids, .slice lk kids.length ck⟩ hk7 hd hR8 hg8 hr9 h4 h5
  refine ⟨⟨⟨⟨W9, trivial⟩, rfl⟩, fun h => by cases h⟩, ?_⟩
  clear h7 hR8 hg8 hr8 hbc8 h3 h4 h5 HC s8
  unfold AX.wpMixL
  have c2 := (Bx.fiv hr9).2.2.1
  rw [hv'] at c2
  have hlen : (r ++ [(⟨ndOf k ⟨ca, cb, cc, cd⟩ kids, .slice lk kids.length ck⟩ : NL)]).length = r.length + 1 := by simp
  rw [hlen] at c2
  go_wp2_with fail
  exact bodyPost_ret (v := .int .i64 r.length) (by simp [results, Tryd.results43, go_sem]) rfl ⟨rfl, _, h9⟩
end
end Go.Proofs.YtpbkgegkjglibaaDoor

namespace Go.Proofs.YtpbkgegkjglibaaDoor
open Go Go.Proofs Go.RowKit
attribute [local go_sem] Oper.semAt_some
theorem IOwn.cells {W : World} {base : Nat} {v : Value} {l : List Int} (h : IOwn W base v l) (hn : l ≠ []) : ∃ g c cs, v = .slice (some ⟨g, 0, none⟩) l.length c ∧ W.heap[g]? = some (.cells cs 3 (0, 0)) ∧ base ≤ g ∧ l.length ≤ cs.size ∧ ∀ i x, l[i]? = some x → W.cell? ⟨g, i, none⟩ = some (.int .i64 x) := by
  rcases h.2 with ⟨e, h0⟩ | ⟨g, cap, cur, e, hg, hh, hc1, hc2, hc3, hc4⟩
  · exact absurd (List.eq_nil_of_length_eq_zero h0) hn
  · refine ⟨g, cap, cur, e, hh, hg, by rw [hc3]; omega, fun i x hx => ?_⟩
    have := World.ownsRow.cells h (g := g) (by rw [e]; rfl) i (.int .i64 x) (by rw [List.getElem?_map, hx]; rfl)
    rwa [addr_add, Nat.zero_add] at this
theorem mkI_map (r : List NL) (k : Int) (c : C4) (kids : List Int) (kv : Value) : (r ++ [(⟨ndOf k c kids, kv⟩ : NL)]).map (·.x) = (mkI (r.map (·.x)) ⟨k, c⟩ kids).1 ∧ (mkI (r.map (·.x)) ⟨k, c⟩ kids).2 = (r.length : Int) := by
  constructor
  · rw [List.map_append]; rfl
  · simp [mkI]
section
variable {w W : World} {Rb : Nat} {s : ByteArray} {at_ e : Int} {rv sv : Value} {r : List NL} {fs : List (Value × Value)} {rows : List (Value × List Int)}
set_option maxRecDepth 100000 in
set_option maxHeartbeats 4000000 in
theorem many_k (k : Int) (kv : Value) (l : List Int) (h : St w W Rb s at_ e rv sv r fs ((kv, l) :: rows)) (hl : r.length ≤ 10000) :
    Calls Tryd.prog 45 #[.pointer (some ⟨Rb, 0, none⟩), .int .i64 k, kv] W fun x W' => x = .returned (.int .i64 (manyG mkI (r.map (·.x)) k l).2) ∧ ∃ rv' r', St w W' Rb s at_ e rv' sv r' fs rows ∧ r'.map (·.x) = (manyG mkI (r.map (·.x)) k l).1 := by
  have hz : C4.v .zero = .agg #[.int .u64 0, .int .u64 0, .int .u64 0, .int .u64 0] := rfl
  obtain ⟨hk, hap⟩ : KAt W none kv l ∧ ∀ q ∈ rows, Apart q.1 kv := h.kids
  match l, h, hk with
  | [], h, hk =>
    obtain ⟨la, c, hkv⟩ := hk.form
    subst hkv
    have hp := put_k 1 .zero (.slice none 0 0) [] h.drop (.inl ⟨rfl, rfl⟩) (fun p _ g _ => by simp [Value.ownBlock]) hl
    rw [hz] at hp
    have e0 : ((([] : List Int).length : Nat) : Int) = 0 := rfl
    obtain ⟨m1, m2⟩ := mkI_map r 1 .zero [] (.slice none 0 0)
    go_enter Tryd.func45, Tryd.ntmps45
    go_wp2_with (go_at_call 43; (with_reducible refine hp.mono ?_); rintro x W1 ⟨rfl, rv1, h1⟩)
    exact bodyPost_ret (v := .int .i64 r.length) (by simp [results, Tryd.results45, go_sem]) rfl ⟨by simp only [manyG, h5]; rw [m2], _, _, h1, m1⟩
  | [x], h, hk =>
    have h0 : IOwn W w.heap.size kv [x] := h.io _ (List.mem_cons_self ..)
    obtain ⟨g, c, cs, rfl, hg, _, _, hc⟩ := h0.cells (by simp)
    have c0 := hc 0 x rfl
    have hgl := (Array.getElem?_eq_some_iff.1 hg).1
    have e0 : ((([x] : List Int).length : Nat) : Int) = 1 := rfl
    go_enter Tryd.func45, Tryd.ntmps45
    go_wp2_with fail
    exact bodyPost_ret (v := .int .i64 x) (by simp [results, Tryd.results45, go_sem]) rfl ⟨rfl, _, _, h.drop, rfl⟩
  | x :: y :: l, h, hk =>
    obtain ⟨la, c, hkv⟩ := hk.form
    have hp := put_k k .zero kv (x :: y :: l) h.drop hk hap hl
    rw [hz] at hp
    obtain ⟨m1, m2⟩ := mkI_map r k .zero (x :: y :: l) kv
    obtain ⟨n, hn⟩ : ∃ n, n = (x :: y :: l).length := ⟨_, rfl⟩
    have hn2 : 2 ≤ n := by rw [hn]; simp
    rw [← hn] at hkv
    subst hkv
    have e0 : ¬ ((n : Int) = 0) := by omega
    have e1 : ¬ ((n : Int) = 1) := by omega
    have HN := Lib.hid hn
    clear hn
    go_enter Tryd.func45, Tryd.ntmps45
    go_wp2_with (go_at_call 43; (with_reducible refine hp.mono ?_); rintro z W1 ⟨rfl, rv1, h1⟩)
    exact bodyPost_ret (v := .int .i64 r.length) (by simp [results, Tryd.results45, go_sem]) rfl ⟨by simp only [manyG, h5]; rw [m2], _, _, h1, m1⟩
end
end Go.Proofs.YtpbkgegkjglibaaDoor

namespace Go.Proofs.YtpbkgegkjglibaaDoor
open Go Go.Proofs Go.RowKit
attribute [local go_sem] Oper.semAt_some
def inf40_1 : List AX.Inf := [⟨0, 32, 4, true⟩, ⟨0, 64, 4, true⟩, ⟨0, 128, 4, true⟩, ⟨4, 256, 128, true⟩, ⟨8, 512, 256, true⟩, ⟨16, 1024, 512, true⟩, ⟨0, 2048, 1, true⟩, ⟨0, 4096, 4, true⟩, ⟨128, 8192, 4096, true⟩, ⟨256, 16384, 8192, true⟩, ⟨512, 32768, 16384, true⟩, ⟨1088, 65536, 34816, false⟩, ⟨2048, 131072, 65536, false⟩, ⟨6176, 262144, 132096, false⟩, ⟨16381, 524288, 32, true⟩, ⟨32765, 1048576, 524288, true⟩, ⟨49149, 0, 1310720, false⟩, ⟨131071, 2097152, 64, true⟩, ⟨262143, 4194304, 2097152, true⟩, ⟨393215, 0, 4194304, false⟩]
theorem oper_append_i {o : Oper} {a : Act} {K : Act → World → Prop} {Q : Exit → Act → World → Prop} {W : World} (base : Nat) (v : Value) (l : List Int) (y : Int) (s x : Operand)
    (ho : o.op = .call { callee := .builtin .append, args := #[s, x], argTypes := #[43, 43] }) (hs : a.eval s = v) (hown : IOwn W base v l) (B c : Nat) (hx : a.eval x = .slice (some ⟨B, 0, none⟩) 1 c)
    (hc : W.cell? ⟨B, 0, none⟩ = some (.int .i64 y)) (hl : l.length ≤ 100000) (hb : base ≤ W.heap.size)
    (h : ∀ v' w', IOwn w' base v' (l ++ [y]) → W.grownBy w' v.ownBlock → (v'.ownBlock = v.ownBlock ∨ v'.ownBlock = some W.heap.size) → K (a.put o.dst v') w') : o.wp Tryd.prog a W K Q := by
  obtain ⟨ti, hi, hz0, hz1, hz2⟩ := info_parts info3'
  obtain ⟨v', w', hr, h2, h3, h4, h5⟩ := run_append_own_at (P := Tryd.prog) W base 43 o.type 3 ti (.int .i64 0) 1 8 Tryd.underlying43 hi hz0 hz1 hz2 rfl (by decide) v l.length _ hown ⟨B, 0, none⟩ 1 c [.int .i64 y] rfl
    (fun j u hj => by
      rw [addr_add, Nat.zero_add]
      cases j with
      | zero => simp at hj; rw [← hj]; exact hc
      | succ j => simp at hj) (fun u hu => by rw [List.mem_singleton.1 hu]; rfl) (by unfold maxLen; omega) (by omega) hb
  unfold Oper.wp execOp
  simp only [ho, resolve, invoke, builtin, Sem.run_bind, Sem.run_pure, Result.andThen_ok, List.map_toArray, List.map_cons, List.map_nil, hs, hx, hr]
  refine h v' w' ?_ h3 h5
  unfold IOwn
  rw [List.length_append, List.map_append]
  exact h2
theorem sz43' : AX.sizeT Tryd.prog 43 = some 1 := by kernel_rfl
/-- A cell of the frame that is read is turned. -/
theorem SOwn.set {W W' : World} {base Sb c q : Nat} {fs : List (Value × Value)} {f f' : Value × Value} {cs : Array Value} {v : Value} (h : SOwn W base (.slice (some ⟨Sb, 0, none⟩) (fs.length + 1) c) (fs ++ [f])) (hc : W.heap[Sb]? = some (.cells cs 53 (0, 0)))
    (h' : W'.heap[Sb]? = some (.cells (cs.setIfInBounds (fs.length * 2 + q) v) 53 (0, 0))) (hq : q < 2) (he : encF f' = (encF f).set q v) : SOwn W' base (.slice (some ⟨Sb, 0, none⟩) (fs.length + 1) c) (fs ++ [f']) := by
  rcases h.2 with ⟨e1, _⟩ | ⟨g, cap, cur, e1, hg, hh, hc1, hc2, hc3, hc4⟩
  · cases e1
  · obtain ⟨rfl, rfl⟩ : Sb = g ∧ c = cap := by
      injection e1 with a1 a2 a3
      injection a1 with a1
      injection a1 with a1
      exact ⟨a1, a3⟩
    rw [hc] at hh
    obtain rfl : cs = cur := by cases hh; rfl
    have hlen : (fs ++ [f']).length = (fs ++ [f]).length := by simp
    have hl2 : (fs ++ [f]).length * 2 = fs.length * 2 + 2 := by simp; omega
    refine ⟨by rw [flat2], .inr ⟨Sb, c, _, by simp, hg, h', by rw [hlen]; exact hc1, hc2, by rw [Array.size_setIfInBounds]; exact hc3, ?_⟩⟩
    rw [hlen, hl2]
    rw [hl2] at hc4
    apply List.ext_getElem?
    intro i
    rw [List.getElem?_take, Array.toList_setIfInBounds, List.getElem?_set]
    have h4 : ∀ i, i < fs.length * 2 + 2 → cs.toList[i]? = ((fs ++ [f]).flatMap encF)[i]? := fun i hi => by rw [← hc4, List.getElem?_take, if_pos hi]
    have hsz : fs.length * 2 + 2 ≤ cs.toList.length := by
      have : cs.toList.length = c * 2 := by rw [Array.length_toList]; exact hc3
      rw [this]
      have : (fs ++ [f]).length * 2 ≤ c * 2 := Nat.mul_le_mul_right 2 hc1
      simp at this; omega
    have hap : ∀ z : Value × Value, ∀ i, ((fs ++ [z]).flatMap encF)[i]? = if i < fs.length * 2 then (fs.flatMap encF)[i]? else (encF z)[i - fs.length * 2]? := fun z i => by
      rw [List.flatMap_append, List.getElem?_append, flat2]
      simp
    rw [hap]
    by_cases hi : i < fs.length * 2 + 2
    · rw [if_pos hi]
      by_cases hi2 : fs.length * 2 + q = i
      · rw [if_pos hi2, if_pos (by omega), if_neg (by omega), he, ← hi2, Nat.add_sub_cancel_left, List.getElem?_set]
        rw [if_pos rfl, if_pos (by simpa [encF] using hq)]
      · rw [if_neg hi2, h4 i hi, hap]
        by_cases hi3 : i < fs.length * 2
        · rw [if_pos hi3, if_pos hi3]
        · rw [if_neg hi3, if_neg hi3, he, List.getElem?_set, if_neg (by omega)]
    · rw [if_neg hi, if_neg (by omega), List.getElem?_eq_none (by simp [encF]; omega)]
section
variable {w W W' : World} {Rb : Nat} {s : ByteArray} {at_ e : Int} {rv sv : Value} {r : List NL} {fs : List (Value × Value)} {rows : List (Value × List Int)}
theorem St.set {Sb c q : Nat} {f f' : Value × Value} {cs : Array Value} {v : Value} (h : St w W Rb s at_ e rv (.slice (some ⟨Sb, 0, none⟩) (fs.length + 1) c) r (fs ++ [f]) rows) (hc : W.heap[Sb]? = some (.cells cs 53 (0, 0)))
    (h3 : W'.heap[Sb]? = some (.cells (cs.setIfInBounds (fs.length * 2 + q) v) 53 (0, 0))) (h4 : ∀ j, j ≠ Sb → W'.heap[j]? = W.heap[j]?) (h5 : AX.Same W W') (hq : q < 2) (he : encF f' = (encF f).set q v) : St w W' Rb s at_ e rv (.slice (some ⟨Sb, 0, none⟩) (fs.length + 1) c) r (fs ++ [f']) rows := by
  have s1 : SBut 53 W W' := sbut_block hc h4
  have hb := (World.ownsRow.lt h.so Sb rfl).1
  exact ⟨h.low.trans (AX.below_turn (n := w.heap.size) hb (.inl (Array.getElem?_eq_some_iff.1 h3).1) h4 h5), h.rb, (s1 Rb _ 56 h.rd (by decide)).trans h.rd, own_sbut h.ro s1 (by decide), h.so.set hc h3 hq he,
    fun p hp => own_sbut (h.io p hp) s1 (by decide), h.dis, fun y hy => (h.ka y hy).sbut s1 (by decide), h.kd⟩
theorem St.sblock {Sb n c : Nat} (h : St w W Rb s at_ e rv (.slice (some ⟨Sb, 0, none⟩) n c) r fs rows) : ∃ cs, W.heap[Sb]? = some (.cells cs 53 (0, 0)) ∧ fs.length * 2 ≤ cs.size := by
  rcases h.so.2 with ⟨e1, _⟩ | ⟨g, cap, cur, e1, hg, hh, hc1, hc2, hc3, hc4⟩
  · cases e1
  · obtain rfl : Sb = g := by
      injection e1 with a1 a2 a3
      injection a1 with a1
      injection a1 with a1
    exact ⟨cur, hh, by rw [hc3]; exact Nat.mul_le_mul_right _ hc1⟩
def AltPost (w W' : World) (Rb : Nat) (s : ByteArray) (at_ e : Int) (Sb c : Nat) (fs : List (Value × Value)) (A : List Int) (rows : List (Value × List Int)) (z : List Nd × Int) : Prop :=
  ∃ rv' r' av', St w W' Rb s at_ e rv' (.slice (some ⟨Sb, 0, none⟩) (fs.length + 1) c) r' (fs ++ [(av', .slice none 0 0)]) ((av', A ++ [z.2]) :: rows) ∧ r'.map (·.x) = z.1
set_option maxRecDepth 100000 in
set_option maxHeartbeats 8000000 in
theorem alt_k {Sb c : Nat} (av iv : Value) (A I : List Int) (h : St w W Rb s at_ e rv (.slice (some ⟨Sb, 0, none⟩) (fs.length + 1) c) r (fs ++ [(av, iv)]) ((av, A) :: (iv, I) :: rows)) (hl : r.length ≤ 10000) (hA : A.length ≤ 10000) (hf : fs.length ≤ 900) :
    Calls Tryd.prog 40 #[.pointer (some ⟨Rb, 0, none⟩)] W fun x W' => x = .returned (.tuple #[]) ∧ AltPost w W' Rb s at_ e Sb c fs A rows (manyG mkI (r.map (·.x)) 3 I) := by
  obtain ⟨n, hn⟩ : ∃ n, n = fs.length := ⟨_, rfl⟩
  rw [← hn] at hf
  have HN := Lib.hid hn
  have ht := top_k Rb Sb (fs.length + 1) c (by omega) (by omega) s at_ rv e W h.rd
  rw [← hn, Nat.add_sub_cancel] at ht
  obtain ⟨la, ca, rfl⟩ := IOwn.form (show IOwn W w.heap.size av A from h.io (av, A) (List.mem_cons_self ..))
  obtain ⟨li, ci, rfl⟩ := IOwn.form (show IOwn W w.heap.size iv I from h.io (iv, I) (List.mem_cons_of_mem _ (List.mem_cons_self ..)))
  clear hn
  go_enter Tryd.func40, Tryd.ntmps40
  go_wp2_with (go_at_call 46; (with_reducible refine ht.mono ?_); rintro x W1 ⟨rfl, hb1⟩)
  have h1 := h.below hb1
  clear h hb1 ht
  have hbd := (Below.refl W1.heap.size W1).drew
  have h1d := h1.below hbd
  obtain ⟨C, hCi, hCo⟩ : ∃ C : World → Prop, (∀ Z, C Z → Z.cell? ⟨Sb, n * 2, none⟩ = some (.slice la A.length ca) ∧ Z.cell? ⟨Sb, n * 2 + 1, none⟩ = some (.slice li I.length ci)) ∧ (∀ Z, Z.cell? ⟨Sb, n * 2, none⟩ = some (.slice la A.length ca) ∧ Z.cell? ⟨Sb, n * 2 + 1, none⟩ = some (.slice li I.length ci) → C Z) := ⟨_, fun _ h => h, fun _ h => h⟩
  have hW0 : C W1.drew := hCo _ (by rw [HN.out]; exact h1d.top rfl)
  haveI : Inhabited (AX.CW C) := ⟨⟨_, hW0⟩⟩
  haveI : Inhabited (AX.CW fun _ => True) := ⟨⟨w, trivial⟩⟩
  have a0 := fun p : AX.CW C => (hCi _ p.h).1
  have a1 := fun p : AX.CW C => (hCi _ p.h).2
  have HC := Lib.hid hCo
  clear hCo hCi
  refine AX.region_mixL (C := fun W => ∃ p : AX.CW C, W = p.W) (CT := fun W => ∃ p : AX.CW fun _ => True, W = p.W) 16 [(0, 0), (1, 1), (2, 0), (3, 0), (4, 0), (5, 0), (6, 0), (7, 0), (8, 0), (9, 0), (10, 0), (11, 2), (12, 2), (13, 2), (14, 1), (15, 0), (16, 2), (17, 1), (18, 1), (19, 2)] inf40_1 (by kernel_rfl) (by kernel_rfl) (by kernel_rfl) (by kernel_rfl) (by decide) (by kernel_rfl) (by kernel_rfl) (by intro c a d v w h; cases d <;> exact h) ⟨⟨⟨_, trivial⟩, rfl⟩, ⟨⟨_, hW0⟩, rfl⟩⟩ ?_
  clear hW0 hbd h1
  generalize W1.drew = Wd at *
  repeat ((first | refine AX.mixL_own _ (by rfl) ?_ | refine AX.mixL_all _ (by rfl) ?_); go_big_quiet_step (fail); refine wpQuiet_nil ?_)
  have hm := many_k 3 (.slice li I.length ci) I (h1d.perm (List.Perm.swap _ _ _)) hl
  refine AX.mixL_call hm (by rfl) (by rfl) (by rfl) Tryd.func45 (by kernel_rfl) (by rfl) (by simp only [List.map_toArray, List.map_cons, List.map_nil]; rfl) ?_
  rintro e2 W2 ⟨rfl, rv2, r2, h2, hr2⟩
  refine ⟨_, rfl, ⟨⟨⟨W2, trivial⟩, rfl⟩, fun _ => ⟨⟨W2, HC.out _ (by rw [HN.out]; exact h2.top rfl)⟩, rfl⟩⟩, ?_⟩
  simp only [Act.put, List.setIfInBounds_toArray, List.set_cons_succ, List.set_cons_zero]
  have HR2 := Lib.hid hr2
  clear hm h1d hr2
  obtain ⟨qi, hqi⟩ : ∃ qi, qi = (manyG mkI (r.map (·.x)) 3 I).2 := ⟨_, rfl⟩
  rw [← hqi]
  have HQ := Lib.hid hqi
  clear hqi
  refine AX.mixL_op _ (by rfl) (by rfl) ?_
  unfold Oper.wp
  go_simp
  have hB7 := (Bx.new W2 3 #[.int .i64 qi]).cell 0
  have hb7 : Below W2.heap.size W2 (W2.alloc (.cells #[.int .i64 qi] 3)) := (Below.refl _ _).alloc (Nat.le_refl _) _
  have h7 := h2.below hb7
  clear h2 hb7
  obtain ⟨Bn, hBn⟩ : ∃ Bn, Bn = W2.heap.size := ⟨_, rfl⟩
  rw [← hBn] at hB7 ⊢
  clear hBn
  generalize W2.alloc (.cells #[.int .i64 qi] 3) = W7 at *
  refine ⟨⟨⟨⟨W7, trivial⟩, rfl⟩, fun _ _ => ⟨⟨W7, HC.out _ (by rw [HN.out]; exact h7.top rfl)⟩, rfl⟩⟩, ?_⟩
  simp only [show Nat.beq 11 16 = false from rfl, show Nat.beq 12 16 = false from rfl, Bool.or_self]
  refine AX.mixL_op _ (by rfl) (by rfl) ?_
  refine oper_append_i w.heap.size (.slice la A.length ca) A qi _ _ rfl rfl (h7.io _ (List.mem_cons_self ..)) Bn 1 rfl hB7 (by omega) h7.low.size ?_
  intro v' W8 hR8 hg8 hat8
  have h8 := h7.num hR8 hg8 hat8
  refine ⟨⟨⟨⟨W8, trivial⟩, rfl⟩, fun _ => ⟨⟨W8, HC.out _ (by rw [HN.out]; exact h8.top rfl)⟩, rfl⟩⟩, ?_⟩
  simp only [Act.put, List.setIfInBounds_toArray, List.set_cons_succ, List.set_cons_zero]
  repeat ((first | refine AX.mixL_own _ (by rfl) ?_ | refine AX.mixL_all _ (by rfl) ?_); go_big_quiet_step (fail); refine wpQuiet_nil ?_)
  refine AX.mixL_op _ (by rfl) (by rfl) ?_
  obtain ⟨lv, cv, hv'⟩ := hR8.form
  obtain ⟨cs8, hs8, hz8⟩ := h8.sblock
  have hz8' : n * 2 + 2 ≤ cs8.size := by have := HN.out; simp at hz8; omega
  refine AX.oper_storeCell (o := n * 2) (v := v') rfl rfl (by rw [hv']; rfl) sz43' hs8 (by omega) ?_
  rintro W9 h3 h4 h5
  have h9 := h8.set (q := 0) (v := v') (f' := (v', .slice li I.length ci)) hs8 (by rw [← HN.out]; exact h3) h4 h5 (by decide) rfl
  refine ⟨⟨⟨⟨W9, trivial⟩, rfl⟩, fun h => by cases h⟩, ?_⟩
  repeat ((first | refine AX.mixL_own _ (by rfl) ?_ | refine AX.mixL_all _ (by rfl) ?_); go_big_quiet_step (fail); refine wpQuiet_nil ?_)
  refine AX.mixL_op _ (by rfl) (by rfl) ?_
  refine AX.oper_storeCell (o := n * 2 + 1) (v := .slice none 0 0) rfl rfl rfl sz43' h3 (by rw [Array.size_setIfInBounds]; omega) ?_
  rintro W10 g3 g4 g5
  have h10 := h9.set (q := 1) (v := .slice none 0 0) (f' := (v', .slice none 0 0)) h3 (by rw [← HN.out]; exact g3) g4 g5 (by decide) rfl
  refine ⟨⟨⟨⟨W10, trivial⟩, rfl⟩, fun h => by cases h⟩, ?_⟩
  clear h7 hR8 hg8 h3 h4 h5 HC h8 h9 g3 g4 g5 hs8 hz8 hz8'
  unfold AX.wpMixL
  go_wp2_with fail
  exact bodyPost_end (v := .tuple #[]) (by simp [results, Tryd.results40, go_sem]) rfl ⟨rfl, rv2, r2, v', by rw [← HQ.out]; exact h10, HR2.out⟩
end
end Go.Proofs.YtpbkgegkjglibaaDoor
