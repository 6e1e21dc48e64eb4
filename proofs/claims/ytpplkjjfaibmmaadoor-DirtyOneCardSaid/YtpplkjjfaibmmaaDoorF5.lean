/- Dirty: put. -/
import Derived.Test.YtpplkjjfaibmmaaDoorF3
import Derived.Test.YtpplkjjfaibmmaaDoorI4
import Derived.Test.YtpplkjjfaibmmaaDoorOx8
import Derived.Test.YtpplkjjfaibmmaaDoorSt4
import Derived.Deep.RegionWith
namespace Go.Proofs.YtpplkjjfaibmmaaDoor
open Go Go.Proofs Go.RowKit
attribute [local go_sem] Oper.semAt_some
theorem jflat_ins (l : List J) (i : Nat) (x : J) : (l.take i ++ x :: l.drop i).flatMap encJ = (l.flatMap encJ).take (i * 5) ++ (encJ x ++ (l.flatMap encJ).drop (i * 5)) := by
  have ht : ∀ (l : List J) (i : Nat), (l.take i).flatMap encJ = (l.flatMap encJ).take (i * 5) ∧ (l.drop i).flatMap encJ = (l.flatMap encJ).drop (i * 5) := by
    intro l
    induction l with
    | nil => intro i; simp
    | cons y l ih =>
      intro i
      cases i with
      | zero => simp
      | succ i =>
        obtain ⟨h1, h2⟩ := ih i
        have e : (i + 1) * 5 = (encJ y).length + i * 5 := by simp [encJ]; omega
        rw [List.take_succ_cons, List.drop_succ_cons, List.flatMap_cons, List.flatMap_cons, h1, h2, e, List.take_length_add_append, List.drop_length_add_append]
        exact ⟨rfl, rfl⟩
  rw [List.flatMap_append, List.flatMap_cons, (ht l i).1, (ht l i).2]
/-- A row's block lies at base or behind. -/
def NB (base : Nat) (v : Value) : Prop := ∀ a n c, v = .slice (some a) n c → base ≤ a.block
theorem NB.mono {b b' : Nat} {v : Value} (h : NB b v) (hb : b' ≤ b) : NB b' v := fun a n c e => Nat.le_trans hb (h a n c e)
theorem DRow.nb {w : World} {base : Nat} {v : Value} {l : List J} (h : DRow w base v l) : NB base v := by
  intro a n c e
  rcases h.2 with ⟨rfl, hn⟩ | ⟨g, cap, cur, rfl, hg, hh, rest⟩
  · cases e
  · cases e
    exact hg
set_option maxRecDepth 100000 in
set_option maxHeartbeats 2000000 in
theorem insert_k {v : Value} {l : List J} {x : J} {i vb base : Nat} (W : World) (hl : l.length ≤ 900000) (hi : i ≤ l.length) (hD : DRow W base v l) (hb : base ≤ W.heap.size) (hx : Box5 W vb x) (hne : ∀ g, v.ownBlock = some g → vb ≠ g) :
    Calls Tryd.prog 46 #[v, .int .i64 i, .slice (some ⟨vb, 0, none⟩) 1 1] W fun e w' => (∃ v', e = .returned v' ∧ RRow w' v' (l.take i ++ x :: l.drop i) ∧ NB base v') ∧ Below base W w' := by
  rcases hD.2 with ⟨rfl, hn⟩ | ⟨g, cap, cur, rfl, hg, hh, hnc, hcm, hsz, hcs⟩
  · obtain rfl : l = [] := List.eq_nil_of_length_eq_zero hn
    obtain rfl : i = 0 := by simpa using hi
    have hrow : JRow W vb 0 [x] := fun k hk => by
      obtain rfl : k = 0 := by simpa using hk
      exact hx.at
    go_enter Tryd.func46, Tryd.ntmps46
    go_wp2_with (at_builtin; refine append_j _ base _ [] [x] rfl _ _ rfl rfl hD vb 0 1 rfl hrow.cells (by simp) hb ?_; intro v' w' hv' hb')
    exact bodyPost_ret (v := v') (by simp [results, Tryd.results46, go_sem]) rfl ⟨⟨_, rfl, by simpa using DRow.read hv', hv'.nb⟩, hb'⟩
  · have hcl := jflat_len l
    have hlt := (Array.getElem?_eq_some_iff.1 hh).1
    have h46 := insOk g 0 l.length cap i vb 0 1 (l.flatMap encJ) (encJ x) W cur #[.int .i64 x.s, .int .i64 x.f, .int .i64 x.t, .int .i64 x.a, .int .i64 x.l] 38 38 (0, 0) hi hnc (by omega) hcl rfl (hne g rfl) hh (fun j _ h => by simp at h) (fun _ => by omega) hx
      (fun j v hv => by
        rw [← hcs, List.getElem?_take] at hv
        split at hv
        · rw [Nat.zero_add]; simpa using hv
        · cases hv) (fun j v hv => by rw [Nat.zero_add]; simpa [encJ] using hv) (encJ_one l) (fun v hv => encJ_one [x] v (by simpa using hv))
    refine h46.mono ?_
    rintro e w' ⟨b', off', c', row, et, fz, rfl, hc', hb', hfz, hsz', hcells, hsame, hk⟩
    have hnb : NB base (.slice (some ⟨b', off', none⟩) (l.length + 1) c') := fun a n c e => by
      cases e
      rcases hk with ⟨rfl, _⟩ | ⟨rfl, _⟩
      · exact hg
      · exact hb
    refine ⟨⟨_, rfl, ⟨some ⟨b', off', none⟩, c', ?_, (fun e => nomatch e), fun a e => ?_⟩, hnb⟩, ?_⟩
    · rw [List.length_append, List.length_cons, List.length_take, List.length_drop, Nat.min_eq_left hi, show i + (l.length - i + 1) = l.length + 1 by omega]
    · obtain rfl := Option.some.inj e
      refine ⟨b', off', rfl, (Array.getElem?_eq_some_iff.1 hb').1, JRow.of_cells fun j v hv => ?_⟩
      rw [jflat_ins] at hv
      have := hcells j v hv
      rw [cell_of_row w' b' (off' + j) row et fz hb']
      exact this
    · rcases hk with ⟨rfl, h4⟩ | ⟨rfl, h4⟩
      · exact AX.below_turn hg (.inl (Array.getElem?_eq_some_iff.1 hb').1) h4 hsame
      · refine ⟨hsame.1, (Prod.mk.inj hsame.2).2, (Prod.mk.inj hsame.2).1, Nat.le_of_lt (Array.getElem?_eq_some_iff.1 hb').1, fun k hk => ?_⟩
        have hkl : k < W.heap.size := by omega
        rw [h4 k W.heap[k] (Array.getElem?_eq_getElem hkl), Array.getElem?_eq_getElem hkl]
end Go.Proofs.YtpplkjjfaibmmaaDoor

namespace Go.Proofs.YtpplkjjfaibmmaaDoor
open Go Go.Proofs Go.RowKit
attribute [local go_sem] Oper.semAt_some
set_option maxRecDepth 100000 in
set_option maxHeartbeats 8000000 in
theorem dput_k {v : Value} {l : List J} (hl : l.length ≤ 800000) (hso : l.Pairwise fun a b => a.s < b.s) (x : J) (w : World) (hR : RRow w v l) :
    Calls Tryd.prog 27 #[v, x.v] w fun e w' => (∃ (v' : Value) (i : Nat), e = .returned v' ∧ RRow w' v' (l.take i ++ x :: l.drop i) ∧ i ≤ l.length ∧ (∀ (k : Nat) (h : k < l.length), k < i → l[k].s < x.s) ∧ (∀ (k : Nat) (h : k < l.length), i ≤ k → x.s ≤ l[k].s) ∧ NB w.heap.size v') ∧ Below w.heap.size w w' := by
  have hX := Box5.new w x
  have hB0 : Below w.heap.size w (w.alloc (.cells #[.int .i64 x.s, .int .i64 x.f, .int .i64 x.t, .int .i64 x.a, .int .i64 x.l] 38)) := (Below.refl _ w).alloc (Nat.le_refl _) _
  obtain ⟨la, c, rfl, hR0⟩ : ∃ la c, v = .slice la l.length c ∧ RRow w v l := by
    obtain ⟨la, c, e, h⟩ := id hR
    exact ⟨la, c, e, hR⟩
  have h44 := bsearch_k l (by omega) hso x la c _ (hR.below hB0)
  clear hR
  unfold J.v at *
  go_enter Tryd.func27, Tryd.ntmps27
  go_wp2_with fail
  generalize w.alloc (.cells #[.int .i64 x.s, .int .i64 x.f, .int .i64 x.t, .int .i64 x.a, .int .i64 x.l] 38) = W0 at *
  obtain ⟨z0, z1, z2, z3, z4⟩ := hX.cs
  have hXl := hX.lt
  go_wp2_with (go_at_call 44; ((with_reducible refine h44.mono ?_); rintro e W1 ⟨⟨i, b, rfl, hi, hH⟩, hb1⟩; have hX1 := hX.below hb1 hXl; have hB1 := hB0.trans (hb1.mono hB0.size); clear h44 z0 z1 z2 z3 z4))
  have hR1 : RRow W1 (.slice la l.length c) l := hR0.below hB1
  have HH := Lib.hid hH
  obtain ⟨z0, z1, z2, z3, z4⟩ := hX1.cs
  have hX1l := hX1.lt
  have hs1 := hB1.size
  have hC := fun W (hb : Below W1.heap.size W1 W) => clone_k (l := l) (by omega) W (hR1.below hb)
  have hIA : ∀ Wc vc, DRow Wc W1.heap.size vc l → Below W1.heap.size W1 Wc → Calls Tryd.prog 46 #[vc, .int .i64 i, .slice (some ⟨Wc.heap.size, 0, none⟩) 1 1] (Wc.alloc (.cells #[.int .i64 x.s, .int .i64 x.f, .int .i64 x.t, .int .i64 x.a, .int .i64 x.l] 38)) fun e w' => (∃ v', e = .returned v' ∧ RRow w' v' (l.take i ++ x :: l.drop i) ∧ NB w.heap.size v') ∧ Below w.heap.size w w' := fun Wc vc hd hb =>
    (insert_k (base := W1.heap.size) (Wc.alloc (.cells #[.int .i64 x.s, .int .i64 x.f, .int .i64 x.t, .int .i64 x.a, .int .i64 x.l] 38)) (by omega) hi (World.ownsRow.alloc hd _) (by have := hb.size; simp; omega) (Box5.new Wc x) (fun g e => by have := (World.ownsRow.lt hd g e).2; omega)).mono fun e w' h => ⟨h.1.imp fun v' g => ⟨g.1, g.2.1, g.2.2.mono (by omega)⟩, ((hB1.trans (hb.mono hs1)).alloc (by have := hb.size; omega) _).trans (h.2.mono hs1)⟩
  have hIB : ∀ Wc vc, DRow Wc (W1.heap.size + 1) vc l → Below (W1.heap.size + 1) (W1.drew.alloc (.cells #[.int .i64 x.s, .int .i64 x.f, .int .i64 x.t, .int .i64 x.a, .int .i64 x.l] 38)) Wc → Calls Tryd.prog 46 #[vc, .int .i64 i, .slice (some ⟨W1.heap.size, 0, none⟩) 1 1] Wc fun e w' => (∃ v', e = .returned v' ∧ RRow w' v' (l.take i ++ x :: l.drop i) ∧ NB w.heap.size v') ∧ Below w.heap.size w w' := fun Wc vc hd hb =>
    (insert_k (vb := W1.heap.size) (base := W1.heap.size + 1) Wc (by omega) hi hd (by have := hb.size; simpa using this) ((Box5.new W1.drew x).below hb (Nat.lt_succ_self _)) (fun g e => by have := (World.ownsRow.lt hd g e).1; show W1.heap.size ≠ g; omega)).mono fun e w' h => ⟨h.1.imp fun v' g => ⟨g.1, g.2.1, g.2.2.mono (by omega)⟩, ((hB1.drew.alloc hs1 _).trans (hb.mono (by omega))).trans (h.2.mono (by omega))⟩
  clear hR0 hR1 hX hX1
  go_wp2_with fail
  go_region_with (first
    | (go_at_call 35; (first
        | (refine (hC _ (Below.refl _ W1).drew).mono ?_; rintro e Wc ⟨⟨vc, rfl, hvc⟩, hbc⟩; have hIc := hIA Wc vc hvc ((Below.refl _ W1).drew.trans hbc); have y0 := (hbc.cell (p := ⟨w.heap.size, 0, none⟩) hX1l).trans z0; have y1 := (hbc.cell (p := ⟨w.heap.size, 1, none⟩) hX1l).trans z1; have y2 := (hbc.cell (p := ⟨w.heap.size, 2, none⟩) hX1l).trans z2; have y3 := (hbc.cell (p := ⟨w.heap.size, 3, none⟩) hX1l).trans z3; have y4 := (hbc.cell (p := ⟨w.heap.size, 4, none⟩) hX1l).trans z4)
        | (refine (hC _ ((Below.refl _ W1).drew.alloc (Nat.le_refl _) _)).mono ?_; rintro e Wc ⟨⟨vc, rfl, hvc⟩, hbc⟩; have hIc := hIB Wc vc (by simpa using hvc) (by simpa using hbc))))
    | (go_at_call 46; (refine hIc.mono ?_; rintro e W3 ⟨⟨v', rfl, hv', hnb⟩, hb3⟩)))
  all_goals
    go_wp2_with fail
    exact bodyPost_ret (v := v') (by simp [results, Tryd.results27, go_sem]) rfl ⟨⟨_, i, rfl, hv', hi, HH.out.1, HH.out.2, hnb⟩, by first | exact hb3 | exact hb3.drew⟩
end Go.Proofs.YtpplkjjfaibmmaaDoor
