/- Dirty: pairs' closure yields different jobs of the row, two by two. -/
import Derived.Test.YtpplkjjfaibmmaaDoorE6
import Derived.Test.YtpplkjjfaibmmaaDoorF2
import Derived.Shelf.SlSortCmp.WholeK
import Derived.Sort.Grow
import Derived.Test.YtpplkjjfaibmmaaDoorH1
import Derived.Test.YtpplkjjfaibmmaaDoorRf2
namespace Go.Proofs.YtpplkjjfaibmmaaDoor
open Go Go.Proofs Go.RowKit
attribute [local go_sem] Oper.semAt_some
set_option maxHeartbeats 4000000 in
theorem or_d (l : List Int) (hl : l.length ≤ 1000) (P c : Nat) (w : World) (hP : ∀ i (h : i < l.length), w.cell? ⟨P, i, none⟩ = some (.int .i64 l[i])) :
    Calls Tryd.prog 48 #[.slice (some ⟨P, 0, none⟩) l.length c] w fun e w' => e = .returned (.int .i64 (orI l)) ∧ w' = w := by
  obtain ⟨o, ho⟩ : ∃ o, o = orI l := ⟨_, rfl⟩
  rw [← ho]
  have HO := Lib.hid ho
  clear ho
  go_enter Tryd.func48, Tryd.ntmps48
  go_wp2
  obtain ⟨wo, rfl⟩ : ∃ wo : World, wo = w := ⟨_, rfl⟩
  go_loopw [8] (fun i wr => ∃ k : Nat, k ≤ l.length ∧ i = .int .i64 k ∧ Hid (o = orI (l.drop k)) ∧ wr = wo)
    (fun i _ => l.length - (intOf i).toNat)
  case atStart => exact ⟨0, Nat.zero_le _, rfl, HO, rfl⟩
  case round =>
    obtain ⟨k, hk, rfl, hok, rfl⟩ := hrel
    have hok := hok.out
    by_cases hlt : k < l.length
    · have hx := hP k hlt
      rw [List.drop_eq_getElem_cons hlt, orI] at hok
      generalize l[k] = x at *
      have HZ : Hid (x = 0 → o = orI (l.drop (k + 1))) := Lib.hid fun h => by rw [hok, if_pos h]
      have HN : Hid (¬ x = 0 → o = x) := Lib.hid fun h => by rw [hok, if_neg h]
      clear hok hP
      have hk0 : (0 : Int) ≤ (k : Int) := by omega
      have hk1 : (k : Int) < (l.length : Int) := by omega
      by_cases hz : x = 0
      · subst hz
        go_wp2
        go_roundw
        case rel => exact ⟨k + 1, by omega, by simp, Lib.hid (HZ.out rfl), trivial⟩
        case measure => simp [intOf]; omega
      · have e := HN.out hz
        go_wp2
        exact bodyPost_ret (v := .int .i64 o) (by simp [results, Tryd.results48, go_sem, e]) rfl ⟨rfl, rfl⟩
    · obtain rfl : k = l.length := by omega
      rw [List.drop_length] at hok
      go_wp2
      exact bodyPost_ret (v := .int .i64 o) (by simp [results, Tryd.results48, go_sem, hok, orI]) rfl ⟨rfl, rfl⟩
theorem or2_d (p q : Int) (W : World) (P : Nat) (h : W.heap[P]? = some (.cells #[.int .i64 p, .int .i64 q] 3 (0, 0))) :
    Calls Tryd.prog 48 #[.slice (some ⟨P, 0, none⟩) 2 2] W fun e w' => e = .returned (.int .i64 (orI [p, q])) ∧ w' = W :=
  or_d [p, q] (by simp) P 2 W (fun i hi => by
    have hi : i < 2 := hi
    have : i = 0 ∨ i = 1 := by omega
    rcases this with rfl | rfl <;> simp [World.cell?, h])
set_option maxRecDepth 100000 in
set_option maxHeartbeats 40000000 in
theorem from_d (x y : J) (w : World) : Calls Tryd.prog 51 #[x.v, y.v] w fun e w' => e = .returned (.int .i64 (fromI x y)) ∧ Below w.heap.size w w' ∧ w.drawn ≤ w'.drawn := by
  have hB0 : Below w.heap.size w ((w.alloc (.cells #[.int .i64 x.s, .int .i64 x.f, .int .i64 x.t, .int .i64 x.a, .int .i64 x.l] 38)).alloc (.cells #[.int .i64 y.s, .int .i64 y.f, .int .i64 y.t, .int .i64 y.a, .int .i64 y.l] 38)) := ((Below.refl _ w).alloc (Nat.le_refl _) _).alloc (by simp) _
  have hA := (Box5.new w x).below ((Below.refl (w.heap.size + 1) (w.alloc (.cells #[.int .i64 x.s, .int .i64 x.f, .int .i64 x.t, .int .i64 x.a, .int .i64 x.l] 38))).alloc (by simp) (.cells #[.int .i64 y.s, .int .i64 y.f, .int .i64 y.t, .int .i64 y.a, .int .i64 y.l] 38)) (Nat.lt_succ_self _)
  have hC := Box5.new (w.alloc (.cells #[.int .i64 x.s, .int .i64 x.f, .int .i64 x.t, .int .i64 x.a, .int .i64 x.l] 38)) y
  simp only [World.size_alloc] at hC
  unfold J.v fromI
  have h1 := cmp_k x.f y.f
  have h2 := cmp_k x.s y.s
  generalize cmpI x.s y.s = r at *
  generalize cmpI x.f y.f = q at *
  have h3 := or2_d q r
  generalize orI [q, r] = z at *
  go_enter Tryd.func51, Tryd.ntmps51
  go_wp2
  have hDr : w.drawn ≤ ((w.alloc (.cells #[.int .i64 x.s, .int .i64 x.f, .int .i64 x.t, .int .i64 x.a, .int .i64 x.l] 38)).alloc (.cells #[.int .i64 y.s, .int .i64 y.f, .int .i64 y.t, .int .i64 y.a, .int .i64 y.l] 38)).drawn := Nat.le_refl _
  generalize hW0 : (w.alloc (.cells #[.int .i64 x.s, .int .i64 x.f, .int .i64 x.t, .int .i64 x.a, .int .i64 x.l] 38)).alloc (.cells #[.int .i64 y.s, .int .i64 y.f, .int .i64 y.t, .int .i64 y.a, .int .i64 y.l] 38) = W0 at *
  obtain ⟨C, hCi, hCo⟩ : ∃ C : World → Prop, (∀ W, C W → Box5 W w.heap.size x ∧ Box5 W (w.heap.size + 1) y ∧ Below w.heap.size w W) ∧ (∀ W, (Box5 W w.heap.size x ∧ Box5 W (w.heap.size + 1) y ∧ Below w.heap.size w W) → C W) := ⟨fun W => Box5 W w.heap.size x ∧ Box5 W (w.heap.size + 1) y ∧ Below w.heap.size w W, fun _ h => h, fun _ h => h⟩
  have hW1 : C W0.drew := hCo _ ⟨hA, hC, hB0.drew⟩
  haveI : Inhabited (AX.CW C) := ⟨⟨_, hW1⟩⟩
  have hc := fun p : AX.CW C => hCi _ p.h
  have a0 := fun p => (hc p).1.cs.1; have a1 := fun p => (hc p).1.cs.2.1
  have c0 := fun p => (hc p).2.1.cs.1; have c1 := fun p => (hc p).2.1.cs.2.1
  have HC := Lib.hid hCo
  have hBd := hB0.drew
  have k1 : Box5 W0.drew _ _ := hA
  have k2 : Box5 W0.drew _ _ := hC
  clear hCo hCi hc hA hC hB0 hW0
  refine AX.region_mixF (C := fun W => ∃ p : AX.CW C, W = p.W) row51_1 inf51_1 (by kernel_rfl) (by kernel_rfl) (by kernel_rfl) (by kernel_rfl) fit51_1 (by intro c a d v w h; cases d <;> exact h) ⟨⟨_, hW1⟩, rfl⟩ ?_
  unfold row51_1
  repeat (refine AX.mix_plain _ (by rfl) ?_; go_big_quiet_step (fail); refine wpQuiet_nil ?_)
  refine AX.mix_call2 (h1 _) (by rfl) (by rfl) (by rfl) Tryd.func49 (by kernel_rfl) (by rfl) (by simp only [List.map_toArray, List.map_cons, List.map_nil]; rfl) ?_
  rintro e _ ⟨rfl, rfl⟩
  refine ⟨_, rfl, ⟨⟨_, hW1⟩, rfl⟩, ?_⟩
  simp only [Act.put, List.setIfInBounds_toArray, List.set_cons_succ, List.set_cons_zero]
  refine AX.mix_call2 (h2 _) (by rfl) (by rfl) (by rfl) Tryd.func49 (by kernel_rfl) (by rfl) (by simp only [List.map_toArray, List.map_cons, List.map_nil]; rfl) ?_
  rintro e _ ⟨rfl, rfl⟩
  refine ⟨_, rfl, ⟨⟨_, hW1⟩, rfl⟩, ?_⟩
  simp only [Act.put, List.setIfInBounds_toArray, List.set_cons_succ, List.set_cons_zero]
  refine AX.mix_op _ (by rfl) (by rfl) ?_
  unfold Oper.wp
  go_simp
  have hnew : (W0.alloc (.cells #[.int .i64 q, .int .i64 r] 3)).drew.heap[W0.heap.size]? = some (.cells #[.int .i64 q, .int .i64 r] 3 (0, 0)) := World.alloc_heap_new W0 _
  have m1 : Box5 (W0.alloc (.cells #[.int .i64 q, .int .i64 r] 3)).drew w.heap.size x := (Below.heap_alloc W0 _ _ (show w.heap.size < W0.heap.size from k1.lt)).trans k1
  have m2 : Box5 (W0.alloc (.cells #[.int .i64 q, .int .i64 r] 3)).drew (w.heap.size + 1) y := (Below.heap_alloc W0 _ _ (show w.heap.size + 1 < W0.heap.size from k2.lt)).trans k2
  have m3 : Below w.heap.size w (W0.alloc (.cells #[.int .i64 q, .int .i64 r] 3)).drew := (hBd.alloc hBd.size (.cells #[.int .i64 q, .int .i64 r] 3))
  refine ⟨⟨⟨_, HC.out _ ⟨m1, m2, m3⟩⟩, rfl⟩, ?_⟩
  have hD2 : w.drawn ≤ (W0.alloc (.cells #[.int .i64 q, .int .i64 r] 3)).drew.drawn := Nat.le_trans hDr (Nat.le_succ _)
  generalize (W0.alloc (.cells #[.int .i64 q, .int .i64 r] 3)).drew = W2 at *
  have hsz : W0.heap.size < W2.heap.size := (Array.getElem?_eq_some_iff.1 hnew).1
  refine AX.mix_call2 (h3 W2 _ hnew) (by rfl) (by rfl) (by rfl) Tryd.func48 (by kernel_rfl) (by rfl) (by simp only [List.map_toArray, List.map_cons, List.map_nil]; rfl) ?_
  rintro e W2 ⟨rfl, rfl⟩
  have hB3 := Below.refl W2.heap.size W2
  have n3 := m3
  refine ⟨_, rfl, ⟨⟨_, HC.out _ ⟨m1.below hB3 m1.lt, m2.below hB3 m2.lt, n3⟩⟩, rfl⟩, ?_⟩
  simp only [Act.put, List.setIfInBounds_toArray, List.set_cons_succ, List.set_cons_zero]
  refine AX.mix_plain _ (by rfl) ?_
  go_big_quiet_step (fail)
  refine wpQuiet_nil ?_
  unfold AX.wpMix
  go_wp2
  go_ret
  exact ⟨rfl, n3, hD2⟩
end Go.Proofs.YtpplkjjfaibmmaaDoor

namespace Go.Proofs
open Go.Shelf
def Tryd.sortC_ren : Go.Shelf.Ren := ⟨fun | 6 => 66 | 15 => 71 | 14 => 70 | 28 => 80 | 29 => 81 | 20 => 72 | 21 => 73 | 22 => 74 | 23 => 75 | 24 => 76 | 25 => 77 | 26 => 78 | 27 => 79 | 46 => 82 | 47 => 83 | 48 => 84 | 49 => 85 | 50 => 86 | 57 => 87 | n => n, fun | 22 => 24 | 24 => 38 | 25 => 67 | 3 => 3 | 39 => 78 | 0 => 0 | 53 => 106 | 55 => 63 | 4 => 4 | 46 => 100 | 45 => 99 | 50 => 65 | 5 => 5 | 9 => 9 | 66 => 107 | 70 => 80 | 76 => 112 | 77 => 113 | n => n, fun | n => n⟩
theorem Tryd.sortC : Go.Proofs.SlLaysF0.n6 Tryd.prog Tryd.sortC_ren := {
  mixed := by kernel_rfl
  f6 := ⟨Tryd.f66.name, by decide, Tryd.func66.trans (congrArg some (by kernel_rfl))⟩
  f14 := ⟨Tryd.f70.name, by decide, Tryd.func70.trans (congrArg some (by kernel_rfl))⟩
  f15 := Tryd.func71.trans (congrArg some (by kernel_rfl))
  f20 := ⟨Tryd.f72.name, by decide, Tryd.func72.trans (congrArg some (by kernel_rfl))⟩
  f21 := ⟨Tryd.f73.name, by decide, Tryd.func73.trans (congrArg some (by kernel_rfl))⟩
  f22 := ⟨Tryd.f74.name, by decide, Tryd.func74.trans (congrArg some (by kernel_rfl))⟩
  f23 := ⟨Tryd.f75.name, by decide, Tryd.func75.trans (congrArg some (by kernel_rfl))⟩
  f24 := ⟨Tryd.f76.name, by decide, Tryd.func76.trans (congrArg some (by kernel_rfl))⟩
  f25 := ⟨Tryd.f77.name, by decide, Tryd.func77.trans (congrArg some (by kernel_rfl))⟩
  f26 := ⟨Tryd.f78.name, by decide, Tryd.func78.trans (congrArg some (by kernel_rfl))⟩
  f27 := ⟨Tryd.f79.name, by decide, Tryd.func79.trans (congrArg some (by kernel_rfl))⟩
  f28 := Tryd.func80.trans (congrArg some (by kernel_rfl))
  f29 := Tryd.func81.trans (congrArg some (by kernel_rfl))
  f46 := ⟨Tryd.f82.name, by decide, Tryd.func82.trans (congrArg some (by kernel_rfl))⟩
  f47 := Tryd.func83.trans (congrArg some (by kernel_rfl))
  f48 := Tryd.func84.trans (congrArg some (by kernel_rfl))
  f49 := ⟨Tryd.f85.name, by decide, Tryd.func85.trans (congrArg some (by kernel_rfl))⟩
  f50 := ⟨Tryd.f86.name, by decide, Tryd.func86.trans (congrArg some (by kernel_rfl))⟩
  f57 := ⟨Tryd.f87.name, by decide, Tryd.func87.trans (congrArg some (by kernel_rfl))⟩
  t0 := Tryd.underlying0
  a0 := Tryd.isAgg0
  z0 := Tryd.sizeOf0
  v0 := Tryd.zeroValue0
  t3 := Tryd.underlying3
  a3 := Tryd.isAgg3
  z3 := Tryd.sizeOf3
  v3 := Tryd.zeroValue3
  t4 := Tryd.underlying4
  a4 := Tryd.isAgg4
  z4 := Tryd.sizeOf4
  v4 := Tryd.zeroValue4
  t5 := Tryd.underlying5
  a5 := Tryd.isAgg5
  z5 := Tryd.sizeOf5
  v5 := Tryd.zeroValue5
  t9 := Tryd.underlying9
  a9 := Tryd.isAgg9
  z9 := Tryd.sizeOf9
  v9 := Tryd.zeroValue9
  t22 := Tryd.underlying24
  a22 := Tryd.isAgg24
  z22 := Tryd.sizeOf24
  v22 := Tryd.zeroValue24
  t25 := Tryd.underlying67
  a25 := Tryd.isAgg67
  z25 := Tryd.sizeOf67
  v25 := Tryd.zeroValue67
  t39 := Tryd.underlying78
  a39 := Tryd.isAgg78
  z39 := Tryd.sizeOf78
  v39 := Tryd.zeroValue78
  t45 := Tryd.underlying99
  a45 := Tryd.isAgg99
  z45 := Tryd.sizeOf99
  v45 := Tryd.zeroValue99
  t46 := Tryd.underlying100
  a46 := Tryd.isAgg100
  z46 := Tryd.sizeOf100
  v46 := Tryd.zeroValue100
  t50 := Tryd.underlying65
  a50 := Tryd.isAgg65
  z50 := Tryd.sizeOf65
  v50 := Tryd.zeroValue65
  t53 := Tryd.underlying106
  a53 := Tryd.isAgg106
  z53 := Tryd.sizeOf106
  v53 := Tryd.zeroValue106
  t55 := Tryd.underlying63
  a55 := Tryd.isAgg63
  z55 := Tryd.sizeOf63
  v55 := Tryd.zeroValue63
  t66 := Tryd.underlying107
  a66 := Tryd.isAgg107
  z66 := Tryd.sizeOf107
  v66 := Tryd.zeroValue107
  t70 := Tryd.underlying80
  a70 := Tryd.isAgg80
  z70 := Tryd.sizeOf80
  v70 := Tryd.zeroValue80
  t76 := Tryd.underlying112
  a76 := Tryd.isAgg112
  z76 := Tryd.sizeOf112
  v76 := Tryd.zeroValue112
  t77 := Tryd.underlying113
  a77 := Tryd.isAgg113
  z77 := Tryd.sizeOf113
  v77 := Tryd.zeroValue113 }
end Go.Proofs
namespace Go.Proofs.YtpplkjjfaibmmaaDoor
open Go Go.Proofs Go.RowKit Go.Shelf Go.Lib Go.Sort
theorem grow_of {w w' : World} (h : Below w.heap.size w w') (hd : w.drawn ≤ w'.drawn) : ∃ q os, w' = Go.Sort.grow (w.drewN q) os := by
  obtain ⟨h1, h2, h3, h4, h5⟩ := h
  refine ⟨w'.drawn - w.drawn, w'.heap.extract w.heap.size w'.heap.size, ?_⟩
  have hh : w'.heap = w.heap ++ w'.heap.extract w.heap.size w'.heap.size := by
    apply Array.ext_getElem?
    intro i
    rw [Array.getElem?_append]
    split
    · exact h5 i (by assumption)
    · rw [Array.getElem?_extract]
      split
      · congr 1
        omega
      · exact Array.getElem?_eq_none (by omega)
  have hd' : w'.drawn = w.drawn + (w'.drawn - w.drawn) := by omega
  generalize w'.drawn - w.drawn = q at *
  cases w
  cases w'
  simp only [Go.Sort.grow, World.drewN] at *
  subst h1 h2 h3 hd'
  congr 1
theorem ltF (x y : J) : ltOf fromI x y = decide (x.f < y.f ∨ (x.f = y.f ∧ x.s < y.s)) := by
  unfold ltOf fromI orI orI orI cmpI
  by_cases h1 : x.f < y.f
  · simp [h1]
  · by_cases h2 : y.f < x.f
    · have h3 : ¬ x.f = y.f := by omega
      simp [h1, h2, h3]
    · have h3 : x.f = y.f := by omega
      by_cases h4 : x.s < y.s
      · simp [h3, h4]
      · by_cases h5 : y.s < x.s
        · simp [h3, h4, h5]
        · simp [h3, h4, h5]
theorem swoF : SWO (ltOf fromI) where
  irrefl x := by rw [ltF]; simp
  trans x y z h1 h2 := by rw [ltF] at *; simp at *; omega
  ntrans x y z h1 h2 := by rw [ltF] at *; simp at *; omega
instance : Inhabited J := ⟨J.z⟩
theorem cmpLays51 {w : World} {blk : Nat} (off size : Nat) : CmpLays Tryd.prog 51 #[] encJ 5 fromI blk off size w :=
  fun m os dk _ x y => (from_d x y _).mono fun e w' ⟨he, hB, hd⟩ => by
    obtain ⟨q, os', h⟩ := grow_of hB hd
    exact ⟨he, q, os', h⟩
theorem size_sort (w : World) (blk off m : Nat) (dk : Array J) (os : Array Obj) : w.heap.size ≤ (sortWorldK encJ 5 w blk off m dk os).heap.size := by
  unfold sortWorldK
  rw [size_grow]
  simp [putRowK]
theorem sort_calls {w : World} {blk : Nat} (off cap : Nat) (d : Array J) (hH : HoldsK encJ 5 w blk off d) (hblk : blk < w.heap.size) (hsz : d.size < 4611686018427387904) :
    Calls Tryd.prog 66 #[.slice (some ⟨blk, off, none⟩) d.size cap, .func (.func 51) #[] #[]] w fun e w' => e = .returned (.tuple #[]) ∧ ∃ d', PermIn 0 d.size d d' ∧ HoldsK encJ 5 w' blk off d' ∧ ∀ n, n ≤ blk → Below n w w' := by
  have eg : ∀ args w, (callFunc 51 args).run Tryd.prog w = .ok (.enter 51 args) w := enters_of Tryd.func51 (by kernel_rfl) rfl
  have h := AnyQ.slices_SortFunc Tryd.sortC 5 Tryd.isAgg38 Tryd.sizeOf38 encJ (fun _ => rfl) (fun x v hv => encJ_one [x] v (by simpa using hv)) fromI swoF 51 #[] blk off cap d w eg (cmpLays51 off d.size) hH hblk hsz
  refine h.mono ?_
  rintro e w' ⟨he, d', n, os, h1, h2, rfl⟩
  refine ⟨he, d', h1, ?_, fun k hk => ?_⟩
  · exact holdsK_grow encJ 5 _ _ _ _ _ (by simp [putRowK]; exact hblk) (holdsK_putRowK encJ 5 _ _ _ d d' (holdsK_ahead encJ 5 _ _ _ _ _ hH) h1.1)
  · refine ⟨rfl, rfl, rfl, size_sort _ _ _ _ _ _, fun j hj => ?_⟩
    unfold sortWorldK
    rw [heap_grow_old _ _ (by simp [putRowK]; omega)]
    show (Array.modify _ _ _)[j]? = _
    rw [Array.getElem?_modify, if_neg (by omega)]
    rfl
theorem enc_get (x : J) (j : Nat) (hj : j < 5) : (encJ x)[j]? = some (encJ x)[j]! := by
  have : j < (encJ x).length := by simpa [encJ] using hj
  rw [List.getElem?_eq_getElem this, List.getElem!_eq_getElem?_getD, List.getElem?_eq_getElem this]
  rfl
theorem holds_of {w : World} {g : Nat} {l : List J} (h : JRow w g 0 l) (hf : ∀ j, w.frozen? ⟨g, j, none⟩ = false) : HoldsK encJ 5 w g 0 l.toArray := fun j hj => by
  have hj : j < l.length * 5 := by simpa using hj
  have hi : j / 5 < l.length := by omega
  refine ⟨?_, by rw [Nat.zero_add]; exact hf j⟩
  rw [get_flatK encJ 5 _ _ (by simpa using hj)]
  have e : l.toArray[j / 5]! = l[j / 5] := by simp [hi]
  rw [e]
  have hc := h.cells j
  have := jflat_get l (j / 5) hi (j % 5) _ (enc_get l[j / 5] _ (Nat.mod_lt _ (by decide)))
  rw [show j / 5 * 5 + j % 5 = j by omega] at this
  exact hc _ this
theorem row_of {w : World} {g : Nat} {d : Array J} (h : HoldsK encJ 5 w g 0 d) : JRow w g 0 d.toList := JRow.of_cells fun j v hv => by
  obtain ⟨i, hi, h1, h2⟩ := jflat_at _ j v hv
  have hi' : i < d.size := by simpa using hi
  have h3 : j - i * 5 < 5 := by
    have := (List.getElem?_eq_some_iff.1 h1).1
    simpa [encJ] using this
  have hjd : j < d.size * 5 := by omega
  have h4 := (h j (by simpa using hjd)).1
  rw [get_flatK encJ 5 _ _ hjd] at h4
  have e1 : j / 5 = i := by omega
  have e2 : j % 5 = j - i * 5 := by omega
  rw [e1, e2] at h4
  have e3 : d[i]! = d.toList[i] := by simp [hi']
  rw [e3] at h4
  rw [h4]
  rw [enc_get _ _ h3] at h1
  exact h1
theorem cells_of_cell {w : World} {g o : Nat} {v : Value} (h : w.cell? ⟨g, o, none⟩ = some v) : ∃ o, w.heap[g]? = some o ∧ o.isCells = true := by
  unfold World.cell? at h
  cases hb : w.heap[g]? with
  | none => simp [hb] at h
  | some ob =>
    cases ob with
    | cells c e fz => exact ⟨_, rfl, rfl⟩
    | _ => simp [hb] at h
end Go.Proofs.YtpplkjjfaibmmaaDoor

namespace Go.Proofs.YtpplkjjfaibmmaaDoor
open Go Go.Proofs Go.RowKit Go.Shelf Go.Lib Go.Sort
attribute [local go_sem] Oper.semAt_some
theorem DRow.frozen {w : World} {base : Nat} {v : Value} {l : List J} (h : DRow w base v l) {g n c : Nat} (e : v = .slice (some ⟨g, 0, none⟩) n c) (j : Nat) : w.frozen? ⟨g, j, none⟩ = false := by
  rcases h.2 with ⟨rfl, hn⟩ | ⟨g', cap, cur, rfl, hg, hh, rest⟩
  · cases e
  · cases e
    simp [World.frozen?, hh]
set_option maxHeartbeats 2000000 in
theorem sorted_k (l : List J) (hl : l.length ≤ 1000000) (hne : l ≠ []) {w0 : World} {L : Nat} (la : Option Addr) (c : Nat) (hR : RRow w0 (.slice la l.length c) l) (hL : w0.heap.size ≤ L) (w : World) (hLw : L < w.heap.size) (hS : Fv w0 L (.slice la l.length c) w) :
    Calls Tryd.prog 60 #[.func (.func 67) #[] #[.pointer (some ⟨L, 0, none⟩)], .func (.func 51) #[] #[]] w fun e w' => (∃ (g c' : Nat) (l' : List J), e = .returned (.slice (some ⟨g, 0, none⟩) l'.length c') ∧ l'.Perm l ∧ l'.length ≤ c' ∧ w.heap.size ≤ g ∧ (∃ o, w'.heap[g]? = some o ∧ o.isCells = true) ∧ JRow w' g 0 l') ∧ AX.But L w w' := by
  have h65 := collect_in 9 (by omega) hL l hl la c hR w hLw hS
  have h66 : ∀ (W : World) (v : Value), DRow W w.heap.size v l → ∃ g cp : Nat, v = .slice (some ⟨g, 0, none⟩) l.length cp ∧ w.heap.size ≤ g ∧ l.length ≤ cp ∧ Calls Tryd.prog 66 #[v, .func (.func 51) #[] #[]] W fun e w' => e = .returned (.tuple #[]) ∧ (∃ (l' : List J), l'.Perm l ∧ (∃ o, w'.heap[g]? = some o ∧ o.isCells = true) ∧ JRow w' g 0 l') ∧ Below g W w' := by
    intro W v hd
    have hd' := id hd
    rcases hd.2 with ⟨rfl, hn⟩ | ⟨g, cap, cur, rfl, hg, hh, hnc, hcm, hsz, hcs⟩
    · exact absurd (List.eq_nil_of_length_eq_zero hn) hne
    · refine ⟨g, cap, rfl, hg, hnc, ?_⟩
      have hlt := (Array.getElem?_eq_some_iff.1 hh).1
      obtain ⟨la', c', e1, _, h2⟩ := hd'.read
      obtain ⟨B, off, e2, _, hrow⟩ := h2 _ (Value.slice.inj e1).1.symm
      cases e2
      have hH := holds_of hrow (fun j => hd'.frozen rfl j)
      have := sort_calls 0 cap l.toArray hH hlt (by simp; omega)
      rw [List.size_toArray] at this
      refine this.mono ?_
      rintro e w' ⟨rfl, d', hp, hH', hb⟩
      refine ⟨rfl, ⟨d'.toList, ?_, ?_, row_of hH'⟩, hb _ (Nat.le_refl _)⟩
      · obtain ⟨p1, _, p3⟩ := hp
        have e1 : d'.extract 0 l.length = d' := by
          rw [show l.length = d'.size by simpa using p1.symm]; simp
        have e2 : l.toArray.extract 0 l.length = l.toArray := by simp
        simpa [e1, e2] using p3
      · have hl' : 0 < d'.toList.length := by
          have h0 : d'.size = l.length := by simpa using hp.1
          have h1 : 0 < l.length := List.length_pos_iff.2 hne
          simp [h0]; omega
        exact cells_of_cell (row_of hH' 0 hl').c0
  have HS := Lib.hid h66
  clear h66
  go_enter Tryd.func60, Tryd.ntmps60
  go_wp2_with (first
    | (go_at_call 65; ((with_reducible refine h65.mono ?_); rintro e W1 ⟨⟨v1, rfl, hd1⟩, hb1⟩; obtain ⟨g, cp, rfl, hg, hcp, h66⟩ := HS.out W1 _ hd1))
    | (go_at_call 66; ((with_reducible refine h66.mono ?_); rintro e W2 ⟨rfl, ⟨l', hp, hgc, hrow⟩, hb2⟩)))
  have hlen := hp.length_eq
  refine bodyPost_ret (v := .slice (some ⟨g, 0, none⟩) l.length cp) (by simp [results, Tryd.results60, go_sem]) rfl ⟨⟨g, cp, l', by rw [hlen], hp, by omega, hg, hgc, hrow⟩, ?_⟩
  exact ⟨hb1.low.trans (hb2.mono (Nat.zero_le _)), fun k hk hA => (hb2.block k (by omega)).trans (hb1.same k hk hA)⟩
end Go.Proofs.YtpplkjjfaibmmaaDoor

namespace Go.Proofs.YtpplkjjfaibmmaaDoor
open Go Go.Proofs Go.RowKit
attribute [local go_sem] Oper.semAt_some
theorem JRow.same {X Y : World} {g o : Nat} {l : List J} (h : JRow X g o l) (e : Y.heap[g]? = X.heap[g]?) : JRow Y g o l := fun i hi => by
  have hc : ∀ j, Y.cell? ⟨g, j, none⟩ = X.cell? ⟨g, j, none⟩ := fun j => by unfold World.cell?; rw [e]
  obtain ⟨c0, c1, c2, c3, c4⟩ := h i hi
  exact ⟨(hc _).trans c0, (hc _).trans c1, (hc _).trans c2, (hc _).trans c3, (hc _).trans c4⟩
/-- A row of jobs in a block of cells from n1 on. -/
structure SR (n1 g : Nat) (l : List J) (W : World) : Prop where
  n : n1 ≤ g
  s : n1 ≤ W.heap.size
  c : ∃ o, W.heap[g]? = some o ∧ o.isCells = true
  r : JRow W g 0 l
theorem SR.keep {n1 g : Nat} {l : List J} {X Y : World} (h : SR n1 g l X) (hk : AX.Keep (fun _ => False) n1 X Y) : SR n1 g l Y := by
  obtain ⟨o, h1, h2⟩ := h.c
  have e := hk.same g o h1 (.inr ⟨h.n, h2⟩)
  exact ⟨h.n, Nat.le_trans h.s hk.low.size, ⟨o, e, h2⟩, h.r.same (e.trans h1.symm)⟩
theorem SR.below {n1 g : Nat} {l : List J} {X Y : World} (h : SR n1 g l X) (hk : Below X.heap.size X Y) : SR n1 g l Y := h.keep (AX.Keep.of_below hk)
theorem SR.lt {n1 g : Nat} {l : List J} {X : World} (h : SR n1 g l X) : g < X.heap.size := by
  obtain ⟨o, h1, h2⟩ := h.c
  exact (Array.getElem?_eq_some_iff.1 h1).1
theorem Box5.keep {n1 b : Nat} {x : J} {X Y : World} (h : Box5 X b x) (hn : n1 ≤ b) (hk : AX.Keep (fun _ => False) n1 X Y) : Box5 Y b x := hk.same _ _ h (.inr ⟨hn, rfl⟩)
/-- What is asked of a pair: two jobs of the row, of different slots. -/
def Pr (l : List J) (x : J × J) : Prop := x.1 ∈ l ∧ x.2 ∈ l ∧ x.1.s ≠ x.2.s
set_option maxRecDepth 100000 in
set_option maxHeartbeats 4000000 in
theorem pairs1_in (n : Nat) (hn : 6 ≤ n) {n1 L : Nat} (l : List J) (hl : l.length ≤ 1000000) (hne : 2 ≤ l.length) (hd : l.Pairwise fun a b => a.s ≠ b.s) (la : Option Addr) (c : Nat) (y : Nat) (J' Jx : List (J × J) → World → Prop) (hJ : ∀ q X Y, J' q X → AX.But L X Y → J' q Y)
    (hY : ∀ (pre : List (J × J)) (x : J × J) (W : World), J' pre W → n1 ≤ W.heap.size → Pr l x → YieldAt Fence.wide (n - 1) Tryd.prog y #[x.1.v, x.2.v] W fun e W' =>
      (e = .returned (.bool true) ∧ J' (pre ++ [x]) W' ∧ AX.Keep (fun _ => False) n1 W W') ∨ (e = .returned (.bool false) ∧ Jx (pre ++ [x]) W'))
    (W : World) (hn1 : n1 ≤ W.heap.size) (hR : RRow W (.slice la l.length c) l) (hL : W.heap[L]? = some (.cells #[.slice la l.length c] 24 (0, 0))) (h0 : J' [] W) :
    CallsIn Fence.wide n Tryd.prog 59 #[.func (.yield y) #[] #[], .pointer (some ⟨L, 0, none⟩)] W fun e W' => (∃ v, e = .returned v) ∧ ((∃ xs, xs ≠ [] ∧ J' xs W') ∨ (∃ pre, Jx pre W')) := by
  have c1 : W.cell? ⟨L, 0, none⟩ = some (.slice la l.length c) := by simp [World.cell?, hL]
  have h61 := (callsIn_wide (n := n - 1)).2 (values_k la l.length c W)
  have hB0 : Below W.heap.size W (W.alloc (.cells #[.slice la l.length c] 24)) := (Below.refl _ W).alloc (Nat.le_refl _) _
  have h60 := (callsIn_wide (n := n - 1)).2 (sorted_k l hl (by intro e; subst e; simp at hne) la c hR (Nat.le_refl _) (W.alloc (.cells #[.slice la l.length c] 24)) (by simp) ⟨hB0, World.alloc_heap_new W _⟩)
  have hz : (W.alloc (.cells #[.slice la l.length c] 24)).heap.size = W.heap.size + 1 := by simp
  unfold J.v at *
  refine callsIn_of_wp Tryd.func59 rfl trivial ?_ rfl
  simp only [Tryd.ntmps59, List.size_toArray, List.length_cons, List.length_nil, Nat.reduceAdd, Nat.reduceSub, Array.replicate_succ, Array.replicate_zero, List.push_toArray, List.append_toArray, List.nil_append, List.cons_append]
  have hf61 : Fence.wide.fn 61 := trivial
  have hf60 : Fence.wide.fn 60 := trivial
  have hn1' : 1 ≤ n := by omega
  gi_wp2_with (first
    | (gi_at_call 61; refine h61.mono ?_; rintro e w2 ⟨rfl, rfl⟩)
    | (gi_at_call 60; refine h60.mono ?_; rintro e W2 ⟨⟨g, cp, l', rfl, hp, hcp, hg, hgc, hrow⟩, hB2⟩))
  have hBW : Below W.heap.size W W2 := hB0.trans (hB2.below (by omega) (Nat.le_refl _))
  have hJ2 := hJ _ _ _ h0 (AX.But.of_below hBW)
  have hS2 : SR n1 g l' W2 := ⟨by omega, Nat.le_trans hn1 hBW.size, hgc, hrow⟩
  have hlen : l'.length = l.length := hp.length_eq
  have hPr : ∀ (i k : Nat) (hi : i < l'.length) (hk : k < l'.length), i < k → Pr l (l'[i], l'[k]) := fun i k hi hk hik =>
    ⟨hp.mem_iff.1 (List.getElem_mem hi), hp.mem_iff.1 (List.getElem_mem hk), by
      have hd' : l'.Pairwise fun a b => a.s ≠ b.s := (hp.pairwise_iff (fun {a b} h => fun e => h e.symm)).2 hd
      exact List.pairwise_iff_getElem.1 hd' i k hi hk hik⟩
  rw [← hlen] at hne
  have HP := Lib.hid hPr
  have hcp' : l'.length ≤ cp := hcp
  have hlen' := hlen
  clear h61 h60 hBW hB2 hB0 hz hL hR h0 hrow hgc hp hd hPr c1 hlen hg
  clear hcp
  have hll : l'.length ≤ 1000000 := hlen' ▸ hl
  clear hlen'
  gi_loopw [13] (fun i wr => ∃ (k : Nat) (pre : List (J × J)), k ≤ l'.length ∧ i = .int .i64 k ∧ SR n1 g l' wr ∧ J' pre wr ∧ Hid (0 < k → pre ≠ [])) (fun i _ => l'.length - (intOf i).toNat)
  case atStart => exact ⟨0, [], Nat.zero_le _, rfl, hS2, hJ2, Lib.hid (fun h => by omega)⟩
  case round =>
    obtain ⟨k, pre, hk, rfl, hSr, hJr, hpre⟩ := hrel
    clear hS2 hJ2
    by_cases hlt : k < l'.length
    · obtain ⟨y0, y1, y2, y3, y4⟩ := hSr.r k hlt
      rw [Nat.zero_add] at y0 y1 y2 y3 y4
      have HX : Hid (∀ m (h : k + 1 + m < l'.length), Pr l (l'[k], l'[k + 1 + m])) := Lib.hid fun m h => HP.out k (k + 1 + m) hlt h (by omega)
      generalize l'[k] = x at *
      have hk0 : (0 : Int) ≤ (k : Int) := by omega
      have hk1 : (k : Int) < (l'.length : Int) := by omega
      have hk2 : ((k : Int) + 1).toNat = k + 1 := by omega
      have hk3 : k + 1 ≤ l'.length := by omega
      have hk4 : k + 1 ≤ cp := by omega
      have hT0 := Bx.new wr 38 #[.int .i64 0, .int .i64 0, .int .i64 0, .int .i64 0, .int .i64 0]
      have hA0 : Below wr.heap.size wr (wr.alloc (.cells #[.int .i64 0, .int .i64 0, .int .i64 0, .int .i64 0, .int .i64 0] 38)) := (Below.refl _ wr).alloc (Nat.le_refl _) _
      rcases Nat.eq_or_lt_of_le hk4 with hc | hc
      all_goals
        gi_wp2_with ((with_reducible refine st_in ?_); refine AX.wpListIn_storeBox (vs := [.int .i64 x.s, .int .i64 x.f, .int .i64 x.t, .int .i64 x.a, .int .i64 x.l]) rfl rfl sz38g hT0 rfl rfl ?_; rintro W3 h3 h4 h5)
        have hX3 : Box5 W3 wr.heap.size x := h3
        have hB3 := hA0.trans (AX.below_turn (Nat.le_refl _) (.inl hX3.lt) h4 h5)
        have hS3 := hSr.below hB3
        have hJ3 := hJ _ _ _ hJr (AX.But.of_below hB3)
        have hXn := hSr.s
        clear h3 h4 h5 hB3 hT0 hA0 y0 y1 y2 y3 y4 hJr
        generalize wr.heap.size = XB at *
        gi_loopw [23] (fun j wr => ∃ (m : Nat) (pre : List (J × J)), m ≤ l'.length - (k + 1) ∧ j = .int .i64 m ∧ SR n1 g l' wr ∧ Box5 wr XB x ∧ J' pre wr ∧ Hid (0 < k ∨ 0 < m → pre ≠ [])) (fun j _ => l'.length - (k + 1) - (intOf j).toNat)
        case atStart => exact ⟨0, pre, Nat.zero_le _, rfl, hS3, hX3, hJ3, Lib.hid (fun h => hpre.out (by omega))⟩
        case round =>
          obtain ⟨m, pre', hm, rfl, hSq, hXq, hJq, hpre'⟩ := hrel
          clear hS3 hJ3 hX3
          by_cases hml : m < l'.length - (k + 1)
          · first
              | (exfalso; omega)
              | (have hkm : k + 1 + m < l'.length := by omega
                 obtain ⟨z0, z1, z2, z3, z4⟩ := hSq.r (k + 1 + m) hkm
                 rw [show 0 + (k + 1 + m) * 5 = (k + 1) * 5 + m * 5 by omega] at z0 z1 z2 z3 z4
                 have hPx := HX.out m hkm
                 generalize l'[k + 1 + m] = z at *
                 have hm0 : (0 : Int) ≤ (m : Int) := by omega
                 have hm1 : (m : Int) < ((l'.length - (k + 1) : Nat) : Int) := by omega
                 have hT0 := Bx.new wr 38 #[.int .i64 0, .int .i64 0, .int .i64 0, .int .i64 0, .int .i64 0]
                 have hA0 : Below wr.heap.size wr (wr.alloc (.cells #[.int .i64 0, .int .i64 0, .int .i64 0, .int .i64 0, .int .i64 0] 38)) := (Below.refl _ wr).alloc (Nat.le_refl _) _
                 have hl3 : ∀ W3 : World, Bx W3 wr.heap.size 38 #[.int .i64 z.s, .int .i64 z.f, .int .i64 z.t, .int .i64 z.a, .int .i64 z.l] → (∀ k, k ≠ wr.heap.size → W3.heap[k]? = (wr.alloc (.cells #[.int .i64 0, .int .i64 0, .int .i64 0, .int .i64 0, .int .i64 0] 38)).heap[k]?) → AX.Same (wr.alloc (.cells #[.int .i64 0, .int .i64 0, .int .i64 0, .int .i64 0, .int .i64 0] 38)) W3 → Below wr.heap.size wr W3 := fun W3 h3 h4 h5 => hA0.trans (AX.below_turn (Nat.le_refl _) (.inl h3.lt) h4 h5)
                 obtain ⟨x0, x1, x2, x3, x4⟩ := hXq.cs
                 gi_wp2_with ((with_reducible refine st_in ?_); refine AX.wpListIn_storeBox (vs := [.int .i64 z.s, .int .i64 z.f, .int .i64 z.t, .int .i64 z.a, .int .i64 z.l]) rfl rfl sz38g hT0 rfl rfl ?_; rintro W3 h3 h4 h5
                   <;> (have hB3 := hl3 W3 h3 h4 h5
                        have hS3 := hSq.below hB3
                        have hX3 := hXq.below hB3 hXq.lt
                        obtain ⟨x0, x1, x2, x3, x4⟩ := hX3.cs
                        obtain ⟨z0, z1, z2, z3, z4⟩ := Bx.five (show Bx W3 wr.heap.size 38 #[.int .i64 z.s, .int .i64 z.f, .int .i64 z.t, .int .i64 z.a, .int .i64 z.l] from h3)
                        obtain ⟨fn, tmps, assign, body, hy, hRo⟩ := hY pre' (x, z) W3 (hJ _ _ _ hJq (AX.But.of_below hB3)) hS3.s hPx))
                 refine hRo.mono ?_
                 rintro e W4 (⟨rfl, hJ4, hK4⟩ | ⟨rfl, hJx4⟩)
                 · have hS4 := hS3.keep hK4
                   have hX4 := hX3.keep hXn hK4
                   clear hy hRo
                   gi_wp2_with fail
                   go_roundw
                   case rel => exact ⟨m + 1, pre' ++ [(x, z)], by omega, by simp, hS4, hX4, hJ4, Lib.hid (fun _ => by simp)⟩
                   case measure => simp [intOf]; omega
                 · clear hy hRo
                   gi_wp2_with fail
                   refine bodyPost_ret (results_none rfl _ _ _) rfl ?_
                   exact ⟨⟨_, rfl⟩, .inr ⟨_, hJx4⟩⟩)
          · obtain rfl : m = l'.length - (k + 1) := by omega
            gi_wp2_with fail
            go_roundw
            case rel => exact ⟨k + 1, pre', by omega, by simp, hSq, hJq, Lib.hid (fun _ => hpre'.out (by omega))⟩
            case measure => simp [intOf]; omega
    · obtain rfl : k = l'.length := by omega
      gi_wp2_with fail
      go_end0
      exact ⟨⟨_, rfl⟩, .inl ⟨_, hpre.out (by omega), hJr⟩⟩
end Go.Proofs.YtpplkjjfaibmmaaDoor
