/- slices.SortFunc at classes, by the shelf's contract. -/
import Derived.Test.YtaadkdmbhckdeaaDoorN10
namespace Go.Proofs
open Go.Shelf
def Tryd.sortC_ren : Go.Shelf.Ren := ⟨fun | 6 => 37 | 15 => 52 | 14 => 51 | 28 => 70 | 29 => 71 | 20 => 62 | 21 => 63 | 22 => 64 | 23 => 65 | 24 => 66 | 25 => 67 | 26 => 68 | 27 => 69 | 46 => 76 | 47 => 77 | 48 => 78 | 49 => 79 | 50 => 80 | 57 => 84 | n => n, fun | 22 => 22 | 24 => 50 | 25 => 82 | 3 => 3 | 39 => 98 | 0 => 0 | 53 => 124 | 55 => 48 | 4 => 4 | 46 => 118 | 45 => 117 | 50 => 55 | 5 => 5 | 9 => 9 | 66 => 127 | 70 => 131 | 76 => 135 | 77 => 110 | n => n, fun | n => n⟩
theorem Tryd.sortC : Go.Proofs.SlLaysF0.n6 Tryd.prog Tryd.sortC_ren := {
  mixed := by kernel_rfl
  f6 := ⟨Tryd.f37.name, by decide, Tryd.func37.trans (congrArg some (by kernel_rfl))⟩
  f14 := ⟨Tryd.f51.name, by decide, Tryd.func51.trans (congrArg some (by kernel_rfl))⟩
  f15 := Tryd.func52.trans (congrArg some (by kernel_rfl))
  f20 := ⟨Tryd.f62.name, by decide, Tryd.func62.trans (congrArg some (by kernel_rfl))⟩
  f21 := ⟨Tryd.f63.name, by decide, Tryd.func63.trans (congrArg some (by kernel_rfl))⟩
  f22 := ⟨Tryd.f64.name, by decide, Tryd.func64.trans (congrArg some (by kernel_rfl))⟩
  f23 := ⟨Tryd.f65.name, by decide, Tryd.func65.trans (congrArg some (by kernel_rfl))⟩
  f24 := ⟨Tryd.f66.name, by decide, Tryd.func66.trans (congrArg some (by kernel_rfl))⟩
  f25 := ⟨Tryd.f67.name, by decide, Tryd.func67.trans (congrArg some (by kernel_rfl))⟩
  f26 := ⟨Tryd.f68.name, by decide, Tryd.func68.trans (congrArg some (by kernel_rfl))⟩
  f27 := ⟨Tryd.f69.name, by decide, Tryd.func69.trans (congrArg some (by kernel_rfl))⟩
  f28 := Tryd.func70.trans (congrArg some (by kernel_rfl))
  f29 := Tryd.func71.trans (congrArg some (by kernel_rfl))
  f46 := ⟨Tryd.f76.name, by decide, Tryd.func76.trans (congrArg some (by kernel_rfl))⟩
  f47 := Tryd.func77.trans (congrArg some (by kernel_rfl))
  f48 := Tryd.func78.trans (congrArg some (by kernel_rfl))
  f49 := ⟨Tryd.f79.name, by decide, Tryd.func79.trans (congrArg some (by kernel_rfl))⟩
  f50 := ⟨Tryd.f80.name, by decide, Tryd.func80.trans (congrArg some (by kernel_rfl))⟩
  f57 := ⟨Tryd.f84.name, by decide, Tryd.func84.trans (congrArg some (by kernel_rfl))⟩
  t0 := Tryd.underlying0
  a0 := Tryd.isAgg0
  z0 := Tryd.sizeOf0
  v0 := Tryd.zeroValue0
  t3 := Tryd.underlying3
  a3 := Tryd.isAgg3
  z3 := Tryd.sizeOf3
  v3 := Tryd.zeroValue3
  t4 := Tryd.underlying4
  a4 := Tryd.isAgg4
  z4 := Tryd.sizeOf4
  v4 := Tryd.zeroValue4
  t5 := Tryd.underlying5
  a5 := Tryd.isAgg5
  z5 := Tryd.sizeOf5
  v5 := Tryd.zeroValue5
  t9 := Tryd.underlying9
  a9 := Tryd.isAgg9
  z9 := Tryd.sizeOf9
  v9 := Tryd.zeroValue9
  t22 := Tryd.underlying22
  a22 := Tryd.isAgg22
  z22 := Tryd.sizeOf22
  v22 := Tryd.zeroValue22
  t25 := Tryd.underlying82
  a25 := Tryd.isAgg82
  z25 := Tryd.sizeOf82
  v25 := Tryd.zeroValue82
  t39 := Tryd.underlying98
  a39 := Tryd.isAgg98
  z39 := Tryd.sizeOf98
  v39 := Tryd.zeroValue98
  t45 := Tryd.underlying117
  a45 := Tryd.isAgg117
  z45 := Tryd.sizeOf117
  v45 := Tryd.zeroValue117
  t46 := Tryd.underlying118
  a46 := Tryd.isAgg118
  z46 := Tryd.sizeOf118
  v46 := Tryd.zeroValue118
  t50 := Tryd.underlying55
  a50 := Tryd.isAgg55
  z50 := Tryd.sizeOf55
  v50 := Tryd.zeroValue55
  t53 := Tryd.underlying124
  a53 := Tryd.isAgg124
  z53 := Tryd.sizeOf124
  v53 := Tryd.zeroValue124
  t55 := Tryd.underlying48
  a55 := Tryd.isAgg48
  z55 := Tryd.sizeOf48
  v55 := Tryd.zeroValue48
  t66 := Tryd.underlying127
  a66 := Tryd.isAgg127
  z66 := Tryd.sizeOf127
  v66 := Tryd.zeroValue127
  t70 := Tryd.underlying131
  a70 := Tryd.isAgg131
  z70 := Tryd.sizeOf131
  v70 := Tryd.zeroValue131
  t76 := Tryd.underlying135
  a76 := Tryd.isAgg135
  z76 := Tryd.sizeOf135
  v76 := Tryd.zeroValue135
  t77 := Tryd.underlying110
  a77 := Tryd.isAgg110
  z77 := Tryd.sizeOf110
  v77 := Tryd.zeroValue110 }

end Go.Proofs
namespace Go.Proofs.YtaadkdmbhckdeaaDoor
open Go Go.Proofs Go.RowKit Go.Shelf Go.Lib Go.Sort

def cfK (x y : Kl) : Int := cmpN x.low y.low
theorem ltK (x y : Kl) : ltOf cfK x y = decide (x.low < y.low) := by
  unfold ltOf cfK cmpN
  by_cases h1 : x.low < y.low
  · simp [h1]
  · by_cases h2 : y.low < x.low <;> simp [h1, h2]
theorem swoK : SWO (ltOf cfK) where
  irrefl x := by rw [ltK]; simp
  trans x y z h1 h2 := by rw [ltK] at *; simp at *; omega
  ntrans x y z h1 h2 := by rw [ltK] at *; simp at *; omega
theorem encC_len (x : Kl) : (encC x).length = 4 := rfl
theorem encC_one (x : Kl) : ∀ v ∈ encC x, v.oneCell' = true := by
  intro v hv
  simp only [encC, List.mem_cons, List.not_mem_nil, or_false] at hv
  rcases hv with rfl | rfl | rfl | rfl <;> rfl
theorem tab_sort {w : World} (hT : TabAt w) (hp : 0 < w.heap.size) {blk : Nat} (hb : 0 < blk) (off m : Nat) (dk : Array Kl) (os : Array Obj) : TabAt (sortWorldK encC 4 w blk off m dk os) := fun j hj => by
  have h0 : (sortWorldK encC 4 w blk off m dk os).cell? ⟨0, j, none⟩ = w.cell? ⟨0, j, none⟩ := by
    unfold sortWorldK
    rw [cell?_grow _ _ _ (by simp [putRowK]; omega), cell?_putRowK_other encC 4 _ _ _ _ _ (show (⟨0, j, none⟩ : Addr).block ≠ blk from by show (0 : Nat) ≠ blk; omega)]
    rfl
  rw [h0]
  exact hT j hj
theorem size_sort (w : World) (blk off m : Nat) (dk : Array Kl) (os : Array Obj) : w.heap.size ≤ (sortWorldK encC 4 w blk off m dk os).heap.size := by
  unfold sortWorldK
  rw [size_grow]
  simp [putRowK]
theorem cmpLays38 {w : World} (hT : TabAt w) (hp : 0 < w.heap.size) {blk : Nat} (hb : 0 < blk) (off size : Nat) : CmpLays Tryd.prog 38 #[] encC 4 cfK blk off size w :=
  fun m os dk _ x y => (closure38 x y _ (Nat.lt_of_lt_of_le hp (size_sort w blk off m dk os)) (tab_sort hT hp hb off m dk os)).mono fun e w' ⟨he, hB⟩ => by
    obtain ⟨os', h⟩ := hB.grow
    exact ⟨he, 0, os', h⟩
theorem sort_calls {w : World} (hT : TabAt w) (hp : 0 < w.heap.size) {blk : Nat} (hb : 0 < blk) (off cap : Nat) (d : Array Kl) (hH : HoldsK encC 4 w blk off d) (hblk : blk < w.heap.size) (hsz : d.size < 4611686018427387904) :
    Calls Tryd.prog 37 #[.slice (some ⟨blk, off, none⟩) d.size cap, .func (.func 38) #[] #[]] w fun e w' => e = .returned (.tuple #[]) ∧ ∃ d', PermIn 0 d.size d d' ∧ SortedIn (ltOf cfK) 0 d.size d' ∧ HoldsK encC 4 w' blk off d' ∧ ∀ n, n ≤ blk → Below n w w' := by
  have eg : ∀ args w, (callFunc 38 args).run Tryd.prog w = .ok (.enter 38 args) w := enters_of Tryd.func38 (by kernel_rfl) rfl
  have h := AnyQ.slices_SortFunc Tryd.sortC 4 Tryd.isAgg50 Tryd.sizeOf50 encC encC_len encC_one cfK swoK 38 #[] blk off cap d w eg (cmpLays38 hT hp hb off d.size) hH hblk hsz
  refine h.mono ?_
  rintro e w' ⟨he, d', n, os, h1, h2, rfl⟩
  refine ⟨he, d', h1, h2, ?_, fun k hk => ?_⟩
  · exact holdsK_grow encC 4 _ _ _ _ _ (by simp [putRowK]; exact hblk) (holdsK_putRowK encC 4 _ _ _ d d' (holdsK_ahead encC 4 _ _ _ _ _ hH) h1.1)
  · refine ⟨rfl, rfl, rfl, size_sort _ _ _ _ _ _, fun j hj => ?_⟩
    unfold sortWorldK
    rw [heap_grow_old _ _ (by simp [putRowK]; omega)]
    show (Array.modify _ _ _)[j]? = _
    rw [Array.getElem?_modify, if_neg (by omega)]
    rfl
end Go.Proofs.YtaadkdmbhckdeaaDoor
