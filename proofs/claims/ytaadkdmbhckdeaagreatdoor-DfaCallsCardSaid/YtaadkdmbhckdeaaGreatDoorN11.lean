/- slices.SortFunc at classes, by the shelf's contract. -/
import Derived.Test.YtaadkdmbhckdeaaGreatDoorN9
import Derived.Shelf.SlSortCmp.WholeK
namespace Go.Proofs.YtaadkdmbhckdeaaGreatDoor
open Go Go.Proofs Go.RowKit Go.Shelf Go.Lib Go.Sort
attribute [local go_sem] Oper.semAt_some
def cmpN (a b : Nat) : Int := if a < b then -1 else if b < a then 1 else 0
def encC (x : Kl) : List Value := [.int .u64 (x.a : Nat), .int .u64 (x.b : Nat), .int .u64 (x.c : Nat), .int .u64 (x.d : Nat)]
set_option maxHeartbeats 1000000 in
theorem compare39 (a b : Nat) (w : World) : Calls Tryz.prog 45 #[.int .u8 (a : Nat), .int .u8 (b : Nat)] w fun e w' => e = .returned (.int .i64 (cmpN a b)) ∧ w' = w := by
 by_cases h1 : a < b
 · have e : cmpN a b = -1 := by simp [cmpN, h1]
   rw [e]
   have d1 : decide ((a : Int) < (b : Int)) = true := by simp; omega
   go_enter Tryz.func45, Tryz.ntmps45
   go_wp2
   go_ret
   exact ⟨rfl, rfl⟩
 · by_cases h2 : b < a
   · have e : cmpN a b = 1 := by simp [cmpN, h1, h2]
     rw [e]
     have d1 : decide ((a : Int) < (b : Int)) = false := by simp; omega
     have d2 : decide ((b : Int) < (a : Int)) = true := by simp; omega
     go_enter Tryz.func45, Tryz.ntmps45
     go_wp2
     go_ret
     exact ⟨rfl, rfl⟩
   · have e : cmpN a b = 0 := by simp [cmpN, h1, h2]
     rw [e]
     have d1 : decide ((a : Int) < (b : Int)) = false := by simp; omega
     have d2 : decide ((b : Int) < (a : Int)) = false := by simp; omega
     go_enter Tryz.func45, Tryz.ntmps45
     go_wp2
     go_ret
     exact ⟨rfl, rfl⟩
theorem least_k (x : Kl) (w : World) (hp : 0 < w.heap.size) (hT : TabAt w) : Calls Tryz.prog 27 #[.agg (encC x).toArray] w fun e w' => e = .returned (.tuple #[.int .u8 (x.low : Nat), .bool !x.by_.isEmpty]) ∧ BD w.heap.size w w' :=
 least_calls x.a x.b x.c x.d x.h w hp hT
set_option maxHeartbeats 1000000 in
theorem closure38 (x y : Kl) (w : World) (hp : 0 < w.heap.size) (hT : TabAt w) : Calls Tryz.prog 44 #[.agg (encC x).toArray, .agg (encC y).toArray] w fun e w' => e = .returned (.int .i64 (cmpN x.low y.low)) ∧ BD w.heap.size w w' := by
 have hl : ∀ W, Hid (BD w.heap.size w W) → Calls Tryz.prog 27 _ W _ := fun W h => least_k x W (Nat.lt_of_lt_of_le hp h.out.1.size) (hT.below h.out.1 hp)
 have hr : ∀ W, Hid (BD w.heap.size w W) → Calls Tryz.prog 27 _ W _ := fun W h => least_k y W (Nat.lt_of_lt_of_le hp h.out.1.size) (hT.below h.out.1 hp)
 have hc := compare39 x.low y.low
 have HL := Lib.hid hl
 have HR := Lib.hid hr
 clear hl hr
 obtain ⟨xa, xb, xc, xd, xh⟩ := x
 obtain ⟨ya, yb, yc, yd, yh⟩ := y
 simp only [encC] at *
 generalize (⟨xa, xb, xc, xd, xh⟩ : Kl).low = p at *
 generalize (⟨ya, yb, yc, yd, yh⟩ : Kl).low = q at *
 generalize (⟨xa, xb, xc, xd, xh⟩ : Kl).by_ = px at *
 generalize (⟨ya, yb, yc, yd, yh⟩ : Kl).by_ = qx at *
 generalize cmpN p q = r at *
 have HC := Lib.hid hc
 clear hc
 obtain ⟨W1, hW1⟩ : ∃ W1, W1 = (w.alloc (.cells #[.int .u64 (xa : Nat), .int .u64 (xb : Nat), .int .u64 (xc : Nat), .int .u64 (xd : Nat)] 55)).alloc (.cells #[.int .u64 (ya : Nat), .int .u64 (yb : Nat), .int .u64 (yc : Nat), .int .u64 (yd : Nat)] 55) := ⟨_, rfl⟩
 have hB1 : BD w.heap.size w W1 := by rw [hW1]; exact ((BD.refl _ w).alloc (Nat.le_refl _) _).alloc (by simp) _
 have c2 : ClsAt (w.heap.size + 1) ya yb yc yd W1 := by rw [hW1]; exact ⟨by go_simp, by go_simp, by go_simp, by go_simp⟩
 have hs1 : W1.heap.size = w.heap.size + 1 + 1 := by rw [hW1]; simp
 have HW := Lib.hid hW1
 clear hW1
 go_enter Tryz.func44, Tryz.ntmps44
 go_wp2_with fail
 rw [← HW.out]
 refine (HL.out _ hB1).mono ?_
 rintro e W2 ⟨rfl, hB2⟩
 have c3 := c2.below hB2.1 (by omega)
 have hB2' : BD w.heap.size w W2 := ⟨hB1.1.trans (hB2.1.mono (by omega)), hB2.2.trans hB1.2⟩
 obtain ⟨d0, d1, d2, d3⟩ := c3
 go_wp2_with fail
 refine (HR.out _ hB2').mono ?_
 rintro e W3 ⟨rfl, hB3⟩
 have hB3' : BD w.heap.size w W3 := ⟨hB2'.1.trans (hB3.1.mono hB2'.1.size), hB3.2.trans hB2'.2⟩
 clear d0 d1 d2 d3
 go_wp2_with (go_at_call 45; refine (HC.out _).mono ?_; rintro e w' ⟨rfl, rfl⟩)
 go_ret
 exact ⟨rfl, hB3'⟩
end Go.Proofs.YtaadkdmbhckdeaaGreatDoor
namespace Go.Proofs
open Go.Shelf
def Tryz.sortC_ren : Go.Shelf.Ren := ⟨fun | 6 => 43 | 15 => 58 | 14 => 57 | 28 => 76 | 29 => 77 | 20 => 68 | 21 => 69 | 22 => 70 | 23 => 71 | 24 => 72 | 25 => 73 | 26 => 74 | 27 => 75 | 46 => 82 | 47 => 83 | 48 => 84 | 49 => 85 | 50 => 86 | 57 => 90 | n => n, fun | 22 => 22 | 24 => 55 | 25 => 79 | 3 => 3 | 39 => 95 | 0 => 0 | 53 => 121 | 55 => 53 | 4 => 4 | 46 => 115 | 45 => 114 | 50 => 49 | 5 => 5 | 9 => 9 | 66 => 124 | 70 => 128 | 76 => 132 | 77 => 107 | n => n, fun | n => n⟩
theorem Tryz.sortC : Go.Proofs.SlLaysF0.n6 Tryz.prog Tryz.sortC_ren := {
 mixed := by kernel_rfl
 f6 := ⟨Tryz.f43.name, by decide, Tryz.func43.trans (congrArg some (by kernel_rfl))⟩
 f14 := ⟨Tryz.f57.name, by decide, Tryz.func57.trans (congrArg some (by kernel_rfl))⟩
 f15 := Tryz.func58.trans (congrArg some (by kernel_rfl))
 f20 := ⟨Tryz.f68.name, by decide, Tryz.func68.trans (congrArg some (by kernel_rfl))⟩
 f21 := ⟨Tryz.f69.name, by decide, Tryz.func69.trans (congrArg some (by kernel_rfl))⟩
 f22 := ⟨Tryz.f70.name, by decide, Tryz.func70.trans (congrArg some (by kernel_rfl))⟩
 f23 := ⟨Tryz.f71.name, by decide, Tryz.func71.trans (congrArg some (by kernel_rfl))⟩
 f24 := ⟨Tryz.f72.name, by decide, Tryz.func72.trans (congrArg some (by kernel_rfl))⟩
 f25 := ⟨Tryz.f73.name, by decide, Tryz.func73.trans (congrArg some (by kernel_rfl))⟩
 f26 := ⟨Tryz.f74.name, by decide, Tryz.func74.trans (congrArg some (by kernel_rfl))⟩
 f27 := ⟨Tryz.f75.name, by decide, Tryz.func75.trans (congrArg some (by kernel_rfl))⟩
 f28 := Tryz.func76.trans (congrArg some (by kernel_rfl))
 f29 := Tryz.func77.trans (congrArg some (by kernel_rfl))
 f46 := ⟨Tryz.f82.name, by decide, Tryz.func82.trans (congrArg some (by kernel_rfl))⟩
 f47 := Tryz.func83.trans (congrArg some (by kernel_rfl))
 f48 := Tryz.func84.trans (congrArg some (by kernel_rfl))
 f49 := ⟨Tryz.f85.name, by decide, Tryz.func85.trans (congrArg some (by kernel_rfl))⟩
 f50 := ⟨Tryz.f86.name, by decide, Tryz.func86.trans (congrArg some (by kernel_rfl))⟩
 f57 := ⟨Tryz.f90.name, by decide, Tryz.func90.trans (congrArg some (by kernel_rfl))⟩
 t0 := Tryz.underlying0
 a0 := Tryz.isAgg0
 z0 := Tryz.sizeOf0
 v0 := Tryz.zeroValue0
 t3 := Tryz.underlying3
 a3 := Tryz.isAgg3
 z3 := Tryz.sizeOf3
 v3 := Tryz.zeroValue3
 t4 := Tryz.underlying4
 a4 := Tryz.isAgg4
 z4 := Tryz.sizeOf4
 v4 := Tryz.zeroValue4
 t5 := Tryz.underlying5
 a5 := Tryz.isAgg5
 z5 := Tryz.sizeOf5
 v5 := Tryz.zeroValue5
 t9 := Tryz.underlying9
 a9 := Tryz.isAgg9
 z9 := Tryz.sizeOf9
 v9 := Tryz.zeroValue9
 t22 := Tryz.underlying22
 a22 := Tryz.isAgg22
 z22 := Tryz.sizeOf22
 v22 := Tryz.zeroValue22
 t25 := Tryz.underlying79
 a25 := Tryz.isAgg79
 z25 := Tryz.sizeOf79
 v25 := Tryz.zeroValue79
 t39 := Tryz.underlying95
 a39 := Tryz.isAgg95
 z39 := Tryz.sizeOf95
 v39 := Tryz.zeroValue95
 t45 := Tryz.underlying114
 a45 := Tryz.isAgg114
 z45 := Tryz.sizeOf114
 v45 := Tryz.zeroValue114
 t46 := Tryz.underlying115
 a46 := Tryz.isAgg115
 z46 := Tryz.sizeOf115
 v46 := Tryz.zeroValue115
 t50 := Tryz.underlying49
 a50 := Tryz.isAgg49
 z50 := Tryz.sizeOf49
 v50 := Tryz.zeroValue49
 t53 := Tryz.underlying121
 a53 := Tryz.isAgg121
 z53 := Tryz.sizeOf121
 v53 := Tryz.zeroValue121
 t55 := Tryz.underlying53
 a55 := Tryz.isAgg53
 z55 := Tryz.sizeOf53
 v55 := Tryz.zeroValue53
 t66 := Tryz.underlying124
 a66 := Tryz.isAgg124
 z66 := Tryz.sizeOf124
 v66 := Tryz.zeroValue124
 t70 := Tryz.underlying128
 a70 := Tryz.isAgg128
 z70 := Tryz.sizeOf128
 v70 := Tryz.zeroValue128
 t76 := Tryz.underlying132
 a76 := Tryz.isAgg132
 z76 := Tryz.sizeOf132
 v76 := Tryz.zeroValue132
 t77 := Tryz.underlying107
 a77 := Tryz.isAgg107
 z77 := Tryz.sizeOf107
 v77 := Tryz.zeroValue107 }
end Go.Proofs
namespace Go.Proofs.YtaadkdmbhckdeaaGreatDoor
open Go Go.Proofs Go.RowKit Go.Shelf Go.Lib Go.Sort
def cfK (x y : Kl) : Int := cmpN x.low y.low
theorem ltK (x y : Kl) : ltOf cfK x y = decide (x.low < y.low) := by
 unfold ltOf cfK cmpN
 by_cases h1 : x.low < y.low
 · simp [h1]
 · by_cases h2 : y.low < x.low <;> simp [h1, h2]
theorem swoK : SWO (ltOf cfK) where
 irrefl x := by rw [ltK]; simp
 trans x y z h1 h2 := by rw [ltK] at *; simp at *; omega
 ntrans x y z h1 h2 := by rw [ltK] at *; simp at *; omega
theorem encC_len (x : Kl) : (encC x).length = 4 := rfl
theorem encC_one (x : Kl) : ∀ v ∈ encC x, v.oneCell' = true := by
 intro v hv
 simp only [encC, List.mem_cons, List.not_mem_nil, or_false] at hv
 rcases hv with rfl | rfl | rfl | rfl <;> rfl
theorem tab_sort {w : World} (hT : TabAt w) (hp : 0 < w.heap.size) {blk : Nat} (hb : 0 < blk) (off m : Nat) (dk : Array Kl) (os : Array Obj) : TabAt (sortWorldK encC 4 w blk off m dk os) := fun j hj => by
 have h0 : (sortWorldK encC 4 w blk off m dk os).cell? ⟨0, j, none⟩ = w.cell? ⟨0, j, none⟩ := by
  unfold sortWorldK
  rw [cell?_grow _ _ _ (by simp [putRowK]; omega), cell?_putRowK_other encC 4 _ _ _ _ _ (show (⟨0, j, none⟩ : Addr).block ≠ blk from by show (0 : Nat) ≠ blk; omega)]
  rfl
 rw [h0]
 exact hT j hj
theorem size_sort (w : World) (blk off m : Nat) (dk : Array Kl) (os : Array Obj) : w.heap.size ≤ (sortWorldK encC 4 w blk off m dk os).heap.size := by
 unfold sortWorldK
 rw [size_grow]
 simp [putRowK]
theorem cmpLays38 {w : World} (hT : TabAt w) (hp : 0 < w.heap.size) {blk : Nat} (hb : 0 < blk) (off size : Nat) : CmpLays Tryz.prog 44 #[] encC 4 cfK blk off size w :=
 fun m os dk _ x y => (closure38 x y _ (Nat.lt_of_lt_of_le hp (size_sort w blk off m dk os)) (tab_sort hT hp hb off m dk os)).mono fun e w' ⟨he, hB⟩ => by
  obtain ⟨os', h⟩ := hB.grow
  exact ⟨he, 0, os', h⟩
theorem sort_calls {w : World} (hT : TabAt w) (hp : 0 < w.heap.size) {blk : Nat} (hb : 0 < blk) (off cap : Nat) (d : Array Kl) (hH : HoldsK encC 4 w blk off d) (hblk : blk < w.heap.size) (hsz : d.size < 4611686018427387904) :
  Calls Tryz.prog 43 #[.slice (some ⟨blk, off, none⟩) d.size cap, .func (.func 44) #[] #[]] w fun e w' => e = .returned (.tuple #[]) ∧ ∃ d', PermIn 0 d.size d d' ∧ SortedIn (ltOf cfK) 0 d.size d' ∧ HoldsK encC 4 w' blk off d' ∧ ∀ n, n ≤ blk → Below n w w' := by
 have eg : ∀ args w, (callFunc 44 args).run Tryz.prog w = .ok (.enter 44 args) w := enters_of Tryz.func44 (by kernel_rfl) rfl
 have h := AnyQ.slices_SortFunc Tryz.sortC 4 Tryz.isAgg55 Tryz.sizeOf55 encC encC_len encC_one cfK swoK 44 #[] blk off cap d w eg (cmpLays38 hT hp hb off d.size) hH hblk hsz
 refine h.mono ?_
 rintro e w' ⟨he, d', n, os, h1, h2, rfl⟩
 refine ⟨he, d', h1, h2, ?_, fun k hk => ?_⟩
 · exact holdsK_grow encC 4 _ _ _ _ _ (by simp [putRowK]; exact hblk) (holdsK_putRowK encC 4 _ _ _ d d' (holdsK_ahead encC 4 _ _ _ _ _ hH) h1.1)
 · refine ⟨rfl, rfl, rfl, size_sort _ _ _ _ _ _, fun j hj => ?_⟩
   unfold sortWorldK
   rw [heap_grow_old _ _ (by simp [putRowK]; omega)]
   show (Array.modify _ _ _)[j]? = _
   rw [Array.getElem?_modify, if_neg (by omega)]
   rfl
end Go.Proofs.YtaadkdmbhckdeaaGreatDoor
