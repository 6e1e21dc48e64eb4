/- What is known ahead of the run: slices.Min, slices.Max, slices.Sorted of maps.Keys; a deferred function that finds no panic. -/
import Derived.Test.YtaadkdmbhckdeaaGreatDoorRows
import Derived.LaidMore
import Derived.Test.YtaadkdmbhckdeaaGreatDoorMm
import Derived.Test.YtaadkdmbhckdeaaGreatDoorOx6
import Derived.Test.YtaadkdmbhckdeaaGreatDoorOx3
import Derived.Shelf.SortM.Plain
import Derived.Shelf.SortM.SortNone
import Derived.RecoverIn
namespace Go.Proofs.YtaadkdmbhckdeaaGreatDoor
open Go.Proofs Go.RowKit Go.Maps Go.Sort Go.Shelf
def keysA_ren : Go.Shelf.Ren := ⟨fun | 7 => 62 | 10 => 80 | n => n, fun | 23 => 99 | 26 => 3 | 3 => 100 | 28 => 103 | 0 => 0 | 27 => 102 | 33 => 123 | 4 => 4 | n => n, fun | n => n⟩
theorem keysA : Go.Proofs.SlLaysZI.n7 Tryz.prog keysA_ren := {
 mixed := by kernel_rfl
 f7 := ⟨Tryz.f62.name, by decide, Tryz.func62.trans (congrArg some (by kernel_rfl))⟩
 f10 := ⟨Tryz.f80.name, by decide, Tryz.func80.trans (congrArg some (by kernel_rfl))⟩
 t0 := Tryz.underlying0
 a0 := Tryz.isAgg0
 z0 := Tryz.sizeOf0
 v0 := Tryz.zeroValue0
 t4 := Tryz.underlying4
 a4 := Tryz.isAgg4
 z4 := Tryz.sizeOf4
 v4 := Tryz.zeroValue4
 t23 := Tryz.underlying99
 a23 := Tryz.isAgg99
 z23 := Tryz.sizeOf99
 v23 := Tryz.zeroValue99
 t26 := Tryz.underlying3
 a26 := Tryz.isAgg3
 z26 := Tryz.sizeOf3
 v26 := Tryz.zeroValue3
 t27 := Tryz.underlying102
 a27 := Tryz.isAgg102
 z27 := Tryz.sizeOf102
 v27 := Tryz.zeroValue102
 t28 := Tryz.underlying103
 a28 := Tryz.isAgg103
 z28 := Tryz.sizeOf103
 v28 := Tryz.zeroValue103
 t33 := Tryz.underlying123
 a33 := Tryz.isAgg123
 z33 := Tryz.sizeOf123
 v33 := Tryz.zeroValue123 }
def sortedA_ren : Go.Shelf.Ren := ⟨fun | 6 => 61 | 8 => 78 | 9 => 79 | 11 => 87 | 13 => 58 | 12 => 88 | 23 => 76 | 24 => 77 | 14 => 91 | 15 => 92 | 16 => 93 | 17 => 94 | 18 => 95 | 19 => 96 | 20 => 97 | 21 => 98 | 22 => 99 | 25 => 104 | 26 => 83 | 27 => 84 | 28 => 105 | 29 => 106 | 30 => 107 | 31 => 114 | n => n, fun | 26 => 3 | 28 => 103 | 24 => 24 | 0 => 0 | 3 => 3 | 37 => 95 | 48 => 121 | 50 => 53 | 4 => 4 | 40 => 115 | 39 => 114 | 45 => 49 | 5 => 5 | 9 => 9 | 51 => 124 | 55 => 128 | 57 => 132 | 58 => 107 | 33 => 123 | n => n, fun | n => n⟩
theorem sortedA : Go.Proofs.SlLaysZI.n6 Tryz.prog sortedA_ren := {
 mixed := by kernel_rfl
 f6 := ⟨Tryz.f61.name, by decide, Tryz.func61.trans (congrArg some (by kernel_rfl))⟩
 f8 := ⟨Tryz.f78.name, by decide, Tryz.func78.trans (congrArg some (by kernel_rfl))⟩
 f11 := ⟨Tryz.f87.name, by decide, Tryz.func87.trans (congrArg some (by kernel_rfl))⟩
 t0 := Tryz.underlying0
 a0 := Tryz.isAgg0
 z0 := Tryz.sizeOf0
 v0 := Tryz.zeroValue0
 t24 := Tryz.underlying24
 a24 := Tryz.isAgg24
 z24 := Tryz.sizeOf24
 v24 := Tryz.zeroValue24
 t26 := Tryz.underlying3
 a26 := Tryz.isAgg3
 z26 := Tryz.sizeOf3
 v26 := Tryz.zeroValue3
 t28 := Tryz.underlying103
 a28 := Tryz.isAgg103
 z28 := Tryz.sizeOf103
 v28 := Tryz.zeroValue103
 i26 := by kernel_rfl }
def sortA_ren : Go.Shelf.Ren := ⟨fun | 5 => 79 | 8 => 58 | 7 => 88 | 19 => 76 | 20 => 77 | 10 => 91 | 11 => 92 | 12 => 93 | 13 => 94 | 14 => 95 | 15 => 96 | 16 => 97 | 17 => 98 | 18 => 99 | 30 => 104 | 31 => 83 | 32 => 84 | 33 => 105 | 34 => 106 | 35 => 107 | 40 => 114 | n => n, fun | 23 => 24 | 25 => 3 | 3 => 3 | 32 => 95 | 22 => 24 | 0 => 0 | 44 => 121 | 46 => 53 | 4 => 4 | 36 => 115 | 35 => 114 | 41 => 49 | 5 => 5 | 9 => 9 | 53 => 124 | 57 => 128 | 63 => 132 | 64 => 107 | n => n, fun | n => n⟩
theorem sortA : Go.Proofs.SlLaysM.n5 Tryz.prog sortA_ren := {
 mixed := by kernel_rfl
 f5 := ⟨Tryz.f79.name, by decide, Tryz.func79.trans (congrArg some (by kernel_rfl))⟩
 f7 := ⟨Tryz.f88.name, by decide, Tryz.func88.trans (congrArg some (by kernel_rfl))⟩
 f8 := Tryz.func58.trans (congrArg some (by kernel_rfl))
 f10 := ⟨Tryz.f91.name, by decide, Tryz.func91.trans (congrArg some (by kernel_rfl))⟩
 f11 := ⟨Tryz.f92.name, by decide, Tryz.func92.trans (congrArg some (by kernel_rfl))⟩
 f12 := ⟨Tryz.f93.name, by decide, Tryz.func93.trans (congrArg some (by kernel_rfl))⟩
 f13 := ⟨Tryz.f94.name, by decide, Tryz.func94.trans (congrArg some (by kernel_rfl))⟩
 f14 := ⟨Tryz.f95.name, by decide, Tryz.func95.trans (congrArg some (by kernel_rfl))⟩
 f15 := ⟨Tryz.f96.name, by decide, Tryz.func96.trans (congrArg some (by kernel_rfl))⟩
 f16 := ⟨Tryz.f97.name, by decide, Tryz.func97.trans (congrArg some (by kernel_rfl))⟩
 f17 := ⟨Tryz.f98.name, by decide, Tryz.func98.trans (congrArg some (by kernel_rfl))⟩
 f18 := ⟨Tryz.f99.name, by decide, Tryz.func99.trans (congrArg some (by kernel_rfl))⟩
 f19 := Tryz.func76.trans (congrArg some (by kernel_rfl))
 f20 := Tryz.func77.trans (congrArg some (by kernel_rfl))
 f30 := ⟨Tryz.f104.name, by decide, Tryz.func104.trans (congrArg some (by kernel_rfl))⟩
 f31 := Tryz.func83.trans (congrArg some (by kernel_rfl))
 f32 := Tryz.func84.trans (congrArg some (by kernel_rfl))
 f33 := ⟨Tryz.f105.name, by decide, Tryz.func105.trans (congrArg some (by kernel_rfl))⟩
 f34 := ⟨Tryz.f106.name, by decide, Tryz.func106.trans (congrArg some (by kernel_rfl))⟩
 f35 := ⟨Tryz.f107.name, by decide, Tryz.func107.trans (congrArg some (by kernel_rfl))⟩
 f40 := ⟨Tryz.f114.name, by decide, Tryz.func114.trans (congrArg some (by kernel_rfl))⟩
 t0 := Tryz.underlying0
 a0 := Tryz.isAgg0
 z0 := Tryz.sizeOf0
 v0 := Tryz.zeroValue0
 t3 := Tryz.underlying3
 a3 := Tryz.isAgg3
 z3 := Tryz.sizeOf3
 v3 := Tryz.zeroValue3
 t4 := Tryz.underlying4
 a4 := Tryz.isAgg4
 z4 := Tryz.sizeOf4
 v4 := Tryz.zeroValue4
 t5 := Tryz.underlying5
 a5 := Tryz.isAgg5
 z5 := Tryz.sizeOf5
 v5 := Tryz.zeroValue5
 t9 := Tryz.underlying9
 a9 := Tryz.isAgg9
 z9 := Tryz.sizeOf9
 v9 := Tryz.zeroValue9
 t22 := Tryz.underlying24
 a22 := Tryz.isAgg24
 z22 := Tryz.sizeOf24
 v22 := Tryz.zeroValue24
 t23 := Tryz.underlying24
 a23 := Tryz.isAgg24
 z23 := Tryz.sizeOf24
 v23 := Tryz.zeroValue24
 t25 := Tryz.underlying3
 a25 := Tryz.isAgg3
 z25 := Tryz.sizeOf3
 v25 := Tryz.zeroValue3
 t32 := Tryz.underlying95
 a32 := Tryz.isAgg95
 z32 := Tryz.sizeOf95
 v32 := Tryz.zeroValue95
 t35 := Tryz.underlying114
 a35 := Tryz.isAgg114
 z35 := Tryz.sizeOf114
 v35 := Tryz.zeroValue114
 t36 := Tryz.underlying115
 a36 := Tryz.isAgg115
 z36 := Tryz.sizeOf115
 v36 := Tryz.zeroValue115
 t41 := Tryz.underlying49
 a41 := Tryz.isAgg49
 z41 := Tryz.sizeOf49
 v41 := Tryz.zeroValue49
 t44 := Tryz.underlying121
 a44 := Tryz.isAgg121
 z44 := Tryz.sizeOf121
 v44 := Tryz.zeroValue121
 t46 := Tryz.underlying53
 a46 := Tryz.isAgg53
 z46 := Tryz.sizeOf53
 v46 := Tryz.zeroValue53
 t53 := Tryz.underlying124
 a53 := Tryz.isAgg124
 z53 := Tryz.sizeOf124
 v53 := Tryz.zeroValue124
 t57 := Tryz.underlying128
 a57 := Tryz.isAgg128
 z57 := Tryz.sizeOf128
 v57 := Tryz.zeroValue128
 t63 := Tryz.underlying132
 a63 := Tryz.isAgg132
 z63 := Tryz.sizeOf132
 v63 := Tryz.zeroValue132
 t64 := Tryz.underlying107
 a64 := Tryz.isAgg107
 z64 := Tryz.sizeOf107
 v64 := Tryz.zeroValue107 }
theorem sortsA (m : Nat) : AnyZI.SortsIn Tryz.prog sortedA_ren Fence.wide m :=
  ⟨fun blk off cap ss W hH hblk hsz => callsIn_wide.2 (AnyM.slices_Sort_int sortA blk off cap ss W hH hblk hsz),
   fun p cap W => callsIn_wide.2 (AnyM.slices_Sort_int_none sortA p cap W)⟩
theorem sorted_keys (Bm b nn : Nat) (D : DataW Unit) (w : World) (hBm : Bm < w.heap.size) (hm : w.cell? ⟨Bm, 0, none⟩ = some (.map (some b))) (hown : w.ownsMap Tryz.prog 3 (fun _ => some (.nil, [])) b nn D) (hmax : Maps.size D ≤ 1000000) :
  Calls Tryz.prog 61 #[.func (.func 80) #[] #[.pointer (some ⟨Bm, 0, none⟩)]] w fun ed w' => ∃ (v : Value) (ss : List Int), ed = .returned v ∧ ss.Perm (intKeys D) ∧
   w'.ownsRow w.heap.size 3 1 v ss.length ((ss.mergeSort (fun x y => decide (x ≤ y))).map encZ) ∧ (v = .slice none 0 0 ↔ ss = []) ∧ Below w.heap.size w w' := by
 have hseq : SeqGives Fence.wide 2 Tryz.prog 80 #[.pointer (some ⟨Bm, 0, none⟩)] encZ (fun ss => ss.Perm (intKeys D)) (Maps.size D) w :=
  AnyZI.keys_gives (ρ := keysA_ren) { keysA with } Fence.wide _ trivial rfl (by omega) Bm b nn D _ hBm hm hown
 have cS := AnyZI.sorted_in (n := 5) sortedA Fence.wide trivial trivial trivial trivial rfl (by omega) (sortsA _) (enters_of Tryz.func79 (by kernel_rfl) rfl) 80 #[.pointer (some ⟨Bm, 0, none⟩)] trivial (enters_of Tryz.func80 (by kernel_rfl) rfl) _ (Maps.size D) (by unfold maxLen; omega) (by omega) w hseq
 change CallsIn _ _ Tryz.prog 61 _ _ _ at cS
 exact callsIn_wide.1 cS
noncomputable def dfd : AX.T (List AX.AV → AX.Hp → Nat → Option (AX.AV × AX.Hp × Nat)) := .leaf
theorem dfdOk {x : AX.T Nat} {y : AX.T (List AX.AV → AX.Hp → Nat → Option (AX.AV × AX.Hp × Nat))} {gl : AX.T AX.Cells} {b : Bool} : AX.DfdOk ⟨Tryz.prog, gl, x, y, dfd, b⟩ := AX.DfdOk.leaf
def nums : List Int := [0, 1, 56, 2, 57, 49, 28, 3, 61, 58, 42, 50, 38, 29, 17, 4, 62, 47, 59, 36, 45, 43, 51, 22, 53, 39, 33, 30, 24, 18, 12, 5, 63, 55, 48, 27, 60, 41, 37, 16, 46, 35, 44, 21, 52, 32, 23, 11, 54, 26, 40, 15, 34, 20, 31, 10, 25, 14, 19, 9, 13, 8, 7, 6]
noncomputable def glob : AX.T AX.Cells := AX.T.set .leaf 0 (AX.ofL (nums.map fun n => AX.AV.int .u8 n))
noncomputable def tab0 : AX.T (List AX.AV → AX.Hp → Nat → Option (AX.AV × AX.Hp × Nat)) := (((AX.T.leaf.set 61 (AX.sortedA 80)).set 34 AX.minA).set 35 AX.maxA)
set_option maxRecDepth 100000 in
theorem pOk : AX.POk Tryz.prog := AX.POk.of (by kernel_rfl) (by kernel_rfl)
theorem dfdAll : ∀ s, AX.DfdOk (AX.ctxOf Tryz.prog glob dfd s) := fun _ => dfdOk
theorem tab0_ok : AX.TabOk Tryz.prog glob dfd tab0 := fun _ => (AX.orc_set (AX.maxA_good ⟨_, _, Tryz.func35, rfl⟩ slices_Max_int) (AX.orc_set (AX.minA_good ⟨_, _, Tryz.func34, rfl⟩ slices_Min_int) (AX.orc_set (AX.sortedA_good (k := 3) (e := 3) Tryz.underlying3 ⟨_, _, Tryz.func61, rfl⟩ sorted_keys) AX.orc_leaf)))
set_option maxRecDepth 100000 in
theorem numsAt {W : World} (h : laidMetH Tryz.prog [("math/bits.deBruijn64tab", Rows.laid_math_bits_deBruijn64tab)] W) : AX.numsAt W 0 .u8 nums := by
 rw [MakeChecks.laidMetH_plain _ _ _ (by kernel_rfl)] at h
 obtain ⟨ps, h, _⟩ := h
 exact AX.numsAt_of_laid (n := 64) (e := 5) (t := 105) (by kernel_rfl) (by kernel_rfl) Tryz.underlying105 Tryz.underlying5 (by kernel_rfl) (by kernel_rfl) h
end Go.Proofs.YtaadkdmbhckdeaaGreatDoor
