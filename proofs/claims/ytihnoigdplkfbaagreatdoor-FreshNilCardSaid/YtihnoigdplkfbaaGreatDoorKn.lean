/- What is known ahead of the run: slices.Min, slices.Max, slices.Sorted of maps.Keys; a deferred function that finds no panic. -/
import Derived.Test.YtihnoigdplkfbaaGreatDoorProg
import Derived.Test.YtihnoigdplkfbaaGreatDoorRows
import Derived.ProofKit
import Derived.OpenShut
import Derived.LaidMore
import Derived.Test.YtihnoigdplkfbaaGreatDoorMm
import Derived.Test.YtihnoigdplkfbaaGreatDoorOx6
import Derived.Test.YtihnoigdplkfbaaGreatDoorOx2
import Derived.Test.YtihnoigdplkfbaaGreatDoorOx3
import Derived.Shelf.SlIterI.Nil
import Derived.Shelf.SlIter.Nil
import Derived.Shelf.SortM.Plain
import Derived.Shelf.SortM.SortNone
import Derived.Ground.GgzProg
import Derived.Ground.SlgmProg
import Derived.RecoverIn
import Derived.TacticsInMore
import Derived.Tactics2
import Derived.LoopNIn
import Derived.RegionIn
import Derived.Laws.Pointers
import Derived.KernelRfl
namespace Go.Proofs.YtihnoigdplkfbaaGreatDoor
open Go.Proofs Go.RowKit Go.Maps Go.Sort Go.Shelf
def keysA_ren : Go.Shelf.Ren := ⟨fun | 7 => 66 | 10 => 109 | n => n, fun | 23 => 142 | 26 => 3 | 3 => 154 | 28 => 152 | 0 => 0 | 27 => 151 | 33 => 128 | 4 => 4 | n => n, fun | n => n⟩
theorem keysA : Go.Proofs.SlLaysZI.n7 Tryz.prog keysA_ren := {
  mixed := by kernel_rfl
  f7 := ⟨Tryz.f66.name, by decide, Tryz.func66.trans (congrArg some (by kernel_rfl))⟩
  f10 := ⟨Tryz.f109.name, by decide, Tryz.func109.trans (congrArg some (by kernel_rfl))⟩
  t0 := Tryz.underlying0
  a0 := Tryz.isAgg0
  z0 := Tryz.sizeOf0
  v0 := Tryz.zeroValue0
  t4 := Tryz.underlying4
  a4 := Tryz.isAgg4
  z4 := Tryz.sizeOf4
  v4 := Tryz.zeroValue4
  t23 := Tryz.underlying142
  a23 := Tryz.isAgg142
  z23 := Tryz.sizeOf142
  v23 := Tryz.zeroValue142
  t26 := Tryz.underlying3
  a26 := Tryz.isAgg3
  z26 := Tryz.sizeOf3
  v26 := Tryz.zeroValue3
  t27 := Tryz.underlying151
  a27 := Tryz.isAgg151
  z27 := Tryz.sizeOf151
  v27 := Tryz.zeroValue151
  t28 := Tryz.underlying152
  a28 := Tryz.isAgg152
  z28 := Tryz.sizeOf152
  v28 := Tryz.zeroValue152
  t33 := Tryz.underlying128
  a33 := Tryz.isAgg128
  z33 := Tryz.sizeOf128
  v33 := Tryz.zeroValue128 }
def sortedA_ren : Go.Shelf.Ren := ⟨fun | 6 => 65 | 8 => 107 | 9 => 108 | 11 => 147 | 13 => 149 | 12 => 148 | 23 => 177 | 24 => 178 | 14 => 168 | 15 => 169 | 16 => 170 | 17 => 171 | 18 => 172 | 19 => 173 | 20 => 174 | 21 => 175 | 22 => 176 | 25 => 196 | 26 => 197 | 27 => 198 | 28 => 199 | 29 => 200 | 30 => 201 | 31 => 215 | n => n, fun | 26 => 3 | 28 => 152 | 24 => 43 | 0 => 0 | 3 => 3 | 37 => 231 | 48 => 269 | 50 => 44 | 4 => 4 | 40 => 287 | 39 => 286 | 45 => 118 | 5 => 5 | 9 => 9 | 51 => 301 | 55 => 279 | 57 => 315 | 58 => 316 | 33 => 128 | n => n, fun | n => n⟩
theorem sortedA : Go.Proofs.SlLaysZI.n6 Tryz.prog sortedA_ren := {
  mixed := by kernel_rfl
  f6 := ⟨Tryz.f65.name, by decide, Tryz.func65.trans (congrArg some (by kernel_rfl))⟩
  f8 := ⟨Tryz.f107.name, by decide, Tryz.func107.trans (congrArg some (by kernel_rfl))⟩
  f11 := ⟨Tryz.f147.name, by decide, Tryz.func147.trans (congrArg some (by kernel_rfl))⟩
  t0 := Tryz.underlying0
  a0 := Tryz.isAgg0
  z0 := Tryz.sizeOf0
  v0 := Tryz.zeroValue0
  t24 := Tryz.underlying43
  a24 := Tryz.isAgg43
  z24 := Tryz.sizeOf43
  v24 := Tryz.zeroValue43
  t26 := Tryz.underlying3
  a26 := Tryz.isAgg3
  z26 := Tryz.sizeOf3
  v26 := Tryz.zeroValue3
  t28 := Tryz.underlying152
  a28 := Tryz.isAgg152
  z28 := Tryz.sizeOf152
  v28 := Tryz.zeroValue152
  i26 := by kernel_rfl }
def sortA_ren : Go.Shelf.Ren := ⟨fun | 5 => 108 | 8 => 149 | 7 => 148 | 19 => 177 | 20 => 178 | 10 => 168 | 11 => 169 | 12 => 170 | 13 => 171 | 14 => 172 | 15 => 173 | 16 => 174 | 17 => 175 | 18 => 176 | 30 => 196 | 31 => 197 | 32 => 198 | 33 => 199 | 34 => 200 | 35 => 201 | 40 => 215 | n => n, fun | 23 => 43 | 25 => 3 | 3 => 3 | 32 => 231 | 22 => 43 | 0 => 0 | 44 => 269 | 46 => 44 | 4 => 4 | 36 => 287 | 35 => 286 | 41 => 118 | 5 => 5 | 9 => 9 | 53 => 301 | 57 => 279 | 63 => 315 | 64 => 316 | n => n, fun | n => n⟩
theorem sortA : Go.Proofs.SlLaysM.n5 Tryz.prog sortA_ren := {
  mixed := by kernel_rfl
  f5 := ⟨Tryz.f108.name, by decide, Tryz.func108.trans (congrArg some (by kernel_rfl))⟩
  f7 := ⟨Tryz.f148.name, by decide, Tryz.func148.trans (congrArg some (by kernel_rfl))⟩
  f8 := Tryz.func149.trans (congrArg some (by kernel_rfl))
  f10 := ⟨Tryz.f168.name, by decide, Tryz.func168.trans (congrArg some (by kernel_rfl))⟩
  f11 := ⟨Tryz.f169.name, by decide, Tryz.func169.trans (congrArg some (by kernel_rfl))⟩
  f12 := ⟨Tryz.f170.name, by decide, Tryz.func170.trans (congrArg some (by kernel_rfl))⟩
  f13 := ⟨Tryz.f171.name, by decide, Tryz.func171.trans (congrArg some (by kernel_rfl))⟩
  f14 := ⟨Tryz.f172.name, by decide, Tryz.func172.trans (congrArg some (by kernel_rfl))⟩
  f15 := ⟨Tryz.f173.name, by decide, Tryz.func173.trans (congrArg some (by kernel_rfl))⟩
  f16 := ⟨Tryz.f174.name, by decide, Tryz.func174.trans (congrArg some (by kernel_rfl))⟩
  f17 := ⟨Tryz.f175.name, by decide, Tryz.func175.trans (congrArg some (by kernel_rfl))⟩
  f18 := ⟨Tryz.f176.name, by decide, Tryz.func176.trans (congrArg some (by kernel_rfl))⟩
  f19 := Tryz.func177.trans (congrArg some (by kernel_rfl))
  f20 := Tryz.func178.trans (congrArg some (by kernel_rfl))
  f30 := ⟨Tryz.f196.name, by decide, Tryz.func196.trans (congrArg some (by kernel_rfl))⟩
  f31 := Tryz.func197.trans (congrArg some (by kernel_rfl))
  f32 := Tryz.func198.trans (congrArg some (by kernel_rfl))
  f33 := ⟨Tryz.f199.name, by decide, Tryz.func199.trans (congrArg some (by kernel_rfl))⟩
  f34 := ⟨Tryz.f200.name, by decide, Tryz.func200.trans (congrArg some (by kernel_rfl))⟩
  f35 := ⟨Tryz.f201.name, by decide, Tryz.func201.trans (congrArg some (by kernel_rfl))⟩
  f40 := ⟨Tryz.f215.name, by decide, Tryz.func215.trans (congrArg some (by kernel_rfl))⟩
  t0 := Tryz.underlying0
  a0 := Tryz.isAgg0
  z0 := Tryz.sizeOf0
  v0 := Tryz.zeroValue0
  t3 := Tryz.underlying3
  a3 := Tryz.isAgg3
  z3 := Tryz.sizeOf3
  v3 := Tryz.zeroValue3
  t4 := Tryz.underlying4
  a4 := Tryz.isAgg4
  z4 := Tryz.sizeOf4
  v4 := Tryz.zeroValue4
  t5 := Tryz.underlying5
  a5 := Tryz.isAgg5
  z5 := Tryz.sizeOf5
  v5 := Tryz.zeroValue5
  t9 := Tryz.underlying9
  a9 := Tryz.isAgg9
  z9 := Tryz.sizeOf9
  v9 := Tryz.zeroValue9
  t22 := Tryz.underlying43
  a22 := Tryz.isAgg43
  z22 := Tryz.sizeOf43
  v22 := Tryz.zeroValue43
  t23 := Tryz.underlying43
  a23 := Tryz.isAgg43
  z23 := Tryz.sizeOf43
  v23 := Tryz.zeroValue43
  t25 := Tryz.underlying3
  a25 := Tryz.isAgg3
  z25 := Tryz.sizeOf3
  v25 := Tryz.zeroValue3
  t32 := Tryz.underlying231
  a32 := Tryz.isAgg231
  z32 := Tryz.sizeOf231
  v32 := Tryz.zeroValue231
  t35 := Tryz.underlying286
  a35 := Tryz.isAgg286
  z35 := Tryz.sizeOf286
  v35 := Tryz.zeroValue286
  t36 := Tryz.underlying287
  a36 := Tryz.isAgg287
  z36 := Tryz.sizeOf287
  v36 := Tryz.zeroValue287
  t41 := Tryz.underlying118
  a41 := Tryz.isAgg118
  z41 := Tryz.sizeOf118
  v41 := Tryz.zeroValue118
  t44 := Tryz.underlying269
  a44 := Tryz.isAgg269
  z44 := Tryz.sizeOf269
  v44 := Tryz.zeroValue269
  t46 := Tryz.underlying44
  a46 := Tryz.isAgg44
  z46 := Tryz.sizeOf44
  v46 := Tryz.zeroValue44
  t53 := Tryz.underlying301
  a53 := Tryz.isAgg301
  z53 := Tryz.sizeOf301
  v53 := Tryz.zeroValue301
  t57 := Tryz.underlying279
  a57 := Tryz.isAgg279
  z57 := Tryz.sizeOf279
  v57 := Tryz.zeroValue279
  t63 := Tryz.underlying315
  a63 := Tryz.isAgg315
  z63 := Tryz.sizeOf315
  v63 := Tryz.zeroValue315
  t64 := Tryz.underlying316
  a64 := Tryz.isAgg316
  z64 := Tryz.sizeOf316
  v64 := Tryz.zeroValue316 }
def keysS_ren : Go.Shelf.Ren := ⟨fun | 7 => 157 | 10 => 187 | n => n, fun | 23 => 235 | 26 => 9 | 3 => 154 | 28 => 245 | 0 => 0 | 27 => 244 | 33 => 277 | 4 => 4 | n => n, fun | n => n⟩
theorem keysS : Go.Proofs.SlLaysZ.n7 Tryz.prog keysS_ren := {
  mixed := by kernel_rfl
  f7 := ⟨Tryz.f157.name, by decide, Tryz.func157.trans (congrArg some (by kernel_rfl))⟩
  f10 := ⟨Tryz.f187.name, by decide, Tryz.func187.trans (congrArg some (by kernel_rfl))⟩
  t0 := Tryz.underlying0
  a0 := Tryz.isAgg0
  z0 := Tryz.sizeOf0
  v0 := Tryz.zeroValue0
  t4 := Tryz.underlying4
  a4 := Tryz.isAgg4
  z4 := Tryz.sizeOf4
  v4 := Tryz.zeroValue4
  t23 := Tryz.underlying235
  a23 := Tryz.isAgg235
  z23 := Tryz.sizeOf235
  v23 := Tryz.zeroValue235
  t26 := Tryz.underlying9
  a26 := Tryz.isAgg9
  z26 := Tryz.sizeOf9
  v26 := Tryz.zeroValue9
  t27 := Tryz.underlying244
  a27 := Tryz.isAgg244
  z27 := Tryz.sizeOf244
  v27 := Tryz.zeroValue244
  t28 := Tryz.underlying245
  a28 := Tryz.isAgg245
  z28 := Tryz.sizeOf245
  v28 := Tryz.zeroValue245
  t33 := Tryz.underlying277
  a33 := Tryz.isAgg277
  z33 := Tryz.sizeOf277
  v33 := Tryz.zeroValue277 }
def sortedS_ren : Go.Shelf.Ren := ⟨fun | 6 => 133 | 8 => 159 | 9 => 160 | 11 => 189 | 13 => 149 | 12 => 190 | 23 => 177 | 24 => 178 | 14 => 205 | 15 => 206 | 16 => 207 | 17 => 208 | 18 => 209 | 19 => 210 | 20 => 211 | 21 => 212 | 22 => 213 | 25 => 217 | 26 => 197 | 27 => 198 | 28 => 218 | 29 => 219 | 30 => 188 | 31 => 221 | n => n, fun | 26 => 9 | 28 => 245 | 24 => 82 | 0 => 0 | 3 => 3 | 37 => 231 | 48 => 269 | 50 => 44 | 4 => 4 | 40 => 287 | 39 => 286 | 45 => 118 | 5 => 5 | 9 => 9 | 51 => 301 | 55 => 279 | 57 => 315 | 58 => 316 | 33 => 277 | n => n, fun | n => n⟩
theorem sortedS : Go.Proofs.SlLaysZ.n6 Tryz.prog sortedS_ren := {
  mixed := by kernel_rfl
  f6 := ⟨Tryz.f133.name, by decide, Tryz.func133.trans (congrArg some (by kernel_rfl))⟩
  f8 := ⟨Tryz.f159.name, by decide, Tryz.func159.trans (congrArg some (by kernel_rfl))⟩
  f11 := ⟨Tryz.f189.name, by decide, Tryz.func189.trans (congrArg some (by kernel_rfl))⟩
  t0 := Tryz.underlying0
  a0 := Tryz.isAgg0
  z0 := Tryz.sizeOf0
  v0 := Tryz.zeroValue0
  t24 := Tryz.underlying82
  a24 := Tryz.isAgg82
  z24 := Tryz.sizeOf82
  v24 := Tryz.zeroValue82
  t26 := Tryz.underlying9
  a26 := Tryz.isAgg9
  z26 := Tryz.sizeOf9
  v26 := Tryz.zeroValue9
  t28 := Tryz.underlying245
  a28 := Tryz.isAgg245
  z28 := Tryz.sizeOf245
  v28 := Tryz.zeroValue245
  i26 := by kernel_rfl }
def sortS_ren : Go.Shelf.Ren := ⟨fun | 6 => 160 | 8 => 149 | 9 => 190 | 19 => 177 | 20 => 178 | 21 => 205 | 22 => 206 | 23 => 207 | 24 => 208 | 25 => 209 | 26 => 210 | 27 => 211 | 28 => 212 | 29 => 213 | 36 => 217 | 31 => 197 | 32 => 198 | 37 => 218 | 38 => 219 | 39 => 188 | 41 => 221 | n => n, fun | 27 => 82 | 29 => 9 | 3 => 3 | 32 => 231 | 26 => 82 | 0 => 0 | 44 => 269 | 46 => 44 | 4 => 4 | 36 => 287 | 35 => 286 | 41 => 118 | 5 => 5 | 9 => 9 | 53 => 301 | 57 => 279 | 63 => 315 | 64 => 316 | n => n, fun | n => n⟩
theorem sortS : Go.Proofs.SlLaysM.n6 Tryz.prog sortS_ren := {
  mixed := by kernel_rfl
  f6 := ⟨Tryz.f160.name, by decide, Tryz.func160.trans (congrArg some (by kernel_rfl))⟩
  f8 := Tryz.func149.trans (congrArg some (by kernel_rfl))
  f9 := ⟨Tryz.f190.name, by decide, Tryz.func190.trans (congrArg some (by kernel_rfl))⟩
  f19 := Tryz.func177.trans (congrArg some (by kernel_rfl))
  f20 := Tryz.func178.trans (congrArg some (by kernel_rfl))
  f21 := ⟨Tryz.f205.name, by decide, Tryz.func205.trans (congrArg some (by kernel_rfl))⟩
  f22 := ⟨Tryz.f206.name, by decide, Tryz.func206.trans (congrArg some (by kernel_rfl))⟩
  f23 := ⟨Tryz.f207.name, by decide, Tryz.func207.trans (congrArg some (by kernel_rfl))⟩
  f24 := ⟨Tryz.f208.name, by decide, Tryz.func208.trans (congrArg some (by kernel_rfl))⟩
  f25 := ⟨Tryz.f209.name, by decide, Tryz.func209.trans (congrArg some (by kernel_rfl))⟩
  f26 := ⟨Tryz.f210.name, by decide, Tryz.func210.trans (congrArg some (by kernel_rfl))⟩
  f27 := ⟨Tryz.f211.name, by decide, Tryz.func211.trans (congrArg some (by kernel_rfl))⟩
  f28 := ⟨Tryz.f212.name, by decide, Tryz.func212.trans (congrArg some (by kernel_rfl))⟩
  f29 := ⟨Tryz.f213.name, by decide, Tryz.func213.trans (congrArg some (by kernel_rfl))⟩
  f31 := Tryz.func197.trans (congrArg some (by kernel_rfl))
  f32 := Tryz.func198.trans (congrArg some (by kernel_rfl))
  f36 := ⟨Tryz.f217.name, by decide, Tryz.func217.trans (congrArg some (by kernel_rfl))⟩
  f37 := ⟨Tryz.f218.name, by decide, Tryz.func218.trans (congrArg some (by kernel_rfl))⟩
  f38 := ⟨Tryz.f219.name, by decide, Tryz.func219.trans (congrArg some (by kernel_rfl))⟩
  f39 := ⟨Tryz.f188.name, by decide, Tryz.func188.trans (congrArg some (by kernel_rfl))⟩
  f41 := ⟨Tryz.f221.name, by decide, Tryz.func221.trans (congrArg some (by kernel_rfl))⟩
  t0 := Tryz.underlying0
  a0 := Tryz.isAgg0
  z0 := Tryz.sizeOf0
  v0 := Tryz.zeroValue0
  t3 := Tryz.underlying3
  a3 := Tryz.isAgg3
  z3 := Tryz.sizeOf3
  v3 := Tryz.zeroValue3
  t4 := Tryz.underlying4
  a4 := Tryz.isAgg4
  z4 := Tryz.sizeOf4
  v4 := Tryz.zeroValue4
  t5 := Tryz.underlying5
  a5 := Tryz.isAgg5
  z5 := Tryz.sizeOf5
  v5 := Tryz.zeroValue5
  t9 := Tryz.underlying9
  a9 := Tryz.isAgg9
  z9 := Tryz.sizeOf9
  v9 := Tryz.zeroValue9
  t26 := Tryz.underlying82
  a26 := Tryz.isAgg82
  z26 := Tryz.sizeOf82
  v26 := Tryz.zeroValue82
  t27 := Tryz.underlying82
  a27 := Tryz.isAgg82
  z27 := Tryz.sizeOf82
  v27 := Tryz.zeroValue82
  t29 := Tryz.underlying9
  a29 := Tryz.isAgg9
  z29 := Tryz.sizeOf9
  v29 := Tryz.zeroValue9
  t32 := Tryz.underlying231
  a32 := Tryz.isAgg231
  z32 := Tryz.sizeOf231
  v32 := Tryz.zeroValue231
  t35 := Tryz.underlying286
  a35 := Tryz.isAgg286
  z35 := Tryz.sizeOf286
  v35 := Tryz.zeroValue286
  t36 := Tryz.underlying287
  a36 := Tryz.isAgg287
  z36 := Tryz.sizeOf287
  v36 := Tryz.zeroValue287
  t41 := Tryz.underlying118
  a41 := Tryz.isAgg118
  z41 := Tryz.sizeOf118
  v41 := Tryz.zeroValue118
  t44 := Tryz.underlying269
  a44 := Tryz.isAgg269
  z44 := Tryz.sizeOf269
  v44 := Tryz.zeroValue269
  t46 := Tryz.underlying44
  a46 := Tryz.isAgg44
  z46 := Tryz.sizeOf44
  v46 := Tryz.zeroValue44
  t53 := Tryz.underlying301
  a53 := Tryz.isAgg301
  z53 := Tryz.sizeOf301
  v53 := Tryz.zeroValue301
  t57 := Tryz.underlying279
  a57 := Tryz.isAgg279
  z57 := Tryz.sizeOf279
  v57 := Tryz.zeroValue279
  t63 := Tryz.underlying315
  a63 := Tryz.isAgg315
  z63 := Tryz.sizeOf315
  v63 := Tryz.zeroValue315
  t64 := Tryz.underlying316
  a64 := Tryz.isAgg316
  z64 := Tryz.sizeOf316
  v64 := Tryz.zeroValue316 }

theorem sortsA (m : Nat) : AnyZI.SortsIn Tryz.prog sortedA_ren Fence.wide m :=
  ⟨fun blk off cap ss W hH hblk hsz => callsIn_wide.2 (AnyM.slices_Sort_int sortA blk off cap ss W hH hblk hsz),
   fun p cap W => callsIn_wide.2 (AnyM.slices_Sort_int_none sortA p cap W)⟩
/-- slices.Sorted of what maps.Keys hands back, ints. -/
theorem sorted_keys (Bm b nn : Nat) (D : DataW Unit) (w : World) (hBm : Bm < w.heap.size) (hm : w.cell? ⟨Bm, 0, none⟩ = some (.map (some b))) (hown : w.ownsMap Tryz.prog 3 (fun _ => some (.nil, [])) b nn D) (hmax : Maps.size D ≤ 1000000) :
    Calls Tryz.prog 65 #[.func (.func 109) #[] #[.pointer (some ⟨Bm, 0, none⟩)]] w fun ed w' => ∃ (v : Value) (ss : List Int), ed = .returned v ∧ ss.Perm (intKeys D) ∧
      w'.ownsRow w.heap.size 3 1 v ss.length ((ss.mergeSort (fun x y => decide (x ≤ y))).map encZ) ∧ (v = .slice none 0 0 ↔ ss = []) ∧ Below w.heap.size w w' := by
  have hseq : SeqGives Fence.wide 2 Tryz.prog 109 #[.pointer (some ⟨Bm, 0, none⟩)] encZ (fun ss => ss.Perm (intKeys D)) (Maps.size D) w :=
    AnyZI.keys_gives (ρ := keysA_ren) { keysA with } Fence.wide _ trivial rfl (by omega) Bm b nn D _ hBm hm hown
  have cS := AnyZI.sorted_in (n := 5) sortedA Fence.wide trivial trivial trivial trivial rfl (by omega) (sortsA _) (enters_of Tryz.func108 (by kernel_rfl) rfl) 109 #[.pointer (some ⟨Bm, 0, none⟩)] trivial (enters_of Tryz.func109 (by kernel_rfl) rfl) _ (Maps.size D) (by unfold maxLen; omega) (by omega) w hseq
  change CallsIn _ _ Tryz.prog 65 _ _ _ at cS
  exact callsIn_wide.1 cS

theorem sortsS (m : Nat) : AnyZ.SortsIn Tryz.prog sortedS_ren Fence.wide m :=
  ⟨fun blk off cap ss W hH hblk hsz => callsIn_wide.2 (AnyM.slices_Sort_string sortS blk off cap ss W hH hblk hsz),
   fun p cap W => callsIn_wide.2 (AnyM.slices_Sort_string_none sortS p cap W)⟩
/-- slices.Sorted of what maps.Keys hands back, strings. -/
theorem sorted_keysS (Bm b nn : Nat) (D : DataW Unit) (w : World) (hBm : Bm < w.heap.size) (hm : w.cell? ⟨Bm, 0, none⟩ = some (.map (some b))) (hown : w.ownsMap Tryz.prog 9 (fun _ => some (.nil, [])) b nn D) (hmax : Maps.size D ≤ 1000000) :
    Calls Tryz.prog 133 #[.func (.func 187) #[] #[.pointer (some ⟨Bm, 0, none⟩)]] w fun ed w' => ∃ (v : Value) (ss : List (List UInt8)), ed = .returned v ∧ ss.Perm (strKeys D) ∧
      w'.ownsRow w.heap.size 9 1 v ss.length ((ss.mergeSort (fun x y => decide (x ≤ y))).map encStr) ∧ (v = .slice none 0 0 ↔ ss = []) ∧ Below w.heap.size w w' := by
  have hseq : SeqGives Fence.wide 2 Tryz.prog 187 #[.pointer (some ⟨Bm, 0, none⟩)] encStr (fun ss => ss.Perm (strKeys D)) (Maps.size D) w :=
    AnyZ.keys_gives (ρ := keysS_ren) { keysS with } Fence.wide _ trivial rfl (by omega) Bm b nn D _ hBm hm hown
  have cS := AnyZ.sorted_in (n := 5) sortedS Fence.wide trivial trivial trivial trivial rfl (by omega) (sortsS _) (enters_of Tryz.func160 (by kernel_rfl) rfl) 187 #[.pointer (some ⟨Bm, 0, none⟩)] trivial (enters_of Tryz.func187 (by kernel_rfl) rfl) _ (Maps.size D) (by unfold maxLen; omega) (by omega) w hseq
  change CallsIn _ _ Tryz.prog 133 _ _ _ at cS
  exact callsIn_wide.1 cS

set_option maxHeartbeats 1000000 in
set_option maxRecDepth 100000 in
/-- The deferred function asks for a panic, and finds none. -/
theorem recover_idle (x y : Value) (w : World) : CallsDIn Fence.wide 0 Tryz.prog 87 #[x, y] .returning w fun e u' w' => e = .returned (.tuple #[]) ∧ u' = .returning ∧ w' = w := by
  have he : ∀ w : World, (binOp .eql 20 .nilIface .nilIface).run Tryz.prog w = .ok (.bool true) w := fun _ => by kernel_rfl
  refine callsDIn_of_wpSIn Tryz.func87 rfl trivial fun c₀ cs hu => ?_
  apply wpSIn_seq
  apply wpSIn_region
  simp [wpOpsSIn, go_sem, recoverD, hu, Tryz.ntmps87, Exit.thenS]
  refine wpSIn_of_wpIn rfl ?_
  gi_wp2
  cases c₀
  simp_all [bodyPostS, results, Tryz.results87]
noncomputable def dfd : AX.T (List AX.AV → AX.Hp → Nat → Option (AX.AV × AX.Hp × Nat)) := AX.T.set .leaf 87 (AX.idleA 2)
theorem dfdOk {x : AX.T Nat} {y : AX.T (List AX.AV → AX.Hp → Nat → Option (AX.AV × AX.Hp × Nat))} {gl : AX.T AX.Cells} {b : Bool} : AX.DfdOk ⟨Tryz.prog, gl, x, y, dfd, b⟩ :=
  AX.idle_ok ⟨_, _, Tryz.func87, rfl⟩ fun args w h => by
    obtain ⟨l⟩ := args
    match l, h with
    | [x, y], _ => exact recover_idle x y w

def nums : List Int := [0, 1, 56, 2, 57, 49, 28, 3, 61, 58, 42, 50, 38, 29, 17, 4, 62, 47, 59, 36, 45, 43, 51, 22, 53, 39, 33, 30, 24, 18, 12, 5, 63, 55, 48, 27, 60, 41, 37, 16, 46, 35, 44, 21, 52, 32, 23, 11, 54, 26, 40, 15, 34, 20, 31, 10, 25, 14, 19, 9, 13, 8, 7, 6]
noncomputable def glob : AX.T AX.Cells := AX.T.set .leaf 0 (AX.ofL (nums.map fun n => AX.AV.int .u8 n))
noncomputable def tab0 : AX.T (List AX.AV → AX.Hp → Nat → Option (AX.AV × AX.Hp × Nat)) := ((((AX.T.leaf.set 65 (AX.sortedA 109)).set 133 (AX.sortedSA 187)).set 93 AX.minA).set 46 AX.maxA)
set_option maxRecDepth 100000 in
theorem pOk : AX.POk Tryz.prog := AX.POk.of (by kernel_rfl) (by kernel_rfl)
theorem dfdAll : ∀ s, AX.DfdOk (AX.ctxOf Tryz.prog glob dfd s) := fun _ => dfdOk
theorem tab0_ok : AX.TabOk Tryz.prog glob dfd tab0 := fun _ => (AX.orc_set (AX.maxA_good ⟨_, _, Tryz.func46, rfl⟩ slices_Max_int) (AX.orc_set (AX.minA_good ⟨_, _, Tryz.func93, rfl⟩ slices_Min_int) (AX.orc_set (AX.sortedSA_good (k := 9) (e := 9) Tryz.underlying9 ⟨_, _, Tryz.func133, rfl⟩ sorted_keysS) (AX.orc_set (AX.sortedA_good (k := 3) (e := 3) Tryz.underlying3 ⟨_, _, Tryz.func65, rfl⟩ sorted_keys) AX.orc_leaf))))
set_option maxRecDepth 100000 in
theorem numsAt {W : World} (h : laidMetH Tryz.prog [("math/bits.deBruijn64tab", Rows.laid_math_bits_deBruijn64tab)] W) : AX.numsAt W 0 .u8 nums := by
  rw [MakeChecks.laidMetH_plain _ _ _ (by kernel_rfl)] at h
  obtain ⟨ps, h, _⟩ := h
  exact AX.numsAt_of_laid (n := 64) (e := 5) (t := 268) (by kernel_rfl) (by kernel_rfl) Tryz.underlying268 Tryz.underlying5 (by kernel_rfl) (by kernel_rfl) h
end Go.Proofs.YtihnoigdplkfbaaGreatDoor
