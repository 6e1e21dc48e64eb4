/- What is known ahead of the run: slices.Min, slices.Max, slices.Sorted of maps.Keys; a deferred function that finds no panic. -/
import Derived.Test.YtihnoigdplkfbabGreatDoorProg
import Derived.Test.YtihnoigdplkfbabGreatDoorRows
import Derived.ProofKit
import Derived.OpenShut
import Derived.LaidMore
import Derived.Test.YtihnoigdplkfbabGreatDoorMm
import Derived.Test.YtihnoigdplkfbabGreatDoorOx6
import Derived.Test.YtihnoigdplkfbabGreatDoorOx2
import Derived.Test.YtihnoigdplkfbabGreatDoorOx3
import Derived.Shelf.SlIterI.Nil
import Derived.Shelf.SlIter.Nil
import Derived.Shelf.SortM.Plain
import Derived.Shelf.SortM.SortNone
import Derived.Ground.GgzProg
import Derived.Ground.SlgmProg
import Derived.RecoverIn
import Derived.TacticsInMore
import Derived.Tactics2
import Derived.LoopNIn
import Derived.RegionIn
import Derived.Laws.Pointers
import Derived.KernelRfl
import Derived.Shelf.Strings.OnBuilder
import Derived.Shelf.Strings.Search1
import Derived.Shelf.Small.Strs
import Derived.Test.YtihnoigdplkfbabGreatDoorOx7
namespace Go.Proofs.YtihnoigdplkfbabGreatDoor
open Go.Proofs Go.RowKit Go.Maps Go.Sort Go.Shelf
def keysA_ren : Go.Shelf.Ren := ⟨fun | 7 => 70 | 10 => 122 | n => n, fun | 23 => 153 | 26 => 3 | 3 => 163 | 28 => 135 | 0 => 0 | 27 => 134 | 33 => 184 | 4 => 4 | n => n, fun | n => n⟩
theorem keysA : Go.Proofs.SlLaysZI.n7 Tryz.prog keysA_ren := {
  mixed := by kernel_rfl
  f7 := ⟨Tryz.f70.name, by decide, Tryz.func70.trans (congrArg some (by kernel_rfl))⟩
  f10 := ⟨Tryz.f122.name, by decide, Tryz.func122.trans (congrArg some (by kernel_rfl))⟩
  t0 := Tryz.underlying0
  a0 := Tryz.isAgg0
  z0 := Tryz.sizeOf0
  v0 := Tryz.zeroValue0
  t4 := Tryz.underlying4
  a4 := Tryz.isAgg4
  z4 := Tryz.sizeOf4
  v4 := Tryz.zeroValue4
  t23 := Tryz.underlying153
  a23 := Tryz.isAgg153
  z23 := Tryz.sizeOf153
  v23 := Tryz.zeroValue153
  t26 := Tryz.underlying3
  a26 := Tryz.isAgg3
  z26 := Tryz.sizeOf3
  v26 := Tryz.zeroValue3
  t27 := Tryz.underlying134
  a27 := Tryz.isAgg134
  z27 := Tryz.sizeOf134
  v27 := Tryz.zeroValue134
  t28 := Tryz.underlying135
  a28 := Tryz.isAgg135
  z28 := Tryz.sizeOf135
  v28 := Tryz.zeroValue135
  t33 := Tryz.underlying184
  a33 := Tryz.isAgg184
  z33 := Tryz.sizeOf184
  v33 := Tryz.zeroValue184 }
def sortedA_ren : Go.Shelf.Ren := ⟨fun | 6 => 69 | 8 => 120 | 9 => 121 | 11 => 166 | 13 => 168 | 12 => 167 | 23 => 198 | 24 => 199 | 14 => 189 | 15 => 190 | 16 => 191 | 17 => 192 | 18 => 193 | 19 => 194 | 20 => 195 | 21 => 196 | 22 => 197 | 25 => 217 | 26 => 218 | 27 => 219 | 28 => 220 | 29 => 221 | 30 => 222 | 31 => 236 | n => n, fun | 26 => 3 | 28 => 135 | 24 => 32 | 0 => 0 | 3 => 3 | 37 => 249 | 48 => 288 | 50 => 48 | 4 => 4 | 40 => 310 | 39 => 309 | 45 => 118 | 5 => 5 | 9 => 9 | 51 => 324 | 55 => 302 | 57 => 338 | 58 => 339 | 33 => 184 | n => n, fun | n => n⟩
theorem sortedA : Go.Proofs.SlLaysZI.n6 Tryz.prog sortedA_ren := {
  mixed := by kernel_rfl
  f6 := ⟨Tryz.f69.name, by decide, Tryz.func69.trans (congrArg some (by kernel_rfl))⟩
  f8 := ⟨Tryz.f120.name, by decide, Tryz.func120.trans (congrArg some (by kernel_rfl))⟩
  f11 := ⟨Tryz.f166.name, by decide, Tryz.func166.trans (congrArg some (by kernel_rfl))⟩
  t0 := Tryz.underlying0
  a0 := Tryz.isAgg0
  z0 := Tryz.sizeOf0
  v0 := Tryz.zeroValue0
  t24 := Tryz.underlying32
  a24 := Tryz.isAgg32
  z24 := Tryz.sizeOf32
  v24 := Tryz.zeroValue32
  t26 := Tryz.underlying3
  a26 := Tryz.isAgg3
  z26 := Tryz.sizeOf3
  v26 := Tryz.zeroValue3
  t28 := Tryz.underlying135
  a28 := Tryz.isAgg135
  z28 := Tryz.sizeOf135
  v28 := Tryz.zeroValue135
  i26 := by kernel_rfl }
def sortA_ren : Go.Shelf.Ren := ⟨fun | 5 => 121 | 8 => 168 | 7 => 167 | 19 => 198 | 20 => 199 | 10 => 189 | 11 => 190 | 12 => 191 | 13 => 192 | 14 => 193 | 15 => 194 | 16 => 195 | 17 => 196 | 18 => 197 | 30 => 217 | 31 => 218 | 32 => 219 | 33 => 220 | 34 => 221 | 35 => 222 | 40 => 236 | n => n, fun | 23 => 32 | 25 => 3 | 3 => 3 | 32 => 249 | 22 => 32 | 0 => 0 | 44 => 288 | 46 => 48 | 4 => 4 | 36 => 310 | 35 => 309 | 41 => 118 | 5 => 5 | 9 => 9 | 53 => 324 | 57 => 302 | 63 => 338 | 64 => 339 | n => n, fun | n => n⟩
theorem sortA : Go.Proofs.SlLaysM.n5 Tryz.prog sortA_ren := {
  mixed := by kernel_rfl
  f5 := ⟨Tryz.f121.name, by decide, Tryz.func121.trans (congrArg some (by kernel_rfl))⟩
  f7 := ⟨Tryz.f167.name, by decide, Tryz.func167.trans (congrArg some (by kernel_rfl))⟩
  f8 := Tryz.func168.trans (congrArg some (by kernel_rfl))
  f10 := ⟨Tryz.f189.name, by decide, Tryz.func189.trans (congrArg some (by kernel_rfl))⟩
  f11 := ⟨Tryz.f190.name, by decide, Tryz.func190.trans (congrArg some (by kernel_rfl))⟩
  f12 := ⟨Tryz.f191.name, by decide, Tryz.func191.trans (congrArg some (by kernel_rfl))⟩
  f13 := ⟨Tryz.f192.name, by decide, Tryz.func192.trans (congrArg some (by kernel_rfl))⟩
  f14 := ⟨Tryz.f193.name, by decide, Tryz.func193.trans (congrArg some (by kernel_rfl))⟩
  f15 := ⟨Tryz.f194.name, by decide, Tryz.func194.trans (congrArg some (by kernel_rfl))⟩
  f16 := ⟨Tryz.f195.name, by decide, Tryz.func195.trans (congrArg some (by kernel_rfl))⟩
  f17 := ⟨Tryz.f196.name, by decide, Tryz.func196.trans (congrArg some (by kernel_rfl))⟩
  f18 := ⟨Tryz.f197.name, by decide, Tryz.func197.trans (congrArg some (by kernel_rfl))⟩
  f19 := Tryz.func198.trans (congrArg some (by kernel_rfl))
  f20 := Tryz.func199.trans (congrArg some (by kernel_rfl))
  f30 := ⟨Tryz.f217.name, by decide, Tryz.func217.trans (congrArg some (by kernel_rfl))⟩
  f31 := Tryz.func218.trans (congrArg some (by kernel_rfl))
  f32 := Tryz.func219.trans (congrArg some (by kernel_rfl))
  f33 := ⟨Tryz.f220.name, by decide, Tryz.func220.trans (congrArg some (by kernel_rfl))⟩
  f34 := ⟨Tryz.f221.name, by decide, Tryz.func221.trans (congrArg some (by kernel_rfl))⟩
  f35 := ⟨Tryz.f222.name, by decide, Tryz.func222.trans (congrArg some (by kernel_rfl))⟩
  f40 := ⟨Tryz.f236.name, by decide, Tryz.func236.trans (congrArg some (by kernel_rfl))⟩
  t0 := Tryz.underlying0
  a0 := Tryz.isAgg0
  z0 := Tryz.sizeOf0
  v0 := Tryz.zeroValue0
  t3 := Tryz.underlying3
  a3 := Tryz.isAgg3
  z3 := Tryz.sizeOf3
  v3 := Tryz.zeroValue3
  t4 := Tryz.underlying4
  a4 := Tryz.isAgg4
  z4 := Tryz.sizeOf4
  v4 := Tryz.zeroValue4
  t5 := Tryz.underlying5
  a5 := Tryz.isAgg5
  z5 := Tryz.sizeOf5
  v5 := Tryz.zeroValue5
  t9 := Tryz.underlying9
  a9 := Tryz.isAgg9
  z9 := Tryz.sizeOf9
  v9 := Tryz.zeroValue9
  t22 := Tryz.underlying32
  a22 := Tryz.isAgg32
  z22 := Tryz.sizeOf32
  v22 := Tryz.zeroValue32
  t23 := Tryz.underlying32
  a23 := Tryz.isAgg32
  z23 := Tryz.sizeOf32
  v23 := Tryz.zeroValue32
  t25 := Tryz.underlying3
  a25 := Tryz.isAgg3
  z25 := Tryz.sizeOf3
  v25 := Tryz.zeroValue3
  t32 := Tryz.underlying249
  a32 := Tryz.isAgg249
  z32 := Tryz.sizeOf249
  v32 := Tryz.zeroValue249
  t35 := Tryz.underlying309
  a35 := Tryz.isAgg309
  z35 := Tryz.sizeOf309
  v35 := Tryz.zeroValue309
  t36 := Tryz.underlying310
  a36 := Tryz.isAgg310
  z36 := Tryz.sizeOf310
  v36 := Tryz.zeroValue310
  t41 := Tryz.underlying118
  a41 := Tryz.isAgg118
  z41 := Tryz.sizeOf118
  v41 := Tryz.zeroValue118
  t44 := Tryz.underlying288
  a44 := Tryz.isAgg288
  z44 := Tryz.sizeOf288
  v44 := Tryz.zeroValue288
  t46 := Tryz.underlying48
  a46 := Tryz.isAgg48
  z46 := Tryz.sizeOf48
  v46 := Tryz.zeroValue48
  t53 := Tryz.underlying324
  a53 := Tryz.isAgg324
  z53 := Tryz.sizeOf324
  v53 := Tryz.zeroValue324
  t57 := Tryz.underlying302
  a57 := Tryz.isAgg302
  z57 := Tryz.sizeOf302
  v57 := Tryz.zeroValue302
  t63 := Tryz.underlying338
  a63 := Tryz.isAgg338
  z63 := Tryz.sizeOf338
  v63 := Tryz.zeroValue338
  t64 := Tryz.underlying339
  a64 := Tryz.isAgg339
  z64 := Tryz.sizeOf339
  v64 := Tryz.zeroValue339 }
def keysS_ren : Go.Shelf.Ren := ⟨fun | 7 => 176 | 10 => 208 | n => n, fun | 23 => 253 | 26 => 9 | 3 => 163 | 28 => 263 | 0 => 0 | 27 => 262 | 33 => 296 | 4 => 4 | n => n, fun | n => n⟩
theorem keysS : Go.Proofs.SlLaysZ.n7 Tryz.prog keysS_ren := {
  mixed := by kernel_rfl
  f7 := ⟨Tryz.f176.name, by decide, Tryz.func176.trans (congrArg some (by kernel_rfl))⟩
  f10 := ⟨Tryz.f208.name, by decide, Tryz.func208.trans (congrArg some (by kernel_rfl))⟩
  t0 := Tryz.underlying0
  a0 := Tryz.isAgg0
  z0 := Tryz.sizeOf0
  v0 := Tryz.zeroValue0
  t4 := Tryz.underlying4
  a4 := Tryz.isAgg4
  z4 := Tryz.sizeOf4
  v4 := Tryz.zeroValue4
  t23 := Tryz.underlying253
  a23 := Tryz.isAgg253
  z23 := Tryz.sizeOf253
  v23 := Tryz.zeroValue253
  t26 := Tryz.underlying9
  a26 := Tryz.isAgg9
  z26 := Tryz.sizeOf9
  v26 := Tryz.zeroValue9
  t27 := Tryz.underlying262
  a27 := Tryz.isAgg262
  z27 := Tryz.sizeOf262
  v27 := Tryz.zeroValue262
  t28 := Tryz.underlying263
  a28 := Tryz.isAgg263
  z28 := Tryz.sizeOf263
  v28 := Tryz.zeroValue263
  t33 := Tryz.underlying296
  a33 := Tryz.isAgg296
  z33 := Tryz.sizeOf296
  v33 := Tryz.zeroValue296 }
def sortedS_ren : Go.Shelf.Ren := ⟨fun | 6 => 149 | 8 => 178 | 9 => 179 | 11 => 210 | 13 => 168 | 12 => 211 | 23 => 198 | 24 => 199 | 14 => 226 | 15 => 227 | 16 => 228 | 17 => 229 | 18 => 230 | 19 => 231 | 20 => 232 | 21 => 233 | 22 => 234 | 25 => 238 | 26 => 218 | 27 => 219 | 28 => 239 | 29 => 240 | 30 => 209 | 31 => 242 | n => n, fun | 26 => 9 | 28 => 263 | 24 => 128 | 0 => 0 | 3 => 3 | 37 => 249 | 48 => 288 | 50 => 48 | 4 => 4 | 40 => 310 | 39 => 309 | 45 => 118 | 5 => 5 | 9 => 9 | 51 => 324 | 55 => 302 | 57 => 338 | 58 => 339 | 33 => 296 | n => n, fun | n => n⟩
theorem sortedS : Go.Proofs.SlLaysZ.n6 Tryz.prog sortedS_ren := {
  mixed := by kernel_rfl
  f6 := ⟨Tryz.f149.name, by decide, Tryz.func149.trans (congrArg some (by kernel_rfl))⟩
  f8 := ⟨Tryz.f178.name, by decide, Tryz.func178.trans (congrArg some (by kernel_rfl))⟩
  f11 := ⟨Tryz.f210.name, by decide, Tryz.func210.trans (congrArg some (by kernel_rfl))⟩
  t0 := Tryz.underlying0
  a0 := Tryz.isAgg0
  z0 := Tryz.sizeOf0
  v0 := Tryz.zeroValue0
  t24 := Tryz.underlying128
  a24 := Tryz.isAgg128
  z24 := Tryz.sizeOf128
  v24 := Tryz.zeroValue128
  t26 := Tryz.underlying9
  a26 := Tryz.isAgg9
  z26 := Tryz.sizeOf9
  v26 := Tryz.zeroValue9
  t28 := Tryz.underlying263
  a28 := Tryz.isAgg263
  z28 := Tryz.sizeOf263
  v28 := Tryz.zeroValue263
  i26 := by kernel_rfl }
def sortS_ren : Go.Shelf.Ren := ⟨fun | 6 => 179 | 8 => 168 | 9 => 211 | 19 => 198 | 20 => 199 | 21 => 226 | 22 => 227 | 23 => 228 | 24 => 229 | 25 => 230 | 26 => 231 | 27 => 232 | 28 => 233 | 29 => 234 | 36 => 238 | 31 => 218 | 32 => 219 | 37 => 239 | 38 => 240 | 39 => 209 | 41 => 242 | n => n, fun | 27 => 128 | 29 => 9 | 3 => 3 | 32 => 249 | 26 => 128 | 0 => 0 | 44 => 288 | 46 => 48 | 4 => 4 | 36 => 310 | 35 => 309 | 41 => 118 | 5 => 5 | 9 => 9 | 53 => 324 | 57 => 302 | 63 => 338 | 64 => 339 | n => n, fun | n => n⟩
theorem sortS : Go.Proofs.SlLaysM.n6 Tryz.prog sortS_ren := {
  mixed := by kernel_rfl
  f6 := ⟨Tryz.f179.name, by decide, Tryz.func179.trans (congrArg some (by kernel_rfl))⟩
  f8 := Tryz.func168.trans (congrArg some (by kernel_rfl))
  f9 := ⟨Tryz.f211.name, by decide, Tryz.func211.trans (congrArg some (by kernel_rfl))⟩
  f19 := Tryz.func198.trans (congrArg some (by kernel_rfl))
  f20 := Tryz.func199.trans (congrArg some (by kernel_rfl))
  f21 := ⟨Tryz.f226.name, by decide, Tryz.func226.trans (congrArg some (by kernel_rfl))⟩
  f22 := ⟨Tryz.f227.name, by decide, Tryz.func227.trans (congrArg some (by kernel_rfl))⟩
  f23 := ⟨Tryz.f228.name, by decide, Tryz.func228.trans (congrArg some (by kernel_rfl))⟩
  f24 := ⟨Tryz.f229.name, by decide, Tryz.func229.trans (congrArg some (by kernel_rfl))⟩
  f25 := ⟨Tryz.f230.name, by decide, Tryz.func230.trans (congrArg some (by kernel_rfl))⟩
  f26 := ⟨Tryz.f231.name, by decide, Tryz.func231.trans (congrArg some (by kernel_rfl))⟩
  f27 := ⟨Tryz.f232.name, by decide, Tryz.func232.trans (congrArg some (by kernel_rfl))⟩
  f28 := ⟨Tryz.f233.name, by decide, Tryz.func233.trans (congrArg some (by kernel_rfl))⟩
  f29 := ⟨Tryz.f234.name, by decide, Tryz.func234.trans (congrArg some (by kernel_rfl))⟩
  f31 := Tryz.func218.trans (congrArg some (by kernel_rfl))
  f32 := Tryz.func219.trans (congrArg some (by kernel_rfl))
  f36 := ⟨Tryz.f238.name, by decide, Tryz.func238.trans (congrArg some (by kernel_rfl))⟩
  f37 := ⟨Tryz.f239.name, by decide, Tryz.func239.trans (congrArg some (by kernel_rfl))⟩
  f38 := ⟨Tryz.f240.name, by decide, Tryz.func240.trans (congrArg some (by kernel_rfl))⟩
  f39 := ⟨Tryz.f209.name, by decide, Tryz.func209.trans (congrArg some (by kernel_rfl))⟩
  f41 := ⟨Tryz.f242.name, by decide, Tryz.func242.trans (congrArg some (by kernel_rfl))⟩
  t0 := Tryz.underlying0
  a0 := Tryz.isAgg0
  z0 := Tryz.sizeOf0
  v0 := Tryz.zeroValue0
  t3 := Tryz.underlying3
  a3 := Tryz.isAgg3
  z3 := Tryz.sizeOf3
  v3 := Tryz.zeroValue3
  t4 := Tryz.underlying4
  a4 := Tryz.isAgg4
  z4 := Tryz.sizeOf4
  v4 := Tryz.zeroValue4
  t5 := Tryz.underlying5
  a5 := Tryz.isAgg5
  z5 := Tryz.sizeOf5
  v5 := Tryz.zeroValue5
  t9 := Tryz.underlying9
  a9 := Tryz.isAgg9
  z9 := Tryz.sizeOf9
  v9 := Tryz.zeroValue9
  t26 := Tryz.underlying128
  a26 := Tryz.isAgg128
  z26 := Tryz.sizeOf128
  v26 := Tryz.zeroValue128
  t27 := Tryz.underlying128
  a27 := Tryz.isAgg128
  z27 := Tryz.sizeOf128
  v27 := Tryz.zeroValue128
  t29 := Tryz.underlying9
  a29 := Tryz.isAgg9
  z29 := Tryz.sizeOf9
  v29 := Tryz.zeroValue9
  t32 := Tryz.underlying249
  a32 := Tryz.isAgg249
  z32 := Tryz.sizeOf249
  v32 := Tryz.zeroValue249
  t35 := Tryz.underlying309
  a35 := Tryz.isAgg309
  z35 := Tryz.sizeOf309
  v35 := Tryz.zeroValue309
  t36 := Tryz.underlying310
  a36 := Tryz.isAgg310
  z36 := Tryz.sizeOf310
  v36 := Tryz.zeroValue310
  t41 := Tryz.underlying118
  a41 := Tryz.isAgg118
  z41 := Tryz.sizeOf118
  v41 := Tryz.zeroValue118
  t44 := Tryz.underlying288
  a44 := Tryz.isAgg288
  z44 := Tryz.sizeOf288
  v44 := Tryz.zeroValue288
  t46 := Tryz.underlying48
  a46 := Tryz.isAgg48
  z46 := Tryz.sizeOf48
  v46 := Tryz.zeroValue48
  t53 := Tryz.underlying324
  a53 := Tryz.isAgg324
  z53 := Tryz.sizeOf324
  v53 := Tryz.zeroValue324
  t57 := Tryz.underlying302
  a57 := Tryz.isAgg302
  z57 := Tryz.sizeOf302
  v57 := Tryz.zeroValue302
  t63 := Tryz.underlying338
  a63 := Tryz.isAgg338
  z63 := Tryz.sizeOf338
  v63 := Tryz.zeroValue338
  t64 := Tryz.underlying339
  a64 := Tryz.isAgg339
  z64 := Tryz.sizeOf339
  v64 := Tryz.zeroValue339 }
def lays137_ren : Go.Shelf.Ren := ⟨fun | 137 => 241 | 217 => 243 | 266 => 244 | n => n, fun | 9 => 9 | 5 => 5 | 3 => 3 | n => n, fun | n => n⟩
theorem lays137 : Go.Proofs.Lays.n137 Tryz.prog lays137_ren := {
  mixed := by kernel_rfl
  f137 := Tryz.func241.trans (congrArg some (by kernel_rfl))
  f217 := Tryz.func243.trans (congrArg some (by kernel_rfl))
  f266 := Tryz.func244.trans (congrArg some (by kernel_rfl))
  t3 := Tryz.underlying3
  a3 := Tryz.isAgg3
  z3 := Tryz.sizeOf3
  v3 := Tryz.zeroValue3
  t5 := Tryz.underlying5
  a5 := Tryz.isAgg5
  z5 := Tryz.sizeOf5
  v5 := Tryz.zeroValue5
  t9 := Tryz.underlying9
  a9 := Tryz.isAgg9
  z9 := Tryz.sizeOf9
  v9 := Tryz.zeroValue9 }
def lays240_ren : Go.Shelf.Ren := ⟨fun | 240 => 60 | 276 => 109 | n => n, fun | 0 => 0 | 4 => 4 | 9 => 9 | 20 => 20 | 70 => 89 | 72 => 92 | 37 => 90 | 164 => 214 | n => n, fun | n => n⟩
theorem lays240 : Go.Proofs.Lays.n240 Tryz.prog lays240_ren := {
  mixed := by kernel_rfl
  f240 := Tryz.func60.trans (congrArg some (by kernel_rfl))
  f276 := Tryz.func109.trans (congrArg some (by kernel_rfl))
  t0 := Tryz.underlying0
  a0 := Tryz.isAgg0
  z0 := Tryz.sizeOf0
  v0 := Tryz.zeroValue0
  t4 := Tryz.underlying4
  a4 := Tryz.isAgg4
  z4 := Tryz.sizeOf4
  v4 := Tryz.zeroValue4
  t9 := Tryz.underlying9
  a9 := Tryz.isAgg9
  z9 := Tryz.sizeOf9
  v9 := Tryz.zeroValue9
  t20 := Tryz.underlying20
  a20 := Tryz.isAgg20
  z20 := Tryz.sizeOf20
  v20 := Tryz.zeroValue20
  t70 := Tryz.underlying89
  a70 := Tryz.isAgg89
  z70 := Tryz.sizeOf89
  v70 := Tryz.zeroValue89
  t72 := Tryz.underlying92
  a72 := Tryz.isAgg92
  z72 := Tryz.sizeOf92
  v72 := Tryz.zeroValue92
  t164 := Tryz.underlying214
  a164 := Tryz.isAgg214
  z164 := Tryz.sizeOf214
  v164 := Tryz.zeroValue214 }

theorem sortsA (m : Nat) : AnyZI.SortsIn Tryz.prog sortedA_ren Fence.wide m :=
  ⟨fun blk off cap ss W hH hblk hsz => callsIn_wide.2 (AnyM.slices_Sort_int sortA blk off cap ss W hH hblk hsz),
   fun p cap W => callsIn_wide.2 (AnyM.slices_Sort_int_none sortA p cap W)⟩
/-- slices.Sorted of what maps.Keys hands back, ints. -/
theorem sorted_keys (Bm b nn : Nat) (D : DataW Unit) (w : World) (hBm : Bm < w.heap.size) (hm : w.cell? ⟨Bm, 0, none⟩ = some (.map (some b))) (hown : w.ownsMap Tryz.prog 3 (fun _ => some (.nil, [])) b nn D) (hmax : Maps.size D ≤ 1000000) :
    Calls Tryz.prog 69 #[.func (.func 122) #[] #[.pointer (some ⟨Bm, 0, none⟩)]] w fun ed w' => ∃ (v : Value) (ss : List Int), ed = .returned v ∧ ss.Perm (intKeys D) ∧
      w'.ownsRow w.heap.size 3 1 v ss.length ((ss.mergeSort (fun x y => decide (x ≤ y))).map encZ) ∧ (v = .slice none 0 0 ↔ ss = []) ∧ Below w.heap.size w w' := by
  have hseq : SeqGives Fence.wide 2 Tryz.prog 122 #[.pointer (some ⟨Bm, 0, none⟩)] encZ (fun ss => ss.Perm (intKeys D)) (Maps.size D) w :=
    AnyZI.keys_gives (ρ := keysA_ren) { keysA with } Fence.wide _ trivial rfl (by omega) Bm b nn D _ hBm hm hown
  have cS := AnyZI.sorted_in (n := 5) sortedA Fence.wide trivial trivial trivial trivial rfl (by omega) (sortsA _) (enters_of Tryz.func121 (by kernel_rfl) rfl) 122 #[.pointer (some ⟨Bm, 0, none⟩)] trivial (enters_of Tryz.func122 (by kernel_rfl) rfl) _ (Maps.size D) (by unfold maxLen; omega) (by omega) w hseq
  change CallsIn _ _ Tryz.prog 69 _ _ _ at cS
  exact callsIn_wide.1 cS

theorem sortsS (m : Nat) : AnyZ.SortsIn Tryz.prog sortedS_ren Fence.wide m :=
  ⟨fun blk off cap ss W hH hblk hsz => callsIn_wide.2 (AnyM.slices_Sort_string sortS blk off cap ss W hH hblk hsz),
   fun p cap W => callsIn_wide.2 (AnyM.slices_Sort_string_none sortS p cap W)⟩
/-- slices.Sorted of what maps.Keys hands back, strings. -/
theorem sorted_keysS (Bm b nn : Nat) (D : DataW Unit) (w : World) (hBm : Bm < w.heap.size) (hm : w.cell? ⟨Bm, 0, none⟩ = some (.map (some b))) (hown : w.ownsMap Tryz.prog 9 (fun _ => some (.nil, [])) b nn D) (hmax : Maps.size D ≤ 1000000) :
    Calls Tryz.prog 149 #[.func (.func 208) #[] #[.pointer (some ⟨Bm, 0, none⟩)]] w fun ed w' => ∃ (v : Value) (ss : List (List UInt8)), ed = .returned v ∧ ss.Perm (strKeys D) ∧
      w'.ownsRow w.heap.size 9 1 v ss.length ((ss.mergeSort (fun x y => decide (x ≤ y))).map encStr) ∧ (v = .slice none 0 0 ↔ ss = []) ∧ Below w.heap.size w w' := by
  have hseq : SeqGives Fence.wide 2 Tryz.prog 208 #[.pointer (some ⟨Bm, 0, none⟩)] encStr (fun ss => ss.Perm (strKeys D)) (Maps.size D) w :=
    AnyZ.keys_gives (ρ := keysS_ren) { keysS with } Fence.wide _ trivial rfl (by omega) Bm b nn D _ hBm hm hown
  have cS := AnyZ.sorted_in (n := 5) sortedS Fence.wide trivial trivial trivial trivial rfl (by omega) (sortsS _) (enters_of Tryz.func179 (by kernel_rfl) rfl) 208 #[.pointer (some ⟨Bm, 0, none⟩)] trivial (enters_of Tryz.func208 (by kernel_rfl) rfl) _ (Maps.size D) (by unfold maxLen; omega) (by omega) w hseq
  change CallsIn _ _ Tryz.prog 149 _ _ _ at cS
  exact callsIn_wide.1 cS

theorem builderX : Builder.X72 Tryz.prog lays240_ren := {
  sizeBuilder := by kernel_rfl
  liesBuilder := by kernel_rfl }
theorem copy_fresh (b : Nat) (w : World) (h0 : w.cell? ⟨b, 0, none⟩ = some (.pointer none)) (h1 : w.shape? b = some (92, 2)) (h2 : w.frozen? ⟨b, 0, none⟩ = false) :
    Calls Tryz.prog 60 #[.pointer (some ⟨b, 0, none⟩)] w fun e w' => e = .returned (.tuple #[]) ∧ w' = w.setCell ⟨b, 0, none⟩ (.pointer (some ⟨b, 0, none⟩)) := Any.Builder_copyCheck_fresh lays240 builderX b w h0 h1 h2
theorem copy_used (b : Nat) (w : World) (h0 : w.cell? ⟨b, 0, none⟩ = some (.pointer (some ⟨b, 0, none⟩))) :
    Calls Tryz.prog 60 #[.pointer (some ⟨b, 0, none⟩)] w fun e w' => e = .returned (.tuple #[]) ∧ w' = w := Any.Builder_copyCheck_used lays240 builderX b w h0

theorem index_byte (s : ByteArray) (c : Int) (w : World) : Calls Tryz.prog 241 #[.string s, .int .u8 c] w fun e w' => e = .returned (.int .i64 (Lib.indexByte s.data.toList c.toNat.toUInt8)) ∧ w' = w := Any.strings_IndexByte lays137 s c w

set_option maxHeartbeats 1000000 in
set_option maxRecDepth 100000 in
/-- The deferred function asks for a panic, and finds none. -/
theorem recover_idle (x y : Value) (w : World) : CallsDIn Fence.wide 0 Tryz.prog 96 #[x, y] .returning w fun e u' w' => e = .returned (.tuple #[]) ∧ u' = .returning ∧ w' = w := by
  have he : ∀ w : World, (binOp .eql 20 .nilIface .nilIface).run Tryz.prog w = .ok (.bool true) w := fun _ => by kernel_rfl
  refine callsDIn_of_wpSIn Tryz.func96 rfl trivial fun c₀ cs hu => ?_
  apply wpSIn_seq
  apply wpSIn_region
  simp [wpOpsSIn, go_sem, recoverD, hu, Tryz.ntmps96, Exit.thenS]
  refine wpSIn_of_wpIn rfl ?_
  gi_wp2
  cases c₀
  simp_all [bodyPostS, results, Tryz.results96]
noncomputable def dfd : AX.T (List AX.AV → AX.Hp → Nat → Option (AX.AV × AX.Hp × Nat)) := AX.T.set .leaf 96 (AX.idleA 2)
theorem dfdOk {x : AX.T Nat} {y : AX.T (List AX.AV → AX.Hp → Nat → Option (AX.AV × AX.Hp × Nat))} {gl : AX.T AX.Cells} {b : Bool} : AX.DfdOk ⟨Tryz.prog, gl, x, y, dfd, b⟩ :=
  AX.idle_ok ⟨_, _, Tryz.func96, rfl⟩ fun args w h => by
    obtain ⟨l⟩ := args
    match l, h with
    | [x, y], _ => exact recover_idle x y w

def nums : List Int := [0, 1, 56, 2, 57, 49, 28, 3, 61, 58, 42, 50, 38, 29, 17, 4, 62, 47, 59, 36, 45, 43, 51, 22, 53, 39, 33, 30, 24, 18, 12, 5, 63, 55, 48, 27, 60, 41, 37, 16, 46, 35, 44, 21, 52, 32, 23, 11, 54, 26, 40, 15, 34, 20, 31, 10, 25, 14, 19, 9, 13, 8, 7, 6]
noncomputable def glob : AX.T AX.Cells := AX.T.set .leaf 0 (AX.ofL (nums.map fun n => AX.AV.int .u8 n))
noncomputable def tab0 : AX.T (List AX.AV → AX.Hp → Nat → Option (AX.AV × AX.Hp × Nat)) := ((((((AX.T.leaf.set 69 (AX.sortedA 122)).set 149 (AX.sortedSA 208)).set 134 AX.minA).set 44 AX.maxA).set 60 (AX.copyCheckA 92)).set 241 AX.indexByteA)
set_option maxRecDepth 100000 in
theorem pOk : AX.POk Tryz.prog := AX.POk.of (by kernel_rfl) (by kernel_rfl)
theorem dfdAll : ∀ s, AX.DfdOk (AX.ctxOf Tryz.prog glob dfd s) := fun _ => dfdOk
theorem tab0_ok : AX.TabOk Tryz.prog glob dfd tab0 := fun _ => (AX.orc_set (AX.indexByteA_good ⟨_, _, Tryz.func241, rfl⟩ index_byte) (AX.orc_set (AX.copyCheckA_good ⟨_, _, Tryz.func60, rfl⟩ copy_fresh copy_used) (AX.orc_set (AX.maxA_good ⟨_, _, Tryz.func44, rfl⟩ slices_Max_int) (AX.orc_set (AX.minA_good ⟨_, _, Tryz.func134, rfl⟩ slices_Min_int) (AX.orc_set (AX.sortedSA_good (k := 9) (e := 9) Tryz.underlying9 ⟨_, _, Tryz.func149, rfl⟩ sorted_keysS) (AX.orc_set (AX.sortedA_good (k := 3) (e := 3) Tryz.underlying3 ⟨_, _, Tryz.func69, rfl⟩ sorted_keys) AX.orc_leaf))))))
set_option maxRecDepth 100000 in
theorem numsAt {W : World} (h : laidMetH Tryz.prog [("math/bits.deBruijn64tab", Rows.laid_math_bits_deBruijn64tab)] W) : AX.numsAt W 0 .u8 nums := by
  rw [MakeChecks.laidMetH_plain _ _ _ (by kernel_rfl)] at h
  obtain ⟨ps, h, _⟩ := h
  exact AX.numsAt_of_laid (n := 64) (e := 5) (t := 287) (by kernel_rfl) (by kernel_rfl) Tryz.underlying287 Tryz.underlying5 (by kernel_rfl) (by kernel_rfl) h
end Go.Proofs.YtihnoigdplkfbabGreatDoor
