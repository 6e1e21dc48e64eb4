/- What is known ahead of the run: slices.Min, slices.Max, slices.Sorted of maps.Keys; a deferred function that finds no panic. -/
import Derived.Test.YtdjeokgkeejpcaaGreatDoorProg
import Derived.Test.YtdjeokgkeejpcaaGreatDoorRows
import Derived.ProofKit
import Derived.OpenShut
import Derived.LaidMore
import Derived.Test.YtdjeokgkeejpcaaGreatDoorMm
import Derived.Test.YtdjeokgkeejpcaaGreatDoorOx6
import Derived.Test.YtdjeokgkeejpcaaGreatDoorOx2
import Derived.Test.YtdjeokgkeejpcaaGreatDoorOx3
import Derived.Shelf.SlIterI.Nil
import Derived.Shelf.SlIter.Nil
import Derived.Shelf.SortM.Plain
import Derived.Shelf.SortM.SortNone
import Derived.Ground.GgzProg
import Derived.Ground.SlgmProg
import Derived.RecoverIn
import Derived.TacticsInMore
import Derived.Tactics2
import Derived.LoopNIn
import Derived.RegionIn
import Derived.Laws.Pointers
import Derived.KernelRfl
import Derived.Shelf.Strings.Search1
import Derived.Shelf.Small.Strs
import Derived.Test.YtdjeokgkeejpcaaGreatDoorOx7
namespace Go.Proofs.YtdjeokgkeejpcaaGreatDoor
open Go.Proofs Go.RowKit Go.Maps Go.Sort Go.Shelf
def keysA_ren : Go.Shelf.Ren := ⟨fun | 7 => 83 | 10 => 127 | n => n, fun | 23 => 156 | 26 => 3 | 3 => 166 | 28 => 100 | 0 => 0 | 27 => 99 | 33 => 98 | 4 => 4 | n => n, fun | n => n⟩
theorem keysA : Go.Proofs.SlLaysZI.n7 Tryz.prog keysA_ren := {
  mixed := by kernel_rfl
  f7 := ⟨Tryz.f83.name, by decide, Tryz.func83.trans (congrArg some (by kernel_rfl))⟩
  f10 := ⟨Tryz.f127.name, by decide, Tryz.func127.trans (congrArg some (by kernel_rfl))⟩
  t0 := Tryz.underlying0
  a0 := Tryz.isAgg0
  z0 := Tryz.sizeOf0
  v0 := Tryz.zeroValue0
  t4 := Tryz.underlying4
  a4 := Tryz.isAgg4
  z4 := Tryz.sizeOf4
  v4 := Tryz.zeroValue4
  t23 := Tryz.underlying156
  a23 := Tryz.isAgg156
  z23 := Tryz.sizeOf156
  v23 := Tryz.zeroValue156
  t26 := Tryz.underlying3
  a26 := Tryz.isAgg3
  z26 := Tryz.sizeOf3
  v26 := Tryz.zeroValue3
  t27 := Tryz.underlying99
  a27 := Tryz.isAgg99
  z27 := Tryz.sizeOf99
  v27 := Tryz.zeroValue99
  t28 := Tryz.underlying100
  a28 := Tryz.isAgg100
  z28 := Tryz.sizeOf100
  v28 := Tryz.zeroValue100
  t33 := Tryz.underlying98
  a33 := Tryz.isAgg98
  z33 := Tryz.sizeOf98
  v33 := Tryz.zeroValue98 }
def sortedA_ren : Go.Shelf.Ren := ⟨fun | 6 => 82 | 8 => 125 | 9 => 126 | 11 => 168 | 13 => 170 | 12 => 169 | 23 => 200 | 24 => 201 | 14 => 191 | 15 => 192 | 16 => 193 | 17 => 194 | 18 => 195 | 19 => 196 | 20 => 197 | 21 => 198 | 22 => 199 | 25 => 221 | 26 => 222 | 27 => 223 | 28 => 224 | 29 => 225 | 30 => 226 | 31 => 240 | n => n, fun | 26 => 3 | 28 => 100 | 24 => 27 | 0 => 0 | 3 => 3 | 37 => 240 | 48 => 283 | 50 => 30 | 4 => 4 | 40 => 302 | 39 => 301 | 45 => 128 | 5 => 5 | 9 => 9 | 51 => 320 | 55 => 294 | 57 => 334 | 58 => 335 | 33 => 98 | n => n, fun | n => n⟩
theorem sortedA : Go.Proofs.SlLaysZI.n6 Tryz.prog sortedA_ren := {
  mixed := by kernel_rfl
  f6 := ⟨Tryz.f82.name, by decide, Tryz.func82.trans (congrArg some (by kernel_rfl))⟩
  f8 := ⟨Tryz.f125.name, by decide, Tryz.func125.trans (congrArg some (by kernel_rfl))⟩
  f11 := ⟨Tryz.f168.name, by decide, Tryz.func168.trans (congrArg some (by kernel_rfl))⟩
  t0 := Tryz.underlying0
  a0 := Tryz.isAgg0
  z0 := Tryz.sizeOf0
  v0 := Tryz.zeroValue0
  t24 := Tryz.underlying27
  a24 := Tryz.isAgg27
  z24 := Tryz.sizeOf27
  v24 := Tryz.zeroValue27
  t26 := Tryz.underlying3
  a26 := Tryz.isAgg3
  z26 := Tryz.sizeOf3
  v26 := Tryz.zeroValue3
  t28 := Tryz.underlying100
  a28 := Tryz.isAgg100
  z28 := Tryz.sizeOf100
  v28 := Tryz.zeroValue100
  i26 := by kernel_rfl }
def sortA_ren : Go.Shelf.Ren := ⟨fun | 5 => 126 | 8 => 170 | 7 => 169 | 19 => 200 | 20 => 201 | 10 => 191 | 11 => 192 | 12 => 193 | 13 => 194 | 14 => 195 | 15 => 196 | 16 => 197 | 17 => 198 | 18 => 199 | 30 => 221 | 31 => 222 | 32 => 223 | 33 => 224 | 34 => 225 | 35 => 226 | 40 => 240 | n => n, fun | 23 => 27 | 25 => 3 | 3 => 3 | 32 => 240 | 22 => 27 | 0 => 0 | 44 => 283 | 46 => 30 | 4 => 4 | 36 => 302 | 35 => 301 | 41 => 128 | 5 => 5 | 9 => 9 | 53 => 320 | 57 => 294 | 63 => 334 | 64 => 335 | n => n, fun | n => n⟩
theorem sortA : Go.Proofs.SlLaysM.n5 Tryz.prog sortA_ren := {
  mixed := by kernel_rfl
  f5 := ⟨Tryz.f126.name, by decide, Tryz.func126.trans (congrArg some (by kernel_rfl))⟩
  f7 := ⟨Tryz.f169.name, by decide, Tryz.func169.trans (congrArg some (by kernel_rfl))⟩
  f8 := Tryz.func170.trans (congrArg some (by kernel_rfl))
  f10 := ⟨Tryz.f191.name, by decide, Tryz.func191.trans (congrArg some (by kernel_rfl))⟩
  f11 := ⟨Tryz.f192.name, by decide, Tryz.func192.trans (congrArg some (by kernel_rfl))⟩
  f12 := ⟨Tryz.f193.name, by decide, Tryz.func193.trans (congrArg some (by kernel_rfl))⟩
  f13 := ⟨Tryz.f194.name, by decide, Tryz.func194.trans (congrArg some (by kernel_rfl))⟩
  f14 := ⟨Tryz.f195.name, by decide, Tryz.func195.trans (congrArg some (by kernel_rfl))⟩
  f15 := ⟨Tryz.f196.name, by decide, Tryz.func196.trans (congrArg some (by kernel_rfl))⟩
  f16 := ⟨Tryz.f197.name, by decide, Tryz.func197.trans (congrArg some (by kernel_rfl))⟩
  f17 := ⟨Tryz.f198.name, by decide, Tryz.func198.trans (congrArg some (by kernel_rfl))⟩
  f18 := ⟨Tryz.f199.name, by decide, Tryz.func199.trans (congrArg some (by kernel_rfl))⟩
  f19 := Tryz.func200.trans (congrArg some (by kernel_rfl))
  f20 := Tryz.func201.trans (congrArg some (by kernel_rfl))
  f30 := ⟨Tryz.f221.name, by decide, Tryz.func221.trans (congrArg some (by kernel_rfl))⟩
  f31 := Tryz.func222.trans (congrArg some (by kernel_rfl))
  f32 := Tryz.func223.trans (congrArg some (by kernel_rfl))
  f33 := ⟨Tryz.f224.name, by decide, Tryz.func224.trans (congrArg some (by kernel_rfl))⟩
  f34 := ⟨Tryz.f225.name, by decide, Tryz.func225.trans (congrArg some (by kernel_rfl))⟩
  f35 := ⟨Tryz.f226.name, by decide, Tryz.func226.trans (congrArg some (by kernel_rfl))⟩
  f40 := ⟨Tryz.f240.name, by decide, Tryz.func240.trans (congrArg some (by kernel_rfl))⟩
  t0 := Tryz.underlying0
  a0 := Tryz.isAgg0
  z0 := Tryz.sizeOf0
  v0 := Tryz.zeroValue0
  t3 := Tryz.underlying3
  a3 := Tryz.isAgg3
  z3 := Tryz.sizeOf3
  v3 := Tryz.zeroValue3
  t4 := Tryz.underlying4
  a4 := Tryz.isAgg4
  z4 := Tryz.sizeOf4
  v4 := Tryz.zeroValue4
  t5 := Tryz.underlying5
  a5 := Tryz.isAgg5
  z5 := Tryz.sizeOf5
  v5 := Tryz.zeroValue5
  t9 := Tryz.underlying9
  a9 := Tryz.isAgg9
  z9 := Tryz.sizeOf9
  v9 := Tryz.zeroValue9
  t22 := Tryz.underlying27
  a22 := Tryz.isAgg27
  z22 := Tryz.sizeOf27
  v22 := Tryz.zeroValue27
  t23 := Tryz.underlying27
  a23 := Tryz.isAgg27
  z23 := Tryz.sizeOf27
  v23 := Tryz.zeroValue27
  t25 := Tryz.underlying3
  a25 := Tryz.isAgg3
  z25 := Tryz.sizeOf3
  v25 := Tryz.zeroValue3
  t32 := Tryz.underlying240
  a32 := Tryz.isAgg240
  z32 := Tryz.sizeOf240
  v32 := Tryz.zeroValue240
  t35 := Tryz.underlying301
  a35 := Tryz.isAgg301
  z35 := Tryz.sizeOf301
  v35 := Tryz.zeroValue301
  t36 := Tryz.underlying302
  a36 := Tryz.isAgg302
  z36 := Tryz.sizeOf302
  v36 := Tryz.zeroValue302
  t41 := Tryz.underlying128
  a41 := Tryz.isAgg128
  z41 := Tryz.sizeOf128
  v41 := Tryz.zeroValue128
  t44 := Tryz.underlying283
  a44 := Tryz.isAgg283
  z44 := Tryz.sizeOf283
  v44 := Tryz.zeroValue283
  t46 := Tryz.underlying30
  a46 := Tryz.isAgg30
  z46 := Tryz.sizeOf30
  v46 := Tryz.zeroValue30
  t53 := Tryz.underlying320
  a53 := Tryz.isAgg320
  z53 := Tryz.sizeOf320
  v53 := Tryz.zeroValue320
  t57 := Tryz.underlying294
  a57 := Tryz.isAgg294
  z57 := Tryz.sizeOf294
  v57 := Tryz.zeroValue294
  t63 := Tryz.underlying334
  a63 := Tryz.isAgg334
  z63 := Tryz.sizeOf334
  v63 := Tryz.zeroValue334
  t64 := Tryz.underlying335
  a64 := Tryz.isAgg335
  z64 := Tryz.sizeOf335
  v64 := Tryz.zeroValue335 }
def keysS_ren : Go.Shelf.Ren := ⟨fun | 7 => 178 | 10 => 210 | n => n, fun | 23 => 244 | 26 => 9 | 3 => 166 | 28 => 254 | 0 => 0 | 27 => 253 | 33 => 291 | 4 => 4 | n => n, fun | n => n⟩
theorem keysS : Go.Proofs.SlLaysZ.n7 Tryz.prog keysS_ren := {
  mixed := by kernel_rfl
  f7 := ⟨Tryz.f178.name, by decide, Tryz.func178.trans (congrArg some (by kernel_rfl))⟩
  f10 := ⟨Tryz.f210.name, by decide, Tryz.func210.trans (congrArg some (by kernel_rfl))⟩
  t0 := Tryz.underlying0
  a0 := Tryz.isAgg0
  z0 := Tryz.sizeOf0
  v0 := Tryz.zeroValue0
  t4 := Tryz.underlying4
  a4 := Tryz.isAgg4
  z4 := Tryz.sizeOf4
  v4 := Tryz.zeroValue4
  t23 := Tryz.underlying244
  a23 := Tryz.isAgg244
  z23 := Tryz.sizeOf244
  v23 := Tryz.zeroValue244
  t26 := Tryz.underlying9
  a26 := Tryz.isAgg9
  z26 := Tryz.sizeOf9
  v26 := Tryz.zeroValue9
  t27 := Tryz.underlying253
  a27 := Tryz.isAgg253
  z27 := Tryz.sizeOf253
  v27 := Tryz.zeroValue253
  t28 := Tryz.underlying254
  a28 := Tryz.isAgg254
  z28 := Tryz.sizeOf254
  v28 := Tryz.zeroValue254
  t33 := Tryz.underlying291
  a33 := Tryz.isAgg291
  z33 := Tryz.sizeOf291
  v33 := Tryz.zeroValue291 }
def sortedS_ren : Go.Shelf.Ren := ⟨fun | 6 => 152 | 8 => 180 | 9 => 181 | 11 => 212 | 13 => 170 | 12 => 213 | 23 => 200 | 24 => 201 | 14 => 230 | 15 => 231 | 16 => 232 | 17 => 233 | 18 => 234 | 19 => 235 | 20 => 236 | 21 => 237 | 22 => 238 | 25 => 242 | 26 => 222 | 27 => 223 | 28 => 243 | 29 => 244 | 30 => 211 | 31 => 246 | n => n, fun | 26 => 9 | 28 => 254 | 24 => 138 | 0 => 0 | 3 => 3 | 37 => 240 | 48 => 283 | 50 => 30 | 4 => 4 | 40 => 302 | 39 => 301 | 45 => 128 | 5 => 5 | 9 => 9 | 51 => 320 | 55 => 294 | 57 => 334 | 58 => 335 | 33 => 291 | n => n, fun | n => n⟩
theorem sortedS : Go.Proofs.SlLaysZ.n6 Tryz.prog sortedS_ren := {
  mixed := by kernel_rfl
  f6 := ⟨Tryz.f152.name, by decide, Tryz.func152.trans (congrArg some (by kernel_rfl))⟩
  f8 := ⟨Tryz.f180.name, by decide, Tryz.func180.trans (congrArg some (by kernel_rfl))⟩
  f11 := ⟨Tryz.f212.name, by decide, Tryz.func212.trans (congrArg some (by kernel_rfl))⟩
  t0 := Tryz.underlying0
  a0 := Tryz.isAgg0
  z0 := Tryz.sizeOf0
  v0 := Tryz.zeroValue0
  t24 := Tryz.underlying138
  a24 := Tryz.isAgg138
  z24 := Tryz.sizeOf138
  v24 := Tryz.zeroValue138
  t26 := Tryz.underlying9
  a26 := Tryz.isAgg9
  z26 := Tryz.sizeOf9
  v26 := Tryz.zeroValue9
  t28 := Tryz.underlying254
  a28 := Tryz.isAgg254
  z28 := Tryz.sizeOf254
  v28 := Tryz.zeroValue254
  i26 := by kernel_rfl }
def sortS_ren : Go.Shelf.Ren := ⟨fun | 6 => 181 | 8 => 170 | 9 => 213 | 19 => 200 | 20 => 201 | 21 => 230 | 22 => 231 | 23 => 232 | 24 => 233 | 25 => 234 | 26 => 235 | 27 => 236 | 28 => 237 | 29 => 238 | 36 => 242 | 31 => 222 | 32 => 223 | 37 => 243 | 38 => 244 | 39 => 211 | 41 => 246 | n => n, fun | 27 => 138 | 29 => 9 | 3 => 3 | 32 => 240 | 26 => 138 | 0 => 0 | 44 => 283 | 46 => 30 | 4 => 4 | 36 => 302 | 35 => 301 | 41 => 128 | 5 => 5 | 9 => 9 | 53 => 320 | 57 => 294 | 63 => 334 | 64 => 335 | n => n, fun | n => n⟩
theorem sortS : Go.Proofs.SlLaysM.n6 Tryz.prog sortS_ren := {
  mixed := by kernel_rfl
  f6 := ⟨Tryz.f181.name, by decide, Tryz.func181.trans (congrArg some (by kernel_rfl))⟩
  f8 := Tryz.func170.trans (congrArg some (by kernel_rfl))
  f9 := ⟨Tryz.f213.name, by decide, Tryz.func213.trans (congrArg some (by kernel_rfl))⟩
  f19 := Tryz.func200.trans (congrArg some (by kernel_rfl))
  f20 := Tryz.func201.trans (congrArg some (by kernel_rfl))
  f21 := ⟨Tryz.f230.name, by decide, Tryz.func230.trans (congrArg some (by kernel_rfl))⟩
  f22 := ⟨Tryz.f231.name, by decide, Tryz.func231.trans (congrArg some (by kernel_rfl))⟩
  f23 := ⟨Tryz.f232.name, by decide, Tryz.func232.trans (congrArg some (by kernel_rfl))⟩
  f24 := ⟨Tryz.f233.name, by decide, Tryz.func233.trans (congrArg some (by kernel_rfl))⟩
  f25 := ⟨Tryz.f234.name, by decide, Tryz.func234.trans (congrArg some (by kernel_rfl))⟩
  f26 := ⟨Tryz.f235.name, by decide, Tryz.func235.trans (congrArg some (by kernel_rfl))⟩
  f27 := ⟨Tryz.f236.name, by decide, Tryz.func236.trans (congrArg some (by kernel_rfl))⟩
  f28 := ⟨Tryz.f237.name, by decide, Tryz.func237.trans (congrArg some (by kernel_rfl))⟩
  f29 := ⟨Tryz.f238.name, by decide, Tryz.func238.trans (congrArg some (by kernel_rfl))⟩
  f31 := Tryz.func222.trans (congrArg some (by kernel_rfl))
  f32 := Tryz.func223.trans (congrArg some (by kernel_rfl))
  f36 := ⟨Tryz.f242.name, by decide, Tryz.func242.trans (congrArg some (by kernel_rfl))⟩
  f37 := ⟨Tryz.f243.name, by decide, Tryz.func243.trans (congrArg some (by kernel_rfl))⟩
  f38 := ⟨Tryz.f244.name, by decide, Tryz.func244.trans (congrArg some (by kernel_rfl))⟩
  f39 := ⟨Tryz.f211.name, by decide, Tryz.func211.trans (congrArg some (by kernel_rfl))⟩
  f41 := ⟨Tryz.f246.name, by decide, Tryz.func246.trans (congrArg some (by kernel_rfl))⟩
  t0 := Tryz.underlying0
  a0 := Tryz.isAgg0
  z0 := Tryz.sizeOf0
  v0 := Tryz.zeroValue0
  t3 := Tryz.underlying3
  a3 := Tryz.isAgg3
  z3 := Tryz.sizeOf3
  v3 := Tryz.zeroValue3
  t4 := Tryz.underlying4
  a4 := Tryz.isAgg4
  z4 := Tryz.sizeOf4
  v4 := Tryz.zeroValue4
  t5 := Tryz.underlying5
  a5 := Tryz.isAgg5
  z5 := Tryz.sizeOf5
  v5 := Tryz.zeroValue5
  t9 := Tryz.underlying9
  a9 := Tryz.isAgg9
  z9 := Tryz.sizeOf9
  v9 := Tryz.zeroValue9
  t26 := Tryz.underlying138
  a26 := Tryz.isAgg138
  z26 := Tryz.sizeOf138
  v26 := Tryz.zeroValue138
  t27 := Tryz.underlying138
  a27 := Tryz.isAgg138
  z27 := Tryz.sizeOf138
  v27 := Tryz.zeroValue138
  t29 := Tryz.underlying9
  a29 := Tryz.isAgg9
  z29 := Tryz.sizeOf9
  v29 := Tryz.zeroValue9
  t32 := Tryz.underlying240
  a32 := Tryz.isAgg240
  z32 := Tryz.sizeOf240
  v32 := Tryz.zeroValue240
  t35 := Tryz.underlying301
  a35 := Tryz.isAgg301
  z35 := Tryz.sizeOf301
  v35 := Tryz.zeroValue301
  t36 := Tryz.underlying302
  a36 := Tryz.isAgg302
  z36 := Tryz.sizeOf302
  v36 := Tryz.zeroValue302
  t41 := Tryz.underlying128
  a41 := Tryz.isAgg128
  z41 := Tryz.sizeOf128
  v41 := Tryz.zeroValue128
  t44 := Tryz.underlying283
  a44 := Tryz.isAgg283
  z44 := Tryz.sizeOf283
  v44 := Tryz.zeroValue283
  t46 := Tryz.underlying30
  a46 := Tryz.isAgg30
  z46 := Tryz.sizeOf30
  v46 := Tryz.zeroValue30
  t53 := Tryz.underlying320
  a53 := Tryz.isAgg320
  z53 := Tryz.sizeOf320
  v53 := Tryz.zeroValue320
  t57 := Tryz.underlying294
  a57 := Tryz.isAgg294
  z57 := Tryz.sizeOf294
  v57 := Tryz.zeroValue294
  t63 := Tryz.underlying334
  a63 := Tryz.isAgg334
  z63 := Tryz.sizeOf334
  v63 := Tryz.zeroValue334
  t64 := Tryz.underlying335
  a64 := Tryz.isAgg335
  z64 := Tryz.sizeOf335
  v64 := Tryz.zeroValue335 }
def lays137_ren : Go.Shelf.Ren := ⟨fun | 137 => 245 | 217 => 247 | 266 => 248 | n => n, fun | 9 => 9 | 5 => 5 | 3 => 3 | n => n, fun | n => n⟩
theorem lays137 : Go.Proofs.Lays.n137 Tryz.prog lays137_ren := {
  mixed := by kernel_rfl
  f137 := Tryz.func245.trans (congrArg some (by kernel_rfl))
  f217 := Tryz.func247.trans (congrArg some (by kernel_rfl))
  f266 := Tryz.func248.trans (congrArg some (by kernel_rfl))
  t3 := Tryz.underlying3
  a3 := Tryz.isAgg3
  z3 := Tryz.sizeOf3
  v3 := Tryz.zeroValue3
  t5 := Tryz.underlying5
  a5 := Tryz.isAgg5
  z5 := Tryz.sizeOf5
  v5 := Tryz.zeroValue5
  t9 := Tryz.underlying9
  a9 := Tryz.isAgg9
  z9 := Tryz.sizeOf9
  v9 := Tryz.zeroValue9 }

theorem sortsA (m : Nat) : AnyZI.SortsIn Tryz.prog sortedA_ren Fence.wide m :=
  ⟨fun blk off cap ss W hH hblk hsz => callsIn_wide.2 (AnyM.slices_Sort_int sortA blk off cap ss W hH hblk hsz),
   fun p cap W => callsIn_wide.2 (AnyM.slices_Sort_int_none sortA p cap W)⟩
/-- slices.Sorted of what maps.Keys hands back, ints. -/
theorem sorted_keys (Bm b nn : Nat) (D : DataW Unit) (w : World) (hBm : Bm < w.heap.size) (hm : w.cell? ⟨Bm, 0, none⟩ = some (.map (some b))) (hown : w.ownsMap Tryz.prog 3 (fun _ => some (.nil, [])) b nn D) (hmax : Maps.size D ≤ 1000000) :
    Calls Tryz.prog 82 #[.func (.func 127) #[] #[.pointer (some ⟨Bm, 0, none⟩)]] w fun ed w' => ∃ (v : Value) (ss : List Int), ed = .returned v ∧ ss.Perm (intKeys D) ∧
      w'.ownsRow w.heap.size 3 1 v ss.length ((ss.mergeSort (fun x y => decide (x ≤ y))).map encZ) ∧ (v = .slice none 0 0 ↔ ss = []) ∧ Below w.heap.size w w' := by
  have hseq : SeqGives Fence.wide 2 Tryz.prog 127 #[.pointer (some ⟨Bm, 0, none⟩)] encZ (fun ss => ss.Perm (intKeys D)) (Maps.size D) w :=
    AnyZI.keys_gives (ρ := keysA_ren) { keysA with } Fence.wide _ trivial rfl (by omega) Bm b nn D _ hBm hm hown
  have cS := AnyZI.sorted_in (n := 5) sortedA Fence.wide trivial trivial trivial trivial rfl (by omega) (sortsA _) (enters_of Tryz.func126 (by kernel_rfl) rfl) 127 #[.pointer (some ⟨Bm, 0, none⟩)] trivial (enters_of Tryz.func127 (by kernel_rfl) rfl) _ (Maps.size D) (by unfold maxLen; omega) (by omega) w hseq
  change CallsIn _ _ Tryz.prog 82 _ _ _ at cS
  exact callsIn_wide.1 cS

theorem sortsS (m : Nat) : AnyZ.SortsIn Tryz.prog sortedS_ren Fence.wide m :=
  ⟨fun blk off cap ss W hH hblk hsz => callsIn_wide.2 (AnyM.slices_Sort_string sortS blk off cap ss W hH hblk hsz),
   fun p cap W => callsIn_wide.2 (AnyM.slices_Sort_string_none sortS p cap W)⟩
/-- slices.Sorted of what maps.Keys hands back, strings. -/
theorem sorted_keysS (Bm b nn : Nat) (D : DataW Unit) (w : World) (hBm : Bm < w.heap.size) (hm : w.cell? ⟨Bm, 0, none⟩ = some (.map (some b))) (hown : w.ownsMap Tryz.prog 9 (fun _ => some (.nil, [])) b nn D) (hmax : Maps.size D ≤ 1000000) :
    Calls Tryz.prog 152 #[.func (.func 210) #[] #[.pointer (some ⟨Bm, 0, none⟩)]] w fun ed w' => ∃ (v : Value) (ss : List (List UInt8)), ed = .returned v ∧ ss.Perm (strKeys D) ∧
      w'.ownsRow w.heap.size 9 1 v ss.length ((ss.mergeSort (fun x y => decide (x ≤ y))).map encStr) ∧ (v = .slice none 0 0 ↔ ss = []) ∧ Below w.heap.size w w' := by
  have hseq : SeqGives Fence.wide 2 Tryz.prog 210 #[.pointer (some ⟨Bm, 0, none⟩)] encStr (fun ss => ss.Perm (strKeys D)) (Maps.size D) w :=
    AnyZ.keys_gives (ρ := keysS_ren) { keysS with } Fence.wide _ trivial rfl (by omega) Bm b nn D _ hBm hm hown
  have cS := AnyZ.sorted_in (n := 5) sortedS Fence.wide trivial trivial trivial trivial rfl (by omega) (sortsS _) (enters_of Tryz.func181 (by kernel_rfl) rfl) 210 #[.pointer (some ⟨Bm, 0, none⟩)] trivial (enters_of Tryz.func210 (by kernel_rfl) rfl) _ (Maps.size D) (by unfold maxLen; omega) (by omega) w hseq
  change CallsIn _ _ Tryz.prog 152 _ _ _ at cS
  exact callsIn_wide.1 cS

theorem index_byte (s : ByteArray) (c : Int) (w : World) : Calls Tryz.prog 245 #[.string s, .int .u8 c] w fun e w' => e = .returned (.int .i64 (Lib.indexByte s.data.toList c.toNat.toUInt8)) ∧ w' = w := Any.strings_IndexByte lays137 s c w

set_option maxHeartbeats 1000000 in
set_option maxRecDepth 100000 in
/-- The deferred function asks for a panic, and finds none. -/
theorem recover_idle (x y : Value) (w : World) : CallsDIn Fence.wide 0 Tryz.prog 108 #[x, y] .returning w fun e u' w' => e = .returned (.tuple #[]) ∧ u' = .returning ∧ w' = w := by
  have he : ∀ w : World, (binOp .eql 20 .nilIface .nilIface).run Tryz.prog w = .ok (.bool true) w := fun _ => by kernel_rfl
  refine callsDIn_of_wpSIn Tryz.func108 rfl trivial fun c₀ cs hu => ?_
  apply wpSIn_seq
  apply wpSIn_region
  simp [wpOpsSIn, go_sem, recoverD, hu, Tryz.ntmps108, Exit.thenS]
  refine wpSIn_of_wpIn rfl ?_
  gi_wp2
  cases c₀
  simp_all [bodyPostS, results, Tryz.results108]
noncomputable def dfd : AX.T (List AX.AV → AX.Hp → Nat → Option (AX.AV × AX.Hp × Nat)) := AX.T.set .leaf 108 (AX.idleA 2)
theorem dfdOk {x : AX.T Nat} {y : AX.T (List AX.AV → AX.Hp → Nat → Option (AX.AV × AX.Hp × Nat))} {gl : AX.T AX.Cells} {b : Bool} : AX.DfdOk ⟨Tryz.prog, gl, x, y, dfd, b⟩ :=
  AX.idle_ok ⟨_, _, Tryz.func108, rfl⟩ fun args w h => by
    obtain ⟨l⟩ := args
    match l, h with
    | [x, y], _ => exact recover_idle x y w

def nums : List Int := [0, 1, 56, 2, 57, 49, 28, 3, 61, 58, 42, 50, 38, 29, 17, 4, 62, 47, 59, 36, 45, 43, 51, 22, 53, 39, 33, 30, 24, 18, 12, 5, 63, 55, 48, 27, 60, 41, 37, 16, 46, 35, 44, 21, 52, 32, 23, 11, 54, 26, 40, 15, 34, 20, 31, 10, 25, 14, 19, 9, 13, 8, 7, 6]
noncomputable def glob : AX.T AX.Cells := AX.T.set .leaf 0 (AX.ofL (nums.map fun n => AX.AV.int .u8 n))
noncomputable def tab0 : AX.T (List AX.AV → AX.Hp → Nat → Option (AX.AV × AX.Hp × Nat)) := (((((AX.T.leaf.set 82 (AX.sortedA 127)).set 152 (AX.sortedSA 210)).set 139 AX.minA).set 61 AX.maxA).set 245 AX.indexByteA)
set_option maxRecDepth 100000 in
theorem pOk : AX.POk Tryz.prog := AX.POk.of (by kernel_rfl) (by kernel_rfl)
theorem dfdAll : ∀ s, AX.DfdOk (AX.ctxOf Tryz.prog glob dfd s) := fun _ => dfdOk
theorem tab0_ok : AX.TabOk Tryz.prog glob dfd tab0 := fun _ => (AX.orc_set (AX.indexByteA_good ⟨_, _, Tryz.func245, rfl⟩ index_byte) (AX.orc_set (AX.maxA_good ⟨_, _, Tryz.func61, rfl⟩ slices_Max_int) (AX.orc_set (AX.minA_good ⟨_, _, Tryz.func139, rfl⟩ slices_Min_int) (AX.orc_set (AX.sortedSA_good (k := 9) (e := 9) Tryz.underlying9 ⟨_, _, Tryz.func152, rfl⟩ sorted_keysS) (AX.orc_set (AX.sortedA_good (k := 3) (e := 3) Tryz.underlying3 ⟨_, _, Tryz.func82, rfl⟩ sorted_keys) AX.orc_leaf)))))
set_option maxRecDepth 100000 in
theorem numsAt {W : World} (h : laidMetH Tryz.prog [("math/bits.deBruijn64tab", Rows.laid_math_bits_deBruijn64tab)] W) : AX.numsAt W 0 .u8 nums := by
  rw [MakeChecks.laidMetH_plain _ _ _ (by kernel_rfl)] at h
  obtain ⟨ps, h, _⟩ := h
  exact AX.numsAt_of_laid (n := 64) (e := 5) (t := 282) (by kernel_rfl) (by kernel_rfl) Tryz.underlying282 Tryz.underlying5 (by kernel_rfl) (by kernel_rfl) h
end Go.Proofs.YtdjeokgkeejpcaaGreatDoor
