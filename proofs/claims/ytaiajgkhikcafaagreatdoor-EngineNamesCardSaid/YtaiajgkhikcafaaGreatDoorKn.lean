/- What is known ahead of the run: slices.Min, slices.Max, slices.Sorted of maps.Keys; a deferred function that finds no panic. -/
import Derived.Test.YtaiajgkhikcafaaGreatDoorProg
import Derived.Test.YtaiajgkhikcafaaGreatDoorRows
import Derived.ProofKit
import Derived.OpenShut
import Derived.LaidMore
import Derived.Test.YtaiajgkhikcafaaGreatDoorMm
import Derived.Test.YtaiajgkhikcafaaGreatDoorOx6
import Derived.Test.YtaiajgkhikcafaaGreatDoorOx2
import Derived.Test.YtaiajgkhikcafaaGreatDoorOx3
import Derived.Shelf.SlIterI.Nil
import Derived.Shelf.SlIter.Nil
import Derived.Shelf.SortM.Plain
import Derived.Shelf.SortM.SortNone
import Derived.Ground.GgzProg
import Derived.Ground.SlgmProg
import Derived.RecoverIn
import Derived.TacticsInMore
import Derived.Tactics2
import Derived.LoopNIn
import Derived.RegionIn
import Derived.Laws.Pointers
import Derived.KernelRfl
import Derived.Shelf.Strings.Search1
import Derived.Shelf.Small.Strs
import Derived.Test.YtaiajgkhikcafaaGreatDoorOx7
namespace Go.Proofs.YtaiajgkhikcafaaGreatDoor
open Go.Proofs Go.RowKit Go.Maps Go.Sort Go.Shelf
def keysA_ren : Go.Shelf.Ren := ⟨fun | 7 => 212 | 10 => 322 | n => n, fun | 23 => 322 | 26 => 3 | 3 => 331 | 28 => 81 | 0 => 0 | 27 => 80 | 33 => 150 | 4 => 4 | n => n, fun | n => n⟩
theorem keysA : Go.Proofs.SlLaysZI.n7 Tryz.prog keysA_ren := {
  mixed := by kernel_rfl
  f7 := ⟨Tryz.f212.name, by decide, Tryz.func212.trans (congrArg some (by kernel_rfl))⟩
  f10 := ⟨Tryz.f322.name, by decide, Tryz.func322.trans (congrArg some (by kernel_rfl))⟩
  t0 := Tryz.underlying0
  a0 := Tryz.isAgg0
  z0 := Tryz.sizeOf0
  v0 := Tryz.zeroValue0
  t4 := Tryz.underlying4
  a4 := Tryz.isAgg4
  z4 := Tryz.sizeOf4
  v4 := Tryz.zeroValue4
  t23 := Tryz.underlying322
  a23 := Tryz.isAgg322
  z23 := Tryz.sizeOf322
  v23 := Tryz.zeroValue322
  t26 := Tryz.underlying3
  a26 := Tryz.isAgg3
  z26 := Tryz.sizeOf3
  v26 := Tryz.zeroValue3
  t27 := Tryz.underlying80
  a27 := Tryz.isAgg80
  z27 := Tryz.sizeOf80
  v27 := Tryz.zeroValue80
  t28 := Tryz.underlying81
  a28 := Tryz.isAgg81
  z28 := Tryz.sizeOf81
  v28 := Tryz.zeroValue81
  t33 := Tryz.underlying150
  a33 := Tryz.isAgg150
  z33 := Tryz.sizeOf150
  v33 := Tryz.zeroValue150 }
def sortedA_ren : Go.Shelf.Ren := ⟨fun | 6 => 26 | 8 => 77 | 9 => 78 | 11 => 149 | 13 => 151 | 12 => 150 | 23 => 265 | 24 => 266 | 14 => 256 | 15 => 257 | 16 => 258 | 17 => 259 | 18 => 260 | 19 => 261 | 20 => 262 | 21 => 263 | 22 => 264 | 25 => 354 | 26 => 355 | 27 => 356 | 28 => 357 | 29 => 358 | 30 => 248 | 31 => 417 | n => n, fun | 26 => 3 | 28 => 81 | 24 => 30 | 0 => 0 | 3 => 3 | 37 => 257 | 48 => 390 | 50 => 76 | 4 => 4 | 40 => 384 | 39 => 383 | 45 => 85 | 5 => 5 | 9 => 9 | 51 => 466 | 55 => 230 | 57 => 518 | 58 => 482 | 33 => 150 | n => n, fun | n => n⟩
theorem sortedA : Go.Proofs.SlLaysZI.n6 Tryz.prog sortedA_ren := {
  mixed := by kernel_rfl
  f6 := ⟨Tryz.f26.name, by decide, Tryz.func26.trans (congrArg some (by kernel_rfl))⟩
  f8 := ⟨Tryz.f77.name, by decide, Tryz.func77.trans (congrArg some (by kernel_rfl))⟩
  f11 := ⟨Tryz.f149.name, by decide, Tryz.func149.trans (congrArg some (by kernel_rfl))⟩
  t0 := Tryz.underlying0
  a0 := Tryz.isAgg0
  z0 := Tryz.sizeOf0
  v0 := Tryz.zeroValue0
  t24 := Tryz.underlying30
  a24 := Tryz.isAgg30
  z24 := Tryz.sizeOf30
  v24 := Tryz.zeroValue30
  t26 := Tryz.underlying3
  a26 := Tryz.isAgg3
  z26 := Tryz.sizeOf3
  v26 := Tryz.zeroValue3
  t28 := Tryz.underlying81
  a28 := Tryz.isAgg81
  z28 := Tryz.sizeOf81
  v28 := Tryz.zeroValue81
  i26 := by kernel_rfl }
def sortA_ren : Go.Shelf.Ren := ⟨fun | 5 => 78 | 8 => 151 | 7 => 150 | 19 => 265 | 20 => 266 | 10 => 256 | 11 => 257 | 12 => 258 | 13 => 259 | 14 => 260 | 15 => 261 | 16 => 262 | 17 => 263 | 18 => 264 | 30 => 354 | 31 => 355 | 32 => 356 | 33 => 357 | 34 => 358 | 35 => 248 | 40 => 417 | n => n, fun | 23 => 30 | 25 => 3 | 3 => 3 | 32 => 257 | 22 => 30 | 0 => 0 | 44 => 390 | 46 => 76 | 4 => 4 | 36 => 384 | 35 => 383 | 41 => 85 | 5 => 5 | 9 => 9 | 53 => 466 | 57 => 230 | 63 => 518 | 64 => 482 | n => n, fun | n => n⟩
theorem sortA : Go.Proofs.SlLaysM.n5 Tryz.prog sortA_ren := {
  mixed := by kernel_rfl
  f5 := ⟨Tryz.f78.name, by decide, Tryz.func78.trans (congrArg some (by kernel_rfl))⟩
  f7 := ⟨Tryz.f150.name, by decide, Tryz.func150.trans (congrArg some (by kernel_rfl))⟩
  f8 := Tryz.func151.trans (congrArg some (by kernel_rfl))
  f10 := ⟨Tryz.f256.name, by decide, Tryz.func256.trans (congrArg some (by kernel_rfl))⟩
  f11 := ⟨Tryz.f257.name, by decide, Tryz.func257.trans (congrArg some (by kernel_rfl))⟩
  f12 := ⟨Tryz.f258.name, by decide, Tryz.func258.trans (congrArg some (by kernel_rfl))⟩
  f13 := ⟨Tryz.f259.name, by decide, Tryz.func259.trans (congrArg some (by kernel_rfl))⟩
  f14 := ⟨Tryz.f260.name, by decide, Tryz.func260.trans (congrArg some (by kernel_rfl))⟩
  f15 := ⟨Tryz.f261.name, by decide, Tryz.func261.trans (congrArg some (by kernel_rfl))⟩
  f16 := ⟨Tryz.f262.name, by decide, Tryz.func262.trans (congrArg some (by kernel_rfl))⟩
  f17 := ⟨Tryz.f263.name, by decide, Tryz.func263.trans (congrArg some (by kernel_rfl))⟩
  f18 := ⟨Tryz.f264.name, by decide, Tryz.func264.trans (congrArg some (by kernel_rfl))⟩
  f19 := Tryz.func265.trans (congrArg some (by kernel_rfl))
  f20 := Tryz.func266.trans (congrArg some (by kernel_rfl))
  f30 := ⟨Tryz.f354.name, by decide, Tryz.func354.trans (congrArg some (by kernel_rfl))⟩
  f31 := Tryz.func355.trans (congrArg some (by kernel_rfl))
  f32 := Tryz.func356.trans (congrArg some (by kernel_rfl))
  f33 := ⟨Tryz.f357.name, by decide, Tryz.func357.trans (congrArg some (by kernel_rfl))⟩
  f34 := ⟨Tryz.f358.name, by decide, Tryz.func358.trans (congrArg some (by kernel_rfl))⟩
  f35 := ⟨Tryz.f248.name, by decide, Tryz.func248.trans (congrArg some (by kernel_rfl))⟩
  f40 := ⟨Tryz.f417.name, by decide, Tryz.func417.trans (congrArg some (by kernel_rfl))⟩
  t0 := Tryz.underlying0
  a0 := Tryz.isAgg0
  z0 := Tryz.sizeOf0
  v0 := Tryz.zeroValue0
  t3 := Tryz.underlying3
  a3 := Tryz.isAgg3
  z3 := Tryz.sizeOf3
  v3 := Tryz.zeroValue3
  t4 := Tryz.underlying4
  a4 := Tryz.isAgg4
  z4 := Tryz.sizeOf4
  v4 := Tryz.zeroValue4
  t5 := Tryz.underlying5
  a5 := Tryz.isAgg5
  z5 := Tryz.sizeOf5
  v5 := Tryz.zeroValue5
  t9 := Tryz.underlying9
  a9 := Tryz.isAgg9
  z9 := Tryz.sizeOf9
  v9 := Tryz.zeroValue9
  t22 := Tryz.underlying30
  a22 := Tryz.isAgg30
  z22 := Tryz.sizeOf30
  v22 := Tryz.zeroValue30
  t23 := Tryz.underlying30
  a23 := Tryz.isAgg30
  z23 := Tryz.sizeOf30
  v23 := Tryz.zeroValue30
  t25 := Tryz.underlying3
  a25 := Tryz.isAgg3
  z25 := Tryz.sizeOf3
  v25 := Tryz.zeroValue3
  t32 := Tryz.underlying257
  a32 := Tryz.isAgg257
  z32 := Tryz.sizeOf257
  v32 := Tryz.zeroValue257
  t35 := Tryz.underlying383
  a35 := Tryz.isAgg383
  z35 := Tryz.sizeOf383
  v35 := Tryz.zeroValue383
  t36 := Tryz.underlying384
  a36 := Tryz.isAgg384
  z36 := Tryz.sizeOf384
  v36 := Tryz.zeroValue384
  t41 := Tryz.underlying85
  a41 := Tryz.isAgg85
  z41 := Tryz.sizeOf85
  v41 := Tryz.zeroValue85
  t44 := Tryz.underlying390
  a44 := Tryz.isAgg390
  z44 := Tryz.sizeOf390
  v44 := Tryz.zeroValue390
  t46 := Tryz.underlying76
  a46 := Tryz.isAgg76
  z46 := Tryz.sizeOf76
  v46 := Tryz.zeroValue76
  t53 := Tryz.underlying466
  a53 := Tryz.isAgg466
  z53 := Tryz.sizeOf466
  v53 := Tryz.zeroValue466
  t57 := Tryz.underlying230
  a57 := Tryz.isAgg230
  z57 := Tryz.sizeOf230
  v57 := Tryz.zeroValue230
  t63 := Tryz.underlying518
  a63 := Tryz.isAgg518
  z63 := Tryz.sizeOf518
  v63 := Tryz.zeroValue518
  t64 := Tryz.underlying482
  a64 := Tryz.isAgg482
  z64 := Tryz.sizeOf482
  v64 := Tryz.zeroValue482 }
def keysS_ren : Go.Shelf.Ren := ⟨fun | 7 => 406 | 10 => 444 | n => n, fun | 23 => 451 | 26 => 9 | 3 => 331 | 28 => 461 | 0 => 0 | 27 => 460 | 33 => 512 | 4 => 4 | n => n, fun | n => n⟩
theorem keysS : Go.Proofs.SlLaysZ.n7 Tryz.prog keysS_ren := {
  mixed := by kernel_rfl
  f7 := ⟨Tryz.f406.name, by decide, Tryz.func406.trans (congrArg some (by kernel_rfl))⟩
  f10 := ⟨Tryz.f444.name, by decide, Tryz.func444.trans (congrArg some (by kernel_rfl))⟩
  t0 := Tryz.underlying0
  a0 := Tryz.isAgg0
  z0 := Tryz.sizeOf0
  v0 := Tryz.zeroValue0
  t4 := Tryz.underlying4
  a4 := Tryz.isAgg4
  z4 := Tryz.sizeOf4
  v4 := Tryz.zeroValue4
  t23 := Tryz.underlying451
  a23 := Tryz.isAgg451
  z23 := Tryz.sizeOf451
  v23 := Tryz.zeroValue451
  t26 := Tryz.underlying9
  a26 := Tryz.isAgg9
  z26 := Tryz.sizeOf9
  v26 := Tryz.zeroValue9
  t27 := Tryz.underlying460
  a27 := Tryz.isAgg460
  z27 := Tryz.sizeOf460
  v27 := Tryz.zeroValue460
  t28 := Tryz.underlying461
  a28 := Tryz.isAgg461
  z28 := Tryz.sizeOf461
  v28 := Tryz.zeroValue461
  t33 := Tryz.underlying512
  a33 := Tryz.isAgg512
  z33 := Tryz.sizeOf512
  v33 := Tryz.zeroValue512 }
def sortedS_ren : Go.Shelf.Ren := ⟨fun | 6 => 345 | 8 => 408 | 9 => 409 | 11 => 446 | 13 => 151 | 12 => 447 | 23 => 265 | 24 => 266 | 14 => 469 | 15 => 470 | 16 => 471 | 17 => 472 | 18 => 473 | 19 => 474 | 20 => 475 | 21 => 476 | 22 => 477 | 25 => 488 | 26 => 355 | 27 => 356 | 28 => 489 | 29 => 490 | 30 => 445 | 31 => 500 | n => n, fun | 26 => 9 | 28 => 461 | 24 => 224 | 0 => 0 | 3 => 3 | 37 => 257 | 48 => 390 | 50 => 76 | 4 => 4 | 40 => 384 | 39 => 383 | 45 => 85 | 5 => 5 | 9 => 9 | 51 => 466 | 55 => 230 | 57 => 518 | 58 => 482 | 33 => 512 | n => n, fun | n => n⟩
theorem sortedS : Go.Proofs.SlLaysZ.n6 Tryz.prog sortedS_ren := {
  mixed := by kernel_rfl
  f6 := ⟨Tryz.f345.name, by decide, Tryz.func345.trans (congrArg some (by kernel_rfl))⟩
  f8 := ⟨Tryz.f408.name, by decide, Tryz.func408.trans (congrArg some (by kernel_rfl))⟩
  f11 := ⟨Tryz.f446.name, by decide, Tryz.func446.trans (congrArg some (by kernel_rfl))⟩
  t0 := Tryz.underlying0
  a0 := Tryz.isAgg0
  z0 := Tryz.sizeOf0
  v0 := Tryz.zeroValue0
  t24 := Tryz.underlying224
  a24 := Tryz.isAgg224
  z24 := Tryz.sizeOf224
  v24 := Tryz.zeroValue224
  t26 := Tryz.underlying9
  a26 := Tryz.isAgg9
  z26 := Tryz.sizeOf9
  v26 := Tryz.zeroValue9
  t28 := Tryz.underlying461
  a28 := Tryz.isAgg461
  z28 := Tryz.sizeOf461
  v28 := Tryz.zeroValue461
  i26 := by kernel_rfl }
def sortS_ren : Go.Shelf.Ren := ⟨fun | 6 => 409 | 8 => 151 | 9 => 447 | 19 => 265 | 20 => 266 | 21 => 469 | 22 => 470 | 23 => 471 | 24 => 472 | 25 => 473 | 26 => 474 | 27 => 475 | 28 => 476 | 29 => 477 | 36 => 488 | 31 => 355 | 32 => 356 | 37 => 489 | 38 => 490 | 39 => 445 | 41 => 500 | n => n, fun | 27 => 224 | 29 => 9 | 3 => 3 | 32 => 257 | 26 => 224 | 0 => 0 | 44 => 390 | 46 => 76 | 4 => 4 | 36 => 384 | 35 => 383 | 41 => 85 | 5 => 5 | 9 => 9 | 53 => 466 | 57 => 230 | 63 => 518 | 64 => 482 | n => n, fun | n => n⟩
theorem sortS : Go.Proofs.SlLaysM.n6 Tryz.prog sortS_ren := {
  mixed := by kernel_rfl
  f6 := ⟨Tryz.f409.name, by decide, Tryz.func409.trans (congrArg some (by kernel_rfl))⟩
  f8 := Tryz.func151.trans (congrArg some (by kernel_rfl))
  f9 := ⟨Tryz.f447.name, by decide, Tryz.func447.trans (congrArg some (by kernel_rfl))⟩
  f19 := Tryz.func265.trans (congrArg some (by kernel_rfl))
  f20 := Tryz.func266.trans (congrArg some (by kernel_rfl))
  f21 := ⟨Tryz.f469.name, by decide, Tryz.func469.trans (congrArg some (by kernel_rfl))⟩
  f22 := ⟨Tryz.f470.name, by decide, Tryz.func470.trans (congrArg some (by kernel_rfl))⟩
  f23 := ⟨Tryz.f471.name, by decide, Tryz.func471.trans (congrArg some (by kernel_rfl))⟩
  f24 := ⟨Tryz.f472.name, by decide, Tryz.func472.trans (congrArg some (by kernel_rfl))⟩
  f25 := ⟨Tryz.f473.name, by decide, Tryz.func473.trans (congrArg some (by kernel_rfl))⟩
  f26 := ⟨Tryz.f474.name, by decide, Tryz.func474.trans (congrArg some (by kernel_rfl))⟩
  f27 := ⟨Tryz.f475.name, by decide, Tryz.func475.trans (congrArg some (by kernel_rfl))⟩
  f28 := ⟨Tryz.f476.name, by decide, Tryz.func476.trans (congrArg some (by kernel_rfl))⟩
  f29 := ⟨Tryz.f477.name, by decide, Tryz.func477.trans (congrArg some (by kernel_rfl))⟩
  f31 := Tryz.func355.trans (congrArg some (by kernel_rfl))
  f32 := Tryz.func356.trans (congrArg some (by kernel_rfl))
  f36 := ⟨Tryz.f488.name, by decide, Tryz.func488.trans (congrArg some (by kernel_rfl))⟩
  f37 := ⟨Tryz.f489.name, by decide, Tryz.func489.trans (congrArg some (by kernel_rfl))⟩
  f38 := ⟨Tryz.f490.name, by decide, Tryz.func490.trans (congrArg some (by kernel_rfl))⟩
  f39 := ⟨Tryz.f445.name, by decide, Tryz.func445.trans (congrArg some (by kernel_rfl))⟩
  f41 := ⟨Tryz.f500.name, by decide, Tryz.func500.trans (congrArg some (by kernel_rfl))⟩
  t0 := Tryz.underlying0
  a0 := Tryz.isAgg0
  z0 := Tryz.sizeOf0
  v0 := Tryz.zeroValue0
  t3 := Tryz.underlying3
  a3 := Tryz.isAgg3
  z3 := Tryz.sizeOf3
  v3 := Tryz.zeroValue3
  t4 := Tryz.underlying4
  a4 := Tryz.isAgg4
  z4 := Tryz.sizeOf4
  v4 := Tryz.zeroValue4
  t5 := Tryz.underlying5
  a5 := Tryz.isAgg5
  z5 := Tryz.sizeOf5
  v5 := Tryz.zeroValue5
  t9 := Tryz.underlying9
  a9 := Tryz.isAgg9
  z9 := Tryz.sizeOf9
  v9 := Tryz.zeroValue9
  t26 := Tryz.underlying224
  a26 := Tryz.isAgg224
  z26 := Tryz.sizeOf224
  v26 := Tryz.zeroValue224
  t27 := Tryz.underlying224
  a27 := Tryz.isAgg224
  z27 := Tryz.sizeOf224
  v27 := Tryz.zeroValue224
  t29 := Tryz.underlying9
  a29 := Tryz.isAgg9
  z29 := Tryz.sizeOf9
  v29 := Tryz.zeroValue9
  t32 := Tryz.underlying257
  a32 := Tryz.isAgg257
  z32 := Tryz.sizeOf257
  v32 := Tryz.zeroValue257
  t35 := Tryz.underlying383
  a35 := Tryz.isAgg383
  z35 := Tryz.sizeOf383
  v35 := Tryz.zeroValue383
  t36 := Tryz.underlying384
  a36 := Tryz.isAgg384
  z36 := Tryz.sizeOf384
  v36 := Tryz.zeroValue384
  t41 := Tryz.underlying85
  a41 := Tryz.isAgg85
  z41 := Tryz.sizeOf85
  v41 := Tryz.zeroValue85
  t44 := Tryz.underlying390
  a44 := Tryz.isAgg390
  z44 := Tryz.sizeOf390
  v44 := Tryz.zeroValue390
  t46 := Tryz.underlying76
  a46 := Tryz.isAgg76
  z46 := Tryz.sizeOf76
  v46 := Tryz.zeroValue76
  t53 := Tryz.underlying466
  a53 := Tryz.isAgg466
  z53 := Tryz.sizeOf466
  v53 := Tryz.zeroValue466
  t57 := Tryz.underlying230
  a57 := Tryz.isAgg230
  z57 := Tryz.sizeOf230
  v57 := Tryz.zeroValue230
  t63 := Tryz.underlying518
  a63 := Tryz.isAgg518
  z63 := Tryz.sizeOf518
  v63 := Tryz.zeroValue518
  t64 := Tryz.underlying482
  a64 := Tryz.isAgg482
  z64 := Tryz.sizeOf482
  v64 := Tryz.zeroValue482 }
def lays137_ren : Go.Shelf.Ren := ⟨fun | 137 => 499 | 217 => 501 | 266 => 502 | n => n, fun | 9 => 9 | 5 => 5 | 3 => 3 | n => n, fun | n => n⟩
theorem lays137 : Go.Proofs.Lays.n137 Tryz.prog lays137_ren := {
  mixed := by kernel_rfl
  f137 := Tryz.func499.trans (congrArg some (by kernel_rfl))
  f217 := Tryz.func501.trans (congrArg some (by kernel_rfl))
  f266 := Tryz.func502.trans (congrArg some (by kernel_rfl))
  t3 := Tryz.underlying3
  a3 := Tryz.isAgg3
  z3 := Tryz.sizeOf3
  v3 := Tryz.zeroValue3
  t5 := Tryz.underlying5
  a5 := Tryz.isAgg5
  z5 := Tryz.sizeOf5
  v5 := Tryz.zeroValue5
  t9 := Tryz.underlying9
  a9 := Tryz.isAgg9
  z9 := Tryz.sizeOf9
  v9 := Tryz.zeroValue9 }

theorem sortsA (m : Nat) : AnyZI.SortsIn Tryz.prog sortedA_ren Fence.wide m :=
  ⟨fun blk off cap ss W hH hblk hsz => callsIn_wide.2 (AnyM.slices_Sort_int sortA blk off cap ss W hH hblk hsz),
   fun p cap W => callsIn_wide.2 (AnyM.slices_Sort_int_none sortA p cap W)⟩
/-- slices.Sorted of what maps.Keys hands back, ints. -/
theorem sorted_keys (Bm b nn : Nat) (D : DataW Unit) (w : World) (hBm : Bm < w.heap.size) (hm : w.cell? ⟨Bm, 0, none⟩ = some (.map (some b))) (hown : w.ownsMap Tryz.prog 3 (fun _ => some (.nil, [])) b nn D) (hmax : Maps.size D ≤ 1000000) :
    Calls Tryz.prog 26 #[.func (.func 322) #[] #[.pointer (some ⟨Bm, 0, none⟩)]] w fun ed w' => ∃ (v : Value) (ss : List Int), ed = .returned v ∧ ss.Perm (intKeys D) ∧
      w'.ownsRow w.heap.size 3 1 v ss.length ((ss.mergeSort (fun x y => decide (x ≤ y))).map encZ) ∧ (v = .slice none 0 0 ↔ ss = []) ∧ Below w.heap.size w w' := by
  have hseq : SeqGives Fence.wide 2 Tryz.prog 322 #[.pointer (some ⟨Bm, 0, none⟩)] encZ (fun ss => ss.Perm (intKeys D)) (Maps.size D) w :=
    AnyZI.keys_gives (ρ := keysA_ren) { keysA with } Fence.wide _ trivial rfl (by omega) Bm b nn D _ hBm hm hown
  have cS := AnyZI.sorted_in (n := 5) sortedA Fence.wide trivial trivial trivial trivial rfl (by omega) (sortsA _) (enters_of Tryz.func78 (by kernel_rfl) rfl) 322 #[.pointer (some ⟨Bm, 0, none⟩)] trivial (enters_of Tryz.func322 (by kernel_rfl) rfl) _ (Maps.size D) (by unfold maxLen; omega) (by omega) w hseq
  change CallsIn _ _ Tryz.prog 26 _ _ _ at cS
  exact callsIn_wide.1 cS

theorem sortsS (m : Nat) : AnyZ.SortsIn Tryz.prog sortedS_ren Fence.wide m :=
  ⟨fun blk off cap ss W hH hblk hsz => callsIn_wide.2 (AnyM.slices_Sort_string sortS blk off cap ss W hH hblk hsz),
   fun p cap W => callsIn_wide.2 (AnyM.slices_Sort_string_none sortS p cap W)⟩
/-- slices.Sorted of what maps.Keys hands back, strings. -/
theorem sorted_keysS (Bm b nn : Nat) (D : DataW Unit) (w : World) (hBm : Bm < w.heap.size) (hm : w.cell? ⟨Bm, 0, none⟩ = some (.map (some b))) (hown : w.ownsMap Tryz.prog 9 (fun _ => some (.nil, [])) b nn D) (hmax : Maps.size D ≤ 1000000) :
    Calls Tryz.prog 345 #[.func (.func 444) #[] #[.pointer (some ⟨Bm, 0, none⟩)]] w fun ed w' => ∃ (v : Value) (ss : List (List UInt8)), ed = .returned v ∧ ss.Perm (strKeys D) ∧
      w'.ownsRow w.heap.size 9 1 v ss.length ((ss.mergeSort (fun x y => decide (x ≤ y))).map encStr) ∧ (v = .slice none 0 0 ↔ ss = []) ∧ Below w.heap.size w w' := by
  have hseq : SeqGives Fence.wide 2 Tryz.prog 444 #[.pointer (some ⟨Bm, 0, none⟩)] encStr (fun ss => ss.Perm (strKeys D)) (Maps.size D) w :=
    AnyZ.keys_gives (ρ := keysS_ren) { keysS with } Fence.wide _ trivial rfl (by omega) Bm b nn D _ hBm hm hown
  have cS := AnyZ.sorted_in (n := 5) sortedS Fence.wide trivial trivial trivial trivial rfl (by omega) (sortsS _) (enters_of Tryz.func409 (by kernel_rfl) rfl) 444 #[.pointer (some ⟨Bm, 0, none⟩)] trivial (enters_of Tryz.func444 (by kernel_rfl) rfl) _ (Maps.size D) (by unfold maxLen; omega) (by omega) w hseq
  change CallsIn _ _ Tryz.prog 345 _ _ _ at cS
  exact callsIn_wide.1 cS

theorem index_byte (s : ByteArray) (c : Int) (w : World) : Calls Tryz.prog 499 #[.string s, .int .u8 c] w fun e w' => e = .returned (.int .i64 (Lib.indexByte s.data.toList c.toNat.toUInt8)) ∧ w' = w := Any.strings_IndexByte lays137 s c w

set_option maxHeartbeats 1000000 in
set_option maxRecDepth 100000 in
/-- The deferred function asks for a panic, and finds none. -/
theorem recover_idle (x y : Value) (w : World) : CallsDIn Fence.wide 0 Tryz.prog 234 #[x, y] .returning w fun e u' w' => e = .returned (.tuple #[]) ∧ u' = .returning ∧ w' = w := by
  have he : ∀ w : World, (binOp .eql 20 .nilIface .nilIface).run Tryz.prog w = .ok (.bool true) w := fun _ => by kernel_rfl
  refine callsDIn_of_wpSIn Tryz.func234 rfl trivial fun c₀ cs hu => ?_
  apply wpSIn_seq
  apply wpSIn_region
  simp [wpOpsSIn, go_sem, recoverD, hu, Tryz.ntmps234, Exit.thenS]
  refine wpSIn_of_wpIn rfl ?_
  gi_wp2
  cases c₀
  simp_all [bodyPostS, results, Tryz.results234]
noncomputable def dfd : AX.T (List AX.AV → AX.Hp → Nat → Option (AX.AV × AX.Hp × Nat)) := AX.T.set .leaf 234 (AX.idleA 2)
theorem dfdOk {x : AX.T Nat} {y : AX.T (List AX.AV → AX.Hp → Nat → Option (AX.AV × AX.Hp × Nat))} {gl : AX.T AX.Cells} {b : Bool} : AX.DfdOk ⟨Tryz.prog, gl, x, y, dfd, b⟩ :=
  AX.idle_ok ⟨_, _, Tryz.func234, rfl⟩ fun args w h => by
    obtain ⟨l⟩ := args
    match l, h with
    | [x, y], _ => exact recover_idle x y w

def nums : List Int := [0, 1, 56, 2, 57, 49, 28, 3, 61, 58, 42, 50, 38, 29, 17, 4, 62, 47, 59, 36, 45, 43, 51, 22, 53, 39, 33, 30, 24, 18, 12, 5, 63, 55, 48, 27, 60, 41, 37, 16, 46, 35, 44, 21, 52, 32, 23, 11, 54, 26, 40, 15, 34, 20, 31, 10, 25, 14, 19, 9, 13, 8, 7, 6]
noncomputable def glob : AX.T AX.Cells := AX.T.set .leaf 0 (AX.ofL (nums.map fun n => AX.AV.int .u8 n))
noncomputable def tab0 : AX.T (List AX.AV → AX.Hp → Nat → Option (AX.AV × AX.Hp × Nat)) := (((((AX.T.leaf.set 26 (AX.sortedA 322)).set 345 (AX.sortedSA 444)).set 333 AX.minA).set 118 AX.maxA).set 499 AX.indexByteA)
set_option maxRecDepth 100000 in
theorem pOk : AX.POk Tryz.prog := AX.POk.of (by kernel_rfl) (by kernel_rfl)
theorem dfdAll : ∀ s, AX.DfdOk (AX.ctxOf Tryz.prog glob dfd s) := fun _ => dfdOk
theorem tab0_ok : AX.TabOk Tryz.prog glob dfd tab0 := fun _ => (AX.orc_set (AX.indexByteA_good ⟨_, _, Tryz.func499, rfl⟩ index_byte) (AX.orc_set (AX.maxA_good ⟨_, _, Tryz.func118, rfl⟩ slices_Max_int) (AX.orc_set (AX.minA_good ⟨_, _, Tryz.func333, rfl⟩ slices_Min_int) (AX.orc_set (AX.sortedSA_good (k := 9) (e := 9) Tryz.underlying9 ⟨_, _, Tryz.func345, rfl⟩ sorted_keysS) (AX.orc_set (AX.sortedA_good (k := 3) (e := 3) Tryz.underlying3 ⟨_, _, Tryz.func26, rfl⟩ sorted_keys) AX.orc_leaf)))))
set_option maxRecDepth 100000 in
theorem numsAt {W : World} (h : laidMetH Tryz.prog [("math/bits.deBruijn64tab", Rows.laid_math_bits_deBruijn64tab)] W) : AX.numsAt W 0 .u8 nums := by
  rw [MakeChecks.laidMetH_plain _ _ _ (by kernel_rfl)] at h
  obtain ⟨ps, h, _⟩ := h
  exact AX.numsAt_of_laid (n := 64) (e := 5) (t := 371) (by kernel_rfl) (by kernel_rfl) Tryz.underlying371 Tryz.underlying5 (by kernel_rfl) (by kernel_rfl) h
end Go.Proofs.YtaiajgkhikcafaaGreatDoor
