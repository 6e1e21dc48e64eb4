/- What is known ahead of the run: slices.Min, slices.Max, slices.Sorted of maps.Keys; a deferred function that finds no panic. -/
import Derived.Test.YtofbididjcnecaaGreatDoorProg
import Derived.Test.YtofbididjcnecaaGreatDoorRows
import Derived.ProofKit
import Derived.OpenShut
import Derived.LaidMore
import Derived.Test.YtofbididjcnecaaGreatDoorMm
import Derived.Test.YtofbididjcnecaaGreatDoorOx6
import Derived.Test.YtofbididjcnecaaGreatDoorOx2
import Derived.Test.YtofbididjcnecaaGreatDoorOx3
import Derived.Shelf.SlIterI.Nil
import Derived.Shelf.SlIter.Nil
import Derived.Shelf.SortM.Plain
import Derived.Shelf.SortM.SortNone
import Derived.Ground.GgzProg
import Derived.Ground.SlgmProg
import Derived.RecoverIn
import Derived.TacticsInMore
import Derived.Tactics2
import Derived.LoopNIn
import Derived.RegionIn
import Derived.Laws.Pointers
import Derived.KernelRfl
import Derived.Shelf.Strings.Search1
import Derived.Shelf.Small.Strs
import Derived.Test.YtofbididjcnecaaGreatDoorOx7
namespace Go.Proofs.YtofbididjcnecaaGreatDoor
open Go.Proofs Go.RowKit Go.Maps Go.Sort Go.Shelf
def keysA_ren : Go.Shelf.Ren := ⟨fun | 7 => 282 | 10 => 360 | n => n, fun | 23 => 387 | 26 => 3 | 3 => 394 | 28 => 90 | 0 => 0 | 27 => 89 | 33 => 167 | 4 => 4 | n => n, fun | n => n⟩
theorem keysA : Go.Proofs.SlLaysZI.n7 Tryz.prog keysA_ren := {
  mixed := by kernel_rfl
  f7 := ⟨Tryz.f282.name, by decide, Tryz.func282.trans (congrArg some (by kernel_rfl))⟩
  f10 := ⟨Tryz.f360.name, by decide, Tryz.func360.trans (congrArg some (by kernel_rfl))⟩
  t0 := Tryz.underlying0
  a0 := Tryz.isAgg0
  z0 := Tryz.sizeOf0
  v0 := Tryz.zeroValue0
  t4 := Tryz.underlying4
  a4 := Tryz.isAgg4
  z4 := Tryz.sizeOf4
  v4 := Tryz.zeroValue4
  t23 := Tryz.underlying387
  a23 := Tryz.isAgg387
  z23 := Tryz.sizeOf387
  v23 := Tryz.zeroValue387
  t26 := Tryz.underlying3
  a26 := Tryz.isAgg3
  z26 := Tryz.sizeOf3
  v26 := Tryz.zeroValue3
  t27 := Tryz.underlying89
  a27 := Tryz.isAgg89
  z27 := Tryz.sizeOf89
  v27 := Tryz.zeroValue89
  t28 := Tryz.underlying90
  a28 := Tryz.isAgg90
  z28 := Tryz.sizeOf90
  v28 := Tryz.zeroValue90
  t33 := Tryz.underlying167
  a33 := Tryz.isAgg167
  z33 := Tryz.sizeOf167
  v33 := Tryz.zeroValue167 }
def sortedA_ren : Go.Shelf.Ren := ⟨fun | 6 => 32 | 8 => 87 | 9 => 88 | 11 => 168 | 13 => 170 | 12 => 169 | 23 => 268 | 24 => 269 | 14 => 259 | 15 => 260 | 16 => 261 | 17 => 262 | 18 => 263 | 19 => 264 | 20 => 265 | 21 => 266 | 22 => 267 | 25 => 345 | 26 => 346 | 27 => 347 | 28 => 348 | 29 => 349 | 30 => 252 | 31 => 404 | n => n, fun | 26 => 3 | 28 => 90 | 24 => 32 | 0 => 0 | 3 => 3 | 37 => 294 | 48 => 378 | 50 => 85 | 4 => 4 | 40 => 372 | 39 => 371 | 45 => 68 | 5 => 5 | 9 => 9 | 51 => 446 | 55 => 269 | 57 => 504 | 58 => 424 | 33 => 167 | n => n, fun | n => n⟩
theorem sortedA : Go.Proofs.SlLaysZI.n6 Tryz.prog sortedA_ren := {
  mixed := by kernel_rfl
  f6 := ⟨Tryz.f32.name, by decide, Tryz.func32.trans (congrArg some (by kernel_rfl))⟩
  f8 := ⟨Tryz.f87.name, by decide, Tryz.func87.trans (congrArg some (by kernel_rfl))⟩
  f11 := ⟨Tryz.f168.name, by decide, Tryz.func168.trans (congrArg some (by kernel_rfl))⟩
  t0 := Tryz.underlying0
  a0 := Tryz.isAgg0
  z0 := Tryz.sizeOf0
  v0 := Tryz.zeroValue0
  t24 := Tryz.underlying32
  a24 := Tryz.isAgg32
  z24 := Tryz.sizeOf32
  v24 := Tryz.zeroValue32
  t26 := Tryz.underlying3
  a26 := Tryz.isAgg3
  z26 := Tryz.sizeOf3
  v26 := Tryz.zeroValue3
  t28 := Tryz.underlying90
  a28 := Tryz.isAgg90
  z28 := Tryz.sizeOf90
  v28 := Tryz.zeroValue90
  i26 := by kernel_rfl }
def sortA_ren : Go.Shelf.Ren := ⟨fun | 5 => 88 | 8 => 170 | 7 => 169 | 19 => 268 | 20 => 269 | 10 => 259 | 11 => 260 | 12 => 261 | 13 => 262 | 14 => 263 | 15 => 264 | 16 => 265 | 17 => 266 | 18 => 267 | 30 => 345 | 31 => 346 | 32 => 347 | 33 => 348 | 34 => 349 | 35 => 252 | 40 => 404 | n => n, fun | 23 => 32 | 25 => 3 | 3 => 3 | 32 => 294 | 22 => 32 | 0 => 0 | 44 => 378 | 46 => 85 | 4 => 4 | 36 => 372 | 35 => 371 | 41 => 68 | 5 => 5 | 9 => 9 | 53 => 446 | 57 => 269 | 63 => 504 | 64 => 424 | n => n, fun | n => n⟩
theorem sortA : Go.Proofs.SlLaysM.n5 Tryz.prog sortA_ren := {
  mixed := by kernel_rfl
  f5 := ⟨Tryz.f88.name, by decide, Tryz.func88.trans (congrArg some (by kernel_rfl))⟩
  f7 := ⟨Tryz.f169.name, by decide, Tryz.func169.trans (congrArg some (by kernel_rfl))⟩
  f8 := Tryz.func170.trans (congrArg some (by kernel_rfl))
  f10 := ⟨Tryz.f259.name, by decide, Tryz.func259.trans (congrArg some (by kernel_rfl))⟩
  f11 := ⟨Tryz.f260.name, by decide, Tryz.func260.trans (congrArg some (by kernel_rfl))⟩
  f12 := ⟨Tryz.f261.name, by decide, Tryz.func261.trans (congrArg some (by kernel_rfl))⟩
  f13 := ⟨Tryz.f262.name, by decide, Tryz.func262.trans (congrArg some (by kernel_rfl))⟩
  f14 := ⟨Tryz.f263.name, by decide, Tryz.func263.trans (congrArg some (by kernel_rfl))⟩
  f15 := ⟨Tryz.f264.name, by decide, Tryz.func264.trans (congrArg some (by kernel_rfl))⟩
  f16 := ⟨Tryz.f265.name, by decide, Tryz.func265.trans (congrArg some (by kernel_rfl))⟩
  f17 := ⟨Tryz.f266.name, by decide, Tryz.func266.trans (congrArg some (by kernel_rfl))⟩
  f18 := ⟨Tryz.f267.name, by decide, Tryz.func267.trans (congrArg some (by kernel_rfl))⟩
  f19 := Tryz.func268.trans (congrArg some (by kernel_rfl))
  f20 := Tryz.func269.trans (congrArg some (by kernel_rfl))
  f30 := ⟨Tryz.f345.name, by decide, Tryz.func345.trans (congrArg some (by kernel_rfl))⟩
  f31 := Tryz.func346.trans (congrArg some (by kernel_rfl))
  f32 := Tryz.func347.trans (congrArg some (by kernel_rfl))
  f33 := ⟨Tryz.f348.name, by decide, Tryz.func348.trans (congrArg some (by kernel_rfl))⟩
  f34 := ⟨Tryz.f349.name, by decide, Tryz.func349.trans (congrArg some (by kernel_rfl))⟩
  f35 := ⟨Tryz.f252.name, by decide, Tryz.func252.trans (congrArg some (by kernel_rfl))⟩
  f40 := ⟨Tryz.f404.name, by decide, Tryz.func404.trans (congrArg some (by kernel_rfl))⟩
  t0 := Tryz.underlying0
  a0 := Tryz.isAgg0
  z0 := Tryz.sizeOf0
  v0 := Tryz.zeroValue0
  t3 := Tryz.underlying3
  a3 := Tryz.isAgg3
  z3 := Tryz.sizeOf3
  v3 := Tryz.zeroValue3
  t4 := Tryz.underlying4
  a4 := Tryz.isAgg4
  z4 := Tryz.sizeOf4
  v4 := Tryz.zeroValue4
  t5 := Tryz.underlying5
  a5 := Tryz.isAgg5
  z5 := Tryz.sizeOf5
  v5 := Tryz.zeroValue5
  t9 := Tryz.underlying9
  a9 := Tryz.isAgg9
  z9 := Tryz.sizeOf9
  v9 := Tryz.zeroValue9
  t22 := Tryz.underlying32
  a22 := Tryz.isAgg32
  z22 := Tryz.sizeOf32
  v22 := Tryz.zeroValue32
  t23 := Tryz.underlying32
  a23 := Tryz.isAgg32
  z23 := Tryz.sizeOf32
  v23 := Tryz.zeroValue32
  t25 := Tryz.underlying3
  a25 := Tryz.isAgg3
  z25 := Tryz.sizeOf3
  v25 := Tryz.zeroValue3
  t32 := Tryz.underlying294
  a32 := Tryz.isAgg294
  z32 := Tryz.sizeOf294
  v32 := Tryz.zeroValue294
  t35 := Tryz.underlying371
  a35 := Tryz.isAgg371
  z35 := Tryz.sizeOf371
  v35 := Tryz.zeroValue371
  t36 := Tryz.underlying372
  a36 := Tryz.isAgg372
  z36 := Tryz.sizeOf372
  v36 := Tryz.zeroValue372
  t41 := Tryz.underlying68
  a41 := Tryz.isAgg68
  z41 := Tryz.sizeOf68
  v41 := Tryz.zeroValue68
  t44 := Tryz.underlying378
  a44 := Tryz.isAgg378
  z44 := Tryz.sizeOf378
  v44 := Tryz.zeroValue378
  t46 := Tryz.underlying85
  a46 := Tryz.isAgg85
  z46 := Tryz.sizeOf85
  v46 := Tryz.zeroValue85
  t53 := Tryz.underlying446
  a53 := Tryz.isAgg446
  z53 := Tryz.sizeOf446
  v53 := Tryz.zeroValue446
  t57 := Tryz.underlying269
  a57 := Tryz.isAgg269
  z57 := Tryz.sizeOf269
  v57 := Tryz.zeroValue269
  t63 := Tryz.underlying504
  a63 := Tryz.isAgg504
  z63 := Tryz.sizeOf504
  v63 := Tryz.zeroValue504
  t64 := Tryz.underlying424
  a64 := Tryz.isAgg424
  z64 := Tryz.sizeOf424
  v64 := Tryz.zeroValue424 }
def keysS_ren : Go.Shelf.Ren := ⟨fun | 7 => 423 | 10 => 455 | n => n, fun | 23 => 479 | 26 => 9 | 3 => 394 | 28 => 488 | 0 => 0 | 27 => 487 | 33 => 528 | 4 => 4 | n => n, fun | n => n⟩
theorem keysS : Go.Proofs.SlLaysZ.n7 Tryz.prog keysS_ren := {
  mixed := by kernel_rfl
  f7 := ⟨Tryz.f423.name, by decide, Tryz.func423.trans (congrArg some (by kernel_rfl))⟩
  f10 := ⟨Tryz.f455.name, by decide, Tryz.func455.trans (congrArg some (by kernel_rfl))⟩
  t0 := Tryz.underlying0
  a0 := Tryz.isAgg0
  z0 := Tryz.sizeOf0
  v0 := Tryz.zeroValue0
  t4 := Tryz.underlying4
  a4 := Tryz.isAgg4
  z4 := Tryz.sizeOf4
  v4 := Tryz.zeroValue4
  t23 := Tryz.underlying479
  a23 := Tryz.isAgg479
  z23 := Tryz.sizeOf479
  v23 := Tryz.zeroValue479
  t26 := Tryz.underlying9
  a26 := Tryz.isAgg9
  z26 := Tryz.sizeOf9
  v26 := Tryz.zeroValue9
  t27 := Tryz.underlying487
  a27 := Tryz.isAgg487
  z27 := Tryz.sizeOf487
  v27 := Tryz.zeroValue487
  t28 := Tryz.underlying488
  a28 := Tryz.isAgg488
  z28 := Tryz.sizeOf488
  v28 := Tryz.zeroValue488
  t33 := Tryz.underlying528
  a33 := Tryz.isAgg528
  z33 := Tryz.sizeOf528
  v33 := Tryz.zeroValue528 }
def sortedS_ren : Go.Shelf.Ren := ⟨fun | 6 => 383 | 8 => 425 | 9 => 426 | 11 => 457 | 13 => 170 | 12 => 458 | 23 => 268 | 24 => 269 | 14 => 477 | 15 => 478 | 16 => 479 | 17 => 480 | 18 => 481 | 19 => 482 | 20 => 483 | 21 => 484 | 22 => 485 | 25 => 496 | 26 => 346 | 27 => 347 | 28 => 497 | 29 => 498 | 30 => 456 | 31 => 500 | n => n, fun | 26 => 9 | 28 => 488 | 24 => 221 | 0 => 0 | 3 => 3 | 37 => 294 | 48 => 378 | 50 => 85 | 4 => 4 | 40 => 372 | 39 => 371 | 45 => 68 | 5 => 5 | 9 => 9 | 51 => 446 | 55 => 269 | 57 => 504 | 58 => 424 | 33 => 528 | n => n, fun | n => n⟩
theorem sortedS : Go.Proofs.SlLaysZ.n6 Tryz.prog sortedS_ren := {
  mixed := by kernel_rfl
  f6 := ⟨Tryz.f383.name, by decide, Tryz.func383.trans (congrArg some (by kernel_rfl))⟩
  f8 := ⟨Tryz.f425.name, by decide, Tryz.func425.trans (congrArg some (by kernel_rfl))⟩
  f11 := ⟨Tryz.f457.name, by decide, Tryz.func457.trans (congrArg some (by kernel_rfl))⟩
  t0 := Tryz.underlying0
  a0 := Tryz.isAgg0
  z0 := Tryz.sizeOf0
  v0 := Tryz.zeroValue0
  t24 := Tryz.underlying221
  a24 := Tryz.isAgg221
  z24 := Tryz.sizeOf221
  v24 := Tryz.zeroValue221
  t26 := Tryz.underlying9
  a26 := Tryz.isAgg9
  z26 := Tryz.sizeOf9
  v26 := Tryz.zeroValue9
  t28 := Tryz.underlying488
  a28 := Tryz.isAgg488
  z28 := Tryz.sizeOf488
  v28 := Tryz.zeroValue488
  i26 := by kernel_rfl }
def sortS_ren : Go.Shelf.Ren := ⟨fun | 6 => 426 | 8 => 170 | 9 => 458 | 19 => 268 | 20 => 269 | 21 => 477 | 22 => 478 | 23 => 479 | 24 => 480 | 25 => 481 | 26 => 482 | 27 => 483 | 28 => 484 | 29 => 485 | 36 => 496 | 31 => 346 | 32 => 347 | 37 => 497 | 38 => 498 | 39 => 456 | 41 => 500 | n => n, fun | 27 => 221 | 29 => 9 | 3 => 3 | 32 => 294 | 26 => 221 | 0 => 0 | 44 => 378 | 46 => 85 | 4 => 4 | 36 => 372 | 35 => 371 | 41 => 68 | 5 => 5 | 9 => 9 | 53 => 446 | 57 => 269 | 63 => 504 | 64 => 424 | n => n, fun | n => n⟩
theorem sortS : Go.Proofs.SlLaysM.n6 Tryz.prog sortS_ren := {
  mixed := by kernel_rfl
  f6 := ⟨Tryz.f426.name, by decide, Tryz.func426.trans (congrArg some (by kernel_rfl))⟩
  f8 := Tryz.func170.trans (congrArg some (by kernel_rfl))
  f9 := ⟨Tryz.f458.name, by decide, Tryz.func458.trans (congrArg some (by kernel_rfl))⟩
  f19 := Tryz.func268.trans (congrArg some (by kernel_rfl))
  f20 := Tryz.func269.trans (congrArg some (by kernel_rfl))
  f21 := ⟨Tryz.f477.name, by decide, Tryz.func477.trans (congrArg some (by kernel_rfl))⟩
  f22 := ⟨Tryz.f478.name, by decide, Tryz.func478.trans (congrArg some (by kernel_rfl))⟩
  f23 := ⟨Tryz.f479.name, by decide, Tryz.func479.trans (congrArg some (by kernel_rfl))⟩
  f24 := ⟨Tryz.f480.name, by decide, Tryz.func480.trans (congrArg some (by kernel_rfl))⟩
  f25 := ⟨Tryz.f481.name, by decide, Tryz.func481.trans (congrArg some (by kernel_rfl))⟩
  f26 := ⟨Tryz.f482.name, by decide, Tryz.func482.trans (congrArg some (by kernel_rfl))⟩
  f27 := ⟨Tryz.f483.name, by decide, Tryz.func483.trans (congrArg some (by kernel_rfl))⟩
  f28 := ⟨Tryz.f484.name, by decide, Tryz.func484.trans (congrArg some (by kernel_rfl))⟩
  f29 := ⟨Tryz.f485.name, by decide, Tryz.func485.trans (congrArg some (by kernel_rfl))⟩
  f31 := Tryz.func346.trans (congrArg some (by kernel_rfl))
  f32 := Tryz.func347.trans (congrArg some (by kernel_rfl))
  f36 := ⟨Tryz.f496.name, by decide, Tryz.func496.trans (congrArg some (by kernel_rfl))⟩
  f37 := ⟨Tryz.f497.name, by decide, Tryz.func497.trans (congrArg some (by kernel_rfl))⟩
  f38 := ⟨Tryz.f498.name, by decide, Tryz.func498.trans (congrArg some (by kernel_rfl))⟩
  f39 := ⟨Tryz.f456.name, by decide, Tryz.func456.trans (congrArg some (by kernel_rfl))⟩
  f41 := ⟨Tryz.f500.name, by decide, Tryz.func500.trans (congrArg some (by kernel_rfl))⟩
  t0 := Tryz.underlying0
  a0 := Tryz.isAgg0
  z0 := Tryz.sizeOf0
  v0 := Tryz.zeroValue0
  t3 := Tryz.underlying3
  a3 := Tryz.isAgg3
  z3 := Tryz.sizeOf3
  v3 := Tryz.zeroValue3
  t4 := Tryz.underlying4
  a4 := Tryz.isAgg4
  z4 := Tryz.sizeOf4
  v4 := Tryz.zeroValue4
  t5 := Tryz.underlying5
  a5 := Tryz.isAgg5
  z5 := Tryz.sizeOf5
  v5 := Tryz.zeroValue5
  t9 := Tryz.underlying9
  a9 := Tryz.isAgg9
  z9 := Tryz.sizeOf9
  v9 := Tryz.zeroValue9
  t26 := Tryz.underlying221
  a26 := Tryz.isAgg221
  z26 := Tryz.sizeOf221
  v26 := Tryz.zeroValue221
  t27 := Tryz.underlying221
  a27 := Tryz.isAgg221
  z27 := Tryz.sizeOf221
  v27 := Tryz.zeroValue221
  t29 := Tryz.underlying9
  a29 := Tryz.isAgg9
  z29 := Tryz.sizeOf9
  v29 := Tryz.zeroValue9
  t32 := Tryz.underlying294
  a32 := Tryz.isAgg294
  z32 := Tryz.sizeOf294
  v32 := Tryz.zeroValue294
  t35 := Tryz.underlying371
  a35 := Tryz.isAgg371
  z35 := Tryz.sizeOf371
  v35 := Tryz.zeroValue371
  t36 := Tryz.underlying372
  a36 := Tryz.isAgg372
  z36 := Tryz.sizeOf372
  v36 := Tryz.zeroValue372
  t41 := Tryz.underlying68
  a41 := Tryz.isAgg68
  z41 := Tryz.sizeOf68
  v41 := Tryz.zeroValue68
  t44 := Tryz.underlying378
  a44 := Tryz.isAgg378
  z44 := Tryz.sizeOf378
  v44 := Tryz.zeroValue378
  t46 := Tryz.underlying85
  a46 := Tryz.isAgg85
  z46 := Tryz.sizeOf85
  v46 := Tryz.zeroValue85
  t53 := Tryz.underlying446
  a53 := Tryz.isAgg446
  z53 := Tryz.sizeOf446
  v53 := Tryz.zeroValue446
  t57 := Tryz.underlying269
  a57 := Tryz.isAgg269
  z57 := Tryz.sizeOf269
  v57 := Tryz.zeroValue269
  t63 := Tryz.underlying504
  a63 := Tryz.isAgg504
  z63 := Tryz.sizeOf504
  v63 := Tryz.zeroValue504
  t64 := Tryz.underlying424
  a64 := Tryz.isAgg424
  z64 := Tryz.sizeOf424
  v64 := Tryz.zeroValue424 }
def lays137_ren : Go.Shelf.Ren := ⟨fun | 137 => 499 | 217 => 501 | 266 => 502 | n => n, fun | 9 => 9 | 5 => 5 | 3 => 3 | n => n, fun | n => n⟩
theorem lays137 : Go.Proofs.Lays.n137 Tryz.prog lays137_ren := {
  mixed := by kernel_rfl
  f137 := Tryz.func499.trans (congrArg some (by kernel_rfl))
  f217 := Tryz.func501.trans (congrArg some (by kernel_rfl))
  f266 := Tryz.func502.trans (congrArg some (by kernel_rfl))
  t3 := Tryz.underlying3
  a3 := Tryz.isAgg3
  z3 := Tryz.sizeOf3
  v3 := Tryz.zeroValue3
  t5 := Tryz.underlying5
  a5 := Tryz.isAgg5
  z5 := Tryz.sizeOf5
  v5 := Tryz.zeroValue5
  t9 := Tryz.underlying9
  a9 := Tryz.isAgg9
  z9 := Tryz.sizeOf9
  v9 := Tryz.zeroValue9 }

theorem sortsA (m : Nat) : AnyZI.SortsIn Tryz.prog sortedA_ren Fence.wide m :=
  ⟨fun blk off cap ss W hH hblk hsz => callsIn_wide.2 (AnyM.slices_Sort_int sortA blk off cap ss W hH hblk hsz),
   fun p cap W => callsIn_wide.2 (AnyM.slices_Sort_int_none sortA p cap W)⟩
/-- slices.Sorted of what maps.Keys hands back, ints. -/
theorem sorted_keys (Bm b nn : Nat) (D : DataW Unit) (w : World) (hBm : Bm < w.heap.size) (hm : w.cell? ⟨Bm, 0, none⟩ = some (.map (some b))) (hown : w.ownsMap Tryz.prog 3 (fun _ => some (.nil, [])) b nn D) (hmax : Maps.size D ≤ 1000000) :
    Calls Tryz.prog 32 #[.func (.func 360) #[] #[.pointer (some ⟨Bm, 0, none⟩)]] w fun ed w' => ∃ (v : Value) (ss : List Int), ed = .returned v ∧ ss.Perm (intKeys D) ∧
      w'.ownsRow w.heap.size 3 1 v ss.length ((ss.mergeSort (fun x y => decide (x ≤ y))).map encZ) ∧ (v = .slice none 0 0 ↔ ss = []) ∧ Below w.heap.size w w' := by
  have hseq : SeqGives Fence.wide 2 Tryz.prog 360 #[.pointer (some ⟨Bm, 0, none⟩)] encZ (fun ss => ss.Perm (intKeys D)) (Maps.size D) w :=
    AnyZI.keys_gives (ρ := keysA_ren) { keysA with } Fence.wide _ trivial rfl (by omega) Bm b nn D _ hBm hm hown
  have cS := AnyZI.sorted_in (n := 5) sortedA Fence.wide trivial trivial trivial trivial rfl (by omega) (sortsA _) (enters_of Tryz.func88 (by kernel_rfl) rfl) 360 #[.pointer (some ⟨Bm, 0, none⟩)] trivial (enters_of Tryz.func360 (by kernel_rfl) rfl) _ (Maps.size D) (by unfold maxLen; omega) (by omega) w hseq
  change CallsIn _ _ Tryz.prog 32 _ _ _ at cS
  exact callsIn_wide.1 cS

theorem sortsS (m : Nat) : AnyZ.SortsIn Tryz.prog sortedS_ren Fence.wide m :=
  ⟨fun blk off cap ss W hH hblk hsz => callsIn_wide.2 (AnyM.slices_Sort_string sortS blk off cap ss W hH hblk hsz),
   fun p cap W => callsIn_wide.2 (AnyM.slices_Sort_string_none sortS p cap W)⟩
/-- slices.Sorted of what maps.Keys hands back, strings. -/
theorem sorted_keysS (Bm b nn : Nat) (D : DataW Unit) (w : World) (hBm : Bm < w.heap.size) (hm : w.cell? ⟨Bm, 0, none⟩ = some (.map (some b))) (hown : w.ownsMap Tryz.prog 9 (fun _ => some (.nil, [])) b nn D) (hmax : Maps.size D ≤ 1000000) :
    Calls Tryz.prog 383 #[.func (.func 455) #[] #[.pointer (some ⟨Bm, 0, none⟩)]] w fun ed w' => ∃ (v : Value) (ss : List (List UInt8)), ed = .returned v ∧ ss.Perm (strKeys D) ∧
      w'.ownsRow w.heap.size 9 1 v ss.length ((ss.mergeSort (fun x y => decide (x ≤ y))).map encStr) ∧ (v = .slice none 0 0 ↔ ss = []) ∧ Below w.heap.size w w' := by
  have hseq : SeqGives Fence.wide 2 Tryz.prog 455 #[.pointer (some ⟨Bm, 0, none⟩)] encStr (fun ss => ss.Perm (strKeys D)) (Maps.size D) w :=
    AnyZ.keys_gives (ρ := keysS_ren) { keysS with } Fence.wide _ trivial rfl (by omega) Bm b nn D _ hBm hm hown
  have cS := AnyZ.sorted_in (n := 5) sortedS Fence.wide trivial trivial trivial trivial rfl (by omega) (sortsS _) (enters_of Tryz.func426 (by kernel_rfl) rfl) 455 #[.pointer (some ⟨Bm, 0, none⟩)] trivial (enters_of Tryz.func455 (by kernel_rfl) rfl) _ (Maps.size D) (by unfold maxLen; omega) (by omega) w hseq
  change CallsIn _ _ Tryz.prog 383 _ _ _ at cS
  exact callsIn_wide.1 cS

theorem index_byte (s : ByteArray) (c : Int) (w : World) : Calls Tryz.prog 499 #[.string s, .int .u8 c] w fun e w' => e = .returned (.int .i64 (Lib.indexByte s.data.toList c.toNat.toUInt8)) ∧ w' = w := Any.strings_IndexByte lays137 s c w

set_option maxHeartbeats 1000000 in
set_option maxRecDepth 100000 in
/-- The deferred function asks for a panic, and finds none. -/
theorem recover_idle (x y : Value) (w : World) : CallsDIn Fence.wide 0 Tryz.prog 304 #[x, y] .returning w fun e u' w' => e = .returned (.tuple #[]) ∧ u' = .returning ∧ w' = w := by
  have he : ∀ w : World, (binOp .eql 20 .nilIface .nilIface).run Tryz.prog w = .ok (.bool true) w := fun _ => by kernel_rfl
  refine callsDIn_of_wpSIn Tryz.func304 rfl trivial fun c₀ cs hu => ?_
  apply wpSIn_seq
  apply wpSIn_region
  simp [wpOpsSIn, go_sem, recoverD, hu, Tryz.ntmps304, Exit.thenS]
  refine wpSIn_of_wpIn rfl ?_
  gi_wp2
  cases c₀
  simp_all [bodyPostS, results, Tryz.results304]
noncomputable def dfd : AX.T (List AX.AV → AX.Hp → Nat → Option (AX.AV × AX.Hp × Nat)) := AX.T.set .leaf 304 (AX.idleA 2)
theorem dfdOk {x : AX.T Nat} {y : AX.T (List AX.AV → AX.Hp → Nat → Option (AX.AV × AX.Hp × Nat))} {gl : AX.T AX.Cells} {b : Bool} : AX.DfdOk ⟨Tryz.prog, gl, x, y, dfd, b⟩ :=
  AX.idle_ok ⟨_, _, Tryz.func304, rfl⟩ fun args w h => by
    obtain ⟨l⟩ := args
    match l, h with
    | [x, y], _ => exact recover_idle x y w

def nums : List Int := [0, 1, 56, 2, 57, 49, 28, 3, 61, 58, 42, 50, 38, 29, 17, 4, 62, 47, 59, 36, 45, 43, 51, 22, 53, 39, 33, 30, 24, 18, 12, 5, 63, 55, 48, 27, 60, 41, 37, 16, 46, 35, 44, 21, 52, 32, 23, 11, 54, 26, 40, 15, 34, 20, 31, 10, 25, 14, 19, 9, 13, 8, 7, 6]
noncomputable def glob : AX.T AX.Cells := AX.T.set .leaf 0 (AX.ofL (nums.map fun n => AX.AV.int .u8 n))
noncomputable def tab0 : AX.T (List AX.AV → AX.Hp → Nat → Option (AX.AV × AX.Hp × Nat)) := (((((AX.T.leaf.set 32 (AX.sortedA 360)).set 383 (AX.sortedSA 455)).set 371 AX.minA).set 194 AX.maxA).set 499 AX.indexByteA)
set_option maxRecDepth 100000 in
theorem pOk : AX.POk Tryz.prog := AX.POk.of (by kernel_rfl) (by kernel_rfl)
theorem dfdAll : ∀ s, AX.DfdOk (AX.ctxOf Tryz.prog glob dfd s) := fun _ => dfdOk
theorem tab0_ok : AX.TabOk Tryz.prog glob dfd tab0 := fun _ => (AX.orc_set (AX.indexByteA_good ⟨_, _, Tryz.func499, rfl⟩ index_byte) (AX.orc_set (AX.maxA_good ⟨_, _, Tryz.func194, rfl⟩ slices_Max_int) (AX.orc_set (AX.minA_good ⟨_, _, Tryz.func371, rfl⟩ slices_Min_int) (AX.orc_set (AX.sortedSA_good (k := 9) (e := 9) Tryz.underlying9 ⟨_, _, Tryz.func383, rfl⟩ sorted_keysS) (AX.orc_set (AX.sortedA_good (k := 3) (e := 3) Tryz.underlying3 ⟨_, _, Tryz.func32, rfl⟩ sorted_keys) AX.orc_leaf)))))
set_option maxRecDepth 100000 in
theorem numsAt {W : World} (h : laidMetH Tryz.prog [("math/bits.deBruijn64tab", Rows.laid_math_bits_deBruijn64tab)] W) : AX.numsAt W 0 .u8 nums := by
  rw [MakeChecks.laidMetH_plain _ _ _ (by kernel_rfl)] at h
  obtain ⟨ps, h, _⟩ := h
  exact AX.numsAt_of_laid (n := 64) (e := 5) (t := 360) (by kernel_rfl) (by kernel_rfl) Tryz.underlying360 Tryz.underlying5 (by kernel_rfl) (by kernel_rfl) h
end Go.Proofs.YtofbididjcnecaaGreatDoor
