/- What is known ahead of the run: slices.Min, slices.Max, slices.Sorted of maps.Keys; a deferred function that finds no panic. -/
import Derived.Test.YtnlieipdeepemaaGreatDoorProg
import Derived.Test.YtnlieipdeepemaaGreatDoorRows
import Derived.ProofKit
import Derived.OpenShut
import Derived.LaidMore
import Derived.Test.YtnlieipdeepemaaGreatDoorMm
import Derived.Test.YtnlieipdeepemaaGreatDoorOx6
import Derived.Test.YtnlieipdeepemaaGreatDoorOx2
import Derived.Test.YtnlieipdeepemaaGreatDoorOx3
import Derived.Shelf.SlIterI.Nil
import Derived.Shelf.SlIter.Nil
import Derived.Shelf.SortM.Plain
import Derived.Shelf.SortM.SortNone
import Derived.Ground.GgzProg
import Derived.Ground.SlgmProg
import Derived.RecoverIn
import Derived.TacticsInMore
import Derived.Tactics2
import Derived.LoopNIn
import Derived.RegionIn
import Derived.Laws.Pointers
import Derived.KernelRfl
import Derived.Shelf.Strings.Search1
import Derived.Shelf.Small.Strs
import Derived.Test.YtnlieipdeepemaaGreatDoorOx7
namespace Go.Proofs.YtnlieipdeepemaaGreatDoor
open Go.Proofs Go.RowKit Go.Maps Go.Sort Go.Shelf
def keysA_ren : Go.Shelf.Ren := ⟨fun | 7 => 129 | 10 => 216 | n => n, fun | 23 => 249 | 26 => 3 | 3 => 258 | 28 => 208 | 0 => 0 | 27 => 207 | 33 => 228 | 4 => 4 | n => n, fun | n => n⟩
theorem keysA : Go.Proofs.SlLaysZI.n7 Tryz.prog keysA_ren := {
  mixed := by kernel_rfl
  f7 := ⟨Tryz.f129.name, by decide, Tryz.func129.trans (congrArg some (by kernel_rfl))⟩
  f10 := ⟨Tryz.f216.name, by decide, Tryz.func216.trans (congrArg some (by kernel_rfl))⟩
  t0 := Tryz.underlying0
  a0 := Tryz.isAgg0
  z0 := Tryz.sizeOf0
  v0 := Tryz.zeroValue0
  t4 := Tryz.underlying4
  a4 := Tryz.isAgg4
  z4 := Tryz.sizeOf4
  v4 := Tryz.zeroValue4
  t23 := Tryz.underlying249
  a23 := Tryz.isAgg249
  z23 := Tryz.sizeOf249
  v23 := Tryz.zeroValue249
  t26 := Tryz.underlying3
  a26 := Tryz.isAgg3
  z26 := Tryz.sizeOf3
  v26 := Tryz.zeroValue3
  t27 := Tryz.underlying207
  a27 := Tryz.isAgg207
  z27 := Tryz.sizeOf207
  v27 := Tryz.zeroValue207
  t28 := Tryz.underlying208
  a28 := Tryz.isAgg208
  z28 := Tryz.sizeOf208
  v28 := Tryz.zeroValue208
  t33 := Tryz.underlying228
  a33 := Tryz.isAgg228
  z33 := Tryz.sizeOf228
  v33 := Tryz.zeroValue228 }
def sortedA_ren : Go.Shelf.Ren := ⟨fun | 6 => 90 | 8 => 179 | 9 => 180 | 11 => 261 | 13 => 263 | 12 => 262 | 23 => 329 | 24 => 330 | 14 => 320 | 15 => 321 | 16 => 322 | 17 => 323 | 18 => 324 | 19 => 325 | 20 => 326 | 21 => 327 | 22 => 328 | 25 => 374 | 26 => 375 | 27 => 376 | 28 => 377 | 29 => 378 | 30 => 317 | 31 => 418 | n => n, fun | 26 => 3 | 28 => 208 | 24 => 41 | 0 => 0 | 3 => 3 | 37 => 376 | 48 => 477 | 50 => 108 | 4 => 4 | 40 => 500 | 39 => 499 | 45 => 48 | 5 => 5 | 9 => 9 | 51 => 533 | 55 => 400 | 57 => 561 | 58 => 562 | 33 => 228 | n => n, fun | n => n⟩
theorem sortedA : Go.Proofs.SlLaysZI.n6 Tryz.prog sortedA_ren := {
  mixed := by kernel_rfl
  f6 := ⟨Tryz.f90.name, by decide, Tryz.func90.trans (congrArg some (by kernel_rfl))⟩
  f8 := ⟨Tryz.f179.name, by decide, Tryz.func179.trans (congrArg some (by kernel_rfl))⟩
  f11 := ⟨Tryz.f261.name, by decide, Tryz.func261.trans (congrArg some (by kernel_rfl))⟩
  t0 := Tryz.underlying0
  a0 := Tryz.isAgg0
  z0 := Tryz.sizeOf0
  v0 := Tryz.zeroValue0
  t24 := Tryz.underlying41
  a24 := Tryz.isAgg41
  z24 := Tryz.sizeOf41
  v24 := Tryz.zeroValue41
  t26 := Tryz.underlying3
  a26 := Tryz.isAgg3
  z26 := Tryz.sizeOf3
  v26 := Tryz.zeroValue3
  t28 := Tryz.underlying208
  a28 := Tryz.isAgg208
  z28 := Tryz.sizeOf208
  v28 := Tryz.zeroValue208
  i26 := by kernel_rfl }
def sortA_ren : Go.Shelf.Ren := ⟨fun | 5 => 180 | 8 => 263 | 7 => 262 | 19 => 329 | 20 => 330 | 10 => 320 | 11 => 321 | 12 => 322 | 13 => 323 | 14 => 324 | 15 => 325 | 16 => 326 | 17 => 327 | 18 => 328 | 30 => 374 | 31 => 375 | 32 => 376 | 33 => 377 | 34 => 378 | 35 => 317 | 40 => 418 | n => n, fun | 23 => 41 | 25 => 3 | 3 => 3 | 32 => 376 | 22 => 41 | 0 => 0 | 44 => 477 | 46 => 108 | 4 => 4 | 36 => 500 | 35 => 499 | 41 => 48 | 5 => 5 | 9 => 9 | 53 => 533 | 57 => 400 | 63 => 561 | 64 => 562 | n => n, fun | n => n⟩
theorem sortA : Go.Proofs.SlLaysM.n5 Tryz.prog sortA_ren := {
  mixed := by kernel_rfl
  f5 := ⟨Tryz.f180.name, by decide, Tryz.func180.trans (congrArg some (by kernel_rfl))⟩
  f7 := ⟨Tryz.f262.name, by decide, Tryz.func262.trans (congrArg some (by kernel_rfl))⟩
  f8 := Tryz.func263.trans (congrArg some (by kernel_rfl))
  f10 := ⟨Tryz.f320.name, by decide, Tryz.func320.trans (congrArg some (by kernel_rfl))⟩
  f11 := ⟨Tryz.f321.name, by decide, Tryz.func321.trans (congrArg some (by kernel_rfl))⟩
  f12 := ⟨Tryz.f322.name, by decide, Tryz.func322.trans (congrArg some (by kernel_rfl))⟩
  f13 := ⟨Tryz.f323.name, by decide, Tryz.func323.trans (congrArg some (by kernel_rfl))⟩
  f14 := ⟨Tryz.f324.name, by decide, Tryz.func324.trans (congrArg some (by kernel_rfl))⟩
  f15 := ⟨Tryz.f325.name, by decide, Tryz.func325.trans (congrArg some (by kernel_rfl))⟩
  f16 := ⟨Tryz.f326.name, by decide, Tryz.func326.trans (congrArg some (by kernel_rfl))⟩
  f17 := ⟨Tryz.f327.name, by decide, Tryz.func327.trans (congrArg some (by kernel_rfl))⟩
  f18 := ⟨Tryz.f328.name, by decide, Tryz.func328.trans (congrArg some (by kernel_rfl))⟩
  f19 := Tryz.func329.trans (congrArg some (by kernel_rfl))
  f20 := Tryz.func330.trans (congrArg some (by kernel_rfl))
  f30 := ⟨Tryz.f374.name, by decide, Tryz.func374.trans (congrArg some (by kernel_rfl))⟩
  f31 := Tryz.func375.trans (congrArg some (by kernel_rfl))
  f32 := Tryz.func376.trans (congrArg some (by kernel_rfl))
  f33 := ⟨Tryz.f377.name, by decide, Tryz.func377.trans (congrArg some (by kernel_rfl))⟩
  f34 := ⟨Tryz.f378.name, by decide, Tryz.func378.trans (congrArg some (by kernel_rfl))⟩
  f35 := ⟨Tryz.f317.name, by decide, Tryz.func317.trans (congrArg some (by kernel_rfl))⟩
  f40 := ⟨Tryz.f418.name, by decide, Tryz.func418.trans (congrArg some (by kernel_rfl))⟩
  t0 := Tryz.underlying0
  a0 := Tryz.isAgg0
  z0 := Tryz.sizeOf0
  v0 := Tryz.zeroValue0
  t3 := Tryz.underlying3
  a3 := Tryz.isAgg3
  z3 := Tryz.sizeOf3
  v3 := Tryz.zeroValue3
  t4 := Tryz.underlying4
  a4 := Tryz.isAgg4
  z4 := Tryz.sizeOf4
  v4 := Tryz.zeroValue4
  t5 := Tryz.underlying5
  a5 := Tryz.isAgg5
  z5 := Tryz.sizeOf5
  v5 := Tryz.zeroValue5
  t9 := Tryz.underlying9
  a9 := Tryz.isAgg9
  z9 := Tryz.sizeOf9
  v9 := Tryz.zeroValue9
  t22 := Tryz.underlying41
  a22 := Tryz.isAgg41
  z22 := Tryz.sizeOf41
  v22 := Tryz.zeroValue41
  t23 := Tryz.underlying41
  a23 := Tryz.isAgg41
  z23 := Tryz.sizeOf41
  v23 := Tryz.zeroValue41
  t25 := Tryz.underlying3
  a25 := Tryz.isAgg3
  z25 := Tryz.sizeOf3
  v25 := Tryz.zeroValue3
  t32 := Tryz.underlying376
  a32 := Tryz.isAgg376
  z32 := Tryz.sizeOf376
  v32 := Tryz.zeroValue376
  t35 := Tryz.underlying499
  a35 := Tryz.isAgg499
  z35 := Tryz.sizeOf499
  v35 := Tryz.zeroValue499
  t36 := Tryz.underlying500
  a36 := Tryz.isAgg500
  z36 := Tryz.sizeOf500
  v36 := Tryz.zeroValue500
  t41 := Tryz.underlying48
  a41 := Tryz.isAgg48
  z41 := Tryz.sizeOf48
  v41 := Tryz.zeroValue48
  t44 := Tryz.underlying477
  a44 := Tryz.isAgg477
  z44 := Tryz.sizeOf477
  v44 := Tryz.zeroValue477
  t46 := Tryz.underlying108
  a46 := Tryz.isAgg108
  z46 := Tryz.sizeOf108
  v46 := Tryz.zeroValue108
  t53 := Tryz.underlying533
  a53 := Tryz.isAgg533
  z53 := Tryz.sizeOf533
  v53 := Tryz.zeroValue533
  t57 := Tryz.underlying400
  a57 := Tryz.isAgg400
  z57 := Tryz.sizeOf400
  v57 := Tryz.zeroValue400
  t63 := Tryz.underlying561
  a63 := Tryz.isAgg561
  z63 := Tryz.sizeOf561
  v63 := Tryz.zeroValue561
  t64 := Tryz.underlying562
  a64 := Tryz.isAgg562
  z64 := Tryz.sizeOf562
  v64 := Tryz.zeroValue562 }
def keysS_ren : Go.Shelf.Ren := ⟨fun | 7 => 303 | 10 => 364 | n => n, fun | 23 => 380 | 26 => 9 | 3 => 258 | 28 => 390 | 0 => 0 | 27 => 389 | 33 => 485 | 4 => 4 | n => n, fun | n => n⟩
theorem keysS : Go.Proofs.SlLaysZ.n7 Tryz.prog keysS_ren := {
  mixed := by kernel_rfl
  f7 := ⟨Tryz.f303.name, by decide, Tryz.func303.trans (congrArg some (by kernel_rfl))⟩
  f10 := ⟨Tryz.f364.name, by decide, Tryz.func364.trans (congrArg some (by kernel_rfl))⟩
  t0 := Tryz.underlying0
  a0 := Tryz.isAgg0
  z0 := Tryz.sizeOf0
  v0 := Tryz.zeroValue0
  t4 := Tryz.underlying4
  a4 := Tryz.isAgg4
  z4 := Tryz.sizeOf4
  v4 := Tryz.zeroValue4
  t23 := Tryz.underlying380
  a23 := Tryz.isAgg380
  z23 := Tryz.sizeOf380
  v23 := Tryz.zeroValue380
  t26 := Tryz.underlying9
  a26 := Tryz.isAgg9
  z26 := Tryz.sizeOf9
  v26 := Tryz.zeroValue9
  t27 := Tryz.underlying389
  a27 := Tryz.isAgg389
  z27 := Tryz.sizeOf389
  v27 := Tryz.zeroValue389
  t28 := Tryz.underlying390
  a28 := Tryz.isAgg390
  z28 := Tryz.sizeOf390
  v28 := Tryz.zeroValue390
  t33 := Tryz.underlying485
  a33 := Tryz.isAgg485
  z33 := Tryz.sizeOf485
  v33 := Tryz.zeroValue485 }
def sortedS_ren : Go.Shelf.Ren := ⟨fun | 6 => 240 | 8 => 305 | 9 => 306 | 11 => 366 | 13 => 263 | 12 => 367 | 23 => 329 | 24 => 330 | 14 => 406 | 15 => 407 | 16 => 408 | 17 => 409 | 18 => 410 | 19 => 411 | 20 => 412 | 21 => 413 | 22 => 414 | 25 => 430 | 26 => 375 | 27 => 376 | 28 => 431 | 29 => 432 | 30 => 365 | 31 => 444 | n => n, fun | 26 => 9 | 28 => 390 | 24 => 190 | 0 => 0 | 3 => 3 | 37 => 376 | 48 => 477 | 50 => 108 | 4 => 4 | 40 => 500 | 39 => 499 | 45 => 48 | 5 => 5 | 9 => 9 | 51 => 533 | 55 => 400 | 57 => 561 | 58 => 562 | 33 => 485 | n => n, fun | n => n⟩
theorem sortedS : Go.Proofs.SlLaysZ.n6 Tryz.prog sortedS_ren := {
  mixed := by kernel_rfl
  f6 := ⟨Tryz.f240.name, by decide, Tryz.func240.trans (congrArg some (by kernel_rfl))⟩
  f8 := ⟨Tryz.f305.name, by decide, Tryz.func305.trans (congrArg some (by kernel_rfl))⟩
  f11 := ⟨Tryz.f366.name, by decide, Tryz.func366.trans (congrArg some (by kernel_rfl))⟩
  t0 := Tryz.underlying0
  a0 := Tryz.isAgg0
  z0 := Tryz.sizeOf0
  v0 := Tryz.zeroValue0
  t24 := Tryz.underlying190
  a24 := Tryz.isAgg190
  z24 := Tryz.sizeOf190
  v24 := Tryz.zeroValue190
  t26 := Tryz.underlying9
  a26 := Tryz.isAgg9
  z26 := Tryz.sizeOf9
  v26 := Tryz.zeroValue9
  t28 := Tryz.underlying390
  a28 := Tryz.isAgg390
  z28 := Tryz.sizeOf390
  v28 := Tryz.zeroValue390
  i26 := by kernel_rfl }
def sortS_ren : Go.Shelf.Ren := ⟨fun | 6 => 306 | 8 => 263 | 9 => 367 | 19 => 329 | 20 => 330 | 21 => 406 | 22 => 407 | 23 => 408 | 24 => 409 | 25 => 410 | 26 => 411 | 27 => 412 | 28 => 413 | 29 => 414 | 36 => 430 | 31 => 375 | 32 => 376 | 37 => 431 | 38 => 432 | 39 => 365 | 41 => 444 | n => n, fun | 27 => 190 | 29 => 9 | 3 => 3 | 32 => 376 | 26 => 190 | 0 => 0 | 44 => 477 | 46 => 108 | 4 => 4 | 36 => 500 | 35 => 499 | 41 => 48 | 5 => 5 | 9 => 9 | 53 => 533 | 57 => 400 | 63 => 561 | 64 => 562 | n => n, fun | n => n⟩
theorem sortS : Go.Proofs.SlLaysM.n6 Tryz.prog sortS_ren := {
  mixed := by kernel_rfl
  f6 := ⟨Tryz.f306.name, by decide, Tryz.func306.trans (congrArg some (by kernel_rfl))⟩
  f8 := Tryz.func263.trans (congrArg some (by kernel_rfl))
  f9 := ⟨Tryz.f367.name, by decide, Tryz.func367.trans (congrArg some (by kernel_rfl))⟩
  f19 := Tryz.func329.trans (congrArg some (by kernel_rfl))
  f20 := Tryz.func330.trans (congrArg some (by kernel_rfl))
  f21 := ⟨Tryz.f406.name, by decide, Tryz.func406.trans (congrArg some (by kernel_rfl))⟩
  f22 := ⟨Tryz.f407.name, by decide, Tryz.func407.trans (congrArg some (by kernel_rfl))⟩
  f23 := ⟨Tryz.f408.name, by decide, Tryz.func408.trans (congrArg some (by kernel_rfl))⟩
  f24 := ⟨Tryz.f409.name, by decide, Tryz.func409.trans (congrArg some (by kernel_rfl))⟩
  f25 := ⟨Tryz.f410.name, by decide, Tryz.func410.trans (congrArg some (by kernel_rfl))⟩
  f26 := ⟨Tryz.f411.name, by decide, Tryz.func411.trans (congrArg some (by kernel_rfl))⟩
  f27 := ⟨Tryz.f412.name, by decide, Tryz.func412.trans (congrArg some (by kernel_rfl))⟩
  f28 := ⟨Tryz.f413.name, by decide, Tryz.func413.trans (congrArg some (by kernel_rfl))⟩
  f29 := ⟨Tryz.f414.name, by decide, Tryz.func414.trans (congrArg some (by kernel_rfl))⟩
  f31 := Tryz.func375.trans (congrArg some (by kernel_rfl))
  f32 := Tryz.func376.trans (congrArg some (by kernel_rfl))
  f36 := ⟨Tryz.f430.name, by decide, Tryz.func430.trans (congrArg some (by kernel_rfl))⟩
  f37 := ⟨Tryz.f431.name, by decide, Tryz.func431.trans (congrArg some (by kernel_rfl))⟩
  f38 := ⟨Tryz.f432.name, by decide, Tryz.func432.trans (congrArg some (by kernel_rfl))⟩
  f39 := ⟨Tryz.f365.name, by decide, Tryz.func365.trans (congrArg some (by kernel_rfl))⟩
  f41 := ⟨Tryz.f444.name, by decide, Tryz.func444.trans (congrArg some (by kernel_rfl))⟩
  t0 := Tryz.underlying0
  a0 := Tryz.isAgg0
  z0 := Tryz.sizeOf0
  v0 := Tryz.zeroValue0
  t3 := Tryz.underlying3
  a3 := Tryz.isAgg3
  z3 := Tryz.sizeOf3
  v3 := Tryz.zeroValue3
  t4 := Tryz.underlying4
  a4 := Tryz.isAgg4
  z4 := Tryz.sizeOf4
  v4 := Tryz.zeroValue4
  t5 := Tryz.underlying5
  a5 := Tryz.isAgg5
  z5 := Tryz.sizeOf5
  v5 := Tryz.zeroValue5
  t9 := Tryz.underlying9
  a9 := Tryz.isAgg9
  z9 := Tryz.sizeOf9
  v9 := Tryz.zeroValue9
  t26 := Tryz.underlying190
  a26 := Tryz.isAgg190
  z26 := Tryz.sizeOf190
  v26 := Tryz.zeroValue190
  t27 := Tryz.underlying190
  a27 := Tryz.isAgg190
  z27 := Tryz.sizeOf190
  v27 := Tryz.zeroValue190
  t29 := Tryz.underlying9
  a29 := Tryz.isAgg9
  z29 := Tryz.sizeOf9
  v29 := Tryz.zeroValue9
  t32 := Tryz.underlying376
  a32 := Tryz.isAgg376
  z32 := Tryz.sizeOf376
  v32 := Tryz.zeroValue376
  t35 := Tryz.underlying499
  a35 := Tryz.isAgg499
  z35 := Tryz.sizeOf499
  v35 := Tryz.zeroValue499
  t36 := Tryz.underlying500
  a36 := Tryz.isAgg500
  z36 := Tryz.sizeOf500
  v36 := Tryz.zeroValue500
  t41 := Tryz.underlying48
  a41 := Tryz.isAgg48
  z41 := Tryz.sizeOf48
  v41 := Tryz.zeroValue48
  t44 := Tryz.underlying477
  a44 := Tryz.isAgg477
  z44 := Tryz.sizeOf477
  v44 := Tryz.zeroValue477
  t46 := Tryz.underlying108
  a46 := Tryz.isAgg108
  z46 := Tryz.sizeOf108
  v46 := Tryz.zeroValue108
  t53 := Tryz.underlying533
  a53 := Tryz.isAgg533
  z53 := Tryz.sizeOf533
  v53 := Tryz.zeroValue533
  t57 := Tryz.underlying400
  a57 := Tryz.isAgg400
  z57 := Tryz.sizeOf400
  v57 := Tryz.zeroValue400
  t63 := Tryz.underlying561
  a63 := Tryz.isAgg561
  z63 := Tryz.sizeOf561
  v63 := Tryz.zeroValue561
  t64 := Tryz.underlying562
  a64 := Tryz.isAgg562
  z64 := Tryz.sizeOf562
  v64 := Tryz.zeroValue562 }
def lays137_ren : Go.Shelf.Ren := ⟨fun | 137 => 443 | 217 => 449 | 266 => 452 | n => n, fun | 9 => 9 | 5 => 5 | 3 => 3 | n => n, fun | n => n⟩
theorem lays137 : Go.Proofs.Lays.n137 Tryz.prog lays137_ren := {
  mixed := by kernel_rfl
  f137 := Tryz.func443.trans (congrArg some (by kernel_rfl))
  f217 := Tryz.func449.trans (congrArg some (by kernel_rfl))
  f266 := Tryz.func452.trans (congrArg some (by kernel_rfl))
  t3 := Tryz.underlying3
  a3 := Tryz.isAgg3
  z3 := Tryz.sizeOf3
  v3 := Tryz.zeroValue3
  t5 := Tryz.underlying5
  a5 := Tryz.isAgg5
  z5 := Tryz.sizeOf5
  v5 := Tryz.zeroValue5
  t9 := Tryz.underlying9
  a9 := Tryz.isAgg9
  z9 := Tryz.sizeOf9
  v9 := Tryz.zeroValue9 }

theorem sortsA (m : Nat) : AnyZI.SortsIn Tryz.prog sortedA_ren Fence.wide m :=
  ⟨fun blk off cap ss W hH hblk hsz => callsIn_wide.2 (AnyM.slices_Sort_int sortA blk off cap ss W hH hblk hsz),
   fun p cap W => callsIn_wide.2 (AnyM.slices_Sort_int_none sortA p cap W)⟩
/-- slices.Sorted of what maps.Keys hands back, ints. -/
theorem sorted_keys (Bm b nn : Nat) (D : DataW Unit) (w : World) (hBm : Bm < w.heap.size) (hm : w.cell? ⟨Bm, 0, none⟩ = some (.map (some b))) (hown : w.ownsMap Tryz.prog 3 (fun _ => some (.nil, [])) b nn D) (hmax : Maps.size D ≤ 1000000) :
    Calls Tryz.prog 90 #[.func (.func 216) #[] #[.pointer (some ⟨Bm, 0, none⟩)]] w fun ed w' => ∃ (v : Value) (ss : List Int), ed = .returned v ∧ ss.Perm (intKeys D) ∧
      w'.ownsRow w.heap.size 3 1 v ss.length ((ss.mergeSort (fun x y => decide (x ≤ y))).map encZ) ∧ (v = .slice none 0 0 ↔ ss = []) ∧ Below w.heap.size w w' := by
  have hseq : SeqGives Fence.wide 2 Tryz.prog 216 #[.pointer (some ⟨Bm, 0, none⟩)] encZ (fun ss => ss.Perm (intKeys D)) (Maps.size D) w :=
    AnyZI.keys_gives (ρ := keysA_ren) { keysA with } Fence.wide _ trivial rfl (by omega) Bm b nn D _ hBm hm hown
  have cS := AnyZI.sorted_in (n := 5) sortedA Fence.wide trivial trivial trivial trivial rfl (by omega) (sortsA _) (enters_of Tryz.func180 (by kernel_rfl) rfl) 216 #[.pointer (some ⟨Bm, 0, none⟩)] trivial (enters_of Tryz.func216 (by kernel_rfl) rfl) _ (Maps.size D) (by unfold maxLen; omega) (by omega) w hseq
  change CallsIn _ _ Tryz.prog 90 _ _ _ at cS
  exact callsIn_wide.1 cS

theorem sortsS (m : Nat) : AnyZ.SortsIn Tryz.prog sortedS_ren Fence.wide m :=
  ⟨fun blk off cap ss W hH hblk hsz => callsIn_wide.2 (AnyM.slices_Sort_string sortS blk off cap ss W hH hblk hsz),
   fun p cap W => callsIn_wide.2 (AnyM.slices_Sort_string_none sortS p cap W)⟩
/-- slices.Sorted of what maps.Keys hands back, strings. -/
theorem sorted_keysS (Bm b nn : Nat) (D : DataW Unit) (w : World) (hBm : Bm < w.heap.size) (hm : w.cell? ⟨Bm, 0, none⟩ = some (.map (some b))) (hown : w.ownsMap Tryz.prog 9 (fun _ => some (.nil, [])) b nn D) (hmax : Maps.size D ≤ 1000000) :
    Calls Tryz.prog 240 #[.func (.func 364) #[] #[.pointer (some ⟨Bm, 0, none⟩)]] w fun ed w' => ∃ (v : Value) (ss : List (List UInt8)), ed = .returned v ∧ ss.Perm (strKeys D) ∧
      w'.ownsRow w.heap.size 9 1 v ss.length ((ss.mergeSort (fun x y => decide (x ≤ y))).map encStr) ∧ (v = .slice none 0 0 ↔ ss = []) ∧ Below w.heap.size w w' := by
  have hseq : SeqGives Fence.wide 2 Tryz.prog 364 #[.pointer (some ⟨Bm, 0, none⟩)] encStr (fun ss => ss.Perm (strKeys D)) (Maps.size D) w :=
    AnyZ.keys_gives (ρ := keysS_ren) { keysS with } Fence.wide _ trivial rfl (by omega) Bm b nn D _ hBm hm hown
  have cS := AnyZ.sorted_in (n := 5) sortedS Fence.wide trivial trivial trivial trivial rfl (by omega) (sortsS _) (enters_of Tryz.func306 (by kernel_rfl) rfl) 364 #[.pointer (some ⟨Bm, 0, none⟩)] trivial (enters_of Tryz.func364 (by kernel_rfl) rfl) _ (Maps.size D) (by unfold maxLen; omega) (by omega) w hseq
  change CallsIn _ _ Tryz.prog 240 _ _ _ at cS
  exact callsIn_wide.1 cS

theorem index_byte (s : ByteArray) (c : Int) (w : World) : Calls Tryz.prog 443 #[.string s, .int .u8 c] w fun e w' => e = .returned (.int .i64 (Lib.indexByte s.data.toList c.toNat.toUInt8)) ∧ w' = w := Any.strings_IndexByte lays137 s c w

set_option maxHeartbeats 1000000 in
set_option maxRecDepth 100000 in
/-- The deferred function asks for a panic, and finds none. -/
theorem recover_idle (x y : Value) (w : World) : CallsDIn Fence.wide 0 Tryz.prog 151 #[x, y] .returning w fun e u' w' => e = .returned (.tuple #[]) ∧ u' = .returning ∧ w' = w := by
  have he : ∀ w : World, (binOp .eql 20 .nilIface .nilIface).run Tryz.prog w = .ok (.bool true) w := fun _ => by kernel_rfl
  refine callsDIn_of_wpSIn Tryz.func151 rfl trivial fun c₀ cs hu => ?_
  apply wpSIn_seq
  apply wpSIn_region
  simp [wpOpsSIn, go_sem, recoverD, hu, Tryz.ntmps151, Exit.thenS]
  refine wpSIn_of_wpIn rfl ?_
  gi_wp2
  cases c₀
  simp_all [bodyPostS, results, Tryz.results151]
noncomputable def dfd : AX.T (List AX.AV → AX.Hp → Nat → Option (AX.AV × AX.Hp × Nat)) := AX.T.set .leaf 151 (AX.idleA 2)
theorem dfdOk {x : AX.T Nat} {y : AX.T (List AX.AV → AX.Hp → Nat → Option (AX.AV × AX.Hp × Nat))} {gl : AX.T AX.Cells} {b : Bool} : AX.DfdOk ⟨Tryz.prog, gl, x, y, dfd, b⟩ :=
  AX.idle_ok ⟨_, _, Tryz.func151, rfl⟩ fun args w h => by
    obtain ⟨l⟩ := args
    match l, h with
    | [x, y], _ => exact recover_idle x y w

def nums : List Int := [0, 1, 56, 2, 57, 49, 28, 3, 61, 58, 42, 50, 38, 29, 17, 4, 62, 47, 59, 36, 45, 43, 51, 22, 53, 39, 33, 30, 24, 18, 12, 5, 63, 55, 48, 27, 60, 41, 37, 16, 46, 35, 44, 21, 52, 32, 23, 11, 54, 26, 40, 15, 34, 20, 31, 10, 25, 14, 19, 9, 13, 8, 7, 6]
noncomputable def glob : AX.T AX.Cells := AX.T.set .leaf 0 (AX.ofL (nums.map fun n => AX.AV.int .u8 n))
noncomputable def tab0 : AX.T (List AX.AV → AX.Hp → Nat → Option (AX.AV × AX.Hp × Nat)) := (((((AX.T.leaf.set 90 (AX.sortedA 216)).set 240 (AX.sortedSA 364)).set 228 AX.minA).set 77 AX.maxA).set 443 AX.indexByteA)
set_option maxRecDepth 100000 in
theorem pOk : AX.POk Tryz.prog := AX.POk.of (by kernel_rfl) (by kernel_rfl)
theorem dfdAll : ∀ s, AX.DfdOk (AX.ctxOf Tryz.prog glob dfd s) := fun _ => dfdOk
theorem tab0_ok : AX.TabOk Tryz.prog glob dfd tab0 := fun _ => (AX.orc_set (AX.indexByteA_good ⟨_, _, Tryz.func443, rfl⟩ index_byte) (AX.orc_set (AX.maxA_good ⟨_, _, Tryz.func77, rfl⟩ slices_Max_int) (AX.orc_set (AX.minA_good ⟨_, _, Tryz.func228, rfl⟩ slices_Min_int) (AX.orc_set (AX.sortedSA_good (k := 9) (e := 9) Tryz.underlying9 ⟨_, _, Tryz.func240, rfl⟩ sorted_keysS) (AX.orc_set (AX.sortedA_good (k := 3) (e := 3) Tryz.underlying3 ⟨_, _, Tryz.func90, rfl⟩ sorted_keys) AX.orc_leaf)))))
set_option maxRecDepth 100000 in
theorem numsAt {W : World} (h : laidMetH Tryz.prog [("math/bits.deBruijn64tab", Rows.laid_math_bits_deBruijn64tab)] W) : AX.numsAt W 0 .u8 nums := by
  rw [MakeChecks.laidMetH_plain _ _ _ (by kernel_rfl)] at h
  obtain ⟨ps, h, _⟩ := h
  exact AX.numsAt_of_laid (n := 64) (e := 5) (t := 476) (by kernel_rfl) (by kernel_rfl) Tryz.underlying476 Tryz.underlying5 (by kernel_rfl) (by kernel_rfl) h
end Go.Proofs.YtnlieipdeepemaaGreatDoor
