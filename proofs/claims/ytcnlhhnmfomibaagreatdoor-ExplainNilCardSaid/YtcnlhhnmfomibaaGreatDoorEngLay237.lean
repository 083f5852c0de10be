/- A part of the proof that the evaluator in EngC answers as the model does; no conditions. -/
import Derived.Shelf.SlIterI.Nil
import Derived.Shelf.SortM.Plain
import Derived.Shelf.SortM.SortNone
import Derived.Test.YtcnlhhnmfomibaaGreatDoorProg
import Derived.Test.YtcnlhhnmfomibaaGreatDoorEngN
namespace Go.Eng
open Go.RowKit Go.Maps Go.Sort Go.Shelf Go.Proofs
def keysARen : Go.Shelf.Ren := ⟨fun | 7 => 221 | 10 => 280 | n => n, fun | 23 => 221 | 26 => 3 | 3 => 97 | 28 => 325 | 0 => 0 | 27 => 324 | 33 => 91 | 4 => 4 | n => n, fun | n => n⟩
theorem keysA : SlLaysZI.n7 Tryz.prog keysARen where
  mixed := by kernel_rfl
  f7 := ⟨"maps.Keys[map[int]saturate/api.Facts,int,saturate/api.Facts]", by decide, Tryz.func221.trans (congrArg some (by kernel_rfl))⟩
  f10 := ⟨"maps.Keys[map[int]saturate/api.Facts,int,saturate/api.Facts]$1", by decide, Tryz.func280.trans (congrArg some (by kernel_rfl))⟩
  t0 := Tryz.underlying0
  a0 := Tryz.isAgg0
  z0 := Tryz.sizeOf0
  v0 := Tryz.zeroValue0
  t4 := Tryz.underlying4
  a4 := Tryz.isAgg4
  z4 := Tryz.sizeOf4
  v4 := Tryz.zeroValue4
  t23 := Tryz.underlying221
  a23 := Tryz.isAgg221
  z23 := Tryz.sizeOf221
  v23 := Tryz.zeroValue221
  t26 := Tryz.underlying3
  a26 := Tryz.isAgg3
  z26 := Tryz.sizeOf3
  v26 := Tryz.zeroValue3
  t27 := Tryz.underlying324
  a27 := Tryz.isAgg324
  z27 := Tryz.sizeOf324
  v27 := Tryz.zeroValue324
  t28 := Tryz.underlying325
  a28 := Tryz.isAgg325
  z28 := Tryz.sizeOf325
  v28 := Tryz.zeroValue325
  t33 := Tryz.underlying91
  a33 := Tryz.isAgg91
  z33 := Tryz.sizeOf91
  v33 := Tryz.zeroValue91
def sortedARen : Go.Shelf.Ren := ⟨fun | 6 => 220 | 8 => 278 | 9 => 279 | 11 => 352 | 13 => 316 | 12 => 353 | 23 => 395 | 24 => 396 | 14 => 418 | 15 => 419 | 16 => 420 | 17 => 421 | 18 => 422 | 19 => 423 | 20 => 424 | 21 => 425 | 22 => 426 | 25 => 456 | 26 => 443 | 27 => 444 | 28 => 457 | 29 => 458 | 30 => 349 | 31 => 479 | n => n, fun | 26 => 3 | 28 => 325 | 24 => 68 | 0 => 0 | 3 => 3 | 37 => 442 | 48 => 504 | 50 => 25 | 4 => 4 | 40 => 498 | 39 => 497 | 45 => 48 | 5 => 5 | 9 => 9 | 51 => 534 | 55 => 538 | 57 => 554 | 58 => 132 | 33 => 91 | n => n, fun | n => n⟩
theorem sortedA : SlLaysZI.n6 Tryz.prog sortedARen where
  mixed := by kernel_rfl
  f6 := ⟨"slices.Sorted[int]", by decide, Tryz.func220.trans (congrArg some (by kernel_rfl))⟩
  f8 := ⟨"slices.Collect[int]", by decide, Tryz.func278.trans (congrArg some (by kernel_rfl))⟩
  f11 := ⟨"slices.AppendSeq[[]int,int]", by decide, Tryz.func352.trans (congrArg some (by kernel_rfl))⟩
  t0 := Tryz.underlying0
  a0 := Tryz.isAgg0
  z0 := Tryz.sizeOf0
  v0 := Tryz.zeroValue0
  t24 := Tryz.underlying68
  a24 := Tryz.isAgg68
  z24 := Tryz.sizeOf68
  v24 := Tryz.zeroValue68
  t26 := Tryz.underlying3
  a26 := Tryz.isAgg3
  z26 := Tryz.sizeOf3
  v26 := Tryz.zeroValue3
  t28 := Tryz.underlying325
  a28 := Tryz.isAgg325
  z28 := Tryz.sizeOf325
  v28 := Tryz.zeroValue325
  i26 := by kernel_rfl
def sortARen : Go.Shelf.Ren := ⟨fun | 5 => 279 | 8 => 316 | 7 => 353 | 19 => 395 | 20 => 396 | 10 => 418 | 11 => 419 | 12 => 420 | 13 => 421 | 14 => 422 | 15 => 423 | 16 => 424 | 17 => 425 | 18 => 426 | 30 => 456 | 31 => 443 | 32 => 444 | 33 => 457 | 34 => 458 | 35 => 349 | 40 => 479 | n => n, fun | 23 => 68 | 25 => 3 | 3 => 3 | 32 => 442 | 22 => 68 | 0 => 0 | 44 => 504 | 46 => 25 | 4 => 4 | 36 => 498 | 35 => 497 | 41 => 48 | 5 => 5 | 9 => 9 | 53 => 534 | 57 => 538 | 63 => 554 | 64 => 132 | n => n, fun | n => n⟩
theorem sortA : SlLaysM.n5 Tryz.prog sortARen where
  mixed := by kernel_rfl
  f5 := ⟨"slices.Sort[[]int,int]", by decide, Tryz.func279.trans (congrArg some (by kernel_rfl))⟩
  f7 := ⟨"slices.pdqsortOrdered[int]", by decide, Tryz.func353.trans (congrArg some (by kernel_rfl))⟩
  f8 := Tryz.func316.trans (congrArg some (by kernel_rfl))
  f10 := ⟨"slices.insertionSortOrdered[int]", by decide, Tryz.func418.trans (congrArg some (by kernel_rfl))⟩
  f11 := ⟨"slices.heapSortOrdered[int]", by decide, Tryz.func419.trans (congrArg some (by kernel_rfl))⟩
  f12 := ⟨"slices.breakPatternsOrdered[int]", by decide, Tryz.func420.trans (congrArg some (by kernel_rfl))⟩
  f13 := ⟨"slices.choosePivotOrdered[int]", by decide, Tryz.func421.trans (congrArg some (by kernel_rfl))⟩
  f14 := ⟨"slices.reverseRangeOrdered[int]", by decide, Tryz.func422.trans (congrArg some (by kernel_rfl))⟩
  f15 := ⟨"slices.partialInsertionSortOrdered[int]", by decide, Tryz.func423.trans (congrArg some (by kernel_rfl))⟩
  f16 := ⟨"cmp.Less[int]", by decide, Tryz.func424.trans (congrArg some (by kernel_rfl))⟩
  f17 := ⟨"slices.partitionEqualOrdered[int]", by decide, Tryz.func425.trans (congrArg some (by kernel_rfl))⟩
  f18 := ⟨"slices.partitionOrdered[int]", by decide, Tryz.func426.trans (congrArg some (by kernel_rfl))⟩
  f19 := Tryz.func395.trans (congrArg some (by kernel_rfl))
  f20 := Tryz.func396.trans (congrArg some (by kernel_rfl))
  f30 := ⟨"slices.siftDownOrdered[int]", by decide, Tryz.func456.trans (congrArg some (by kernel_rfl))⟩
  f31 := Tryz.func443.trans (congrArg some (by kernel_rfl))
  f32 := Tryz.func444.trans (congrArg some (by kernel_rfl))
  f33 := ⟨"slices.medianAdjacentOrdered[int]", by decide, Tryz.func457.trans (congrArg some (by kernel_rfl))⟩
  f34 := ⟨"slices.medianOrdered[int]", by decide, Tryz.func458.trans (congrArg some (by kernel_rfl))⟩
  f35 := ⟨"cmp.isNaN[int]", by decide, Tryz.func349.trans (congrArg some (by kernel_rfl))⟩
  f40 := ⟨"slices.order2Ordered[int]", by decide, Tryz.func479.trans (congrArg some (by kernel_rfl))⟩
  t0 := Tryz.underlying0
  a0 := Tryz.isAgg0
  z0 := Tryz.sizeOf0
  v0 := Tryz.zeroValue0
  t3 := Tryz.underlying3
  a3 := Tryz.isAgg3
  z3 := Tryz.sizeOf3
  v3 := Tryz.zeroValue3
  t4 := Tryz.underlying4
  a4 := Tryz.isAgg4
  z4 := Tryz.sizeOf4
  v4 := Tryz.zeroValue4
  t5 := Tryz.underlying5
  a5 := Tryz.isAgg5
  z5 := Tryz.sizeOf5
  v5 := Tryz.zeroValue5
  t9 := Tryz.underlying9
  a9 := Tryz.isAgg9
  z9 := Tryz.sizeOf9
  v9 := Tryz.zeroValue9
  t22 := Tryz.underlying68
  a22 := Tryz.isAgg68
  z22 := Tryz.sizeOf68
  v22 := Tryz.zeroValue68
  t23 := Tryz.underlying68
  a23 := Tryz.isAgg68
  z23 := Tryz.sizeOf68
  v23 := Tryz.zeroValue68
  t25 := Tryz.underlying3
  a25 := Tryz.isAgg3
  z25 := Tryz.sizeOf3
  v25 := Tryz.zeroValue3
  t32 := Tryz.underlying442
  a32 := Tryz.isAgg442
  z32 := Tryz.sizeOf442
  v32 := Tryz.zeroValue442
  t35 := Tryz.underlying497
  a35 := Tryz.isAgg497
  z35 := Tryz.sizeOf497
  v35 := Tryz.zeroValue497
  t36 := Tryz.underlying498
  a36 := Tryz.isAgg498
  z36 := Tryz.sizeOf498
  v36 := Tryz.zeroValue498
  t41 := Tryz.underlying48
  a41 := Tryz.isAgg48
  z41 := Tryz.sizeOf48
  v41 := Tryz.zeroValue48
  t44 := Tryz.underlying504
  a44 := Tryz.isAgg504
  z44 := Tryz.sizeOf504
  v44 := Tryz.zeroValue504
  t46 := Tryz.underlying25
  a46 := Tryz.isAgg25
  z46 := Tryz.sizeOf25
  v46 := Tryz.zeroValue25
  t53 := Tryz.underlying534
  a53 := Tryz.isAgg534
  z53 := Tryz.sizeOf534
  v53 := Tryz.zeroValue534
  t57 := Tryz.underlying538
  a57 := Tryz.isAgg538
  z57 := Tryz.sizeOf538
  v57 := Tryz.zeroValue538
  t63 := Tryz.underlying554
  a63 := Tryz.isAgg554
  z63 := Tryz.sizeOf554
  v63 := Tryz.zeroValue554
  t64 := Tryz.underlying132
  a64 := Tryz.isAgg132
  z64 := Tryz.sizeOf132
  v64 := Tryz.zeroValue132
theorem sortsA (m : Nat) : AnyZI.SortsIn Tryz.prog sortedARen Fence.wide m :=
  ⟨fun blk off cap ss W hH hblk hsz => callsIn_wide.2 (AnyM.slices_Sort_int sortA blk off cap ss W hH hblk hsz),
   fun p cap W => callsIn_wide.2 (AnyM.slices_Sort_int_none sortA p cap W)⟩
set_option maxHeartbeats 1000000 in
theorem sorted_says : SortedSays Tryz.prog 220 280 3 3 := by
  intro R Bm b nn D w hBm hcell hown hmax hbytes
  refine (callsIn_wide (n := 5)).1 ?_
  have hseq : SeqGives Fence.wide 2 Tryz.prog 280 #[.pointer (some ⟨Bm, 0, none⟩)] encZ (fun ss => ss.Perm (intKeys D)) (Maps.size D) w :=
    AnyZI.keys_gives (ρ := keysARen) { keysA with } Fence.wide _ trivial rfl (by omega) Bm b nn D w hBm hcell hown
  have cS := AnyZI.sorted_in sortedA Fence.wide 5 trivial trivial trivial trivial rfl (by omega) (sortsA _) (enters_of Tryz.func279 (by kernel_rfl) rfl) 280 #[.pointer (some ⟨Bm, 0, none⟩)] trivial (enters_of Tryz.func280 (by kernel_rfl) rfl) _ _ hmax hbytes _ hseq
  change CallsIn _ _ Tryz.prog 220 _ _ _ at cS
  exact cS
set_option maxHeartbeats 1000000 in
theorem sorted_says_nil : SortedSaysNil Tryz.prog 220 280 := by
  intro Bm w hBm hcell
  refine (callsIn_wide (n := 5)).1 ?_
  have hseq : SeqGives Fence.wide 2 Tryz.prog 280 #[.pointer (some ⟨Bm, 0, none⟩)] encZ (fun ss : List Int => ss = []) 0 w :=
    AnyZI.keys_gives_nil (ρ := keysARen) { keysA with } Fence.wide _ trivial rfl Bm w hBm hcell
  have cS := AnyZI.sorted_in sortedA Fence.wide 5 trivial trivial trivial trivial rfl (by omega) (sortsA _) (enters_of Tryz.func279 (by kernel_rfl) rfl) 280 #[.pointer (some ⟨Bm, 0, none⟩)] trivial (enters_of Tryz.func280 (by kernel_rfl) rfl) _ 0 (Nat.zero_le _) (by omega) _ hseq
  change CallsIn _ _ Tryz.prog 220 _ _ _ at cS
  refine cS.mono ?_
  rintro e w' ⟨v, ss, rfl, rfl, hrow, hnil, hb⟩
  obtain rfl : v = .slice none 0 0 := hnil.2 rfl
  exact ⟨rfl, hb⟩
end Go.Eng
