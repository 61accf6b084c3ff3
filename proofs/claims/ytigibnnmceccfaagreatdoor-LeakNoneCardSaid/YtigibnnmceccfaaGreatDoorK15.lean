/- The library's contracts that the evaluator leans on, laid at this program in plain words: the sorted keys of a map, slices.Sort. -/
import Derived.Test.YtigibnnmceccfaaGreatDoorYE
import Derived.Test.YtigibnnmceccfaaGreatDoorTab
import Derived.Shelf.SlGeneric
import Derived.Shelf.SlIterI.Nil
import Derived.Shelf.SortM.Plain
import Derived.Shelf.SortM.SortNone
namespace Go.Proofs.YtigibnnmceccfaaGreatDoor
open Go.Shelf Go.Proofs Go.RowKit
def Tryz.layKeys_ren : Go.Shelf.Ren := ⟨fun | 7 => 45 | 10 => 57 | n => n, fun | 23 => 30 | 26 => 3 | 3 => 58 | 28 => 96 | 0 => 0 | 27 => 95 | 33 => 64 | 4 => 4 | n => n, fun | n => n⟩
theorem Tryz.layKeys : Go.Proofs.SlLaysZI.n7 Tryz.prog Tryz.layKeys_ren where
  mixed := by kernel_rfl
  f7 := ⟨"maps.Keys[map[int]freehold/api.Block,int,freehold/api.Block]", by decide, Tryz.func45.trans (congrArg some (by kernel_rfl))⟩
  f10 := ⟨"maps.Keys[map[int]freehold/api.Block,int,freehold/api.Block]$1", by decide, Tryz.func57.trans (congrArg some (by kernel_rfl))⟩
  t0 := Tryz.underlying0
  a0 := Tryz.isAgg0
  z0 := Tryz.sizeOf0
  v0 := Tryz.zeroValue0
  t4 := Tryz.underlying4
  a4 := Tryz.isAgg4
  z4 := Tryz.sizeOf4
  v4 := Tryz.zeroValue4
  t23 := Tryz.underlying30
  a23 := Tryz.isAgg30
  z23 := Tryz.sizeOf30
  v23 := Tryz.zeroValue30
  t26 := Tryz.underlying3
  a26 := Tryz.isAgg3
  z26 := Tryz.sizeOf3
  v26 := Tryz.zeroValue3
  t27 := Tryz.underlying95
  a27 := Tryz.isAgg95
  z27 := Tryz.sizeOf95
  v27 := Tryz.zeroValue95
  t28 := Tryz.underlying96
  a28 := Tryz.isAgg96
  z28 := Tryz.sizeOf96
  v28 := Tryz.zeroValue96
  t33 := Tryz.underlying64
  a33 := Tryz.isAgg64
  z33 := Tryz.sizeOf64
  v33 := Tryz.zeroValue64
def Tryz.layKeysB_ren : Go.Shelf.Ren := ⟨fun | 7 => 177 | 10 => 201 | n => n, fun | 23 => 60 | 26 => 3 | 3 => 4 | 28 => 96 | 0 => 0 | 27 => 95 | 33 => 64 | 4 => 4 | n => n, fun | n => n⟩
theorem Tryz.layKeysB : Go.Proofs.SlLaysZI.n7 Tryz.prog Tryz.layKeysB_ren where
  mixed := by kernel_rfl
  f7 := ⟨"maps.Keys[map[int]bool,int,bool]", by decide, Tryz.func177.trans (congrArg some (by kernel_rfl))⟩
  f10 := ⟨"maps.Keys[map[int]bool,int,bool]$1", by decide, Tryz.func201.trans (congrArg some (by kernel_rfl))⟩
  t0 := Tryz.underlying0
  a0 := Tryz.isAgg0
  z0 := Tryz.sizeOf0
  v0 := Tryz.zeroValue0
  t4 := Tryz.underlying4
  a4 := Tryz.isAgg4
  z4 := Tryz.sizeOf4
  v4 := Tryz.zeroValue4
  t23 := Tryz.underlying60
  a23 := Tryz.isAgg60
  z23 := Tryz.sizeOf60
  v23 := Tryz.zeroValue60
  t26 := Tryz.underlying3
  a26 := Tryz.isAgg3
  z26 := Tryz.sizeOf3
  v26 := Tryz.zeroValue3
  t27 := Tryz.underlying95
  a27 := Tryz.isAgg95
  z27 := Tryz.sizeOf95
  v27 := Tryz.zeroValue95
  t28 := Tryz.underlying96
  a28 := Tryz.isAgg96
  z28 := Tryz.sizeOf96
  v28 := Tryz.zeroValue96
  t33 := Tryz.underlying64
  a33 := Tryz.isAgg64
  z33 := Tryz.sizeOf64
  v33 := Tryz.zeroValue64
def Tryz.laySorted_ren : Go.Shelf.Ren := ⟨fun | 6 => 44 | 8 => 56 | 9 => 30 | 11 => 83 | 13 => 49 | 12 => 48 | 23 => 68 | 24 => 69 | 14 => 59 | 15 => 60 | 16 => 61 | 17 => 62 | 18 => 63 | 19 => 64 | 20 => 65 | 21 => 66 | 22 => 67 | 25 => 84 | 26 => 85 | 27 => 86 | 28 => 87 | 29 => 88 | 30 => 89 | 31 => 118 | n => n, fun | 26 => 3 | 28 => 96 | 24 => 22 | 0 => 0 | 3 => 3 | 37 => 100 | 48 => 120 | 50 => 122 | 4 => 4 | 40 => 113 | 39 => 112 | 45 => 48 | 5 => 5 | 9 => 9 | 51 => 149 | 55 => 153 | 57 => 214 | 58 => 215 | 33 => 64 | n => n, fun | n => n⟩
theorem Tryz.laySorted : Go.Proofs.SlLaysZI.n6 Tryz.prog Tryz.laySorted_ren where
  mixed := by kernel_rfl
  f6 := ⟨"slices.Sorted[int]", by decide, Tryz.func44.trans (congrArg some (by kernel_rfl))⟩
  f8 := ⟨"slices.Collect[int]", by decide, Tryz.func56.trans (congrArg some (by kernel_rfl))⟩
  f11 := ⟨"slices.AppendSeq[[]int,int]", by decide, Tryz.func83.trans (congrArg some (by kernel_rfl))⟩
  t0 := Tryz.underlying0
  a0 := Tryz.isAgg0
  z0 := Tryz.sizeOf0
  v0 := Tryz.zeroValue0
  t24 := Tryz.underlying22
  a24 := Tryz.isAgg22
  z24 := Tryz.sizeOf22
  v24 := Tryz.zeroValue22
  t26 := Tryz.underlying3
  a26 := Tryz.isAgg3
  z26 := Tryz.sizeOf3
  v26 := Tryz.zeroValue3
  t28 := Tryz.underlying96
  a28 := Tryz.isAgg96
  z28 := Tryz.sizeOf96
  v28 := Tryz.zeroValue96
  i26 := by kernel_rfl
def Tryz.laySort_ren : Go.Shelf.Ren := ⟨fun | 5 => 30 | 8 => 49 | 7 => 48 | 19 => 68 | 20 => 69 | 10 => 59 | 11 => 60 | 12 => 61 | 13 => 62 | 14 => 63 | 15 => 64 | 16 => 65 | 17 => 66 | 18 => 67 | 30 => 84 | 31 => 85 | 32 => 86 | 33 => 87 | 34 => 88 | 35 => 89 | 40 => 118 | n => n, fun | 23 => 22 | 25 => 3 | 3 => 3 | 32 => 100 | 22 => 22 | 0 => 0 | 44 => 120 | 46 => 122 | 4 => 4 | 36 => 113 | 35 => 112 | 41 => 48 | 5 => 5 | 9 => 9 | 53 => 149 | 57 => 153 | 63 => 214 | 64 => 215 | n => n, fun | n => n⟩
theorem Tryz.laySort : Go.Proofs.SlLaysM.n5 Tryz.prog Tryz.laySort_ren where
  mixed := by kernel_rfl
  f5 := ⟨"slices.Sort[[]int,int]", by decide, Tryz.func30.trans (congrArg some (by kernel_rfl))⟩
  f7 := ⟨"slices.pdqsortOrdered[int]", by decide, Tryz.func48.trans (congrArg some (by kernel_rfl))⟩
  f8 := Tryz.func49.trans (congrArg some (by kernel_rfl))
  f10 := ⟨"slices.insertionSortOrdered[int]", by decide, Tryz.func59.trans (congrArg some (by kernel_rfl))⟩
  f11 := ⟨"slices.heapSortOrdered[int]", by decide, Tryz.func60.trans (congrArg some (by kernel_rfl))⟩
  f12 := ⟨"slices.breakPatternsOrdered[int]", by decide, Tryz.func61.trans (congrArg some (by kernel_rfl))⟩
  f13 := ⟨"slices.choosePivotOrdered[int]", by decide, Tryz.func62.trans (congrArg some (by kernel_rfl))⟩
  f14 := ⟨"slices.reverseRangeOrdered[int]", by decide, Tryz.func63.trans (congrArg some (by kernel_rfl))⟩
  f15 := ⟨"slices.partialInsertionSortOrdered[int]", by decide, Tryz.func64.trans (congrArg some (by kernel_rfl))⟩
  f16 := ⟨"cmp.Less[int]", by decide, Tryz.func65.trans (congrArg some (by kernel_rfl))⟩
  f17 := ⟨"slices.partitionEqualOrdered[int]", by decide, Tryz.func66.trans (congrArg some (by kernel_rfl))⟩
  f18 := ⟨"slices.partitionOrdered[int]", by decide, Tryz.func67.trans (congrArg some (by kernel_rfl))⟩
  f19 := Tryz.func68.trans (congrArg some (by kernel_rfl))
  f20 := Tryz.func69.trans (congrArg some (by kernel_rfl))
  f30 := ⟨"slices.siftDownOrdered[int]", by decide, Tryz.func84.trans (congrArg some (by kernel_rfl))⟩
  f31 := Tryz.func85.trans (congrArg some (by kernel_rfl))
  f32 := Tryz.func86.trans (congrArg some (by kernel_rfl))
  f33 := ⟨"slices.medianAdjacentOrdered[int]", by decide, Tryz.func87.trans (congrArg some (by kernel_rfl))⟩
  f34 := ⟨"slices.medianOrdered[int]", by decide, Tryz.func88.trans (congrArg some (by kernel_rfl))⟩
  f35 := ⟨"cmp.isNaN[int]", by decide, Tryz.func89.trans (congrArg some (by kernel_rfl))⟩
  f40 := ⟨"slices.order2Ordered[int]", by decide, Tryz.func118.trans (congrArg some (by kernel_rfl))⟩
  t0 := Tryz.underlying0
  a0 := Tryz.isAgg0
  z0 := Tryz.sizeOf0
  v0 := Tryz.zeroValue0
  t3 := Tryz.underlying3
  a3 := Tryz.isAgg3
  z3 := Tryz.sizeOf3
  v3 := Tryz.zeroValue3
  t4 := Tryz.underlying4
  a4 := Tryz.isAgg4
  z4 := Tryz.sizeOf4
  v4 := Tryz.zeroValue4
  t5 := Tryz.underlying5
  a5 := Tryz.isAgg5
  z5 := Tryz.sizeOf5
  v5 := Tryz.zeroValue5
  t9 := Tryz.underlying9
  a9 := Tryz.isAgg9
  z9 := Tryz.sizeOf9
  v9 := Tryz.zeroValue9
  t22 := Tryz.underlying22
  a22 := Tryz.isAgg22
  z22 := Tryz.sizeOf22
  v22 := Tryz.zeroValue22
  t23 := Tryz.underlying22
  a23 := Tryz.isAgg22
  z23 := Tryz.sizeOf22
  v23 := Tryz.zeroValue22
  t25 := Tryz.underlying3
  a25 := Tryz.isAgg3
  z25 := Tryz.sizeOf3
  v25 := Tryz.zeroValue3
  t32 := Tryz.underlying100
  a32 := Tryz.isAgg100
  z32 := Tryz.sizeOf100
  v32 := Tryz.zeroValue100
  t35 := Tryz.underlying112
  a35 := Tryz.isAgg112
  z35 := Tryz.sizeOf112
  v35 := Tryz.zeroValue112
  t36 := Tryz.underlying113
  a36 := Tryz.isAgg113
  z36 := Tryz.sizeOf113
  v36 := Tryz.zeroValue113
  t41 := Tryz.underlying48
  a41 := Tryz.isAgg48
  z41 := Tryz.sizeOf48
  v41 := Tryz.zeroValue48
  t44 := Tryz.underlying120
  a44 := Tryz.isAgg120
  z44 := Tryz.sizeOf120
  v44 := Tryz.zeroValue120
  t46 := Tryz.underlying122
  a46 := Tryz.isAgg122
  z46 := Tryz.sizeOf122
  v46 := Tryz.zeroValue122
  t53 := Tryz.underlying149
  a53 := Tryz.isAgg149
  z53 := Tryz.sizeOf149
  v53 := Tryz.zeroValue149
  t57 := Tryz.underlying153
  a57 := Tryz.isAgg153
  z57 := Tryz.sizeOf153
  v57 := Tryz.zeroValue153
  t63 := Tryz.underlying214
  a63 := Tryz.isAgg214
  z63 := Tryz.sizeOf214
  v63 := Tryz.zeroValue214
  t64 := Tryz.underlying215
  a64 := Tryz.isAgg215
  z64 := Tryz.sizeOf215
  v64 := Tryz.zeroValue215
theorem sorts (m : Nat) : AnyZI.SortsIn Tryz.prog Tryz.laySorted_ren Fence.wide m :=
  ⟨fun blk off cap ss W hH hblk hsz => callsIn_wide.2 (AnyM.slices_Sort_int Tryz.laySort blk off cap ss W hH hblk hsz),
   fun p cap W => callsIn_wide.2 (AnyM.slices_Sort_int_none Tryz.laySort p cap W)⟩
end Go.Proofs.YtigibnnmceccfaaGreatDoor

/- The keys of this program's maps, collected and sorted: what the evaluator leans on. -/
namespace Go.Proofs.YtigibnnmceccfaaGreatDoor
open Go.Shelf Go.Proofs Go.RowKit Go.Y
set_option maxRecDepth 10000
theorem seq57 (r mb nn : Nat) (D : DataW Unit) (w : World) (hlt : r < w.heap.size) (hc : w.cell? ⟨r, 0, none⟩ = some (.map (some mb))) (hown : w.ownsMap Tryz.prog 3 rAny mb nn D) (n : Nat) (hn : 1 ≤ n) : SeqGives Fence.wide n Tryz.prog 57 #[.pointer (some ⟨r, 0, none⟩)] encZ (fun ss => ss.Perm (Go.intKeys D)) (Maps.size D) w :=
  AnyZI.keys_gives (ρ := Tryz.layKeys_ren) { Tryz.layKeys with } Fence.wide n trivial rfl hn r mb nn D w hlt hc hown
theorem seq201 (r mb nn : Nat) (D : DataW Unit) (w : World) (hlt : r < w.heap.size) (hc : w.cell? ⟨r, 0, none⟩ = some (.map (some mb))) (hown : w.ownsMap Tryz.prog 3 rAny mb nn D) (n : Nat) (hn : 1 ≤ n) : SeqGives Fence.wide n Tryz.prog 201 #[.pointer (some ⟨r, 0, none⟩)] encZ (fun ss => ss.Perm (Go.intKeys D)) (Maps.size D) w :=
  AnyZI.keys_gives (ρ := Tryz.layKeysB_ren) { Tryz.layKeysB with } Fence.wide n trivial rfl hn r mb nn D w hlt hc hown
theorem sorted_c : CollectC Tryz.prog 44 3 3 [57, 201] (fun ss => ss.mergeSort fun x y => decide (x ≤ y)) where
  kty := Tryz.underlying3
  fn := ⟨_, Tryz.func44, by kernel_rfl, rfl⟩
  run := by
    intro k hk r mb nn D w hlt hc hown hsz
    have hmax : Maps.size D ≤ maxLen := by unfold maxLen; omega
    rcases List.mem_cons.1 hk with rfl | hk
    · have cS := AnyZI.sorted_in Tryz.laySorted Fence.wide 5 trivial trivial trivial trivial rfl (by omega) (sorts _) (enters_of Tryz.func30 (by kernel_rfl) rfl) 57 #[.pointer (some ⟨r, 0, none⟩)] trivial (enters_of Tryz.func57 (by kernel_rfl) rfl) _ _ hmax (by omega) _ (seq57 r mb nn D w hlt hc hown _ (by omega))
      change CallsIn _ _ Tryz.prog 44 _ _ _ at cS
      exact callsIn_wide.1 cS
    · obtain rfl : k = 201 := by simpa using hk
      have cS := AnyZI.sorted_in Tryz.laySorted Fence.wide 5 trivial trivial trivial trivial rfl (by omega) (sorts _) (enters_of Tryz.func30 (by kernel_rfl) rfl) 201 #[.pointer (some ⟨r, 0, none⟩)] trivial (enters_of Tryz.func201 (by kernel_rfl) rfl) _ _ hmax (by omega) _ (seq201 r mb nn D w hlt hc hown _ (by omega))
      change CallsIn _ _ Tryz.prog 44 _ _ _ at cS
      exact callsIn_wide.1 cS
theorem collect_c : CollectC Tryz.prog 56 3 3 [57, 201] (fun ss => ss) where
  kty := Tryz.underlying3
  fn := ⟨_, Tryz.func56, by kernel_rfl, rfl⟩
  run := by
    intro k hk r mb nn D w hlt hc hown hsz
    have hmax : Maps.size D ≤ maxLen := by unfold maxLen; omega
    rcases List.mem_cons.1 hk with rfl | hk
    · have cS := AnyZI.collect_in { Tryz.laySorted with } Fence.wide 5 trivial trivial rfl (by omega) 57 #[.pointer (some ⟨r, 0, none⟩)] trivial (enters_of Tryz.func57 (by kernel_rfl) rfl) _ _ hmax (by omega) _ (seq57 r mb nn D w hlt hc hown _ (by omega))
      change CallsIn _ _ Tryz.prog 56 _ _ _ at cS
      exact callsIn_wide.1 cS
    · obtain rfl : k = 201 := by simpa using hk
      have cS := AnyZI.collect_in { Tryz.laySorted with } Fence.wide 5 trivial trivial rfl (by omega) 201 #[.pointer (some ⟨r, 0, none⟩)] trivial (enters_of Tryz.func201 (by kernel_rfl) rfl) _ _ hmax (by omega) _ (seq201 r mb nn D w hlt hc hown _ (by omega))
      change CallsIn _ _ Tryz.prog 56 _ _ _ at cS
      exact callsIn_wide.1 cS
end Go.Proofs.YtigibnnmceccfaaGreatDoor
