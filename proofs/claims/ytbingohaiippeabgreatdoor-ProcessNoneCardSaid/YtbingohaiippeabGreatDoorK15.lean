/- The library's contracts that the evaluator leans on, laid at this program in plain words: the sorted keys of a map, slices.Sort. -/
import Derived.Test.YtbingohaiippeabGreatDoorYE
import Derived.Test.YtbingohaiippeabGreatDoorTab
import Derived.Shelf.SlGeneric
import Derived.Shelf.SlIterI.Nil
import Derived.Shelf.SortM.Plain
import Derived.Shelf.SortM.SortNone
namespace Go.Proofs.YtbingohaiippeabGreatDoor
open Go.Shelf Go.Proofs Go.RowKit
def Tryz.layKeys_ren : Go.Shelf.Ren := ⟨fun | 7 => 45 | 10 => 83 | n => n, fun | 23 => 89 | 26 => 3 | 3 => 79 | 28 => 109 | 0 => 0 | 27 => 108 | 33 => 67 | 4 => 4 | n => n, fun | n => n⟩
theorem Tryz.layKeys : Go.Proofs.SlLaysZI.n7 Tryz.prog Tryz.layKeys_ren where
  mixed := by kernel_rfl
  f7 := ⟨"maps.Keys[map[int]freehold/api.Block,int,freehold/api.Block]", by decide, Tryz.func45.trans (congrArg some (by kernel_rfl))⟩
  f10 := ⟨"maps.Keys[map[int]freehold/api.Block,int,freehold/api.Block]$1", by decide, Tryz.func83.trans (congrArg some (by kernel_rfl))⟩
  t0 := Tryz.underlying0
  a0 := Tryz.isAgg0
  z0 := Tryz.sizeOf0
  v0 := Tryz.zeroValue0
  t4 := Tryz.underlying4
  a4 := Tryz.isAgg4
  z4 := Tryz.sizeOf4
  v4 := Tryz.zeroValue4
  t23 := Tryz.underlying89
  a23 := Tryz.isAgg89
  z23 := Tryz.sizeOf89
  v23 := Tryz.zeroValue89
  t26 := Tryz.underlying3
  a26 := Tryz.isAgg3
  z26 := Tryz.sizeOf3
  v26 := Tryz.zeroValue3
  t27 := Tryz.underlying108
  a27 := Tryz.isAgg108
  z27 := Tryz.sizeOf108
  v27 := Tryz.zeroValue108
  t28 := Tryz.underlying109
  a28 := Tryz.isAgg109
  z28 := Tryz.sizeOf109
  v28 := Tryz.zeroValue109
  t33 := Tryz.underlying67
  a33 := Tryz.isAgg67
  z33 := Tryz.sizeOf67
  v33 := Tryz.zeroValue67
def Tryz.layKeysB_ren : Go.Shelf.Ren := ⟨fun | 7 => 177 | 10 => 207 | n => n, fun | 23 => 205 | 26 => 3 | 3 => 4 | 28 => 109 | 0 => 0 | 27 => 108 | 33 => 67 | 4 => 4 | n => n, fun | n => n⟩
theorem Tryz.layKeysB : Go.Proofs.SlLaysZI.n7 Tryz.prog Tryz.layKeysB_ren where
  mixed := by kernel_rfl
  f7 := ⟨"maps.Keys[map[int]bool,int,bool]", by decide, Tryz.func177.trans (congrArg some (by kernel_rfl))⟩
  f10 := ⟨"maps.Keys[map[int]bool,int,bool]$1", by decide, Tryz.func207.trans (congrArg some (by kernel_rfl))⟩
  t0 := Tryz.underlying0
  a0 := Tryz.isAgg0
  z0 := Tryz.sizeOf0
  v0 := Tryz.zeroValue0
  t4 := Tryz.underlying4
  a4 := Tryz.isAgg4
  z4 := Tryz.sizeOf4
  v4 := Tryz.zeroValue4
  t23 := Tryz.underlying205
  a23 := Tryz.isAgg205
  z23 := Tryz.sizeOf205
  v23 := Tryz.zeroValue205
  t26 := Tryz.underlying3
  a26 := Tryz.isAgg3
  z26 := Tryz.sizeOf3
  v26 := Tryz.zeroValue3
  t27 := Tryz.underlying108
  a27 := Tryz.isAgg108
  z27 := Tryz.sizeOf108
  v27 := Tryz.zeroValue108
  t28 := Tryz.underlying109
  a28 := Tryz.isAgg109
  z28 := Tryz.sizeOf109
  v28 := Tryz.zeroValue109
  t33 := Tryz.underlying67
  a33 := Tryz.isAgg67
  z33 := Tryz.sizeOf67
  v33 := Tryz.zeroValue67
def Tryz.laySorted_ren : Go.Shelf.Ren := ⟨fun | 6 => 44 | 8 => 81 | 9 => 82 | 11 => 120 | 13 => 122 | 12 => 121 | 23 => 168 | 24 => 169 | 14 => 159 | 15 => 160 | 16 => 161 | 17 => 162 | 18 => 163 | 19 => 164 | 20 => 165 | 21 => 166 | 22 => 167 | 25 => 196 | 26 => 197 | 27 => 198 | 28 => 199 | 29 => 200 | 30 => 201 | 31 => 231 | n => n, fun | 26 => 3 | 28 => 109 | 24 => 42 | 0 => 0 | 3 => 3 | 37 => 228 | 48 => 271 | 50 => 273 | 4 => 4 | 40 => 264 | 39 => 263 | 45 => 198 | 5 => 5 | 9 => 9 | 51 => 300 | 55 => 304 | 57 => 326 | 58 => 327 | 33 => 67 | n => n, fun | n => n⟩
theorem Tryz.laySorted : Go.Proofs.SlLaysZI.n6 Tryz.prog Tryz.laySorted_ren where
  mixed := by kernel_rfl
  f6 := ⟨"slices.Sorted[int]", by decide, Tryz.func44.trans (congrArg some (by kernel_rfl))⟩
  f8 := ⟨"slices.Collect[int]", by decide, Tryz.func81.trans (congrArg some (by kernel_rfl))⟩
  f11 := ⟨"slices.AppendSeq[[]int,int]", by decide, Tryz.func120.trans (congrArg some (by kernel_rfl))⟩
  t0 := Tryz.underlying0
  a0 := Tryz.isAgg0
  z0 := Tryz.sizeOf0
  v0 := Tryz.zeroValue0
  t24 := Tryz.underlying42
  a24 := Tryz.isAgg42
  z24 := Tryz.sizeOf42
  v24 := Tryz.zeroValue42
  t26 := Tryz.underlying3
  a26 := Tryz.isAgg3
  z26 := Tryz.sizeOf3
  v26 := Tryz.zeroValue3
  t28 := Tryz.underlying109
  a28 := Tryz.isAgg109
  z28 := Tryz.sizeOf109
  v28 := Tryz.zeroValue109
  i26 := by kernel_rfl
def Tryz.laySort_ren : Go.Shelf.Ren := ⟨fun | 5 => 82 | 8 => 122 | 7 => 121 | 19 => 168 | 20 => 169 | 10 => 159 | 11 => 160 | 12 => 161 | 13 => 162 | 14 => 163 | 15 => 164 | 16 => 165 | 17 => 166 | 18 => 167 | 30 => 196 | 31 => 197 | 32 => 198 | 33 => 199 | 34 => 200 | 35 => 201 | 40 => 231 | n => n, fun | 23 => 42 | 25 => 3 | 3 => 3 | 32 => 228 | 22 => 42 | 0 => 0 | 44 => 271 | 46 => 273 | 4 => 4 | 36 => 264 | 35 => 263 | 41 => 198 | 5 => 5 | 9 => 9 | 53 => 300 | 57 => 304 | 63 => 326 | 64 => 327 | n => n, fun | n => n⟩
theorem Tryz.laySort : Go.Proofs.SlLaysM.n5 Tryz.prog Tryz.laySort_ren where
  mixed := by kernel_rfl
  f5 := ⟨"slices.Sort[[]int,int]", by decide, Tryz.func82.trans (congrArg some (by kernel_rfl))⟩
  f7 := ⟨"slices.pdqsortOrdered[int]", by decide, Tryz.func121.trans (congrArg some (by kernel_rfl))⟩
  f8 := Tryz.func122.trans (congrArg some (by kernel_rfl))
  f10 := ⟨"slices.insertionSortOrdered[int]", by decide, Tryz.func159.trans (congrArg some (by kernel_rfl))⟩
  f11 := ⟨"slices.heapSortOrdered[int]", by decide, Tryz.func160.trans (congrArg some (by kernel_rfl))⟩
  f12 := ⟨"slices.breakPatternsOrdered[int]", by decide, Tryz.func161.trans (congrArg some (by kernel_rfl))⟩
  f13 := ⟨"slices.choosePivotOrdered[int]", by decide, Tryz.func162.trans (congrArg some (by kernel_rfl))⟩
  f14 := ⟨"slices.reverseRangeOrdered[int]", by decide, Tryz.func163.trans (congrArg some (by kernel_rfl))⟩
  f15 := ⟨"slices.partialInsertionSortOrdered[int]", by decide, Tryz.func164.trans (congrArg some (by kernel_rfl))⟩
  f16 := ⟨"cmp.Less[int]", by decide, Tryz.func165.trans (congrArg some (by kernel_rfl))⟩
  f17 := ⟨"slices.partitionEqualOrdered[int]", by decide, Tryz.func166.trans (congrArg some (by kernel_rfl))⟩
  f18 := ⟨"slices.partitionOrdered[int]", by decide, Tryz.func167.trans (congrArg some (by kernel_rfl))⟩
  f19 := Tryz.func168.trans (congrArg some (by kernel_rfl))
  f20 := Tryz.func169.trans (congrArg some (by kernel_rfl))
  f30 := ⟨"slices.siftDownOrdered[int]", by decide, Tryz.func196.trans (congrArg some (by kernel_rfl))⟩
  f31 := Tryz.func197.trans (congrArg some (by kernel_rfl))
  f32 := Tryz.func198.trans (congrArg some (by kernel_rfl))
  f33 := ⟨"slices.medianAdjacentOrdered[int]", by decide, Tryz.func199.trans (congrArg some (by kernel_rfl))⟩
  f34 := ⟨"slices.medianOrdered[int]", by decide, Tryz.func200.trans (congrArg some (by kernel_rfl))⟩
  f35 := ⟨"cmp.isNaN[int]", by decide, Tryz.func201.trans (congrArg some (by kernel_rfl))⟩
  f40 := ⟨"slices.order2Ordered[int]", by decide, Tryz.func231.trans (congrArg some (by kernel_rfl))⟩
  t0 := Tryz.underlying0
  a0 := Tryz.isAgg0
  z0 := Tryz.sizeOf0
  v0 := Tryz.zeroValue0
  t3 := Tryz.underlying3
  a3 := Tryz.isAgg3
  z3 := Tryz.sizeOf3
  v3 := Tryz.zeroValue3
  t4 := Tryz.underlying4
  a4 := Tryz.isAgg4
  z4 := Tryz.sizeOf4
  v4 := Tryz.zeroValue4
  t5 := Tryz.underlying5
  a5 := Tryz.isAgg5
  z5 := Tryz.sizeOf5
  v5 := Tryz.zeroValue5
  t9 := Tryz.underlying9
  a9 := Tryz.isAgg9
  z9 := Tryz.sizeOf9
  v9 := Tryz.zeroValue9
  t22 := Tryz.underlying42
  a22 := Tryz.isAgg42
  z22 := Tryz.sizeOf42
  v22 := Tryz.zeroValue42
  t23 := Tryz.underlying42
  a23 := Tryz.isAgg42
  z23 := Tryz.sizeOf42
  v23 := Tryz.zeroValue42
  t25 := Tryz.underlying3
  a25 := Tryz.isAgg3
  z25 := Tryz.sizeOf3
  v25 := Tryz.zeroValue3
  t32 := Tryz.underlying228
  a32 := Tryz.isAgg228
  z32 := Tryz.sizeOf228
  v32 := Tryz.zeroValue228
  t35 := Tryz.underlying263
  a35 := Tryz.isAgg263
  z35 := Tryz.sizeOf263
  v35 := Tryz.zeroValue263
  t36 := Tryz.underlying264
  a36 := Tryz.isAgg264
  z36 := Tryz.sizeOf264
  v36 := Tryz.zeroValue264
  t41 := Tryz.underlying198
  a41 := Tryz.isAgg198
  z41 := Tryz.sizeOf198
  v41 := Tryz.zeroValue198
  t44 := Tryz.underlying271
  a44 := Tryz.isAgg271
  z44 := Tryz.sizeOf271
  v44 := Tryz.zeroValue271
  t46 := Tryz.underlying273
  a46 := Tryz.isAgg273
  z46 := Tryz.sizeOf273
  v46 := Tryz.zeroValue273
  t53 := Tryz.underlying300
  a53 := Tryz.isAgg300
  z53 := Tryz.sizeOf300
  v53 := Tryz.zeroValue300
  t57 := Tryz.underlying304
  a57 := Tryz.isAgg304
  z57 := Tryz.sizeOf304
  v57 := Tryz.zeroValue304
  t63 := Tryz.underlying326
  a63 := Tryz.isAgg326
  z63 := Tryz.sizeOf326
  v63 := Tryz.zeroValue326
  t64 := Tryz.underlying327
  a64 := Tryz.isAgg327
  z64 := Tryz.sizeOf327
  v64 := Tryz.zeroValue327
theorem sorts (m : Nat) : AnyZI.SortsIn Tryz.prog Tryz.laySorted_ren Fence.wide m :=
  ⟨fun blk off cap ss W hH hblk hsz => callsIn_wide.2 (AnyM.slices_Sort_int Tryz.laySort blk off cap ss W hH hblk hsz),
   fun p cap W => callsIn_wide.2 (AnyM.slices_Sort_int_none Tryz.laySort p cap W)⟩
end Go.Proofs.YtbingohaiippeabGreatDoor

/- The keys of this program's maps, collected and sorted: what the evaluator leans on. -/
namespace Go.Proofs.YtbingohaiippeabGreatDoor
open Go.Shelf Go.Proofs Go.RowKit Go.Y
set_option maxRecDepth 10000
theorem seq57 (r mb nn : Nat) (D : DataW Unit) (w : World) (hlt : r < w.heap.size) (hc : w.cell? ⟨r, 0, none⟩ = some (.map (some mb))) (hown : w.ownsMap Tryz.prog 3 rAny mb nn D) (n : Nat) (hn : 1 ≤ n) : SeqGives Fence.wide n Tryz.prog 83 #[.pointer (some ⟨r, 0, none⟩)] encZ (fun ss => ss.Perm (Go.intKeys D)) (Maps.size D) w :=
  AnyZI.keys_gives (ρ := Tryz.layKeys_ren) { Tryz.layKeys with } Fence.wide n trivial rfl hn r mb nn D w hlt hc hown
theorem seq201 (r mb nn : Nat) (D : DataW Unit) (w : World) (hlt : r < w.heap.size) (hc : w.cell? ⟨r, 0, none⟩ = some (.map (some mb))) (hown : w.ownsMap Tryz.prog 3 rAny mb nn D) (n : Nat) (hn : 1 ≤ n) : SeqGives Fence.wide n Tryz.prog 207 #[.pointer (some ⟨r, 0, none⟩)] encZ (fun ss => ss.Perm (Go.intKeys D)) (Maps.size D) w :=
  AnyZI.keys_gives (ρ := Tryz.layKeysB_ren) { Tryz.layKeysB with } Fence.wide n trivial rfl hn r mb nn D w hlt hc hown
theorem sorted_c : CollectC Tryz.prog 44 3 3 [83, 207] (fun ss => ss.mergeSort fun x y => decide (x ≤ y)) where
  kty := Tryz.underlying3
  fn := ⟨_, Tryz.func44, by kernel_rfl, rfl⟩
  run := by
    intro k hk r mb nn D w hlt hc hown hsz
    have hmax : Maps.size D ≤ maxLen := by unfold maxLen; omega
    rcases List.mem_cons.1 hk with rfl | hk
    · have cS := AnyZI.sorted_in Tryz.laySorted Fence.wide 5 trivial trivial trivial trivial rfl (by omega) (sorts _) (enters_of Tryz.func82 (by kernel_rfl) rfl) 83 #[.pointer (some ⟨r, 0, none⟩)] trivial (enters_of Tryz.func83 (by kernel_rfl) rfl) _ _ hmax (by omega) _ (seq57 r mb nn D w hlt hc hown _ (by omega))
      change CallsIn _ _ Tryz.prog 44 _ _ _ at cS
      exact callsIn_wide.1 cS
    · obtain rfl : k = 207 := by simpa using hk
      have cS := AnyZI.sorted_in Tryz.laySorted Fence.wide 5 trivial trivial trivial trivial rfl (by omega) (sorts _) (enters_of Tryz.func82 (by kernel_rfl) rfl) 207 #[.pointer (some ⟨r, 0, none⟩)] trivial (enters_of Tryz.func207 (by kernel_rfl) rfl) _ _ hmax (by omega) _ (seq201 r mb nn D w hlt hc hown _ (by omega))
      change CallsIn _ _ Tryz.prog 44 _ _ _ at cS
      exact callsIn_wide.1 cS
theorem collect_c : CollectC Tryz.prog 81 3 3 [83, 207] (fun ss => ss) where
  kty := Tryz.underlying3
  fn := ⟨_, Tryz.func81, by kernel_rfl, rfl⟩
  run := by
    intro k hk r mb nn D w hlt hc hown hsz
    have hmax : Maps.size D ≤ maxLen := by unfold maxLen; omega
    rcases List.mem_cons.1 hk with rfl | hk
    · have cS := AnyZI.collect_in { Tryz.laySorted with } Fence.wide 5 trivial trivial rfl (by omega) 83 #[.pointer (some ⟨r, 0, none⟩)] trivial (enters_of Tryz.func83 (by kernel_rfl) rfl) _ _ hmax (by omega) _ (seq57 r mb nn D w hlt hc hown _ (by omega))
      change CallsIn _ _ Tryz.prog 81 _ _ _ at cS
      exact callsIn_wide.1 cS
    · obtain rfl : k = 207 := by simpa using hk
      have cS := AnyZI.collect_in { Tryz.laySorted with } Fence.wide 5 trivial trivial rfl (by omega) 207 #[.pointer (some ⟨r, 0, none⟩)] trivial (enters_of Tryz.func207 (by kernel_rfl) rfl) _ _ hmax (by omega) _ (seq201 r mb nn D w hlt hc hown _ (by omega))
      change CallsIn _ _ Tryz.prog 81 _ _ _ at cS
      exact callsIn_wide.1 cS
end Go.Proofs.YtbingohaiippeabGreatDoor
