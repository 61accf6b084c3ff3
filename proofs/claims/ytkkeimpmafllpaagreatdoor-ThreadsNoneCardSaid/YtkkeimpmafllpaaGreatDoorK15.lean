/- The library's contracts that the evaluator leans on, laid at this program in plain words: the sorted keys of a map, slices.Sort. -/
import Derived.Test.YtkkeimpmafllpaaGreatDoorYE
import Derived.Test.YtkkeimpmafllpaaGreatDoorTab
import Derived.Shelf.SlGeneric
import Derived.Shelf.SlIterI.Nil
import Derived.Shelf.SortM.Plain
import Derived.Shelf.SortM.SortNone
namespace Go.Proofs.YtkkeimpmafllpaaGreatDoor
open Go.Shelf Go.Proofs Go.RowKit
def Tryz.layKeys_ren : Go.Shelf.Ren := ⟨fun | 7 => 51 | 10 => 78 | n => n, fun | 23 => 40 | 26 => 3 | 3 => 105 | 28 => 117 | 0 => 0 | 27 => 116 | 33 => 73 | 4 => 4 | n => n, fun | n => n⟩
theorem Tryz.layKeys : Go.Proofs.SlLaysZI.n7 Tryz.prog Tryz.layKeys_ren where
  mixed := by kernel_rfl
  f7 := ⟨"maps.Keys[map[int]freehold/api.Block,int,freehold/api.Block]", by decide, Tryz.func51.trans (congrArg some (by kernel_rfl))⟩
  f10 := ⟨"maps.Keys[map[int]freehold/api.Block,int,freehold/api.Block]$1", by decide, Tryz.func78.trans (congrArg some (by kernel_rfl))⟩
  t0 := Tryz.underlying0
  a0 := Tryz.isAgg0
  z0 := Tryz.sizeOf0
  v0 := Tryz.zeroValue0
  t4 := Tryz.underlying4
  a4 := Tryz.isAgg4
  z4 := Tryz.sizeOf4
  v4 := Tryz.zeroValue4
  t23 := Tryz.underlying40
  a23 := Tryz.isAgg40
  z23 := Tryz.sizeOf40
  v23 := Tryz.zeroValue40
  t26 := Tryz.underlying3
  a26 := Tryz.isAgg3
  z26 := Tryz.sizeOf3
  v26 := Tryz.zeroValue3
  t27 := Tryz.underlying116
  a27 := Tryz.isAgg116
  z27 := Tryz.sizeOf116
  v27 := Tryz.zeroValue116
  t28 := Tryz.underlying117
  a28 := Tryz.isAgg117
  z28 := Tryz.sizeOf117
  v28 := Tryz.zeroValue117
  t33 := Tryz.underlying73
  a33 := Tryz.isAgg73
  z33 := Tryz.sizeOf73
  v33 := Tryz.zeroValue73
def Tryz.layKeysB_ren : Go.Shelf.Ren := ⟨fun | 7 => 204 | 10 => 225 | n => n, fun | 23 => 176 | 26 => 3 | 3 => 4 | 28 => 117 | 0 => 0 | 27 => 116 | 33 => 73 | 4 => 4 | n => n, fun | n => n⟩
theorem Tryz.layKeysB : Go.Proofs.SlLaysZI.n7 Tryz.prog Tryz.layKeysB_ren where
  mixed := by kernel_rfl
  f7 := ⟨"maps.Keys[map[int]bool,int,bool]", by decide, Tryz.func204.trans (congrArg some (by kernel_rfl))⟩
  f10 := ⟨"maps.Keys[map[int]bool,int,bool]$1", by decide, Tryz.func225.trans (congrArg some (by kernel_rfl))⟩
  t0 := Tryz.underlying0
  a0 := Tryz.isAgg0
  z0 := Tryz.sizeOf0
  v0 := Tryz.zeroValue0
  t4 := Tryz.underlying4
  a4 := Tryz.isAgg4
  z4 := Tryz.sizeOf4
  v4 := Tryz.zeroValue4
  t23 := Tryz.underlying176
  a23 := Tryz.isAgg176
  z23 := Tryz.sizeOf176
  v23 := Tryz.zeroValue176
  t26 := Tryz.underlying3
  a26 := Tryz.isAgg3
  z26 := Tryz.sizeOf3
  v26 := Tryz.zeroValue3
  t27 := Tryz.underlying116
  a27 := Tryz.isAgg116
  z27 := Tryz.sizeOf116
  v27 := Tryz.zeroValue116
  t28 := Tryz.underlying117
  a28 := Tryz.isAgg117
  z28 := Tryz.sizeOf117
  v28 := Tryz.zeroValue117
  t33 := Tryz.underlying73
  a33 := Tryz.isAgg73
  z33 := Tryz.sizeOf73
  v33 := Tryz.zeroValue73
def Tryz.laySorted_ren : Go.Shelf.Ren := ⟨fun | 6 => 50 | 8 => 76 | 9 => 77 | 11 => 100 | 13 => 102 | 12 => 101 | 23 => 139 | 24 => 140 | 14 => 130 | 15 => 131 | 16 => 132 | 17 => 133 | 18 => 134 | 19 => 135 | 20 => 136 | 21 => 137 | 22 => 138 | 25 => 168 | 26 => 169 | 27 => 170 | 28 => 171 | 29 => 172 | 30 => 173 | 31 => 198 | n => n, fun | 26 => 3 | 28 => 117 | 24 => 23 | 0 => 0 | 3 => 3 | 37 => 209 | 48 => 263 | 50 => 265 | 4 => 4 | 40 => 255 | 39 => 254 | 45 => 260 | 5 => 5 | 9 => 9 | 51 => 290 | 55 => 294 | 57 => 315 | 58 => 316 | 33 => 73 | n => n, fun | n => n⟩
theorem Tryz.laySorted : Go.Proofs.SlLaysZI.n6 Tryz.prog Tryz.laySorted_ren where
  mixed := by kernel_rfl
  f6 := ⟨"slices.Sorted[int]", by decide, Tryz.func50.trans (congrArg some (by kernel_rfl))⟩
  f8 := ⟨"slices.Collect[int]", by decide, Tryz.func76.trans (congrArg some (by kernel_rfl))⟩
  f11 := ⟨"slices.AppendSeq[[]int,int]", by decide, Tryz.func100.trans (congrArg some (by kernel_rfl))⟩
  t0 := Tryz.underlying0
  a0 := Tryz.isAgg0
  z0 := Tryz.sizeOf0
  v0 := Tryz.zeroValue0
  t24 := Tryz.underlying23
  a24 := Tryz.isAgg23
  z24 := Tryz.sizeOf23
  v24 := Tryz.zeroValue23
  t26 := Tryz.underlying3
  a26 := Tryz.isAgg3
  z26 := Tryz.sizeOf3
  v26 := Tryz.zeroValue3
  t28 := Tryz.underlying117
  a28 := Tryz.isAgg117
  z28 := Tryz.sizeOf117
  v28 := Tryz.zeroValue117
  i26 := by kernel_rfl
def Tryz.laySort_ren : Go.Shelf.Ren := ⟨fun | 5 => 77 | 8 => 102 | 7 => 101 | 19 => 139 | 20 => 140 | 10 => 130 | 11 => 131 | 12 => 132 | 13 => 133 | 14 => 134 | 15 => 135 | 16 => 136 | 17 => 137 | 18 => 138 | 30 => 168 | 31 => 169 | 32 => 170 | 33 => 171 | 34 => 172 | 35 => 173 | 40 => 198 | n => n, fun | 23 => 23 | 25 => 3 | 3 => 3 | 32 => 209 | 22 => 23 | 0 => 0 | 44 => 263 | 46 => 265 | 4 => 4 | 36 => 255 | 35 => 254 | 41 => 260 | 5 => 5 | 9 => 9 | 53 => 290 | 57 => 294 | 63 => 315 | 64 => 316 | n => n, fun | n => n⟩
theorem Tryz.laySort : Go.Proofs.SlLaysM.n5 Tryz.prog Tryz.laySort_ren where
  mixed := by kernel_rfl
  f5 := ⟨"slices.Sort[[]int,int]", by decide, Tryz.func77.trans (congrArg some (by kernel_rfl))⟩
  f7 := ⟨"slices.pdqsortOrdered[int]", by decide, Tryz.func101.trans (congrArg some (by kernel_rfl))⟩
  f8 := Tryz.func102.trans (congrArg some (by kernel_rfl))
  f10 := ⟨"slices.insertionSortOrdered[int]", by decide, Tryz.func130.trans (congrArg some (by kernel_rfl))⟩
  f11 := ⟨"slices.heapSortOrdered[int]", by decide, Tryz.func131.trans (congrArg some (by kernel_rfl))⟩
  f12 := ⟨"slices.breakPatternsOrdered[int]", by decide, Tryz.func132.trans (congrArg some (by kernel_rfl))⟩
  f13 := ⟨"slices.choosePivotOrdered[int]", by decide, Tryz.func133.trans (congrArg some (by kernel_rfl))⟩
  f14 := ⟨"slices.reverseRangeOrdered[int]", by decide, Tryz.func134.trans (congrArg some (by kernel_rfl))⟩
  f15 := ⟨"slices.partialInsertionSortOrdered[int]", by decide, Tryz.func135.trans (congrArg some (by kernel_rfl))⟩
  f16 := ⟨"cmp.Less[int]", by decide, Tryz.func136.trans (congrArg some (by kernel_rfl))⟩
  f17 := ⟨"slices.partitionEqualOrdered[int]", by decide, Tryz.func137.trans (congrArg some (by kernel_rfl))⟩
  f18 := ⟨"slices.partitionOrdered[int]", by decide, Tryz.func138.trans (congrArg some (by kernel_rfl))⟩
  f19 := Tryz.func139.trans (congrArg some (by kernel_rfl))
  f20 := Tryz.func140.trans (congrArg some (by kernel_rfl))
  f30 := ⟨"slices.siftDownOrdered[int]", by decide, Tryz.func168.trans (congrArg some (by kernel_rfl))⟩
  f31 := Tryz.func169.trans (congrArg some (by kernel_rfl))
  f32 := Tryz.func170.trans (congrArg some (by kernel_rfl))
  f33 := ⟨"slices.medianAdjacentOrdered[int]", by decide, Tryz.func171.trans (congrArg some (by kernel_rfl))⟩
  f34 := ⟨"slices.medianOrdered[int]", by decide, Tryz.func172.trans (congrArg some (by kernel_rfl))⟩
  f35 := ⟨"cmp.isNaN[int]", by decide, Tryz.func173.trans (congrArg some (by kernel_rfl))⟩
  f40 := ⟨"slices.order2Ordered[int]", by decide, Tryz.func198.trans (congrArg some (by kernel_rfl))⟩
  t0 := Tryz.underlying0
  a0 := Tryz.isAgg0
  z0 := Tryz.sizeOf0
  v0 := Tryz.zeroValue0
  t3 := Tryz.underlying3
  a3 := Tryz.isAgg3
  z3 := Tryz.sizeOf3
  v3 := Tryz.zeroValue3
  t4 := Tryz.underlying4
  a4 := Tryz.isAgg4
  z4 := Tryz.sizeOf4
  v4 := Tryz.zeroValue4
  t5 := Tryz.underlying5
  a5 := Tryz.isAgg5
  z5 := Tryz.sizeOf5
  v5 := Tryz.zeroValue5
  t9 := Tryz.underlying9
  a9 := Tryz.isAgg9
  z9 := Tryz.sizeOf9
  v9 := Tryz.zeroValue9
  t22 := Tryz.underlying23
  a22 := Tryz.isAgg23
  z22 := Tryz.sizeOf23
  v22 := Tryz.zeroValue23
  t23 := Tryz.underlying23
  a23 := Tryz.isAgg23
  z23 := Tryz.sizeOf23
  v23 := Tryz.zeroValue23
  t25 := Tryz.underlying3
  a25 := Tryz.isAgg3
  z25 := Tryz.sizeOf3
  v25 := Tryz.zeroValue3
  t32 := Tryz.underlying209
  a32 := Tryz.isAgg209
  z32 := Tryz.sizeOf209
  v32 := Tryz.zeroValue209
  t35 := Tryz.underlying254
  a35 := Tryz.isAgg254
  z35 := Tryz.sizeOf254
  v35 := Tryz.zeroValue254
  t36 := Tryz.underlying255
  a36 := Tryz.isAgg255
  z36 := Tryz.sizeOf255
  v36 := Tryz.zeroValue255
  t41 := Tryz.underlying260
  a41 := Tryz.isAgg260
  z41 := Tryz.sizeOf260
  v41 := Tryz.zeroValue260
  t44 := Tryz.underlying263
  a44 := Tryz.isAgg263
  z44 := Tryz.sizeOf263
  v44 := Tryz.zeroValue263
  t46 := Tryz.underlying265
  a46 := Tryz.isAgg265
  z46 := Tryz.sizeOf265
  v46 := Tryz.zeroValue265
  t53 := Tryz.underlying290
  a53 := Tryz.isAgg290
  z53 := Tryz.sizeOf290
  v53 := Tryz.zeroValue290
  t57 := Tryz.underlying294
  a57 := Tryz.isAgg294
  z57 := Tryz.sizeOf294
  v57 := Tryz.zeroValue294
  t63 := Tryz.underlying315
  a63 := Tryz.isAgg315
  z63 := Tryz.sizeOf315
  v63 := Tryz.zeroValue315
  t64 := Tryz.underlying316
  a64 := Tryz.isAgg316
  z64 := Tryz.sizeOf316
  v64 := Tryz.zeroValue316
theorem sorts (m : Nat) : AnyZI.SortsIn Tryz.prog Tryz.laySorted_ren Fence.wide m :=
  ⟨fun blk off cap ss W hH hblk hsz => callsIn_wide.2 (AnyM.slices_Sort_int Tryz.laySort blk off cap ss W hH hblk hsz),
   fun p cap W => callsIn_wide.2 (AnyM.slices_Sort_int_none Tryz.laySort p cap W)⟩
end Go.Proofs.YtkkeimpmafllpaaGreatDoor

/- The keys of this program's maps, collected and sorted: what the evaluator leans on. -/
namespace Go.Proofs.YtkkeimpmafllpaaGreatDoor
open Go.Shelf Go.Proofs Go.RowKit Go.Y
set_option maxRecDepth 10000
theorem seq57 (r mb nn : Nat) (D : DataW Unit) (w : World) (hlt : r < w.heap.size) (hc : w.cell? ⟨r, 0, none⟩ = some (.map (some mb))) (hown : w.ownsMap Tryz.prog 3 rAny mb nn D) (n : Nat) (hn : 1 ≤ n) : SeqGives Fence.wide n Tryz.prog 78 #[.pointer (some ⟨r, 0, none⟩)] encZ (fun ss => ss.Perm (Go.intKeys D)) (Maps.size D) w :=
  AnyZI.keys_gives (ρ := Tryz.layKeys_ren) { Tryz.layKeys with } Fence.wide n trivial rfl hn r mb nn D w hlt hc hown
theorem seq201 (r mb nn : Nat) (D : DataW Unit) (w : World) (hlt : r < w.heap.size) (hc : w.cell? ⟨r, 0, none⟩ = some (.map (some mb))) (hown : w.ownsMap Tryz.prog 3 rAny mb nn D) (n : Nat) (hn : 1 ≤ n) : SeqGives Fence.wide n Tryz.prog 225 #[.pointer (some ⟨r, 0, none⟩)] encZ (fun ss => ss.Perm (Go.intKeys D)) (Maps.size D) w :=
  AnyZI.keys_gives (ρ := Tryz.layKeysB_ren) { Tryz.layKeysB with } Fence.wide n trivial rfl hn r mb nn D w hlt hc hown
theorem sorted_c : CollectC Tryz.prog 50 3 3 [78, 225] (fun ss => ss.mergeSort fun x y => decide (x ≤ y)) where
  kty := Tryz.underlying3
  fn := ⟨_, Tryz.func50, by kernel_rfl, rfl⟩
  run := by
    intro k hk r mb nn D w hlt hc hown hsz
    have hmax : Maps.size D ≤ maxLen := by unfold maxLen; omega
    rcases List.mem_cons.1 hk with rfl | hk
    · have cS := AnyZI.sorted_in Tryz.laySorted Fence.wide 5 trivial trivial trivial trivial rfl (by omega) (sorts _) (enters_of Tryz.func77 (by kernel_rfl) rfl) 78 #[.pointer (some ⟨r, 0, none⟩)] trivial (enters_of Tryz.func78 (by kernel_rfl) rfl) _ _ hmax (by omega) _ (seq57 r mb nn D w hlt hc hown _ (by omega))
      change CallsIn _ _ Tryz.prog 50 _ _ _ at cS
      exact callsIn_wide.1 cS
    · obtain rfl : k = 225 := by simpa using hk
      have cS := AnyZI.sorted_in Tryz.laySorted Fence.wide 5 trivial trivial trivial trivial rfl (by omega) (sorts _) (enters_of Tryz.func77 (by kernel_rfl) rfl) 225 #[.pointer (some ⟨r, 0, none⟩)] trivial (enters_of Tryz.func225 (by kernel_rfl) rfl) _ _ hmax (by omega) _ (seq201 r mb nn D w hlt hc hown _ (by omega))
      change CallsIn _ _ Tryz.prog 50 _ _ _ at cS
      exact callsIn_wide.1 cS
theorem collect_c : CollectC Tryz.prog 76 3 3 [78, 225] (fun ss => ss) where
  kty := Tryz.underlying3
  fn := ⟨_, Tryz.func76, by kernel_rfl, rfl⟩
  run := by
    intro k hk r mb nn D w hlt hc hown hsz
    have hmax : Maps.size D ≤ maxLen := by unfold maxLen; omega
    rcases List.mem_cons.1 hk with rfl | hk
    · have cS := AnyZI.collect_in { Tryz.laySorted with } Fence.wide 5 trivial trivial rfl (by omega) 78 #[.pointer (some ⟨r, 0, none⟩)] trivial (enters_of Tryz.func78 (by kernel_rfl) rfl) _ _ hmax (by omega) _ (seq57 r mb nn D w hlt hc hown _ (by omega))
      change CallsIn _ _ Tryz.prog 76 _ _ _ at cS
      exact callsIn_wide.1 cS
    · obtain rfl : k = 225 := by simpa using hk
      have cS := AnyZI.collect_in { Tryz.laySorted with } Fence.wide 5 trivial trivial rfl (by omega) 225 #[.pointer (some ⟨r, 0, none⟩)] trivial (enters_of Tryz.func225 (by kernel_rfl) rfl) _ _ hmax (by omega) _ (seq201 r mb nn D w hlt hc hown _ (by omega))
      change CallsIn _ _ Tryz.prog 76 _ _ _ at cS
      exact callsIn_wide.1 cS
end Go.Proofs.YtkkeimpmafllpaaGreatDoor
