/- The library's contracts that the evaluator leans on, laid at this program: the keys of a map, collected; a map's clone. -/
import Derived.Test.YtbingohaiippeaaGreatDoorYE
import Derived.Test.YtbingohaiippeaaGreatDoorTab
import Derived.Shelf.SlGeneric
import Derived.Shelf.SlIterI.Nil
import Derived.Shelf.SlMaps.Clone
namespace Go.Proofs.YtbingohaiippeaaGreatDoor
open Go.Shelf Go.Proofs Go.RowKit Go.Y
set_option maxRecDepth 10000
def Tryz.layKeysB_ren : Go.Shelf.Ren := ⟨fun | 7 => 245 | 10 => 258 | n => n, fun | 23 => 148 | 26 => 3 | 3 => 4 | 28 => 315 | 0 => 0 | 27 => 314 | 33 => 169 | 4 => 4 | n => n, fun | n => n⟩
theorem Tryz.layKeysB : Go.Proofs.SlLaysZI.n7 Tryz.prog Tryz.layKeysB_ren where
  mixed := by kernel_rfl
  f7 := ⟨"maps.Keys[map[int]bool,int,bool]", by decide, Tryz.func245.trans (congrArg some (by kernel_rfl))⟩
  f10 := ⟨"maps.Keys[map[int]bool,int,bool]$1", by decide, Tryz.func258.trans (congrArg some (by kernel_rfl))⟩
  t0 := Tryz.underlying0
  a0 := Tryz.isAgg0
  z0 := Tryz.sizeOf0
  v0 := Tryz.zeroValue0
  t4 := Tryz.underlying4
  a4 := Tryz.isAgg4
  z4 := Tryz.sizeOf4
  v4 := Tryz.zeroValue4
  t23 := Tryz.underlying148
  a23 := Tryz.isAgg148
  z23 := Tryz.sizeOf148
  v23 := Tryz.zeroValue148
  t26 := Tryz.underlying3
  a26 := Tryz.isAgg3
  z26 := Tryz.sizeOf3
  v26 := Tryz.zeroValue3
  t27 := Tryz.underlying314
  a27 := Tryz.isAgg314
  z27 := Tryz.sizeOf314
  v27 := Tryz.zeroValue314
  t28 := Tryz.underlying315
  a28 := Tryz.isAgg315
  z28 := Tryz.sizeOf315
  v28 := Tryz.zeroValue315
  t33 := Tryz.underlying169
  a33 := Tryz.isAgg169
  z33 := Tryz.sizeOf169
  v33 := Tryz.zeroValue169
def Tryz.layColl_ren : Go.Shelf.Ren := ⟨fun | 8 => 244 | 11 => 257 | n => n, fun | 26 => 3 | 28 => 315 | 24 => 78 | 0 => 0 | 3 => 3 | 37 => 279 | 48 => 307 | 50 => 309 | 4 => 4 | 40 => 301 | 39 => 300 | 45 => 270 | 5 => 5 | 9 => 9 | 51 => 320 | 55 => 324 | 57 => 334 | 58 => 41 | 33 => 169 | n => n, fun | n => n⟩
theorem Tryz.layColl : Go.Proofs.SlLaysZI.n8 Tryz.prog Tryz.layColl_ren where
  mixed := by kernel_rfl
  f8 := ⟨"slices.Collect[int]", by decide, Tryz.func244.trans (congrArg some (by kernel_rfl))⟩
  f11 := ⟨"slices.AppendSeq[[]int,int]", by decide, Tryz.func257.trans (congrArg some (by kernel_rfl))⟩
  t0 := Tryz.underlying0
  a0 := Tryz.isAgg0
  z0 := Tryz.sizeOf0
  v0 := Tryz.zeroValue0
  t24 := Tryz.underlying78
  a24 := Tryz.isAgg78
  z24 := Tryz.sizeOf78
  v24 := Tryz.zeroValue78
  t26 := Tryz.underlying3
  a26 := Tryz.isAgg3
  z26 := Tryz.sizeOf3
  v26 := Tryz.zeroValue3
  t28 := Tryz.underlying315
  a28 := Tryz.isAgg315
  z28 := Tryz.sizeOf315
  v28 := Tryz.zeroValue315
  i26 := by kernel_rfl
theorem seqB (r mb nn : Nat) (D : DataW Unit) (w : World) (hlt : r < w.heap.size) (hc : w.cell? ⟨r, 0, none⟩ = some (.map (some mb))) (hown : w.ownsMap Tryz.prog 3 rAny mb nn D) (n : Nat) (hn : 1 ≤ n) : SeqGives Fence.wide n Tryz.prog 258 #[.pointer (some ⟨r, 0, none⟩)] encZ (fun ss => ss.Perm (Go.intKeys D)) (Maps.size D) w :=
  AnyZI.keys_gives (ρ := Tryz.layKeysB_ren) { Tryz.layKeysB with } Fence.wide n trivial rfl hn r mb nn D w hlt hc hown
theorem collect_c : CollectC Tryz.prog 244 3 3 [258] (fun ss => ss) where
  kty := Tryz.underlying3
  fn := ⟨_, Tryz.func244, by kernel_rfl, rfl⟩
  run := by
    intro k hk r mb nn D w hlt hc hown hsz
    have hmax : Maps.size D ≤ maxLen := by unfold maxLen; omega
    obtain rfl : k = 258 := by simpa using hk
    have cS := AnyZI.collect_in Tryz.layColl Fence.wide 5 trivial trivial rfl (by omega) 258 #[.pointer (some ⟨r, 0, none⟩)] trivial (enters_of Tryz.func258 (by kernel_rfl) rfl) _ _ hmax (by omega) _ (seqB r mb nn D w hlt hc hown _ (by omega))
    change CallsIn _ _ Tryz.prog 244 _ _ _ at cS
    exact callsIn_wide.1 cS
end Go.Proofs.YtbingohaiippeaaGreatDoor

/- Package pagemap: Get, of a map that is known. -/
namespace Go.Proofs.YtbingohaiippeaaGreatDoor
open Go.X
open Go.Y (PmAt GetC)
set_option maxRecDepth 10000
set_option linter.unusedVariables false
set_option linter.unusedSimpArgs false

theorem pmGood (b : Nat) (cs : List Value) (t : TypeId) (w : World) (S : FP) (h : RO w S (pt b cs t)) (h0 : cs[0]? = some (.bool true)) (hd : ∀ b, S b → b < w.heap.size) : Trip Tryz.prog 88 #[.pointer (some ⟨b, 0, none⟩)] w S fun v L => v = .bool true ∧ L = [] := by
  refine Trip.of_x (L := []) Tryz.func88 (by kernel_rfl) rfl Tryz.ntmps88 Tryz.results88 rfl (ctx_ok _) trivial hd ?_
  refine ⟨_, neq_sn Tryz.underlying101, ?_⟩
  refine ⟨fun _ => ?_, fun h => by cases h⟩
  refine ⟨_, .load1 rfl (.roPt h (by rw [lget_eq]; exact h0)), ?_⟩
  exact ⟨_, .refl _, rfl, rfl⟩
theorem q8 (n : Nat) (h : n < 1024) : ((n / 8 : Nat) : Int) = IntKind.i64.wrap ((n : Int).tdiv 8) := by
  rw [show ((n : Int).tdiv 8) = ((n / 8 : Nat) : Int) by rw [Int.tdiv_eq_ediv_of_nonneg (by omega)]; omega]
  exact wrap_i64 (by omega) (by omega)
theorem r8 (n : Nat) : ((n % 8 : Nat) : Int) = (n : Int).tmod 8 := by
  rw [Int.tmod_eq_emod_of_nonneg (by omega)]; omega
theorem scale1 (t : TyI) (h : t.size = 1) (i : Nat) : scale i t.size = i := by rw [h]; simp [scale]
theorem pmGet (b : Nat) (cs : List Value) (t : TypeId) (n : Nat) (z : Int) (x : Value) (w : World) (S : FP) (h : RO w S (pt b cs t)) (h0 : cs[0]? = some (.bool true)) (hn : n < 1024) (hx : cs[1 + n / 8 / 8]? = some x) (ha : PmAt w S n z x) (hd : ∀ b, S b → b < w.heap.size) :
    Trip Tryz.prog 111 #[.pointer (some ⟨b, 0, none⟩), .int .i64 n] w S fun v L => v = .int .i64 z ∧ L = [] := by
  refine Trip.of_x (L := []) Tryz.func111 (by kernel_rfl) rfl Tryz.ntmps111 Tryz.results111 rfl (ctx_ok _) trivial hd ?_
  refine callP [] (fun w S hR _ _ hd => pmGood b cs t w S (hR _ h) h0 hd) ?_
  rintro _ _ ⟨rfl, rfl⟩
  refine ⟨fun h => (by cases h), fun _ => ?_⟩
  refine ⟨fun h => (by have := of_decide_eq_true h; omega), fun _ => ?_⟩
  refine ⟨fun h => (by have := of_decide_eq_true h; omega), fun _ => ?_⟩
  refine ⟨by decide, _, q8 n (by omega), ?_⟩
  refine ⟨by decide, _, q8 (n / 8) (by omega), ?_⟩
  refine ⟨_, rfl, by omega, ?_⟩
  refine ⟨_, .load1 rfl (.roPt h (by rw [lget_eq]; rw [scale1 ty188 rfl]; simpa [Nat.add_comm] using hx)), ?_⟩
  cases ha with
  | no hz =>
    subst hz
    refine ⟨_, eql_nn Tryz.underlying188, ?_⟩
    refine ⟨fun _ => ?_, fun h => by cases h⟩
    refine ⟨fun _ => ?_, fun h => by cases h⟩
    exact ⟨_, .refl _, rfl, rfl⟩
  | no2 b2 ds t2 hz h2 hy =>
    subst hz
    refine ⟨_, eql_sn Tryz.underlying188, ?_⟩
    refine ⟨fun h => (by cases h), fun _ => ?_⟩
    refine ⟨by decide, _, q8 n (by omega), ?_⟩
    refine ⟨by decide, _, r8 (n / 8), ?_⟩
    refine ⟨_, rfl, by omega, ?_⟩
    refine ⟨_, .load1 rfl (.roPt h2 (by rw [lget_eq]; rw [scale1 ty234 rfl]; simpa using hy)), ?_⟩
    refine ⟨_, eql_nn Tryz.underlying234, ?_⟩
    refine ⟨fun _ => ?_, fun h => by cases h⟩
    exact ⟨_, .refl _, rfl, rfl⟩
  | full b2 ds t2 b3 es t3 h2 hy h3 hz =>
    refine ⟨_, eql_sn Tryz.underlying188, ?_⟩
    refine ⟨fun h => (by cases h), fun _ => ?_⟩
    refine ⟨by decide, _, q8 n (by omega), ?_⟩
    refine ⟨by decide, _, r8 (n / 8), ?_⟩
    refine ⟨_, rfl, by omega, ?_⟩
    refine ⟨_, .load1 rfl (.roPt h2 (by rw [lget_eq]; rw [scale1 ty234 rfl]; simpa using hy)), ?_⟩
    refine ⟨_, eql_sn Tryz.underlying234, ?_⟩
    refine ⟨fun h => (by cases h), fun _ => ?_⟩
    refine ⟨by decide, _, q8 n (by omega), ?_⟩
    refine ⟨by decide, _, r8 (n / 8), ?_⟩
    refine ⟨_, rfl, by omega, ?_⟩
    refine ⟨_, .load1 rfl (.roPt h2 (by rw [lget_eq]; rw [scale1 ty234 rfl]; simpa using hy)), ?_⟩
    refine ⟨by decide, _, r8 n, ?_⟩
    refine ⟨_, rfl, by omega, ?_⟩
    refine ⟨_, .load1 rfl (.roPt h3 (by rw [lget_eq]; rw [scale1 ty3 rfl]; simpa using hz)), ?_⟩
    exact ⟨_, .refl _, rfl, rfl⟩
theorem get_c : GetC Tryz.prog 111 := ⟨fun b cs t n z x w h h0 hn hx ha => pmGet b cs t n z x w (fun _ => False) h h0 hn hx ha (fun _ h => h.elim)⟩
theorem get_fn : FnOk Tryz.prog 111 := ⟨_, Tryz.func111, by kernel_rfl, rfl⟩
end Go.Proofs.YtbingohaiippeaaGreatDoor
