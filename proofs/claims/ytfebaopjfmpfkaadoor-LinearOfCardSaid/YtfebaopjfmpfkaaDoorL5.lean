/- Package linear: what is live, told. -/
import Derived.Test.YtfebaopjfmpfkaaDoorL5b
import Derived.Lib.ItoaLen
namespace Go.Proofs.YtfebaopjfmpfkaaDoor
open Go.X
set_option maxRecDepth 10000
set_option linter.unusedVariables false
set_option linter.unusedSimpArgs false

theorem lookI {C : Ctx} [hC : CtxOk C] {L : List Chunk} (hP : C.P = Tryd.prog) (hT : C.tab = tab) {mb : Nat} {M : List (Int × Int)} (i : Nat) (k : Int) (hi : lget L i = some (mp mb encI encI M)) : RunsTo C L (Instr.lookup 72 (.map (some mb)) (.int .i64 k) false) (.int .i64 ((lk M k).getD 0)) := by
  have hl : KeyLaw C.P 3 encI := hP ▸ law_int
  have hz : ∀ w, (zeroValue 3).run C.P w = .ok (.int .i64 0) w := hP ▸ zero3
  have ht : tget C.tab 72 = some ty72 := by rw [hT]; rfl
  cases h : lk M k with
  | none => exact lookN' (k := k) i h hl hi ht rfl hz
  | some v => exact lookS' (k := k) (.int .i64 0) i h hl hi ht rfl hz
theorem lookI2 {C : Ctx} [hC : CtxOk C] {L : List Chunk} (hP : C.P = Tryd.prog) (hT : C.tab = tab) {mb : Nat} {M : List (Int × Int)} (i : Nat) (k : Int) (hi : lget L i = some (mp mb encI encI M)) : RunsTo C L (Instr.lookup 72 (.map (some mb)) (.int .i64 k) true) (.tuple #[.int .i64 ((lk M k).getD 0), .bool (lk M k).isSome]) := by
  have hl : KeyLaw C.P 3 encI := hP ▸ law_int
  have hz : ∀ w, (zeroValue 3).run C.P w = .ok (.int .i64 0) w := hP ▸ zero3
  have ht : tget C.tab 72 = some ty72 := by rw [hT]; rfl
  cases h : lk M k with
  | none => exact lookN (k := k) i h hl hi ht rfl hz
  | some v => exact lookS (k := k) (.int .i64 0) i h hl hi ht rfl hz


theorem run_add_str (x y : Operand) (a b : ByteArray) (h : a.size + b.size ≤ 9223372036854775807) (w : World) : (do eqGuard .add 9 x y (.string a) (.string b); binOp .add 9 (.string a) (.string b) : Sem Value).run Tryd.prog w = .ok (.string (a ++ b)) w := by
  rw [Sem.run_bind, show (eqGuard .add 9 x y (.string a) (.string b)).run Tryd.prog w = .ok () w from rfl, Result.andThen_ok]
  exact run_string_add_sum (P := Tryd.prog) w a b h
theorem size_app (a b : ByteArray) : (a ++ b).size = a.size + b.size := by simp
theorem size_of (l : List UInt8) : (⟨l.toArray⟩ : ByteArray).size = l.length := by simp [ByteArray.size]

/-- One block, told. -/
def item (M : List (Int × Int)) (k : Int) : List UInt8 := Lib.itoa k ++ [32] ++ Lib.itoa ((lk M k).getD 0) ++ [32]
theorem item_len {M : List (Int × Int)} (hL : LiveOk M) {k : Int} (hk : 256 ≤ k ∧ k ≤ 9223372036854775807) : (item M k).length ≤ 44 := by
  have h1 := Lib.itoa_length_le k (by omega) hk.2
  have h2 : -9223372036854775808 ≤ (lk M k).getD 0 ∧ (lk M k).getD 0 ≤ 9223372036854775807 := by
    cases h : lk M k with
    | none => simp
    | some v => have := hL.val _ ((lk_mem hL.nodup).1 h); simp at this ⊢; omega
  have h3 := Lib.itoa_length_le ((lk M k).getD 0) h2.1 h2.2
  simp [item]; omega
theorem items_len {M : List (Int × Int)} (hL : LiveOk M) : ∀ (l : List Int), (∀ k ∈ l, 256 ≤ k ∧ k ≤ 9223372036854775807) → (l.flatMap (item M)).length ≤ 44 * l.length
  | [], _ => by simp
  | k :: l, h => by
    have h1 := item_len hL (h k (by simp))
    have h2 := items_len hL l fun k hk => h k (by simp [hk])
    simp only [List.flatMap_cons, List.length_append, List.length_cons]; omega

theorem text_spec (mb : Nat) (M : List (Int × Int)) (w : World) (S : FP) (hT : RO w S tabC) (hS : Sep [mp mb encI encI M] w S) (hd : ∀ b, S b → b < w.heap.size) (hL : LiveOk M) (hlen : M.length ≤ 64) :
    Trip Tryd.prog 50 #[.map (some mb)] w S fun v L => v = .string (txt M) ∧ L = [mp mb encI encI M] := by
  have hks : (sortZ (M.map (·.1))).length = M.length := by have := (sortZ_perm (M.map (·.1))).length_eq; simpa using this
  have hkr : ∀ k ∈ sortZ (M.map (·.1)), 256 ≤ k ∧ k ≤ 9223372036854775807 := fun k hk => by
    obtain ⟨p, hp, rfl⟩ := List.mem_map.1 ((sortZ_perm _).mem_iff.1 hk)
    exact hL.key p hp
  have htx : txt M = ⟨((sortZ (M.map (·.1))).flatMap (item M)).toArray⟩ := rfl
  generalize hke : sortZ (M.map (·.1)) = ks at hks hkr htx
  refine Trip.of_x (L := [mp mb encI encI M]) Tryd.func50 (by kernel_rfl) rfl Tryd.ntmps50 Tryd.results50 rfl (ctx_ok _) hS hd ?_
  intro bb
  refine callP [] (fun w S hR hB _ hd => keys_spec mb w S hd) ?_
  rintro _ _ ⟨r, rfl, rfl⟩
  refine callP [0, 1] (fun w S hR hB hS hd => sorted_spec mb r M w S hS hd hL hlen) ?_
  rintro _ _ ⟨a, c, rfl, ha, rfl⟩
  rw [hke]
  refine loopI (σ := Nat × Option Addr × Option Addr × Nat) (fun s => [(0, .map (some mb)), (3, .pointer (some ⟨bb, 0, none⟩)), (8, .slice a M.length c), (9, .int .i64 M.length), (10, .int .i64 s.1)])
    (fun s => [mp mb encI encI M, own a c 3 1 encZ1 ks, bldC bb s.2.1 s.2.2.1 ((ks.take s.1).flatMap (item M)).length s.2.2.2, own s.2.2.1 s.2.2.2 5 1 encU ((ks.take s.1).flatMap (item M))])
    (fun s => s.1 ≤ M.length ∧ (s.2.1 = none ∨ s.2.1 = self bb) ∧ ((s.2.2.1 = none ∧ (ks.take s.1).flatMap (item M) = []) ∨ ∃ g, s.2.2.1 = some ⟨g, 0, none⟩ ∧ (ks.take s.1).flatMap (item M) ≠ [] ∧ ((ks.take s.1).flatMap (item M)).length ≤ s.2.2.2)) (fun s => M.length - s.1) (0, none, none, 0)
    ⟨rfl, rfl, rfl, rfl, rfl, trivial⟩ (own_nil.trans (Ent.pick [1, 1, 1, 0])) ⟨Nat.zero_le _, .inl rfl, .inl ⟨rfl, rfl⟩⟩ ?_
  rintro ⟨j, p, ao, co⟩ ⟨hj, hp, hb⟩
  have hj : j ≤ M.length := hj
  have hp : p = none ∨ p = self bb := hp
  have hb : (ao = none ∧ (ks.take j).flatMap (item M) = []) ∨ ∃ g, ao = some ⟨g, 0, none⟩ ∧ (ks.take j).flatMap (item M) ≠ [] ∧ ((ks.take j).flatMap (item M)).length ≤ co := hb
  have hlen' : ((ks.take j).flatMap (item M)).length ≤ 44 * 64 := by
    have := items_len hL (ks.take j) fun k hk => hkr k (List.mem_of_mem_take hk)
    have h2 : (ks.take j).length ≤ 64 := by simp; omega
    omega
  refine ⟨fun hlt => ?_, fun hge => ?_⟩
  · have hjk : j < M.length := by have := of_decide_eq_true hlt; simp at this; omega
    obtain ⟨k, hk⟩ : ∃ k, ks[j]? = some k := ⟨ks[j]'(by omega), by simp [show j < ks.length by omega]⟩
    have hkk := hkr k (List.mem_of_getElem? hk)
    obtain ⟨g, rfl⟩ := ha (by rintro rfl; simp at hjk)
    refine ⟨j, rfl, hjk, ?_⟩
    refine ⟨_, ldO 1 j 0 rfl (fun _ _ => rfl) hk rfl rfl (by show 0 + j = j * 1 + 0; omega), ?_⟩
    refine Or.inr (Or.inl ⟨⟨by kernel_rfl, by kernel_rfl, rfl⟩, ?_⟩)
    refine callQ [] (fun w S hR hB _ hd => itoa_spec k w S (hR _ hT) (by omega) hkk.2) ?_
    have hz1 : (⟨#[32]⟩ : ByteArray).size = 1 := rfl
    have l1 := Lib.itoa_length_le k (by omega) hkk.2
    refine ⟨_, fun w _ => run_add_str _ _ _ _ (by simp only [size_app, size_of, List.length_cons, List.length_nil]; omega) w, ?_⟩
    refine ⟨_, lookI rfl rfl 0 k rfl, ?_⟩
    have h2 : -9223372036854775808 ≤ (lk M k).getD 0 ∧ (lk M k).getD 0 ≤ 9223372036854775807 := by
      cases h : lk M k with
      | none => simp
      | some v => have := hL.val _ ((lk_mem hL.nodup).1 h); simp at this ⊢; omega
    refine callQ [] (fun w S hR hB _ hd => itoa_spec _ w S (hR _ hT) h2.1 h2.2) ?_
    have l2 := Lib.itoa_length_le _ h2.1 h2.2
    refine ⟨_, fun w _ => run_add_str _ _ _ _ (by simp only [size_app, size_of, List.length_cons, List.length_nil]; omega) w, ?_⟩
    refine ⟨_, fun w _ => run_add_str _ _ _ _ (by simp only [size_app, size_of, List.length_cons, List.length_nil]; omega) w, ?_⟩
    have hstr : ((((⟨(Lib.itoa k).toArray⟩ : ByteArray) ++ ⟨#[32]⟩) ++ ⟨(Lib.itoa ((lk M k).getD 0)).toArray⟩) ++ ⟨#[32]⟩ : ByteArray) = ⟨(item M k).toArray⟩ := by
      apply ByteArray.ext
      simp [item]
    rw [hstr]
    have hil := item_len hL hkk
    have hsz : (⟨(item M k).toArray⟩ : ByteArray).size = (item M k).length := by simp [ByteArray.size]
    refine callP [2, 2] (fun w S hR hB hS hd => write_spec bb p hp ao co ((ks.take j).flatMap (item M)) ⟨(item M k).toArray⟩ (by rw [hsz]; omega) w S hS hd) ?_
    rintro _ _ ⟨rfl, a', c', hac, rfl⟩
    refine ⟨_, wrap_i64 (by omega) (by omega), ?_⟩
    have htk : ks.take (j + 1) = ks.take j ++ [k] := by rw [List.take_add_one, hk]; rfl
    have hbs : (ks.take j).flatMap (item M) ++ (⟨(item M k).toArray⟩ : ByteArray).data.toList = (ks.take (j + 1)).flatMap (item M) := by rw [htk]; simp
    rw [hbs] at hac
    rw [hbs]
    have hne : item M k ≠ [] := by simp [item]
    exact backI (j + 1, self bb, a', c') (by show M.length - (j + 1) < M.length - j; omega) ⟨hjk, .inr rfl, .inr (by
      obtain ⟨g', hg1, hg2⟩ := hac (by rw [hsz]; exact List.length_pos_iff.2 hne)
      exact ⟨g', hg1, by show (ks.take (j + 1)).flatMap (item M) ≠ []; rw [htk]; simp [hne], hg2⟩)⟩ ⟨rfl, rfl, rfl, rfl, rfl, trivial⟩ (Ent.pick [2, 2, 0, 0])
  · have hjk : j = M.length := by have := of_decide_eq_false hge; simp at this; omega
    have htk : ks.take j = ks := List.take_of_length_le (by omega)
    refine callP [2, 2] (fun w S hR hB hS hd => string_spec bb p ao co ((ks.take j).flatMap (item M)) hb (by omega) w S hS hd) ?_
    rintro _ _ ⟨rfl, rfl⟩
    exact ⟨_, .pick [0], by rw [htk, ← htx]; rfl, rfl⟩
end Go.Proofs.YtfebaopjfmpfkaaDoor
