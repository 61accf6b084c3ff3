/- No heap, and a heap that nobody made. -/
import Derived.Test.YtbingohaiippeaaGreatDoorTab
import Derived.Test.YtbingohaiippeaaGreatDoorYE
namespace Go.Proofs.YtbingohaiippeaaGreatDoor
open Go.X
set_option maxRecDepth 10000
set_option linter.unusedVariables false
set_option linter.unusedSimpArgs false

/-- No heap, or one that nobody made. -/
def NoHeap (w : World) (S : FP) (v : Value) : Prop := v = .pointer none ∨ ∃ b, v = .pointer (some ⟨b, 0, none⟩) ∧ RO w S (pt b ty34.zero 34)
theorem NoHeap.mono {w w' : World} {S S' : FP} {v : Value} (h : NoHeap w S v) (k : ∀ r, RO w S r → RO w' S' r) : NoHeap w' S' v := by
  rcases h with h | ⟨b, h1, h2⟩
  · exact .inl h
  · exact .inr ⟨b, h1, k _ h2⟩
theorem made_no (v : Value) (w : World) (S : FP) (h : NoHeap w S v) (hd : ∀ b, S b → b < w.heap.size) : Trip Tryz.prog 31 #[v] w S fun v L => v = .bool false ∧ L = [] := by
  refine Trip.of_x (L := []) Tryz.func31 (by kernel_rfl) rfl Tryz.ntmps31 Tryz.results31 rfl (ctx_ok _) trivial hd ?_
  rcases h with rfl | ⟨b, rfl, h⟩
  · refine ⟨_, neq_nn Tryz.underlying23, ?_⟩
    refine ⟨fun h => (by cases h), fun _ => ?_⟩
    exact ⟨_, .refl _, rfl, rfl⟩
  · refine ⟨_, neq_sn Tryz.underlying23, ?_⟩
    refine ⟨fun _ => ?_, fun h => by cases h⟩
    refine ⟨_, .load1 rfl (.roPt h rfl), ?_⟩
    exact ⟨_, .refl _, rfl, rfl⟩
theorem config_no (v : Value) (w : World) (S : FP) (h : NoHeap w S v) (hd : ∀ b, S b → b < w.heap.size) : Trip Tryz.prog 28 #[v] w S fun v L => v = .agg ⟨ty28.zero⟩ ∧ L = [] := by
  refine Trip.of_x (L := []) Tryz.func28 (by kernel_rfl) rfl Tryz.ntmps28 Tryz.results28 rfl (ctx_ok _) trivial hd ?_
  intro b
  refine callP [] (fun w S hR _ _ hd => made_no v w S (h.mono hR) hd) ?_
  rintro _ _ ⟨rfl, rfl⟩
  refine ⟨fun _ => ?_, fun h => by cases h⟩
  refine st 0 rfl rfl rfl rfl rfl ?_
  exact ⟨_, .var (ldA 0 rfl rfl rfl rfl rfl), _, .pick [], rfl, rfl⟩
end Go.Proofs.YtbingohaiippeaaGreatDoor

/- No keeper, and a keeper that nobody made. -/
namespace Go.Proofs.YtbingohaiippeaaGreatDoor
open Go.X
set_option maxRecDepth 10000
set_option linter.unusedVariables false
set_option linter.unusedSimpArgs false

def NoKeeper (w : World) (S : FP) (v : Value) : Prop := v = .pointer none ∨ ∃ b, v = .pointer (some ⟨b, 0, none⟩) ∧ RO w S (pt b ty25.zero 25)
theorem NoKeeper.mono {w w' : World} {S S' : FP} {v : Value} (h : NoKeeper w S v) (k : ∀ r, RO w S r → RO w' S' r) : NoKeeper w' S' v := by
  rcases h with h | ⟨b, h1, h2⟩
  · exact .inl h
  · exact .inr ⟨b, h1, k _ h2⟩
theorem kmade_no (v : Value) (w : World) (S : FP) (h : NoKeeper w S v) (hd : ∀ b, S b → b < w.heap.size) : Trip Tryz.prog 19 #[v] w S fun v L => v = .bool false ∧ L = [] := by
  refine Trip.of_x (L := []) Tryz.func19 (by kernel_rfl) rfl Tryz.ntmps19 Tryz.results19 rfl (ctx_ok _) trivial hd ?_
  rcases h with rfl | ⟨b, rfl, h⟩
  · refine ⟨_, neq_nn Tryz.underlying22, ?_⟩
    refine ⟨fun h => (by cases h), fun _ => ?_⟩
    exact ⟨_, .refl _, rfl, rfl⟩
  · refine ⟨_, neq_sn Tryz.underlying22, ?_⟩
    refine ⟨fun _ => ?_, fun h => by cases h⟩
    refine ⟨_, .load1 rfl (.roPt h rfl), ?_⟩
    refine ⟨_, neq_nn Tryz.underlying23, ?_⟩
    exact ⟨_, .refl _, rfl, rfl⟩
theorem real_no (v : Value) (w : World) (S : FP) (h : NoHeap w S v) (hd : ∀ b, S b → b < w.heap.size) : Trip Tryz.prog 17 #[v] w S fun v L => v = .bool false ∧ L = [] := by
  refine Trip.of_x (L := []) Tryz.func17 (by kernel_rfl) rfl Tryz.ntmps17 Tryz.results17 rfl (ctx_ok _) trivial hd ?_
  have k := h
  rcases h with rfl | ⟨b, rfl, h⟩
  · refine ⟨_, neq_nn Tryz.underlying23, ?_⟩
    refine ⟨fun h => (by cases h), fun _ => ?_⟩
    exact ⟨_, .refl _, rfl, rfl⟩
  · refine ⟨_, neq_sn Tryz.underlying23, ?_⟩
    refine ⟨fun _ => ?_, fun h => by cases h⟩
    refine callP [] (fun w S hR _ _ hd => config_no _ w S (k.mono hR) hd) ?_
    rintro _ _ ⟨rfl, rfl⟩
    exact ⟨_, .refl _, rfl, rfl⟩
theorem pnew_no (v a b : Value) (w : World) (S : FP) (h : NoHeap w S v) (hd : ∀ b, S b → b < w.heap.size) : Trip Tryz.prog 4 #[v, a, b] w S fun v L => v = .tuple ⟨[.pointer none, .int .i64 1]⟩ ∧ L = [] := by
  refine Trip.of_x (L := []) Tryz.func4 (by kernel_rfl) rfl Tryz.ntmps4 Tryz.results4 rfl (ctx_ok _) trivial hd ?_
  refine callP [] (fun w S hR _ _ hd => real_no v w S (h.mono hR) hd) ?_
  rintro _ _ ⟨rfl, rfl⟩
  refine ⟨fun _ => ?_, fun h => by cases h⟩
  refine ⟨fun _ => ?_, fun h => by cases h⟩
  exact ⟨_, .refl _, rfl, rfl⟩
theorem k_malloc_no (v a b c : Value) (w : World) (S : FP) (h : NoKeeper w S v) (hd : ∀ b, S b → b < w.heap.size) : Trip Tryz.prog 5 #[v, a, b, c] w S fun v L => v = .tuple ⟨[.int .i64 0, .int .i64 5]⟩ ∧ L = [] := by
  refine Trip.of_x (L := []) Tryz.func5 (by kernel_rfl) rfl Tryz.ntmps5 Tryz.results5 rfl (ctx_ok _) trivial hd ?_
  refine callP [] (fun w S hR _ _ hd => kmade_no v w S (h.mono hR) hd) ?_
  rintro _ _ ⟨rfl, rfl⟩
  refine ⟨fun _ => ?_, fun h => by cases h⟩
  exact ⟨_, .refl _, rfl, rfl⟩
theorem k_free_no (v a b : Value) (w : World) (S : FP) (h : NoKeeper w S v) (hd : ∀ b, S b → b < w.heap.size) : Trip Tryz.prog 8 #[v, a, b] w S fun v L => v = .int .i64 5 ∧ L = [] := by
  refine Trip.of_x (L := []) Tryz.func8 (by kernel_rfl) rfl Tryz.ntmps8 Tryz.results8 rfl (ctx_ok _) trivial hd ?_
  refine callP [] (fun w S hR _ _ hd => kmade_no v w S (h.mono hR) hd) ?_
  rintro _ _ ⟨rfl, rfl⟩
  refine ⟨fun _ => ?_, fun h => by cases h⟩
  exact ⟨_, .refl _, rfl, rfl⟩
theorem k_relieve_no (v a : Value) (w : World) (S : FP) (h : NoKeeper w S v) (hd : ∀ b, S b → b < w.heap.size) : Trip Tryz.prog 6 #[v, a] w S fun v L => v = .tuple ⟨[.int .i64 0, .int .i64 5]⟩ ∧ L = [] := by
  refine Trip.of_x (L := []) Tryz.func6 (by kernel_rfl) rfl Tryz.ntmps6 Tryz.results6 rfl (ctx_ok _) trivial hd ?_
  refine callP [] (fun w S hR _ _ hd => kmade_no v w S (h.mono hR) hd) ?_
  rintro _ _ ⟨rfl, rfl⟩
  refine ⟨fun _ => ?_, fun h => by cases h⟩
  exact ⟨_, .refl _, rfl, rfl⟩
theorem k_set_no (v a b : Value) (w : World) (S : FP) (h : NoKeeper w S v) (hd : ∀ b, S b → b < w.heap.size) : Trip Tryz.prog 9 #[v, a, b] w S fun v L => v = .int .i64 5 ∧ L = [] := by
  refine Trip.of_x (L := []) Tryz.func9 (by kernel_rfl) rfl Tryz.ntmps9 Tryz.results9 rfl (ctx_ok _) trivial hd ?_
  refine callP [] (fun w S hR _ _ hd => kmade_no v w S (h.mono hR) hd) ?_
  rintro _ _ ⟨rfl, rfl⟩
  refine ⟨fun _ => ?_, fun h => by cases h⟩
  exact ⟨_, .refl _, rfl, rfl⟩
theorem k_used_no (v : Value) (w : World) (S : FP) (h : NoKeeper w S v) (hd : ∀ b, S b → b < w.heap.size) : Trip Tryz.prog 10 #[v] w S fun v L => v = .int .i64 0 ∧ L = [] := by
  refine Trip.of_x (L := []) Tryz.func10 (by kernel_rfl) rfl Tryz.ntmps10 Tryz.results10 rfl (ctx_ok _) trivial hd ?_
  refine callP [] (fun w S hR _ _ hd => kmade_no v w S (h.mono hR) hd) ?_
  rintro _ _ ⟨rfl, rfl⟩
  refine ⟨fun _ => ?_, fun h => by cases h⟩
  exact ⟨_, .refl _, rfl, rfl⟩
theorem k_way_no (v : Value) (w : World) (S : FP) (h : NoKeeper w S v) (hd : ∀ b, S b → b < w.heap.size) : Trip Tryz.prog 11 #[v] w S fun v L => v = .int .i64 0 ∧ L = [] := by
  refine Trip.of_x (L := []) Tryz.func11 (by kernel_rfl) rfl Tryz.ntmps11 Tryz.results11 rfl (ctx_ok _) trivial hd ?_
  refine callP [] (fun w S hR _ _ hd => kmade_no v w S (h.mono hR) hd) ?_
  rintro _ _ ⟨rfl, rfl⟩
  refine ⟨fun _ => ?_, fun h => by cases h⟩
  exact ⟨_, .refl _, rfl, rfl⟩
theorem k_limits_no (v : Value) (w : World) (S : FP) (h : NoKeeper w S v) (hd : ∀ b, S b → b < w.heap.size) : Trip Tryz.prog 7 #[v] w S fun v L => v = .tuple ⟨[.int .i64 0, .int .i64 0]⟩ ∧ L = [] := by
  refine Trip.of_x (L := []) Tryz.func7 (by kernel_rfl) rfl Tryz.ntmps7 Tryz.results7 rfl (ctx_ok _) trivial hd ?_
  refine callP [] (fun w S hR _ _ hd => kmade_no v w S (h.mono hR) hd) ?_
  rintro _ _ ⟨rfl, rfl⟩
  refine ⟨fun _ => ?_, fun h => by cases h⟩
  exact ⟨_, .refl _, rfl, rfl⟩
theorem k_heap_no (v : Value) (w : World) (S : FP) (h : NoKeeper w S v) (hd : ∀ b, S b → b < w.heap.size) : Trip Tryz.prog 12 #[v] w S fun v L => v = .pointer none ∧ L = [] := by
  refine Trip.of_x (L := []) Tryz.func12 (by kernel_rfl) rfl Tryz.ntmps12 Tryz.results12 rfl (ctx_ok _) trivial hd ?_
  refine callP [] (fun w S hR _ _ hd => kmade_no v w S (h.mono hR) hd) ?_
  rintro _ _ ⟨rfl, rfl⟩
  refine ⟨fun _ => ?_, fun h => by cases h⟩
  exact ⟨_, .refl _, rfl, rfl⟩
theorem k_clone_no (v : Value) (w : World) (S : FP) (h : NoKeeper w S v) (hd : ∀ b, S b → b < w.heap.size) : Trip Tryz.prog 13 #[v] w S fun v L => v = .pointer none ∧ L = [] := by
  refine Trip.of_x (L := []) Tryz.func13 (by kernel_rfl) rfl Tryz.ntmps13 Tryz.results13 rfl (ctx_ok _) trivial hd ?_
  refine callP [] (fun w S hR _ _ hd => kmade_no v w S (h.mono hR) hd) ?_
  rintro _ _ ⟨rfl, rfl⟩
  refine ⟨fun _ => ?_, fun h => by cases h⟩
  exact ⟨_, .refl _, rfl, rfl⟩
theorem k_on_no (v a : Value) (w : World) (S : FP) (h : NoKeeper w S v) (hd : ∀ b, S b → b < w.heap.size) : Trip Tryz.prog 14 #[v, a] w S fun v L => v = .pointer none ∧ L = [] := by
  refine Trip.of_x (L := []) Tryz.func14 (by kernel_rfl) rfl Tryz.ntmps14 Tryz.results14 rfl (ctx_ok _) trivial hd ?_
  refine callP [] (fun w S hR _ _ hd => kmade_no v w S (h.mono hR) hd) ?_
  rintro _ _ ⟨rfl, rfl⟩
  refine ⟨fun _ => ?_, fun h => by cases h⟩
  refine ⟨fun _ => ?_, fun h => by cases h⟩
  exact ⟨_, .refl _, rfl, rfl⟩
end Go.Proofs.YtbingohaiippeaaGreatDoor

/- PressureNone: the law, walked. -/
namespace Go.Proofs.YtbingohaiippeaaGreatDoor
open Go.X Go.Y
set_option maxRecDepth 10000
set_option linter.unusedVariables false
set_option linter.unusedSimpArgs false

theorem none_spec (G : Chunk) (hA : ∀ w S, RO w S G → Trip Tryz.prog 16 #[] w S fun v L => v = .bool true ∧ L = []) (hS : ∀ w S, RO w S G → Trip Tryz.prog 15 #[] w S fun _ L => L = []) (t a c : Value) (b : Bool) (w : World) (S : FP) (hG : RO w S G) (hd : ∀ b, S b → b < w.heap.size) :
    Trip Tryz.prog 3 #[t, a, c, .bool b] w S fun v L => v = .bool true ∧ L = [] := by
  refine Trip.of_x (L := []) Tryz.func3 (by kernel_rfl) rfl Tryz.ntmps3 Tryz.results3 rfl (ctx_ok _) trivial hd ?_
  intro bk bh
  refine ⟨fun hn => ?_, fun hn => ?_⟩
  · refine callP [] (fun w S hR hB _ hd => pnew_no _ _ _ w S (.inl rfl) hd) ?_
    rintro _ _ ⟨rfl, rfl⟩
    refine callP [] (fun w S hR hB _ hd => k_malloc_no _ _ _ _ w S (.inl rfl) hd) ?_
    rintro _ _ ⟨rfl, rfl⟩
    refine callP [] (fun w S hR hB _ hd => k_relieve_no _ _ w S (.inl rfl) hd) ?_
    rintro _ _ ⟨rfl, rfl⟩
    refine callP [] (fun w S hR hB _ hd => k_limits_no _ w S (.inl rfl) hd) ?_
    rintro _ _ ⟨rfl, rfl⟩
    refine ⟨_, eql_nn Tryz.underlying22, ?_⟩
    repeat (refine ⟨fun _ => ?_, fun h => (by first | (cases h; done) | (simp at h; done))⟩)
    refine callP [] (fun w S hR hB _ hd => k_free_no _ _ _ w S (.inl rfl) hd) ?_
    rintro _ _ ⟨rfl, rfl⟩
    repeat (refine ⟨fun _ => ?_, fun h => (by first | (cases h; done) | (simp at h; done))⟩)
    refine callP [] (fun w S hR hB _ hd => k_set_no _ _ _ w S (.inl rfl) hd) ?_
    rintro _ _ ⟨rfl, rfl⟩
    repeat (refine ⟨fun _ => ?_, fun h => (by first | (cases h; done) | (simp at h; done))⟩)
    refine callP [] (fun w S hR hB _ hd => k_used_no _ w S (.inl rfl) hd) ?_
    rintro _ _ ⟨rfl, rfl⟩
    repeat (refine ⟨fun _ => ?_, fun h => (by first | (cases h; done) | (simp at h; done))⟩)
    refine callP [] (fun w S hR hB _ hd => k_way_no _ w S (.inl rfl) hd) ?_
    rintro _ _ ⟨rfl, rfl⟩
    repeat (refine ⟨fun _ => ?_, fun h => (by first | (cases h; done) | (simp at h; done))⟩)
    refine callP [] (fun w S hR hB _ hd => k_heap_no _ w S (.inl rfl) hd) ?_
    rintro _ _ ⟨rfl, rfl⟩
    refine ⟨_, eql_nn Tryz.underlying23, ?_⟩
    repeat (refine ⟨fun _ => ?_, fun h => (by first | (cases h; done) | (simp at h; done))⟩)
    refine callP [] (fun w S hR hB _ hd => k_clone_no _ w S (.inl rfl) hd) ?_
    rintro _ _ ⟨rfl, rfl⟩
    refine ⟨_, eql_nn Tryz.underlying22, ?_⟩
    repeat (refine ⟨fun _ => ?_, fun h => (by first | (cases h; done) | (simp at h; done))⟩)
    refine callP [] (fun w S hR _ _ hd => hS w S (hR _ hG)) ?_
    rintro _ _ rfl
    refine callP [] (fun w S hR hB _ hd => k_on_no _ _ w S (.inl rfl) hd) ?_
    rintro _ _ ⟨rfl, rfl⟩
    refine ⟨_, eql_nn Tryz.underlying22, ?_⟩
    repeat (refine ⟨fun _ => ?_, fun h => (by first | (cases h; done) | (simp at h; done))⟩)
    refine callP [] (fun w S hR _ _ hd => hA w S (hR _ hG)) ?_
    rintro _ _ ⟨rfl, rfl⟩
    exact ⟨_, .pick [], rfl, rfl⟩
  · refine callP [] (fun w S hR hB _ hd => pnew_no _ _ _ w S (.inr ⟨_, rfl, hB _ (lget_mem (i := 0) rfl)⟩) hd) ?_
    rintro _ _ ⟨rfl, rfl⟩
    refine callP [] (fun w S hR hB _ hd => k_malloc_no _ _ _ _ w S (.inr ⟨_, rfl, hB _ (lget_mem (i := 1) rfl)⟩) hd) ?_
    rintro _ _ ⟨rfl, rfl⟩
    refine callP [] (fun w S hR hB _ hd => k_relieve_no _ _ w S (.inr ⟨_, rfl, hB _ (lget_mem (i := 1) rfl)⟩) hd) ?_
    rintro _ _ ⟨rfl, rfl⟩
    refine callP [] (fun w S hR hB _ hd => k_limits_no _ w S (.inr ⟨_, rfl, hB _ (lget_mem (i := 1) rfl)⟩) hd) ?_
    rintro _ _ ⟨rfl, rfl⟩
    refine ⟨_, eql_nn Tryz.underlying22, ?_⟩
    repeat (refine ⟨fun _ => ?_, fun h => (by first | (cases h; done) | (simp at h; done))⟩)
    refine callP [] (fun w S hR hB _ hd => k_free_no _ _ _ w S (.inr ⟨_, rfl, hB _ (lget_mem (i := 1) rfl)⟩) hd) ?_
    rintro _ _ ⟨rfl, rfl⟩
    repeat (refine ⟨fun _ => ?_, fun h => (by first | (cases h; done) | (simp at h; done))⟩)
    refine callP [] (fun w S hR hB _ hd => k_set_no _ _ _ w S (.inr ⟨_, rfl, hB _ (lget_mem (i := 1) rfl)⟩) hd) ?_
    rintro _ _ ⟨rfl, rfl⟩
    repeat (refine ⟨fun _ => ?_, fun h => (by first | (cases h; done) | (simp at h; done))⟩)
    refine callP [] (fun w S hR hB _ hd => k_used_no _ w S (.inr ⟨_, rfl, hB _ (lget_mem (i := 1) rfl)⟩) hd) ?_
    rintro _ _ ⟨rfl, rfl⟩
    repeat (refine ⟨fun _ => ?_, fun h => (by first | (cases h; done) | (simp at h; done))⟩)
    refine callP [] (fun w S hR hB _ hd => k_way_no _ w S (.inr ⟨_, rfl, hB _ (lget_mem (i := 1) rfl)⟩) hd) ?_
    rintro _ _ ⟨rfl, rfl⟩
    repeat (refine ⟨fun _ => ?_, fun h => (by first | (cases h; done) | (simp at h; done))⟩)
    refine callP [] (fun w S hR hB _ hd => k_heap_no _ w S (.inr ⟨_, rfl, hB _ (lget_mem (i := 1) rfl)⟩) hd) ?_
    rintro _ _ ⟨rfl, rfl⟩
    refine ⟨_, eql_nn Tryz.underlying23, ?_⟩
    repeat (refine ⟨fun _ => ?_, fun h => (by first | (cases h; done) | (simp at h; done))⟩)
    refine callP [] (fun w S hR hB _ hd => k_clone_no _ w S (.inr ⟨_, rfl, hB _ (lget_mem (i := 1) rfl)⟩) hd) ?_
    rintro _ _ ⟨rfl, rfl⟩
    refine ⟨_, eql_nn Tryz.underlying22, ?_⟩
    repeat (refine ⟨fun _ => ?_, fun h => (by first | (cases h; done) | (simp at h; done))⟩)
    refine callP [] (fun w S hR _ _ hd => hS w S (hR _ hG)) ?_
    rintro _ _ rfl
    refine callP [] (fun w S hR hB _ hd => k_on_no _ _ w S (.inr ⟨_, rfl, hB _ (lget_mem (i := 1) rfl)⟩) hd) ?_
    rintro _ _ ⟨rfl, rfl⟩
    refine ⟨_, eql_nn Tryz.underlying22, ?_⟩
    repeat (refine ⟨fun _ => ?_, fun h => (by first | (cases h; done) | (simp at h; done))⟩)
    refine callP [] (fun w S hR _ _ hd => hA w S (hR _ hG)) ?_
    rintro _ _ ⟨rfl, rfl⟩
    exact ⟨_, .pick [], rfl, rfl⟩
end Go.Proofs.YtbingohaiippeaaGreatDoor
