/- LeakNone: no heap, and a heap that nobody made. -/
import Derived.Test.YtigibnnmceccfaaGreatDoorTab
import Derived.Test.YtigibnnmceccfaaGreatDoorYE
namespace Go.Proofs.YtigibnnmceccfaaGreatDoor
open Go.X
set_option maxRecDepth 10000
set_option linter.unusedVariables false
set_option linter.unusedSimpArgs false

/-- No heap, or one that nobody made. -/
def NoHeap (w : World) (S : FP) (v : Value) : Prop := v = .pointer none ∨ ∃ b, v = .pointer (some ⟨b, 0, none⟩) ∧ RO w S (pt b ty32.zero 32)
theorem NoHeap.mono {w w' : World} {S S' : FP} {v : Value} (h : NoHeap w S v) (k : ∀ r, RO w S r → RO w' S' r) : NoHeap w' S' v := by
  rcases h with h | ⟨b, h1, h2⟩
  · exact .inl h
  · exact .inr ⟨b, h1, k _ h2⟩
theorem made_no (v : Value) (w : World) (S : FP) (h : NoHeap w S v) (hd : ∀ b, S b → b < w.heap.size) : Trip Tryz.prog 38 #[v] w S fun v L => v = .bool false ∧ L = [] := by
  refine Trip.of_x (L := []) Tryz.func38 (by kernel_rfl) rfl Tryz.ntmps38 Tryz.results38 rfl (ctx_ok _) trivial hd ?_
  rcases h with rfl | ⟨b, rfl, h⟩
  · refine ⟨_, neq_nn Tryz.underlying23, ?_⟩
    refine ⟨fun h => (by cases h), fun _ => ?_⟩
    exact ⟨_, .refl _, rfl, rfl⟩
  · refine ⟨_, neq_sn Tryz.underlying23, ?_⟩
    refine ⟨fun _ => ?_, fun h => by cases h⟩
    refine ⟨_, .load1 rfl (.roPt h rfl), ?_⟩
    exact ⟨_, .refl _, rfl, rfl⟩
theorem config_no (v : Value) (w : World) (S : FP) (h : NoHeap w S v) (hd : ∀ b, S b → b < w.heap.size) : Trip Tryz.prog 19 #[v] w S fun v L => v = .agg ⟨ty26.zero⟩ ∧ L = [] := by
  refine Trip.of_x (L := []) Tryz.func19 (by kernel_rfl) rfl Tryz.ntmps19 Tryz.results19 rfl (ctx_ok _) trivial hd ?_
  intro b
  refine callP [] (fun w S hR _ _ hd => made_no v w S (h.mono hR) hd) ?_
  rintro _ _ ⟨rfl, rfl⟩
  refine ⟨fun _ => ?_, fun h => by cases h⟩
  refine st 0 rfl rfl rfl rfl rfl ?_
  exact ⟨_, .var (ldA 0 rfl rfl rfl rfl rfl), _, .pick [], rfl, rfl⟩
theorem check_no (v r : Value) (w : World) (S : FP) (h : NoHeap w S v) (hd : ∀ b, S b → b < w.heap.size) : Trip Tryz.prog 10 #[v, r] w S fun v L => v = .int .i64 1 ∧ L = [] := by
  refine Trip.of_x (L := []) Tryz.func10 (by kernel_rfl) rfl Tryz.ntmps10 Tryz.results10 rfl (ctx_ok _) trivial hd ?_
  have k := h
  rcases h with rfl | ⟨b, rfl, h⟩
  · refine ⟨_, eql_nn Tryz.underlying23, ?_⟩
    refine ⟨fun _ => ?_, fun h => (by cases h)⟩
    refine ⟨fun _ => ?_, fun h => (by cases h)⟩
    exact ⟨_, .refl _, rfl, rfl⟩
  · refine ⟨_, eql_sn Tryz.underlying23, ?_⟩
    refine ⟨fun h => (by cases h), fun _ => ?_⟩
    refine callP [] (fun w S hR _ _ hd => config_no _ w S (k.mono hR) hd) ?_
    rintro _ _ ⟨rfl, rfl⟩
    refine ⟨fun _ => ?_, fun h => by cases h⟩
    exact ⟨_, .refl _, rfl, rfl⟩
theorem links_no (v a i : Value) (w : World) (S : FP) (h : NoHeap w S v) (hd : ∀ b, S b → b < w.heap.size) : Trip Tryz.prog 4 #[v, a, i] w S fun v L => v = .tuple ⟨[.slice none 0 0, .int .i64 1]⟩ ∧ L = [] := by
  refine Trip.of_x (L := []) Tryz.func4 (by kernel_rfl) rfl Tryz.ntmps4 Tryz.results4 rfl (ctx_ok _) trivial hd ?_
  refine callP [] (fun w S hR _ _ hd => check_no _ _ w S (h.mono hR) hd) ?_
  rintro _ _ ⟨rfl, rfl⟩
  refine ⟨fun _ => ?_, fun h => by cases h⟩
  exact ⟨_, .refl _, rfl, rfl⟩
theorem reach_no (v a i : Value) (w : World) (S : FP) (h : NoHeap w S v) (hd : ∀ b, S b → b < w.heap.size) : Trip Tryz.prog 5 #[v, a, i] w S fun v L => v = .tuple ⟨[.slice none 0 0, .int .i64 1]⟩ ∧ L = [] := by
  refine Trip.of_x (L := []) Tryz.func5 (by kernel_rfl) rfl Tryz.ntmps5 Tryz.results5 rfl (ctx_ok _) trivial hd ?_
  refine callP [] (fun w S hR _ _ hd => check_no _ _ w S (h.mono hR) hd) ?_
  rintro _ _ ⟨rfl, rfl⟩
  refine ⟨fun _ => ?_, fun h => by cases h⟩
  exact ⟨_, .refl _, rfl, rfl⟩
theorem leaks_no (v a i : Value) (w : World) (S : FP) (h : NoHeap w S v) (hd : ∀ b, S b → b < w.heap.size) : Trip Tryz.prog 6 #[v, a, i] w S fun v L => v = .tuple ⟨[.slice none 0 0, .int .i64 1]⟩ ∧ L = [] := by
  refine Trip.of_x (L := []) Tryz.func6 (by kernel_rfl) rfl Tryz.ntmps6 Tryz.results6 rfl (ctx_ok _) trivial hd ?_
  refine callP [] (fun w S hR _ _ hd => check_no _ _ w S (h.mono hR) hd) ?_
  rintro _ _ ⟨rfl, rfl⟩
  refine ⟨fun _ => ?_, fun h => by cases h⟩
  exact ⟨_, .refl _, rfl, rfl⟩
theorem path_no (v a i k : Value) (w : World) (S : FP) (h : NoHeap w S v) (hd : ∀ b, S b → b < w.heap.size) : Trip Tryz.prog 7 #[v, a, i, k] w S fun v L => v = .tuple ⟨[.slice none 0 0, .int .i64 1]⟩ ∧ L = [] := by
  refine Trip.of_x (L := []) Tryz.func7 (by kernel_rfl) rfl Tryz.ntmps7 Tryz.results7 rfl (ctx_ok _) trivial hd ?_
  refine callP [] (fun w S hR _ _ hd => check_no _ _ w S (h.mono hR) hd) ?_
  rintro _ _ ⟨rfl, rfl⟩
  refine ⟨fun _ => ?_, fun h => by cases h⟩
  exact ⟨_, .refl _, rfl, rfl⟩
theorem collect_no (v a i k : Value) (w : World) (S : FP) (h : NoHeap w S v) (hd : ∀ b, S b → b < w.heap.size) : Trip Tryz.prog 8 #[v, a, i, k] w S fun v L => v = .tuple ⟨[.int .i64 0, .int .i64 1]⟩ ∧ L = [] := by
  refine Trip.of_x (L := []) Tryz.func8 (by kernel_rfl) rfl Tryz.ntmps8 Tryz.results8 rfl (ctx_ok _) trivial hd ?_
  refine callP [] (fun w S hR _ _ hd => check_no _ _ w S (h.mono hR) hd) ?_
  rintro _ _ ⟨rfl, rfl⟩
  refine ⟨fun _ => ?_, fun h => by cases h⟩
  exact ⟨_, .refl _, rfl, rfl⟩
end Go.Proofs.YtigibnnmceccfaaGreatDoor

/- LeakNone: the law, walked. -/
namespace Go.Proofs.YtigibnnmceccfaaGreatDoor
open Go.X
set_option maxRecDepth 10000
set_option linter.unusedVariables false
set_option linter.unusedSimpArgs false

theorem none_spec (G : Chunk) (hA : ∀ w S, RO w S G → Trip Tryz.prog 9 #[] w S fun v L => v = .bool true ∧ L = []) (r i t a : Value) (b : Bool) (w : World) (S : FP) (hG : RO w S G) (hd : ∀ b, S b → b < w.heap.size) :
    Trip Tryz.prog 3 #[r, i, t, a, .bool b] w S fun v L => v = .bool true ∧ L = [] := by
  refine Trip.of_x (L := []) Tryz.func3 (by kernel_rfl) rfl Tryz.ntmps3 Tryz.results3 rfl (ctx_ok _) trivial hd ?_
  intro hb
  refine ⟨fun hn => ?_, fun hn => ?_⟩
  · refine callP [] (fun w S _ _ _ hd => links_no _ _ _ w S (.inl rfl) hd) ?_
    rintro _ _ ⟨rfl, rfl⟩
    refine callP [] (fun w S _ _ _ hd => reach_no _ _ _ w S (.inl rfl) hd) ?_
    rintro _ _ ⟨rfl, rfl⟩
    refine callP [] (fun w S _ _ _ hd => leaks_no _ _ _ w S (.inl rfl) hd) ?_
    rintro _ _ ⟨rfl, rfl⟩
    refine callP [] (fun w S _ _ _ hd => path_no _ _ _ _ w S (.inl rfl) hd) ?_
    rintro _ _ ⟨rfl, rfl⟩
    refine callP [] (fun w S _ _ _ hd => collect_no _ _ _ _ w S (.inl rfl) hd) ?_
    rintro _ _ ⟨rfl, rfl⟩
    repeat (refine ⟨fun _ => ?_, fun h => (by first | (cases h; done) | (simp at h; done))⟩)
    refine callP [] (fun w S hR _ _ hd => hA w S (hR _ hG)) ?_
    rintro _ _ ⟨rfl, rfl⟩
    exact ⟨_, .pick [], rfl, rfl⟩
  · refine callP [] (fun w S _ hB _ hd => links_no _ _ _ w S (.inr ⟨_, rfl, hB _ (lget_mem (i := 0) rfl)⟩) hd) ?_
    rintro _ _ ⟨rfl, rfl⟩
    refine callP [] (fun w S _ hB _ hd => reach_no _ _ _ w S (.inr ⟨_, rfl, hB _ (lget_mem (i := 0) rfl)⟩) hd) ?_
    rintro _ _ ⟨rfl, rfl⟩
    refine callP [] (fun w S _ hB _ hd => leaks_no _ _ _ w S (.inr ⟨_, rfl, hB _ (lget_mem (i := 0) rfl)⟩) hd) ?_
    rintro _ _ ⟨rfl, rfl⟩
    refine callP [] (fun w S _ hB _ hd => path_no _ _ _ _ w S (.inr ⟨_, rfl, hB _ (lget_mem (i := 0) rfl)⟩) hd) ?_
    rintro _ _ ⟨rfl, rfl⟩
    refine callP [] (fun w S _ hB _ hd => collect_no _ _ _ _ w S (.inr ⟨_, rfl, hB _ (lget_mem (i := 0) rfl)⟩) hd) ?_
    rintro _ _ ⟨rfl, rfl⟩
    repeat (refine ⟨fun _ => ?_, fun h => (by first | (cases h; done) | (simp at h; done))⟩)
    refine callP [] (fun w S hR _ _ hd => hA w S (hR _ hG)) ?_
    rintro _ _ ⟨rfl, rfl⟩
    exact ⟨_, .pick [], rfl, rfl⟩
end Go.Proofs.YtigibnnmceccfaaGreatDoor
