/- No heap, and a heap that nobody made. -/
import Derived.Test.YtkkeimpmafllpaaGreatDoorTab
import Derived.Test.YtkkeimpmafllpaaGreatDoorYE
import Derived.Test.YtkkeimpmafllpaaGreatDoorYG
namespace Go.Proofs.YtkkeimpmafllpaaGreatDoor
open Go.X
set_option maxRecDepth 10000
set_option linter.unusedVariables false
set_option linter.unusedSimpArgs false

/-- No heap, or one that nobody made. -/
def NoHeap (w : World) (S : FP) (v : Value) : Prop := v = .pointer none ∨ ∃ b, v = .pointer (some ⟨b, 0, none⟩) ∧ RO w S (pt b ty42.zero 42)
theorem NoHeap.mono {w w' : World} {S S' : FP} {v : Value} (h : NoHeap w S v) (k : ∀ r, RO w S r → RO w' S' r) : NoHeap w' S' v := by
  rcases h with h | ⟨b, h1, h2⟩
  · exact .inl h
  · exact .inr ⟨b, h1, k _ h2⟩
theorem made_no (v : Value) (w : World) (S : FP) (h : NoHeap w S v) (hd : ∀ b, S b → b < w.heap.size) : Trip Tryz.prog 38 #[v] w S fun v L => v = .bool false ∧ L = [] := by
  refine Trip.of_x (L := []) Tryz.func38 (by kernel_rfl) rfl Tryz.ntmps38 Tryz.results38 rfl (ctx_ok _) trivial hd ?_
  rcases h with rfl | ⟨b, rfl, h⟩
  · refine ⟨_, neq_nn Tryz.underlying25, ?_⟩
    refine ⟨fun h => (by cases h), fun _ => ?_⟩
    exact ⟨_, .refl _, rfl, rfl⟩
  · refine ⟨_, neq_sn Tryz.underlying25, ?_⟩
    refine ⟨fun _ => ?_, fun h => by cases h⟩
    refine ⟨_, .load1 rfl (.roPt h rfl), ?_⟩
    exact ⟨_, .refl _, rfl, rfl⟩
theorem config_no (v : Value) (w : World) (S : FP) (h : NoHeap w S v) (hd : ∀ b, S b → b < w.heap.size) : Trip Tryz.prog 19 #[v] w S fun v L => v = .agg ⟨ty36.zero⟩ ∧ L = [] := by
  refine Trip.of_x (L := []) Tryz.func19 (by kernel_rfl) rfl Tryz.ntmps19 Tryz.results19 rfl (ctx_ok _) trivial hd ?_
  intro b
  refine callP [] (fun w S hR _ _ hd => made_no v w S (h.mono hR) hd) ?_
  rintro _ _ ⟨rfl, rfl⟩
  refine ⟨fun _ => ?_, fun h => by cases h⟩
  refine st 0 rfl rfl rfl rfl rfl ?_
  exact ⟨_, .var (ldA 0 rfl rfl rfl rfl rfl), _, .pick [], rfl, rfl⟩
end Go.Proofs.YtkkeimpmafllpaaGreatDoor

/- No run, and a run that nobody made. -/
namespace Go.Proofs.YtkkeimpmafllpaaGreatDoor
open Go.X
set_option maxRecDepth 10000
set_option linter.unusedVariables false
set_option linter.unusedSimpArgs false

def NoRun (w : World) (S : FP) (v : Value) : Prop := v = .pointer none ∨ ∃ b, v = .pointer (some ⟨b, 0, none⟩) ∧ RO w S (pt b ty33.zero 33)
theorem NoRun.mono {w w' : World} {S S' : FP} {v : Value} (h : NoRun w S v) (k : ∀ r, RO w S r → RO w' S' r) : NoRun w' S' v := by
  rcases h with h | ⟨b, h1, h2⟩
  · exact .inl h
  · exact .inr ⟨b, h1, k _ h2⟩
theorem rmade_no (v : Value) (w : World) (S : FP) (h : NoRun w S v) (hd : ∀ b, S b → b < w.heap.size) : Trip Tryz.prog 28 #[v] w S fun v L => v = .bool false ∧ L = [] := by
  refine Trip.of_x (L := []) Tryz.func28 (by kernel_rfl) rfl Tryz.ntmps28 Tryz.results28 rfl (ctx_ok _) trivial hd ?_
  rcases h with rfl | ⟨b, rfl, h⟩
  · refine ⟨_, neq_nn Tryz.underlying24, ?_⟩
    refine ⟨fun h => (by cases h), fun _ => ?_⟩
    exact ⟨_, .refl _, rfl, rfl⟩
  · refine ⟨_, neq_sn Tryz.underlying24, ?_⟩
    refine ⟨fun _ => ?_, fun h => by cases h⟩
    refine ⟨_, .load1 rfl (.roPt h rfl), ?_⟩
    refine ⟨_, neq_nn Tryz.underlying25, ?_⟩
    exact ⟨_, .refl _, rfl, rfl⟩
theorem treal_no (v : Value) (w : World) (S : FP) (h : NoHeap w S v) (hd : ∀ b, S b → b < w.heap.size) : Trip Tryz.prog 18 #[v] w S fun v L => v = .bool false ∧ L = [] := by
  refine Trip.of_x (L := []) Tryz.func18 (by kernel_rfl) rfl Tryz.ntmps18 Tryz.results18 rfl (ctx_ok _) trivial hd ?_
  have k := h
  rcases h with rfl | ⟨b, rfl, h⟩
  · refine ⟨_, neq_nn Tryz.underlying25, ?_⟩
    refine ⟨fun h => (by cases h), fun _ => ?_⟩
    exact ⟨_, .refl _, rfl, rfl⟩
  · refine ⟨_, neq_sn Tryz.underlying25, ?_⟩
    refine ⟨fun _ => ?_, fun h => by cases h⟩
    refine callP [] (fun w S hR _ _ hd => config_no _ w S (k.mono hR) hd) ?_
    rintro _ _ ⟨rfl, rfl⟩
    exact ⟨_, .refl _, rfl, rfl⟩
theorem tnew_no (v a : Value) (w : World) (S : FP) (h : NoHeap w S v) (hd : ∀ b, S b → b < w.heap.size) : Trip Tryz.prog 4 #[v, a] w S fun v L => v = .tuple ⟨[.pointer none, .int .i64 1]⟩ ∧ L = [] := by
  refine Trip.of_x (L := []) Tryz.func4 (by kernel_rfl) rfl Tryz.ntmps4 Tryz.results4 rfl (ctx_ok _) trivial hd ?_
  refine callP [] (fun w S hR _ _ hd => treal_no v w S (h.mono hR) hd) ?_
  rintro _ _ ⟨rfl, rfl⟩
  refine ⟨fun _ => ?_, fun h => by cases h⟩
  exact ⟨_, .refl _, rfl, rfl⟩
theorem texp_no (v a : Value) (n : Int) (w : World) (S : FP) (h : NoHeap w S v) (hd : ∀ b, S b → b < w.heap.size) : Trip Tryz.prog 5 #[v, a, .int .i64 n] w S fun v L => v = .tuple ⟨[.agg ⟨ty47.zero⟩, .int .i64 1]⟩ ∧ L = [] := by
  refine Trip.of_x (L := []) Tryz.func5 (by kernel_rfl) rfl Tryz.ntmps5 Tryz.results5 rfl (ctx_ok _) trivial hd ?_
  intro bx be
  refine callP [] (fun w S hR _ _ hd => tnew_no v a w S (h.mono hR) hd) ?_
  rintro _ _ ⟨rfl, rfl⟩
  refine ⟨fun _ => ?_, fun h => by cases h⟩
  refine st 0 rfl rfl rfl rfl rfl ?_
  exact ⟨_, .var (ldA 0 rfl rfl rfl rfl rfl), _, .pick [], rfl, rfl⟩
theorem r_turn_no (v a : Value) (w : World) (S : FP) (h : NoRun w S v) (hd : ∀ b, S b → b < w.heap.size) : Trip Tryz.prog 6 #[v, a] w S fun v L => v = .tuple ⟨[.bool false, .int .i64 5]⟩ ∧ L = [] := by
  refine Trip.of_x (L := []) Tryz.func6 (by kernel_rfl) rfl Tryz.ntmps6 Tryz.results6 rfl (ctx_ok _) trivial hd ?_
  refine callP [] (fun w S hR _ _ hd => rmade_no v w S (h.mono hR) hd) ?_
  rintro _ _ ⟨rfl, rfl⟩
  refine ⟨fun _ => ?_, fun h => by cases h⟩
  exact ⟨_, .refl _, rfl, rfl⟩
theorem r_play_no (v a : Value) (w : World) (S : FP) (h : NoRun w S v) (hd : ∀ b, S b → b < w.heap.size) : Trip Tryz.prog 7 #[v, a] w S fun v L => v = .tuple ⟨[.int .i64 0, .int .i64 5]⟩ ∧ L = [] := by
  refine Trip.of_x (L := []) Tryz.func7 (by kernel_rfl) rfl Tryz.ntmps7 Tryz.results7 rfl (ctx_ok _) trivial hd ?_
  refine callP [] (fun w S hR _ _ hd => rmade_no v w S (h.mono hR) hd) ?_
  rintro _ _ ⟨rfl, rfl⟩
  refine ⟨fun _ => ?_, fun h => by cases h⟩
  exact ⟨_, .refl _, rfl, rfl⟩
theorem r_finish_no (v : Value) (w : World) (S : FP) (h : NoRun w S v) (hd : ∀ b, S b → b < w.heap.size) : Trip Tryz.prog 8 #[v] w S fun v L => v = .tuple ⟨[.int .i64 0, .int .i64 5]⟩ ∧ L = [] := by
  refine Trip.of_x (L := []) Tryz.func8 (by kernel_rfl) rfl Tryz.ntmps8 Tryz.results8 rfl (ctx_ok _) trivial hd ?_
  refine callP [] (fun w S hR _ _ hd => rmade_no v w S (h.mono hR) hd) ?_
  rintro _ _ ⟨rfl, rfl⟩
  refine ⟨fun _ => ?_, fun h => by cases h⟩
  exact ⟨_, .refl _, rfl, rfl⟩
theorem r_events_no (v : Value) (w : World) (S : FP) (h : NoRun w S v) (hd : ∀ b, S b → b < w.heap.size) : Trip Tryz.prog 9 #[v] w S fun v L => v = .slice none 0 0 ∧ L = [] := by
  refine Trip.of_x (L := []) Tryz.func9 (by kernel_rfl) rfl Tryz.ntmps9 Tryz.results9 rfl (ctx_ok _) trivial hd ?_
  refine callP [] (fun w S hR _ _ hd => rmade_no v w S (h.mono hR) hd) ?_
  rintro _ _ ⟨rfl, rfl⟩
  refine ⟨fun _ => ?_, fun h => by cases h⟩
  exact ⟨_, .refl _, rfl, rfl⟩
theorem r_slots_no (v : Value) (w : World) (S : FP) (h : NoRun w S v) (hd : ∀ b, S b → b < w.heap.size) : Trip Tryz.prog 10 #[v] w S fun v L => v = .slice none 0 0 ∧ L = [] := by
  refine Trip.of_x (L := []) Tryz.func10 (by kernel_rfl) rfl Tryz.ntmps10 Tryz.results10 rfl (ctx_ok _) trivial hd ?_
  refine callP [] (fun w S hR _ _ hd => rmade_no v w S (h.mono hR) hd) ?_
  rintro _ _ ⟨rfl, rfl⟩
  refine ⟨fun _ => ?_, fun h => by cases h⟩
  exact ⟨_, .refl _, rfl, rfl⟩
theorem r_waiting_no (v : Value) (w : World) (S : FP) (h : NoRun w S v) (hd : ∀ b, S b → b < w.heap.size) : Trip Tryz.prog 12 #[v] w S fun v L => v = .slice none 0 0 ∧ L = [] := by
  refine Trip.of_x (L := []) Tryz.func12 (by kernel_rfl) rfl Tryz.ntmps12 Tryz.results12 rfl (ctx_ok _) trivial hd ?_
  refine callP [] (fun w S hR _ _ hd => rmade_no v w S (h.mono hR) hd) ?_
  rintro _ _ ⟨rfl, rfl⟩
  refine ⟨fun _ => ?_, fun h => by cases h⟩
  exact ⟨_, .refl _, rfl, rfl⟩
theorem r_done_no (v : Value) (w : World) (S : FP) (h : NoRun w S v) (hd : ∀ b, S b → b < w.heap.size) : Trip Tryz.prog 11 #[v] w S fun v L => v = .bool false ∧ L = [] := by
  refine Trip.of_x (L := []) Tryz.func11 (by kernel_rfl) rfl Tryz.ntmps11 Tryz.results11 rfl (ctx_ok _) trivial hd ?_
  refine callP [] (fun w S hR _ _ hd => rmade_no v w S (h.mono hR) hd) ?_
  rintro _ _ ⟨rfl, rfl⟩
  refine ⟨fun _ => ?_, fun h => by cases h⟩
  exact ⟨_, .refl _, rfl, rfl⟩
theorem r_heap_no (v : Value) (w : World) (S : FP) (h : NoRun w S v) (hd : ∀ b, S b → b < w.heap.size) : Trip Tryz.prog 13 #[v] w S fun v L => v = .pointer none ∧ L = [] := by
  refine Trip.of_x (L := []) Tryz.func13 (by kernel_rfl) rfl Tryz.ntmps13 Tryz.results13 rfl (ctx_ok _) trivial hd ?_
  refine callP [] (fun w S hR _ _ hd => rmade_no v w S (h.mono hR) hd) ?_
  rintro _ _ ⟨rfl, rfl⟩
  refine ⟨fun _ => ?_, fun h => by cases h⟩
  exact ⟨_, .refl _, rfl, rfl⟩
theorem r_clone_no (v : Value) (w : World) (S : FP) (h : NoRun w S v) (hd : ∀ b, S b → b < w.heap.size) : Trip Tryz.prog 14 #[v] w S fun v L => v = .pointer none ∧ L = [] := by
  refine Trip.of_x (L := []) Tryz.func14 (by kernel_rfl) rfl Tryz.ntmps14 Tryz.results14 rfl (ctx_ok _) trivial hd ?_
  refine callP [] (fun w S hR _ _ hd => rmade_no v w S (h.mono hR) hd) ?_
  rintro _ _ ⟨rfl, rfl⟩
  refine ⟨fun _ => ?_, fun h => by cases h⟩
  exact ⟨_, .refl _, rfl, rfl⟩
theorem r_on_no (v a : Value) (w : World) (S : FP) (h : NoRun w S v) (hd : ∀ b, S b → b < w.heap.size) : Trip Tryz.prog 15 #[v, a] w S fun v L => v = .pointer none ∧ L = [] := by
  refine Trip.of_x (L := []) Tryz.func15 (by kernel_rfl) rfl Tryz.ntmps15 Tryz.results15 rfl (ctx_ok _) trivial hd ?_
  refine callP [] (fun w S hR _ _ hd => rmade_no v w S (h.mono hR) hd) ?_
  rintro _ _ ⟨rfl, rfl⟩
  refine ⟨fun _ => ?_, fun h => by cases h⟩
  refine ⟨fun _ => ?_, fun h => by cases h⟩
  exact ⟨_, .refl _, rfl, rfl⟩
end Go.Proofs.YtkkeimpmafllpaaGreatDoor

/- ThreadsNone: the law, walked. -/
namespace Go.Proofs.YtkkeimpmafllpaaGreatDoor
open Go.X Go.Y
set_option maxRecDepth 10000
set_option linter.unusedVariables false
set_option linter.unusedSimpArgs false

theorem exp0_eq {n : Nat} {w : World} {S : FP} {L : List Chunk} {x y : Operand} : RunsTo ⟨Tryz.prog, tab, n, w, S⟩ L (do eqGuard .eql 47 x y (.agg ⟨ty47.zero⟩) (.agg ⟨ty47.zero⟩); binOp .eql 47 (.agg ⟨ty47.zero⟩) (.agg ⟨ty47.zero⟩)) (.bool true) :=
  CmpOk.eql (C := ⟨Tryz.prog, tab, n, w, S⟩) (t := 47) (z := yt47.zero) (l := yt47.zero) (m := yt47.zero) cmp47 (by kernel_rfl) (by kernel_rfl) (plain_vrl (by kernel_rfl)) (plain_vrl (by kernel_rfl))
theorem none_spec (G : Chunk) (hA : ∀ w S, RO w S G → Trip Tryz.prog 17 #[] w S fun v L => v = .bool true ∧ L = []) (hS : ∀ w S, RO w S G → Trip Tryz.prog 16 #[] w S fun _ L => L = []) (l t : Value) (n : Int) (b : Bool) (w : World) (S : FP) (hG : RO w S G) (hd : ∀ b, S b → b < w.heap.size) :
    Trip Tryz.prog 3 #[l, t, .int .i64 n, .bool b] w S fun v L => v = .bool true ∧ L = [] := by
  refine Trip.of_x (L := []) Tryz.func3 (by kernel_rfl) rfl Tryz.ntmps3 Tryz.results3 rfl (ctx_ok _) trivial hd ?_
  intro bk bh
  refine ⟨fun hn => ?_, fun hn => ?_⟩
  · refine callP [] (fun w S hR hB _ hd => tnew_no _ _ w S (.inl rfl) hd) ?_
    rintro _ _ ⟨rfl, rfl⟩
    refine callP [] (fun w S hR hB _ hd => texp_no _ _ _ w S (.inl rfl) hd) ?_
    rintro _ _ ⟨rfl, rfl⟩
    intro be
    refine st 0 rfl rfl rfl rfl rfl ?_
    refine callP [] (fun w S hR hB _ hd => r_turn_no _ _ w S (.inl rfl) hd) ?_
    rintro _ _ ⟨rfl, rfl⟩
    refine callP [] (fun w S hR hB _ hd => r_play_no _ _ w S (.inl rfl) hd) ?_
    rintro _ _ ⟨rfl, rfl⟩
    refine callP [] (fun w S hR hB _ hd => r_finish_no _ w S (.inl rfl) hd) ?_
    rintro _ _ ⟨rfl, rfl⟩
    refine ⟨_, eql_nn Tryz.underlying24, ?_⟩
    repeat (refine ⟨fun _ => ?_, fun h => (by first | (cases h; done) | (simp at h; done))⟩)
    refine ⟨_, ldA 0 rfl rfl rfl rfl rfl, ?_⟩
    refine ⟨_, exp0_eq, ?_⟩
    repeat (refine ⟨fun _ => ?_, fun h => (by first | (cases h; done) | (simp at h; done))⟩)
    refine callP [] (fun w S hR hB _ hd => r_events_no _ w S (.inl rfl) hd) ?_
    rintro _ _ ⟨rfl, rfl⟩
    repeat (refine ⟨fun _ => ?_, fun h => (by first | (cases h; done) | (simp at h; done))⟩)
    refine callP [] (fun w S hR hB _ hd => r_slots_no _ w S (.inl rfl) hd) ?_
    rintro _ _ ⟨rfl, rfl⟩
    repeat (refine ⟨fun _ => ?_, fun h => (by first | (cases h; done) | (simp at h; done))⟩)
    refine callP [] (fun w S hR hB _ hd => r_done_no _ w S (.inl rfl) hd) ?_
    rintro _ _ ⟨rfl, rfl⟩
    repeat (refine ⟨fun _ => ?_, fun h => (by first | (cases h; done) | (simp at h; done))⟩)
    refine callP [] (fun w S hR hB _ hd => r_waiting_no _ w S (.inl rfl) hd) ?_
    rintro _ _ ⟨rfl, rfl⟩
    repeat (refine ⟨fun _ => ?_, fun h => (by first | (cases h; done) | (simp at h; done))⟩)
    refine callP [] (fun w S hR hB _ hd => r_heap_no _ w S (.inl rfl) hd) ?_
    rintro _ _ ⟨rfl, rfl⟩
    refine ⟨_, eql_nn Tryz.underlying25, ?_⟩
    repeat (refine ⟨fun _ => ?_, fun h => (by first | (cases h; done) | (simp at h; done))⟩)
    refine callP [] (fun w S hR hB _ hd => r_clone_no _ w S (.inl rfl) hd) ?_
    rintro _ _ ⟨rfl, rfl⟩
    refine ⟨_, eql_nn Tryz.underlying24, ?_⟩
    repeat (refine ⟨fun _ => ?_, fun h => (by first | (cases h; done) | (simp at h; done))⟩)
    refine callP [] (fun w S hR _ _ hd => hS w S (hR _ hG)) ?_
    rintro _ _ rfl
    refine callP [] (fun w S hR hB _ hd => r_on_no _ _ w S (.inl rfl) hd) ?_
    rintro _ _ ⟨rfl, rfl⟩
    refine ⟨_, eql_nn Tryz.underlying24, ?_⟩
    repeat (refine ⟨fun _ => ?_, fun h => (by first | (cases h; done) | (simp at h; done))⟩)
    refine callP [] (fun w S hR _ _ hd => hA w S (hR _ hG)) ?_
    rintro _ _ ⟨rfl, rfl⟩
    exact ⟨_, .pick [], rfl, rfl⟩
  · refine callP [] (fun w S hR hB _ hd => tnew_no _ _ w S (.inr ⟨_, rfl, hB _ (lget_mem (i := 0) rfl)⟩) hd) ?_
    rintro _ _ ⟨rfl, rfl⟩
    refine callP [] (fun w S hR hB _ hd => texp_no _ _ _ w S (.inr ⟨_, rfl, hB _ (lget_mem (i := 0) rfl)⟩) hd) ?_
    rintro _ _ ⟨rfl, rfl⟩
    intro be
    refine st 0 rfl rfl rfl rfl rfl ?_
    refine callP [] (fun w S hR hB _ hd => r_turn_no _ _ w S (.inr ⟨_, rfl, hB _ (lget_mem (i := 2) rfl)⟩) hd) ?_
    rintro _ _ ⟨rfl, rfl⟩
    refine callP [] (fun w S hR hB _ hd => r_play_no _ _ w S (.inr ⟨_, rfl, hB _ (lget_mem (i := 2) rfl)⟩) hd) ?_
    rintro _ _ ⟨rfl, rfl⟩
    refine callP [] (fun w S hR hB _ hd => r_finish_no _ w S (.inr ⟨_, rfl, hB _ (lget_mem (i := 2) rfl)⟩) hd) ?_
    rintro _ _ ⟨rfl, rfl⟩
    refine ⟨_, eql_nn Tryz.underlying24, ?_⟩
    repeat (refine ⟨fun _ => ?_, fun h => (by first | (cases h; done) | (simp at h; done))⟩)
    refine ⟨_, ldA 0 rfl rfl rfl rfl rfl, ?_⟩
    refine ⟨_, exp0_eq, ?_⟩
    repeat (refine ⟨fun _ => ?_, fun h => (by first | (cases h; done) | (simp at h; done))⟩)
    refine callP [] (fun w S hR hB _ hd => r_events_no _ w S (.inr ⟨_, rfl, hB _ (lget_mem (i := 2) rfl)⟩) hd) ?_
    rintro _ _ ⟨rfl, rfl⟩
    repeat (refine ⟨fun _ => ?_, fun h => (by first | (cases h; done) | (simp at h; done))⟩)
    refine callP [] (fun w S hR hB _ hd => r_slots_no _ w S (.inr ⟨_, rfl, hB _ (lget_mem (i := 2) rfl)⟩) hd) ?_
    rintro _ _ ⟨rfl, rfl⟩
    repeat (refine ⟨fun _ => ?_, fun h => (by first | (cases h; done) | (simp at h; done))⟩)
    refine callP [] (fun w S hR hB _ hd => r_done_no _ w S (.inr ⟨_, rfl, hB _ (lget_mem (i := 2) rfl)⟩) hd) ?_
    rintro _ _ ⟨rfl, rfl⟩
    repeat (refine ⟨fun _ => ?_, fun h => (by first | (cases h; done) | (simp at h; done))⟩)
    refine callP [] (fun w S hR hB _ hd => r_waiting_no _ w S (.inr ⟨_, rfl, hB _ (lget_mem (i := 2) rfl)⟩) hd) ?_
    rintro _ _ ⟨rfl, rfl⟩
    repeat (refine ⟨fun _ => ?_, fun h => (by first | (cases h; done) | (simp at h; done))⟩)
    refine callP [] (fun w S hR hB _ hd => r_heap_no _ w S (.inr ⟨_, rfl, hB _ (lget_mem (i := 2) rfl)⟩) hd) ?_
    rintro _ _ ⟨rfl, rfl⟩
    refine ⟨_, eql_nn Tryz.underlying25, ?_⟩
    repeat (refine ⟨fun _ => ?_, fun h => (by first | (cases h; done) | (simp at h; done))⟩)
    refine callP [] (fun w S hR hB _ hd => r_clone_no _ w S (.inr ⟨_, rfl, hB _ (lget_mem (i := 2) rfl)⟩) hd) ?_
    rintro _ _ ⟨rfl, rfl⟩
    refine ⟨_, eql_nn Tryz.underlying24, ?_⟩
    repeat (refine ⟨fun _ => ?_, fun h => (by first | (cases h; done) | (simp at h; done))⟩)
    refine callP [] (fun w S hR _ _ hd => hS w S (hR _ hG)) ?_
    rintro _ _ rfl
    refine callP [] (fun w S hR hB _ hd => r_on_no _ _ w S (.inr ⟨_, rfl, hB _ (lget_mem (i := 2) rfl)⟩) hd) ?_
    rintro _ _ ⟨rfl, rfl⟩
    refine ⟨_, eql_nn Tryz.underlying24, ?_⟩
    repeat (refine ⟨fun _ => ?_, fun h => (by first | (cases h; done) | (simp at h; done))⟩)
    refine callP [] (fun w S hR _ _ hd => hA w S (hR _ hG)) ?_
    rintro _ _ ⟨rfl, rfl⟩
    exact ⟨_, .pick [], rfl, rfl⟩
end Go.Proofs.YtkkeimpmafllpaaGreatDoor
