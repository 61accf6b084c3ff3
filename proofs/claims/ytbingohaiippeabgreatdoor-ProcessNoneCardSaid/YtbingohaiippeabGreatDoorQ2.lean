/- No heap, and a heap that nobody made. -/
import Derived.Test.YtbingohaiippeabGreatDoorTab
import Derived.Test.YtbingohaiippeabGreatDoorYE
import Derived.Test.YtbingohaiippeabGreatDoorYG
namespace Go.Proofs.YtbingohaiippeabGreatDoor
open Go.X
set_option maxRecDepth 10000
set_option linter.unusedVariables false
set_option linter.unusedSimpArgs false

/-- No heap, or one that nobody made. -/
def NoHeap (w : World) (S : FP) (v : Value) : Prop := v = .pointer none ∨ ∃ b, v = .pointer (some ⟨b, 0, none⟩) ∧ RO w S (pt b ty91.zero 91)
theorem NoHeap.mono {w w' : World} {S S' : FP} {v : Value} (h : NoHeap w S v) (k : ∀ r, RO w S r → RO w' S' r) : NoHeap w' S' v := by
  rcases h with h | ⟨b, h1, h2⟩
  · exact .inl h
  · exact .inr ⟨b, h1, k _ h2⟩
theorem made_no (v : Value) (w : World) (S : FP) (h : NoHeap w S v) (hd : ∀ b, S b → b < w.heap.size) : Trip Tryz.prog 34 #[v] w S fun v L => v = .bool false ∧ L = [] := by
  refine Trip.of_x (L := []) Tryz.func34 (by kernel_rfl) rfl Tryz.ntmps34 Tryz.results34 rfl (ctx_ok _) trivial hd ?_
  rcases h with rfl | ⟨b, rfl, h⟩
  · refine ⟨_, neq_nn Tryz.underlying46, ?_⟩
    refine ⟨fun h => (by cases h), fun _ => ?_⟩
    exact ⟨_, .refl _, rfl, rfl⟩
  · refine ⟨_, neq_sn Tryz.underlying46, ?_⟩
    refine ⟨fun _ => ?_, fun h => by cases h⟩
    refine ⟨_, .load1 rfl (.roPt h rfl), ?_⟩
    exact ⟨_, .refl _, rfl, rfl⟩
theorem config_no (v : Value) (w : World) (S : FP) (h : NoHeap w S v) (hd : ∀ b, S b → b < w.heap.size) : Trip Tryz.prog 21 #[v] w S fun v L => v = .agg ⟨ty61.zero⟩ ∧ L = [] := by
  refine Trip.of_x (L := []) Tryz.func21 (by kernel_rfl) rfl Tryz.ntmps21 Tryz.results21 rfl (ctx_ok _) trivial hd ?_
  intro b
  refine callP [] (fun w S hR _ _ hd => made_no v w S (h.mono hR) hd) ?_
  rintro _ _ ⟨rfl, rfl⟩
  refine ⟨fun _ => ?_, fun h => by cases h⟩
  refine st 0 rfl rfl rfl rfl rfl ?_
  exact ⟨_, .var (ldA 0 rfl rfl rfl rfl rfl), _, .pick [], rfl, rfl⟩
end Go.Proofs.YtbingohaiippeabGreatDoor

/- No system of processes, and one that nobody made. -/
namespace Go.Proofs.YtbingohaiippeabGreatDoor
open Go.X
set_option maxRecDepth 10000
set_option linter.unusedVariables false
set_option linter.unusedSimpArgs false

def NoSys (w : World) (S : FP) (v : Value) : Prop := v = .pointer none ∨ ∃ b, v = .pointer (some ⟨b, 0, none⟩) ∧ RO w S (pt b ty27.zero 27)
theorem NoSys.mono {w w' : World} {S S' : FP} {v : Value} (h : NoSys w S v) (k : ∀ r, RO w S r → RO w' S' r) : NoSys w' S' v := by
  rcases h with h | ⟨b, h1, h2⟩
  · exact .inl h
  · exact .inr ⟨b, h1, k _ h2⟩
theorem smade_no (v : Value) (w : World) (S : FP) (h : NoSys w S v) (hd : ∀ b, S b → b < w.heap.size) : Trip Tryz.prog 26 #[v] w S fun v L => v = .bool false ∧ L = [] := by
  refine Trip.of_x (L := []) Tryz.func26 (by kernel_rfl) rfl Tryz.ntmps26 Tryz.results26 rfl (ctx_ok _) trivial hd ?_
  rcases h with rfl | ⟨b, rfl, h⟩
  · refine ⟨_, neq_nn Tryz.underlying24, ?_⟩
    refine ⟨fun h => (by cases h), fun _ => ?_⟩
    exact ⟨_, .refl _, rfl, rfl⟩
  · refine ⟨_, neq_sn Tryz.underlying24, ?_⟩
    refine ⟨fun _ => ?_, fun h => by cases h⟩
    refine ⟨_, .load1 rfl (.roPt h rfl), ?_⟩
    exact ⟨_, .refl _, rfl, rfl⟩
theorem srunning_no (v p : Value) (w : World) (S : FP) (h : NoSys w S v) (hd : ∀ b, S b → b < w.heap.size) : Trip Tryz.prog 24 #[v, p] w S fun v L => v = .tuple ⟨[.pointer none, .int .i64 5]⟩ ∧ L = [] := by
  refine Trip.of_x (L := []) Tryz.func24 (by kernel_rfl) rfl Tryz.ntmps24 Tryz.results24 rfl (ctx_ok _) trivial hd ?_
  refine callP [] (fun w S hR _ _ hd => smade_no v w S (h.mono hR) hd) ?_
  rintro _ _ ⟨rfl, rfl⟩
  refine ⟨fun _ => ?_, fun h => by cases h⟩
  exact ⟨_, .refl _, rfl, rfl⟩
theorem sthread_no (v p t : Value) (w : World) (S : FP) (h : NoSys w S v) (hd : ∀ b, S b → b < w.heap.size) : Trip Tryz.prog 17 #[v, p, t] w S fun v L => v = .tuple ⟨[.pointer none, .int .i64 5]⟩ ∧ L = [] := by
  refine Trip.of_x (L := []) Tryz.func17 (by kernel_rfl) rfl Tryz.ntmps17 Tryz.results17 rfl (ctx_ok _) trivial hd ?_
  refine callP [] (fun w S hR _ _ hd => srunning_no v _ w S (h.mono hR) hd) ?_
  rintro _ _ ⟨rfl, rfl⟩
  refine ⟨fun _ => ?_, fun h => by cases h⟩
  exact ⟨_, .refl _, rfl, rfl⟩
theorem sis_no (v p : Value) (w : World) (S : FP) (h : NoSys w S v) (hd : ∀ b, S b → b < w.heap.size) : Trip Tryz.prog 27 #[v, p] w S fun v L => v = .bool false ∧ L = [] := by
  refine Trip.of_x (L := []) Tryz.func27 (by kernel_rfl) rfl Tryz.ntmps27 Tryz.results27 rfl (ctx_ok _) trivial hd ?_
  refine callP [] (fun w S hR _ _ hd => smade_no v w S (h.mono hR) hd) ?_
  rintro _ _ ⟨rfl, rfl⟩
  refine ⟨fun h => (by cases h), fun _ => ?_⟩
  refine ⟨fun h => (by cases h), fun _ => ?_⟩
  exact ⟨_, .refl _, rfl, rfl⟩
theorem s_exit_no (v p t : Value) (w : World) (S : FP) (h : NoSys w S v) (hd : ∀ b, S b → b < w.heap.size) : Trip Tryz.prog 10 #[v, p, t] w S fun v L => v = .int .i64 5 ∧ L = [] := by
  refine Trip.of_x (L := []) Tryz.func10 (by kernel_rfl) rfl Tryz.ntmps10 Tryz.results10 rfl (ctx_ok _) trivial hd ?_
  refine callP [] (fun w S hR _ _ hd => sthread_no v _ _ w S (h.mono hR) hd) ?_
  rintro _ _ ⟨rfl, rfl⟩
  refine ⟨fun _ => ?_, fun h => by cases h⟩
  exact ⟨_, .refl _, rfl, rfl⟩
theorem s_fork_no (v p t : Value) (w : World) (S : FP) (h : NoSys w S v) (hd : ∀ b, S b → b < w.heap.size) : Trip Tryz.prog 6 #[v, p, t] w S fun v L => v = .tuple ⟨[.int .i64 0, .int .i64 5]⟩ ∧ L = [] := by
  refine Trip.of_x (L := []) Tryz.func6 (by kernel_rfl) rfl Tryz.ntmps6 Tryz.results6 rfl (ctx_ok _) trivial hd ?_
  refine callP [] (fun w S hR _ _ hd => sthread_no v _ _ w S (h.mono hR) hd) ?_
  rintro _ _ ⟨rfl, rfl⟩
  refine ⟨fun _ => ?_, fun h => by cases h⟩
  exact ⟨_, .refl _, rfl, rfl⟩
theorem s_end_no (v p : Value) (w : World) (S : FP) (h : NoSys w S v) (hd : ∀ b, S b → b < w.heap.size) : Trip Tryz.prog 7 #[v, p] w S fun v L => v = .tuple ⟨[.slice none 0 0, .int .i64 5]⟩ ∧ L = [] := by
  refine Trip.of_x (L := []) Tryz.func7 (by kernel_rfl) rfl Tryz.ntmps7 Tryz.results7 rfl (ctx_ok _) trivial hd ?_
  refine callP [] (fun w S hR _ _ hd => srunning_no v _ w S (h.mono hR) hd) ?_
  rintro _ _ ⟨rfl, rfl⟩
  refine ⟨fun _ => ?_, fun h => by cases h⟩
  exact ⟨_, .refl _, rfl, rfl⟩
theorem s_running_no (v : Value) (w : World) (S : FP) (h : NoSys w S v) (hd : ∀ b, S b → b < w.heap.size) : Trip Tryz.prog 11 #[v] w S fun v L => v = .slice none 0 0 ∧ L = [] := by
  refine Trip.of_x (L := []) Tryz.func11 (by kernel_rfl) rfl Tryz.ntmps11 Tryz.results11 rfl (ctx_ok _) trivial hd ?_
  refine callP [] (fun w S hR _ _ hd => smade_no v w S (h.mono hR) hd) ?_
  rintro _ _ ⟨rfl, rfl⟩
  refine ⟨fun _ => ?_, fun h => by cases h⟩
  exact ⟨_, .refl _, rfl, rfl⟩
theorem s_threads_no (v p : Value) (w : World) (S : FP) (h : NoSys w S v) (hd : ∀ b, S b → b < w.heap.size) : Trip Tryz.prog 12 #[v, p] w S fun v L => v = .slice none 0 0 ∧ L = [] := by
  refine Trip.of_x (L := []) Tryz.func12 (by kernel_rfl) rfl Tryz.ntmps12 Tryz.results12 rfl (ctx_ok _) trivial hd ?_
  refine callP [] (fun w S hR _ _ hd => srunning_no v _ w S (h.mono hR) hd) ?_
  rintro _ _ ⟨rfl, rfl⟩
  refine ⟨fun _ => ?_, fun h => by cases h⟩
  exact ⟨_, .refl _, rfl, rfl⟩
theorem s_parent_no (v p : Value) (w : World) (S : FP) (h : NoSys w S v) (hd : ∀ b, S b → b < w.heap.size) : Trip Tryz.prog 13 #[v, p] w S fun v L => v = .int .i64 (-1) ∧ L = [] := by
  refine Trip.of_x (L := []) Tryz.func13 (by kernel_rfl) rfl Tryz.ntmps13 Tryz.results13 rfl (ctx_ok _) trivial hd ?_
  refine callP [] (fun w S hR _ _ hd => sis_no v _ w S (h.mono hR) hd) ?_
  rintro _ _ ⟨rfl, rfl⟩
  refine ⟨fun _ => ?_, fun h => by cases h⟩
  exact ⟨_, .refl _, rfl, rfl⟩
theorem s_heap_no (v p : Value) (w : World) (S : FP) (h : NoSys w S v) (hd : ∀ b, S b → b < w.heap.size) : Trip Tryz.prog 14 #[v, p] w S fun v L => v = .pointer none ∧ L = [] := by
  refine Trip.of_x (L := []) Tryz.func14 (by kernel_rfl) rfl Tryz.ntmps14 Tryz.results14 rfl (ctx_ok _) trivial hd ?_
  refine callP [] (fun w S hR _ _ hd => sis_no v _ w S (h.mono hR) hd) ?_
  rintro _ _ ⟨rfl, rfl⟩
  refine ⟨fun _ => ?_, fun h => by cases h⟩
  exact ⟨_, .refl _, rfl, rfl⟩
theorem s_clone_no (v : Value) (w : World) (S : FP) (h : NoSys w S v) (hd : ∀ b, S b → b < w.heap.size) : Trip Tryz.prog 15 #[v] w S fun v L => v = .pointer none ∧ L = [] := by
  refine Trip.of_x (L := []) Tryz.func15 (by kernel_rfl) rfl Tryz.ntmps15 Tryz.results15 rfl (ctx_ok _) trivial hd ?_
  refine callP [] (fun w S hR _ _ hd => smade_no v w S (h.mono hR) hd) ?_
  rintro _ _ ⟨rfl, rfl⟩
  refine ⟨fun _ => ?_, fun h => by cases h⟩
  exact ⟨_, .refl _, rfl, rfl⟩
theorem s_shared_no (v p q : Value) (w : World) (S : FP) (h : NoSys w S v) (hd : ∀ b, S b → b < w.heap.size) : Trip Tryz.prog 8 #[v, p, q] w S fun v L => v = .tuple ⟨[.int .i64 0, .int .i64 5]⟩ ∧ L = [] := by
  refine Trip.of_x (L := []) Tryz.func8 (by kernel_rfl) rfl Tryz.ntmps8 Tryz.results8 rfl (ctx_ok _) trivial hd ?_
  refine callP [] (fun w S hR _ _ hd => smade_no v w S (h.mono hR) hd) ?_
  rintro _ _ ⟨rfl, rfl⟩
  refine ⟨fun _ => ?_, fun h => by cases h⟩
  exact ⟨_, .refl _, rfl, rfl⟩
theorem s_start_no (v p t o1 o2 o3 o4 : Value) (w : World) (S : FP) (h : NoSys w S v) (hd : ∀ b, S b → b < w.heap.size) : Trip Tryz.prog 9 #[v, p, t, .agg ⟨[o1, o2, o3, o4]⟩] w S fun v L => v = .int .i64 5 ∧ L = [] := by
  refine Trip.of_x (L := []) Tryz.func9 (by kernel_rfl) rfl Tryz.ntmps9 Tryz.results9 rfl (ctx_ok _) trivial hd ?_
  intro b0
  refine callP [] (fun w S hR _ _ hd => sthread_no v _ _ w S (h.mono hR) hd) ?_
  rintro _ _ ⟨rfl, rfl⟩
  refine ⟨fun _ => ?_, fun h => by cases h⟩
  exact ⟨_, .pick [], rfl, rfl⟩
theorem s_step_no (v p t : Value) (w : World) (S : FP) (h : NoSys w S v) (hd : ∀ b, S b → b < w.heap.size) : Trip Tryz.prog 4 #[v, p, t] w S fun v L => v = .tuple ⟨[.bool false, .agg ⟨ty30.zero⟩, .int .i64 5]⟩ ∧ L = [] := by
  refine Trip.of_x (L := []) Tryz.func4 (by kernel_rfl) rfl Tryz.ntmps4 Tryz.results4 rfl (ctx_ok _) trivial hd ?_
  intro b
  refine callP [] (fun w S hR _ _ hd => sthread_no v _ _ w S (h.mono hR) hd) ?_
  rintro _ _ ⟨rfl, rfl⟩
  refine ⟨fun _ => ?_, fun h => by cases h⟩
  refine st 0 rfl rfl rfl rfl rfl ?_
  exact ⟨_, .var (ldA 0 rfl rfl rfl rfl rfl), _, .pick [], rfl, rfl⟩
theorem s_do_no (v p t o1 o2 o3 o4 : Value) (w : World) (S : FP) (h : NoSys w S v) (hd : ∀ b, S b → b < w.heap.size) : Trip Tryz.prog 5 #[v, p, t, .agg ⟨[o1, o2, o3, o4]⟩] w S fun v L => v = .tuple ⟨[.agg ⟨ty30.zero⟩, .int .i64 5]⟩ ∧ L = [] := by
  refine Trip.of_x (L := []) Tryz.func5 (by kernel_rfl) rfl Tryz.ntmps5 Tryz.results5 rfl (ctx_ok _) trivial hd ?_
  intro b0 b
  refine ⟨_, ldA 1 rfl rfl rfl rfl rfl, ?_⟩
  refine callP [] (fun w S hR _ _ hd => s_start_no v _ _ _ _ _ _ w S (h.mono hR) hd) ?_
  rintro _ _ ⟨rfl, rfl⟩
  refine ⟨fun _ => ?_, fun h => by cases h⟩
  refine st 0 rfl rfl rfl rfl rfl ?_
  exact ⟨_, .var (ldA 0 rfl rfl rfl rfl rfl), _, .pick [], rfl, rfl⟩
end Go.Proofs.YtbingohaiippeabGreatDoor

/- ProcessNone: the law, walked. -/
namespace Go.Proofs.YtbingohaiippeabGreatDoor
open Go.X Go.Y
set_option maxRecDepth 10000
set_option linter.unusedVariables false
set_option linter.unusedSimpArgs false

theorem res0_eq {n : Nat} {w : World} {S : FP} {L : List Chunk} {x y : Operand} : RunsTo ⟨Tryz.prog, tab, n, w, S⟩ L (do eqGuard .eql 30 x y (.agg ⟨ty30.zero⟩) (.agg ⟨ty30.zero⟩); binOp .eql 30 (.agg ⟨ty30.zero⟩) (.agg ⟨ty30.zero⟩)) (.bool true) :=
  CmpOk.eql (C := ⟨Tryz.prog, tab, n, w, S⟩) (t := 30) (z := yt30.zero) (l := yt30.zero) (m := yt30.zero) cmp30 (by kernel_rfl) (by kernel_rfl) (plain_vrl (by kernel_rfl)) (plain_vrl (by kernel_rfl))
theorem none_spec (G : Chunk) (hA : ∀ w S, RO w S G → Trip Tryz.prog 16 #[] w S fun v L => v = .bool true ∧ L = []) (p t o1 o2 o3 o4 : Value) (b : Bool) (w : World) (S : FP) (hG : RO w S G) (hd : ∀ b, S b → b < w.heap.size) :
    Trip Tryz.prog 3 #[p, t, .agg ⟨[o1, o2, o3, o4]⟩, .bool b] w S fun v L => v = .bool true ∧ L = [] := by
  refine Trip.of_x (L := []) Tryz.func3 (by kernel_rfl) rfl Tryz.ntmps3 Tryz.results3 rfl (ctx_ok _) trivial hd ?_
  intro bo bs
  refine ⟨fun hn => ?_, fun hn => ?_⟩
  · refine callP [] (fun w S hR hB _ hd => s_step_no _ _ _ w S (.inl rfl) hd) ?_
    rintro _ _ ⟨rfl, rfl⟩
    intro b1
    refine st 0 rfl rfl rfl rfl rfl ?_
    refine ⟨_, ldA 2 rfl rfl rfl rfl rfl, ?_⟩
    refine callP [] (fun w S hR hB _ hd => s_do_no _ _ _ _ _ _ _ w S (.inl rfl) hd) ?_
    rintro _ _ ⟨rfl, rfl⟩
    intro b2
    refine st 0 rfl rfl rfl rfl rfl ?_
    refine callP [] (fun w S hR hB _ hd => s_fork_no _ _ _ w S (.inl rfl) hd) ?_
    rintro _ _ ⟨rfl, rfl⟩
    refine callP [] (fun w S hR hB _ hd => s_end_no _ _ w S (.inl rfl) hd) ?_
    rintro _ _ ⟨rfl, rfl⟩
    refine callP [] (fun w S hR hB _ hd => s_shared_no _ _ _ w S (.inl rfl) hd) ?_
    rintro _ _ ⟨rfl, rfl⟩
    refine ⟨_, ldA 3 rfl rfl rfl rfl rfl, ?_⟩
    refine callP [] (fun w S hR hB _ hd => s_start_no _ _ _ _ _ _ _ w S (.inl rfl) hd) ?_
    rintro _ _ ⟨rfl, rfl⟩
    repeat (refine ⟨fun _ => ?_, fun h => (by first | (cases h; done) | (simp at h; done))⟩)
    refine ⟨_, ldA 1 rfl rfl rfl rfl rfl, ?_⟩
    refine ⟨_, res0_eq, ?_⟩
    repeat (refine ⟨fun _ => ?_, fun h => (by first | (cases h; done) | (simp at h; done))⟩)
    refine ⟨_, ldA 0 rfl rfl rfl rfl rfl, ?_⟩
    refine ⟨_, res0_eq, ?_⟩
    repeat (refine ⟨fun _ => ?_, fun h => (by first | (cases h; done) | (simp at h; done))⟩)
    refine callP [] (fun w S hR hB _ hd => s_exit_no _ _ _ w S (.inl rfl) hd) ?_
    rintro _ _ ⟨rfl, rfl⟩
    repeat (refine ⟨fun _ => ?_, fun h => (by first | (cases h; done) | (simp at h; done))⟩)
    refine callP [] (fun w S hR hB _ hd => s_running_no _ w S (.inl rfl) hd) ?_
    rintro _ _ ⟨rfl, rfl⟩
    repeat (refine ⟨fun _ => ?_, fun h => (by first | (cases h; done) | (simp at h; done))⟩)
    refine callP [] (fun w S hR hB _ hd => s_threads_no _ _ w S (.inl rfl) hd) ?_
    rintro _ _ ⟨rfl, rfl⟩
    repeat (refine ⟨fun _ => ?_, fun h => (by first | (cases h; done) | (simp at h; done))⟩)
    refine callP [] (fun w S hR hB _ hd => s_parent_no _ _ w S (.inl rfl) hd) ?_
    rintro _ _ ⟨rfl, rfl⟩
    repeat (refine ⟨fun _ => ?_, fun h => (by first | (cases h; done) | (simp at h; done))⟩)
    refine callP [] (fun w S hR hB _ hd => s_heap_no _ _ w S (.inl rfl) hd) ?_
    rintro _ _ ⟨rfl, rfl⟩
    refine ⟨_, eql_nn Tryz.underlying46, ?_⟩
    repeat (refine ⟨fun _ => ?_, fun h => (by first | (cases h; done) | (simp at h; done))⟩)
    refine callP [] (fun w S hR hB _ hd => s_clone_no _ w S (.inl rfl) hd) ?_
    rintro _ _ ⟨rfl, rfl⟩
    refine ⟨_, eql_nn Tryz.underlying24, ?_⟩
    repeat (refine ⟨fun _ => ?_, fun h => (by first | (cases h; done) | (simp at h; done))⟩)
    refine callP [] (fun w S hR _ _ hd => hA w S (hR _ hG)) ?_
    rintro _ _ ⟨rfl, rfl⟩
    exact ⟨_, .pick [], rfl, rfl⟩
  · refine callP [] (fun w S hR hB _ hd => s_step_no _ _ _ w S (.inr ⟨_, rfl, hB _ (lget_mem (i := 0) rfl)⟩) hd) ?_
    rintro _ _ ⟨rfl, rfl⟩
    intro b1
    refine st 0 rfl rfl rfl rfl rfl ?_
    refine ⟨_, ldA 2 rfl rfl rfl rfl rfl, ?_⟩
    refine callP [] (fun w S hR hB _ hd => s_do_no _ _ _ _ _ _ _ w S (.inr ⟨_, rfl, hB _ (lget_mem (i := 1) rfl)⟩) hd) ?_
    rintro _ _ ⟨rfl, rfl⟩
    intro b2
    refine st 0 rfl rfl rfl rfl rfl ?_
    refine callP [] (fun w S hR hB _ hd => s_fork_no _ _ _ w S (.inr ⟨_, rfl, hB _ (lget_mem (i := 2) rfl)⟩) hd) ?_
    rintro _ _ ⟨rfl, rfl⟩
    refine callP [] (fun w S hR hB _ hd => s_end_no _ _ w S (.inr ⟨_, rfl, hB _ (lget_mem (i := 2) rfl)⟩) hd) ?_
    rintro _ _ ⟨rfl, rfl⟩
    refine callP [] (fun w S hR hB _ hd => s_shared_no _ _ _ w S (.inr ⟨_, rfl, hB _ (lget_mem (i := 2) rfl)⟩) hd) ?_
    rintro _ _ ⟨rfl, rfl⟩
    refine ⟨_, ldA 3 rfl rfl rfl rfl rfl, ?_⟩
    refine callP [] (fun w S hR hB _ hd => s_start_no _ _ _ _ _ _ _ w S (.inr ⟨_, rfl, hB _ (lget_mem (i := 2) rfl)⟩) hd) ?_
    rintro _ _ ⟨rfl, rfl⟩
    repeat (refine ⟨fun _ => ?_, fun h => (by first | (cases h; done) | (simp at h; done))⟩)
    refine ⟨_, ldA 1 rfl rfl rfl rfl rfl, ?_⟩
    refine ⟨_, res0_eq, ?_⟩
    repeat (refine ⟨fun _ => ?_, fun h => (by first | (cases h; done) | (simp at h; done))⟩)
    refine ⟨_, ldA 0 rfl rfl rfl rfl rfl, ?_⟩
    refine ⟨_, res0_eq, ?_⟩
    repeat (refine ⟨fun _ => ?_, fun h => (by first | (cases h; done) | (simp at h; done))⟩)
    refine callP [] (fun w S hR hB _ hd => s_exit_no _ _ _ w S (.inr ⟨_, rfl, hB _ (lget_mem (i := 2) rfl)⟩) hd) ?_
    rintro _ _ ⟨rfl, rfl⟩
    repeat (refine ⟨fun _ => ?_, fun h => (by first | (cases h; done) | (simp at h; done))⟩)
    refine callP [] (fun w S hR hB _ hd => s_running_no _ w S (.inr ⟨_, rfl, hB _ (lget_mem (i := 2) rfl)⟩) hd) ?_
    rintro _ _ ⟨rfl, rfl⟩
    repeat (refine ⟨fun _ => ?_, fun h => (by first | (cases h; done) | (simp at h; done))⟩)
    refine callP [] (fun w S hR hB _ hd => s_threads_no _ _ w S (.inr ⟨_, rfl, hB _ (lget_mem (i := 2) rfl)⟩) hd) ?_
    rintro _ _ ⟨rfl, rfl⟩
    repeat (refine ⟨fun _ => ?_, fun h => (by first | (cases h; done) | (simp at h; done))⟩)
    refine callP [] (fun w S hR hB _ hd => s_parent_no _ _ w S (.inr ⟨_, rfl, hB _ (lget_mem (i := 2) rfl)⟩) hd) ?_
    rintro _ _ ⟨rfl, rfl⟩
    repeat (refine ⟨fun _ => ?_, fun h => (by first | (cases h; done) | (simp at h; done))⟩)
    refine callP [] (fun w S hR hB _ hd => s_heap_no _ _ w S (.inr ⟨_, rfl, hB _ (lget_mem (i := 2) rfl)⟩) hd) ?_
    rintro _ _ ⟨rfl, rfl⟩
    refine ⟨_, eql_nn Tryz.underlying46, ?_⟩
    repeat (refine ⟨fun _ => ?_, fun h => (by first | (cases h; done) | (simp at h; done))⟩)
    refine callP [] (fun w S hR hB _ hd => s_clone_no _ w S (.inr ⟨_, rfl, hB _ (lget_mem (i := 2) rfl)⟩) hd) ?_
    rintro _ _ ⟨rfl, rfl⟩
    refine ⟨_, eql_nn Tryz.underlying24, ?_⟩
    repeat (refine ⟨fun _ => ?_, fun h => (by first | (cases h; done) | (simp at h; done))⟩)
    refine callP [] (fun w S hR _ _ hd => hA w S (hR _ hG)) ?_
    rintro _ _ ⟨rfl, rfl⟩
    exact ⟨_, .pick [], rfl, rfl⟩
end Go.Proofs.YtbingohaiippeabGreatDoor
