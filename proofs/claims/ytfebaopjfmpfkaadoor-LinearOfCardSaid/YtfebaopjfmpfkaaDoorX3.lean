/- The symbolic executor's value operations are sound: what XV asks suffices. -/
import Derived.Test.YtfebaopjfmpfkaaDoorX2
namespace Go.X
set_option linter.unusedVariables false
set_option linter.unusedSimpArgs false

theorem ok_andThen {α β : Type} {r : Result α} {a : α} {w : World} {f : α → World → Result β} (h : r = .ok a w) : r.andThen f = f a w := by rw [h]; rfl

theorem TyOk.und {P : Program} {t : TypeId} {i : TyI} (h : TyOk P t i) : ∃ d, P.underlying t = some d ∧ kOk d i.k := by
  obtain ⟨d, inf, z, h1, _, _, _, _, _, h2⟩ := h; exact ⟨d, h1, h2⟩
theorem TyOk.info {P : Program} {t : TypeId} {i : TyI} (h : TyOk P t i) : ∃ inf z, P.info? t = some inf ∧ inf.size = i.size ∧ inf.bytes = i.bytes ∧ inf.zero = some z ∧ z.cells = i.zero.toArray := by
  obtain ⟨d, inf, z, _, h2, h3, h4, h5, h6, _⟩ := h; exact ⟨inf, z, h2, h3, h4, h5, by rw [← h6]⟩
theorem run_underlying' {P : Program} {w : World} {t : TypeId} {d : TypeDesc} (h : P.underlying t = some d) : (underlying t).run P w = .ok d w := by simp [underlying, h]
theorem run_sizeOf' {P : Program} {w : World} {t : TypeId} {i : TyI} (h : TyOk P t i) : (sizeOf t).run P w = .ok i.size w := by
  obtain ⟨inf, z, h1, h2, _⟩ := h.info
  simp [sizeOf, typeInfo, h1, h2]
theorem run_zero' {P : Program} {w : World} {t : TypeId} {i : TyI} (h : TyOk P t i) : ∃ z, (zeroValue t).run P w = .ok z w ∧ z.cells = i.zero.toArray := by
  obtain ⟨inf, z, h1, h2, _, h4, h5⟩ := h.info
  exact ⟨z, by simp [zeroValue, typeInfo, h1, h4], h5⟩

theorem kOk.slice {d : TypeDesc} {e : TypeId} (h : kOk d (.slice e)) : d = .slice e := by cases d <;> simp_all [kOk]
theorem kOk.array {d : TypeDesc} {n e : Nat} (h : kOk d (.array n e)) : d = .array n e := by cases d <;> simp_all [kOk]
theorem kOk.int {d : TypeDesc} {k : IntKind} (h : kOk d (.int k)) : d = .int k := by cases d <;> simp_all [kOk]
theorem kOk.bool {d : TypeDesc} (h : kOk d .bool) : d = .bool := by cases d <;> simp_all [kOk]
theorem kOk.map {d : TypeDesc} {k e : Nat} (h : kOk d (.map k e)) : d = .map k e := by cases d <;> simp_all [kOk]
theorem kOk.struct {d : TypeDesc} {l : List (Nat × Nat)} (h : kOk d (.struct l)) : ∃ fs, d = .struct fs ∧ fs.toList.map (fun f => (f.offset, f.type)) = l := by cases d <;> simp_all [kOk]

theorem run_isAgg' {P : Program} {tab : Tab} (hT : TabOk P tab) {w : World} {t : TypeId} {b : Bool} (h : aggOf tab t = some b) : (isAgg t).run P w = .ok b w := by
  unfold aggOf at h
  split at h
  · rename_i hh; cases h
    obtain ⟨d, hd, hk⟩ := (hT.get hh).und
    obtain ⟨fs, rfl, _⟩ := kOk.struct hk
    simp [isAgg, run_underlying' hd]
  · rename_i hh; cases h
    obtain ⟨d, hd, hk⟩ := (hT.get hh).und
    obtain rfl := kOk.array hk
    simp [isAgg, run_underlying' hd]
  · rename_i i hs ha hh; cases h
    obtain ⟨d, hd, hk⟩ := (hT.get hh).und
    obtain ⟨k, _, _, _⟩ := i
    cases k <;> cases d <;> simp [kOk] at hk <;> first | (simp [isAgg, run_underlying' hd]; done) | (exact absurd rfl (ha _ _ _ _ _)) | (exact absurd rfl (hs _ _ _ _))
  · cases h

theorem lget_fields {fs : Array Field} {l : List (Nat × Nat)} (h : fs.toList.map (fun f => (f.offset, f.type)) = l) {i off ft : Nat} (hi : lget l i = some (off, ft)) :
    ∃ f, fs[i]? = some f ∧ f.offset = off ∧ f.type = ft := by
  rw [lget_eq, ← h, List.getElem?_map] at hi
  cases hf : fs.toList[i]? with
  | none => simp [hf] at hi
  | some f => simp [hf] at hi; exact ⟨f, by simpa using hf, hi.1, hi.2⟩

theorem over_length : ∀ (l : List Value) (i : Nat) (vs : List Value), (over l i vs).length = l.length
  | l, _, [] => by simp [over]
  | [], _, _ :: _ => by simp [over]
  | _ :: l, 0, v :: vs => by simp [over, over_length l 0 vs]
  | a :: l, i + 1, v :: vs => by simp [over, over_length l i (v :: vs)]

theorem over_foldl : ∀ (vs : List Value) (l : List Value) (i k : Nat),
    ((vs.zipIdx k).foldl (fun cs (x : Value × Nat) => cs.setIfInBounds (i + x.2) x.1) l.toArray) = (over l (i + k) vs).toArray := by
  have key : ∀ (v : Value) (vs l : List Value) (j : Nat), over (l.set j v) (j + 1) vs = over l j (v :: vs) := by
    intro v vs l
    induction l with
    | nil => intro j; cases vs <;> simp [over]
    | cons a l ih =>
      intro j
      cases j with
      | zero => cases vs <;> simp [over]
      | succ j =>
        cases vs with
        | nil => simp only [List.set_cons_succ, over]; have := ih j; simp only [over] at this; rw [this]
        | cons u vs => simp only [List.set_cons_succ, over]; rw [ih j]
  intro vs
  induction vs with
  | nil => intro l i k; simp [over]
  | cons v vs ih =>
    intro l i k
    simp only [List.zipIdx_cons, List.foldl_cons]
    have hs : l.toArray.setIfInBounds (i + k) v = (l.set (i + k) v).toArray := by simp
    rw [hs, ih (l.set (i + k) v) i (k + 1), ← key v vs l (i + k)]
    rfl

theorem fill_ok {tab : Tab} {P : Program} (hT : TabOk P tab) {fs : List (Nat × Nat)} {places : Array (Nat × Nat)}
    (hp : ∀ i off ft ti, lget fs i = some (off, ft) → tget tab ft = some ti → places[i]? = some (off, ti.size)) :
    ∀ (parts : List (Nat × Value)) (cs : List Value) (K : List Value → Prop), buildX tab fs K parts cs → ∃ cs', Instr.fill (places[·]?) cs.toArray parts = some cs'.toArray ∧ K cs'
  | [], cs, K, h => ⟨cs, rfl, forceL_out h⟩
  | (i, v) :: r, cs, K, h => by
    have h : (match lget fs i with | some (off, ft) => (match tget tab ft with | some ti => (cellsL v).length = ti.size ∧ off + ti.size ≤ cs.length ∧ buildX tab fs K r (over cs off (cellsL v)) | none => False) | none => False) := h
    split at h
    · rename_i off ft hl
      split at h
      · rename_i ti ht
        obtain ⟨h1, h2, h3⟩ := h
        obtain ⟨cs', hf, hk⟩ := fill_ok hT hp r _ K h3
        refine ⟨cs', ?_, hk⟩
        simp only [Instr.fill, hp i off ft ti hl ht]
        have hsz : v.cells.size = ti.size := by rw [cellsL_eq]; simpa using h1
        rw [if_neg (by simp [hsz]; omega)]
        have := over_foldl (cellsL v) cs off 0
        rw [cellsL_eq v]
        rw [← Array.foldl_toList, Array.toList_zipIdx]
        show Instr.fill _ (((cellsL v).zipIdx).foldl (fun cs (x : Value × Nat) => cs.setIfInBounds (off + x.2) x.1) cs.toArray) r = _
        rw [this]
        simpa using hf
      · exact h.elim
    · exact h.elim

theorem places_ok {P : Program} {tab : Tab} (hT : TabOk P tab) {w : World} : ∀ (fs : List Field), (∀ f ∈ fs, ∃ ti, tget tab f.type = some ti) →
    ∃ ps : List (Nat × Nat), (fs.mapM fun f => (do pure (f.offset, ← sizeOf f.type) : Sem (Nat × Nat))).run P w = .ok ps w ∧
      ∀ (i : Nat) (f : Field) (ti : TyI), fs[i]? = some f → tget tab f.type = some ti → ps[i]? = some (f.offset, ti.size)
  | [], _ => ⟨[], by simp, by simp⟩
  | f :: fs, h => by
    obtain ⟨ti, ht⟩ := h f (by simp)
    obtain ⟨ps, h1, h2⟩ := places_ok (w := w) hT fs fun g hg => h g (by simp [hg])
    refine ⟨(f.offset, ti.size) :: ps, ?_, ?_⟩
    · have hs := run_sizeOf' (w := w) (hT.get ht)
      simp only [List.mapM_cons, Sem.run_bind, hs, h1, Result.andThen_ok, Sem.run_pure]
    · intro i g tj hi hj
      cases i with
      | zero => simp at hi; subst hi; rw [ht] at hj; cases hj; rfl
      | succ i => simpa using h2 i g tj (by simpa using hi) hj

end Go.X
