/- Regions whose order is drawn, the last operation of which comes behind all others: the others only read (or call what only reads), the last one does what it likes. -/
import Derived.Test.YtfebaopjfmpfkaaDoorX5
namespace Go.X
set_option linter.unusedVariables false
set_option linter.unusedSimpArgs false

def depsOf (o : Oper) : List Nat := (o.after.toList.filter fun e => Region.binds .any e).map (·.on)
/-- Are all numbers below i among those that S leads to? -/
def sweep (ops : List Oper) : Nat → List Nat → Bool
  | 0, _ => true
  | i + 1, S => S.contains i && sweep ops i (S ++ ((ops[i]?).map depsOf).getD [])
/-- Edges lead to smaller numbers; guards, too. -/
def backB : List Oper → Nat → Bool
  | [], _ => true
  | o :: os, k => (depsOf o).all (· < k) && (match o.guard with | some (j, _) => decide (j < k) | none => true) && backB os (k + 1)
def tailB (pre : List Oper) (last : Oper) : Bool := backB (pre ++ [last]) 0 && sweep pre pre.length (depsOf last)

theorem backB_spec : ∀ {l : List Oper} {k : Nat}, backB l k = true → ∀ i o, l[i]? = some o → (∀ j ∈ depsOf o, j < k + i) ∧ ∀ j b, o.guard = some (j, b) → j < k + i
  | [], _, _, i, o, h => by simp at h
  | x :: l, k, hb, i, o, h => by
    simp only [backB, Bool.and_eq_true] at hb
    obtain ⟨⟨h1, h2⟩, h3⟩ := hb
    cases i with
    | zero =>
      simp at h; subst h
      refine ⟨fun j hj => by have := (List.all_eq_true.1 h1) j hj; simpa using this, fun j b hg => ?_⟩
      rw [hg] at h2; exact of_decide_eq_true h2 |> fun h => by omega
    | succ i =>
      have := backB_spec h3 i o (by simpa using h)
      exact ⟨fun j hj => by have := this.1 j hj; omega, fun j b hg => by have := this.2 j b hg; omega⟩

def okAt (o : Oper) (listed : Array Bool) : Bool := o.after.all fun e => !Region.binds .any e || listed.getD e.on false
theorem okAt_iff {o : Oper} {listed : Array Bool} : okAt o listed = true ↔ ∀ j ∈ depsOf o, listed.getD j false = true := by
  unfold okAt depsOf
  rw [← Array.all_toList, List.all_eq_true]
  constructor
  · intro h j hj
    obtain ⟨e, he, rfl⟩ := List.mem_map.1 hj
    obtain ⟨he1, he2⟩ := List.mem_filter.1 he
    simpa [he2] using h e he1
  · intro h e he
    cases hb : Region.binds .any e with
    | false => rfl
    | true => simpa using h e.on (List.mem_map.2 ⟨e, List.mem_filter.2 ⟨he, hb⟩, rfl⟩)
theorem mem_ready {ops : Array Oper} {listed : Array Bool} {i : Nat} : i ∈ Region.ready .any ops listed ↔ ∃ o, ops[i]? = some o ∧ listed.getD i true = false ∧ okAt o listed = true := by
  unfold Region.ready
  rw [List.mem_filter, List.mem_range]
  constructor
  · rintro ⟨h1, h2⟩
    cases ho : ops[i]? with
    | none => simp at ho; omega
    | some o => simp [ho] at h2; exact ⟨o, rfl, by simpa using h2.1, by unfold okAt; simpa using h2.2⟩
  · rintro ⟨o, ho, h2, h3⟩
    refine ⟨?_, ?_⟩
    · obtain ⟨hlt, _⟩ := Array.getElem?_eq_some_iff.1 ho; exact hlt
    · unfold okAt at h3
      rw [ho, h2]
      simpa only [Option.map_some, Option.getD_some, Bool.not_false, Bool.true_and] using h3

theorem ready_all {ops : Array Oper} {listed : Array Bool} (hs : listed.size = ops.size) (hb : backB ops.toList 0 = true) (hr : Region.ready .any ops listed = []) : ∀ i, i < ops.size → listed.getD i true = true := by
  intro i
  induction i using Nat.strongRecOn with
  | _ i ih =>
    intro hi
    cases hl : listed.getD i true with
    | true => rfl
    | false =>
      exfalso
      have ho : ops[i]? = some ops[i] := by simp [hi]
      have hmem : i ∈ Region.ready .any ops listed := mem_ready.2 ⟨_, ho, hl, okAt_iff.2 fun j hj => by
        have hlt := (backB_spec hb i ops[i] (by simp [hi])).1 j hj
        have := ih j (by omega) (by omega)
        simpa [Array.getD, show j < listed.size by omega] using this⟩
      rw [hr] at hmem
      cases hmem

section
variable {P : Program} {C : World → Prop} {pre : List Oper} {last : Oper}

structure Tl (pre : List Oper) (last : Oper) (listed pl : Array Bool) : Prop where
  s1 : listed.size = pre.length + 1
  s2 : pl.size = pre.length
  same : ∀ i, i < pre.length → listed.getD i true = pl.getD i true
  sameF : ∀ i, i < pre.length → listed.getD i false = pl.getD i false
  lastF : listed.getD pre.length true = false
  closed : ∀ (i : Nat) (o : Oper), pre[i]? = some o → pl.getD i false = true → okAt o pl = true

theorem getD_tf {l : Array Bool} {i : Nat} (h : i < l.size) : l.getD i true = l.getD i false := by simp [Array.getD, h]

theorem sweep_all {pl : Array Bool} (hc : ∀ (i : Nat) (o : Oper), pre[i]? = some o → pl.getD i false = true → okAt o pl = true) :
    ∀ (i : Nat) (S : List Nat), i ≤ pre.length → sweep pre i S = true → (∀ j ∈ S, pl.getD j false = true) → ∀ j, j < i → pl.getD j false = true
  | 0, _, _, _, _, j, hj => by omega
  | i + 1, S, hi, h, hS, j, hj => by
    simp only [sweep, Bool.and_eq_true] at h
    have hi' : pl.getD i false = true := hS i (by simpa using h.1)
    have ho : pre[i]? = some pre[i] := by simp [show i < pre.length by omega]
    rcases Nat.lt_or_ge j i with hlt | hge
    · refine sweep_all hc i _ (by omega) h.2 (fun k hk => ?_) j hlt
      rcases List.mem_append.1 hk with hk | hk
      · exact hS k hk
      · rw [ho] at hk
        exact okAt_iff.1 (hc i _ ho hi') k (by simpa using hk)
    · obtain rfl : j = i := by omega
      exact hi'

theorem yielded_pre {tmps : Array Value} {j : Nat} (hj : j < pre.length) : yielded (pre ++ [last]).toArray tmps j = yielded pre.toArray tmps j := by
  unfold yielded
  have : (pre ++ [last]).toArray[j]? = pre.toArray[j]? := by simp [List.getElem?_append, hj]
  rw [this]

theorem wanted_pre {o : Oper} {tmps : Array Value} (hg : ∀ j b, o.guard = some (j, b) → j < pre.length) : Region.wanted o (yielded (pre ++ [last]).toArray tmps) = Region.wanted o (yielded pre.toArray tmps) := by
  unfold Region.wanted
  split
  · rfl
  · rename_i j b hgd
    rw [yielded_pre (hg j b hgd)]

theorem getD_set {l : Array Bool} {i j : Nat} {d : Bool} (hi : i < l.size) : (l.setIfInBounds i true).getD j d = if i = j then true else l.getD j d := by
  simp only [Array.getD, Array.size_setIfInBounds]
  by_cases hj : j < l.size
  · simp only [hj, dif_pos]
    by_cases hij : i = j
    · subst hij; simp
    · rw [if_neg hij]; exact Array.getElem_setIfInBounds_ne hj hij
  · have : i ≠ j := by omega
    simp [hj, this]

theorem wpAny_done {ops : Array Oper} {Q' : Exit → Act → World → Prop} {listed : Array Bool} {a : Act} {w : World} (hr : Region.ready .any ops listed = []) (hq : Q' .normal a w) : ∀ f, wpAny P .any ops Q' f listed a w
  | 0 => ⟨hr, hq⟩
  | f + 1 => ⟨fun _ => hq, fun i hi => by rw [hr] at hi; cases hi⟩

theorem wpAny_tail (ht : tailB pre last = true) {Q' : Exit → Act → World → Prop} {Qa : Act → Prop}
    (hlast : ∀ a w, C w → Qa a → ∀ K : Act → World → Prop, (∀ a w, Q' .normal a w → K a w) → wpOp P (pre ++ [last]).toArray Q' pre.length K a w) :
    ∀ (fuel : Nat) (listed pl : Array Bool) (a : Act) (w : World), Tl pre last listed pl → C w → wpAnyQ P .any pre.toArray C Qa fuel pl a → wpAny P .any (pre ++ [last]).toArray Q' (fuel + 1) listed a w := by
  simp only [tailB, Bool.and_eq_true] at ht
  obtain ⟨hback, hsweep⟩ := ht
  have hbackp : backB pre.toArray.toList 0 = true := by
    have key : ∀ (l m : List Oper) (k : Nat), backB (l ++ m) k = true → backB l k = true := by
      intro l m
      induction l with
      | nil => intros; rfl
      | cons x l ih =>
        intro k h
        simp only [List.cons_append, backB, Bool.and_eq_true] at h ⊢
        exact ⟨h.1, ih _ h.2⟩
    simpa using key _ _ _ hback
  have hl : (pre ++ [last])[pre.length]? = some last := by simp
  have hsp := backB_spec hback
  -- the last one is ready exactly if all others are listed
  have lastReady : ∀ listed pl, Tl pre last listed pl → okAt last listed = true → ∀ i, i < pre.length → pl.getD i true = true := by
    intro listed pl hT hok i hi
    have h1 := okAt_iff.1 hok
    have := sweep_all hT.closed pre.length _ (Nat.le_refl _) hsweep (fun j hj => by
      have hlt := (hsp _ _ hl).1 j hj
      rw [← hT.sameF j (by simpa using hlt)]
      exact h1 j hj) i hi
    rw [getD_tf (by rw [hT.s2]; exact hi)]
    exact this
  have lastIs : ∀ listed pl, Tl pre last listed pl → (∀ i, i < pre.length → pl.getD i true = true) → okAt last listed = true := by
    intro listed pl hT hall
    refine okAt_iff.2 fun j hj => ?_
    have hlt : j < pre.length := by simpa using (hsp _ _ hl).1 j hj
    rw [hT.sameF j hlt, ← getD_tf (by rw [hT.s2]; exact hlt)]
    exact hall j hlt
  have okSame : ∀ (listed pl : Array Bool), Tl pre last listed pl → ∀ (i : Nat) (o : Oper), pre[i]? = some o → okAt o listed = okAt o pl := by
    intro listed pl hT i o ho
    have hlt : i < pre.length := by
      rcases Nat.lt_or_ge i pre.length with h | h
      · exact h
      · simp [List.getElem?_eq_none h] at ho
    rw [Bool.eq_iff_iff, okAt_iff, okAt_iff]
    have hd := (hsp i o (by rw [List.getElem?_append_left hlt]; exact ho)).1
    constructor
    · intro h j hj
      have h1 := h j hj
      have h2 := hd j hj
      rw [← hT.sameF j (by omega)]; exact h1
    · intro h j hj
      have h1 := h j hj
      have h2 := hd j hj
      rw [hT.sameF j (by omega)]; exact h1
  have theLast : ∀ fuel listed pl a w, Tl pre last listed pl → C w → (∀ i, i < pre.length → pl.getD i true = true) → Qa a →
      wpOp P (pre ++ [last]).toArray Q' pre.length (wpAny P .any (pre ++ [last]).toArray Q' fuel (listed.setIfInBounds pre.length true)) a w := by
    intro fuel listed pl a w hT hw hall hq
    refine hlast a w hw hq _ fun a' w' hq' => wpAny_done ?_ hq' fuel
    apply List.eq_nil_iff_forall_not_mem.2
    intro i hi
    obtain ⟨o, ho, hl', _⟩ := mem_ready.1 hi
    rw [getD_set (by rw [hT.s1]; omega)] at hl'
    by_cases hin : pre.length = i
    · simp [hin] at hl'
    · rw [if_neg hin] at hl'
      obtain ⟨hlt, _⟩ := Array.getElem?_eq_some_iff.1 ho
      simp at hlt
      have := hall i (by omega)
      rw [← hT.same i (by omega)] at this
      rw [this] at hl'
      cases hl'
  have notEmpty : ∀ listed pl, Tl pre last listed pl → Region.ready .any (pre ++ [last]).toArray listed ≠ [] := by
    intro listed pl hT hr
    have hall := ready_all (by simpa using hT.s1) (by simpa using hback) hr pre.length (by simp)
    rw [hT.lastF] at hall
    cases hall
  intro fuel
  induction fuel with
  | zero =>
    intro listed pl a w hT hw h
    obtain ⟨hr, hq⟩ := h
    have hall : ∀ i, i < pre.length → pl.getD i true = true := fun i hi => ready_all (by simpa using hT.s2) hbackp hr i (by simpa using hi)
    refine ⟨fun h => absurd h (notEmpty listed pl hT), fun i hi => ?_⟩
    obtain ⟨o, ho, hl', hok⟩ := mem_ready.1 hi
    obtain ⟨hlt, _⟩ := Array.getElem?_eq_some_iff.1 ho
    simp at hlt
    rcases Nat.lt_or_ge i pre.length with hi' | hi'
    · have := hall i hi'
      rw [← hT.same i hi', hl'] at this
      cases this
    · obtain rfl : i = pre.length := by omega
      exact theLast 0 listed pl a w hT hw hall hq
  | succ fuel ih =>
    intro listed pl a w hT hw h
    obtain ⟨h0, hstep⟩ := h
    refine ⟨fun h => absurd h (notEmpty listed pl hT), fun i hi => ?_⟩
    obtain ⟨o, ho, hl', hok⟩ := mem_ready.1 hi
    obtain ⟨hlt, _⟩ := Array.getElem?_eq_some_iff.1 ho
    simp at hlt
    rcases Nat.lt_or_ge i pre.length with hi' | hi'
    · have hpo : pre[i]? = some o := by simpa [List.getElem?_append_left hi'] using ho
      have hmem : i ∈ Region.ready .any pre.toArray pl := mem_ready.2 ⟨o, by simpa using hpo, by rw [← hT.same i hi']; exact hl', by rw [← okSame listed pl hT i o hpo]; exact hok⟩
      have hq := hstep i hmem
      unfold qOp at hq
      unfold wpOp
      rw [ho]
      simp only [show pre.toArray[i]? = some o by simpa using hpo] at hq
      have hgd : ∀ j b, o.guard = some (j, b) → j < pre.length := fun j b hgd => by
        have := (hsp i o (by rw [List.getElem?_append_left hi']; exact hpo)).2 j b hgd
        omega
      rw [← wanted_pre (last := last) hgd] at hq
      have hT' : Tl pre last (listed.setIfInBounds i true) (pl.setIfInBounds i true) := by
        have e1 : i < listed.size := by rw [hT.s1]; omega
        have e2 : i < pl.size := by rw [hT.s2]; omega
        refine ⟨by simpa using hT.s1, by simpa using hT.s2, fun j hj => ?_, fun j hj => ?_, ?_, fun j u hu hj => ?_⟩
        · rw [getD_set e1, getD_set e2, hT.same j hj]
        · rw [getD_set e1, getD_set e2, hT.sameF j hj]
        · rw [getD_set e1, if_neg (by omega)]; exact hT.lastF
        · rw [getD_set e2] at hj
          refine okAt_iff.2 fun k hk => ?_
          rw [getD_set e2]
          split
          · rfl
          · by_cases hij : i = j
            · subst hij
              rw [hpo] at hu
              cases hu
              exact okAt_iff.1 ((okSame listed pl hT i o hpo) ▸ hok) k hk
            · rw [if_neg hij] at hj
              exact okAt_iff.1 (hT.closed j u hu hj) k hk
      dsimp only
      split
      · rename_i hw'
        rw [if_pos hw'] at hq
        exact .inl (Oper.wp_of_quiet (C := C) hw (fun a' w' hw'' hk => ih _ _ a' w' hT' hw'' hk) hq)
      · rename_i hw'
        rw [if_neg hw'] at hq
        exact ih _ _ _ w hT' hw hq
    · obtain rfl : i = pre.length := by omega
      have ho' : o = last := by simpa using ho.symm
      subst ho'
      have hall := lastReady listed pl hT hok
      have hr : Region.ready .any pre.toArray pl = [] := by
        apply List.eq_nil_iff_forall_not_mem.2
        intro j hj
        obtain ⟨u, hu, hlu, _⟩ := mem_ready.1 hj
        obtain ⟨hlt', _⟩ := Array.getElem?_eq_some_iff.1 hu
        rw [hall j (by simpa using hlt')] at hlu
        cases hlu
      exact theLast _ listed pl a w hT hw hall (h0 hr)

/-- A region that draws: all but the last operation quiet, the last one behind all of them. -/
theorem wp_region_tail {id : Nat} {Q' : Exit → Act → World → Prop} {a : Act} {w : World} (hm : P.follows .mixedOrders = true) (ht : tailB pre last = true) (hB : Region.lexB .any pre.toArray = true)
    {Qa : Act → Prop} (hC : C { w with drawn := w.drawn + 1 })
    (hlast : ∀ a w, C w → Qa a → ∀ K : Act → World → Prop, (∀ a w, Q' .normal a w → K a w) → wpOp P (pre ++ [last]).toArray Q' pre.length K a w)
    (h : wpQuiet P pre.toArray C Qa pre a) : (Code.region id (pre ++ [last]).toArray true).wp P Q' a w := by
  refine wp_region_any hm ?_
  simp only [Region.lexB, Bool.and_eq_true] at hB
  have hq := wpAnyQ_lex (C := C) (md := .any) hB.1 pre 0 (Array.replicate pre.toArray.size false) a (by simp) (by simpa using hB.2) h
  have := wpAny_tail ht hlast pre.length (Array.replicate (pre.length + 1) false) (Array.replicate pre.length false) a { w with drawn := w.drawn + 1 }
    ⟨by simp, by simp, fun i hi => by simp [Array.getD, hi, show i < pre.length + 1 by omega], fun i hi => by simp [Array.getD, hi, show i < pre.length + 1 by omega], by simp [Array.getD], fun i o hi hf => by
      exfalso
      by_cases hlt : i < pre.length <;> simp [Array.getD, hlt] at hf⟩ hC (by simpa using hq)
  simpa using this
end
end Go.X
