/- Regions that draw their order: a front that only reads (or calls what only reads), guards and all, and a chain of operations behind it. -/
import Derived.Test.YtfebaopjfmpfkaaDoorX15
namespace Go.X
set_option linter.unusedVariables false
set_option linter.unusedSimpArgs false

def depU (pre : List Oper) (i : Nat) : List Nat := ((pre[i]?).map depsOf).getD []
theorem closB_dep (pre : List Oper) : ∀ n, closB pre (depU pre) n = true
  | 0 => rfl
  | n + 1 => by
    simp only [closB, Bool.and_eq_true]
    refine ⟨?_, closB_dep pre n⟩
    split
    · rename_i o ho
      rw [List.all_eq_true]
      intro j hj
      simp only [depU, ho, Option.map_some, Option.getD_some] at hj
      rw [Bool.or_eq_true]
      exact .inl (by simpa using hj)
    · rfl

theorem wanted_app {pre suf : List Oper} {o : Oper} {tmps : Array Value} (hg : ∀ j b, o.guard = some (j, b) → j < pre.length) : Region.wanted o (yielded (pre ++ suf).toArray tmps) = Region.wanted o (yielded pre.toArray tmps) := by
  unfold Region.wanted
  split
  · rfl
  · rename_i j b hgd
    have hj := hg j b hgd
    have : yielded (pre ++ suf).toArray tmps j = yielded pre.toArray tmps j := by
      unfold yielded
      have : (pre ++ suf).toArray[j]? = pre.toArray[j]? := by simp [List.getElem?_append, hj]
      rw [this]
    rw [this]

theorem wp_region_qchain {P : Program} {C : World → Prop} {id : Nat} {Q' : Exit → Act → World → Prop} {a : Act} {w : World} (hm : P.follows .mixedOrders = true) {pre suf : List Oper} (hb : backB (pre ++ suf) 0 = true) (hch : chainB (pre ++ suf) pre.length suf.length = true)
    (hB : Region.lexB .any pre.toArray = true) {Qa : Act → Prop} (hC : C { w with drawn := w.drawn + 1 }) (h : wpQuiet P pre.toArray C Qa pre a) (hend : ∀ a w, C w → Qa a → wpChain P (pre ++ suf).toArray Q' suf pre.length a w) : (Code.region id (pre ++ suf).toArray true).wp P Q' a w := by
  have hsp := backB_spec hb
  simp only [Region.lexB, Bool.and_eq_true] at hB
  have hq := wpAnyQ_lex (C := C) (md := .any) hB.1 pre 0 (Array.replicate pre.toArray.size false) a (by simp) (by simpa using hB.2) h
  have hbp : backB pre.toArray.toList 0 = true := by
    have key : ∀ (l m : List Oper) (k : Nat), backB (l ++ m) k = true → backB l k = true := by
      intro l m
      induction l with
      | nil => intros; rfl
      | cons x l ih =>
        intro k h
        simp only [List.cons_append, backB, Bool.and_eq_true] at h ⊢
        exact ⟨h.1, ih _ h.2⟩
    simpa using key _ _ _ hb
  refine wp_region_front (u := depU pre) hm hb (closB_dep pre _) hch
    (fun S a w => C w ∧ ∃ (fuel : Nat) (pl : Array Bool), pl.size = pre.length ∧ (∀ i, i < pre.length → pl.getD i false = S i) ∧ wpAnyQ P .any pre.toArray C Qa fuel pl a) ?_ ?_ ?_ ?_
  · rintro S S' a w hS ⟨h1, fuel, pl, h2, h3, h4⟩
    exact ⟨h1, fuel, pl, h2, fun i hi => (h3 i hi).trans (hS i hi), h4⟩
  · exact ⟨hC, pre.length, Array.replicate pre.toArray.size false, by simp, fun i hi => by simp [Array.getD], hq⟩
  · rintro S a w i o ho hs hu ⟨h1, fuel, pl, h2, h3, h4⟩ K' hK'
    have hi : i < pre.length := (List.getElem?_eq_some_iff.1 ho).1
    have hdep : ∀ j ∈ depsOf o, j < pre.length ∧ S j = true := fun j hj => by
      have := (hsp i o (by rw [List.getElem?_append_left hi]; exact ho)).1 j hj
      exact ⟨by omega, hu j (by simp only [depU, ho, Option.map_some, Option.getD_some]; exact hj)⟩
    have hok : okAt o pl = true := okAt_iff.2 fun j hj => by rw [h3 j (hdep j hj).1]; exact (hdep j hj).2
    have hmem : i ∈ Region.ready .any pre.toArray pl := mem_ready.2 ⟨o, by simpa using ho, by rw [getD_tf (by omega), h3 i hi]; exact hs, hok⟩
    cases fuel with
    | zero =>
      have h4 := h4.1
      rw [h4] at hmem; cases hmem
    | succ fuel =>
      have hqq := h4.2 i hmem
      unfold qOp at hqq
      unfold wpOp
      rw [show (pre ++ suf).toArray[i]? = some o by simp [List.getElem?_append_left hi, ho]]
      simp only [show pre.toArray[i]? = some o by simpa using ho] at hqq
      have hgd : ∀ j b, o.guard = some (j, b) → j < pre.length := fun j b hgd => by
        have := (hsp i o (by rw [List.getElem?_append_left hi]; exact ho)).2 j b hgd
        omega
      rw [← wanted_app (suf := suf) hgd] at hqq
      have next : ∀ a w, C w → wpAnyQ P .any pre.toArray C Qa fuel (pl.setIfInBounds i true) a → K' a w := fun a w hw hk => hK' a w ⟨hw, fuel, _, by simpa using h2, fun j hj => by
        rw [getD_set (by omega)]
        by_cases hij : i = j
        · subst hij; simp
        · rw [if_neg hij, h3 j hj]
          have : (j == i) = false := by simp; omega
          simp [this], hk⟩
      dsimp only
      split
      · rename_i hw'
        rw [if_pos hw'] at hqq
        exact .inl (Oper.wp_of_quiet (C := C) h1 (fun a' w' hw'' hk => next a' w' hw'' hk) hqq)
      · rename_i hw'
        rw [if_neg hw'] at hqq
        exact next _ w h1 hqq
  · rintro S a w hS ⟨h1, fuel, pl, h2, h3, h4⟩
    refine hend a w h1 ?_
    have hr : Region.ready .any pre.toArray pl = [] := by
      apply List.eq_nil_iff_forall_not_mem.2
      intro j hj
      obtain ⟨u, hu, hlu, _⟩ := mem_ready.1 hj
      obtain ⟨hlt', _⟩ := Array.getElem?_eq_some_iff.1 hu
      have hlt'' : j < pre.length := by simpa using hlt'
      rw [getD_tf (by omega), h3 j hlt'', hS j hlt''] at hlu
      cases hlu
    cases fuel with
    | zero => exact h4.2
    | succ fuel => exact h4.1 hr

/-- A region that draws: the first n operations only read, the others come one behind the other. -/
theorem drawQ {C : Ctx} [hC : CtxOk C] {ops : List Oper} {e : Env} {L : List Chunk} {K : Env → List Chunk → Prop} (n : Nat) (hok : (backB ops 0 && chainB ops (ops.take n).length (ops.drop n).length && (ops.drop n).all (·.guard.isNone) && Region.lexB .any (ops.take n).toArray) = true)
    (h : XQs C (ops.take n) (fun e L => XSuf C K (ops.drop n) e L) L (ops.take n) [] e) : XDrawS C ops e L K := by
  unfold XDrawS
  intro id Q a w hQ ha hw
  simp only [Bool.and_eq_true] at hok
  obtain ⟨⟨⟨hb, hch⟩, hg⟩, hB⟩ := hok
  have heq : ops.take n ++ ops.drop n = ops := List.take_append_drop n ops
  have key := wp_region_qchain (id := id) (Q' := Q) (a := a) (w := w) (C := Holds C L) hC.mixed (pre := ops.take n) (suf := ops.drop n) (by rw [heq]; exact hb) (by rw [heq]; exact hch) hB (Qa := fun a => ∃ e, ES C.n e a ∧ XSuf C K (ops.drop n) e L) (Inv.drew hw) (XQs.sound hC (fun e a ha hk => ⟨e, ha, hk⟩) (ops.take n) ha h) (by
    rintro a w hw ⟨e, ha, hx⟩
    have hgo : ∀ (suf : List Oper) (k : Nat) {e : Env} {a : Act} {L : List Chunk} {w : World}, ((ops.take n) ++ (ops.drop n)).drop k = suf → (∀ o ∈ suf, o.guard.isNone = true) → ES C.n e a → Holds C L w → XSuf C K suf e L → wpChain C.P ((ops.take n) ++ (ops.drop n)).toArray Q suf k a w := by
      intro suf
      induction suf with
      | nil => intro k e a L w _ _ ha hw h; exact hQ e a L w ha hw h
      | cons o os ih =>
        intro k e a L w hd hgs ha hw h
        have hk : ((ops.take n) ++ (ops.drop n))[k]? = some o := by
          have := congrArg (·[0]?) hd
          simpa using this
        have hd' : ((ops.take n) ++ (ops.drop n)).drop (k + 1) = os := by rw [← List.drop_drop, hd]; rfl
        intro K' hK'
        unfold wpOp
        rw [show ((ops.take n) ++ (ops.drop n)).toArray[k]? = some o by simpa using hk]
        have hgo : o.guard = none := by have := hgs o (by simp); simpa using this
        simp only [Region.wanted, hgo, if_true]
        exact .inl (XOp.sound hC ha (show XOp C o e L fun v L' => XSuf C K os (put C.n e o.dst v) L' from h) K' Q (fun v L' w' hk hh => hK' _ _ (ih (k + 1) hd' (fun o ho => hgs o (by simp [ho])) (ha.put o.dst v) hh hk)) w hw)
    exact hgo (ops.drop n) (ops.take n).length (by simp) (List.all_eq_true.1 hg) ha hw hx)
  rwa [heq] at key
end Go.X
