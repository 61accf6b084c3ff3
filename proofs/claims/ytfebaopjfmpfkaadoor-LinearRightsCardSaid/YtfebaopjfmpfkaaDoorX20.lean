/- Regions that draw their order: a front that only reads, and a chain of operations behind it, guards and all. -/
import Derived.Test.YtfebaopjfmpfkaaDoorX16
namespace Go.X
set_option linter.unusedVariables false
set_option linter.unusedSimpArgs false

/-- A region that draws: the first n operations only read, the others come one behind the other, under whatever guards. -/
theorem drawG {C : Ctx} [hC : CtxOk C] {ops : List Oper} {e : Env} {L : List Chunk} {K : Env → List Chunk → Prop} (n : Nat) (hok : (backB ops 0 && chainB ops (ops.take n).length (ops.drop n).length && Region.lexB .any (ops.take n).toArray) = true)
    (h : XQs C (ops.take n) (fun e L => XOps C ops K (ops.drop n) [] e L) L (ops.take n) [] e) : XDrawS C ops e L K := by
  unfold XDrawS
  intro id Q a w hQ ha hw
  simp only [Bool.and_eq_true] at hok
  obtain ⟨⟨hb, hch⟩, hB⟩ := hok
  have heq : ops.take n ++ ops.drop n = ops := List.take_append_drop n ops
  have key := wp_region_qchain (id := id) (Q' := Q) (a := a) (w := w) (C := Holds C L) hC.mixed (pre := ops.take n) (suf := ops.drop n) (by rw [heq]; exact hb) (by rw [heq]; exact hch) hB (Qa := fun a => ∃ e, ES C.n e a ∧ XOps C ops K (ops.drop n) [] e L) (Inv.drew hw) (XQs.sound hC (fun e a ha hk => ⟨e, ha, hk⟩) (ops.take n) ha h) (by
    rintro a w hw ⟨e, ha, hx⟩
    rw [heq]
    have hgo : ∀ (suf : List Oper) (k : Nat) {G : List (Nat × Bool)} {e : Env} {a : Act} {L : List Chunk} {w : World}, ops.drop k = suf → ES C.n e a → Holds C L w → XOps C ops K suf G e L → wpChain C.P ops.toArray Q suf k a w := by
      intro suf
      induction suf with
      | nil => intro k G e a L w _ ha hw h; exact hQ e a L w ha hw h
      | cons o os ih =>
        intro k G e a L w hd ha hw h
        have hk : ops[k]? = some o := by
          have := congrArg (·[0]?) hd
          simpa using this
        have hd' : ops.drop (k + 1) = os := by rw [← List.drop_drop, hd]; rfl
        intro K' hK'
        unfold wpOp
        rw [show ops.toArray[k]? = some o by simpa using hk]
        have h : guardX ops G o e (fun G e => XOp C o e L fun v L' => XOps C ops K os G (put C.n e o.dst v) L') (fun G e => XOps C ops K os G (put C.n e o.dst undef) L) := h
        rcases guardX.sound ha h with ⟨hwt, G', e', ha', h'⟩ | ⟨hwt, G', e', ha', h'⟩
        · simp only [hwt, if_true]
          exact .inl (XOp.sound hC ha' h' K' Q (fun v L' w' hk hh => hK' _ _ (ih (k + 1) hd' (ha'.put o.dst v) hh hk)) w hw)
        · simp only [hwt, Bool.false_eq_true, if_false]
          exact hK' _ _ (ih (k + 1) hd' (ha'.put o.dst undef) hw h')
    exact hgo (ops.drop n) (ops.take n).length (by simp only [List.length_take]; by_cases hn : n ≤ ops.length
                                                   · rw [Nat.min_eq_left hn]
                                                   · rw [Nat.min_eq_right (by omega), List.drop_eq_nil_of_le (Nat.le_refl _), List.drop_eq_nil_of_le (by omega)]) ha hw hx)
  rwa [heq] at key
end Go.X
