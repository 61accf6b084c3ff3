/- A whole element of an owned slice is written; a slice is cloned. -/
import Derived.Test.YtfebaopjfmpfkaaDoorX16
namespace Go.X
set_option linter.unusedVariables false
set_option linter.unusedSimpArgs false

theorem over_get : ∀ (vs cs : List Value) (i k : Nat), i + vs.length ≤ cs.length → (over cs i vs)[k]? = if i ≤ k ∧ k < i + vs.length then vs[k - i]? else cs[k]?
  | [], cs, i, k, _ => by
    have : ¬ (i ≤ k ∧ k < i + ([] : List Value).length) := by simp
    rw [if_neg this]
    cases cs <;> cases i <;> rfl
  | v :: vs, [], i, k, h => by simp at h
  | v :: vs, a :: cs, 0, k, h => by
    simp only [over]
    cases k with
    | zero => simp
    | succ k =>
      have := over_get vs cs 0 k (by simp at h ⊢; omega)
      simp only [List.getElem?_cons_succ, this]
      by_cases hk : k < vs.length
      · rw [if_pos ⟨by omega, by omega⟩, if_pos ⟨by omega, by simp; omega⟩]; simp
      · rw [if_neg (by omega), if_neg (by simp; omega)]
  | v :: vs, a :: cs, i + 1, k, h => by
    simp only [over]
    cases k with
    | zero => simp
    | succ k =>
      have := over_get (v :: vs) cs i k (by simp at h ⊢; omega)
      simp only [List.getElem?_cons_succ, this]
      by_cases hk : i ≤ k ∧ k < i + (v :: vs).length
      · rw [if_pos hk, if_pos ⟨by omega, by omega⟩, show k + 1 - (i + 1) = k - i by omega]
      · rw [if_neg hk, if_neg (by omega)]
theorem over_len : ∀ (vs cs : List Value) (i : Nat), (over cs i vs).length = cs.length
  | [], cs, i => by cases cs <;> cases i <;> rfl
  | v :: vs, [], i => by cases i <;> rfl
  | v :: vs, a :: cs, 0 => by simp [over, over_len vs cs 0]
  | v :: vs, a :: cs, i + 1 => by simp [over, over_len (v :: vs) cs i]

theorem flat_set {α : Type} {sz : Nat} {enc : α → List Value} {xs : List α} {i : Nat} {x : α} (hl : ∀ x ∈ xs, (enc x).length = sz) (hx : (enc x).length = sz) (hi : i < xs.length) : over (xs.flatMap enc) (i * sz) (enc x) = (xs.set i x).flatMap enc := by
  induction xs generalizing i with
  | nil => simp at hi
  | cons y ys ih =>
    have hy := hl y (by simp)
    have key : ∀ (l m vs : List Value) (k : Nat), over (l ++ m) (l.length + k) vs = l ++ over m k vs := by
      intro l m vs k
      induction l with
      | nil => simp
      | cons a l ih =>
        cases vs with
        | nil => simp [over]
        | cons v vs => rw [List.length_cons, show l.length + 1 + k = (l.length + k) + 1 by omega]; simp only [List.cons_append, over, ih]
    have key0 : ∀ (l m vs : List Value), l.length = vs.length → over (l ++ m) 0 vs = vs ++ m := by
      intro l
      induction l with
      | nil => intro m vs h; have : vs = [] := List.eq_nil_of_length_eq_zero h.symm; subst this; cases m <;> rfl
      | cons a l ih =>
        intro m vs h
        cases vs with
        | nil => simp at h
        | cons v vs => simp only [List.cons_append, over, ih m vs (by simpa using h)]
    cases i with
    | zero =>
      simp only [Nat.zero_mul, List.set_cons_zero, List.flatMap_cons]
      exact key0 _ _ _ (by rw [hy, hx])
    | succ i =>
      simp only [List.set_cons_succ, List.flatMap_cons]
      rw [← ih (fun x hx => hl x (by simp [hx])) (by simpa using hi), show (i + 1) * sz = (enc y).length + i * sz from (Nat.succ_mul i sz).trans (by rw [hy]; exact Nat.add_comm _ _)]
      exact key _ _ _ _

section
variable {α : Type} {C : Ctx} {L : List Chunk} {e : TypeId} {sz cap : Nat} {enc : α → List Value} {xs : List α}

/-- Store a whole element. -/
theorem stO [hC : CtxOk C] {t : TypeId} {g off : Nat} {v : Value} {R : Unit → List Chunk → Prop} {ti : TyI} (k i : Nat) (x : α) (hk : lget L k = some (own (some ⟨g, 0, none⟩) cap e sz enc xs)) (hl : ∀ x ∈ xs, (enc x).length = sz) (hx : (enc x).length = sz) (hi : i < xs.length)
    (hv : cellsL v = enc x) (hti : tget C.tab t = some ti) (hs : ti.size = sz) (h1 : (enc x).all Value.oneCell' = true) (hoff : off = i * sz) (hR : R () (setL L k (own (some ⟨g, 0, none⟩) cap e sz enc (xs.set i x)))) : Does C L (Instr.storeAt t (.pointer (some ⟨g, off, none⟩)) v) R := by
  intro w hw
  subst hoff
  obtain ⟨T, hT⟩ := hw.mem hk
  obtain ⟨y, hy⟩ : ∃ y, xs[i]? = some y := ⟨xs[i], by simp [hi]⟩
  obtain ⟨_, hrow⟩ := hT
  rcases hrow.2 with ⟨he, h0⟩ | ⟨g', c, cur, he, _, hg, hn, hm, hcs, ht⟩
  · cases he
  cases he
  have hb : w.heap[g]? = some (.cells cur.toList.toArray e (0, 0)) := by simpa using hg
  have hfl := flat_len hl
  have hcl : cur.toList.length = cap * sz := by simpa using hcs
  have hmul : xs.length * sz ≤ cap * sz := Nat.mul_le_mul_right _ hn
  have hisz : i * sz + sz ≤ xs.length * sz := by rw [← Nat.succ_mul]; exact Nat.mul_le_mul_right _ hi
  obtain ⟨w', r1, r2, r3, r4, r5, r6, r7⟩ := run_storeCells (P := C.P) (enc x) w cur.toList (i * sz) 0 (List.all_eq_true.1 h1) (by omega) hb
  have hsz := run_sizeOf' (w := w) (hC.tab.get hti)
  refine ⟨(), w', _, ?_, hw.turnAt (d := own (some ⟨g, 0, none⟩) cap e sz enc (xs.set i x)) hk (fun S1 hS1 hd1 => ?_), hR⟩
  · have e1 : v.cells.size = ti.size := by rw [cellsL_eq, hv, hs]; simpa using hx
    have e2 : v.cells.toList = enc x := by rw [cellsL_eq, hv]
    simp only [Instr.storeAt, Instr.sureAddr, Sem.run_bind, Sem.run_pure, Result.andThen_ok, storeVar, hsz, e1, ne_eq, not_true_eq_false, if_false, e2]
    exact r1
  · have hS1g : S1 g := (hS1.1 g).2 rfl
    refine Inv.one (T := S1) ⟨r5, r6, r7, by omega, fun k _ hk => r4 k fun he => hk (he ▸ hS1g)⟩ ⟨fun k => (hS1.1 k).trans (by simp [Value.ownBlock]), ?_⟩ fun _ h => .inl h
    have hset : (xs.set i x).length = xs.length := by simp
    rw [hset]
    refine ⟨?_, .inr ⟨g, cap, (over cur.toList (i * sz) (enc x)).toArray, rfl, Nat.zero_le _, by simpa using r2, hn, hm, by simp [over_len, hcl], ?_⟩⟩
    · rw [flat_len fun y hy => by
        rcases List.mem_or_eq_of_mem_set hy with h | rfl
        · exact hl y h
        · exact hx, hset]
    · rw [← flat_set hl hx hi, ← ht]
      apply List.ext_getElem?
      intro k
      simp only [List.toList_toArray]
      rw [List.getElem?_take, over_get _ _ _ _ (by omega), over_get _ _ _ _ (by simp; omega), List.getElem?_take]
      by_cases h1 : k < xs.length * sz
      · simp [h1]
      · have : ¬ (i * sz ≤ k ∧ k < i * sz + (enc x).length) := by omega
        simp [h1, this]
end
end Go.X
