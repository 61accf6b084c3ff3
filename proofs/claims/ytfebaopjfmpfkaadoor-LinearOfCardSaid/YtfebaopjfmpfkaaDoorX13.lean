/- Regions that draw their order, with several effects: a front of operations in any order that goes along their edges, and a chain of operations behind it. -/
import Derived.Test.YtfebaopjfmpfkaaDoorX12
namespace Go.X
set_option linter.unusedVariables false
set_option linter.unusedSimpArgs false

/-- Those that u names for an operation lie before it: by an edge, or by an edge and what u names there. -/
def closB (ops : List Oper) (u : Nat → List Nat) : Nat → Bool
  | 0 => true
  | k + 1 => (match ops[k]? with | some o => (u k).all fun j => (depsOf o).contains j || (depsOf o).any fun d => (u d).contains j | none => true) && closB ops u k
/-- From number k on each operation lies behind all the ones with smaller numbers. -/
def chainB (ops : List Oper) : Nat → Nat → Bool
  | _, 0 => true
  | k, n + 1 => sweep ops k (((ops[k]?).map depsOf).getD []) && chainB ops (k + 1) n

theorem closB_spec {ops : List Oper} {u : Nat → List Nat} : ∀ {n : Nat}, closB ops u n = true → ∀ i o, i < n → ops[i]? = some o → ∀ j ∈ u i, j ∈ depsOf o ∨ ∃ d ∈ depsOf o, j ∈ u d
  | 0, _, i, _, hi, _ => by omega
  | n + 1, h, i, o, hi, ho => by
    simp only [closB, Bool.and_eq_true] at h
    rcases Nat.lt_or_ge i n with h' | h'
    · exact closB_spec h.2 i o h' ho
    · obtain rfl : i = n := by omega
      have h1 := h.1
      rw [ho] at h1
      intro j hj
      have := (List.all_eq_true.1 h1) j hj
      rw [Bool.or_eq_true] at this
      rcases this with h | h
      · exact .inl (by simpa using h)
      · obtain ⟨d, hd, hd'⟩ := List.any_eq_true.1 h
        exact .inr ⟨d, hd, by simpa using hd'⟩
theorem chainB_spec {ops : List Oper} : ∀ {n k : Nat}, chainB ops k n = true → ∀ i o, k ≤ i → i < k + n → ops[i]? = some o → sweep ops i (depsOf o) = true
  | 0, k, _, i, _, h1, h2, _ => by omega
  | n + 1, k, h, i, o, h1, h2, ho => by
    simp only [chainB, Bool.and_eq_true] at h
    rcases Nat.eq_or_lt_of_le h1 with rfl | h'
    · simpa [ho] using h.1
    · exact chainB_spec h.2 i o h' (by omega) ho

/-- The operations with these numbers, in their order. -/
def wpChain (P : Program) (ops : Array Oper) (Q' : Exit → Act → World → Prop) : List Oper → Nat → Act → World → Prop
  | [], _, a, w => Q' .normal a w
  | _ :: os, i, a, w => ∀ K : Act → World → Prop, (∀ a w, wpChain P ops Q' os (i + 1) a w → K a w) → wpOp P ops Q' i K a w

section
variable {P : Program} {Q' : Exit → Act → World → Prop}

def unl (l : Array Bool) : Nat := (l.toList.filter (!·)).length
theorem unl_list : ∀ {l : List Bool} {i : Nat}, l[i]? = some false → ((l.set i true).filter (!·)).length + 1 = (l.filter (!·)).length
  | [], i, h => by simp at h
  | b :: l, 0, h => by simp at h; subst h; simp
  | b :: l, i + 1, h => by
    have := unl_list (l := l) (i := i) (by simpa using h)
    cases b
    · simp at this ⊢; omega
    · simpa using this
theorem getD_false {l : Array Bool} {i : Nat} (hf : l.getD i true = false) : l.toList[i]? = some false := by
  unfold Array.getD at hf
  split at hf
  · rename_i h
    rw [Array.getElem?_toList, Array.getElem?_eq_getElem h]
    exact congrArg some hf
  · cases hf
theorem unl_set {l : Array Bool} {i : Nat} (hi : i < l.size) (hf : l.getD i true = false) : unl (l.setIfInBounds i true) + 1 = unl l := by
  have := unl_list (getD_false hf)
  unfold unl
  rw [← this]
  simp
theorem unl_zero {l : Array Bool} (h : unl l = 0) (i : Nat) : l.getD i true = true := by
  cases hg : l.getD i true with
  | true => rfl
  | false =>
    have h1 := List.eq_nil_of_length_eq_zero h
    rw [List.filter_eq_nil_iff] at h1
    exact absurd rfl (h1 false (List.mem_of_getElem? (getD_false hg)))

theorem sweep_listed {ops : List Oper} {l : Array Bool} (hc : ∀ (i : Nat) (o : Oper), ops[i]? = some o → l.getD i false = true → okAt o l = true) :
    ∀ (i : Nat) (S : List Nat), i ≤ ops.length → sweep ops i S = true → (∀ j ∈ S, l.getD j false = true) → ∀ j, j < i → l.getD j false = true
  | 0, _, _, _, _, j, hj => by omega
  | i + 1, S, hi, h, hS, j, hj => by
    simp only [sweep, Bool.and_eq_true] at h
    have hi' : l.getD i false = true := hS i (by simpa using h.1)
    have ho : ops[i]? = some ops[i] := by simp [show i < ops.length by omega]
    rcases Nat.lt_or_ge j i with hlt | hge
    · refine sweep_listed hc i _ (by omega) h.2 (fun k hk => ?_) j hlt
      rcases List.mem_append.1 hk with hk | hk
      · exact hS k hk
      · rw [ho] at hk
        exact okAt_iff.1 (hc i _ ho hi') k (by simpa using hk)
    · obtain rfl : j = i := by omega
      exact hi'

/-- What is listed goes along the edges. -/
structure Ls (ops : List Oper) (l : Array Bool) : Prop where
  size : l.size = ops.length
  closed : ∀ (i : Nat) (o : Oper), ops[i]? = some o → l.getD i false = true → okAt o l = true

theorem Ls.set {ops : List Oper} {l : Array Bool} (h : Ls ops l) {i : Nat} {o : Oper} (ho : ops[i]? = some o) (hok : okAt o l = true) : Ls ops (l.setIfInBounds i true) := by
  have hi : i < l.size := by rw [h.size]; exact (List.getElem?_eq_some_iff.1 ho).1
  refine ⟨by simpa using h.size, fun j u hu hj => ?_⟩
  rw [getD_set hi] at hj
  refine okAt_iff.2 fun k hk => ?_
  rw [getD_set hi]
  split
  · rfl
  · by_cases hij : i = j
    · subst hij
      rw [ho] at hu; cases hu
      exact okAt_iff.1 hok k hk
    · rw [if_neg hij] at hj
      exact okAt_iff.1 (h.closed j u hu hj) k hk

/-- Only the chain is left. -/
theorem wpAny_chain {ops : List Oper} (hb : backB ops 0 = true) (n0 : Nat) (hch : ∀ i o, n0 ≤ i → ops[i]? = some o → sweep ops i (depsOf o) = true) : ∀ (suf : List Oper) (k fuel : Nat) (l : Array Bool) (a : Act) (w : World),
    n0 ≤ k → ops.drop k = suf → Ls ops l → (∀ i, i < ops.length → (l.getD i false = true ↔ i < k)) → suf.length ≤ fuel → wpChain P ops.toArray Q' suf k a w → wpAny P .any ops.toArray Q' fuel l a w := by
  intro suf
  induction suf with
  | nil =>
    intro k fuel l a w hk hd hL hl hf h
    have hlen : ops.length ≤ k := List.drop_eq_nil_iff.1 hd
    refine wpAny_done ?_ h fuel
    apply List.eq_nil_iff_forall_not_mem.2
    intro i hi
    obtain ⟨o, ho, hl', _⟩ := mem_ready.1 hi
    have hlt : i < ops.length := by obtain ⟨h, _⟩ := Array.getElem?_eq_some_iff.1 ho; simpa using h
    have := (hl i hlt).2 (by omega)
    rw [← getD_tf (by rw [hL.size]; exact hlt), hl'] at this
    cases this
  | cons o suf ih =>
    intro k fuel l a w hk hd hL hl hf h
    have hklt : k < ops.length := by
      rcases Nat.lt_or_ge k ops.length with h | h
      · exact h
      · rw [List.drop_eq_nil_iff.2 h] at hd; cases hd
    have hok : ops[k]? = some o := by
      have := congrArg (·[0]?) hd
      simpa using this
    have hd' : ops.drop (k + 1) = suf := by rw [← List.drop_drop, hd]; rfl
    obtain ⟨fuel, rfl⟩ : ∃ f, fuel = f + 1 := ⟨fuel - 1, by simp at hf; omega⟩
    have hready : ∀ i, i ∈ Region.ready .any ops.toArray l → i = k := by
      intro i hi
      obtain ⟨u, hu, hl', hoku⟩ := mem_ready.1 hi
      have hu : ops[i]? = some u := by simpa using hu
      have hlt : i < ops.length := (List.getElem?_eq_some_iff.1 hu).1
      have hik : k ≤ i := by
        rcases Nat.lt_or_ge i k with h | h
        · have := (hl i hlt).2 h
          rw [← getD_tf (by rw [hL.size]; exact hlt), hl'] at this
          cases this
        · exact h
      rcases Nat.eq_or_lt_of_le hik with h | h
      · exact h.symm
      · have := sweep_listed hL.closed i (depsOf u) (by omega) (hch i u (by omega) hu) (fun j hj => okAt_iff.1 hoku j hj) k h
        have := (hl k hklt).1 this
        omega
    refine ⟨fun hr => ?_, fun i hi => ?_⟩
    · exfalso
      have := ready_all (by simpa using hL.size) (by simpa using hb) hr k (by simpa using hklt)
      rw [getD_tf (by rw [hL.size]; exact hklt)] at this
      have := (hl k hklt).1 this
      omega
    · have hik := hready i hi
      subst hik
      obtain ⟨u, hu, hl', hoku⟩ := mem_ready.1 hi
      have hu : ops[i]? = some u := by simpa using hu
      rw [hok] at hu; cases hu
      refine h _ fun a' w' h' => ih (i + 1) fuel _ a' w' (by omega) hd' (hL.set hok hoku) (fun j hj => ?_) (by simp at hf; omega) h'
      rw [getD_set (by rw [hL.size]; exact hklt)]
      by_cases hij : i = j
      · simp [hij]
      · rw [if_neg hij, hl j hj]; omega

theorem wpAny_front {pre suf : List Oper} {u : Nat → List Nat} (hb : backB (pre ++ suf) 0 = true) (hcl : closB pre u pre.length = true) (hch : chainB (pre ++ suf) pre.length suf.length = true) (J : (Nat → Bool) → Act → World → Prop)
    (hJ : ∀ S S' a w, (∀ i, i < pre.length → S i = S' i) → J S a w → J S' a w)
    (hstep : ∀ S a w i o, pre[i]? = some o → S i = false → (∀ j ∈ u i, S j = true) → J S a w → ∀ K : Act → World → Prop, (∀ a w, J (fun j => S j || j == i) a w → K a w) → wpOp P (pre ++ suf).toArray Q' i K a w)
    (hend : ∀ S a w, (∀ i, i < pre.length → S i = true) → J S a w → wpChain P (pre ++ suf).toArray Q' suf pre.length a w) :
    ∀ (fuel : Nat) (l : Array Bool) (a : Act) (w : World), Ls (pre ++ suf) l → (∀ i, i < pre.length → l.getD i false = true → ∀ j ∈ u i, l.getD j false = true) → (∀ i, pre.length ≤ i → i < (pre ++ suf).length → l.getD i false = false) → unl l ≤ fuel → J (fun i => l.getD i false) a w →
      wpAny P .any (pre ++ suf).toArray Q' fuel l a w := by
  have hsp := backB_spec hb
  have hchs := chainB_spec hch
  have hcls := closB_spec hcl
  have chain : ∀ (fuel : Nat) (l : Array Bool) (a : Act) (w : World), Ls (pre ++ suf) l → (∀ i, pre.length ≤ i → i < (pre ++ suf).length → l.getD i false = false) → unl l ≤ fuel → (∀ i, i < pre.length → l.getD i false = true) → J (fun i => l.getD i false) a w → wpAny P .any (pre ++ suf).toArray Q' fuel l a w := by
    intro fuel l a w hL hs hf hall hj
    refine wpAny_chain hb pre.length (fun i o h1 ho => hchs i o h1 (by have := (List.getElem?_eq_some_iff.1 ho).1; simpa using this) ho) suf pre.length fuel l a w (Nat.le_refl _) (by simp) hL (fun i hi => ⟨fun h => ?_, hall i⟩) ?_ (hend _ a w hall hj)
    · rcases Nat.lt_or_ge i pre.length with h' | h'
      · exact h'
      · rw [hs i h' hi] at h; cases h
    · -- the unlisted ones are the chain
      refine Nat.le_trans ?_ hf
      have hl : l.toList.drop pre.length = List.replicate suf.length false := by
        apply List.ext_getElem?
        intro i
        rw [List.getElem?_drop, List.getElem?_replicate]
        split
        · rename_i hi
          have h1 := hs (pre.length + i) (by omega) (by simp; omega)
          have hsz : pre.length + i < l.size := by rw [hL.size]; simp; omega
          simp only [Array.getD, hsz, dif_pos] at h1
          rw [Array.getElem?_toList]
          rw [Array.getElem?_eq_getElem hsz]
          exact congrArg some h1
        · rename_i hi
          rw [List.getElem?_eq_none]
          have := hL.size
          simp at this ⊢; omega
      unfold unl
      rw [← List.take_append_drop pre.length l.toList, hl, List.filter_append, List.length_append]
      simp
  intro fuel
  induction fuel with
  | zero =>
    intro l a w hL hu hs hf hj
    exact chain 0 l a w hL hs hf (fun i hi => by
      rw [← getD_tf (by rw [hL.size]; simp; omega)]
      exact unl_zero (by omega) i) hj
  | succ fuel ih =>
    intro l a w hL hu hs hf hj
    by_cases hall : ∀ i, i < pre.length → l.getD i false = true
    · exact chain _ l a w hL hs hf hall hj
    · refine ⟨fun hr => ?_, fun i hi => ?_⟩
      · exfalso
        apply hall
        intro i hi
        have := ready_all (by simpa using hL.size) (by simpa using hb) hr i (by simp; omega)
        rw [getD_tf (by rw [hL.size]; simp; omega)] at this
        exact this
      · obtain ⟨o, ho, hl', hok⟩ := mem_ready.1 hi
        have ho : (pre ++ suf)[i]? = some o := by simpa using ho
        have hlt := (List.getElem?_eq_some_iff.1 ho).1
        have hip : i < pre.length := by
          rcases Nat.lt_or_ge i pre.length with h | h
          · exact h
          · exfalso
            apply hall
            intro j hj'
            exact sweep_listed hL.closed i (depsOf o) (by omega) (hchs i o h (by simpa using hlt) ho) (fun j hj => okAt_iff.1 hok j hj) j (by omega)
        have hpo : pre[i]? = some o := by rw [List.getElem?_append_left hip] at ho; exact ho
        have hui : ∀ j ∈ u i, l.getD j false = true := by
          intro j hj'
          have hdl := okAt_iff.1 hok
          rcases hcls i o hip hpo j hj' with h | ⟨d, hd, hjd⟩
          · exact hdl j h
          · have hdi := (hsp i o ho).1 d hd
            exact hu d (by omega) (hdl d hd) j hjd
        refine hstep _ a w i o hpo (by rw [← getD_tf (by rw [hL.size]; exact hlt)]; exact hl') hui hj _ fun a' w' hj' => ih _ a' w' (hL.set ho hok) (fun k hk hlk j hjk => ?_) (fun k hk hk' => ?_) ?_ (hJ _ _ a' w' (fun k hk => ?_) hj')
        · rw [getD_set (by rw [hL.size]; exact hlt)] at hlk ⊢
          split
          · rfl
          · by_cases hik : i = k
            · subst hik; exact hui j hjk
            · rw [if_neg hik] at hlk; exact hu k hk hlk j hjk
        · rw [getD_set (by rw [hL.size]; exact hlt), if_neg (by omega)]; exact hs k hk hk'
        · have := unl_set (by rw [hL.size]; exact hlt) hl'
          omega
        · rw [getD_set (by rw [hL.size]; exact hlt)]
          by_cases hik : i = k
          · subst hik; simp
          · rw [if_neg hik]
            have : (k == i) = false := by simp; omega
            simp [this]

theorem wp_region_front {id : Nat} {a : Act} {w : World} (hm : P.follows .mixedOrders = true) {pre suf : List Oper} {u : Nat → List Nat} (hb : backB (pre ++ suf) 0 = true) (hcl : closB pre u pre.length = true) (hch : chainB (pre ++ suf) pre.length suf.length = true) (J : (Nat → Bool) → Act → World → Prop)
    (hJ : ∀ S S' a w, (∀ i, i < pre.length → S i = S' i) → J S a w → J S' a w)
    (h0 : J (fun _ => false) a { w with drawn := w.drawn + 1 })
    (hstep : ∀ S a w i o, pre[i]? = some o → S i = false → (∀ j ∈ u i, S j = true) → J S a w → ∀ K : Act → World → Prop, (∀ a w, J (fun j => S j || j == i) a w → K a w) → wpOp P (pre ++ suf).toArray Q' i K a w)
    (hend : ∀ S a w, (∀ i, i < pre.length → S i = true) → J S a w → wpChain P (pre ++ suf).toArray Q' suf pre.length a w) : (Code.region id (pre ++ suf).toArray true).wp P Q' a w := by
  refine wp_region_any hm ?_
  have hfalse : ∀ (n i : Nat), (Array.replicate n false).getD i false = false := fun n i => by
    by_cases h : i < n <;> simp [Array.getD, h]
  refine wpAny_front (u := u) hb hcl hch J hJ hstep hend _ _ a _ ⟨by simp, fun i o _ h => by rw [hfalse] at h; cases h⟩ (fun i _ h => by rw [hfalse] at h; cases h) (fun i _ _ => hfalse _ _) ?_ (hJ _ _ _ _ (fun i _ => (hfalse _ i).symm) h0)
  unfold unl
  simp
end
end Go.X
