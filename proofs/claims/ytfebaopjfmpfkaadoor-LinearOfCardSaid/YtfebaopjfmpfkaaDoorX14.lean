/- Regions that draw their order, by the executor: each operation of the front by itself, then the chain. -/
import Derived.Test.YtfebaopjfmpfkaaDoorX13
namespace Go.X
set_option linter.unusedVariables false
set_option linter.unusedSimpArgs false

abbrev RelT := Nat → List Value → Value → List Chunk → Prop
/-- What is known of the values of operations, by their numbers. -/
def kf : List (Nat × Value) → Nat → Value
  | [], _ => undef
  | (j, v) :: kn, k => match Nat.beq j k with
    | true => v
    | false => kf kn k
def envP (pre : List Oper) (e : Env) (j : Nat) (v : Value) : Env := match lget pre j with
  | some o => match o.dst with
    | some d => (d, v) :: e
    | none => e
  | none => e
/-- For all values and chunks that these operations may have left. -/
def tele (pre : List Oper) (u : Nat → List Nat) (Rel : RelT) (K : List (Nat × Value) → Env → List Chunk → Prop) (js : List Nat) : List (Nat × Value) → Env → List Chunk → Prop :=
  List.rec (motive := fun _ => List (Nat × Value) → Env → List Chunk → Prop) (fun kn e L => K kn e L)
    (fun j _ ih kn e L => ∀ v N, Rel j ((u j).map (kf kn)) v N → ih ((j, v) :: kn) (envP pre e j v) (N ++ L)) js
/-- Each one's own ones come ahead of it. -/
def teleB (u : Nat → List Nat) : List Nat → List Nat → Bool
  | _, [] => true
  | known, j :: js => (u j).all known.contains && teleB u (j :: known) js
def at' (C : Ctx) (w : World) (S : FP) : Ctx := ⟨C.P, C.tab, C.n, w, S⟩
/-- Each operation of the front, by what lies before it. -/
def XFront (C : Ctx) (pre : List Oper) (u : Nat → List Nat) (Rel : RelT) (e : Env) (L : List Chunk) (os : List Oper) : Nat → Prop :=
  List.rec (motive := fun _ => Nat → Prop) (fun _ => True)
    (fun o _ ih i => (∀ w S, (∀ r, RO C.w0 C.S0 r → RO w S r) → tele pre u Rel (fun kn e' L' => XOp (at' C w S) o e' L' fun v L'' => ∃ N, Rel i ((u i).map (kf kn)) v N ∧ Ent L'' (N ++ L')) (u i) [] e L) ∧ ih (i + 1)) os
def XSuf (C : Ctx) (K : Env → List Chunk → Prop) (os : List Oper) : Env → List Chunk → Prop :=
  List.rec (motive := fun _ => Env → List Chunk → Prop) (fun e L => K e L) (fun o _ ih e L => XOp C o e L fun v L' => ih (put C.n e o.dst v) L') os
def noDup : List Nat → Bool
  | [] => true
  | x :: l => !l.contains x && noDup l
/-- The front's slots are new ones. -/
def freshB (n : Nat) (e : Env) (ds : List Nat) : Bool := noDup ds && ds.all fun d => Nat.blt d n && (get e d).isNone
def frontOk (n : Nat) (e : Env) (pre suf : List Oper) (u : Nat → List Nat) : Bool :=
  backB (pre ++ suf) 0 && closB pre u pre.length && chainB (pre ++ suf) pre.length suf.length && freshB n e (pre.filterMap (·.dst)) && (pre ++ suf).all (·.guard.isNone) && ((List.range pre.length).all fun i => noDup (u i) && teleB u [] (u i) && (u i).all (Nat.blt · i)) && teleB u [] (List.range pre.length)

theorem noDup_iff : ∀ {l : List Nat}, noDup l = true → l.Nodup
  | [], _ => by simp
  | x :: l, h => by
    simp only [noDup, Bool.and_eq_true] at h
    rw [List.nodup_cons]
    exact ⟨by simpa using h.1, noDup_iff h.2⟩
theorem XFront_spec {C : Ctx} {pre : List Oper} {u : Nat → List Nat} {Rel : RelT} {e : Env} {L : List Chunk} : ∀ {os : List Oper} {k : Nat}, XFront C pre u Rel e L os k → ∀ i o, os[i]? = some o →
    ∀ w S, (∀ r, RO C.w0 C.S0 r → RO w S r) → tele pre u Rel (fun kn e' L' => XOp (at' C w S) o e' L' fun v L'' => ∃ N, Rel (k + i) ((u (k + i)).map (kf kn)) v N ∧ Ent L'' (N ++ L')) (u (k + i)) [] e L
  | [], _, _, i, o, h => by simp at h
  | x :: os, k, ⟨h1, h2⟩, 0, o, h => by simp at h; subst h; exact h1
  | x :: os, k, ⟨h1, h2⟩, i + 1, o, h => by
    have := XFront_spec (os := os) (k := k + 1) h2 i o (by simpa using h)
    rwa [show k + 1 + i = k + (i + 1) by omega] at this

theorem kf_cons {kn : List (Nat × Value)} {j k : Nat} {v : Value} : kf ((j, v) :: kn) k = if j = k then v else kf kn k := by
  simp only [kf]
  cases hb : Nat.beq j k with
  | true => rw [if_pos (Nat.eq_of_beq_eq_true hb)]
  | false => rw [if_neg fun h => by subst h; simp at hb]

theorem tele_inst {pre : List Oper} {u : Nat → List Nat} {Rel : RelT} {σ : Nat → Value} {ν : Nat → List Chunk} {K : List (Nat × Value) → Env → List Chunk → Prop} : ∀ {js known : List Nat} {kn : List (Nat × Value)} {e : Env} {L : List Chunk},
    (∀ j ∈ js, Rel j ((u j).map σ) (σ j) (ν j)) → (∀ k ∈ known, kf kn k = σ k) → teleB u known js = true → tele pre u Rel K js kn e L →
    ∃ kn' e' L', K kn' e' L' ∧ (∀ k, k ∈ js ∨ k ∈ known → kf kn' k = σ k) ∧ (∀ t v, get e' t = some v → get e t = some v ∨ ∃ j o, j ∈ js ∧ pre[j]? = some o ∧ o.dst = some t ∧ v = σ j) ∧ L'.Perm (js.flatMap ν ++ L)
  | [], known, kn, e, L, _, hkn, _, h => ⟨kn, e, L, h, fun k hk => hkn k (hk.resolve_left (by simp)), fun t v hv => .inl hv, .refl _⟩
  | j :: js, known, kn, e, L, hrel, hkn, hb, h => by
    simp only [teleB, Bool.and_eq_true] at hb
    have huj : ∀ k ∈ u j, k ∈ known := fun k hk => by have := (List.all_eq_true.1 hb.1) k hk; simpa using this
    have hmap : (u j).map (kf kn) = (u j).map σ := List.map_congr_left fun k hk => hkn k (huj k hk)
    have h' : tele pre u Rel K js ((j, σ j) :: kn) (envP pre e j (σ j)) (ν j ++ L) := h (σ j) (ν j) (by rw [hmap]; exact hrel j (by simp))
    obtain ⟨kn', e', L', h1, h2, h3, h4⟩ := tele_inst (js := js) (known := j :: known) (fun k hk => hrel k (by simp [hk])) (fun k hk => by
      rw [kf_cons]
      by_cases hjk : j = k
      · rw [if_pos hjk, hjk]
      · rw [if_neg hjk]
        rcases List.mem_cons.1 hk with rfl | hk
        · exact absurd rfl hjk
        · exact hkn k hk) hb.2 h'
    refine ⟨kn', e', L', h1, fun k hk => h2 k ?_, fun t v hv => ?_, ?_⟩
    · rcases hk with hk | hk
      · rcases List.mem_cons.1 hk with rfl | hk
        · exact .inr (by simp)
        · exact .inl hk
      · exact .inr (by simp [hk])
    · rcases h3 t v hv with h | ⟨k, o, hk, r⟩
      · unfold envP at h
        split at h
        · rename_i o ho
          split at h
          · rename_i d hd
            simp only [get] at h
            cases hbe : Nat.beq d t with
            | true =>
              simp [hbe] at h
              have := Nat.eq_of_beq_eq_true hbe
              subst this
              exact .inr ⟨j, o, by simp, by rw [← lget_eq]; exact ho, hd, h.symm⟩
            | false => simp [hbe] at h; exact .inl h
          · exact .inl h
        · exact .inl h
      · exact .inr ⟨k, o, by simp [hk], r⟩
    · refine h4.trans ?_
      simp only [List.flatMap_cons, List.append_assoc]
      rw [← List.append_assoc, ← List.append_assoc]
      exact List.perm_append_comm.append_right L

/-- The chunks of these operations. -/
def chS (ν : Nat → List Chunk) (L : List Chunk) (l : List Nat) : List Chunk := l.flatMap ν ++ L
theorem chS_eq (ν : Nat → List Chunk) (L : List Chunk) (l : List Nat) : chS ν L l = l.flatMap ν ++ L := rfl

section
variable {C : Ctx} {e : Env} {L : List Chunk}

/-- What is known when the operations of S are done. -/
def JX (C : Ctx) (pre : List Oper) (u : Nat → List Nat) (Rel : RelT) (e : Env) (L : List Chunk) (S : Nat → Bool) (a : Act) (w : World) : Prop :=
  ∃ (σ : Nat → Value) (ν : Nat → List Chunk), (∀ i, i < pre.length → S i = true → Rel i ((u i).map σ) (σ i) (ν i)) ∧ (∀ i, i < pre.length → S i = true → ∀ j ∈ u i, S j = true) ∧ ES C.n e a ∧
    (∀ i o d, pre[i]? = some o → S i = true → o.dst = some d → a.tmps[d]? = some (σ i)) ∧ Holds C (chS ν L ((List.range pre.length).filter S)) w

theorem XSuf.sound (hC : CtxOk C) {ops : List Oper} {K : Env → List Chunk → Prop} {Q' : Exit → Act → World → Prop} (hQ : ∀ e a L w, ES C.n e a → Holds C L w → K e L → Q' .normal a w) (hg : ∀ o ∈ ops, o.guard.isNone = true) :
    ∀ (suf : List Oper) (k : Nat) {e : Env} {a : Act} {L : List Chunk} {w : World}, ops.drop k = suf → ES C.n e a → Holds C L w → XSuf C K suf e L → wpChain C.P ops.toArray Q' suf k a w
  | [], k, e, a, L, w, hd, ha, hw, h => hQ e a L w ha hw h
  | o :: os, k, e, a, L, w, hd, ha, hw, h => by
    have hk : ops[k]? = some o := by
      have := congrArg (·[0]?) hd
      simpa using this
    have hd' : ops.drop (k + 1) = os := by rw [← List.drop_drop, hd]; rfl
    intro K' hK'
    unfold wpOp
    rw [show ops.toArray[k]? = some o by simpa using hk]
    have hgo : o.guard = none := by have := hg o (List.mem_of_getElem? hk); simpa using this
    simp only [Region.wanted, hgo, if_true]
    exact .inl (XOp.sound hC ha (show XOp C o e L fun v L' => XSuf C K os (put C.n e o.dst v) L' from h) K' Q' (fun v L' w' hk hh => hK' _ _ (XSuf.sound hC hQ hg os (k + 1) hd' (ha.put o.dst v) hh hk)) w hw)

theorem filter_perm {n i : Nat} {S : Nat → Bool} (hi : i < n) (hs : S i = false) : ((List.range n).filter fun j => S j || j == i).Perm (i :: (List.range n).filter S) := by
  rw [List.perm_ext_iff_of_nodup (List.nodup_range.filter _) (by
    rw [List.nodup_cons]
    exact ⟨by simp [hs], List.nodup_range.filter _⟩)]
  intro j
  simp only [List.mem_filter, List.mem_range, Bool.or_eq_true, List.mem_cons, beq_iff_eq]
  constructor
  · rintro ⟨h1, h2 | rfl⟩
    · exact .inr ⟨h1, h2⟩
    · exact .inl rfl
  · rintro (rfl | ⟨h1, h2⟩)
    · exact ⟨hi, .inr rfl⟩
    · exact ⟨h1, .inl h2⟩

/-- A REGION THAT DRAWS ITS ORDER, by a front and a chain. -/
theorem XFront.sound (hC : ∀ w S, CtxOk (at' C w S)) {id : Nat} {pre suf : List Oper} {u : Nat → List Nat} {Rel : RelT} {K : Env → List Chunk → Prop} {Q' : Exit → Act → World → Prop} (hQ : ∀ e a L w, ES C.n e a → Holds C L w → K e L → Q' .normal a w) {a : Act} {w : World} (ha : ES C.n e a) (hw : Holds C L w)
    (hok : frontOk C.n e pre suf u = true) (hfr : XFront C pre u Rel e L pre 0) (hend : tele pre u Rel (fun _ e' L' => XSuf C K suf e' L') (List.range pre.length) [] e L) :
    (Code.region id (pre ++ suf).toArray true).wp C.P Q' a w := by
  simp only [frontOk, Bool.and_eq_true] at hok
  obtain ⟨⟨⟨⟨⟨⟨hb, hcl⟩, hch⟩, hfresh⟩, hgd⟩, hu⟩, htr⟩ := hok
  have hg : ∀ o ∈ pre ++ suf, o.guard.isNone = true := List.all_eq_true.1 hgd
  have hu2 : ∀ i, i < pre.length → (noDup (u i) = true ∧ teleB u [] (u i) = true) ∧ (u i).all (Nat.blt · i) = true := fun i hi => by
    have := (List.all_eq_true.1 hu) i (List.mem_range.2 hi)
    rwa [Bool.and_eq_true, Bool.and_eq_true] at this
  have hu' : ∀ i, i < pre.length → (u i).Nodup ∧ ∀ j ∈ u i, j < i := fun i hi =>
    ⟨noDup_iff (hu2 i hi).1.1, fun j hj => by have := (List.all_eq_true.1 (hu2 i hi).2) j hj; simpa [Nat.blt_eq] using this⟩
  simp only [freshB, Bool.and_eq_true] at hfresh
  have hfd : ∀ (i : Nat) (o : Oper) (d : Nat), pre[i]? = some o → o.dst = some d → d < C.n ∧ get e d = none := fun i o d hi hd => by
    have := (List.all_eq_true.1 hfresh.2) d (List.mem_filterMap.2 ⟨o, List.mem_of_getElem? hi, hd⟩)
    rw [Bool.and_eq_true] at this
    exact ⟨by simpa [Nat.blt_eq] using this.1, by simpa using this.2⟩
  have hdist : ∀ (i j : Nat) (o p : Oper) (d : Nat), pre[i]? = some o → pre[j]? = some p → o.dst = some d → p.dst = some d → i = j := by
    have hnd := noDup_iff hfresh.1
    have key : ∀ (l : List Oper), (l.filterMap (·.dst)).Nodup → ∀ (i j : Nat) (o p : Oper) (d : Nat), l[i]? = some o → l[j]? = some p → o.dst = some d → p.dst = some d → i = j := by
      intro l
      induction l with
      | nil => intro _ i j o p d h; simp at h
      | cons x l ih =>
        intro hn i j o p d hi hj hd hd'
        have hl : (l.filterMap (·.dst)).Nodup := by
          rw [List.filterMap_cons] at hn
          split at hn
          · exact hn
          · exact (List.nodup_cons.1 hn).2
        have hx : ∀ (k : Nat) (q : Oper), l[k]? = some q → q.dst = some d → x.dst ≠ some d := fun k q hk hq he => by
          rw [List.filterMap_cons, he] at hn
          exact (List.nodup_cons.1 hn).1 (List.mem_filterMap.2 ⟨q, List.mem_of_getElem? hk, hq⟩)
        cases i with
        | zero =>
          simp at hi; subst hi
          cases j with
          | zero => rfl
          | succ j => exact absurd hd (hx j p (by simpa using hj) hd')
        | succ i =>
          cases j with
          | zero => simp at hj; subst hj; exact absurd hd' (hx i o (by simpa using hi) hd)
          | succ j => rw [ih hl i j o p d (by simpa using hi) (by simpa using hj) hd hd']
    exact key pre hnd
  refine wp_region_front (u := u) (hC w (fun _ => True)).mixed hb hcl hch (JX C pre u Rel e L) ?_ ?_ ?_ ?_
  · rintro S S' a w hS ⟨σ, ν, h1, h1', h2, h3, h4⟩
    have hff : (List.range pre.length).filter S = (List.range pre.length).filter S' := List.filter_congr fun i hi => hS i (List.mem_range.1 hi)
    refine ⟨σ, ν, fun i hi hs => h1 i hi (hS i hi ▸ hs), fun i hi hs j hj => ?_, h2, fun i o d hi hs => h3 i o d hi ?_, hff ▸ h4⟩
    · have := (hu' i hi).2 j hj
      rw [← hS j (by omega)]
      exact h1' i hi (by rw [hS i hi]; exact hs) j hj
    · rw [hS i (List.getElem?_eq_some_iff.1 hi).1]; exact hs
  · refine ⟨fun _ => undef, fun _ => [], fun _ _ h => Bool.noConfusion h, fun _ _ h => Bool.noConfusion h, ha, fun _ _ _ _ h => Bool.noConfusion h, ?_⟩
    have : (List.range pre.length).filter (fun _ => false) = [] := by simp
    rw [this]
    exact Inv.drew hw
  · rintro S a w i o ho hs husd ⟨σ, ν, h1, h1', h2, h3, h4⟩ K' hK'
    have hi : i < pre.length := (List.getElem?_eq_some_iff.1 ho).1
    obtain ⟨hund, hult⟩ := hu' i hi
    unfold wpOp
    rw [show (pre ++ suf).toArray[i]? = some o by simp [List.getElem?_append_left hi, ho]]
    have hgo : o.guard = none := by have := hg o (by simp [List.mem_of_getElem? ho]); simpa using this
    simp only [Region.wanted, hgo, if_true]
    left
    -- the chunks of those that lie before it, and the others
    have hsub : ∀ j ∈ u i, j ∈ (List.range pre.length).filter S := fun j hj => List.mem_filter.2 ⟨List.mem_range.2 (by have := hult j hj; omega), husd j hj⟩
    have hperm : ((List.range pre.length).filter S).Perm (u i ++ ((List.range pre.length).filter S).filter fun j => !(u i).contains j) := by
      rw [List.perm_ext_iff_of_nodup (List.nodup_range.filter _) (by
        rw [List.nodup_append]
        refine ⟨hund, (List.nodup_range.filter _).filter _, fun x hx y hy => ?_⟩
        rintro rfl
        have := (List.mem_filter.1 hy).2
        simp at this
        exact this hx)]
      intro j
      simp only [List.mem_append]
      constructor
      · intro hj
        by_cases hju : j ∈ u i
        · exact .inl hju
        · exact .inr (List.mem_filter.2 ⟨hj, by simpa using hju⟩)
      · rintro (h | h)
        · exact hsub j h
        · exact (List.mem_filter.1 h).1
    have hcp : (chS ν L ((List.range pre.length).filter S)).Perm (chS ν L (u i) ++ (((List.range pre.length).filter S).filter fun j => !(u i).contains j).flatMap ν) := by
      rw [chS_eq, chS_eq]
      refine ((hperm.flatMap_right ν).append_right L).trans ?_
      rw [List.flatMap_append, List.append_assoc, List.append_assoc]
      exact List.Perm.append_left _ List.perm_append_comm
    obtain ⟨S1, hA, hd, hro, _, hgo'⟩ := Inv.handOver (Inv.perm hcp h4)
    have hx := XFront_spec hfr i o ho w S1 hro
    rw [Nat.zero_add] at hx
    obtain ⟨kn, e', L1, hx, hkn, hge, hLp⟩ := tele_inst (σ := σ) (ν := ν) (known := []) (fun j hj => h1 j (by have := hult j hj; omega) (husd j hj)) (by simp) (hu2 i hi).1.2 hx
    have hes : ES (at' C w S1).n e' a := ⟨h2.size, fun t v hv => by
      rcases hge t v hv with h | ⟨j, p, hj, hp, hd, rfl⟩
      · exact h2.val t v h
      · exact h3 j p t hp (husd j hj) hd, h2.defers⟩
    refine XOp.sound (hC w S1) hes hx K' Q' (fun v L' w' hk hh => hK' _ _ ?_) w (Inv.perm hLp.symm (Inv.start hA hd))
    obtain ⟨N, hN, hE⟩ := hk
    rw [List.map_congr_left fun k hk => hkn k (.inl hk)] at hN
    have hh' : Inv C.w0 C.S0 ((N ++ chS ν L (u i)) ++ (((List.range pre.length).filter S).filter fun j => !(u i).contains j).flatMap ν) w' := hgo' _ _ (Inv.perm (hLp.append_left N) (hE _ _ _ hh))
    have hup : ∀ j, j ≠ i → (fun k => if k = i then v else σ k) j = σ j := fun j hj => by simp [hj]
    have hmap : ∀ j, (∀ k ∈ u j, k ≠ i) → (u j).map (fun k => if k = i then v else σ k) = (u j).map σ := fun j hj => List.map_congr_left fun k hk => hup k (hj k hk)
    have hclS : ∀ j, j < pre.length → S j = true → ∀ k ∈ u j, k ≠ i := fun j hj hsj k hk he => by
      have := h1' j hj hsj k hk
      rw [he, hs] at this; cases this
    refine ⟨fun k => if k = i then v else σ k, fun k => if k = i then N else ν k, fun j hj hsj => ?_, fun j hj hsj k hk => ?_, ?_, fun j p d hp hsj hd' => ?_, ?_⟩
    · by_cases hji : j = i
      · subst hji
        rw [hmap j fun k hk => by have := hult k hk; omega]
        simpa using hN
      · have hsj' : S j = true := by simpa [hji] using hsj
        rw [hmap j (hclS j hj hsj')]
        simpa [hji] using h1 j hj hsj'
    · by_cases hji : j = i
      · subst hji
        simp [husd k hk]
      · have hsj' : S j = true := by simpa [hji] using hsj
        simp [h1' j hj hsj' k hk]
    · cases hdst : o.dst with
      | none => exact h2
      | some d =>
        obtain ⟨hdn, hde⟩ := hfd i o d ho hdst
        refine ⟨by simpa [Act.put] using h2.size, fun t u hu => ?_, h2.defers⟩
        have hne : d ≠ t := fun he => by rw [he, hu] at hde; cases hde
        simpa [Act.put, Array.getElem?_setIfInBounds, hne] using h2.val t u hu
    · by_cases hji : j = i
      · subst hji
        rw [ho] at hp; cases hp
        obtain ⟨hdn, _⟩ := hfd j o d ho hd'
        simp [hd', Act.put, h2.size, hdn]
      · have hsj' : S j = true := by simpa [hji] using hsj
        have := h3 j p d hp hsj' hd'
        simp only [if_neg hji]
        cases hdst : o.dst with
        | none => exact this
        | some d' =>
          have hne : d' ≠ d := fun he => hji (hdist j i p o d hp ho hd' (by rw [hdst, he]))
          simpa [Act.put, Array.getElem?_setIfInBounds, hne] using this
    · refine Inv.perm ?_ hh'
      have hfl : ∀ (l : List Nat), (∀ k ∈ l, k ≠ i) → l.flatMap (fun k => if k = i then N else ν k) = l.flatMap ν := fun l hl => by
        induction l with
        | nil => rfl
        | cons k l ih => simp only [List.flatMap_cons, ih fun k hk => hl k (by simp [hk]), if_neg (hl k (by simp))]
      rw [chS_eq (fun k => if k = i then N else ν k)]
      refine List.Perm.trans ?_ (((filter_perm hi hs).flatMap_right _).append_right L).symm
      have hni : ∀ k ∈ (List.range pre.length).filter S, k ≠ i := fun k hk he => by
        have := (List.mem_filter.1 hk).2
        rw [he, hs] at this; cases this
      rw [List.flatMap_cons, hfl _ hni]
      simp only [if_true]
      rw [List.append_assoc, List.append_assoc]
      refine List.Perm.append_left N ?_
      rw [← chS_eq ν L]
      exact hcp.symm
  · rintro S a w hS ⟨σ, ν, h1, h1', h2, h3, h4⟩
    have hff : (List.range pre.length).filter S = List.range pre.length := List.filter_eq_self.2 fun i hi => hS i (List.mem_range.1 hi)
    rw [hff] at h4
    obtain ⟨kn, e', L1, hx, _, hge, hLp⟩ := tele_inst (σ := σ) (ν := ν) (known := []) (fun j hj => h1 j (List.mem_range.1 hj) (hS j (List.mem_range.1 hj))) (by simp) htr hend
    refine XSuf.sound (ops := pre ++ suf) (hC C.w0 C.S0) hQ hg suf pre.length (by simp) ?_ (Inv.perm hLp.symm h4) hx
    exact ⟨h2.size, fun t v hv => by
      rcases hge t v hv with h | ⟨j, p, hj, hp, hd, rfl⟩
      · exact h2.val t v h
      · exact h3 j p t hp (hS j (List.mem_range.1 hj)) hd, h2.defers⟩

/-- A region that draws: pre in any order along its edges, then suf. -/
theorem drawF {C : Ctx} [hC : ∀ w S, CtxOk (at' C w S)] {ops : List Oper} {e : Env} {L : List Chunk} {K : Env → List Chunk → Prop} (n : Nat) (u : Nat → List Nat) (Rel : RelT) (hok : frontOk C.n e (ops.take n) (ops.drop n) u = true)
    (hfr : XFront C (ops.take n) u Rel e L (ops.take n) 0) (hend : tele (ops.take n) u Rel (fun _ e' L' => XSuf C K (ops.drop n) e' L') (List.range (ops.take n).length) [] e L) : XDrawS C ops e L K := by
  unfold XDrawS
  intro id Q a w hQ ha hw
  have := XFront.sound (id := id) hC hQ ha hw hok hfr hend
  rwa [List.take_append_drop] at this
end
end Go.X
