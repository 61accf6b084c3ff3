/- Regions that draw their order: what needs no memory comes at any time, what reads comes ahead of all that writes, what writes comes one behind the other. -/
import Derived.Test.YtfebaopjfmpfkaaDoorX17
namespace Go.X
set_option linter.unusedVariables false
set_option linter.unusedSimpArgs false

abbrev RelV := Nat → List Value → Value → Prop
def relT (Rel : RelV) : RelT := fun i vals v N => N = [] ∧ Rel i vals v
def baseAt (bases : List (List Chunk)) (k : Nat) : List Chunk := (lget bases k).getD []
/-- Where an operation stands among the writers: its number, if it is one. -/
def memNo : List Nat → Nat → Option Nat
  | [], _ => none
  | m :: ms, i => match Nat.beq m i with
    | true => some 0
    | false => match memNo ms i with
      | some k => some (k + 1)
      | none => none
/-- Each operation: a writer, a reader, or one that needs no memory. -/
def XEach (C : Ctx) (pre : List Oper) (r : Nat → List Nat) (Rel : RelV) (mems readers : List Nat) (bases : List (List Chunk)) (e : Env) (os : List Oper) : Nat → Prop :=
  List.rec (motive := fun _ => Nat → Prop) (fun _ => True)
    (fun o _ ih i => (match memNo mems i with
      | some k => tele pre r (relT Rel) (fun kn e' _ => XOp C o e' (baseAt bases k) fun v L' => Rel i ((r i).map (kf kn)) v ∧ Ent L' (baseAt bases (k + 1))) (r i) [] e []
      | none => match readers.contains i with
        | true => tele pre r (relT Rel) (fun kn e' _ => XV C o e' (baseAt bases 0) fun v => Rel i ((r i).map (kf kn)) v) (r i) [] e []
        | false => tele pre r (relT Rel) (fun kn e' _ => XV C o e' [] fun v => Rel i ((r i).map (kf kn)) v) (r i) [] e []) ∧ ih (i + 1)) os
def memsOk (u : Nat → List Nat) (readers : List Nat) : List Nat → List Nat → Bool
  | _, [] => true
  | before, m :: ms => before.all (fun j => (u m).contains j) && readers.all (fun j => (u m).contains j) && !before.contains m && memsOk u readers (m :: before) ms
def eachOk (n : Nat) (e : Env) (ops : List Oper) (u r : Nat → List Nat) (mems readers : List Nat) : Bool :=
  backB ops 0 && closB ops u ops.length && freshB n e (ops.filterMap (·.dst)) && ops.all (·.guard.isNone) && ((List.range ops.length).all fun i => teleB r [] (r i) && (r i).all (fun j => (u i).contains j) && (r i).all (Nat.blt · i)) && teleB r [] (List.range ops.length) &&
    memsOk u readers [] mems && mems.all (Nat.blt · ops.length)

theorem XEach_spec {C : Ctx} {pre : List Oper} {r : Nat → List Nat} {Rel : RelV} {mems readers : List Nat} {bases : List (List Chunk)} {e : Env} : ∀ {os : List Oper} {k : Nat}, XEach C pre r Rel mems readers bases e os k → ∀ i o, os[i]? = some o →
    (match memNo mems (k + i) with
      | some j => tele pre r (relT Rel) (fun kn e' _ => XOp C o e' (baseAt bases j) fun v L' => Rel (k + i) ((r (k + i)).map (kf kn)) v ∧ Ent L' (baseAt bases (j + 1))) (r (k + i)) [] e []
      | none => match readers.contains (k + i) with
        | true => tele pre r (relT Rel) (fun kn e' _ => XV C o e' (baseAt bases 0) fun v => Rel (k + i) ((r (k + i)).map (kf kn)) v) (r (k + i)) [] e []
        | false => tele pre r (relT Rel) (fun kn e' _ => XV C o e' [] fun v => Rel (k + i) ((r (k + i)).map (kf kn)) v) (r (k + i)) [] e [])
  | [], _, _, i, o, h => by simp at h
  | x :: os, k, ⟨h1, h2⟩, 0, o, h => by simp at h; subst h; exact h1
  | x :: os, k, ⟨h1, h2⟩, i + 1, o, h => by
    have := XEach_spec (os := os) (k := k + 1) h2 i o (by simpa using h)
    rwa [show k + 1 + i = k + (i + 1) by omega] at this

theorem memNo_some : ∀ {ms : List Nat} {i k : Nat}, memNo ms i = some k → ms[k]? = some i
  | [], _, _, h => by cases h
  | m :: ms, i, k, h => by
    simp only [memNo] at h
    cases hb : Nat.beq m i with
    | true => simp [hb] at h; subst h; rw [← Nat.eq_of_beq_eq_true hb]; rfl
    | false =>
      simp only [hb] at h
      cases hm : memNo ms i with
      | none => simp [hm] at h
      | some j => simp [hm] at h; subst h; simpa using memNo_some hm
theorem memNo_none : ∀ {ms : List Nat} {i : Nat}, memNo ms i = none → i ∉ ms
  | [], _, _ => by simp
  | m :: ms, i, h => by
    simp only [memNo] at h
    cases hb : Nat.beq m i with
    | true => simp [hb] at h
    | false =>
      simp only [hb] at h
      cases hm : memNo ms i with
      | some j => simp [hm] at h
      | none =>
        intro hi
        rcases List.mem_cons.1 hi with rfl | hi
        · simp at hb
        · exact memNo_none hm hi
theorem memsOk_spec {u : Nat → List Nat} {readers : List Nat} : ∀ {ms before : List Nat}, memsOk u readers before ms = true → (∀ (k m : Nat), ms[k]? = some m → (∀ j ∈ before, j ∈ u m) ∧ (∀ j ∈ readers, j ∈ u m) ∧ m ∉ before ∧ (∀ (k' m' : Nat), k' < k → ms[k']? = some m' → m' ∈ u m ∧ m' ≠ m))
  | [], _, _, k, m, h => by simp at h
  | x :: ms, before, hok, 0, m, h => by
    simp only [memsOk, Bool.and_eq_true] at hok
    simp at h; subst h
    refine ⟨fun j hj => ?_, fun j hj => ?_, by simpa using hok.1.2, fun k' m' hk => by omega⟩
    · have := (List.all_eq_true.1 hok.1.1.1) j hj; simpa using this
    · have := (List.all_eq_true.1 hok.1.1.2) j hj; simpa using this
  | x :: ms, before, hok, k + 1, m, h => by
    simp only [memsOk, Bool.and_eq_true] at hok
    obtain ⟨h1, h2, h3, h4⟩ := memsOk_spec hok.2 k m (by simpa using h)
    refine ⟨fun j hj => h1 j (by simp [hj]), h2, fun hm => h3 (by simp [hm]), fun k' m' hk hm' => ?_⟩
    cases k' with
    | zero => simp at hm'; subst hm'; exact ⟨h1 _ (by simp), fun he => h3 (by simp [he])⟩
    | succ k' => exact h4 k' m' (by omega) (by simpa using hm')

theorem each_sound {C : Ctx} (hC : CtxOk C) {id : Nat} {ops : List Oper} {u r : Nat → List Nat} {Rel : RelV} {mems readers : List Nat} {bases : List (List Chunk)} {e : Env} {K : Env → List Chunk → Prop} {Q' : Exit → Act → World → Prop} (hQ : ∀ e a L w, ES C.n e a → Holds C L w → K e L → Q' .normal a w) {a : Act} {w : World}
    (ha : ES C.n e a) (hw : Holds C (baseAt bases 0) w) (hok : eachOk C.n e ops u r mems readers = true) (he : XEach C ops r Rel mems readers bases e ops 0)
    (hend : tele ops r (relT Rel) (fun _ e' _ => K e' (baseAt bases mems.length)) (List.range ops.length) [] e []) : (Code.region id ops.toArray true).wp C.P Q' a w := by
  simp only [eachOk, Bool.and_eq_true] at hok
  obtain ⟨⟨⟨⟨⟨⟨⟨hb, hcl⟩, hfresh⟩, hgd⟩, hu⟩, htr⟩, hmo⟩, hml⟩ := hok
  have hg : ∀ o ∈ ops, o.guard.isNone = true := List.all_eq_true.1 hgd
  have hm1 := memsOk_spec hmo
  have hu2 : ∀ i, i < ops.length → teleB r [] (r i) = true ∧ (∀ j ∈ r i, j ∈ u i) ∧ ∀ j ∈ r i, j < i := fun i hi => by
    have := (List.all_eq_true.1 hu) i (List.mem_range.2 hi)
    rw [Bool.and_eq_true, Bool.and_eq_true] at this
    exact ⟨this.1.1, fun j hj => by have := (List.all_eq_true.1 this.1.2) j hj; simpa using this, fun j hj => by have := (List.all_eq_true.1 this.2) j hj; simpa [Nat.blt_eq] using this⟩
  simp only [freshB, Bool.and_eq_true] at hfresh
  have hfd : ∀ (i : Nat) (o : Oper) (d : Nat), ops[i]? = some o → o.dst = some d → d < C.n ∧ get e d = none := fun i o d hi hd => by
    have := (List.all_eq_true.1 hfresh.2) d (List.mem_filterMap.2 ⟨o, List.mem_of_getElem? hi, hd⟩)
    rw [Bool.and_eq_true] at this
    exact ⟨by simpa [Nat.blt_eq] using this.1, by simpa using this.2⟩
  have hdist : ∀ (i j : Nat) (o p : Oper) (d : Nat), ops[i]? = some o → ops[j]? = some p → o.dst = some d → p.dst = some d → i = j := by
    have hnd := noDup_iff hfresh.1
    have key : ∀ (l : List Oper), (l.filterMap (·.dst)).Nodup → ∀ (i j : Nat) (o p : Oper) (d : Nat), l[i]? = some o → l[j]? = some p → o.dst = some d → p.dst = some d → i = j := by
      intro l
      induction l with
      | nil => intro _ i j o p d h; simp at h
      | cons x l ih =>
        intro hn i j o p d hi hj hd hd'
        have hl : (l.filterMap (·.dst)).Nodup := by
          rw [List.filterMap_cons] at hn
          split at hn
          · exact hn
          · exact (List.nodup_cons.1 hn).2
        have hx : ∀ (k : Nat) (q : Oper), l[k]? = some q → q.dst = some d → x.dst ≠ some d := fun k q hk hq he => by
          rw [List.filterMap_cons, he] at hn
          exact (List.nodup_cons.1 hn).1 (List.mem_filterMap.2 ⟨q, List.mem_of_getElem? hk, hq⟩)
        cases i with
        | zero =>
          simp at hi; subst hi
          cases j with
          | zero => rfl
          | succ j => exact absurd hd (hx j p (by simpa using hj) hd')
        | succ i =>
          cases j with
          | zero => simp at hj; subst hj; exact absurd hd' (hx i o (by simpa using hi) hd)
          | succ j => rw [ih hl i j o p d (by simpa using hi) (by simpa using hj) hd hd']
    exact key ops hnd
  have e1 : ops.toArray = (ops ++ []).toArray := by rw [List.append_nil]
  rw [e1]
  refine wp_region_front (u := u) hC.mixed (by rw [List.append_nil]; exact hb) hcl rfl
    (fun S a w => ∃ (σ : Nat → Value), (∀ i, i < ops.length → S i = true → Rel i ((r i).map σ) (σ i)) ∧ (∀ i, i < ops.length → S i = true → ∀ j ∈ u i, S j = true) ∧ ES C.n e a ∧
      (∀ (i : Nat) (o : Oper) (d : Nat), ops[i]? = some o → S i = true → o.dst = some d → a.tmps[d]? = some (σ i)) ∧ Holds C (baseAt bases (mems.filter S).length) w) ?_ ?_ ?_ ?_
  · rintro S S' a w hS ⟨σ, h1, h1', h2, h3, h4⟩
    have hff : mems.filter S = mems.filter S' := List.filter_congr fun i hi => hS i (by have := (List.all_eq_true.1 hml) i hi; simpa [Nat.blt_eq] using this)
    have hul : ∀ i, i < ops.length → ∀ j ∈ u i, j < ops.length := fun i hi j hj => by
      have ho : ops[i]? = some ops[i] := by simp [hi]
      have hsp := backB_spec hb
      have hclo := closB_spec hcl
      have : ∀ (n i : Nat), i ≤ n → i < ops.length → ∀ j ∈ u i, j < ops.length := by
        intro n
        induction n with
        | zero =>
          intro i hin hi j hj
          rcases hclo i ops[i] hi (by simp [hi]) j hj with h | ⟨d, hd, _⟩
          · have := (hsp i ops[i] (by simp [hi])).1 j h; omega
          · have := (hsp i ops[i] (by simp [hi])).1 d hd; omega
        | succ n ih =>
          intro i hin hi j hj
          rcases hclo i ops[i] hi (by simp [hi]) j hj with h | ⟨d, hd, hjd⟩
          · have := (hsp i ops[i] (by simp [hi])).1 j h; omega
          · have hdi := (hsp i ops[i] (by simp [hi])).1 d hd
            exact ih d (by omega) (by omega) j hjd
      exact this i i (Nat.le_refl _) hi j hj
    exact ⟨σ, fun i hi hs => h1 i hi (hS i hi ▸ hs), fun i hi hs j hj => by
      rw [← hS j (hul i hi j hj)]
      exact h1' i hi (by rw [hS i hi]; exact hs) j hj, h2, fun i o d hi hs => h3 i o d hi (by rw [hS i (List.getElem?_eq_some_iff.1 hi).1]; exact hs), hff ▸ h4⟩
  · refine ⟨fun _ => undef, fun _ _ h => Bool.noConfusion h, fun _ _ h => Bool.noConfusion h, ha, fun _ _ _ _ h => Bool.noConfusion h, ?_⟩
    have : mems.filter (fun _ => false) = [] := by simp
    rw [this]
    exact Inv.drew hw
  · rintro S a w i o ho hs husd ⟨σ, h1, h1', h2, h3, h4⟩ K' hK'
    have hi : i < ops.length := (List.getElem?_eq_some_iff.1 ho).1
    obtain ⟨ht, hru, hrlt⟩ := hu2 i hi
    unfold wpOp
    have ho' : (ops ++ ([] : List Oper)).toArray[i]? = some o := by simpa using ho
    rw [ho']
    have hgo : o.guard = none := by have := hg o (List.mem_of_getElem? ho); simpa using this
    simp only [Region.wanted, hgo, if_true]
    left
    have hspec := XEach_spec he i o ho
    rw [Nat.zero_add] at hspec
    have hrel : ∀ j ∈ r i, relT Rel j ((r j).map σ) (σ j) ((fun _ => []) j) := fun j hj => ⟨rfl, h1 j (by have := hrlt j hj; omega) (husd j (hru j hj))⟩
    have hup : ∀ v j, j ≠ i → (fun k => if k = i then v else σ k) j = σ j := fun v j hj => by simp [hj]
    have hmap : ∀ v j, (∀ k ∈ r j, k ≠ i) → (r j).map (fun k => if k = i then v else σ k) = (r j).map σ := fun v j hj => List.map_congr_left fun k hk => hup v k (hj k hk)
    have hclS : ∀ j, j < ops.length → S j = true → ∀ k ∈ r j, k ≠ i := fun j hj hsj k hk he => by
      have := h1' j hj hsj k ((hu2 j hj).2.1 k hk)
      rw [he, hs] at this; cases this
    -- the next state, whatever the operation was
    have next : ∀ v w', Rel i ((r i).map σ) v → Holds C (baseAt bases (mems.filter fun j => S j || j == i).length) w' → K' (a.put o.dst v) w' := fun v w' hN hw' => hK' _ _ ⟨fun k => if k = i then v else σ k, fun j hj hsj => by
      by_cases hji : j = i
      · subst hji
        rw [hmap v j fun k hk => by have := hrlt k hk; omega]
        simpa using hN
      · have hsj' : S j = true := by simpa [hji] using hsj
        rw [hmap v j (hclS j hj hsj')]
        simpa [hji] using h1 j hj hsj', fun j hj hsj k hk => by
      by_cases hji : j = i
      · subst hji
        simp [husd k hk]
      · have hsj' : S j = true := by simpa [hji] using hsj
        simp [h1' j hj hsj' k hk], by
      cases hdst : o.dst with
      | none => exact h2
      | some d =>
        obtain ⟨hdn, hde⟩ := hfd i o d ho hdst
        refine ⟨by simpa [Act.put] using h2.size, fun t u hu => ?_, h2.defers⟩
        have hne : d ≠ t := fun he => by rw [he, hu] at hde; cases hde
        simpa [Act.put, Array.getElem?_setIfInBounds, hne] using h2.val t u hu, fun j p d hp hsj hd' => by
      by_cases hji : j = i
      · subst hji
        rw [ho] at hp; cases hp
        obtain ⟨hdn, _⟩ := hfd j o d ho hd'
        simp [hd', Act.put, h2.size, hdn]
      · have hsj' : S j = true := by simpa [hji] using hsj
        have := h3 j p d hp hsj' hd'
        simp only [if_neg hji]
        cases hdst : o.dst with
        | none => exact this
        | some d' =>
          have hne : d' ≠ d := fun he => hji (hdist j i p o d hp ho hd' (by rw [hdst, he]))
          simpa [Act.put, Array.getElem?_setIfInBounds, hne] using this, hw'⟩
    have hnoti : ∀ (hn : i ∉ mems), (mems.filter fun j => S j || j == i) = mems.filter S := fun hn => List.filter_congr fun j hj => by
      have : (j == i) = false := by simp; exact fun h => hn (h ▸ hj)
      simp [this]
    have slots : ∀ e', (∀ t v, get e' t = some v → get e t = some v ∨ ∃ j o, j ∈ r i ∧ ops[j]? = some o ∧ o.dst = some t ∧ v = σ j) → ES C.n e' a := fun e' hge => ⟨h2.size, fun t v hv => by
      rcases hge t v hv with h | ⟨j, p, hj, hp, hd, rfl⟩
      · exact h2.val t v h
      · exact h3 j p t hp (husd j (hru j hj)) hd, h2.defers⟩
    cases hmn : memNo mems i with
    | some k =>
      simp only [hmn] at hspec
      have hk := memNo_some hmn
      -- just the first k writers have been
      have hcnt : mems.filter S = mems.take k ∧ (mems.filter fun j => S j || j == i) = mems.take (k + 1) := by
        have hearly : ∀ (k' m' : Nat), k' < k → mems[k']? = some m' → S m' = true := fun k' m' hlt hm' => husd m' ((hm1 k i hk).2.2.2 k' m' hlt hm').1
        have hlate : ∀ (k' m' : Nat), k < k' → mems[k']? = some m' → S m' = false ∧ m' ≠ i := fun k' m' hlt hm' => by
          have h5 := (hm1 k' m' hm').2.2.2 k i hlt hk
          have hml' : m' < ops.length := by have := (List.all_eq_true.1 hml) m' (List.mem_of_getElem? hm'); simpa [Nat.blt_eq] using this
          refine ⟨?_, fun h => h5.2 h.symm⟩
          cases hsm : S m' with
          | false => rfl
          | true => have := h1' m' hml' hsm i h5.1; rw [hs] at this; cases this
        have key : ∀ (f : Nat → Bool) (l : List Nat) (n : Nat), (∀ (k' m' : Nat), k' < n → l[k']? = some m' → f m' = true) → (∀ (k' m' : Nat), n ≤ k' → l[k']? = some m' → f m' = false) → l.filter f = l.take n := by
          intro f l
          induction l with
          | nil => intros; simp
          | cons x l ih =>
            intro n hx1 hx2
            cases n with
            | zero =>
              have h0 := hx2 0 x (Nat.le_refl _) rfl
              rw [List.filter_cons, if_neg (by simp [h0]), ih 0 (fun k' m' h => by omega) (fun k' m' h hm => hx2 (k' + 1) m' (by omega) (by simpa using hm))]
              simp
            | succ n =>
              have h0 := hx1 0 x (by omega) rfl
              rw [List.filter_cons, if_pos h0, ih n (fun k' m' h hm => hx1 (k' + 1) m' (by omega) (by simpa using hm)) (fun k' m' h hm => hx2 (k' + 1) m' (by omega) (by simpa using hm))]
              simp
        refine ⟨key S mems k hearly fun k' m' hge hm' => ?_, key _ mems (k + 1) (fun k' m' hlt hm' => ?_) fun k' m' hge hm' => ?_⟩
        · rcases Nat.eq_or_lt_of_le hge with rfl | h
          · rw [hk] at hm'; cases hm'; exact hs
          · exact (hlate k' m' h hm').1
        · rcases Nat.lt_or_ge k' k with h | h
          · simp [hearly k' m' h hm']
          · obtain rfl : k' = k := by omega
            rw [hk] at hm'; cases hm'; simp
        · obtain ⟨q1, q2⟩ := hlate k' m' (by omega) hm'
          simp [q1, q2]
      have hklt : k < mems.length := (List.getElem?_eq_some_iff.1 hk).1
      rw [hcnt.1, List.length_take, Nat.min_eq_left (by omega)] at h4
      obtain ⟨kn, e', L1, hx, hkn, hge, _⟩ := tele_inst (σ := σ) (ν := fun _ => []) (known := []) hrel (by simp) ht hspec
      refine XOp.sound hC (slots e' hge) hx K' Q' (fun v L' w' hk' hh => next v w' ?_ ?_) w h4
      · have := hk'.1
        rwa [List.map_congr_left fun k hk => hkn k (.inl hk)] at this
      · rw [hcnt.2, List.length_take, Nat.min_eq_left (by omega)]
        exact hk'.2 _ _ _ hh
    | none =>
      simp only [hmn] at hspec
      have hnm := memNo_none hmn
      have pure : ∀ L1 e', (∀ t v, get e' t = some v → get e t = some v ∨ ∃ j o, j ∈ r i ∧ ops[j]? = some o ∧ o.dst = some t ∧ v = σ j) → Holds C L1 w → XV C o e' L1 (fun v => Rel i ((r i).map σ) v) → o.wp C.P a w K' Q' := fun L1 e' hge hL hx => by
        obtain ⟨v, hv, hrun⟩ := XV.sound hC.tab (slots e' hge) hx
        unfold Oper.wp
        rw [hrun w hL]
        exact next v w hv (by rw [hnoti hnm]; exact h4)
      cases hrd : readers.contains i with
      | true =>
        simp only [hrd] at hspec
        have hir : i ∈ readers := by simpa using hrd
        have hz : mems.filter S = [] := List.filter_eq_nil_iff.2 fun m hm hsm => by
          obtain ⟨k, hk⟩ := List.mem_iff_getElem?.1 hm
          have hml' : m < ops.length := by have := (List.all_eq_true.1 hml) m hm; simpa [Nat.blt_eq] using this
          have := h1' m hml' hsm i ((hm1 k m hk).2.1 i hir)
          rw [hs] at this; cases this
        obtain ⟨kn, e', L1, hx, hkn, hge, _⟩ := tele_inst (σ := σ) (ν := fun _ => []) (known := []) hrel (by simp) ht hspec
        rw [List.map_congr_left fun k hk => hkn k (.inl hk)] at hx
        exact pure _ e' hge (by rw [hz] at h4; exact h4) hx
      | false =>
        simp only [hrd] at hspec
        obtain ⟨kn, e', L1, hx, hkn, hge, _⟩ := tele_inst (σ := σ) (ν := fun _ => []) (known := []) hrel (by simp) ht hspec
        rw [List.map_congr_left fun k hk => hkn k (.inl hk)] at hx
        exact pure [] e' hge ⟨h4.1, fun _ => False, trivial, fun _ h => h.elim⟩ hx
  · rintro S a w hS ⟨σ, h1, h1', h2, h3, h4⟩
    have hff : mems.filter S = mems := List.filter_eq_self.2 fun i hi => hS i (by have := (List.all_eq_true.1 hml) i hi; simpa [Nat.blt_eq] using this)
    rw [hff] at h4
    obtain ⟨kn, e', L1, hx, _, hge, _⟩ := tele_inst (σ := σ) (ν := fun _ => []) (known := []) (fun j hj => ⟨rfl, h1 j (List.mem_range.1 hj) (hS j (List.mem_range.1 hj))⟩) (by simp) htr hend
    refine hQ e' a _ w ?_ h4 hx
    exact ⟨h2.size, fun t v hv => by
      rcases hge t v hv with h | ⟨j, p, hj, hp, hd, rfl⟩
      · exact h2.val t v h
      · exact h3 j p t hp (hS j (List.mem_range.1 hj)) hd, h2.defers⟩

/-- A region that draws, by each of its operations. -/
theorem drawE {C : Ctx} [hC : CtxOk C] {ops : List Oper} {e : Env} {L : List Chunk} {K : Env → List Chunk → Prop} (u r : Nat → List Nat) (Rel : RelV) (mems readers : List Nat) (bases : List (List Chunk)) (hL : baseAt bases 0 = L) (hok : eachOk C.n e ops u r mems readers = true)
    (he : XEach C ops r Rel mems readers bases e ops 0) (hend : tele ops r (relT Rel) (fun _ e' _ => K e' (baseAt bases mems.length)) (List.range ops.length) [] e []) : XDrawS C ops e L K := by
  unfold XDrawS
  intro id Q a w hQ ha hw
  subst hL
  exact each_sound hC hQ ha hw hok he hend
end Go.X
