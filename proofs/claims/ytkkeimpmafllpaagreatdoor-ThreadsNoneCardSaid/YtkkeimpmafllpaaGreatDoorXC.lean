/- A whole element of an owned slice is written; a slice is cloned. -/
import Derived.Test.YtkkeimpmafllpaaGreatDoorXB
import Derived.Maps.AppendAt
import Derived.Laws.MakeOwn
namespace Go.X
set_option linter.unusedVariables false
set_option linter.unusedSimpArgs false

theorem over_get : ∀ (vs cs : List Value) (i k : Nat), i + vs.length ≤ cs.length → (over cs i vs)[k]? = if i ≤ k ∧ k < i + vs.length then vs[k - i]? else cs[k]?
  | [], cs, i, k, _ => by
    have : ¬ (i ≤ k ∧ k < i + ([] : List Value).length) := by simp
    rw [if_neg this]
    cases cs <;> cases i <;> rfl
  | v :: vs, [], i, k, h => by simp at h
  | v :: vs, a :: cs, 0, k, h => by
    simp only [over]
    cases k with
    | zero => simp
    | succ k =>
      have := over_get vs cs 0 k (by simp at h ⊢; omega)
      simp only [List.getElem?_cons_succ, this]
      by_cases hk : k < vs.length
      · rw [if_pos ⟨by omega, by omega⟩, if_pos ⟨by omega, by simp; omega⟩]; simp
      · rw [if_neg (by omega), if_neg (by simp; omega)]
  | v :: vs, a :: cs, i + 1, k, h => by
    simp only [over]
    cases k with
    | zero => simp
    | succ k =>
      have := over_get (v :: vs) cs i k (by simp at h ⊢; omega)
      simp only [List.getElem?_cons_succ, this]
      by_cases hk : i ≤ k ∧ k < i + (v :: vs).length
      · rw [if_pos hk, if_pos ⟨by omega, by omega⟩, show k + 1 - (i + 1) = k - i by omega]
      · rw [if_neg hk, if_neg (by omega)]
theorem over_len : ∀ (vs cs : List Value) (i : Nat), (over cs i vs).length = cs.length
  | [], cs, i => by cases cs <;> cases i <;> rfl
  | v :: vs, [], i => by cases i <;> rfl
  | v :: vs, a :: cs, 0 => by simp [over, over_len vs cs 0]
  | v :: vs, a :: cs, i + 1 => by simp [over, over_len (v :: vs) cs i]

theorem flat_set {α : Type} {sz : Nat} {enc : α → List Value} {xs : List α} {i : Nat} {x : α} (hl : ∀ x ∈ xs, (enc x).length = sz) (hx : (enc x).length = sz) (hi : i < xs.length) : over (xs.flatMap enc) (i * sz) (enc x) = (xs.set i x).flatMap enc := by
  induction xs generalizing i with
  | nil => simp at hi
  | cons y ys ih =>
    have hy := hl y (by simp)
    have key : ∀ (l m vs : List Value) (k : Nat), over (l ++ m) (l.length + k) vs = l ++ over m k vs := by
      intro l m vs k
      induction l with
      | nil => simp
      | cons a l ih =>
        cases vs with
        | nil => simp [over]
        | cons v vs => rw [List.length_cons, show l.length + 1 + k = (l.length + k) + 1 by omega]; simp only [List.cons_append, over, ih]
    have key0 : ∀ (l m vs : List Value), l.length = vs.length → over (l ++ m) 0 vs = vs ++ m := by
      intro l
      induction l with
      | nil => intro m vs h; have : vs = [] := List.eq_nil_of_length_eq_zero h.symm; subst this; cases m <;> rfl
      | cons a l ih =>
        intro m vs h
        cases vs with
        | nil => simp at h
        | cons v vs => simp only [List.cons_append, over, ih m vs (by simpa using h)]
    cases i with
    | zero =>
      simp only [Nat.zero_mul, List.set_cons_zero, List.flatMap_cons]
      exact key0 _ _ _ (by rw [hy, hx])
    | succ i =>
      simp only [List.set_cons_succ, List.flatMap_cons]
      rw [← ih (fun x hx => hl x (by simp [hx])) (by simpa using hi), show (i + 1) * sz = (enc y).length + i * sz from (Nat.succ_mul i sz).trans (by rw [hy]; exact Nat.add_comm _ _)]
      exact key _ _ _ _

section
variable {α : Type} {C : Ctx} {L : List Chunk} {e : TypeId} {sz cap : Nat} {enc : α → List Value} {xs : List α}

/-- Store a whole element. -/
theorem stO [hC : CtxOk C] {t : TypeId} {g off : Nat} {v : Value} {R : Unit → List Chunk → Prop} {ti : TyI} (k i : Nat) (x : α) (hk : lget L k = some (own (some ⟨g, 0, none⟩) cap e sz enc xs)) (hl : ∀ x ∈ xs, (enc x).length = sz) (hx : (enc x).length = sz) (hi : i < xs.length)
    (hv : cellsL v = enc x) (hti : tget C.tab t = some ti) (hs : ti.size = sz) (h1 : (enc x).all Value.oneCell' = true) (hoff : off = i * sz) (hR : R () (setL L k (own (some ⟨g, 0, none⟩) cap e sz enc (xs.set i x)))) : Does C L (Instr.storeAt t (.pointer (some ⟨g, off, none⟩)) v) R := by
  intro w hw
  subst hoff
  obtain ⟨T, hT⟩ := hw.mem hk
  obtain ⟨y, hy⟩ : ∃ y, xs[i]? = some y := ⟨xs[i], by simp [hi]⟩
  obtain ⟨_, hrow⟩ := hT
  rcases hrow.2 with ⟨he, h0⟩ | ⟨g', c, cur, he, _, hg, hn, hm, hcs, ht⟩
  · cases he
  cases he
  have hb : w.heap[g]? = some (.cells cur.toList.toArray e (0, 0)) := by simpa using hg
  have hfl := flat_len hl
  have hcl : cur.toList.length = cap * sz := by simpa using hcs
  have hmul : xs.length * sz ≤ cap * sz := Nat.mul_le_mul_right _ hn
  have hisz : i * sz + sz ≤ xs.length * sz := by rw [← Nat.succ_mul]; exact Nat.mul_le_mul_right _ hi
  obtain ⟨w', r1, r2, r3, r4, r5, r6, r7⟩ := run_storeCells (P := C.P) (enc x) w cur.toList (i * sz) 0 (List.all_eq_true.1 h1) (by omega) hb
  have hsz := run_sizeOf' (w := w) (hC.tab.get hti)
  refine ⟨(), w', _, ?_, hw.turnAt (d := own (some ⟨g, 0, none⟩) cap e sz enc (xs.set i x)) hk (fun S1 hS1 hd1 => ?_), hR⟩
  · have e1 : v.cells.size = ti.size := by rw [cellsL_eq, hv, hs]; simpa using hx
    have e2 : v.cells.toList = enc x := by rw [cellsL_eq, hv]
    simp only [Instr.storeAt, Instr.sureAddr, Sem.run_bind, Sem.run_pure, Result.andThen_ok, storeVar, hsz, e1, ne_eq, not_true_eq_false, if_false, e2]
    exact r1
  · have hS1g : S1 g := (hS1.1 g).2 rfl
    refine Inv.one (T := S1) ⟨r5, r6, r7, by omega, fun k _ hk => r4 k fun he => hk (he ▸ hS1g)⟩ ⟨fun k => (hS1.1 k).trans (by simp [Value.ownBlock]), ?_⟩ fun _ h => .inl h
    have hset : (xs.set i x).length = xs.length := by simp
    rw [hset]
    refine ⟨?_, .inr ⟨g, cap, (over cur.toList (i * sz) (enc x)).toArray, rfl, Nat.zero_le _, by simpa using r2, hn, hm, by simp [over_len, hcl], ?_⟩⟩
    · rw [flat_len fun y hy => by
        rcases List.mem_or_eq_of_mem_set hy with h | rfl
        · exact hl y h
        · exact hx, hset]
    · rw [← flat_set hl hx hi, ← ht]
      apply List.ext_getElem?
      intro k
      simp only [List.toList_toArray]
      rw [List.getElem?_take, over_get _ _ _ _ (by omega), over_get _ _ _ _ (by simp; omega), List.getElem?_take]
      by_cases h1 : k < xs.length * sz
      · simp [h1]
      · have : ¬ (i * sz ≤ k ∧ k < i * sz + (enc x).length) := by omega
        simp [h1, this]
end
end Go.X

/- Regions that draw their order: what needs no memory comes at any time, what reads comes ahead of all that writes, what writes comes one behind the other. -/
namespace Go.X
set_option linter.unusedVariables false
set_option linter.unusedSimpArgs false

abbrev RelV := Nat → List Value → Value → Prop
def relT (Rel : RelV) : RelT := fun i vals v N => N = [] ∧ Rel i vals v
def baseAt (bases : List (List Chunk)) (k : Nat) : List Chunk := (lget bases k).getD []
/-- Where an operation stands among the writers: its number, if it is one. -/
def memNo : List Nat → Nat → Option Nat
  | [], _ => none
  | m :: ms, i => match Nat.beq m i with
    | true => some 0
    | false => match memNo ms i with
      | some k => some (k + 1)
      | none => none
/-- Each operation: a writer, a reader, or one that needs no memory. -/
def XEach (C : Ctx) (pre : List Oper) (r : Nat → List Nat) (Rel : RelV) (mems readers : List Nat) (bases : List (List Chunk)) (e : Env) (os : List Oper) : Nat → Prop :=
  List.rec (motive := fun _ => Nat → Prop) (fun _ => True)
    (fun o _ ih i => (match memNo mems i with
      | some k => tele pre r (relT Rel) (fun kn e' _ => XOp C o e' (baseAt bases k) fun v L' => Rel i ((r i).map (kf kn)) v ∧ Ent L' (baseAt bases (k + 1))) (r i) [] e []
      | none => match readers.contains i with
        | true => tele pre r (relT Rel) (fun kn e' _ => XV C o e' (baseAt bases 0) fun v => Rel i ((r i).map (kf kn)) v) (r i) [] e []
        | false => tele pre r (relT Rel) (fun kn e' _ => XV C o e' [] fun v => Rel i ((r i).map (kf kn)) v) (r i) [] e []) ∧ ih (i + 1)) os
def memsOk (u : Nat → List Nat) (readers : List Nat) : List Nat → List Nat → Bool
  | _, [] => true
  | before, m :: ms => before.all (fun j => (u m).contains j) && readers.all (fun j => (u m).contains j) && !before.contains m && memsOk u readers (m :: before) ms
def eachOk (n : Nat) (e : Env) (ops : List Oper) (u r : Nat → List Nat) (mems readers : List Nat) : Bool :=
  backB ops 0 && closB ops u ops.length && freshB n e (ops.filterMap (·.dst)) && ops.all (·.guard.isNone) && ((List.range ops.length).all fun i => teleB r [] (r i) && (r i).all (fun j => (u i).contains j) && (r i).all (Nat.blt · i)) && teleB r [] (List.range ops.length) &&
    memsOk u readers [] mems && mems.all (Nat.blt · ops.length)

theorem XEach_spec {C : Ctx} {pre : List Oper} {r : Nat → List Nat} {Rel : RelV} {mems readers : List Nat} {bases : List (List Chunk)} {e : Env} : ∀ {os : List Oper} {k : Nat}, XEach C pre r Rel mems readers bases e os k → ∀ i o, os[i]? = some o →
    (match memNo mems (k + i) with
      | some j => tele pre r (relT Rel) (fun kn e' _ => XOp C o e' (baseAt bases j) fun v L' => Rel (k + i) ((r (k + i)).map (kf kn)) v ∧ Ent L' (baseAt bases (j + 1))) (r (k + i)) [] e []
      | none => match readers.contains (k + i) with
        | true => tele pre r (relT Rel) (fun kn e' _ => XV C o e' (baseAt bases 0) fun v => Rel (k + i) ((r (k + i)).map (kf kn)) v) (r (k + i)) [] e []
        | false => tele pre r (relT Rel) (fun kn e' _ => XV C o e' [] fun v => Rel (k + i) ((r (k + i)).map (kf kn)) v) (r (k + i)) [] e [])
  | [], _, _, i, o, h => by simp at h
  | x :: os, k, ⟨h1, h2⟩, 0, o, h => by simp at h; subst h; exact h1
  | x :: os, k, ⟨h1, h2⟩, i + 1, o, h => by
    have := XEach_spec (os := os) (k := k + 1) h2 i o (by simpa using h)
    rwa [show k + 1 + i = k + (i + 1) by omega] at this

theorem memNo_some : ∀ {ms : List Nat} {i k : Nat}, memNo ms i = some k → ms[k]? = some i
  | [], _, _, h => by cases h
  | m :: ms, i, k, h => by
    simp only [memNo] at h
    cases hb : Nat.beq m i with
    | true => simp [hb] at h; subst h; rw [← Nat.eq_of_beq_eq_true hb]; rfl
    | false =>
      simp only [hb] at h
      cases hm : memNo ms i with
      | none => simp [hm] at h
      | some j => simp [hm] at h; subst h; simpa using memNo_some hm
theorem memNo_none : ∀ {ms : List Nat} {i : Nat}, memNo ms i = none → i ∉ ms
  | [], _, _ => by simp
  | m :: ms, i, h => by
    simp only [memNo] at h
    cases hb : Nat.beq m i with
    | true => simp [hb] at h
    | false =>
      simp only [hb] at h
      cases hm : memNo ms i with
      | some j => simp [hm] at h
      | none =>
        intro hi
        rcases List.mem_cons.1 hi with rfl | hi
        · simp at hb
        · exact memNo_none hm hi
theorem memsOk_spec {u : Nat → List Nat} {readers : List Nat} : ∀ {ms before : List Nat}, memsOk u readers before ms = true → (∀ (k m : Nat), ms[k]? = some m → (∀ j ∈ before, j ∈ u m) ∧ (∀ j ∈ readers, j ∈ u m) ∧ m ∉ before ∧ (∀ (k' m' : Nat), k' < k → ms[k']? = some m' → m' ∈ u m ∧ m' ≠ m))
  | [], _, _, k, m, h => by simp at h
  | x :: ms, before, hok, 0, m, h => by
    simp only [memsOk, Bool.and_eq_true] at hok
    simp at h; subst h
    refine ⟨fun j hj => ?_, fun j hj => ?_, by simpa using hok.1.2, fun k' m' hk => by omega⟩
    · have := (List.all_eq_true.1 hok.1.1.1) j hj; simpa using this
    · have := (List.all_eq_true.1 hok.1.1.2) j hj; simpa using this
  | x :: ms, before, hok, k + 1, m, h => by
    simp only [memsOk, Bool.and_eq_true] at hok
    obtain ⟨h1, h2, h3, h4⟩ := memsOk_spec hok.2 k m (by simpa using h)
    refine ⟨fun j hj => h1 j (by simp [hj]), h2, fun hm => h3 (by simp [hm]), fun k' m' hk hm' => ?_⟩
    cases k' with
    | zero => simp at hm'; subst hm'; exact ⟨h1 _ (by simp), fun he => h3 (by simp [he])⟩
    | succ k' => exact h4 k' m' (by omega) (by simpa using hm')

theorem each_sound {C : Ctx} (hC : CtxOk C) {id : Nat} {ops : List Oper} {u r : Nat → List Nat} {Rel : RelV} {mems readers : List Nat} {bases : List (List Chunk)} {e : Env} {K : Env → List Chunk → Prop} {Q' : Exit → Act → World → Prop} (hQ : ∀ e a L w, ES C.n e a → Holds C L w → K e L → Q' .normal a w) {a : Act} {w : World}
    (ha : ES C.n e a) (hw : Holds C (baseAt bases 0) w) (hok : eachOk C.n e ops u r mems readers = true) (he : XEach C ops r Rel mems readers bases e ops 0)
    (hend : tele ops r (relT Rel) (fun _ e' _ => K e' (baseAt bases mems.length)) (List.range ops.length) [] e []) : (Code.region id ops.toArray true).wp C.P Q' a w := by
  simp only [eachOk, Bool.and_eq_true] at hok
  obtain ⟨⟨⟨⟨⟨⟨⟨hb, hcl⟩, hfresh⟩, hgd⟩, hu⟩, htr⟩, hmo⟩, hml⟩ := hok
  have hg : ∀ o ∈ ops, o.guard.isNone = true := List.all_eq_true.1 hgd
  have hm1 := memsOk_spec hmo
  have hu2 : ∀ i, i < ops.length → teleB r [] (r i) = true ∧ (∀ j ∈ r i, j ∈ u i) ∧ ∀ j ∈ r i, j < i := fun i hi => by
    have := (List.all_eq_true.1 hu) i (List.mem_range.2 hi)
    rw [Bool.and_eq_true, Bool.and_eq_true] at this
    exact ⟨this.1.1, fun j hj => by have := (List.all_eq_true.1 this.1.2) j hj; simpa using this, fun j hj => by have := (List.all_eq_true.1 this.2) j hj; simpa [Nat.blt_eq] using this⟩
  simp only [freshB, Bool.and_eq_true] at hfresh
  have hfd : ∀ (i : Nat) (o : Oper) (d : Nat), ops[i]? = some o → o.dst = some d → d < C.n ∧ get e d = none := fun i o d hi hd => by
    have := (List.all_eq_true.1 hfresh.2) d (List.mem_filterMap.2 ⟨o, List.mem_of_getElem? hi, hd⟩)
    rw [Bool.and_eq_true] at this
    exact ⟨by simpa [Nat.blt_eq] using this.1, by simpa using this.2⟩
  have hdist : ∀ (i j : Nat) (o p : Oper) (d : Nat), ops[i]? = some o → ops[j]? = some p → o.dst = some d → p.dst = some d → i = j := by
    have hnd := noDup_iff hfresh.1
    have key : ∀ (l : List Oper), (l.filterMap (·.dst)).Nodup → ∀ (i j : Nat) (o p : Oper) (d : Nat), l[i]? = some o → l[j]? = some p → o.dst = some d → p.dst = some d → i = j := by
      intro l
      induction l with
      | nil => intro _ i j o p d h; simp at h
      | cons x l ih =>
        intro hn i j o p d hi hj hd hd'
        have hl : (l.filterMap (·.dst)).Nodup := by
          rw [List.filterMap_cons] at hn
          split at hn
          · exact hn
          · exact (List.nodup_cons.1 hn).2
        have hx : ∀ (k : Nat) (q : Oper), l[k]? = some q → q.dst = some d → x.dst ≠ some d := fun k q hk hq he => by
          rw [List.filterMap_cons, he] at hn
          exact (List.nodup_cons.1 hn).1 (List.mem_filterMap.2 ⟨q, List.mem_of_getElem? hk, hq⟩)
        cases i with
        | zero =>
          simp at hi; subst hi
          cases j with
          | zero => rfl
          | succ j => exact absurd hd (hx j p (by simpa using hj) hd')
        | succ i =>
          cases j with
          | zero => simp at hj; subst hj; exact absurd hd' (hx i o (by simpa using hi) hd)
          | succ j => rw [ih hl i j o p d (by simpa using hi) (by simpa using hj) hd hd']
    exact key ops hnd
  have e1 : ops.toArray = (ops ++ []).toArray := by rw [List.append_nil]
  rw [e1]
  refine wp_region_front (u := u) hC.mixed (by rw [List.append_nil]; exact hb) hcl rfl
    (fun S a w => ∃ (σ : Nat → Value), (∀ i, i < ops.length → S i = true → Rel i ((r i).map σ) (σ i)) ∧ (∀ i, i < ops.length → S i = true → ∀ j ∈ u i, S j = true) ∧ ES C.n e a ∧
      (∀ (i : Nat) (o : Oper) (d : Nat), ops[i]? = some o → S i = true → o.dst = some d → a.tmps[d]? = some (σ i)) ∧ Holds C (baseAt bases (mems.filter S).length) w) ?_ ?_ ?_ ?_
  · rintro S S' a w hS ⟨σ, h1, h1', h2, h3, h4⟩
    have hff : mems.filter S = mems.filter S' := List.filter_congr fun i hi => hS i (by have := (List.all_eq_true.1 hml) i hi; simpa [Nat.blt_eq] using this)
    have hul : ∀ i, i < ops.length → ∀ j ∈ u i, j < ops.length := fun i hi j hj => by
      have ho : ops[i]? = some ops[i] := by simp [hi]
      have hsp := backB_spec hb
      have hclo := closB_spec hcl
      have : ∀ (n i : Nat), i ≤ n → i < ops.length → ∀ j ∈ u i, j < ops.length := by
        intro n
        induction n with
        | zero =>
          intro i hin hi j hj
          rcases hclo i ops[i] hi (by simp [hi]) j hj with h | ⟨d, hd, _⟩
          · have := (hsp i ops[i] (by simp [hi])).1 j h; omega
          · have := (hsp i ops[i] (by simp [hi])).1 d hd; omega
        | succ n ih =>
          intro i hin hi j hj
          rcases hclo i ops[i] hi (by simp [hi]) j hj with h | ⟨d, hd, hjd⟩
          · have := (hsp i ops[i] (by simp [hi])).1 j h; omega
          · have hdi := (hsp i ops[i] (by simp [hi])).1 d hd
            exact ih d (by omega) (by omega) j hjd
      exact this i i (Nat.le_refl _) hi j hj
    exact ⟨σ, fun i hi hs => h1 i hi (hS i hi ▸ hs), fun i hi hs j hj => by
      rw [← hS j (hul i hi j hj)]
      exact h1' i hi (by rw [hS i hi]; exact hs) j hj, h2, fun i o d hi hs => h3 i o d hi (by rw [hS i (List.getElem?_eq_some_iff.1 hi).1]; exact hs), hff ▸ h4⟩
  · refine ⟨fun _ => undef, fun _ _ h => Bool.noConfusion h, fun _ _ h => Bool.noConfusion h, ha, fun _ _ _ _ h => Bool.noConfusion h, ?_⟩
    have : mems.filter (fun _ => false) = [] := by simp
    rw [this]
    exact Inv.drew hw
  · rintro S a w i o ho hs husd ⟨σ, h1, h1', h2, h3, h4⟩ K' hK'
    have hi : i < ops.length := (List.getElem?_eq_some_iff.1 ho).1
    obtain ⟨ht, hru, hrlt⟩ := hu2 i hi
    unfold wpOp
    have ho' : (ops ++ ([] : List Oper)).toArray[i]? = some o := by simpa using ho
    rw [ho']
    have hgo : o.guard = none := by have := hg o (List.mem_of_getElem? ho); simpa using this
    simp only [Region.wanted, hgo, if_true]
    left
    have hspec := XEach_spec he i o ho
    rw [Nat.zero_add] at hspec
    have hrel : ∀ j ∈ r i, relT Rel j ((r j).map σ) (σ j) ((fun _ => []) j) := fun j hj => ⟨rfl, h1 j (by have := hrlt j hj; omega) (husd j (hru j hj))⟩
    have hup : ∀ v j, j ≠ i → (fun k => if k = i then v else σ k) j = σ j := fun v j hj => by simp [hj]
    have hmap : ∀ v j, (∀ k ∈ r j, k ≠ i) → (r j).map (fun k => if k = i then v else σ k) = (r j).map σ := fun v j hj => List.map_congr_left fun k hk => hup v k (hj k hk)
    have hclS : ∀ j, j < ops.length → S j = true → ∀ k ∈ r j, k ≠ i := fun j hj hsj k hk he => by
      have := h1' j hj hsj k ((hu2 j hj).2.1 k hk)
      rw [he, hs] at this; cases this
    -- the next state, whatever the operation was
    have next : ∀ v w', Rel i ((r i).map σ) v → Holds C (baseAt bases (mems.filter fun j => S j || j == i).length) w' → K' (a.put o.dst v) w' := fun v w' hN hw' => hK' _ _ ⟨fun k => if k = i then v else σ k, fun j hj hsj => by
      by_cases hji : j = i
      · subst hji
        rw [hmap v j fun k hk => by have := hrlt k hk; omega]
        simpa using hN
      · have hsj' : S j = true := by simpa [hji] using hsj
        rw [hmap v j (hclS j hj hsj')]
        simpa [hji] using h1 j hj hsj', fun j hj hsj k hk => by
      by_cases hji : j = i
      · subst hji
        simp [husd k hk]
      · have hsj' : S j = true := by simpa [hji] using hsj
        simp [h1' j hj hsj' k hk], by
      cases hdst : o.dst with
      | none => exact h2
      | some d =>
        obtain ⟨hdn, hde⟩ := hfd i o d ho hdst
        refine ⟨by simpa [Act.put] using h2.size, fun t u hu => ?_, h2.defers⟩
        have hne : d ≠ t := fun he => by rw [he, hu] at hde; cases hde
        simpa [Act.put, Array.getElem?_setIfInBounds, hne] using h2.val t u hu, fun j p d hp hsj hd' => by
      by_cases hji : j = i
      · subst hji
        rw [ho] at hp; cases hp
        obtain ⟨hdn, _⟩ := hfd j o d ho hd'
        simp [hd', Act.put, h2.size, hdn]
      · have hsj' : S j = true := by simpa [hji] using hsj
        have := h3 j p d hp hsj' hd'
        simp only [if_neg hji]
        cases hdst : o.dst with
        | none => exact this
        | some d' =>
          have hne : d' ≠ d := fun he => hji (hdist j i p o d hp ho hd' (by rw [hdst, he]))
          simpa [Act.put, Array.getElem?_setIfInBounds, hne] using this, hw'⟩
    have hnoti : ∀ (hn : i ∉ mems), (mems.filter fun j => S j || j == i) = mems.filter S := fun hn => List.filter_congr fun j hj => by
      have : (j == i) = false := by simp; exact fun h => hn (h ▸ hj)
      simp [this]
    have slots : ∀ e', (∀ t v, get e' t = some v → get e t = some v ∨ ∃ j o, j ∈ r i ∧ ops[j]? = some o ∧ o.dst = some t ∧ v = σ j) → ES C.n e' a := fun e' hge => ⟨h2.size, fun t v hv => by
      rcases hge t v hv with h | ⟨j, p, hj, hp, hd, rfl⟩
      · exact h2.val t v h
      · exact h3 j p t hp (husd j (hru j hj)) hd, h2.defers⟩
    cases hmn : memNo mems i with
    | some k =>
      simp only [hmn] at hspec
      have hk := memNo_some hmn
      -- just the first k writers have been
      have hcnt : mems.filter S = mems.take k ∧ (mems.filter fun j => S j || j == i) = mems.take (k + 1) := by
        have hearly : ∀ (k' m' : Nat), k' < k → mems[k']? = some m' → S m' = true := fun k' m' hlt hm' => husd m' ((hm1 k i hk).2.2.2 k' m' hlt hm').1
        have hlate : ∀ (k' m' : Nat), k < k' → mems[k']? = some m' → S m' = false ∧ m' ≠ i := fun k' m' hlt hm' => by
          have h5 := (hm1 k' m' hm').2.2.2 k i hlt hk
          have hml' : m' < ops.length := by have := (List.all_eq_true.1 hml) m' (List.mem_of_getElem? hm'); simpa [Nat.blt_eq] using this
          refine ⟨?_, fun h => h5.2 h.symm⟩
          cases hsm : S m' with
          | false => rfl
          | true => have := h1' m' hml' hsm i h5.1; rw [hs] at this; cases this
        have key : ∀ (f : Nat → Bool) (l : List Nat) (n : Nat), (∀ (k' m' : Nat), k' < n → l[k']? = some m' → f m' = true) → (∀ (k' m' : Nat), n ≤ k' → l[k']? = some m' → f m' = false) → l.filter f = l.take n := by
          intro f l
          induction l with
          | nil => intros; simp
          | cons x l ih =>
            intro n hx1 hx2
            cases n with
            | zero =>
              have h0 := hx2 0 x (Nat.le_refl _) rfl
              rw [List.filter_cons, if_neg (by simp [h0]), ih 0 (fun k' m' h => by omega) (fun k' m' h hm => hx2 (k' + 1) m' (by omega) (by simpa using hm))]
              simp
            | succ n =>
              have h0 := hx1 0 x (by omega) rfl
              rw [List.filter_cons, if_pos h0, ih n (fun k' m' h hm => hx1 (k' + 1) m' (by omega) (by simpa using hm)) (fun k' m' h hm => hx2 (k' + 1) m' (by omega) (by simpa using hm))]
              simp
        refine ⟨key S mems k hearly fun k' m' hge hm' => ?_, key _ mems (k + 1) (fun k' m' hlt hm' => ?_) fun k' m' hge hm' => ?_⟩
        · rcases Nat.eq_or_lt_of_le hge with rfl | h
          · rw [hk] at hm'; cases hm'; exact hs
          · exact (hlate k' m' h hm').1
        · rcases Nat.lt_or_ge k' k with h | h
          · simp [hearly k' m' h hm']
          · obtain rfl : k' = k := by omega
            rw [hk] at hm'; cases hm'; simp
        · obtain ⟨q1, q2⟩ := hlate k' m' (by omega) hm'
          simp [q1, q2]
      have hklt : k < mems.length := (List.getElem?_eq_some_iff.1 hk).1
      rw [hcnt.1, List.length_take, Nat.min_eq_left (by omega)] at h4
      obtain ⟨kn, e', L1, hx, hkn, hge, _⟩ := tele_inst (σ := σ) (ν := fun _ => []) (known := []) hrel (by simp) ht hspec
      refine XOp.sound hC (slots e' hge) hx K' Q' (fun v L' w' hk' hh => next v w' ?_ ?_) w h4
      · have := hk'.1
        rwa [List.map_congr_left fun k hk => hkn k (.inl hk)] at this
      · rw [hcnt.2, List.length_take, Nat.min_eq_left (by omega)]
        exact hk'.2 _ _ _ hh
    | none =>
      simp only [hmn] at hspec
      have hnm := memNo_none hmn
      have pure : ∀ L1 e', (∀ t v, get e' t = some v → get e t = some v ∨ ∃ j o, j ∈ r i ∧ ops[j]? = some o ∧ o.dst = some t ∧ v = σ j) → Holds C L1 w → XV C o e' L1 (fun v => Rel i ((r i).map σ) v) → o.wp C.P a w K' Q' := fun L1 e' hge hL hx => by
        obtain ⟨v, hv, hrun⟩ := XV.sound hC.tab (slots e' hge) hx
        unfold Oper.wp
        rw [hrun w hL]
        exact next v w hv (by rw [hnoti hnm]; exact h4)
      cases hrd : readers.contains i with
      | true =>
        simp only [hrd] at hspec
        have hir : i ∈ readers := by simpa using hrd
        have hz : mems.filter S = [] := List.filter_eq_nil_iff.2 fun m hm hsm => by
          obtain ⟨k, hk⟩ := List.mem_iff_getElem?.1 hm
          have hml' : m < ops.length := by have := (List.all_eq_true.1 hml) m hm; simpa [Nat.blt_eq] using this
          have := h1' m hml' hsm i ((hm1 k m hk).2.1 i hir)
          rw [hs] at this; cases this
        obtain ⟨kn, e', L1, hx, hkn, hge, _⟩ := tele_inst (σ := σ) (ν := fun _ => []) (known := []) hrel (by simp) ht hspec
        rw [List.map_congr_left fun k hk => hkn k (.inl hk)] at hx
        exact pure _ e' hge (by rw [hz] at h4; exact h4) hx
      | false =>
        simp only [hrd] at hspec
        obtain ⟨kn, e', L1, hx, hkn, hge, _⟩ := tele_inst (σ := σ) (ν := fun _ => []) (known := []) hrel (by simp) ht hspec
        rw [List.map_congr_left fun k hk => hkn k (.inl hk)] at hx
        exact pure [] e' hge ⟨h4.1, fun _ => False, trivial, fun _ h => h.elim⟩ hx
  · rintro S a w hS ⟨σ, h1, h1', h2, h3, h4⟩
    have hff : mems.filter S = mems := List.filter_eq_self.2 fun i hi => hS i (by have := (List.all_eq_true.1 hml) i hi; simpa [Nat.blt_eq] using this)
    rw [hff] at h4
    obtain ⟨kn, e', L1, hx, _, hge, _⟩ := tele_inst (σ := σ) (ν := fun _ => []) (known := []) (fun j hj => ⟨rfl, h1 j (List.mem_range.1 hj) (hS j (List.mem_range.1 hj))⟩) (by simp) htr hend
    refine hQ e' a _ w ?_ h4 hx
    exact ⟨h2.size, fun t v hv => by
      rcases hge t v hv with h | ⟨j, p, hj, hp, hd, rfl⟩
      · exact h2.val t v h
      · exact h3 j p t hp (hS j (List.mem_range.1 hj)) hd, h2.defers⟩

/-- A region that draws, by each of its operations. -/
theorem drawE {C : Ctx} [hC : CtxOk C] {ops : List Oper} {e : Env} {L : List Chunk} {K : Env → List Chunk → Prop} (u r : Nat → List Nat) (Rel : RelV) (mems readers : List Nat) (bases : List (List Chunk)) (hL : baseAt bases 0 = L) (hok : eachOk C.n e ops u r mems readers = true)
    (he : XEach C ops r Rel mems readers bases e ops 0) (hend : tele ops r (relT Rel) (fun _ e' _ => K e' (baseAt bases mems.length)) (List.range ops.length) [] e []) : XDrawS C ops e L K := by
  unfold XDrawS
  intro id Q a w hQ ha hw
  subst hL
  exact each_sound hC hQ ha hw hok he hend
end Go.X

/- Slices written out empty; many elements appended. -/
namespace Go.X
set_option linter.unusedVariables false
set_option linter.unusedSimpArgs false
section
variable {α : Type} {C : Ctx} {L : List Chunk} {e : TypeId} {sz cap : Nat} {enc : α → List Value} {xs ys : List α}

theorem bld0 [hC : CtxOk C] {t : TypeId} {R : Value → List Chunk → Prop} {ti te : TyI} (sz : Nat) (enc : α → List Value) (hti : tget C.tab t = some ti) (hk : ti.k = .slice e) (hte : tget C.tab e = some te)
    (hR : ∀ g, R (.slice (some ⟨g, 0, none⟩) 0 0) (own (some ⟨g, 0, none⟩) 0 e sz enc ([] : List α) :: L)) : Does C L (Instr.buildSlice t 0 ⟨[]⟩) R := by
  intro w hw
  obtain ⟨d, hd, hkd⟩ := (hC.tab.get hti).und
  rw [hk] at hkd
  obtain rfl := kOk.slice hkd
  have hs := run_sizeOf' (w := w) (hC.tab.get hte)
  refine ⟨_, w.alloc (.cells #[] e (0, 0)), _, ?_, hw.alloc _ (c := own (some ⟨w.heap.size, 0, none⟩) 0 e sz enc ([] : List α)) ⟨fun k => by simp [Value.ownBlock, eq_comm], ?_⟩, hR w.heap.size⟩
  · simp [Instr.buildSlice, run_underlying' hd, hs, Instr.fill, newRow]
    have h0 : ∀ f : Nat → Value, (Array.range 0).map f = #[] := fun f => Array.eq_empty_of_size_eq_zero (by simp)
    rw [h0]
  · exact ⟨by simp, .inr ⟨w.heap.size, 0, #[], rfl, Nat.zero_le _, heap_alloc_new w _, Nat.le_refl _, Nat.zero_le _, by simp, by simp⟩⟩

/-- Elements that lie somewhere are appended. -/
theorem appC2 [hC : CtxOk C] {t ty : TypeId} {g n m c : Nat} {ad : Addr} {R : Value → List Chunk → Prop} {ti te : TyI} (k : Nat) (hk : lget L k = some (own (some ⟨g, 0, none⟩) cap e sz enc xs)) (hcell : ∀ w, Holds C L w → ∀ (i : Nat) (u : Value), (ys.flatMap enc)[i]? = some u → w.cell? (ad.add i) = some u) (hn : n = xs.length) (hm : m = ys.length)
    (hlx : ∀ x ∈ xs, (enc x).length = sz) (hly : ∀ x ∈ ys, (enc x).length = sz) (hsz : 0 < sz) (h1 : ∀ x, (enc x).all Value.oneCell' = true) (hti : tget C.tab t = some ti) (hkk : ti.k = .slice e) (hte : tget C.tab e = some te) (hs : te.size = sz) (hz0 : te.zero.length = sz)
    (hml : xs.length + ys.length ≤ maxLen) (hbb : (xs.length + ys.length) * te.bytes ≤ 140737488355328) (hR : ∀ g' cap', (xs ++ ys).length ≤ cap' → R (.slice (some ⟨g', 0, none⟩) (xs ++ ys).length cap') (setL L k (own (some ⟨g', 0, none⟩) cap' e sz enc (xs ++ ys)))) :
    Does C L (Builtin.append_ ⟨[t, t]⟩ ty ⟨[.slice (some ⟨g, 0, none⟩) n cap, .slice (some ad) m c]⟩) R := by
  intro w hw
  subst hn
  subst hm
  obtain ⟨T, hT1, hT2⟩ := hw.mem hk
  obtain ⟨d, hd, hkd⟩ := (hC.tab.get hti).und
  rw [hkk] at hkd
  obtain rfl := kOk.slice hkd
  obtain ⟨d2, inf, z, hu, hinf, hisz, hiby, hz, hzc, _⟩ := hC.tab.get hte
  have hfl := flat_len hly
  obtain ⟨v', w', hr, ho, hg, hnil, hlie⟩ := run_append_own_at (P := C.P) w 0 t ty e inf z sz te.bytes hd hinf hz (hisz.trans hs) hiby (by rw [← hz0, ← hzc]; simp) hsz (.slice (some ⟨g, 0, none⟩) xs.length cap) xs.length (xs.flatMap enc) hT2
    ad ys.length c (ys.flatMap enc) hfl (hcell w hw) (fun u hu => by
      obtain ⟨y, hy, huy⟩ := List.mem_flatMap.1 hu
      exact List.all_eq_true.1 (h1 y) u huy) hml hbb (Nat.zero_le _)
  obtain ⟨g', cap', rfl, hcap⟩ : ∃ g' cap', v' = .slice (some ⟨g', 0, none⟩) (xs ++ ys).length cap' ∧ (xs ++ ys).length ≤ cap' := by
    rw [List.length_append]
    rcases ho.2 with ⟨hv, h0⟩ | ⟨g', cap', cur, hv, _, _, hnc, _⟩
    · have := (hnil.1 hv).1; cases this
    · exact ⟨g', cap', hv, hnc⟩
  refine ⟨_, w', _, hr, hw.turnAt (d := own (some ⟨g', 0, none⟩) cap' e sz enc (xs ++ ys)) hk (fun S1 hS1 hd1 => ?_), hR g' cap' hcap⟩
  refine Inv.one (T := fun k => k = g') ⟨hg.os, hg.tape, hg.output, hg.size, fun b hb hn => hg.block b hb fun he => hn ((hS1.1 b).2 he.symm)⟩ ⟨fun k => by simp [Value.ownBlock, eq_comm], ?_⟩ fun b hb => ?_
  · rw [List.flatMap_append]
    rw [List.length_append] at ho ⊢
    exact ho
  · subst hb
    rcases hlie with h | h
    · exact .inl ((hS1.1 _).2 h.symm)
    · simp [Value.ownBlock] at h; exact .inr (by omega)
theorem appC [hC : CtxOk C] {t ty : TypeId} {g n m c : Nat} {ad : Addr} {R : Value → List Chunk → Prop} {ti te : TyI} (k : Nat) (hk : lget L k = some (own (some ⟨g, 0, none⟩) cap e sz enc xs)) (hcell : ∀ w, Holds C L w → ∀ (i : Nat) (u : Value), (ys.flatMap enc)[i]? = some u → w.cell? (ad.add i) = some u) (hn : n = xs.length) (hm : m = ys.length)
    (hlx : ∀ x ∈ xs, (enc x).length = sz) (hly : ∀ x ∈ ys, (enc x).length = sz) (hsz : 0 < sz) (h1 : ∀ x, (enc x).all Value.oneCell' = true) (hti : tget C.tab t = some ti) (hkk : ti.k = .slice e) (hte : tget C.tab e = some te) (hs : te.size = sz) (hz0 : te.zero.length = sz)
    (hbound : xs.length + ys.length ≤ 2 ^ 31) (hby : te.bytes ≤ 2 ^ 12) (hR : ∀ g' cap', (xs ++ ys).length ≤ cap' → R (.slice (some ⟨g', 0, none⟩) (xs ++ ys).length cap') (setL L k (own (some ⟨g', 0, none⟩) cap' e sz enc (xs ++ ys)))) :
    Does C L (Builtin.append_ ⟨[t, t]⟩ ty ⟨[.slice (some ⟨g, 0, none⟩) n cap, .slice (some ad) m c]⟩) R :=
  appC2 k hk hcell hn hm hlx hly hsz h1 hti hkk hte hs hz0 (by simp [maxLen]; omega) (Nat.le_trans (Nat.mul_le_mul hbound hby) (by decide)) hR
/-- All elements of a slice that is only read are appended. -/
theorem appR [hC : CtxOk C] {t ty : TypeId} {g n m c : Nat} {ad : Addr} {R : Value → List Chunk → Prop} {ti te : TyI} (k : Nat) (hk : lget L k = some (own (some ⟨g, 0, none⟩) cap e sz enc xs)) (hro : RO C.w0 C.S0 (roS (some ad) sz enc ys)) (hn : n = xs.length) (hm : m = ys.length)
    (hlx : ∀ x ∈ xs, (enc x).length = sz) (hly : ∀ x ∈ ys, (enc x).length = sz) (hsz : 0 < sz) (h1 : ∀ x, (enc x).all Value.oneCell' = true) (hti : tget C.tab t = some ti) (hkk : ti.k = .slice e) (hte : tget C.tab e = some te) (hs : te.size = sz) (hz0 : te.zero.length = sz)
    (hbound : xs.length + ys.length ≤ 2 ^ 31) (hby : te.bytes ≤ 2 ^ 12) (hR : ∀ g' cap', (xs ++ ys).length ≤ cap' → R (.slice (some ⟨g', 0, none⟩) (xs ++ ys).length cap') (setL L k (own (some ⟨g', 0, none⟩) cap' e sz enc (xs ++ ys)))) :
    Does C L (Builtin.append_ ⟨[t, t]⟩ ty ⟨[.slice (some ⟨g, 0, none⟩) n cap, .slice (some ad) m c]⟩) R := by
  refine appC k hk (fun w hw i u hu => ?_) hn hm hlx hly hsz h1 hti hkk hte hs hz0 hbound hby hR
  obtain ⟨T', ⟨_, _, _, hcell⟩, _⟩ := hro.now hw.1
  have hfl := flat_len hly
  have hlt : i < ys.length * sz := by
    rcases Nat.lt_or_ge i (ys.length * sz) with h | h
    · exact h
    · rw [List.getElem?_eq_none (by omega)] at hu; cases hu
  have hdiv : i / sz < ys.length := (Nat.div_lt_iff_lt_mul hsz).2 hlt
  obtain ⟨y, hy⟩ : ∃ y, ys[i / sz]? = some y := ⟨ys[i / sz], by simp [hdiv]⟩
  have hmod := Nat.mod_lt i hsz
  have hi : i / sz * sz + i % sz = i := by rw [Nat.mul_comm]; exact Nat.div_add_mod i sz
  have hf := flat_get hly hy hmod
  rw [hi, hu] at hf
  obtain ⟨b, o, he, hc⟩ := hcell (by rintro rfl; simp at hy)
  cases he
  rw [Addr.add_none]
  have := hc _ y hy _ u hf.symm
  rwa [hi] at this

/-- All of a block that lies among the chunks is appended. -/
theorem appP [hC : CtxOk C] {t ty : TypeId} {g n m c vb : Nat} {cs : List Value} {ty' : TypeId} {R : Value → List Chunk → Prop} {ti te : TyI} (k j : Nat) (hk : lget L k = some (own (some ⟨g, 0, none⟩) cap e sz enc xs)) (hj : lget L j = some (pt vb cs ty')) (hcs : cs = ys.flatMap enc) (hn : n = xs.length) (hm : m = ys.length)
    (hlx : ∀ x ∈ xs, (enc x).length = sz) (hly : ∀ x ∈ ys, (enc x).length = sz) (hsz : 0 < sz) (h1 : ∀ x, (enc x).all Value.oneCell' = true) (hti : tget C.tab t = some ti) (hkk : ti.k = .slice e) (hte : tget C.tab e = some te) (hs : te.size = sz) (hz0 : te.zero.length = sz)
    (hbound : xs.length + ys.length ≤ 2 ^ 31) (hby : te.bytes ≤ 2 ^ 12) (hR : ∀ g' cap', (xs ++ ys).length ≤ cap' → R (.slice (some ⟨g', 0, none⟩) (xs ++ ys).length cap') (setL L k (own (some ⟨g', 0, none⟩) cap' e sz enc (xs ++ ys)))) :
    Does C L (Builtin.append_ ⟨[t, t]⟩ ty ⟨[.slice (some ⟨g, 0, none⟩) n cap, .slice (some ⟨vb, 0, none⟩) m c]⟩) R := by
  refine appC k hk (fun w hw i u hu => ?_) hn hm hlx hly hsz h1 hti hkk hte hs hz0 hbound hby hR
  obtain ⟨T', _, hb⟩ := hw.mem hj
  rw [Addr.add_none, Nat.zero_add, cell_of_block hb, hcs]
  exact hu

/-- A whole block is seen as a slice's own one. -/
theorem ptOwn {b : Nat} {cs : List Value} (hsz : cs.length = cap * sz) (hle : xs.length ≤ cap) (hc : cap ≤ maxLen) (hl : ∀ x ∈ xs, (enc x).length = sz) (ht : cs.take (xs.length * sz) = xs.flatMap enc) : Ent (pt b cs e :: L) (own (some ⟨b, 0, none⟩) cap e sz enc xs :: L) :=
  .conv fun w T ⟨h1, h2⟩ => ⟨T, ⟨fun k => (h1 k).trans (by simp [Value.ownBlock, eq_comm]), flat_len hl, .inr ⟨b, cap, cs.toArray, rfl, Nat.zero_le _, h2, hle, hc, by simpa using hsz, by simpa using ht⟩⟩, fun _ h => h⟩
end
end Go.X

/- A front that only reads and a chain; what chunks say behind a call; parts of slices are appended. -/
namespace Go.X
set_option linter.unusedVariables false
set_option linter.unusedSimpArgs false

/-- A region that draws: the first n operations only read, the others come one behind the other, under whatever guards. -/
theorem drawG {C : Ctx} [hC : CtxOk C] {ops : List Oper} {e : Env} {L : List Chunk} {K : Env → List Chunk → Prop} (n : Nat) (hok : (backB ops 0 && chainB ops (ops.take n).length (ops.drop n).length && Region.lexB .any (ops.take n).toArray) = true)
    (h : XQs C (ops.take n) (fun e L => XOps C ops K (ops.drop n) [] e L) L (ops.take n) [] e) : XDrawS C ops e L K := by
  unfold XDrawS
  intro id Q a w hQ ha hw
  simp only [Bool.and_eq_true] at hok
  obtain ⟨⟨hb, hch⟩, hB⟩ := hok
  have heq : ops.take n ++ ops.drop n = ops := List.take_append_drop n ops
  have key := wp_region_qchain (id := id) (Q' := Q) (a := a) (w := w) (C := Holds C L) hC.mixed (pre := ops.take n) (suf := ops.drop n) (by rw [heq]; exact hb) (by rw [heq]; exact hch) hB (Qa := fun a => ∃ e, ES C.n e a ∧ XOps C ops K (ops.drop n) [] e L) (Inv.drew hw) (XQs.sound hC (fun e a ha hk => ⟨e, ha, hk⟩) (ops.take n) ha h) (by
    rintro a w hw ⟨e, ha, hx⟩
    rw [heq]
    have hgo : ∀ (suf : List Oper) (k : Nat) {G : List (Nat × Bool)} {e : Env} {a : Act} {L : List Chunk} {w : World}, ops.drop k = suf → ES C.n e a → Holds C L w → XOps C ops K suf G e L → wpChain C.P ops.toArray Q suf k a w := by
      intro suf
      induction suf with
      | nil => intro k G e a L w _ ha hw h; exact hQ e a L w ha hw h
      | cons o os ih =>
        intro k G e a L w hd ha hw h
        have hk : ops[k]? = some o := by
          have := congrArg (·[0]?) hd
          simpa using this
        have hd' : ops.drop (k + 1) = os := by rw [← List.drop_drop, hd]; rfl
        intro K' hK'
        unfold wpOp
        rw [show ops.toArray[k]? = some o by simpa using hk]
        have h : guardX ops G o e (fun G e => XOp C o e L fun v L' => XOps C ops K os G (put C.n e o.dst v) L') (fun G e => XOps C ops K os G (put C.n e o.dst undef) L) := h
        rcases guardX.sound ha h with ⟨hwt, G', e', ha', h'⟩ | ⟨hwt, G', e', ha', h'⟩
        · simp only [hwt, if_true]
          exact .inl (XOp.sound hC ha' h' K' Q (fun v L' w' hk hh => hK' _ _ (ih (k + 1) hd' (ha'.put o.dst v) hh hk)) w hw)
        · simp only [hwt, Bool.false_eq_true, if_false]
          exact hK' _ _ (ih (k + 1) hd' (ha'.put o.dst undef) hw h')
    exact hgo (ops.drop n) (ops.take n).length (by simp only [List.length_take]; by_cases hn : n ≤ ops.length
                                                   · rw [Nat.min_eq_left hn]
                                                   · rw [Nat.min_eq_right (by omega), List.drop_eq_nil_of_le (Nat.le_refl _), List.drop_eq_nil_of_le (by omega)]) ha hw hx)
  rwa [heq] at key
end Go.X
namespace Go.X
set_option linter.unusedVariables false
set_option linter.unusedSimpArgs false

/-- What holds of the chunks holds behind the call. -/
theorem Trip.fact {P : Program} {f : FuncId} {args : Array Value} {w : World} {S : FP} {Post Post' : Value → List Chunk → Prop} (h : Trip P f args w S Post)
    (hp : ∀ v L w', Post v L → Inv w S L w' → Post' v L) : Trip P f args w S Post' :=
  ⟨h.1, h.2.mono fun _ w' ⟨v, L, he, hP, hI⟩ => ⟨v, L, he, hp _ _ w' hP hI, hI⟩⟩
theorem Inv.ownAt {α : Type} {w0 w : World} {S0 : FP} {L : List Chunk} {a : Option Addr} {cap : Nat} {e : TypeId} {sz : Nat} {enc : α → List Value} {xs : List α} (h : Inv w0 S0 L w) (hm : X.own a cap e sz enc xs ∈ L) (hne : xs ≠ []) : ∃ g, a = some ⟨g, 0, none⟩ := by
  obtain ⟨_, S, hS, _⟩ := h
  obtain ⟨T, hT, _⟩ := hS.mem hm
  obtain ⟨x, hx⟩ : ∃ x, xs[0]? = some x := by cases xs with | nil => exact absurd rfl hne | cons x xs => exact ⟨x, rfl⟩
  obtain ⟨g, cur, rfl, _⟩ := own_at hT hx
  exact ⟨g, rfl⟩
/-- The capacity is at least the length. -/
theorem Inv.ownCap {α : Type} {w0 w : World} {S0 : FP} {L : List Chunk} {a : Option Addr} {cap : Nat} {e : TypeId} {sz : Nat} {enc : α → List Value} {xs : List α} (h : Inv w0 S0 L w) (hm : X.own a cap e sz enc xs ∈ L) : xs.length ≤ cap := by
  obtain ⟨_, S, hS, _⟩ := h
  obtain ⟨T, ⟨_, _, h⟩, _⟩ := hS.mem hm
  rcases h with ⟨_, h0⟩ | ⟨g, c, cur, he, _, _, hn, _⟩
  · have h0 : xs.length = 0 := h0
    omega
  · cases he; exact hn
end Go.X
namespace Go.X
set_option linter.unusedVariables false
set_option linter.unusedSimpArgs false
section
variable {α : Type} {C : Ctx} {L : List Chunk} {e : TypeId} {sz cap : Nat} {enc : α → List Value} {xs ys : List α}

/-- A slice is cut before its element j. -/
theorem slLoP [hC : CtxOk C] {t : TypeId} {a : Option Addr} {n c : Nat} {k : IntKind} {i : Int} {et : TypeId} {ti te : TyI} (j : Nat) (hij : i = (j : Int)) (hj : j ≤ n) (hti : tget C.tab t = some ti) (hk : ti.k = .slice et) (hte : tget C.tab et = some te) (w : World) :
    (Instr.sliceAt t (.slice a n c) (some (.int k i)) none none).run C.P w = .ok (.slice (if c = j then a else a.map (·.add (j * te.size))) (n - j) (c - j)) w := by
  obtain ⟨d, hd, hkd⟩ := (hC.tab.get hti).und
  rw [hk] at hkd
  have hd' : C.P.underlying t = some (.slice et) := by
    cases d <;> simp [kOk] at hkd
    subst hkd; exact hd
  subst hij
  have hsz := run_sizeOf' (w := w) (hC.tab.get hte)
  have hle : (0 : Int) ≤ j := by omega
  have hjc : (j : Int) ≤ n := by omega
  simp [Instr.sliceAt, Instr.slice, run_underlying' hd', Instr.sliceBounds, Instr.sliceBound, asIntOf, hj, hsz]
theorem slLo [hC : CtxOk C] {t : TypeId} {a : Option Addr} {n c : Nat} {k : IntKind} {i : Int} {et : TypeId} {ti te : TyI} (j : Nat) (hij : i = (j : Int)) (hj : j ≤ n) (hti : tget C.tab t = some ti) (hk : ti.k = .slice et) (hte : tget C.tab et = some te) :
    RunsTo C L (Instr.sliceAt t (.slice a n c) (some (.int k i)) none none) (.slice (if c = j then a else a.map (·.add (j * te.size))) (n - j) (c - j)) := fun w _ => slLoP j hij hj hti hk hte w
theorem slHiP [hC : CtxOk C] {t : TypeId} {a : Option Addr} {n c : Nat} {k : IntKind} {i : Int} {et : TypeId} {ti te : TyI} (j : Nat) (hij : i = (j : Int)) (hj : j ≤ c) (hti : tget C.tab t = some ti) (hk : ti.k = .slice et) (hte : tget C.tab et = some te) (w : World) :
    (Instr.sliceAt t (.slice a n c) none (some (.int k i)) none).run C.P w = .ok (.slice a j c) w := by
  obtain ⟨d, hd, hkd⟩ := (hC.tab.get hti).und
  rw [hk] at hkd
  have hd' : C.P.underlying t = some (.slice et) := by
    cases d <;> simp [kOk] at hkd
    subst hkd; exact hd
  subst hij
  have hsz := run_sizeOf' (w := w) (hC.tab.get hte)
  have hle : (0 : Int) ≤ j := by omega
  have hjc : (j : Int) ≤ c := by omega
  have hadd : ∀ x : Addr, x.add 0 = x := fun x => by simp [Addr.add]
  have hmap : Option.map (fun x : Addr => x.add 0) a = a := by cases a <;> simp [hadd]
  simp [Instr.sliceAt, Instr.slice, run_underlying' hd', Instr.sliceBounds, Instr.sliceBound, asIntOf, hj, hsz, hmap]

/-- Nothing is appended. -/
theorem app0 [hC : CtxOk C] {t ty : TypeId} {g n c : Nat} {A : Option Addr} {R : Value → List Chunk → Prop} {ti te : TyI} (hn : n ≤ cap) (hti : tget C.tab t = some ti) (hkk : ti.k = .slice e) (hte : tget C.tab e = some te)
    (hR : R (.slice (some ⟨g, 0, none⟩) n cap) L) : Does C L (Builtin.append_ ⟨[t, t]⟩ ty ⟨[.slice (some ⟨g, 0, none⟩) n cap, .slice A 0 c]⟩) R := by
  intro w hw
  obtain ⟨d, hd, hkd⟩ := (hC.tab.get hti).und
  rw [hkk] at hkd
  obtain rfl := kOk.slice hkd
  have hs := run_sizeOf' (w := w) (hC.tab.get hte)
  refine ⟨_, w, L, ?_, hw, hR⟩
  have hl : ∀ a : Addr, (loadCells a 0).run C.P w = .ok #[] w := fun a => by simp [loadCells, loadCellsFrom]
  cases A with
  | none => simp [Builtin.append_, run_underlying' hd, hs, Builtin.lenOf, Builtin.firstCells, hn, storeCells]
  | some a => simp [Builtin.append_, run_underlying' hd, hs, Builtin.lenOf, Builtin.firstCells, hn, storeCells, hl]

/-- Elements lie there one behind the other. -/
def LieAt (w : World) (A : Option Addr) (sz : Nat) (enc : α → List Value) (zs : List α) : Prop :=
  zs ≠ [] → ∃ b o, A = some ⟨b, o, none⟩ ∧ ∀ (i : Nat) (x : α), zs[i]? = some x → ∀ (j : Nat) (v : Value), (enc x)[j]? = some v → w.cell? ⟨b, o + (i * sz + j), none⟩ = some v
theorem lie_ro {w : World} {A : Option Addr} {zs : List α} (hro : RO C.w0 C.S0 (roS A sz enc zs)) (hw : Holds C L w) : LieAt w A sz enc zs := by
  obtain ⟨T', ⟨_, _, _, hcell⟩, _⟩ := hro.now hw.1
  exact hcell
theorem lie_own {w : World} {A : Option Addr} {zs : List α} {e' : TypeId} {c : Nat} (j : Nat) (hj : lget L j = some (own A c e' sz enc zs)) (hl : ∀ x ∈ zs, (enc x).length = sz) (hw : Holds C L w) : LieAt w A sz enc zs := fun hne => by
  obtain ⟨T, hT⟩ := hw.mem hj
  obtain ⟨x, hx⟩ : ∃ x, zs[0]? = some x := by cases zs with | nil => exact absurd rfl hne | cons x xs => exact ⟨x, rfl⟩
  obtain ⟨g, cur, rfl, _⟩ := own_at hT hx
  exact ⟨g, 0, rfl, fun i x hi j v hj => by rw [Nat.zero_add]; exact own_cell hT hl hi hj⟩

/-- A part of a slice that lies there is appended. -/
theorem appG2 [hC : CtxOk C] {t ty : TypeId} {g n m c : Nat} {A A' : Option Addr} {zs : List α} {R : Value → List Chunk → Prop} {ti te : TyI} (k i : Nat) (hk : lget L k = some (own (some ⟨g, 0, none⟩) cap e sz enc xs)) (hsrc : ∀ w, Holds C L w → LieAt w A sz enc zs) (hA : 0 < m → A' = A.map (·.add (i * sz))) (him : i + m ≤ zs.length) (hn : n = xs.length)
    (hlx : ∀ x ∈ xs, (enc x).length = sz) (hly : ∀ x ∈ zs, (enc x).length = sz) (hsz : 0 < sz) (h1 : ∀ x, (enc x).all Value.oneCell' = true) (hti : tget C.tab t = some ti) (hkk : ti.k = .slice e) (hte : tget C.tab e = some te) (hs : te.size = sz) (hz0 : te.zero.length = sz)
    (hml : xs.length + m ≤ maxLen) (hbb : (xs.length + m) * te.bytes ≤ 140737488355328) (hR : ∀ g' cap', (xs ++ (zs.drop i).take m).length ≤ cap' → R (.slice (some ⟨g', 0, none⟩) (xs ++ (zs.drop i).take m).length cap') (setL L k (own (some ⟨g', 0, none⟩) cap' e sz enc (xs ++ (zs.drop i).take m)))) :
    Does C L (Builtin.append_ ⟨[t, t]⟩ ty ⟨[.slice (some ⟨g, 0, none⟩) n cap, .slice A' m c]⟩) R := by
  rcases Nat.eq_zero_or_pos m with rfl | hm
  · intro w hw
    have hcap : xs.length ≤ cap := by
      obtain ⟨T, _, _, h⟩ := hw.mem hk
      rcases h with ⟨_, h0⟩ | ⟨_, _, _, he, _, _, hn, _⟩
      · have h0 : xs.length = 0 := h0
        omega
      · cases he; exact hn
    have hset : setL L k (own (some ⟨g, 0, none⟩) cap e sz enc xs) = L := by
      have : ∀ (L : List Chunk) (k : Nat) (c : Chunk), lget L k = some c → setL L k c = L := by
        intro L
        induction L with
        | nil => intro k c h; cases k <;> simp [lget] at h
        | cons d L ih =>
          intro k c h
          cases k with
          | zero => simp [lget] at h; subst h; rfl
          | succ k => simp only [setL]; rw [ih k c (by simpa [lget] using h)]
      exact this L k _ hk
    have := hR g cap (by simpa using hcap)
    simp only [List.take_zero, List.append_nil, hset] at this
    subst hn
    exact app0 hcap hti hkk hte this w hw
  · intro w' hw'
    obtain ⟨b, o, rfl, _⟩ := hsrc w' hw' (by intro h0; rw [h0] at him; simp at him; omega)
    have hA' := hA hm
    simp only [Option.map_some] at hA'
    subst hA'
    have hyl : ((zs.drop i).take m).length = m := by simp; omega
    refine appC2 (ys := (zs.drop i).take m) k hk (fun w hw q u hu => ?_) hn hyl.symm hlx (fun x hx => hly x (List.mem_of_mem_drop (List.mem_of_mem_take hx))) hsz h1 hti hkk hte hs hz0 (by rw [hyl]; exact hml) (by rw [hyl]; exact hbb) hR w' hw'
    have hcell := hsrc w hw
    have hly' : ∀ x ∈ (zs.drop i).take m, (enc x).length = sz := fun x hx => hly x (List.mem_of_mem_drop (List.mem_of_mem_take hx))
    have hfl := flat_len hly'
    have hlt : q < ((zs.drop i).take m).length * sz := by
      rcases Nat.lt_or_ge q (((zs.drop i).take m).length * sz) with h | h
      · exact h
      · rw [List.getElem?_eq_none (by omega)] at hu; cases hu
    have hdiv : q / sz < ((zs.drop i).take m).length := (Nat.div_lt_iff_lt_mul hsz).2 hlt
    obtain ⟨y, hy⟩ : ∃ y, ((zs.drop i).take m)[q / sz]? = some y := ⟨((zs.drop i).take m)[q / sz], List.getElem?_eq_getElem hdiv⟩
    have hmod := Nat.mod_lt q hsz
    have hi : q / sz * sz + q % sz = q := by rw [Nat.mul_comm]; exact Nat.div_add_mod q sz
    have hf := flat_get hly' hy hmod
    rw [hi, hu] at hf
    obtain ⟨b', o', he, hc⟩ := hcell (by intro h0; rw [h0] at him; simp at him; omega)
    cases he
    have hyz : zs[i + q / sz]? = some y := by
      rw [List.getElem?_take_of_lt (by omega), List.getElem?_drop] at hy
      exact hy
    have := hc _ y hyz _ u hf.symm
    rw [Addr.add_none, Addr.add_none]
    rw [← this]
    congr 2
    rw [Nat.add_mul]
    omega
theorem appG [hC : CtxOk C] {t ty : TypeId} {g n m c : Nat} {A A' : Option Addr} {zs : List α} {R : Value → List Chunk → Prop} {ti te : TyI} (k i : Nat) (hk : lget L k = some (own (some ⟨g, 0, none⟩) cap e sz enc xs)) (hsrc : ∀ w, Holds C L w → LieAt w A sz enc zs) (hA : 0 < m → A' = A.map (·.add (i * sz))) (him : i + m ≤ zs.length) (hn : n = xs.length)
    (hlx : ∀ x ∈ xs, (enc x).length = sz) (hly : ∀ x ∈ zs, (enc x).length = sz) (hsz : 0 < sz) (h1 : ∀ x, (enc x).all Value.oneCell' = true) (hti : tget C.tab t = some ti) (hkk : ti.k = .slice e) (hte : tget C.tab e = some te) (hs : te.size = sz) (hz0 : te.zero.length = sz)
    (hbound : xs.length + m ≤ 2 ^ 31) (hby : te.bytes ≤ 2 ^ 12) (hR : ∀ g' cap', (xs ++ (zs.drop i).take m).length ≤ cap' → R (.slice (some ⟨g', 0, none⟩) (xs ++ (zs.drop i).take m).length cap') (setL L k (own (some ⟨g', 0, none⟩) cap' e sz enc (xs ++ (zs.drop i).take m)))) :
    Does C L (Builtin.append_ ⟨[t, t]⟩ ty ⟨[.slice (some ⟨g, 0, none⟩) n cap, .slice A' m c]⟩) R :=
  appG2 k i hk hsrc hA him hn hlx hly hsz h1 hti hkk hte hs hz0 (by simp [maxLen]; omega) (Nat.le_trans (Nat.mul_le_mul hbound hby) (by decide)) hR
/-- A part of a slice that is only read is appended. -/
theorem appRS [hC : CtxOk C] {t ty : TypeId} {g n m c : Nat} {A A' : Option Addr} {zs : List α} {R : Value → List Chunk → Prop} {ti te : TyI} (k i : Nat) (hk : lget L k = some (own (some ⟨g, 0, none⟩) cap e sz enc xs)) (hro : RO C.w0 C.S0 (roS A sz enc zs)) (hA : 0 < m → A' = A.map (·.add (i * sz))) (him : i + m ≤ zs.length) (hn : n = xs.length)
    (hlx : ∀ x ∈ xs, (enc x).length = sz) (hly : ∀ x ∈ zs, (enc x).length = sz) (hsz : 0 < sz) (h1 : ∀ x, (enc x).all Value.oneCell' = true) (hti : tget C.tab t = some ti) (hkk : ti.k = .slice e) (hte : tget C.tab e = some te) (hs : te.size = sz) (hz0 : te.zero.length = sz)
    (hbound : xs.length + m ≤ 2 ^ 31) (hby : te.bytes ≤ 2 ^ 12) (hR : ∀ g' cap', (xs ++ (zs.drop i).take m).length ≤ cap' → R (.slice (some ⟨g', 0, none⟩) (xs ++ (zs.drop i).take m).length cap') (setL L k (own (some ⟨g', 0, none⟩) cap' e sz enc (xs ++ (zs.drop i).take m)))) :
    Does C L (Builtin.append_ ⟨[t, t]⟩ ty ⟨[.slice (some ⟨g, 0, none⟩) n cap, .slice A' m c]⟩) R :=
  appG k i hk (fun _ hw => lie_ro hro hw) hA him hn hlx hly hsz h1 hti hkk hte hs hz0 hbound hby hR
/-- A part of a slice of one's own is appended to another one. -/
theorem appOS [hC : CtxOk C] {t ty : TypeId} {g n m c : Nat} {A A' : Option Addr} {zs : List α} {e' : TypeId} {c' : Nat} {R : Value → List Chunk → Prop} {ti te : TyI} (k j i : Nat) (hk : lget L k = some (own (some ⟨g, 0, none⟩) cap e sz enc xs)) (hj : lget L j = some (own A c' e' sz enc zs)) (hA : 0 < m → A' = A.map (·.add (i * sz))) (him : i + m ≤ zs.length) (hn : n = xs.length)
    (hlx : ∀ x ∈ xs, (enc x).length = sz) (hly : ∀ x ∈ zs, (enc x).length = sz) (hsz : 0 < sz) (h1 : ∀ x, (enc x).all Value.oneCell' = true) (hti : tget C.tab t = some ti) (hkk : ti.k = .slice e) (hte : tget C.tab e = some te) (hs : te.size = sz) (hz0 : te.zero.length = sz)
    (hbound : xs.length + m ≤ 2 ^ 31) (hby : te.bytes ≤ 2 ^ 12) (hR : ∀ g' cap', (xs ++ (zs.drop i).take m).length ≤ cap' → R (.slice (some ⟨g', 0, none⟩) (xs ++ (zs.drop i).take m).length cap') (setL L k (own (some ⟨g', 0, none⟩) cap' e sz enc (xs ++ (zs.drop i).take m)))) :
    Does C L (Builtin.append_ ⟨[t, t]⟩ ty ⟨[.slice (some ⟨g, 0, none⟩) n cap, .slice A' m c]⟩) R :=
  appG k i hk (fun _ hw => lie_own j hj hly hw) hA him hn hlx hly hsz h1 hti hkk hte hs hz0 hbound hby hR
theorem map_add0 (A : Option Addr) (s : Nat) : A = A.map (·.add (0 * s)) := by cases A <;> simp [Addr.add]
end
end Go.X

/- Regions that draw their order, run one operation after the other, maybe behind a front that only reads. -/
namespace Go.X
set_option linter.unusedVariables false
set_option linter.unusedSimpArgs false

section
variable {C : Ctx} {o : Oper} {e : Env} {L : List Chunk} {K : Value → Prop} {a : Act}

/-- Does what this operation yields hang on no memory? -/
def pureV (C : Ctx) (o : Oper) (e : Env) : Bool := match o.op with
  | .move _ | .assign _ | .pick .. | .build .. | .nilCheck _ | .makeInterface .. | .makeFunc .. | .fieldAddr .. | .field .. | .indexAddr .. | .extract .. => true
  | .binOp _ _ x _ _ => match ev e x with
    | some (.int ..) => true
    | some (.bool _) => true
    | _ => false
  | .unOp _ _ x => match ev e x with
    | some (.bool _) => true
    | _ => false
  | .convert _ d x => match ev e x with
    | some (.int ..) => match tget C.tab d with
      | some ⟨.int _, _, _, _⟩ => true
      | _ => false
    | _ => false
  | _ => false
def XVp (C : Ctx) (o : Oper) (e : Env) (K : Value → Prop) : Prop :=
  match o.op with
  | .slice t x lo hi mx => match ev e x with
    | some v => optV e lo fun lo => optV e hi fun hi => optV e mx fun mx => ∃ r, (∀ w, (Instr.sliceAt t v lo hi mx).run C.P w = .ok r w) ∧ K r
    | none => False
  | .call { callee := .builtin b, args := args, argTypes := ts } => evs e args.toList fun vs => match b, vs with
    | .len, [.slice _ n _] => match lget ts.toList 0 with
      | some t => match tget C.tab t with
        | some ⟨.slice _, _, _, _⟩ => K (.int .i64 n)
        | _ => False
      | none => False
    | .min, [.int k a, .int _ b] => ∃ c, c = min a b ∧ K (.int k c)
    | .max, [.int k a, .int _ b] => ∃ c, c = max a b ∧ K (.int k c)
    | _, _ => False
  | _ => match pureV C o e with
    | true => XV C o e [] K
    | false => False

theorem VOkP.binOp (hT : TabOk C.P C.tab) (ha : ES C.n e a) {op : BinOp} {t t' : TypeId} {x y : Operand} (hop : o.op = .binOp op t x y t') (hp : pureV C o e = true) (h : XV C o e L K) : VOkP C o K a := by
  unfold pureV at hp
  simp only [hop] at hp
  unfold XV at h
  simp only [hop] at h
  have hs : execOp a.eval o = (do Pure.pure (Next.value (← (do eqGuard op t x y (a.eval x) (a.eval y); Go.binOp op t (a.eval x) (a.eval y)))) : Sem Next) := by simp only [execOp, hop]
  split at h
  · rename_i k p hx
    split at h
    · rename_i k' q hy
      rw [ha.eval hx, ha.eval hy] at hs
      split at h
      · obtain ⟨v, hk, hr⟩ := xbin_sound (t := t) (x := x) (y := y) (k' := k') (P := C.P) (.inl rfl) h; exact .ofPure hs hr hk
      · obtain ⟨v, hk, hr⟩ := xbin_sound (t := t) (x := x) (y := y) (k' := k') (P := C.P) (.inr (.inl rfl)) h; exact .ofPure hs hr hk
      · split at h
        · rename_i hkk
          obtain ⟨v, hk, hr⟩ := xbin_sound (t := t) (x := x) (y := y) (k' := k') (P := C.P) (.inr (.inr (kEq_eq hkk))) h; exact .ofPure hs hr hk
        · exact h.elim
    · exact h.elim
  · rename_i p hx
    split at h
    · rename_i q hy
      rw [ha.eval hx, ha.eval hy] at hs
      split at h
      · split at h
        · rename_i ht
          obtain ⟨d, hd, hk⟩ := (hT.get ht).und
          obtain rfl := kOk.bool hk
          exact .ofPure hs (fun w => by
            have e1 : ∀ (r : Sem Value), (do eqGuard .eql t x y (.bool p) (.bool q); r) = r := fun r => rfl
            rw [e1]
            show ((Op.equal t (.bool p) (.bool q)).bind _).run C.P w = _
            rw [Sem.run_bind', run_bool_eq hd]; rfl) h
        · exact h.elim
      · split at h
        · rename_i ht
          obtain ⟨d, hd, hk⟩ := (hT.get ht).und
          obtain rfl := kOk.bool hk
          exact .ofPure hs (fun w => by
            have e1 : ∀ (r : Sem Value), (do eqGuard .neq t x y (.bool p) (.bool q); r) = r := fun r => rfl
            rw [e1]
            show ((Op.equal t (.bool p) (.bool q)).bind _).run C.P w = _
            rw [Sem.run_bind', run_bool_eq hd]; rfl) h
        · exact h.elim
      · exact h.elim
    · exact h.elim
  · rename_i u h1 h2 hx
    rw [hx] at hp
    split at hp
    · rename_i heq; cases heq; exact (h1 _ _ rfl).elim
    · rename_i heq; cases heq; exact (h2 _ rfl).elim
    · cases hp
  · exact h.elim

theorem VOkP.unOp (ha : ES C.n e a) {op : UnOp} {t : TypeId} {x : Operand} (hop : o.op = .unOp op t x) (hp : pureV C o e = true) (h : XV C o e L K) : VOkP C o K a := by
  unfold pureV at hp
  simp only [hop] at hp
  unfold XV at h
  simp only [hop] at h
  split at h
  · rename_i b hx
    split at h
    · exact .ofPure (s := Op.unary .not (.bool b)) (by simp [execOp, hop, ha.eval hx]) (fun w => rfl) h
    · exact h.elim
  · rename_i v h1 hx
    rw [hx] at hp
    split at hp
    · rename_i heq; cases heq; exact (h1 _ rfl).elim
    · cases hp
  · exact h.elim

theorem VOkP.convert (hT : TabOk C.P C.tab) (ha : ES C.n e a) {s d : TypeId} {x : Operand} (hop : o.op = .convert s d x) (hp : pureV C o e = true) (h : XV C o e L K) : VOkP C o K a := by
  unfold pureV at hp
  simp only [hop] at hp
  unfold XV at h
  simp only [hop] at h
  split at h
  · rename_i k p hx
    split at h
    · rename_i k' _ _ _ hd
      split at h
      · rename_i i hs
        obtain ⟨c, rfl, hk⟩ := h
        obtain ⟨d1, hd1, hk1⟩ := (hT.get hd).und
        obtain rfl := kOk.int hk1
        obtain ⟨d2, hd2, _⟩ := (hT.get hs).und
        exact .ofPure (s := Go.convert s d (.int k p)) (by simp [execOp, hop, ha.eval hx]) (fun w => by simp [Go.convert, run_underlying' hd1, run_underlying' hd2, Conv.intToInt]) hk
      · exact h.elim
    · rename_i hno
      rw [hx] at hp
      simp only at hp
      cases hp
  · rename_i v h1 hx
    rw [hx] at hp
    split at hp
    · rename_i heq; cases heq; exact (h1 _ _ rfl).elim
    · cases hp
  · exact h.elim

theorem XVp.sound (hT : TabOk C.P C.tab) (ha : ES C.n e a) (h : XVp C o e K) : VOkP C o K a := by
  have base : (match pureV C o e with | true => XV C o e [] K | false => False) → VOkP C o K a := fun h => by
    split at h
    · rename_i hp
      have hp' := hp
      unfold pureV at hp'
      cases hop : o.op <;> simp only [hop] at hp'
      case move x => exact VOkP.move ha (.inl hop) (by unfold XV at h; simp only [hop] at h; exact h)
      case assign x => exact VOkP.move ha (.inr hop) (by unfold XV at h; simp only [hop] at h; exact h)
      case pick => exact VOkP.pick ha hop h
      case build => exact VOkP.build hT ha hop h
      case nilCheck => exact VOkP.nilCheck ha hop h
      case makeInterface => exact VOkP.makeInterface hT ha hop h
      case makeFunc => exact VOkP.makeFunc ha hop h
      case fieldAddr => exact VOkP.fieldAddr hT ha hop h
      case field => exact VOkP.field hT ha hop h
      case indexAddr => exact VOkP.indexAddr hT ha hop h
      case extract => exact VOkP.extract ha hop h
      case binOp => exact VOkP.binOp hT ha hop hp h
      case unOp => exact VOkP.unOp ha hop hp h
      case convert => exact VOkP.convert hT ha hop hp h
      all_goals cases hp'
    · exact h.elim
  unfold XVp at h
  split at h
  · rename_i t x lo hi mx hop
    split at h
    · rename_i v hx
      obtain ⟨r, hr, hk⟩ := ha.opt (ha.opt (ha.opt h))
      exact .ofPure (s := Instr.sliceAt t v (lo.map a.eval) (hi.map a.eval) (mx.map a.eval)) (by simp [execOp, hop, ha.eval hx]) hr hk
    · exact h.elim
  · rename_i b args ts hop
    have h := ha.evals h
    have he : args.map a.eval = ⟨args.toList.map a.eval⟩ := by apply Array.ext'; simp
    have hx := exec_builtin (a := a) hop
    rw [he] at hx
    generalize args.toList.map a.eval = vs at h hx
    split at h
    · split at h
      · rename_i t ht
        rw [lget_eq] at ht
        have ht' : ts[0]? = some t := by simpa using ht
        split at h
        · rename_i et _ _ _ hti
          obtain ⟨d, hd, hk⟩ := (hT.get hti).und
          obtain rfl := kOk.slice hk
          refine .ofPure (s := Builtin.len_ ts o.type _) (by rw [hx]; rfl) (fun w => ?_) h
          simp [Builtin.len_, ht', run_underlying' hd, goInt]
        · exact h.elim
      · exact h.elim
    · obtain ⟨c, rfl, hk⟩ := h
      rename_i k p k' q
      refine .ofPure (s := Builtin.min_ ts o.type ⟨[.int k p, .int k' q]⟩) (by rw [hx]; rfl) (fun w => ?_) hk
      have : min p q = if q < p then q else p := by by_cases hpq : q < p <;> simp [hpq] <;> omega
      rw [this]
      simp [Builtin.min_, Builtin.min2]
    · obtain ⟨c, rfl, hk⟩ := h
      rename_i k p k' q
      refine .ofPure (s := Builtin.max_ ts o.type ⟨[.int k p, .int k' q]⟩) (by rw [hx]; rfl) (fun w => ?_) hk
      have : max p q = if p < q then q else p := by by_cases hpq : p < q <;> simp [hpq] <;> omega
      rw [this]
      simp [Builtin.max_, Builtin.max2]
    · exact h.elim
  · exact base h
end

def memB : List Nat → Nat → Bool
  | [], _ => false
  | x :: l, i => match Nat.beq x i with
    | true => true
    | false => memB l i
theorem memB_iff : ∀ {l : List Nat} {i : Nat}, memB l i = true ↔ i ∈ l
  | [], i => by simp [memB]
  | x :: l, i => by
    simp only [memB]
    cases hb : Nat.beq x i with
    | true => have := Nat.eq_of_beq_eq_true hb; subst this; simp
    | false =>
      have : x ≠ i := fun h => by subst h; simp at hb
      simp only [memB_iff, List.mem_cons]
      exact ⟨.inr, fun h => h.resolve_left fun h => this h.symm⟩
/-- Which operations may come next: by the lists of those that each one waits for. -/
def readyF (done : List Nat) : Nat → List (List Nat) → List Nat
  | _, [] => []
  | i, d :: ds => match memB done i with
    | true => readyF done (i + 1) ds
    | false => match d.all (memB done) with
      | true => i :: readyF done (i + 1) ds
      | false => readyF done (i + 1) ds
theorem readyF_iff {done : List Nat} : ∀ {ds : List (List Nat)} {k j : Nat}, j ∈ readyF done k ds ↔ k ≤ j ∧ j ∉ done ∧ ∃ d, ds[j - k]? = some d ∧ ∀ x ∈ d, x ∈ done
  | [], k, j => by simp [readyF]
  | d :: ds, k, j => by
    have ih := readyF_iff (done := done) (ds := ds) (k := k + 1) (j := j)
    have step : (k + 1 ≤ j ∧ j ∉ done ∧ ∃ d', ds[j - (k + 1)]? = some d' ∧ ∀ x ∈ d', x ∈ done) ↔ (k ≠ j ∧ k ≤ j ∧ j ∉ done ∧ ∃ d', (d :: ds)[j - k]? = some d' ∧ ∀ x ∈ d', x ∈ done) := by
      constructor
      · rintro ⟨h1, h2, h3⟩
        rw [show j - k = (j - (k + 1)) + 1 by omega]
        exact ⟨by omega, by omega, h2, by simpa using h3⟩
      · rintro ⟨h0, h1, h2, h3⟩
        rw [show j - k = (j - (k + 1)) + 1 by omega] at h3
        exact ⟨by omega, h2, by simpa using h3⟩
    simp only [readyF]
    cases hm : memB done k with
    | true =>
      rw [ih, step]
      constructor
      · exact fun h => h.2
      · exact fun h => ⟨fun he => h.2.1 (he ▸ memB_iff.1 hm), h⟩
    | false =>
      have hk : k ∉ done := fun h => by rw [memB_iff.2 h] at hm; cases hm
      cases hd : d.all (memB done) with
      | true =>
        have hd' : ∀ x ∈ d, x ∈ done := fun x hx => memB_iff.1 (List.all_eq_true.1 hd x hx)
        rw [List.mem_cons, ih, step]
        constructor
        · rintro (rfl | h)
          · exact ⟨Nat.le_refl _, hk, d, by simp, hd'⟩
          · exact h.2
        · intro h
          by_cases he : k = j
          · exact .inl he.symm
          · exact .inr ⟨he, h⟩
      | false =>
        rw [ih, step]
        constructor
        · exact fun h => h.2
        · rintro ⟨h1, h2, d', h3, h4⟩
          refine ⟨fun he => ?_, h1, h2, d', h3, h4⟩
          subst he
          simp at h3
          subst h3
          rw [List.all_eq_true.2 fun x hx => memB_iff.2 (h4 x hx)] at hd
          cases hd
def firstIn (pures : List Nat) : List Nat → Option Nat
  | [] => none
  | r :: rs => match memB pures r with
    | true => some r
    | false => firstIn pures rs
theorem firstIn_some {pures : List Nat} : ∀ {rs : List Nat} {i : Nat}, firstIn pures rs = some i → i ∈ rs ∧ i ∈ pures
  | [], _, h => by cases h
  | r :: rs, i, h => by
    simp only [firstIn] at h
    cases hm : memB pures r with
    | true => simp [hm] at h; subst h; exact ⟨by simp, memB_iff.1 hm⟩
    | false => simp only [hm] at h; have := firstIn_some h; exact ⟨by simp [this.1], this.2⟩
def freeL (ops : List Oper) (i : Nat) : Bool := match lget ops i with
  | some oi => (List.range ops.length).all fun j => Nat.beq j i || (match lget ops j with | some oj => memB (depsOf oi) j || memB (depsOf oj) i || oi.apart ⟨ops⟩ oj | none => true)
  | none => false
def eqLL : List (List Nat) → List (List Nat) → Bool
  | [], [] => true
  | a :: l, b :: m => a.isEqv b Nat.beq && eqLL l m
  | _, _ => false
def drawOk (ops : List Oper) (deps : List (List Nat)) (pures : List Nat) : Bool := Region.noSelect ⟨ops⟩ && pures.all (freeL ops) && eqLL (ops.map depsOf) deps

def XAll (step : Nat → Prop) (rs : List Nat) : Prop := List.rec (motive := fun _ => Prop) True (fun i _ ih => step i ∧ ih) rs
def stepP (C : Ctx) (ops : List Oper) (ih : List (Nat × Bool) → Env → List Chunk → Prop) (i : Nat) (G : List (Nat × Bool)) (e : Env) (L : List Chunk) : Prop := match lget ops i with
  | some o => guardX ops G o e (fun G e => XVp C o e fun v => ih G (put C.n e o.dst v) L) (fun G e => ih G (put C.n e o.dst undef) L)
  | none => False
def stepM (C : Ctx) (ops : List Oper) (ih : List (Nat × Bool) → Env → List Chunk → Prop) (i : Nat) (G : List (Nat × Bool)) (e : Env) (L : List Chunk) : Prop := match lget ops i with
  | some o => guardX ops G o e (fun G e => XOp C o e L fun v L' => ih G (put C.n e o.dst v) L') (fun G e => ih G (put C.n e o.dst undef) L)
  | none => False
/-- The operations that are left, from where these are done. -/
def XT (C : Ctx) (ops : List Oper) (deps : List (List Nat)) (pures : List Nat) (K : Env → List Chunk → Prop) (fuel : Nat) : List Nat → List (Nat × Bool) → Env → List Chunk → Prop :=
  Nat.rec (motive := fun _ => List Nat → List (Nat × Bool) → Env → List Chunk → Prop)
    (fun done _ e L => match readyF done 0 deps with
      | [] => K e L
      | _ => False)
    (fun _ ih done G e L => match readyF done 0 deps with
      | [] => K e L
      | r :: rs => match firstIn pures (r :: rs) with
        | some i => stepP C ops (ih (i :: done)) i G e L
        | none => match rs with
          | [] => stepM C ops (ih (r :: done)) r G e L
          | rs => XAll (fun i => stepM C ops (ih (i :: done)) i G e L) (r :: rs)) fuel

theorem XAll_mem {step : Nat → Prop} : ∀ {rs : List Nat}, XAll step rs → ∀ i ∈ rs, step i
  | [], _, i, h => by cases h
  | r :: rs, ⟨h1, h2⟩, i, h => by
    rcases List.mem_cons.1 h with rfl | h
    · exact h1
    · exact XAll_mem h2 i h

theorem eqLL_eq : ∀ {a b : List (List Nat)}, eqLL a b = true → a = b
  | [], [], _ => rfl
  | [], _ :: _, h => by simp [eqLL] at h
  | _ :: _, [], h => by simp [eqLL] at h
  | a :: l, b :: m, h => by
    simp only [eqLL, Bool.and_eq_true] at h
    have key : ∀ (a b : List Nat), a.isEqv b Nat.beq = true → a = b := by
      intro a
      induction a with
      | nil => intro b h; cases b with | nil => rfl | cons _ _ => simp [List.isEqv] at h
      | cons x a ih =>
        intro b h
        cases b with
        | nil => simp [List.isEqv] at h
        | cons y b =>
          simp only [List.isEqv, Bool.and_eq_true] at h
          rw [Nat.eq_of_beq_eq_true h.1, ih b h.2]
    rw [key a b h.1, eqLL_eq h.2]

section
variable {C : Ctx} {ops : List Oper} {deps : List (List Nat)} {pures : List Nat} {K : Env → List Chunk → Prop} {Q : Exit → Act → World → Prop}

/-- What is listed, and what is done. -/
def Same (ops : List Oper) (listed : Array Bool) (done : List Nat) : Prop := listed.size = ops.length ∧ ∀ i, listed.getD i false = true ↔ i ∈ done
theorem Same.lt {listed : Array Bool} {done : List Nat} (h : Same ops listed done) {i : Nat} (hi : i ∈ done) : i < ops.length := by
  have := (h.2 i).2 hi
  rcases Nat.lt_or_ge i listed.size with h' | h'
  · rw [← h.1]; exact h'
  · simp [Array.getElem?_eq_none h'] at this
theorem Same.un {listed : Array Bool} {done : List Nat} (h : Same ops listed done) {i : Nat} : listed.getD i true = false ↔ i < ops.length ∧ i ∉ done := by
  rw [← h.2 i, ← h.1]
  rcases Nat.lt_or_ge i listed.size with h' | h'
  · simp [h']
  · simp [Array.getElem?_eq_none h']; omega
theorem Same.put {listed : Array Bool} {done : List Nat} (h : Same ops listed done) {i : Nat} (hi : i < ops.length) : Same ops (listed.setIfInBounds i true) (i :: done) := by
  refine ⟨by simpa using h.1, fun j => ?_⟩
  rw [List.mem_cons]
  by_cases hij : i = j
  · subst hij
    simp [h.1, hi]
  · rw [getD_set_ne false hij, h.2 j]
    exact ⟨.inr, fun h' => h'.resolve_left fun he => hij he.symm⟩
theorem Same.ready {listed : Array Bool} {done : List Nat} (h : Same ops listed done) (hd : ops.map depsOf = deps) {j : Nat} : j ∈ Region.ready .any (⟨ops⟩ : Array Oper) listed ↔ j ∈ readyF done 0 deps := by
  rw [mem_ready, readyF_iff]
  subst hd
  simp only [Nat.zero_le, true_and, Nat.sub_zero, List.getElem?_map, Option.map_eq_some_iff]
  constructor
  · rintro ⟨o, ho, hu, hall⟩
    exact ⟨(h.un.1 hu).2, depsOf o, ⟨o, by simpa using ho, rfl⟩, fun x hx => (h.2 _).1 (okAt_iff.1 hall x hx)⟩
  · rintro ⟨h2, d, ⟨o, ho, rfl⟩, hall⟩
    exact ⟨o, by simpa using ho, h.un.2 ⟨(List.getElem?_eq_some_iff.1 ho).1, h2⟩, okAt_iff.2 fun x hx => (h.2 _).2 (hall x hx)⟩

theorem XT.soundK (hC : CtxOk C) (hok : drawOk ops deps pures = true) (hQ : ∀ e a L w, ES C.n e a → Holds C L w → K e L → Q .normal a w) (hP : ∀ c a w, ¬ Q (.panic c) a w) (k0 : Nat) :
    ∀ (fuel : Nat) {done : List Nat} {G : List (Nat × Bool)} {e : Env} {L : List Chunk} {a : Act} {w : World} {listed : Array Bool}, Same ops listed done → ES C.n e a → Holds C L w → XT C ops deps pures K fuel done G e L → wpAny C.P .any (⟨ops⟩ : Array Oper) Q (fuel + k0) listed a w := by
  simp only [drawOk, Bool.and_eq_true] at hok
  obtain ⟨⟨hsel, hpu⟩, hdp⟩ := hok
  have hdp := eqLL_eq hdp
  have done0 : ∀ {done : List Nat} {listed : Array Bool}, Same ops listed done → readyF done 0 deps = [] → Region.ready .any (⟨ops⟩ : Array Oper) listed = [] := fun hs hr => by
    rw [List.eq_nil_iff_forall_not_mem]
    intro j hj
    have := (hs.ready hdp).1 hj
    rw [hr] at this; cases this
  intro fuel
  induction fuel with
  | zero =>
    intro done G e L a w listed hs ha hw h
    have h : (match readyF done 0 deps with | [] => K e L | _ => False) := h
    split at h
    · rename_i hr
      exact wpAny_done (done0 hs hr) (hQ _ _ _ _ ha hw h) _
    · exact h.elim
  | succ fuel ih =>
    intro done G e L a w listed hs ha hw h
    rw [Nat.add_right_comm]
    have h : (match readyF done 0 deps with
      | [] => K e L
      | r :: rs => match firstIn pures (r :: rs) with
        | some i => stepP C ops (XT C ops deps pures K fuel (i :: done)) i G e L
        | none => match rs with
          | [] => stepM C ops (XT C ops deps pures K fuel (r :: done)) r G e L
          | rs => XAll (fun i => stepM C ops (XT C ops deps pures K fuel (i :: done)) i G e L) (r :: rs)) := h
    have mem : ∀ {j : Nat}, j ∈ readyF done 0 deps → stepM C ops (XT C ops deps pures K fuel (j :: done)) j G e L → wpOp C.P (⟨ops⟩ : Array Oper) Q j (wpAny C.P .any (⟨ops⟩ : Array Oper) Q (fuel + k0) (listed.setIfInBounds j true)) a w := fun {j} hj h => by
      unfold stepM at h
      split at h
      · rename_i o ho
        rw [lget_eq] at ho
        have hjl := (List.getElem?_eq_some_iff.1 ho).1
        unfold wpOp
        rw [show (⟨ops⟩ : Array Oper)[j]? = some o by simpa using ho]
        rcases guardX.sound ha h with ⟨hwt, G', e', ha', h'⟩ | ⟨hwt, G', e', ha', h'⟩
        · simp only [hwt, if_true]
          exact .inl (XOp.sound hC ha' h' _ Q (fun v L' w' hk hh => ih (hs.put hjl) (ha'.put o.dst v) hh hk) w hw)
        · simp only [hwt, Bool.false_eq_true, if_false]
          exact ih (hs.put hjl) (ha'.put o.dst undef) hw h'
      · exact h.elim
    split at h
    · rename_i hr
      have hr' := done0 hs hr
      exact ⟨fun _ => hQ _ _ _ _ ha hw h, fun i hi => by rw [hr'] at hi; cases hi⟩
    · rename_i r rs hr
      split at h
      · rename_i i hf
        obtain ⟨hi1, hi2⟩ := firstIn_some hf
        have hready : i ∈ Region.ready .any (⟨ops⟩ : Array Oper) listed := (hs.ready hdp).2 (hr ▸ hi1)
        have hfree := List.all_eq_true.1 hpu i hi2
        unfold stepP at h
        unfold freeL at hfree
        split at h
        · rename_i o ho
          simp only [ho] at hfree
          rw [lget_eq] at ho
          have hil := (List.getElem?_eq_some_iff.1 ho).1
          have hoi : (⟨ops⟩ : Array Oper)[i]? = some o := by simpa using ho
          have hap : ∀ (j : Nat) (oj : Oper), (⟨ops⟩ : Array Oper)[j]? = some oj → j ≠ i → listed.getD j true = false → (∀ e ∈ oj.after, Region.binds .any e = true → e.on ≠ i) → o.apart ⟨ops⟩ oj = true := fun j oj hj hne hunj hno => by
            have hj' : ops[j]? = some oj := by simpa using hj
            have := List.all_eq_true.1 hfree j (List.mem_range.2 (List.getElem?_eq_some_iff.1 hj').1)
            rw [Bool.or_eq_true] at this
            rcases this with h | h
            · exact absurd (Nat.eq_of_beq_eq_true h) hne
            rw [lget_eq, hj'] at h
            simp only [Bool.or_eq_true] at h
            rcases h with (h | h) | h
            · exfalso
              obtain ⟨o', ho', _, hall⟩ := mem_ready.1 hready
              rw [hoi] at ho'; cases ho'
              exact (hs.un.1 hunj).2 ((hs.2 j).1 (okAt_iff.1 hall j (memB_iff.1 h)))
            · exfalso
              obtain ⟨e, he, hej⟩ := List.mem_map.1 (memB_iff.1 h)
              rw [List.mem_filter] at he
              exact hno e (by simpa using he.1) he.2 hej
            · exact h
          rcases guardX.sound ha h with ⟨hwt, G', e', ha', h'⟩ | ⟨hwt, G', e', ha', h'⟩
          · obtain ⟨v, hk, hrun⟩ := XVp.sound hC.tab ha' h'
            exact wpAny_first hoi (Region.noSelect_spec hsel) (fun c a w hq => (hP c _ _ hq).elim) (fuel + k0) listed a w hap hready (.inl ⟨hwt, hrun⟩) (ih (hs.put hil) (ha'.put o.dst v) hw hk)
          · exact wpAny_first hoi (Region.noSelect_spec hsel) (fun c a w hq => (hP c _ _ hq).elim) (fuel + k0) listed a w hap hready (.inr ⟨hwt, rfl⟩) (ih (hs.put hil) (ha'.put o.dst undef) hw h')
        · exact h.elim
      · refine ⟨fun hr0 => ?_, fun j hj => ?_⟩
        · have : r ∈ Region.ready .any (⟨ops⟩ : Array Oper) listed := (hs.ready hdp).2 (by rw [hr]; simp)
          rw [hr0] at this; cases this
        · have hj' := (hs.ready hdp).1 hj
          refine mem hj' ?_
          rw [hr] at hj'
          split at h
          · have : j = r := by simpa using hj'
            subst this; exact h
          · exact XAll_mem h j hj'

/-- A REGION THAT DRAWS ITS ORDER, one operation after the other. -/
theorem drawT {C : Ctx} [hC : CtxOk C] {ops : List Oper} {e : Env} {L : List Chunk} {K : Env → List Chunk → Prop} (deps : List (List Nat)) (pures : List Nat) (hok : drawOk ops deps pures = true) (h : XT C ops deps pures K ops.length [] [] e L) : XDrawS C ops e L K := by
  unfold XDrawS
  intro id Q a w hQ ha hw
  refine wp_mono (Q := fun ex a w => ex = .normal ∧ Q .normal a w) ?_ ?_
  · refine wp_region_any hC.mixed ?_
    exact XT.soundK (Q := fun ex a w => ex = .normal ∧ Q .normal a w) hC hok (fun e a L w h1 h2 h3 => ⟨rfl, hQ e a L w h1 h2 h3⟩) (fun c a w h => by cases h.1) 0 ops.length (listed := Array.replicate ops.length false) ⟨by simp, fun i => by
      by_cases hi : i < ops.length <;> simp [Array.getD, hi]⟩ ha (Inv.drew hw) h
  · rintro ex a w ⟨rfl, h⟩
    exact h
end
end Go.X
namespace Go.X
set_option linter.unusedVariables false
set_option linter.unusedSimpArgs false

/-- Do all numbers below n lie before an operation that waits for those of S? -/
def sweepTo (ops : List Oper) (n : Nat) : Nat → List Nat → Bool
  | 0, _ => true
  | i + 1, S => match memB S i with
    | true => sweepTo ops n i (S ++ (((ops[i]?).map depsOf).getD []))
    | false => Nat.ble n i && sweepTo ops n i S
def behindB (ops : List Oper) (n : Nat) : Nat → List Oper → Bool
  | _, [] => true
  | k, o :: os => sweepTo ops n k (depsOf o) && behindB ops n (k + 1) os
theorem sweepTo_listed {ops : List Oper} {n : Nat} {l : Array Bool} (hc : ∀ (i : Nat) (o : Oper), ops[i]? = some o → l.getD i false = true → okAt o l = true) :
    ∀ (i : Nat) (S : List Nat), i ≤ ops.length → sweepTo ops n i S = true → (∀ j ∈ S, l.getD j false = true) → ∀ j, j < i → j < n → l.getD j false = true
  | 0, _, _, _, _, j, hj, _ => by omega
  | i + 1, S, hi, h, hS, j, hj, hjn => by
    simp only [sweepTo] at h
    have ho : ops[i]? = some ops[i] := by simp [show i < ops.length by omega]
    split at h
    · rename_i hm
      have hi' : l.getD i false = true := hS i (memB_iff.1 hm)
      rcases Nat.lt_or_ge j i with hlt | hge
      · refine sweepTo_listed hc i _ (by omega) h (fun k hk => ?_) j hlt hjn
        rcases List.mem_append.1 hk with hk | hk
        · exact hS k hk
        · rw [ho] at hk
          exact okAt_iff.1 (hc i _ ho hi') k (by simpa using hk)
      · obtain rfl : j = i := by omega
        exact hi'
    · rw [Bool.and_eq_true] at h
      have := Nat.le_of_ble_eq_true h.1
      exact sweepTo_listed hc i S (by omega) h.2 hS j (by omega) hjn
theorem behindB_spec {ops : List Oper} {n : Nat} : ∀ {os : List Oper} {k : Nat}, behindB ops n k os = true → ∀ (i : Nat) (o : Oper), os[i]? = some o → sweepTo ops n (k + i) (depsOf o) = true
  | [], _, _, i, o, h => by simp at h
  | x :: os, k, h, 0, o, ho => by
    simp only [behindB, Bool.and_eq_true] at h
    simp at ho; subst ho; exact h.1
  | x :: os, k, h, i + 1, o, ho => by
    simp only [behindB, Bool.and_eq_true] at h
    have := behindB_spec h.2 i o (by simpa using ho)
    rwa [show k + 1 + i = k + (i + 1) by omega] at this

section
variable {P : Program} {Q' : Exit → Act → World → Prop}
theorem wpAny_frontG {pre suf : List Oper} {u : Nat → List Nat} (hb : backB (pre ++ suf) 0 = true) (hcl : closB pre u pre.length = true) (hch : behindB (pre ++ suf) pre.length pre.length suf = true) (J : (Nat → Bool) → Act → World → Prop)
    (hJ : ∀ S S' a w, (∀ i, i < pre.length → S i = S' i) → J S a w → J S' a w)
    (hstep : ∀ S a w i o, pre[i]? = some o → S i = false → (∀ j ∈ u i, S j = true) → J S a w → ∀ K : Act → World → Prop, (∀ a w, J (fun j => S j || j == i) a w → K a w) → wpOp P (pre ++ suf).toArray Q' i K a w)
    (hend : ∀ S a w (fuel : Nat) (l : Array Bool), (∀ i, i < pre.length → S i = true) → J S a w → l.size = (pre ++ suf).length → (∀ i, i < (pre ++ suf).length → (l.getD i false = true ↔ i < pre.length)) → suf.length ≤ fuel → wpAny P .any (pre ++ suf).toArray Q' fuel l a w) :
    ∀ (fuel : Nat) (l : Array Bool) (a : Act) (w : World), Ls (pre ++ suf) l → (∀ i, i < pre.length → l.getD i false = true → ∀ j ∈ u i, l.getD j false = true) → (∀ i, pre.length ≤ i → i < (pre ++ suf).length → l.getD i false = false) → unl l ≤ fuel → J (fun i => l.getD i false) a w →
      wpAny P .any (pre ++ suf).toArray Q' fuel l a w := by
  have hsp := backB_spec hb
  have hcls := closB_spec hcl
  have chain : ∀ (fuel : Nat) (l : Array Bool) (a : Act) (w : World), Ls (pre ++ suf) l → (∀ i, pre.length ≤ i → i < (pre ++ suf).length → l.getD i false = false) → unl l ≤ fuel → (∀ i, i < pre.length → l.getD i false = true) → J (fun i => l.getD i false) a w → wpAny P .any (pre ++ suf).toArray Q' fuel l a w := by
    intro fuel l a w hL hs hf hall hj
    refine hend _ a w fuel l hall hj hL.size (fun i hi => ⟨fun h => ?_, hall i⟩) ?_
    · rcases Nat.lt_or_ge i pre.length with h' | h'
      · exact h'
      · rw [hs i h' hi] at h; cases h
    · refine Nat.le_trans ?_ hf
      have hl : l.toList.drop pre.length = List.replicate suf.length false := by
        apply List.ext_getElem?
        intro i
        rw [List.getElem?_drop, List.getElem?_replicate]
        split
        · rename_i hi
          have h1 := hs (pre.length + i) (by omega) (by simp; omega)
          have hsz : pre.length + i < l.size := by rw [hL.size]; simp; omega
          simp only [Array.getD, hsz, dif_pos] at h1
          rw [Array.getElem?_toList]
          rw [Array.getElem?_eq_getElem hsz]
          exact congrArg some h1
        · rename_i hi
          rw [List.getElem?_eq_none]
          have := hL.size
          simp at this ⊢; omega
      unfold unl
      rw [← List.take_append_drop pre.length l.toList, hl, List.filter_append, List.length_append]
      simp
  intro fuel
  induction fuel with
  | zero =>
    intro l a w hL hu hs hf hj
    exact chain 0 l a w hL hs hf (fun i hi => by
      rw [← getD_tf (by rw [hL.size]; simp; omega)]
      exact unl_zero (by omega) i) hj
  | succ fuel ih =>
    intro l a w hL hu hs hf hj
    by_cases hall : ∀ i, i < pre.length → l.getD i false = true
    · exact chain _ l a w hL hs hf hall hj
    · refine ⟨fun hr => ?_, fun i hi => ?_⟩
      · exfalso
        apply hall
        intro i hi
        have := ready_all (by simpa using hL.size) (by simpa using hb) hr i (by simp; omega)
        rw [getD_tf (by rw [hL.size]; simp; omega)] at this
        exact this
      · obtain ⟨o, ho, hl', hok⟩ := mem_ready.1 hi
        have ho : (pre ++ suf)[i]? = some o := by simpa using ho
        have hlt := (List.getElem?_eq_some_iff.1 ho).1
        have hip : i < pre.length := by
          rcases Nat.lt_or_ge i pre.length with h | h
          · exact h
          · exfalso
            apply hall
            intro j hj'
            have hso : suf[i - pre.length]? = some o := by rwa [List.getElem?_append_right h] at ho
            have := behindB_spec hch (i - pre.length) o hso
            rw [show pre.length + (i - pre.length) = i by omega] at this
            exact sweepTo_listed hL.closed i (depsOf o) (by omega) this (fun j hj => okAt_iff.1 hok j hj) j (by omega) hj'
        have hpo : pre[i]? = some o := by rw [List.getElem?_append_left hip] at ho; exact ho
        have hui : ∀ j ∈ u i, l.getD j false = true := by
          intro j hj'
          have hdl := okAt_iff.1 hok
          rcases hcls i o hip hpo j hj' with h | ⟨d, hd, hjd⟩
          · exact hdl j h
          · have hdi := (hsp i o ho).1 d hd
            exact hu d (by omega) (hdl d hd) j hjd
        refine hstep _ a w i o hpo (by rw [← getD_tf (by rw [hL.size]; exact hlt)]; exact hl') hui hj _ fun a' w' hj' => ih _ a' w' (hL.set ho hok) (fun k hk hlk j hjk => ?_) (fun k hk hk' => ?_) ?_ (hJ _ _ a' w' (fun k hk => ?_) hj')
        · rw [getD_set (by rw [hL.size]; exact hlt)] at hlk ⊢
          split
          · rfl
          · by_cases hik : i = k
            · subst hik; exact hui j hjk
            · rw [if_neg hik] at hlk; exact hu k hk hlk j hjk
        · rw [getD_set (by rw [hL.size]; exact hlt), if_neg (by omega)]; exact hs k hk hk'
        · have := unl_set (by rw [hL.size]; exact hlt) hl'
          omega
        · rw [getD_set (by rw [hL.size]; exact hlt)]
          by_cases hik : i = k
          · subst hik; simp
          · rw [if_neg hik]
            have : (k == i) = false := by simp; omega
            simp [this]

theorem wp_region_frontG {id : Nat} {a : Act} {w : World} (hm : P.follows .mixedOrders = true) {pre suf : List Oper} {u : Nat → List Nat} (hb : backB (pre ++ suf) 0 = true) (hcl : closB pre u pre.length = true) (hch : behindB (pre ++ suf) pre.length pre.length suf = true) (J : (Nat → Bool) → Act → World → Prop)
    (hJ : ∀ S S' a w, (∀ i, i < pre.length → S i = S' i) → J S a w → J S' a w)
    (h0 : J (fun _ => false) a { w with drawn := w.drawn + 1 })
    (hstep : ∀ S a w i o, pre[i]? = some o → S i = false → (∀ j ∈ u i, S j = true) → J S a w → ∀ K : Act → World → Prop, (∀ a w, J (fun j => S j || j == i) a w → K a w) → wpOp P (pre ++ suf).toArray Q' i K a w)
    (hend : ∀ S a w (fuel : Nat) (l : Array Bool), (∀ i, i < pre.length → S i = true) → J S a w → l.size = (pre ++ suf).length → (∀ i, i < (pre ++ suf).length → (l.getD i false = true ↔ i < pre.length)) → suf.length ≤ fuel → wpAny P .any (pre ++ suf).toArray Q' fuel l a w) : (Code.region id (pre ++ suf).toArray true).wp P Q' a w := by
  refine wp_region_any hm ?_
  have hfalse : ∀ (n i : Nat), (Array.replicate n false).getD i false = false := fun n i => by
    by_cases h : i < n <;> simp [Array.getD, h]
  refine wpAny_frontG (u := u) hb hcl hch J hJ hstep hend _ _ a _ ⟨by simp, fun i o _ h => by rw [hfalse] at h; cases h⟩ (fun i _ h => by rw [hfalse] at h; cases h) (fun i _ _ => hfalse _ _) ?_ (hJ _ _ _ _ (fun i _ => (hfalse _ i).symm) h0)
  unfold unl
  simp

theorem wp_region_qG {C : World → Prop} {id : Nat} {a : Act} {w : World} (hm : P.follows .mixedOrders = true) {pre suf : List Oper} (hb : backB (pre ++ suf) 0 = true) (hch : behindB (pre ++ suf) pre.length pre.length suf = true)
    (hB : Region.lexB .any pre.toArray = true) {Qa : Act → Prop} (hC : C { w with drawn := w.drawn + 1 }) (h : wpQuiet P pre.toArray C Qa pre a)
    (hend : ∀ a w (fuel : Nat) (l : Array Bool), C w → Qa a → l.size = (pre ++ suf).length → (∀ i, i < (pre ++ suf).length → (l.getD i false = true ↔ i < pre.length)) → suf.length ≤ fuel → wpAny P .any (pre ++ suf).toArray Q' fuel l a w) : (Code.region id (pre ++ suf).toArray true).wp P Q' a w := by
  have hsp := backB_spec hb
  simp only [Region.lexB, Bool.and_eq_true] at hB
  have hq := wpAnyQ_lex (C := C) (md := .any) hB.1 pre 0 (Array.replicate pre.toArray.size false) a (by simp) (by simpa using hB.2) h
  refine wp_region_frontG (u := depU pre) hm hb (closB_dep pre _) hch
    (fun S a w => C w ∧ ∃ (fuel : Nat) (pl : Array Bool), pl.size = pre.length ∧ (∀ i, i < pre.length → pl.getD i false = S i) ∧ wpAnyQ P .any pre.toArray C Qa fuel pl a) ?_ ?_ ?_ ?_
  · rintro S S' a w hS ⟨h1, fuel, pl, h2, h3, h4⟩
    exact ⟨h1, fuel, pl, h2, fun i hi => (h3 i hi).trans (hS i hi), h4⟩
  · exact ⟨hC, pre.length, Array.replicate pre.toArray.size false, by simp, fun i hi => by simp [Array.getD], hq⟩
  · rintro S a w i o ho hs hu ⟨h1, fuel, pl, h2, h3, h4⟩ K' hK'
    have hi : i < pre.length := (List.getElem?_eq_some_iff.1 ho).1
    have hdep : ∀ j ∈ depsOf o, j < pre.length ∧ S j = true := fun j hj => by
      have := (hsp i o (by rw [List.getElem?_append_left hi]; exact ho)).1 j hj
      exact ⟨by omega, hu j (by simp only [depU, ho, Option.map_some, Option.getD_some]; exact hj)⟩
    have hok : okAt o pl = true := okAt_iff.2 fun j hj => by rw [h3 j (hdep j hj).1]; exact (hdep j hj).2
    have hmem : i ∈ Region.ready .any pre.toArray pl := mem_ready.2 ⟨o, by simpa using ho, by rw [getD_tf (by omega), h3 i hi]; exact hs, hok⟩
    cases fuel with
    | zero =>
      have h4 := h4.1
      rw [h4] at hmem; cases hmem
    | succ fuel =>
      have hqq := h4.2 i hmem
      unfold qOp at hqq
      unfold wpOp
      rw [show (pre ++ suf).toArray[i]? = some o by simp [List.getElem?_append_left hi, ho]]
      simp only [show pre.toArray[i]? = some o by simpa using ho] at hqq
      have hgd : ∀ j b, o.guard = some (j, b) → j < pre.length := fun j b hgd => by
        have := (hsp i o (by rw [List.getElem?_append_left hi]; exact ho)).2 j b hgd
        omega
      rw [← wanted_app (suf := suf) hgd] at hqq
      have next : ∀ a w, C w → wpAnyQ P .any pre.toArray C Qa fuel (pl.setIfInBounds i true) a → K' a w := fun a w hw hk => hK' a w ⟨hw, fuel, _, by simpa using h2, fun j hj => by
        rw [getD_set (by omega)]
        by_cases hij : i = j
        · subst hij; simp
        · rw [if_neg hij, h3 j hj]
          have : (j == i) = false := by simp; omega
          simp [this], hk⟩
      dsimp only
      split
      · rename_i hw'
        rw [if_pos hw'] at hqq
        exact .inl (Oper.wp_of_quiet (C := C) h1 (fun a' w' hw'' hk => next a' w' hw'' hk) hqq)
      · rename_i hw'
        rw [if_neg hw'] at hqq
        exact next _ w h1 hqq
  · rintro S a w fu l hS ⟨h1, fuel, pl, h2, h3, h4⟩ hl1 hl2 hfu
    refine hend a w fu l h1 ?_ hl1 hl2 hfu
    have hr : Region.ready .any pre.toArray pl = [] := by
      apply List.eq_nil_iff_forall_not_mem.2
      intro j hj
      obtain ⟨u, hu, hlu, _⟩ := mem_ready.1 hj
      obtain ⟨hlt', _⟩ := Array.getElem?_eq_some_iff.1 hu
      have hlt'' : j < pre.length := by simpa using hlt'
      rw [getD_tf (by omega), h3 j hlt'', hS j hlt''] at hlu
      cases hlu
    cases fuel with
    | zero => exact h4.2
    | succ fuel => exact h4.1 hr
end

/-- A region that draws: the first n operations only read, and lie before all others. -/
theorem drawGT {C : Ctx} [hC : CtxOk C] {ops : List Oper} {e : Env} {L : List Chunk} {K : Env → List Chunk → Prop} (n : Nat) (deps : List (List Nat)) (pures : List Nat)
    (hok : (backB ops 0 && behindB ops (ops.take n).length (ops.take n).length (ops.drop n) && Region.lexB .any (ops.take n).toArray && drawOk ops deps pures) = true)
    (h : XQs C (ops.take n) (fun e L => XT C ops deps pures K (ops.drop n).length (List.range n) [] e L) L (ops.take n) [] e) (hn : Nat.ble n ops.length = true) : XDrawS C ops e L K := by
  unfold XDrawS
  intro id Q a w hQ ha hw
  simp only [Bool.and_eq_true] at hok
  obtain ⟨⟨⟨hb, hch⟩, hB⟩, hd⟩ := hok
  have hn := Nat.le_of_ble_eq_true hn
  have hlen : (ops.take n).length = n := by simp; omega
  have heq : ops.take n ++ ops.drop n = ops := List.take_append_drop n ops
  refine wp_mono (Q := fun ex a w => ex = .normal ∧ Q .normal a w) ?_ ?_
  · have key := wp_region_qG (id := id) (Q' := fun ex a w => ex = .normal ∧ Q .normal a w) (a := a) (w := w) (C := Holds C L) hC.mixed (pre := ops.take n) (suf := ops.drop n) (by rw [heq]; exact hb) (by rw [heq]; exact hch) hB
      (Qa := fun a => ∃ e, ES C.n e a ∧ XT C ops deps pures K (ops.drop n).length (List.range n) [] e L) (Inv.drew hw) (XQs.sound hC (fun e a ha hk => ⟨e, ha, hk⟩) (ops.take n) ha h) (by
      rintro a w fuel l hw ⟨e, ha, hx⟩ hl1 hl2 hfu
      obtain ⟨k, rfl⟩ : ∃ k, fuel = (ops.drop n).length + k := ⟨fuel - (ops.drop n).length, by omega⟩
      rw [heq] at hl1 hl2 ⊢
      rw [hlen] at hl2
      exact XT.soundK (Q := fun ex a w => ex = .normal ∧ Q .normal a w) hC hd (fun e a L w h1 h2 h3 => ⟨rfl, hQ e a L w h1 h2 h3⟩) (fun c a w h => by cases h.1) k (ops.drop n).length (listed := l) ⟨hl1, fun i => by
        rw [List.mem_range]
        rcases Nat.lt_or_ge i ops.length with h | h
        · exact hl2 i h
        · rw [show l.getD i false = false by simp [Array.getElem?_eq_none (show l.size ≤ i by omega)]]
          simp; omega⟩ ha hw hx)
    rwa [heq] at key
  · rintro ex a w ⟨rfl, h⟩
    exact h
end Go.X

/- Slices that nobody writes to any more lie in a pool; contracts with what is not touched; slices that are made. -/
namespace Go.X
set_option linter.unusedVariables false
set_option linter.unusedSimpArgs false

/-- A slice in a pool: where it begins, the type of its elements, its cells. -/
structure Itm where
  a : Option Addr
  e : TypeId
  cells : List Value
def Itm.sat (it : Itm) (w : World) : Prop := match it.a with
  | none => it.cells = []
  | some ad => ∃ g cur, ad = ⟨g, 0, none⟩ ∧ w.heap[g]? = some (.cells cur it.e (0, 0)) ∧ cur.toList.take it.cells.length = it.cells
theorem itm_some {it : Itm} {w : World} {ad : Addr} (h : it.sat w) (ha : it.a = some ad) : ∃ g cur, ad = ⟨g, 0, none⟩ ∧ w.heap[g]? = some (.cells cur it.e (0, 0)) ∧ cur.toList.take it.cells.length = it.cells := by
  unfold Itm.sat at h
  rw [ha] at h
  exact h
def pool (l : List Itm) : Chunk where
  sat w S := (∀ b, S b ↔ ∃ it ∈ l, ∃ ad, it.a = some ad ∧ ad.block = b) ∧ ∀ it ∈ l, it.sat w
  stab {w w' S} h hk := ⟨h.1, fun it hit => by
    have := h.2 it hit
    unfold Itm.sat at this ⊢
    split
    · rename_i ha; rw [ha] at this; exact this
    · rename_i ad ha
      rw [ha] at this
      obtain ⟨g, cur, rfl, hg, ht⟩ := this
      exact ⟨g, cur, rfl, (hk g ((h.1 g).2 ⟨it, hit, _, ha, rfl⟩)).trans hg, ht⟩⟩
  dom {w S b} h hb := by
    obtain ⟨it, hit, ad, ha, rfl⟩ := (h.1 b).1 hb
    obtain ⟨g, cur, rfl, hg, _⟩ := itm_some (h.2 it hit) ha
    exact (Array.getElem?_eq_some_iff.1 hg).1

theorem pool_nil {L : List Chunk} : Ent L (pool [] :: L) := .free fun w => ⟨fun b => by simp, fun it h => by cases h⟩
theorem pool_sub {l l' : List Itm} {L : List Chunk} (h : ∀ it ∈ l', it ∈ l) : Ent (pool l :: L) (pool l' :: L) :=
  .conv fun w T hT => ⟨fun b => ∃ it ∈ l', ∃ ad, it.a = some ad ∧ ad.block = b, ⟨fun b => Iff.rfl, fun it hit => hT.2 it (h it hit)⟩, fun b ⟨it, hit, ad, h1, h2⟩ => (hT.1 b).2 ⟨it, h it hit, ad, h1, h2⟩⟩
theorem pool_add {α : Type} {a : Option Addr} {cap : Nat} {e : TypeId} {sz : Nat} {enc : α → List Value} {xs : List α} {l : List Itm} {L : List Chunk} : Ent (own a cap e sz enc xs :: pool l :: L) (pool (⟨a, e, xs.flatMap enc⟩ :: l) :: L) := by
  rintro w0 S0 w ⟨hf, S, ⟨S1, S2, h1, ⟨S3, S4, h3, h4, d2, s3, s4⟩, d1, s1, s2⟩, hb⟩
  refine ⟨hf, S, ⟨fun b => S1 b ∨ S3 b, S4, ⟨fun b => ?_, fun it hit => ?_⟩, h4, fun b hb => ?_, fun b hb => ?_, fun b hb => s2 b (s4 b hb)⟩, hb⟩
  · show (S1 b ∨ S3 b) ↔ _
    rw [h1.1 b, h3.1 b]
    constructor
    · rintro (h | ⟨it, hit, ad, h, h'⟩)
      · cases a with
        | none => simp [Value.ownBlock] at h
        | some ad => exact ⟨⟨some ad, e, xs.flatMap enc⟩, List.mem_cons.2 (.inl rfl), ad, rfl, by simpa [Value.ownBlock] using h⟩
      · exact ⟨it, List.mem_cons.2 (.inr hit), ad, h, h'⟩
    · rintro ⟨it, hit, ad, h, h'⟩
      rcases List.mem_cons.1 hit with rfl | hit
      · left
        simp only at h
        subst h
        simpa [Value.ownBlock] using h'
      · exact .inr ⟨it, hit, ad, h, h'⟩
  · rcases List.mem_cons.1 hit with rfl | hit
    · unfold Itm.sat
      obtain ⟨_, hl, h | ⟨g, c, cur, he, _, hg, hn, _, hcs, ht⟩⟩ := h1
      · simp only [Value.slice.injEq] at h
        obtain ⟨⟨rfl, _⟩, h0⟩ := h
        have : xs = [] := List.eq_nil_of_length_eq_zero h0
        subst this
        rfl
      · cases he
        refine ⟨g, cur, rfl, hg, ?_⟩
        show cur.toList.take (xs.flatMap enc).length = _
        rw [hl]; exact ht
    · exact h3.2 it hit
  · rcases hb with hb | hb
    · exact fun h => d1 b hb (s4 b h)
    · exact d2 b hb
  · exact hb.elim (s1 b) fun hb => s2 b (s3 b hb)

/-- What lies in a pool may be read. -/
theorem RO.pool {α : Type} {w : World} {S : FP} {l : List Itm} {it : Itm} {sz : Nat} {enc : α → List Value} {xs : List α} (h : RO w S (X.pool l)) (hm : it ∈ l) (hc : it.cells = xs.flatMap enc) (hl : ∀ x ∈ xs, (enc x).length = sz) (hsz : 0 < sz) : RO w S (roS it.a sz enc xs) := by
  obtain ⟨T, ⟨h1, h2⟩, hd⟩ := h
  have hs := h2 it hm
  refine ⟨fun k => ∃ b, it.a = some b ∧ k = b.block ∧ xs ≠ [], ⟨fun k => Iff.rfl, fun _ => hsz, hl, fun hne => ?_⟩, ?_⟩
  · cases ha : it.a with
    | none =>
      unfold Itm.sat at hs
      rw [ha] at hs
      simp only at hs
      have hfl := flat_len hl
      rw [← hc, hs] at hfl
      simp at hfl
      exact absurd (List.eq_nil_of_length_eq_zero ((Nat.mul_eq_zero.1 hfl.symm).resolve_right (by omega))) hne
    | some ad =>
      obtain ⟨g, cur, rfl, hg, ht⟩ := itm_some hs ha
      refine ⟨g, 0, rfl, fun i x hi j v hj => ?_⟩
      rw [hc, flat_len hl] at ht
      have hjs : j < sz := by
        have := hl x (List.mem_of_getElem? hi)
        rcases Nat.lt_or_ge j sz with h | h
        · exact h
        · rw [List.getElem?_eq_none (by omega)] at hj; cases hj
      have hf := flat_get hl hi hjs
      rw [hj, ← ht, List.getElem?_take] at hf
      rw [Nat.zero_add]
      split at hf
      · simp only [World.cell?, hg, Bool.false_eq_true, if_false]
        simpa using hf
      · cases hf
  · rintro k ⟨b, ha, rfl, hne⟩
    exact hd _ ((h1 _).2 ⟨it, hm, b, ha, rfl⟩)
theorem lie_pool {α : Type} {C : Ctx} {L : List Chunk} {w : World} {l : List Itm} {it : Itm} {sz : Nat} {enc : α → List Value} {xs : List α} (j : Nat) (hj : lget L j = some (pool l)) (hm : it ∈ l) (hc : it.cells = xs.flatMap enc) (hl : ∀ x ∈ xs, (enc x).length = sz) (hsz : 0 < sz) (hw : Holds C L w) : LieAt w it.a sz enc xs := by
  obtain ⟨T, hT⟩ := hw.mem hj
  obtain ⟨T', ⟨_, _, _, h⟩, _⟩ := RO.pool (S := fun _ => False) ⟨T, hT, fun _ _ h => h⟩ hm hc hl hsz
  exact h

section
variable {α : Type} {C : Ctx} {L : List Chunk} {e : TypeId} {sz cap : Nat} {enc : α → List Value} {xs : List α}
theorem Rdb.lie {A : Option Addr} {b i j off : Nat} {x : α} {v : Value} (hs : ∀ w, Holds C L w → LieAt w A sz enc xs) (hA : A = some ⟨b, 0, none⟩) (hi : xs[i]? = some x) (hj : (enc x)[j]? = some v) (hoff : off = i * sz + j) : Rdb C L b off v := by
  intro w hw
  obtain ⟨b', o, he, hc⟩ := hs w hw (by intro h; simp [h] at hi)
  rw [hA] at he; cases he
  have := hc i x hi j v hj
  rw [Nat.zero_add] at this
  rw [hoff]; exact this
/-- Load out of what lies there. -/
theorem ldL [hC : CtxOk C] {t : TypeId} {A : Option Addr} {b off : Nat} {x : α} {v : Value} (hs : ∀ w, Holds C L w → LieAt w A sz enc xs) (i j : Nat) (hA : A = some ⟨b, 0, none⟩) (hi : xs[i]? = some x) (hj : lget (enc x) j = some v) (ht : aggOf C.tab t = some false) (hoff : off = i * sz + j) : RunsTo C L (Instr.loadAt t (.pointer (some ⟨b, off, none⟩))) v :=
  .load1 ht (.lie hs hA hi (by rw [← lget_eq]; exact hj) hoff)
theorem ldLA [hC : CtxOk C] {t : TypeId} {A : Option Addr} {b off : Nat} {x : α} {ti : TyI} (hs : ∀ w, Holds C L w → LieAt w A sz enc xs) (i : Nat) (hA : A = some ⟨b, 0, none⟩) (hi : xs[i]? = some x) (ht : aggOf C.tab t = some true) (hti : tget C.tab t = some ti) (hn : (enc x).length = ti.size) (hoff : off = i * sz) : RunsTo C L (Instr.loadAt t (.pointer (some ⟨b, off, none⟩))) (.agg ⟨enc x⟩) :=
  .loadN ht hti hn fun j v hj => .lie hs hA hi hj (by omega)
end

/-! ### contracts with what is not touched -/
theorem Trip.frame {P : Program} {f : FuncId} {args : Array Value} {w : World} {S : FP} {B : List Chunk} {Post : Value → List Chunk → Prop} (h : Trip P f args w (fun _ => False) Post) (hB : Sep B w S) (hd : ∀ b, S b → b < w.heap.size) : Trip P f args w S fun v L => ∃ L0, Post v L0 ∧ L = L0 ++ B := by
  refine ⟨h.1, h.2.mono ?_⟩
  rintro _ w' ⟨v, L, rfl, hP, ⟨hf, T, hT, hb⟩⟩
  refine ⟨v, _, rfl, ⟨L, hP, rfl⟩, ⟨hf.os, hf.tape, hf.output, hf.size, fun b hb _ => hf.blk b hb id⟩, fun b => T b ∨ S b, ?_, fun b h => ?_⟩
  · refine Sep.join hT (hB.stab fun b hb' => hf.blk b (hd b hb') id) (fun b h1 h2 => ?_) (fun _ h => .inl h) (fun _ h => .inr h)
    have := (hb b h1).2.resolve_left id
    have := hd b h2
    omega
  · rcases h with h | h
    · exact ⟨(hb b h).1, .inr ((hb b h).2.resolve_left id)⟩
    · exact ⟨by have := hd b h; have := hf.size; omega, .inl h⟩
theorem Trip.ent {P : Program} {f : FuncId} {args : Array Value} {w : World} {S : FP} {Post Post' : Value → List Chunk → Prop} (h : Trip P f args w S Post) (hp : ∀ v L, Post v L → ∃ L', Post' v L' ∧ Ent L L') : Trip P f args w S Post' :=
  ⟨h.1, h.2.mono fun _ w' ⟨v, L, he, hP, hI⟩ => let ⟨L', h1, h2⟩ := hp v L hP; ⟨v, L', he, h1, h2 _ _ _ hI⟩⟩
/-- What is only read does not hang on what is handed over. -/
theorem RO.mono {w : World} {S S' : FP} {c : Chunk} (h : RO w S c) (hs : ∀ b, S' b → S b) : RO w S' c := let ⟨T, hT, hd⟩ := h; ⟨T, hT, fun b hb hb' => hd b hb (hs b hb')⟩
theorem RO.of_sep {w : World} {S : FP} {L : List Chunk} {c : Chunk} (h : Sep L w S) (hm : c ∈ L) : RO w (fun _ => False) c := let ⟨T, hT, _⟩ := h.mem hm; ⟨T, hT, fun _ _ h => h⟩
end Go.X
namespace Go.X
set_option linter.unusedVariables false
set_option linter.unusedSimpArgs false
section
variable {α : Type} {C : Ctx} {L : List Chunk} {e : TypeId} {sz : Nat} {enc : α → List Value}

theorem made_flat {z : Array Value} {x : α} (hz : z.toList = enc x) (hsz : z.size = sz) (hpos : 0 < sz) (n : Nat) : (madeCells z (n * sz)).toList = (List.replicate n x).flatMap enc := by
  have hlx : (enc x).length = sz := by rw [← hz]; simpa using hsz
  have hl : ∀ y ∈ List.replicate n x, (enc y).length = sz := fun y hy => by rw [(List.mem_replicate.1 hy).2]; exact hlx
  apply List.ext_getElem?
  intro i
  rcases Nat.lt_or_ge i (n * sz) with h | h
  · have hdiv : i / sz < n := (Nat.div_lt_iff_lt_mul hpos).2 h
    have hmod := Nat.mod_lt i hpos
    have hi : i / sz * sz + i % sz = i := by rw [Nat.mul_comm]; exact Nat.div_add_mod i sz
    have hf := flat_get (xs := List.replicate n x) (i := i / sz) (j := i % sz) (x := x) hl (by rw [List.getElem?_replicate, if_pos hdiv]) hmod
    rw [hi] at hf
    rw [hf, ← hz]
    unfold madeCells
    have : i % sz < z.size := by omega
    simp [h, hsz, this]
    rw [getElem!_pos z (i % sz) this, Array.getElem?_eq_getElem this]
  · rw [List.getElem?_eq_none (by simp [madeCells]; omega), List.getElem?_eq_none (by rw [flat_len hl]; simpa using h)]

/-- A slice is made, all zero. -/
theorem mkS [hC : CtxOk C] {t : TypeId} {kl kc : IntKind} {l c : Int} {R : Value → List Chunk → Prop} {ti te : TyI} (n : Nat) (x : α) (hl : l = (n : Int)) (hc : c = (n : Int)) (hti : tget C.tab t = some ti) (hk : ti.k = .slice e) (hte : tget C.tab e = some te) (hs : te.size = sz) (hz : te.zero = enc x) (hzl : te.zero.length = sz) (hpos : 0 < sz)
    (hml : n ≤ maxLen) (hby : te.bytes * n ≤ 281474976710656) (hR : ∀ g, R (.slice (some ⟨g, 0, none⟩) n n) (own (some ⟨g, 0, none⟩) n e sz enc (List.replicate n x) :: L)) : Does C L (Instr.makeSlice t (.int kl l) (.int kc c)) R := by
  intro w hw
  subst hl hc
  obtain ⟨d, hd, hkd⟩ := (hC.tab.get hti).und
  rw [hk] at hkd
  obtain rfl := kOk.slice hkd
  obtain ⟨d2, inf, z, hu, hinf, hisz, hiby, hiz, hzc, _⟩ := hC.tab.get hte
  have hb' : (inf.bytes : Int) * (n : Int) ≤ 281474976710656 := by
    have h : ((inf.bytes * n : Nat) : Int) ≤ 281474976710656 := by rw [hiby]; omega
    rwa [Int.natCast_mul] at h
  have hr := run_make (P := C.P) w t e inf z hd hinf hiz kl kc n n (by omega) (Int.le_refl _) hb' (by simp [maxLen] at hml; omega)
  simp only [Int.toNat_natCast] at hr
  have hzz : z.cells.toList = enc x := by rw [← hz, ← hzc]
  have hzs : z.cells.size = sz := by rw [← hzl, ← hzc]; simp
  have hsize : inf.size = sz := hisz.trans hs
  have hflat := made_flat hzz hzs hpos n
  refine ⟨_, _, _, hr, hw.alloc _ (c := own (some ⟨w.heap.size, 0, none⟩) n e sz enc (List.replicate n x)) ⟨fun k => by simp [Value.ownBlock, eq_comm], ?_⟩, hR w.heap.size⟩
  have hlx : (enc x).length = sz := by rw [← hz]; exact hzl
  have hlen : ((List.replicate n x).flatMap enc).length = n * sz := by
    rw [flat_len (sz := sz) (fun y hy => (List.mem_replicate.1 hy).2 ▸ hlx), List.length_replicate]
  rw [hsize, List.length_replicate]
  refine ⟨by rw [hlen], .inr ⟨w.heap.size, n, madeCells z.cells (n * sz), rfl, Nat.zero_le _, heap_alloc_new w _, Nat.le_refl _, hml, by simp [madeCells], ?_⟩⟩
  rw [hflat, List.take_of_length_le (by omega)]
end
end Go.X
