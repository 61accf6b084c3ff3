/- Rules for maps: a map as a list of keys with values; lookups, stores, deletes; ranging. -/
import Derived.Test.YtfebaopjfmpfkaaDoorX8
import Derived.MapKept
namespace Go.X
set_option linter.unusedVariables false
set_option linter.unusedSimpArgs false
set_option linter.unusedSectionVars false
open Go.ChangeMaps Go.MapKept

theorem gobj {P : Program} {w : World} {r : Nat} {es : Array MapEntry} {clock : Nat} (hb : w.heap[r]? = some (.map es clock)) : (getObj r).run P w = .ok (.map es clock) w := by simp [getObj, Sem.run, hb]
theorem sobj {P : Program} {w : World} {r : Nat} {es : Array MapEntry} {clock : Nat} (o : Obj) (hb : w.heap[r]? = some (.map es clock)) : (setObj r o).run P w = .ok () { w with heap := w.heap.setIfInBounds r o } := by simp [setObj, Sem.run, hb]

/-- How keys of type kt are compared: values encK k are keys, and equal exactly if they are one. -/
structure KeyLaw {κ : Type} (P : Program) (kt : TypeId) (encK : κ → Value) : Prop where
  inj : ∀ a b, encK a = encK b → a = b
  check : ∀ w e k, (Instr.checkKey e 10000 kt (encK k)).run P w = .ok () w
  find : ∀ w k (l : List MapEntry), (∀ x ∈ l, ∃ k', x.key = encK k') →
    (∃ j e, l[j]? = some e ∧ e.key = encK k ∧ (∀ j' e', j' < j → l[j']? = some e' → e'.key ≠ encK k) ∧ (Instr.findKey kt (encK k) l).run P w = .ok (some (j, e.val)) w) ∨
    ((∀ x ∈ l, x.key ≠ encK k) ∧ (Instr.findKey kt (encK k) l).run P w = .ok none w)
  stay : ∀ w k, (Instr.keyThatStays (encK k) (encK k)).run P w = .ok (encK k) w

theorem KeyLaw.of_plain {κ : Type} {P : Program} {kt : TypeId} {encK : κ → Value} {d : TypeDesc} (hd : P.underlying kt = some d) (hi : ∀ a b, encK a = encK b → a = b) (hk : ∀ k, IsKey d (encK k)) : KeyLaw P kt encK where
  inj := hi
  check w e k := run_checkKey hd (hk k) e 9999
  stay w k := run_keyThatStays (hk k)
  find w k l hl := by
    have hl' : ∀ x ∈ l, IsKey d x.key := fun x hx => by obtain ⟨k', hk'⟩ := hl x hx; rw [hk']; exact hk k'
    have key : ∀ (l : List MapEntry) (i : Nat), (∀ x ∈ l, IsKey d x.key) →
        (Instr.findNow d (encK k) l i = some none ∧ ∀ x ∈ l, x.key ≠ encK k) ∨ ∃ j e, Instr.findNow d (encK k) l i = some (some (i + j, e.val)) ∧ l[j]? = some e ∧ e.key = encK k ∧ ∀ j' e', j' < j → l[j']? = some e' → e'.key ≠ encK k := by
      intro l
      induction l with
      | nil => intro i _; exact .inl ⟨rfl, by simp⟩
      | cons e es ih =>
        intro i h
        obtain ⟨r, hr, hiff⟩ := sameNow_of_keys (hk k) (h e (.head _))
        cases r with
        | true => exact .inr ⟨0, e, by simp [Instr.findNow, hr], rfl, (hiff.1 rfl).symm, fun j' e' hj => by omega⟩
        | false =>
          have hne : e.key ≠ encK k := fun q => by have := hiff.2 q.symm; cases this
          rcases ih (i + 1) (fun x hx => h x (.tail _ hx)) with ⟨h1, h2⟩ | ⟨j, e', h1, h2, h3, h4⟩
          · exact .inl ⟨by simp [Instr.findNow, hr, h1], fun x hx => by
              cases hx with
              | head => exact hne
              | tail _ hx => exact h2 x hx⟩
          · refine .inr ⟨j + 1, e', by simp [Instr.findNow, hr, h1]; omega, by simpa using h2, h3, fun j' e'' hj he => ?_⟩
            cases j' with
            | zero => simp at he; subst he; exact hne
            | succ j' => exact h4 j' e'' (by omega) (by simpa using he)
    rcases key l 0 hl' with ⟨h1, h2⟩ | ⟨j, e, h1, h2, h3, h4⟩
    · exact .inr ⟨h2, run_findKey hd h1⟩
    · exact .inl ⟨j, e, h2, h3, h4, run_findKey hd (by simpa using h1)⟩

section
variable {κ α : Type} [DecidableEq κ]
/-- The value of a key. -/
def lk (M : List (κ × α)) (k : κ) : Option α := match M with
  | [] => none
  | (k', a) :: r => if k' = k then some a else lk r k
/-- A key gets a value. -/
def ins (M : List (κ × α)) (k : κ) (a : α) : List (κ × α) := match M with
  | [] => [(k, a)]
  | (k', a') :: r => if k' = k then (k, a) :: r else (k', a') :: ins r k a
/-- A key goes. -/
def del (M : List (κ × α)) (k : κ) : List (κ × α) := match M with
  | [] => []
  | (k', a') :: r => if k' = k then r else (k', a') :: del r k

theorem lk_of_get {M : List (κ × α)} {k : κ} {a : α} : ∀ {j : Nat}, M[j]? = some (k, a) → (∀ j' p, j' < j → M[j']? = some p → p.1 ≠ k) → lk M k = some a := by
  induction M with
  | nil => intro j h; simp at h
  | cons p M ih =>
    obtain ⟨k', a'⟩ := p
    intro j hj hf
    cases j with
    | zero => simp at hj; simp [lk, hj]
    | succ j =>
      have h0 := hf 0 (k', a') (by omega) rfl
      simp only [lk, if_neg h0]
      exact ih (j := j) (by simpa using hj) fun j' p hlt hp => hf (j' + 1) p (by omega) (by simpa using hp)
theorem lk_none {M : List (κ × α)} {k : κ} (h : ∀ p ∈ M, p.1 ≠ k) : lk M k = none := by
  induction M with
  | nil => rfl
  | cons p M ih => obtain ⟨k', a'⟩ := p; simp only [lk, if_neg (h (k', a') (by simp))]; exact ih fun q hq => h q (by simp [hq])
theorem ins_of_get {M : List (κ × α)} {k : κ} {a b : α} : ∀ {j : Nat}, M[j]? = some (k, a) → (∀ j' p, j' < j → M[j']? = some p → p.1 ≠ k) → ins M k b = M.set j (k, b) := by
  induction M with
  | nil => intro j h; simp at h
  | cons p M ih =>
    obtain ⟨k', a'⟩ := p
    intro j hj hf
    cases j with
    | zero => simp at hj; simp [ins, hj]
    | succ j =>
      have h0 := hf 0 (k', a') (by omega) rfl
      simp only [ins, if_neg h0, List.set_cons_succ]
      rw [ih (j := j) (by simpa using hj) fun j' p hlt hp => hf (j' + 1) p (by omega) (by simpa using hp)]
theorem ins_none {M : List (κ × α)} {k : κ} {b : α} (h : ∀ p ∈ M, p.1 ≠ k) : ins M k b = M ++ [(k, b)] := by
  induction M with
  | nil => rfl
  | cons p M ih => obtain ⟨k', a'⟩ := p; simp only [ins, if_neg (h (k', a') (by simp))]; rw [ih fun q hq => h q (by simp [hq])]; rfl
theorem del_of_get {M : List (κ × α)} {k : κ} {a : α} : ∀ {j : Nat}, M[j]? = some (k, a) → (∀ j' p, j' < j → M[j']? = some p → p.1 ≠ k) → del M k = M.eraseIdx j := by
  induction M with
  | nil => intro j h; simp at h
  | cons p M ih =>
    obtain ⟨k', a'⟩ := p
    intro j hj hf
    cases j with
    | zero => simp at hj; simp [del, hj]
    | succ j =>
      have h0 := hf 0 (k', a') (by omega) rfl
      simp only [del, if_neg h0, List.eraseIdx_cons_succ]
      rw [ih (j := j) (by simpa using hj) fun j' p hlt hp => hf (j' + 1) p (by omega) (by simpa using hp)]
theorem del_none {M : List (κ × α)} {k : κ} (h : ∀ p ∈ M, p.1 ≠ k) : del M k = M := by
  induction M with
  | nil => rfl
  | cons p M ih => obtain ⟨k', a'⟩ := p; simp only [del, if_neg (h (k', a') (by simp))]; rw [ih fun q hq => h q (by simp [hq])]
end

section
variable {κ α : Type}
theorem map_erase {β γ : Type} (f : β → γ) : ∀ (l : List β) (i : Nat), (l.eraseIdx i).map f = (l.map f).eraseIdx i
  | [], i => by simp
  | a :: l, 0 => by simp
  | a :: l, i + 1 => by simp [map_erase f l i]
/-- The entries of a map. -/
def Ents (encK : κ → Value) (encV : α → Value) (es : List MapEntry) (M : List (κ × α)) : Prop := es.map (fun e => (e.key, e.val)) = M.map fun p => (encK p.1, encV p.2)
theorem Ents.get {encK : κ → Value} {encV : α → Value} {es : List MapEntry} {M : List (κ × α)} (h : Ents encK encV es M) {j : Nat} {e : MapEntry} (he : es[j]? = some e) : ∃ p, M[j]? = some p ∧ e.key = encK p.1 ∧ e.val = encV p.2 := by
  have := congrArg (·[j]?) h
  simp only [List.getElem?_map, he, Option.map_some] at this
  cases hp : M[j]? with
  | none => simp [hp] at this
  | some p => simp [hp] at this; exact ⟨p, rfl, this.1, this.2⟩
theorem Ents.get' {encK : κ → Value} {encV : α → Value} {es : List MapEntry} {M : List (κ × α)} (h : Ents encK encV es M) {j : Nat} {p : κ × α} (hp : M[j]? = some p) : ∃ e, es[j]? = some e ∧ e.key = encK p.1 ∧ e.val = encV p.2 := by
  have := congrArg (·[j]?) h
  simp only [List.getElem?_map, hp, Option.map_some] at this
  cases he : es[j]? with
  | none => simp [he] at this
  | some e => simp [he] at this; exact ⟨e, rfl, this.1, this.2⟩
theorem Ents.keys {encK : κ → Value} {encV : α → Value} {es : List MapEntry} {M : List (κ × α)} (h : Ents encK encV es M) : ∀ x ∈ es, ∃ k', x.key = encK k' := by
  intro x hx
  obtain ⟨j, hj⟩ := List.mem_iff_getElem?.1 hx
  obtain ⟨p, _, h1, _⟩ := h.get hj
  exact ⟨p.1, h1⟩
theorem Ents.length {encK : κ → Value} {encV : α → Value} {es : List MapEntry} {M : List (κ × α)} (h : Ents encK encV es M) : es.length = M.length := by
  have := congrArg List.length h
  simpa using this

/-- Block b is a map with these keys and values. -/
def mp (b : Nat) (encK : κ → Value) (encV : α → Value) (M : List (κ × α)) : Chunk where
  sat w S := (∀ k, S k ↔ k = b) ∧ ∃ es clock, w.heap[b]? = some (.map es clock) ∧ Stamped es clock ∧ Ents encK encV es.toList M
  stab h hk := ⟨h.1, let ⟨es, clock, hb, r⟩ := h.2; ⟨es, clock, (hk b ((h.1 b).2 rfl)).trans hb, r⟩⟩
  dom h hb := by
    have := (h.1 _).1 hb
    subst this
    obtain ⟨es, clock, hb, _⟩ := h.2
    exact (Array.getElem?_eq_some_iff.1 hb).1

/-- Ranging: iterator r over map b; 'cur': where it stands; 'left': what is still to come. -/
def mpi (r b : Nat) (encK : κ → Value) (encV : α → Value) (M : List (κ × α)) (cur : Option (κ × α)) (left : List (κ × α)) : Chunk where
  sat w S := (∀ k, S k ↔ k = b ∨ k = r) ∧ r ≠ b ∧ ∃ es clock seen, w.heap[b]? = some (.map es clock) ∧ Stamped es clock ∧ Ents encK encV es.toList M ∧ w.heap[r]? = some (.mapIter (some b) clock seen clock) ∧
    Ents encK encV (es.toList.filter fun e => !seen.contains e.born) left ∧ (∀ p, cur = some p → ∃ e, e ∈ es.toList ∧ seen.back? = some e.born ∧ e.key = encK p.1 ∧ e.val = encV p.2)
  stab h hk := ⟨h.1, h.2.1, let ⟨es, clock, seen, hb, h1, h2, hr, h3⟩ := h.2.2; ⟨es, clock, seen, (hk b ((h.1 b).2 (.inl rfl))).trans hb, h1, h2, (hk r ((h.1 r).2 (.inr rfl))).trans hr, h3⟩⟩
  dom h hb := by
    obtain ⟨es, clock, seen, h1, _, _, h2, _⟩ := h.2.2
    rcases (h.1 _).1 hb with rfl | rfl
    · exact (Array.getElem?_eq_some_iff.1 h1).1
    · exact (Array.getElem?_eq_some_iff.1 h2).1

theorem mp_new {encK : κ → Value} {encV : α → Value} (b : Nat) {L : List Chunk} : Ent (ob b (.map #[] 0) :: L) (mp b encK encV [] :: L) :=
  .conv fun w T h => ⟨T, ⟨h.1, #[], 0, h.2, stamped_empty 0, rfl⟩, fun _ h => h⟩
end

section
variable {κ α : Type} [DecidableEq κ] {C : Ctx} {L : List Chunk}

/-- What a lookup gives. -/
def lkV (encV : α → Value) (z : Value) (r : Option α) (ok : Bool) : Value := match ok, r with
  | true, some a => .tuple #[encV a, .bool true]
  | true, none => .tuple #[z, .bool false]
  | false, some a => encV a
  | false, none => z

theorem run_lookup {P : Program} {w : World} {kt et t : TypeId} {b : Nat} {es : Array MapEntry} {clock : Nat} {encK : κ → Value} {encV : α → Value} {M : List (κ × α)} {z : Value} (hl : KeyLaw P kt encK) (ht : P.underlying t = some (.map kt et))
    (hz : (zeroValue et).run P w = .ok z w) (hb : w.heap[b]? = some (.map es clock)) (he : Ents encK encV es.toList M) (k : κ) (ok : Bool) :
    (Instr.lookup t (.map (some b)) (encK k) ok).run P w = .ok (lkV encV z (lk M k) ok) w := by
  have hgo := gobj (P := P) hb
  have hck := hl.check w es.isEmpty k
  rcases hl.find w k es.toList he.keys with ⟨j, e, hj, hke, hf, hrun⟩ | ⟨hno, hrun⟩
  · obtain ⟨p, hp, h1, h2⟩ := he.get hj
    have hpk : p.1 = k := hl.inj _ _ (h1.symm.trans hke)
    have hlk : lk M k = some p.2 := lk_of_get (j := j) (by rw [hp, ← hpk]) fun j' q hlt hq hqk => by
      obtain ⟨e', he', hk', _⟩ := he.get' hq
      exact hf j' e' hlt he' (by rw [hk', hqk])
    simp only [Instr.lookup, Sem.run_bind, run_underlying' ht, Result.andThen_ok, hgo, Sem.run_pure, hck, hrun, hlk, h2]
    cases ok <;> rfl
  · have hlk : lk M k = none := lk_none fun p hp hpk => by
      obtain ⟨j, hj⟩ := List.mem_iff_getElem?.1 hp
      obtain ⟨e, he', hk', _⟩ := he.get' hj
      exact hno e (List.mem_of_getElem? he') (by rw [hk', hpk])
    simp only [Instr.lookup, Sem.run_bind, run_underlying' ht, Result.andThen_ok, hgo, Sem.run_pure, hck, hrun, hlk, hz]
    cases ok <;> rfl

/-- The zero value of a type of the table. -/
def zeroOf (tab : Tab) (t : TypeId) : Option Value := match tget tab t with
  | some ⟨.struct _, _, _, z⟩ => some (.agg ⟨z⟩)
  | some ⟨.array _ _, _, _, z⟩ => some (.agg ⟨z⟩)
  | some ⟨_, _, _, [v]⟩ => some v
  | _ => none

theorem lookM [hC : CtxOk C] {t kt et : TypeId} {b : Nat} {encK : κ → Value} {encV : α → Value} {M : List (κ × α)} {ti : TyI} {z : Value} (i : Nat) (k : κ) (hl : KeyLaw C.P kt encK) (hi : lget L i = some (mp b encK encV M))
    (hti : tget C.tab t = some ti) (hk : ti.k = .map kt et) (hz : ∀ w, (zeroValue et).run C.P w = .ok z w) (ok : Bool) : RunsTo C L (Instr.lookup t (.map (some b)) (encK k) ok) (lkV encV z (lk M k) ok) := by
  intro w hw
  obtain ⟨T, _, es, clock, hb, hs, he⟩ := hw.mem hi
  obtain ⟨d, hd, hkd⟩ := (hC.tab.get hti).und
  rw [hk] at hkd
  obtain rfl := kOk.map hkd
  exact run_lookup hl hd (hz w) hb he k ok

theorem inv_setObj {w : World} {S1 : FP} {b : Nat} {o : Obj} {d : Chunk} (hS : ∀ k, S1 k ↔ k = b) (hlt : b < w.heap.size) (hd : d.sat { w with heap := w.heap.setIfInBounds b o } S1) : Inv w S1 [d] { w with heap := w.heap.setIfInBounds b o } :=
  Inv.one (T := S1) ⟨rfl, rfl, rfl, by simp, fun k _ hk => by
    have : b ≠ k := fun he => hk ((hS k).2 he.symm)
    simp [this]⟩ hd fun _ h => .inl h

theorem updM [hC : CtxOk C] {t kt et : TypeId} {b : Nat} {encK : κ → Value} {encV : α → Value} {M : List (κ × α)} {ti : TyI} {R : Unit → List Chunk → Prop} (i : Nat) (k : κ) (a : α) (hl : KeyLaw C.P kt encK) (hi : lget L i = some (mp b encK encV M))
    (hti : tget C.tab t = some ti) (hk : ti.k = .map kt et) (hR : R () (setL L i (mp b encK encV (ins M k a)))) : Does C L (Instr.mapUpdate t (.map (some b)) (encK k) (encV a)) R := by
  intro w hw
  obtain ⟨T, hT, es, clock, hb, hs, he⟩ := hw.mem hi
  obtain ⟨d, hd, hkd⟩ := (hC.tab.get hti).und
  rw [hk] at hkd
  obtain rfl := kOk.map hkd
  have hlt := (Array.getElem?_eq_some_iff.1 hb).1
  have hgo := gobj (P := C.P) hb
  have hck := hl.check w false k
  rcases hl.find w k es.toList he.keys with ⟨j, e, hj, hke, hf, hrun⟩ | ⟨hno, hrun⟩
  · obtain ⟨p, hp, h1, h2⟩ := he.get hj
    have hpk : p.1 = k := hl.inj _ _ (h1.symm.trans hke)
    have hins : ins M k a = M.set j (k, a) := ins_of_get (j := j) (a := p.2) (by rw [hp, ← hpk]) fun j' q hlt hq hqk => by
      obtain ⟨e', he', hk', _⟩ := he.get' hq
      exact hf j' e' hlt he' (by rw [hk', hqk])
    have hj' : es[j]? = some e := by simpa using hj
    have hstay := hl.stay w k
    refine ⟨(), { w with heap := w.heap.setIfInBounds b (.map (es.modify j fun e => { e with key := encK k, val := encV a }) clock) }, _, ?_, hw.turnAt (d := mp b encK encV (ins M k a)) hi (fun S1 h1' _ => inv_setObj h1'.1 hlt ⟨h1'.1, es.modify j fun e => { e with key := encK k, val := encV a }, clock, ?_, ?_, ?_⟩), hR⟩
    · simp only [Instr.mapUpdate, Sem.run_bind, run_underlying' hd, Result.andThen_ok, hgo, hck, hrun, hj', Option.map_some, Option.getD_some, hke, hstay, sobj _ hb]
    · simp [hlt]
    · exact stamped_modify hs _ _ (fun _ _ => rfl) (fun e' _ he' => by rw [hj'] at he'; cases he'; exact hke.symm)
    · rw [hins]
      unfold Ents
      apply List.ext_getElem?
      intro m
      have := congrArg (·[m]?) he
      simp only [List.getElem?_map, Array.getElem?_toList, Array.getElem?_modify, List.getElem?_set] at this ⊢
      by_cases hjm : j = m
      · subst hjm
        obtain ⟨hlt', _⟩ := List.getElem?_eq_some_iff.1 hp
        simp [hj', hlt']
      · simp [hjm, this]
  · have hins : ins M k a = M ++ [(k, a)] := ins_none fun p hp hpk => by
      obtain ⟨j, hj⟩ := List.mem_iff_getElem?.1 hp
      obtain ⟨e, he', hk', _⟩ := he.get' hj
      exact hno e (List.mem_of_getElem? he') (by rw [hk', hpk])
    refine ⟨(), { w with heap := w.heap.setIfInBounds b (.map (es.push { key := encK k, val := encV a, born := clock }) (clock + 1)) }, _, ?_, hw.turnAt (d := mp b encK encV (ins M k a)) hi (fun S1 h1' _ => inv_setObj h1'.1 hlt ⟨h1'.1, es.push { key := encK k, val := encV a, born := clock }, clock + 1, ?_, stamped_push hs hno, ?_⟩), hR⟩
    · simp only [Instr.mapUpdate, Sem.run_bind, run_underlying' hd, Result.andThen_ok, hgo, hck, hrun, sobj _ hb]
    · simp [hlt]
    · rw [hins]
      have he' : List.map (fun e => (e.key, e.val)) es.toList = List.map (fun p => (encK p.1, encV p.2)) M := he
      unfold Ents
      simp only [Array.toList_push, List.map_append, he', List.map_cons, List.map_nil]

theorem delM [hC : CtxOk C] {t kt et ty : TypeId} {b : Nat} {encK : κ → Value} {encV : α → Value} {M : List (κ × α)} {ti : TyI} {R : Value → List Chunk → Prop} {ts : Array TypeId} (i : Nat) (k : κ) (hl : KeyLaw C.P kt encK) (hi : lget L i = some (mp b encK encV M))
    (hts : ts[0]? = some t) (hti : tget C.tab t = some ti) (hk : ti.k = .map kt et) (hR : R (.tuple #[]) (setL L i (mp b encK encV (del M k)))) : Does C L (Builtin.delete_ ts ty ⟨[.map (some b), encK k]⟩) R := by
  intro w hw
  obtain ⟨T, hT, es, clock, hb, hs, he⟩ := hw.mem hi
  obtain ⟨d, hd, hkd⟩ := (hC.tab.get hti).und
  rw [hk] at hkd
  obtain rfl := kOk.map hkd
  have hlt := (Array.getElem?_eq_some_iff.1 hb).1
  have hgo := gobj (P := C.P) hb
  have hck := hl.check w es.isEmpty k
  have ha0 : (⟨[.map (some b), encK k]⟩ : Array Value)[0]? = some (.map (some b)) := rfl
  have ha1 : (⟨[.map (some b), encK k]⟩ : Array Value)[1]? = some (encK k) := rfl
  rcases hl.find w k es.toList he.keys with ⟨j, e, hj, hke, hf, hrun⟩ | ⟨hno, hrun⟩
  · obtain ⟨p, hp, h1, h2⟩ := he.get hj
    have hpk : p.1 = k := hl.inj _ _ (h1.symm.trans hke)
    have hdel : del M k = M.eraseIdx j := del_of_get (j := j) (a := p.2) (by rw [hp, ← hpk]) fun j' q hlt hq hqk => by
      obtain ⟨e', he', hk', _⟩ := he.get' hq
      exact hf j' e' hlt he' (by rw [hk', hqk])
    have hlj : j < es.size := by obtain ⟨h, _⟩ := List.getElem?_eq_some_iff.1 hj; simpa using h
    refine ⟨.tuple #[], { w with heap := w.heap.setIfInBounds b (.map (es.eraseIdxIfInBounds j) clock) }, _, ?_, hw.turnAt (d := mp b encK encV (del M k)) hi (fun S1 h1' _ => inv_setObj h1'.1 hlt ⟨h1'.1, es.eraseIdxIfInBounds j, clock, ?_, stamped_erase hs j, ?_⟩), hR⟩
    · simp only [Builtin.delete_, hts, ha0, ha1, Sem.run_bind, run_underlying' hd, Result.andThen_ok, hgo, hck, hrun, sobj _ hb, Sem.run_pure]
    · simp [hlt]
    · rw [hdel]
      have he' : List.map (fun e => (e.key, e.val)) es.toList = List.map (fun p => (encK p.1, encV p.2)) M := he
      unfold Ents
      rw [Array.eraseIdxIfInBounds, dif_pos hlj]
      simp only [Array.toList_eraseIdx]
      rw [map_erase, map_erase, he']
  · have hdel : del M k = M := del_none fun p hp hpk => by
      obtain ⟨j, hj⟩ := List.mem_iff_getElem?.1 hp
      obtain ⟨e, he', hk', _⟩ := he.get' hj
      exact hno e (List.mem_of_getElem? he') (by rw [hk', hpk])
    refine ⟨.tuple #[], { w with heap := w.heap.setIfInBounds b (.map es clock) }, _, ?_, hw.turnAt (d := mp b encK encV (del M k)) hi (fun S1 h1' _ => inv_setObj h1'.1 hlt ⟨h1'.1, es, clock, ?_, hs, by rw [hdel]; exact he⟩), hR⟩
    · simp only [Builtin.delete_, hts, ha0, ha1, Sem.run_bind, run_underlying' hd, Result.andThen_ok, hgo, hck, hrun, sobj _ hb, Sem.run_pure]
    · simp [hlt]

/-! ### ranging -/
theorem rangeM [hC : CtxOk C] {t kt et : TypeId} {b : Nat} {encK : κ → Value} {encV : α → Value} {M : List (κ × α)} {ti : TyI} {R : Value → List Chunk → Prop} (i : Nat) (hi : lget L i = some (mp b encK encV M)) (hti : tget C.tab t = some ti) (hk : ti.k = .map kt et)
    (hR : ∀ r, R (.pointer (some ⟨r, 0, none⟩)) (setL L i (mpi r b encK encV M none M))) : Does C L (Instr.range t (.map (some b))) R := by
  intro w hw
  obtain ⟨T, hT, es, clock, hb, hs, he⟩ := hw.mem hi
  obtain ⟨d, hd, hkd⟩ := (hC.tab.get hti).und
  rw [hk] at hkd
  obtain rfl := kOk.map hkd
  have hlt := (Array.getElem?_eq_some_iff.1 hb).1
  have hgo := gobj (P := C.P) hb
  refine ⟨_, w.alloc (.mapIter (some b) clock #[] clock), _, ?_, hw.turnAt hi (fun S1 h1 hd1 => ?_), hR w.heap.size⟩
  · simp only [Instr.range, Sem.run_bind, run_underlying' hd, Result.andThen_ok, hgo, Sem.run_pure, run_newObj]
    rfl
  · have hold : ∀ k, k < w.heap.size → (w.alloc (.mapIter (some b) clock #[] clock)).heap[k]? = w.heap[k]? := fun k hk => RowKit.Below.heap_alloc w _ k hk
    refine Inv.one (T := fun k => k = b ∨ k = w.heap.size) ⟨rfl, rfl, rfl, by simp, fun k hk _ => hold k hk⟩ ⟨fun _ => Iff.rfl, by omega, es, clock, #[], (hold b hlt).trans hb, hs, he, ?_, ?_, by simp⟩ ?_
    · show (w.heap.push _)[w.heap.size]? = _; simp
    · have : es.toList.filter (fun e => !(#[] : Array Nat).contains e.born) = es.toList := by rw [List.filter_eq_self]; simp
      rw [this]; exact he
    · rintro k (rfl | rfl)
      · exact .inl ((h1.1 _).2 rfl)
      · exact .inr (Nat.le_refl _)

theorem nextM [hC : CtxOk C] {r b : Nat} {encK : κ → Value} {encV : α → Value} {M left : List (κ × α)} {cur : Option (κ × α)} {ty : TypeId} {R : Value → List Chunk → Prop} (i : Nat) (hi : lget L i = some (mpi r b encK encV M cur left))
    (h0 : left = [] → R (.tuple #[.bool false]) L) (h1 : ∀ j p, left[j]? = some p → R (.tuple #[.bool true, encK p.1, encV p.2]) (setL L i (mpi r b encK encV M (some p) (left.eraseIdx j)))) : Does C L (Instr.next (.pointer (some ⟨r, 0, none⟩)) false ty) R := by
  intro w hw
  obtain ⟨T, hT, hrb, es, clock, seen, hb, hs, he, hr, hleft, hcur⟩ := hw.mem hi
  have hgb := gobj (P := C.P) hb
  have hgr : (getObj r).run C.P w = .ok (.mapIter (some b) clock seen clock) w := by simp [getObj, Sem.run, hr]
  have hltr := (Array.getElem?_eq_some_iff.1 hr).1
  have hltb := (Array.getElem?_eq_some_iff.1 hb).1
  obtain ⟨hs1, hs2, hs3⟩ := (stamped_iff es clock).1 hs
  have hguard : (!seen.isEmpty && !es.isEmpty && es.all (·.born ≥ clock)) = false := by
    cases he0 : es.isEmpty with
    | true => simp
    | false =>
      have : es.all (·.born ≥ clock) = false := by
        rw [← Bool.not_eq_true, Array.all_eq_true]
        intro h
        have hz : 0 < es.size := by
          rcases Nat.eq_zero_or_pos es.size with h' | h'
          · simp [Array.isEmpty, h'] at he0
          · exact h'
        have h2 := h 0 hz
        have h3 := hs1 es[0] (by simp)
        simp at h2
        omega
      simp [this]
  have hold : (es.filter fun e => !seen.contains e.born).filter (fun x => decide (x.born < clock)) = es.filter fun e => !seen.contains e.born := by
    rw [Array.filter_eq_self]
    intro e hm
    have := hs1 e (by rw [Array.mem_filter] at hm; simpa using hm.1)
    simpa using this
  have hnew : (es.filter fun e => !seen.contains e.born).filter (fun x => decide (x.born ≥ clock)) = #[] := by
    rw [Array.filter_eq_empty_iff]
    intro e hm
    have := hs1 e (by rw [Array.mem_filter] at hm; simpa using hm.1)
    simp; omega
  have hrun : ∀ (res : Result Value), (Instr.next (.pointer (some ⟨r, 0, none⟩)) false ty).run C.P w = res → res = res := fun _ _ => rfl
  generalize hlf : (es.filter fun e => !seen.contains e.born) = lf at hold hnew
  have hlfl : lf.toList = es.toList.filter fun e => !seen.contains e.born := by rw [← hlf]; simp
  rw [← hlfl] at hleft
  by_cases hemp : lf.isEmpty = true
  · have hl0 : left = [] := by
      have := hleft.length
      have hz : lf.size = 0 := by simpa [Array.isEmpty] using hemp
      simp [hz] at this
      exact List.eq_nil_of_length_eq_zero this.symm
    refine ⟨.tuple #[.bool false], w, L, ?_, hw, h0 hl0⟩
    have hz : lf = #[] := by
      apply Array.eq_empty_of_size_eq_zero
      simpa [Array.isEmpty] using hemp
    simp only [Instr.next, Sem.run_bind, hgr, Result.andThen_ok, hgb, hguard, Bool.false_eq_true, if_false, hlf, hold, hnew, hz]
    simp [Question.forced]
  · have hemp' : lf.isEmpty = false := by simpa using hemp
    have hpos : 0 < lf.size := by
      rcases Nat.eq_zero_or_pos lf.size with h' | h'
      · simp [Array.isEmpty, h'] at hemp'
      · exact h'
    have hcand : ((if lf.isEmpty then #[none] else #[]) ++ (lf ++ #[]).map some : Array (Option MapEntry)) = lf.map some := by simp [hemp']
    -- whichever index is drawn
    have hdraw : ∃ (x : Nat) (w1 : World), (choose (.mapNext (lf.map some).size)).run C.P w = .ok x w1 ∧ x < lf.size ∧ w1.heap = w.heap ∧ w1.os = w.os ∧ w1.tape = w.tape ∧ w1.output = w.output := by
      rw [run_choose]
      split
      · exact ⟨0, w, rfl, hpos, rfl, rfl, rfl, rfl⟩
      · refine ⟨_, _, rfl, ?_, rfl, rfl, rfl, rfl⟩
        simp only [Question.cut, Array.size_map]
        exact Nat.mod_lt _ hpos
    obtain ⟨x, w1, hch, hx, e1, e2, e3, e4⟩ := hdraw
    have hxe : lf.toList[x]? = some lf[x] := by simp [hx]
    obtain ⟨p, hp, hp1, hp2⟩ := hleft.get hxe
    have hmem : lf[x] ∈ es.toList ∧ seen.contains lf[x].born = false := by
      have := List.mem_of_getElem? hxe
      rw [hlfl, List.mem_filter] at this
      exact ⟨this.1, by simpa using this.2⟩
    have hr1 : w1.heap[r]? = some (.mapIter (some b) clock seen clock) := by rw [e1]; exact hr
    have hset : (setObj r (.mapIter (some b) clock (seen.push lf[x].born) clock)).run C.P w1 = .ok () { w1 with heap := w1.heap.setIfInBounds r (.mapIter (some b) clock (seen.push lf[x].born) clock) } := by simp [setObj, Sem.run, hr1]
    refine ⟨_, { w1 with heap := w1.heap.setIfInBounds r (.mapIter (some b) clock (seen.push lf[x].born) clock) }, _, ?_, hw.turnAt hi (fun S1 hS1 hd1 => ?_), h1 x p hp⟩
    · have hget : (lf.map some)[x]? = some (some lf[x]) := by simp [hx]
      simp only [Instr.next, Sem.run_bind, hgr, Result.andThen_ok, hgb, hguard, Bool.false_eq_true, if_false, hlf, hold, hnew, hcand, hch, hget, hset, Sem.run_pure, hp1, hp2]
    · refine Inv.one (T := S1) ⟨e2, e3, e4, by simp [e1], fun k _ hk => ?_⟩ ⟨hS1.1, hrb, es, clock, seen.push lf[x].born, ?_, hs, he, ?_, ?_, ?_⟩ fun _ h => .inl h
      · have : r ≠ k := fun h => hk ((hS1.1 k).2 (.inr h.symm))
        simp [this, e1]
      · simp [hrb, e1, hb]
      · simp [e1, hltr]
      · -- what is left
        have hfil : es.toList.filter (fun e => !(seen.push lf[x].born).contains e.born) = lf.toList.eraseIdx x := by
          have hnd : (es.toList.map (·.born)).Nodup := hs2
          have e5 : es.toList.filter (fun e => !(seen.push lf[x].born).contains e.born) = lf.toList.filter (fun e => !(e.born == lf[x].born)) := by
            rw [hlfl, List.filter_filter]
            apply List.filter_congr
            intro e _
            simp [Array.contains_push, Bool.not_or, Bool.and_comm]
            rfl
          rw [e5]
          have hndl : (lf.toList.map (·.born)).Nodup := by rw [hlfl]; exact hnd.sublist (List.Sublist.map _ List.filter_sublist)
          have key : ∀ (l : List MapEntry) (x : Nat) (y : MapEntry), l[x]? = some y → (l.map (·.born)).Nodup → l.filter (fun e => !(e.born == y.born)) = l.eraseIdx x := by
            intro l
            induction l with
            | nil => intro x y h; simp at h
            | cons z l ih =>
              intro x y hx hn
              simp only [List.map_cons, List.nodup_cons] at hn
              cases x with
              | zero =>
                simp at hx
                subst hx
                simp only [List.eraseIdx_zero, List.tail_cons]
                rw [List.filter_cons, if_neg (by simp), List.filter_eq_self]
                intro e he
                have : e.born ≠ z.born := fun h => hn.1 (List.mem_map.2 ⟨e, he, h⟩)
                simpa using this
              | succ x =>
                have hx' : l[x]? = some y := by simpa using hx
                have hne : z.born ≠ y.born := fun h => hn.1 (List.mem_map.2 ⟨y, List.mem_of_getElem? hx', h.symm⟩)
                simp only [List.eraseIdx_cons_succ]
                rw [List.filter_cons, if_pos (by simpa using hne), ih x y hx' hn.2]
          exact key lf.toList x lf[x] hxe hndl
        rw [hfil]
        have hl' : List.map (fun e => (e.key, e.val)) lf.toList = List.map (fun p => (encK p.1, encV p.2)) left := hleft
        unfold Ents
        rw [map_erase, map_erase, hl']
      · rintro q hq
        cases hq
        exact ⟨lf[x], hmem.1, by simp, hp1, hp2⟩

theorem entryM [hC : CtxOk C] {r b : Nat} {encK : κ → Value} {encV : α → Value} {M left : List (κ × α)} {p : κ × α} (i : Nat) (hi : lget L i = some (mpi r b encK encV M (some p) left)) :
    RunsTo C L (Instr.entry (.pointer (some ⟨r, 0, none⟩))) (.tuple #[encK p.1, encV p.2]) := by
  intro w hw
  obtain ⟨T, hT, hrb, es, clock, seen, hb, hs, he, hr, hleft, hcur⟩ := hw.mem hi
  obtain ⟨e, hm, hback, hk, hv⟩ := hcur p rfl
  have hgb := gobj (P := C.P) hb
  have hgr : (getObj r).run C.P w = .ok (.mapIter (some b) clock seen clock) w := by simp [getObj, Sem.run, hr]
  obtain ⟨hs1, hs2, hs3⟩ := (stamped_iff es clock).1 hs
  have hfind : es.find? (fun x => x.born == e.born) = some e := by
    rw [← Array.find?_toList]
    have key : ∀ (l : List MapEntry), e ∈ l → (l.map (·.born)).Nodup → l.find? (fun x => x.born == e.born) = some e := by
      intro l
      induction l with
      | nil => intro h; cases h
      | cons z l ih =>
        intro h hn
        simp only [List.map_cons, List.nodup_cons] at hn
        rcases List.mem_cons.1 h with rfl | h
        · rw [List.find?_cons]; simp
        · have hne : z.born ≠ e.born := fun h' => hn.1 (List.mem_map.2 ⟨e, h, h'.symm⟩)
          rw [List.find?_cons, show (z.born == e.born) = false from beq_eq_false_iff_ne.2 hne]
          exact ih h hn.2
    exact key _ hm hs2
  simp only [Instr.entry, Sem.run_bind, hgr, Result.andThen_ok, hback, hgb, hfind, Sem.run_pure, hk, hv]
  simp [hk, hv]

theorem mpi_end {r b : Nat} {encK : κ → Value} {encV : α → Value} {M left : List (κ × α)} {cur : Option (κ × α)} {L : List Chunk} : Ent (mpi r b encK encV M cur left :: L) (mp b encK encV M :: L) :=
  .conv fun w T ⟨h1, _, es, clock, seen, hb, hs, he, _⟩ => ⟨fun k => k = b, ⟨fun _ => Iff.rfl, es, clock, hb, hs, he⟩, fun k hk => (h1 k).2 (.inl hk)⟩

theorem lookS [hC : CtxOk C] {t kt et : TypeId} {b : Nat} {encK : κ → Value} {encV : α → Value} {M : List (κ × α)} {ti : TyI} (z : Value) {k : κ} {a : α} (i : Nat) (h : lk M k = some a) (hl : KeyLaw C.P kt encK) (hi : lget L i = some (mp b encK encV M))
    (hti : tget C.tab t = some ti) (hk : ti.k = .map kt et) (hz : ∀ w, (zeroValue et).run C.P w = .ok z w) : RunsTo C L (Instr.lookup t (.map (some b)) (encK k) true) (.tuple #[encV a, .bool true]) := by
  have := lookM i k hl hi hti hk hz true
  rw [h] at this; exact this
theorem lookN [hC : CtxOk C] {t kt et : TypeId} {b : Nat} {encK : κ → Value} {encV : α → Value} {M : List (κ × α)} {ti : TyI} {z : Value} {k : κ} (i : Nat) (h : lk M k = none) (hl : KeyLaw C.P kt encK) (hi : lget L i = some (mp b encK encV M))
    (hti : tget C.tab t = some ti) (hk : ti.k = .map kt et) (hz : ∀ w, (zeroValue et).run C.P w = .ok z w) : RunsTo C L (Instr.lookup t (.map (some b)) (encK k) true) (.tuple #[z, .bool false]) := by
  have := lookM i k hl hi hti hk hz true
  rw [h] at this; exact this
theorem lookS' [hC : CtxOk C] {t kt et : TypeId} {b : Nat} {encK : κ → Value} {encV : α → Value} {M : List (κ × α)} {ti : TyI} (z : Value) {k : κ} {a : α} (i : Nat) (h : lk M k = some a) (hl : KeyLaw C.P kt encK) (hi : lget L i = some (mp b encK encV M))
    (hti : tget C.tab t = some ti) (hk : ti.k = .map kt et) (hz : ∀ w, (zeroValue et).run C.P w = .ok z w) : RunsTo C L (Instr.lookup t (.map (some b)) (encK k) false) (encV a) := by
  have := lookM i k hl hi hti hk hz false
  rw [h] at this; exact this
theorem lookN' [hC : CtxOk C] {t kt et : TypeId} {b : Nat} {encK : κ → Value} {encV : α → Value} {M : List (κ × α)} {ti : TyI} {z : Value} {k : κ} (i : Nat) (h : lk M k = none) (hl : KeyLaw C.P kt encK) (hi : lget L i = some (mp b encK encV M))
    (hti : tget C.tab t = some ti) (hk : ti.k = .map kt et) (hz : ∀ w, (zeroValue et).run C.P w = .ok z w) : RunsTo C L (Instr.lookup t (.map (some b)) (encK k) false) z := by
  have := lookM i k hl hi hti hk hz false
  rw [h] at this; exact this

end
end Go.X
