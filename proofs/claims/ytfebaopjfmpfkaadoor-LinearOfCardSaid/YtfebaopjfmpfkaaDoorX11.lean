/- Slices that one owns: they grow, are cut, are handed over to be read. -/
import Derived.Test.YtfebaopjfmpfkaaDoorX10
import Derived.Deep.AppendLies
namespace Go.X
set_option linter.unusedVariables false
set_option linter.unusedSimpArgs false

theorem flat_get {α : Type} {sz : Nat} {enc : α → List Value} : ∀ {xs : List α} {i j : Nat} {x : α}, (∀ x ∈ xs, (enc x).length = sz) → xs[i]? = some x → j < sz → (xs.flatMap enc)[i * sz + j]? = (enc x)[j]?
  | [], i, j, x, _, h, _ => by simp at h
  | y :: ys, 0, j, x, hl, h, hj => by
    simp at h; subst h
    have := hl y (by simp)
    simp only [List.flatMap_cons, Nat.zero_mul, Nat.zero_add]
    rw [List.getElem?_append_left (by omega)]
  | y :: ys, i + 1, j, x, hl, h, hj => by
    have hy := hl y (by simp)
    have ih := flat_get (xs := ys) (i := i) (fun x hx => hl x (by simp [hx])) (by simpa using h) hj
    simp only [List.flatMap_cons]
    rw [List.getElem?_append_right (by rw [hy, Nat.succ_mul]; omega), hy, ← ih]
    congr 1
    rw [Nat.succ_mul]; omega
theorem flat_len {α : Type} {sz : Nat} {enc : α → List Value} : ∀ {xs : List α}, (∀ x ∈ xs, (enc x).length = sz) → (xs.flatMap enc).length = xs.length * sz
  | [], _ => by simp
  | y :: ys, hl => by
    have := flat_len (xs := ys) (fun x hx => hl x (by simp [hx]))
    simp only [List.flatMap_cons, List.length_append, this, hl y (by simp), List.length_cons, Nat.succ_mul]
    omega

/-- The slice (a, xs.length, cap) is one's own: a whole block, or nil. -/
def own {α : Type} (a : Option Addr) (cap : Nat) (e : TypeId) (sz : Nat) (enc : α → List Value) (xs : List α) : Chunk where
  sat w S := (∀ k, S k ↔ (Value.slice a xs.length cap).ownBlock = some k) ∧ w.ownsRow 0 e sz (.slice a xs.length cap) xs.length (xs.flatMap enc)
  stab {w w' S} h hk := ⟨h.1, h.2.1, h.2.2.imp_right fun ⟨g, c, cur, he, hb, hg, r⟩ => ⟨g, c, cur, he, hb, (hk g ((h.1 g).2 (by rw [he]; rfl))).trans hg, r⟩⟩
  dom {w S b} h hb := (h.2.lt b ((h.1 b).1 hb)).2

theorem own_nil {α : Type} {e : TypeId} {sz : Nat} {enc : α → List Value} {L : List Chunk} : Ent L (own none 0 e sz enc [] :: L) :=
  .free fun w => ⟨fun k => by simp [Value.ownBlock], World.ownsRow_nil _ _ _ _⟩

section
variable {α : Type} {C : Ctx} {L : List Chunk} {e : TypeId} {sz cap : Nat} {enc : α → List Value} {xs : List α}

theorem own_at {w : World} {T : FP} {a : Option Addr} {i : Nat} {x : α} (h : (own a cap e sz enc xs).sat w T) (hi : xs[i]? = some x) : ∃ g cur, a = some ⟨g, 0, none⟩ ∧ w.heap[g]? = some (.cells cur e (0, 0)) ∧ cur.toList.take (xs.length * sz) = xs.flatMap enc := by
  obtain ⟨_, _, h | ⟨g, c, cur, he, _, hg, _, _, _, ht⟩⟩ := h
  · simp at h; obtain ⟨_, h2⟩ := h
    have : xs = [] := h2
    subst this; simp at hi
  · cases he; exact ⟨g, cur, rfl, hg, ht⟩

theorem own_cell {w : World} {T : FP} {g : Nat} {i j : Nat} {x : α} {v : Value} (h : (own (some ⟨g, 0, none⟩) cap e sz enc xs).sat w T) (hl : ∀ x ∈ xs, (enc x).length = sz) (hi : xs[i]? = some x) (hj : (enc x)[j]? = some v) : w.cell? ⟨g, i * sz + j, none⟩ = some v := by
  obtain ⟨g', cur, he, hg, ht⟩ := own_at h hi
  cases he
  have hjs : j < sz := by
    have := hl x (List.mem_of_getElem? hi)
    rcases Nat.lt_or_ge j sz with h | h
    · exact h
    · rw [List.getElem?_eq_none (by omega)] at hj; cases hj
  have hf := flat_get hl hi hjs
  rw [hj, ← ht, List.getElem?_take] at hf
  split at hf
  · simp only [World.cell?, hg, Bool.false_eq_true, if_false]
    simpa using hf
  · cases hf

theorem Rdb.own {g i j off : Nat} {x : α} {v : Value} (k : Nat) (hk : lget L k = some (X.own (some ⟨g, 0, none⟩) cap e sz enc xs)) (hl : ∀ x ∈ xs, (enc x).length = sz) (hi : xs[i]? = some x) (hj : (enc x)[j]? = some v) (hoff : off = i * sz + j) : Rdb C L g off v := by
  intro w hw
  obtain ⟨T, hT⟩ := hw.mem hk
  rw [hoff]
  exact own_cell hT hl hi hj

/-- Load a field of an element. -/
theorem ldO [hC : CtxOk C] {t : TypeId} {g off : Nat} {x : α} {v : Value} (k i j : Nat) (hk : lget L k = some (own (some ⟨g, 0, none⟩) cap e sz enc xs)) (hl : ∀ x ∈ xs, (enc x).length = sz)
    (hi : xs[i]? = some x) (hj : lget (enc x) j = some v) (ht : aggOf C.tab t = some false) (hoff : off = i * sz + j) : RunsTo C L (Instr.loadAt t (.pointer (some ⟨g, off, none⟩))) v :=
  .load1 ht (.own k hk hl hi (by rw [← lget_eq]; exact hj) hoff)
/-- Load a whole element. -/
theorem ldOA [hC : CtxOk C] {t : TypeId} {g off : Nat} {x : α} {ti : TyI} (k i : Nat) (hk : lget L k = some (own (some ⟨g, 0, none⟩) cap e sz enc xs)) (hl : ∀ x ∈ xs, (enc x).length = sz)
    (hi : xs[i]? = some x) (ht : aggOf C.tab t = some true) (hti : tget C.tab t = some ti) (hn : (enc x).length = ti.size) (hoff : off = i * sz) : RunsTo C L (Instr.loadAt t (.pointer (some ⟨g, off, none⟩))) (.agg ⟨enc x⟩) :=
  .loadN ht hti hn fun j v hj => .own k hk hl hi hj (by omega)

/-- What is owned may be read. -/
theorem RO.own {w : World} {S : FP} {a : Option Addr} (h : RO w S (X.own a cap e sz enc xs)) (hl : ∀ x ∈ xs, (enc x).length = sz) (hsz : 0 < sz) : RO w S (roS a sz enc xs) := by
  obtain ⟨T, hT, hd⟩ := h
  refine ⟨fun k => ∃ b, a = some b ∧ k = b.block ∧ xs ≠ [], ⟨fun k => Iff.rfl, fun _ => hsz, hl, fun hne => ?_⟩, ?_⟩
  · obtain ⟨x, hx⟩ : ∃ x, xs[0]? = some x := by cases xs with | nil => exact absurd rfl hne | cons x xs => exact ⟨x, rfl⟩
    obtain ⟨g, cur, rfl, _, _⟩ := own_at hT hx
    exact ⟨g, 0, rfl, fun i x hi j v hj => by rw [Nat.zero_add]; exact own_cell hT hl hi hj⟩
  · rintro k ⟨b, rfl, rfl, hne⟩
    exact hd _ ((hT.1 _).2 rfl)

theorem RO.conv {w : World} {S : FP} {c d : Chunk} (h : RO w S c) (hc : ∀ T, c.sat w T → ∃ T', d.sat w T' ∧ ∀ b, T' b → T b) : RO w S d := by
  obtain ⟨T, hT, hd⟩ := h
  obtain ⟨T', h1, h2⟩ := hc T hT
  exact ⟨T', h1, fun b hb => hd b (h2 b hb)⟩

/-- A whole block, read as a slice. -/
theorem RO.ptS {w : World} {S : FP} {b : Nat} {cs : List Value} (h : RO w S (pt b cs e)) (hl : ∀ x ∈ xs, (enc x).length = sz) (hsz : 0 < sz) (hcs : cs = xs.flatMap enc) : RO w S (roS (some ⟨b, 0, none⟩) sz enc xs) := by
  refine h.conv fun T ⟨h1, h2⟩ => ⟨fun k => ∃ a, some (⟨b, 0, none⟩ : Addr) = some a ∧ k = a.block ∧ xs ≠ [], ⟨fun k => Iff.rfl, fun _ => hsz, hl, fun hne => ⟨b, 0, rfl, fun i x hi j v hj => ?_⟩⟩, ?_⟩
  · rw [Nat.zero_add, cell_of_block h2, hcs, flat_get hl hi]
    · exact hj
    · have := hl x (List.mem_of_getElem? hi)
      rcases Nat.lt_or_ge j sz with h | h
      · exact h
      · rw [List.getElem?_eq_none (by omega)] at hj; cases hj
  · rintro k ⟨a, he, rfl, _⟩
    cases he
    exact (h1 _).2 rfl

theorem roS_take {w : World} {S : FP} {A : Option Addr} (k : Nat) (h : RO w S (roS A sz enc xs)) : RO w S (roS A sz enc (xs.take k)) := by
  refine h.conv fun T ⟨h1, h2, h3, h4⟩ => ?_
  have hne : xs.take k ≠ [] → xs ≠ [] := fun h he => h (by simp [he])
  refine ⟨fun b => ∃ a, A = some a ∧ b = a.block ∧ xs.take k ≠ [], ⟨fun _ => Iff.rfl, fun h => h2 (hne h), fun x hx => h3 x (List.mem_of_mem_take hx), fun h => ?_⟩, ?_⟩
  · obtain ⟨b, o, rfl, hc⟩ := h4 (hne h)
    refine ⟨b, o, rfl, fun i x hi => hc i x ?_⟩
    rw [List.getElem?_take] at hi
    split at hi
    · exact hi
    · cases hi
  · rintro b ⟨a, rfl, rfl, h⟩
    exact (h1 _).2 ⟨a, rfl, rfl, hne h⟩

theorem roS_nil {w : World} {S : FP} {A : Option Addr} : RO w S (roS A sz enc ([] : List α)) :=
  ⟨fun _ => False, ⟨fun k => by simp, by simp, by simp, by simp⟩, fun _ h => h.elim⟩

/-! ### slicing -/
/-- A slice is cut behind its first j elements. -/
theorem slHi [hC : CtxOk C] {t : TypeId} {a : Option Addr} {n c : Nat} {k : IntKind} {i : Int} {et : TypeId} {ti te : TyI} (j : Nat) (hij : i = (j : Int)) (hj : j ≤ c) (hti : tget C.tab t = some ti) (hk : ti.k = .slice et) (hte : tget C.tab et = some te) :
    RunsTo C L (Instr.sliceAt t (.slice a n c) none (some (.int k i)) none) (.slice a j c) := by
  intro w hw
  obtain ⟨d, hd, hkd⟩ := (hC.tab.get hti).und
  rw [hk] at hkd
  have hd' : C.P.underlying t = some (.slice et) := by
    cases d <;> simp [kOk] at hkd
    subst hkd; exact hd
  subst hij
  have hsz := run_sizeOf' (w := w) (hC.tab.get hte)
  have hle : (0 : Int) ≤ j := by omega
  have hjc : (j : Int) ≤ c := by omega
  have hadd : ∀ x : Addr, x.add 0 = x := fun x => by simp [Addr.add]
  have hmap : Option.map (fun x : Addr => x.add 0) a = a := by cases a <;> simp [hadd]
  simp [Instr.sliceAt, Instr.slice, run_underlying' hd', Instr.sliceBounds, Instr.sliceBound, asIntOf, hj, hsz, hmap]

theorem own_take {a : Option Addr} (j : Nat) (hj : j ≤ xs.length) (hl : ∀ x ∈ xs, (enc x).length = sz) : Ent (own a cap e sz enc xs :: L) (own a cap e sz enc (xs.take j) :: L) := by
  refine .conv fun w T ⟨h1, h2, h3⟩ => ⟨T, ⟨fun k => (h1 k).trans ?_, ?_, ?_⟩, fun _ h => h⟩
  · cases a <;> simp [Value.ownBlock]
  · exact flat_len fun x hx => hl x (List.mem_of_mem_take hx)
  · rcases h3 with ⟨he, h0⟩ | ⟨g, c, cur, he, hb, hg, hn, hm, hs, ht⟩
    · left
      have : xs = [] := List.eq_nil_of_length_eq_zero h0
      subst this
      simpa using he
    · right
      cases he
      have hlen : (xs.take j).length = j := by simp; omega
      refine ⟨g, cap, cur, by rw [hlen], hb, hg, by omega, hm, hs, ?_⟩
      have hfl := flat_len (xs := xs.take j) (fun x hx => hl x (List.mem_of_mem_take hx))
      have hflat : (xs.take j).flatMap enc = (xs.flatMap enc).take (j * sz) := by
        have h' : xs.flatMap enc = (xs.take j).flatMap enc ++ (xs.drop j).flatMap enc := by rw [← List.flatMap_append, List.take_append_drop]
        rw [h', List.take_left' (by rw [hfl, hlen])]
      rw [hflat, ← ht, List.take_take, hlen]
      congr 1
      exact (Nat.min_eq_left (Nat.mul_le_mul_right _ hj)).symm

/-! ### append -/
/-- A new element (its cells lie in block vb, all of it) is appended to what is owned. -/
theorem appO2 [hC : CtxOk C] {t ty : TypeId} {a : Option Addr} {n : Nat} {R : Value → List Chunk → Prop} {ti te : TyI} {vb c : Nat} {cs : List Value} {ty' : TypeId} (k j : Nat) (x : α) (hk : lget L k = some (own a cap e sz enc xs)) (hj : lget L j = some (pt vb cs ty'))
    (hn : n = xs.length) (hcs : cs = enc x) (hlen : (enc x).length = sz) (hsz : 0 < sz) (h1 : (enc x).all Value.oneCell' = true) (hti : tget C.tab t = some ti) (hkk : ti.k = .slice e) (hte : tget C.tab e = some te) (hs : te.size = sz) (hz0 : te.zero.length = sz)
    (hml : xs.length + 1 ≤ maxLen) (hbb : (xs.length + 1) * te.bytes ≤ 140737488355328) (hR : ∀ g cap', xs.length + 1 ≤ cap' → R (.slice (some ⟨g, 0, none⟩) (xs.length + 1) cap') (setL L k (own (some ⟨g, 0, none⟩) cap' e sz enc (xs ++ [x])))) :
    Does C L (Builtin.append_ ⟨[t, t]⟩ ty ⟨[.slice a n cap, .slice (some ⟨vb, 0, none⟩) 1 c]⟩) R := by
  intro w hw
  subst hn
  obtain ⟨T, hT1, hT2⟩ := hw.mem hk
  obtain ⟨T', hT'1, hb⟩ := hw.mem hj
  obtain ⟨d, hd, hkd⟩ := (hC.tab.get hti).und
  rw [hkk] at hkd
  have hd' : C.P.underlying t = some (.slice e) := by
    cases d <;> simp [kOk] at hkd
    subst hkd; exact hd
  obtain ⟨d2, inf, z, hu, hinf, hisz, hiby, hz, hzc, _⟩ := hC.tab.get hte
  obtain ⟨g, cap', w', hr, ho, hg, hlie, hlt⟩ := run_append_lies (P := C.P) w t ty 0 e inf z sz te.bytes hd' hinf hz (hisz.trans hs) hiby (by rw [← hz0, ← hzc]; simp) hsz (.slice a xs.length cap) xs.length (xs.flatMap enc) hT2
    ⟨vb, 0, none⟩ 1 c (enc x) (by simp [hlen]) (fun i u hu => by rw [Addr.add_none, Nat.zero_add, cell_of_block hb, hcs]; exact hu) (List.all_eq_true.1 h1) Nat.one_pos hml hbb (Nat.zero_le _) w.heap.size rfl
  · have hcap : xs.length + 1 ≤ cap' := by
      rcases ho.2 with ⟨_, h0⟩ | ⟨_, _, _, he, _, _, hnc, _⟩
      · omega
      · cases he; exact hnc
    refine ⟨_, w', _, hr, hw.turnAt (d := own (some ⟨g, 0, none⟩) cap' e sz enc (xs ++ [x])) hk (fun S1 hS1 hd1 => ?_), hR g cap' hcap⟩
    refine Inv.one (T := fun k => k = g) ⟨hg.os, hg.tape, hg.output, hg.size, fun b hb hn => hg.block b hb fun he => hn ((hS1.1 b).2 he.symm)⟩ ⟨fun k => ?_, ?_⟩ fun b hb => ?_
    · simp [Value.ownBlock, eq_comm]
    · have hlx : (xs ++ [x]).length = xs.length + 1 := by simp
      rw [hlx, List.flatMap_append]
      simpa using ho
    · subst hb
      rcases hlie with h | h
      · exact .inl ((hS1.1 _).2 h)
      · exact .inr (by omega)
theorem appO [hC : CtxOk C] {t ty : TypeId} {a : Option Addr} {n : Nat} {R : Value → List Chunk → Prop} {ti te : TyI} {vb c : Nat} {cs : List Value} {ty' : TypeId} (k j : Nat) (x : α) (hk : lget L k = some (own a cap e sz enc xs)) (hj : lget L j = some (pt vb cs ty'))
    (hn : n = xs.length) (hcs : cs = enc x) (hlen : (enc x).length = sz) (hsz : 0 < sz) (h1 : (enc x).all Value.oneCell' = true) (hti : tget C.tab t = some ti) (hkk : ti.k = .slice e) (hte : tget C.tab e = some te) (hs : te.size = sz) (hz0 : te.zero.length = sz)
    (hbound : xs.length + 1 ≤ 2 ^ 31) (hby : te.bytes ≤ 2 ^ 12) (hR : ∀ g cap', xs.length + 1 ≤ cap' → R (.slice (some ⟨g, 0, none⟩) (xs.length + 1) cap') (setL L k (own (some ⟨g, 0, none⟩) cap' e sz enc (xs ++ [x])))) :
    Does C L (Builtin.append_ ⟨[t, t]⟩ ty ⟨[.slice a n cap, .slice (some ⟨vb, 0, none⟩) 1 c]⟩) R :=
  appO2 k j x hk hj hn hcs hlen hsz h1 hti hkk hte hs hz0 (by simp [maxLen]; omega) (Nat.le_trans (Nat.mul_le_mul hbound hby) (by decide)) hR
end
end Go.X
