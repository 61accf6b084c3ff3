/- A front that only reads and a chain; what chunks say behind a call; parts of slices are appended. -/
import Derived.Test.YtfebaopjfmpfkaaDoorX19
namespace Go.X
set_option linter.unusedVariables false
set_option linter.unusedSimpArgs false

/-- A region that draws: the first n operations only read, the others come one behind the other, under whatever guards. -/
theorem drawG {C : Ctx} [hC : CtxOk C] {ops : List Oper} {e : Env} {L : List Chunk} {K : Env → List Chunk → Prop} (n : Nat) (hok : (backB ops 0 && chainB ops (ops.take n).length (ops.drop n).length && Region.lexB .any (ops.take n).toArray) = true)
    (h : XQs C (ops.take n) (fun e L => XOps C ops K (ops.drop n) [] e L) L (ops.take n) [] e) : XDrawS C ops e L K := by
  unfold XDrawS
  intro id Q a w hQ ha hw
  simp only [Bool.and_eq_true] at hok
  obtain ⟨⟨hb, hch⟩, hB⟩ := hok
  have heq : ops.take n ++ ops.drop n = ops := List.take_append_drop n ops
  have key := wp_region_qchain (id := id) (Q' := Q) (a := a) (w := w) (C := Holds C L) hC.mixed (pre := ops.take n) (suf := ops.drop n) (by rw [heq]; exact hb) (by rw [heq]; exact hch) hB (Qa := fun a => ∃ e, ES C.n e a ∧ XOps C ops K (ops.drop n) [] e L) (Inv.drew hw) (XQs.sound hC (fun e a ha hk => ⟨e, ha, hk⟩) (ops.take n) ha h) (by
    rintro a w hw ⟨e, ha, hx⟩
    rw [heq]
    have hgo : ∀ (suf : List Oper) (k : Nat) {G : List (Nat × Bool)} {e : Env} {a : Act} {L : List Chunk} {w : World}, ops.drop k = suf → ES C.n e a → Holds C L w → XOps C ops K suf G e L → wpChain C.P ops.toArray Q suf k a w := by
      intro suf
      induction suf with
      | nil => intro k G e a L w _ ha hw h; exact hQ e a L w ha hw h
      | cons o os ih =>
        intro k G e a L w hd ha hw h
        have hk : ops[k]? = some o := by
          have := congrArg (·[0]?) hd
          simpa using this
        have hd' : ops.drop (k + 1) = os := by rw [← List.drop_drop, hd]; rfl
        intro K' hK'
        unfold wpOp
        rw [show ops.toArray[k]? = some o by simpa using hk]
        have h : guardX ops G o e (fun G e => XOp C o e L fun v L' => XOps C ops K os G (put C.n e o.dst v) L') (fun G e => XOps C ops K os G (put C.n e o.dst undef) L) := h
        rcases guardX.sound ha h with ⟨hwt, G', e', ha', h'⟩ | ⟨hwt, G', e', ha', h'⟩
        · simp only [hwt, if_true]
          exact .inl (XOp.sound hC ha' h' K' Q (fun v L' w' hk hh => hK' _ _ (ih (k + 1) hd' (ha'.put o.dst v) hh hk)) w hw)
        · simp only [hwt, Bool.false_eq_true, if_false]
          exact hK' _ _ (ih (k + 1) hd' (ha'.put o.dst undef) hw h')
    exact hgo (ops.drop n) (ops.take n).length (by simp only [List.length_take]; by_cases hn : n ≤ ops.length
                                                   · rw [Nat.min_eq_left hn]
                                                   · rw [Nat.min_eq_right (by omega), List.drop_eq_nil_of_le (Nat.le_refl _), List.drop_eq_nil_of_le (by omega)]) ha hw hx)
  rwa [heq] at key
end Go.X
namespace Go.X
set_option linter.unusedVariables false
set_option linter.unusedSimpArgs false

/-- What holds of the chunks holds behind the call. -/
theorem Trip.fact {P : Program} {f : FuncId} {args : Array Value} {w : World} {S : FP} {Post Post' : Value → List Chunk → Prop} (h : Trip P f args w S Post)
    (hp : ∀ v L w', Post v L → Inv w S L w' → Post' v L) : Trip P f args w S Post' :=
  ⟨h.1, h.2.mono fun _ w' ⟨v, L, he, hP, hI⟩ => ⟨v, L, he, hp _ _ w' hP hI, hI⟩⟩
theorem Inv.ownAt {α : Type} {w0 w : World} {S0 : FP} {L : List Chunk} {a : Option Addr} {cap : Nat} {e : TypeId} {sz : Nat} {enc : α → List Value} {xs : List α} (h : Inv w0 S0 L w) (hm : X.own a cap e sz enc xs ∈ L) (hne : xs ≠ []) : ∃ g, a = some ⟨g, 0, none⟩ := by
  obtain ⟨_, S, hS, _⟩ := h
  obtain ⟨T, hT, _⟩ := hS.mem hm
  obtain ⟨x, hx⟩ : ∃ x, xs[0]? = some x := by cases xs with | nil => exact absurd rfl hne | cons x xs => exact ⟨x, rfl⟩
  obtain ⟨g, cur, rfl, _⟩ := own_at hT hx
  exact ⟨g, rfl⟩
/-- The capacity is at least the length. -/
theorem Inv.ownCap {α : Type} {w0 w : World} {S0 : FP} {L : List Chunk} {a : Option Addr} {cap : Nat} {e : TypeId} {sz : Nat} {enc : α → List Value} {xs : List α} (h : Inv w0 S0 L w) (hm : X.own a cap e sz enc xs ∈ L) : xs.length ≤ cap := by
  obtain ⟨_, S, hS, _⟩ := h
  obtain ⟨T, ⟨_, _, h⟩, _⟩ := hS.mem hm
  rcases h with ⟨_, h0⟩ | ⟨g, c, cur, he, _, _, hn, _⟩
  · have h0 : xs.length = 0 := h0
    omega
  · cases he; exact hn
end Go.X
namespace Go.X
set_option linter.unusedVariables false
set_option linter.unusedSimpArgs false
section
variable {α : Type} {C : Ctx} {L : List Chunk} {e : TypeId} {sz cap : Nat} {enc : α → List Value} {xs ys : List α}

/-- A slice is cut before its element j. -/
theorem slLoP [hC : CtxOk C] {t : TypeId} {a : Option Addr} {n c : Nat} {k : IntKind} {i : Int} {et : TypeId} {ti te : TyI} (j : Nat) (hij : i = (j : Int)) (hj : j ≤ n) (hti : tget C.tab t = some ti) (hk : ti.k = .slice et) (hte : tget C.tab et = some te) (w : World) :
    (Instr.sliceAt t (.slice a n c) (some (.int k i)) none none).run C.P w = .ok (.slice (if c = j then a else a.map (·.add (j * te.size))) (n - j) (c - j)) w := by
  obtain ⟨d, hd, hkd⟩ := (hC.tab.get hti).und
  rw [hk] at hkd
  have hd' : C.P.underlying t = some (.slice et) := by
    cases d <;> simp [kOk] at hkd
    subst hkd; exact hd
  subst hij
  have hsz := run_sizeOf' (w := w) (hC.tab.get hte)
  have hle : (0 : Int) ≤ j := by omega
  have hjc : (j : Int) ≤ n := by omega
  simp [Instr.sliceAt, Instr.slice, run_underlying' hd', Instr.sliceBounds, Instr.sliceBound, asIntOf, hj, hsz]
theorem slLo [hC : CtxOk C] {t : TypeId} {a : Option Addr} {n c : Nat} {k : IntKind} {i : Int} {et : TypeId} {ti te : TyI} (j : Nat) (hij : i = (j : Int)) (hj : j ≤ n) (hti : tget C.tab t = some ti) (hk : ti.k = .slice et) (hte : tget C.tab et = some te) :
    RunsTo C L (Instr.sliceAt t (.slice a n c) (some (.int k i)) none none) (.slice (if c = j then a else a.map (·.add (j * te.size))) (n - j) (c - j)) := fun w _ => slLoP j hij hj hti hk hte w
theorem slHiP [hC : CtxOk C] {t : TypeId} {a : Option Addr} {n c : Nat} {k : IntKind} {i : Int} {et : TypeId} {ti te : TyI} (j : Nat) (hij : i = (j : Int)) (hj : j ≤ c) (hti : tget C.tab t = some ti) (hk : ti.k = .slice et) (hte : tget C.tab et = some te) (w : World) :
    (Instr.sliceAt t (.slice a n c) none (some (.int k i)) none).run C.P w = .ok (.slice a j c) w := by
  obtain ⟨d, hd, hkd⟩ := (hC.tab.get hti).und
  rw [hk] at hkd
  have hd' : C.P.underlying t = some (.slice et) := by
    cases d <;> simp [kOk] at hkd
    subst hkd; exact hd
  subst hij
  have hsz := run_sizeOf' (w := w) (hC.tab.get hte)
  have hle : (0 : Int) ≤ j := by omega
  have hjc : (j : Int) ≤ c := by omega
  have hadd : ∀ x : Addr, x.add 0 = x := fun x => by simp [Addr.add]
  have hmap : Option.map (fun x : Addr => x.add 0) a = a := by cases a <;> simp [hadd]
  simp [Instr.sliceAt, Instr.slice, run_underlying' hd', Instr.sliceBounds, Instr.sliceBound, asIntOf, hj, hsz, hmap]

/-- Nothing is appended. -/
theorem app0 [hC : CtxOk C] {t ty : TypeId} {g n c : Nat} {A : Option Addr} {R : Value → List Chunk → Prop} {ti te : TyI} (hn : n ≤ cap) (hti : tget C.tab t = some ti) (hkk : ti.k = .slice e) (hte : tget C.tab e = some te)
    (hR : R (.slice (some ⟨g, 0, none⟩) n cap) L) : Does C L (Builtin.append_ ⟨[t, t]⟩ ty ⟨[.slice (some ⟨g, 0, none⟩) n cap, .slice A 0 c]⟩) R := by
  intro w hw
  obtain ⟨d, hd, hkd⟩ := (hC.tab.get hti).und
  rw [hkk] at hkd
  obtain rfl := kOk.slice hkd
  have hs := run_sizeOf' (w := w) (hC.tab.get hte)
  refine ⟨_, w, L, ?_, hw, hR⟩
  have hl : ∀ a : Addr, (loadCells a 0).run C.P w = .ok #[] w := fun a => by simp [loadCells, loadCellsFrom]
  cases A with
  | none => simp [Builtin.append_, run_underlying' hd, hs, Builtin.lenOf, Builtin.firstCells, hn, storeCells]
  | some a => simp [Builtin.append_, run_underlying' hd, hs, Builtin.lenOf, Builtin.firstCells, hn, storeCells, hl]

/-- Elements lie there one behind the other. -/
def LieAt (w : World) (A : Option Addr) (sz : Nat) (enc : α → List Value) (zs : List α) : Prop :=
  zs ≠ [] → ∃ b o, A = some ⟨b, o, none⟩ ∧ ∀ (i : Nat) (x : α), zs[i]? = some x → ∀ (j : Nat) (v : Value), (enc x)[j]? = some v → w.cell? ⟨b, o + (i * sz + j), none⟩ = some v
theorem lie_ro {w : World} {A : Option Addr} {zs : List α} (hro : RO C.w0 C.S0 (roS A sz enc zs)) (hw : Holds C L w) : LieAt w A sz enc zs := by
  obtain ⟨T', ⟨_, _, _, hcell⟩, _⟩ := hro.now hw.1
  exact hcell
theorem lie_own {w : World} {A : Option Addr} {zs : List α} {e' : TypeId} {c : Nat} (j : Nat) (hj : lget L j = some (own A c e' sz enc zs)) (hl : ∀ x ∈ zs, (enc x).length = sz) (hw : Holds C L w) : LieAt w A sz enc zs := fun hne => by
  obtain ⟨T, hT⟩ := hw.mem hj
  obtain ⟨x, hx⟩ : ∃ x, zs[0]? = some x := by cases zs with | nil => exact absurd rfl hne | cons x xs => exact ⟨x, rfl⟩
  obtain ⟨g, cur, rfl, _⟩ := own_at hT hx
  exact ⟨g, 0, rfl, fun i x hi j v hj => by rw [Nat.zero_add]; exact own_cell hT hl hi hj⟩

/-- A part of a slice that lies there is appended. -/
theorem appG2 [hC : CtxOk C] {t ty : TypeId} {g n m c : Nat} {A A' : Option Addr} {zs : List α} {R : Value → List Chunk → Prop} {ti te : TyI} (k i : Nat) (hk : lget L k = some (own (some ⟨g, 0, none⟩) cap e sz enc xs)) (hsrc : ∀ w, Holds C L w → LieAt w A sz enc zs) (hA : 0 < m → A' = A.map (·.add (i * sz))) (him : i + m ≤ zs.length) (hn : n = xs.length)
    (hlx : ∀ x ∈ xs, (enc x).length = sz) (hly : ∀ x ∈ zs, (enc x).length = sz) (hsz : 0 < sz) (h1 : ∀ x, (enc x).all Value.oneCell' = true) (hti : tget C.tab t = some ti) (hkk : ti.k = .slice e) (hte : tget C.tab e = some te) (hs : te.size = sz) (hz0 : te.zero.length = sz)
    (hml : xs.length + m ≤ maxLen) (hbb : (xs.length + m) * te.bytes ≤ 140737488355328) (hR : ∀ g' cap', (xs ++ (zs.drop i).take m).length ≤ cap' → R (.slice (some ⟨g', 0, none⟩) (xs ++ (zs.drop i).take m).length cap') (setL L k (own (some ⟨g', 0, none⟩) cap' e sz enc (xs ++ (zs.drop i).take m)))) :
    Does C L (Builtin.append_ ⟨[t, t]⟩ ty ⟨[.slice (some ⟨g, 0, none⟩) n cap, .slice A' m c]⟩) R := by
  rcases Nat.eq_zero_or_pos m with rfl | hm
  · intro w hw
    have hcap : xs.length ≤ cap := by
      obtain ⟨T, _, _, h⟩ := hw.mem hk
      rcases h with ⟨_, h0⟩ | ⟨_, _, _, he, _, _, hn, _⟩
      · have h0 : xs.length = 0 := h0
        omega
      · cases he; exact hn
    have hset : setL L k (own (some ⟨g, 0, none⟩) cap e sz enc xs) = L := by
      have : ∀ (L : List Chunk) (k : Nat) (c : Chunk), lget L k = some c → setL L k c = L := by
        intro L
        induction L with
        | nil => intro k c h; cases k <;> simp [lget] at h
        | cons d L ih =>
          intro k c h
          cases k with
          | zero => simp [lget] at h; subst h; rfl
          | succ k => simp only [setL]; rw [ih k c (by simpa [lget] using h)]
      exact this L k _ hk
    have := hR g cap (by simpa using hcap)
    simp only [List.take_zero, List.append_nil, hset] at this
    subst hn
    exact app0 hcap hti hkk hte this w hw
  · intro w' hw'
    obtain ⟨b, o, rfl, _⟩ := hsrc w' hw' (by intro h0; rw [h0] at him; simp at him; omega)
    have hA' := hA hm
    simp only [Option.map_some] at hA'
    subst hA'
    have hyl : ((zs.drop i).take m).length = m := by simp; omega
    refine appC2 (ys := (zs.drop i).take m) k hk (fun w hw q u hu => ?_) hn hyl.symm hlx (fun x hx => hly x (List.mem_of_mem_drop (List.mem_of_mem_take hx))) hsz h1 hti hkk hte hs hz0 (by rw [hyl]; exact hml) (by rw [hyl]; exact hbb) hR w' hw'
    have hcell := hsrc w hw
    have hly' : ∀ x ∈ (zs.drop i).take m, (enc x).length = sz := fun x hx => hly x (List.mem_of_mem_drop (List.mem_of_mem_take hx))
    have hfl := flat_len hly'
    have hlt : q < ((zs.drop i).take m).length * sz := by
      rcases Nat.lt_or_ge q (((zs.drop i).take m).length * sz) with h | h
      · exact h
      · rw [List.getElem?_eq_none (by omega)] at hu; cases hu
    have hdiv : q / sz < ((zs.drop i).take m).length := (Nat.div_lt_iff_lt_mul hsz).2 hlt
    obtain ⟨y, hy⟩ : ∃ y, ((zs.drop i).take m)[q / sz]? = some y := ⟨((zs.drop i).take m)[q / sz], List.getElem?_eq_getElem hdiv⟩
    have hmod := Nat.mod_lt q hsz
    have hi : q / sz * sz + q % sz = q := by rw [Nat.mul_comm]; exact Nat.div_add_mod q sz
    have hf := flat_get hly' hy hmod
    rw [hi, hu] at hf
    obtain ⟨b', o', he, hc⟩ := hcell (by intro h0; rw [h0] at him; simp at him; omega)
    cases he
    have hyz : zs[i + q / sz]? = some y := by
      rw [List.getElem?_take_of_lt (by omega), List.getElem?_drop] at hy
      exact hy
    have := hc _ y hyz _ u hf.symm
    rw [Addr.add_none, Addr.add_none]
    rw [← this]
    congr 2
    rw [Nat.add_mul]
    omega
theorem appG [hC : CtxOk C] {t ty : TypeId} {g n m c : Nat} {A A' : Option Addr} {zs : List α} {R : Value → List Chunk → Prop} {ti te : TyI} (k i : Nat) (hk : lget L k = some (own (some ⟨g, 0, none⟩) cap e sz enc xs)) (hsrc : ∀ w, Holds C L w → LieAt w A sz enc zs) (hA : 0 < m → A' = A.map (·.add (i * sz))) (him : i + m ≤ zs.length) (hn : n = xs.length)
    (hlx : ∀ x ∈ xs, (enc x).length = sz) (hly : ∀ x ∈ zs, (enc x).length = sz) (hsz : 0 < sz) (h1 : ∀ x, (enc x).all Value.oneCell' = true) (hti : tget C.tab t = some ti) (hkk : ti.k = .slice e) (hte : tget C.tab e = some te) (hs : te.size = sz) (hz0 : te.zero.length = sz)
    (hbound : xs.length + m ≤ 2 ^ 31) (hby : te.bytes ≤ 2 ^ 12) (hR : ∀ g' cap', (xs ++ (zs.drop i).take m).length ≤ cap' → R (.slice (some ⟨g', 0, none⟩) (xs ++ (zs.drop i).take m).length cap') (setL L k (own (some ⟨g', 0, none⟩) cap' e sz enc (xs ++ (zs.drop i).take m)))) :
    Does C L (Builtin.append_ ⟨[t, t]⟩ ty ⟨[.slice (some ⟨g, 0, none⟩) n cap, .slice A' m c]⟩) R :=
  appG2 k i hk hsrc hA him hn hlx hly hsz h1 hti hkk hte hs hz0 (by simp [maxLen]; omega) (Nat.le_trans (Nat.mul_le_mul hbound hby) (by decide)) hR
/-- A part of a slice that is only read is appended. -/
theorem appRS [hC : CtxOk C] {t ty : TypeId} {g n m c : Nat} {A A' : Option Addr} {zs : List α} {R : Value → List Chunk → Prop} {ti te : TyI} (k i : Nat) (hk : lget L k = some (own (some ⟨g, 0, none⟩) cap e sz enc xs)) (hro : RO C.w0 C.S0 (roS A sz enc zs)) (hA : 0 < m → A' = A.map (·.add (i * sz))) (him : i + m ≤ zs.length) (hn : n = xs.length)
    (hlx : ∀ x ∈ xs, (enc x).length = sz) (hly : ∀ x ∈ zs, (enc x).length = sz) (hsz : 0 < sz) (h1 : ∀ x, (enc x).all Value.oneCell' = true) (hti : tget C.tab t = some ti) (hkk : ti.k = .slice e) (hte : tget C.tab e = some te) (hs : te.size = sz) (hz0 : te.zero.length = sz)
    (hbound : xs.length + m ≤ 2 ^ 31) (hby : te.bytes ≤ 2 ^ 12) (hR : ∀ g' cap', (xs ++ (zs.drop i).take m).length ≤ cap' → R (.slice (some ⟨g', 0, none⟩) (xs ++ (zs.drop i).take m).length cap') (setL L k (own (some ⟨g', 0, none⟩) cap' e sz enc (xs ++ (zs.drop i).take m)))) :
    Does C L (Builtin.append_ ⟨[t, t]⟩ ty ⟨[.slice (some ⟨g, 0, none⟩) n cap, .slice A' m c]⟩) R :=
  appG k i hk (fun _ hw => lie_ro hro hw) hA him hn hlx hly hsz h1 hti hkk hte hs hz0 hbound hby hR
/-- A part of a slice of one's own is appended to another one. -/
theorem appOS [hC : CtxOk C] {t ty : TypeId} {g n m c : Nat} {A A' : Option Addr} {zs : List α} {e' : TypeId} {c' : Nat} {R : Value → List Chunk → Prop} {ti te : TyI} (k j i : Nat) (hk : lget L k = some (own (some ⟨g, 0, none⟩) cap e sz enc xs)) (hj : lget L j = some (own A c' e' sz enc zs)) (hA : 0 < m → A' = A.map (·.add (i * sz))) (him : i + m ≤ zs.length) (hn : n = xs.length)
    (hlx : ∀ x ∈ xs, (enc x).length = sz) (hly : ∀ x ∈ zs, (enc x).length = sz) (hsz : 0 < sz) (h1 : ∀ x, (enc x).all Value.oneCell' = true) (hti : tget C.tab t = some ti) (hkk : ti.k = .slice e) (hte : tget C.tab e = some te) (hs : te.size = sz) (hz0 : te.zero.length = sz)
    (hbound : xs.length + m ≤ 2 ^ 31) (hby : te.bytes ≤ 2 ^ 12) (hR : ∀ g' cap', (xs ++ (zs.drop i).take m).length ≤ cap' → R (.slice (some ⟨g', 0, none⟩) (xs ++ (zs.drop i).take m).length cap') (setL L k (own (some ⟨g', 0, none⟩) cap' e sz enc (xs ++ (zs.drop i).take m)))) :
    Does C L (Builtin.append_ ⟨[t, t]⟩ ty ⟨[.slice (some ⟨g, 0, none⟩) n cap, .slice A' m c]⟩) R :=
  appG k i hk (fun _ hw => lie_own j hj hly hw) hA him hn hlx hly hsz h1 hti hkk hte hs hz0 hbound hby hR
theorem map_add0 (A : Option Addr) (s : Nat) : A = A.map (·.add (0 * s)) := by cases A <;> simp [Addr.add]
end
end Go.X
