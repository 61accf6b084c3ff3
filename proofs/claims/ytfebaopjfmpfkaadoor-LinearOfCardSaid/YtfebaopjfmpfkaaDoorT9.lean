/- Of, walked. The specification's Of, walked. -/
import Derived.Test.YtfebaopjfmpfkaaDoorT8
import Derived.Test.YtfebaopjfmpfkaaDoorX16
namespace Go.Proofs.YtfebaopjfmpfkaaDoor
open Go.X
set_option maxRecDepth 10000
set_option linter.unusedVariables false
set_option linter.unusedSimpArgs false

theorem fields83 : (Tryd.prog.fieldsOf 83).toList = [⟨"thread", 3, 0, false, "", "freehold/linear", 0⟩, ⟨"act", 3, 1, false, "", "freehold/linear", 8⟩] := by kernel_rfl
def encAct (k : Int × Int) : Value := .agg ⟨[.int .i64 k.1, .int .i64 k.2]⟩
theorem encAct_inj (a b : Int × Int) (h : encAct a = encAct b) : a = b := by
  obtain ⟨a1, a2⟩ := a; obtain ⟨b1, b2⟩ := b
  simp [encAct] at h
  simp [h]
theorem law_act : KeyLaw Tryd.prog 83 encAct := .of_wide (by kernel_rfl) encAct_inj
  (fun w a b => by
    show (Op.equalIn (9999 + 1) 83 (encAct a) (encAct b)).run Tryd.prog w = _
    unfold encAct
    rw [run_equalIn_agg _ _ _ _ _ (by kernel_rfl) (by kernel_rfl), fields83]
    refine (run_eqFields_int (by kernel_rfl) Tryd.underlying3 rfl rfl (run_eqFields_int (by kernel_rfl) Tryd.underlying3 rfl rfl run_eqFields_nil)).trans ?_
    congr 1
    obtain ⟨a1, a2⟩ := a; obtain ⟨b1, b2⟩ := b
    by_cases h1 : a1 = b1 <;> by_cases h2 : a2 = b2 <;> simp [h1, h2])
  (fun w e k => by unfold encAct; kernel_rfl)
  (fun w k => by
    have hs : Instr.sameBits 10000 (encAct k) (encAct k) = true := by
      show Instr.sameBits (9999 + 1) (encAct k) (encAct k) = true
      simp [encAct, Instr.sameBits]
    simp [Instr.keyThatStays, hs])
theorem ldRB {α : Type} {C : Ctx} [hC : CtxOk C] {L : List Chunk} {t : TypeId} {b o off sz : Nat} {enc : α → List Value} {xs : List α} {x : α} {ti : TyI} {vs : List Value} (h : RO C.w0 C.S0 (roS (some ⟨b, o, none⟩) sz enc xs)) (i j0 : Nat)
    (hi : xs[i]? = some x) (ht : aggOf C.tab t = some true) (hti : tget C.tab t = some ti) (hv : takeL ti.size (dropL j0 (enc x)) = vs) (hn : vs.length = ti.size) (hoff : off = o + (i * sz + j0)) : RunsTo C L (Instr.loadAt t (.pointer (some ⟨b, off, none⟩))) (.agg ⟨vs⟩) :=
  .loadN ht hti hn fun j v hj => .ro h hi (j := j0 + j) (by
    subst hv
    rw [takeL_eq, dropL_eq, List.getElem?_take] at hj
    split at hj
    · rwa [List.getElem?_drop] at hj
    · cases hj) (by omega)
theorem fin_of {xs : List Ev} (hok : OkTo xs xs.length) {c : Cl} {b k : Nat} (h : CallAt xs c b k) : ∃ f, xs[k]? = some f ∧ f.fin = true ∧ ∃ b0 e0, begF xs f.key k = some b0 ∧ xs[b0]? = some e0 ∧ ovrF xs f.key k = false := by
  have hb := h.bg
  have hnb := hok k hb.2.2.2
  obtain ⟨e, f, h1, h2, h3, h4⟩ := id h
  refine ⟨f, h3, ?_⟩
  unfold badB at hnb
  rw [h3] at hnb
  simp only at hnb
  cases hf : f.fin with
  | false =>
    rw [hf] at hnb
    cases hbg : begF xs f.key k with
    | none => exact absurd ⟨b, h⟩ (callAt_beg h3 hf hbg c)
    | some b0 => rw [hbg] at hnb; simp at hnb
  | true =>
    rw [hf, if_pos rfl, Bool.or_eq_false_iff] at hnb
    cases hbg : begF xs f.key k with
    | none => rw [hbg] at hnb; simp at hnb
    | some b0 =>
      obtain ⟨_, ⟨e0, q, _⟩, _⟩ := begF_some hbg
      exact ⟨rfl, b0, e0, rfl, q, hnb.2⟩
theorem calls_few {xs : List Ev} (hok : OkTo xs xs.length) {ys : List Cl} (hn : ys.Nodup) (h : ∀ c ∈ ys, ∃ b k, CallAt xs c b k) : Dst ys ∧ 2 * ys.length ≤ xs.length := by
  have inj1 : ∀ c ∈ ys, ∀ c' ∈ ys, c.bg = c'.bg → c = c' := fun c hc c' hc' e => by
    obtain ⟨b, k, h1⟩ := h c hc
    obtain ⟨b', k', h2⟩ := h c' hc'
    have q1 := h1.bg; have q2 := h2.bg
    obtain rfl : b = b' := by omega
    exact (h1.fun1 h2).2
  have inj2 : ∀ c ∈ ys, ∀ c' ∈ ys, c.en = c'.en → c = c' := fun c hc c' hc' e => by
    obtain ⟨b, k, h1⟩ := h c hc
    obtain ⟨b', k', h2⟩ := h c' hc'
    have q1 := h1.bg; have q2 := h2.bg
    obtain rfl : k = k' := by omega
    obtain ⟨f, r1, r2, b0, e0, r3, r4, r5⟩ := fin_of hok h1
    have okk : OkTo xs k := fun j hj => hok j (by omega)
    have s1 := ((callAt_end okk r1 r2 r3 r5 r4 c).1 ⟨b, h1⟩).2
    have s2 := ((callAt_end okk r1 r2 r3 r5 r4 c').1 ⟨b', h2⟩).2
    rw [s1, s2]
  have nd : ∀ {g : Cl → Int}, (∀ c ∈ ys, ∀ c' ∈ ys, g c = g c' → c = c') → (ys.map g).Nodup := fun {g} hg => by
    rw [List.nodup_iff_pairwise_ne] at hn ⊢
    rw [List.pairwise_map]
    exact List.Pairwise.imp_of_mem (fun ha hb hne e => hne (hg _ ha _ hb e)) hn
  refine ⟨nd inj1, few hn (fun c hc => ?_) (nd inj1) (nd inj2)⟩
  obtain ⟨b, k, h1⟩ := h c hc
  obtain ⟨f, r1, r2, _⟩ := fin_of hok h1
  exact ⟨b, k, f, h1, r1, r2⟩
def encNV (b : Nat) : Value := .int .i64 b

theorem Of_spec (la : Option Addr) (n cap : Nat) (xs : List Ev) (w : World) (S : FP) (hl : RO w S (roS la 9 encEv xs)) (hn : xs.length = n) (hc : n ≤ cap) (hn2 : n ≤ 200) (hd : ∀ b, S b → b < w.heap.size) :
    Trip Tryd.prog 21 #[.slice la n cap] w S fun v L => ∃ e a c zs, v = .tuple #[.slice a zs.length c, .int .i64 e] ∧ OfR xs e zs ∧ L = [own a c 41 9 encCl zs] := by
  refine Trip.of_x (L := []) Tryd.func21 (by kernel_rfl) rfl Tryd.ntmps21 Tryd.results21 rfl (ctx_ok _) trivial hd ?_
  refine ⟨fun h => absurd (of_decide_eq_true h) (by omega), fun _ => ?_⟩
  intro m1 m2
  refine loopI (σ := Nat × List ((Int × Int) × Nat) × List ((Int × Int) × Bool) × List Cl × Option Addr × Nat) (fun s => [(0, .slice la n cap), (4, .map (some m1)), (5, .map (some m2)), (6, .slice s.2.2.2.2.1 s.2.2.2.1.length s.2.2.2.2.2), (18, .slice la n cap), (19, .int .i64 n), (20, .int .i64 s.1)])
    (fun s => [own s.2.2.2.2.1 s.2.2.2.2.2 41 9 encCl s.2.2.2.1, mp m2 encAct encB s.2.2.1, mp m1 encAct encNV s.2.1])
    (fun s => s.1 ≤ n ∧ OkTo xs s.1 ∧ (∀ k, lk s.2.1 k = begF xs k s.1) ∧ (∀ k, lk s.2.2.1 k = if ovrF xs k s.1 = true then some true else none) ∧ (s.2.2.2.1 ≠ [] → ∃ g, s.2.2.2.2.1 = some ⟨g, 0, none⟩) ∧ s.2.2.2.1.length ≤ s.2.2.2.2.2 ∧ s.2.2.2.1.length ≤ s.1 ∧ s.2.2.2.1.Nodup ∧ ∀ c, c ∈ s.2.2.2.1 ↔ ∃ b k, k < s.1 ∧ CallAt xs c b k) (fun s => n - s.1) (0, [], [], [], none, 0) ⟨rfl, rfl, rfl, rfl, rfl, rfl, rfl, trivial⟩ ?_ ⟨Nat.zero_le _, fun j hj => by omega, fun _ => rfl, fun _ => rfl, fun h => absurd rfl h, Nat.le_refl _, Nat.le_refl _, List.Pairwise.nil, fun c => ⟨nofun, fun ⟨b, k, h, _⟩ => by omega⟩⟩ ?_
  · exact (mp_new m2).trans ((Ent.both [1]).trans ((mp_new m1).trans (own_nil.trans (Ent.both [0, 1, 0]))))
  rintro ⟨i, M1, M2, ys, ya, yc⟩ ⟨hi, hok, hM1, hM2, hya, hyc, hyi, hnd, hmem⟩
  have hi : i ≤ n := hi
  have hok : OkTo xs i := hok
  have hM1 : ∀ k, lk M1 k = begF xs k i := hM1
  have hM2 : ∀ k, lk M2 k = if ovrF xs k i = true then some true else none := hM2
  have hya : ys ≠ [] → ∃ g, ya = some ⟨g, 0, none⟩ := hya
  have hyc : ys.length ≤ yc := hyc
  have hyi : ys.length ≤ i := hyi
  have hnd : ys.Nodup := hnd
  have hmem : ∀ c, c ∈ ys ↔ ∃ b k, k < i ∧ CallAt xs c b k := hmem
  refine ⟨fun h => ?_, fun h => ?_⟩
  · have hin : i < n := by have := of_decide_eq_true h; simp at this; omega
    clear h
    obtain ⟨⟨th, act, fin, kind, size, al, ad, ra, re⟩, he⟩ : ∃ e, xs[i]? = some e := ⟨xs[i]'(by omega), by simp [show i < xs.length by omega]⟩
    obtain ⟨b1, o1, rfl⟩ := roS_at hl (by omega)
    refine ⟨i, rfl, hin, ?_⟩
    refine ⟨_, ldRA hl i he rfl rfl rfl rfl, ?_⟩
    refine fun pe => ?_
    refine st 0 rfl rfl rfl rfl rfl ?_
    refine ⟨_, ld 0 rfl rfl rfl, ?_⟩
    refine ⟨_, ld 0 rfl rfl rfl, ?_⟩
    repeat (refine ⟨rfl, Nat.le_of_ble_eq_true rfl, ?_⟩)
    refine fun pa => ?_
    refine st 0 rfl rfl rfl rfl rfl ?_
    refine ⟨_, ldA 0 rfl rfl rfl rfl rfl, ?_⟩
    have hbad : badB xs i = if fin = true then (begF xs (th, act) i).isNone || ovrF xs (th, act) i else (begF xs (th, act) i).isSome := by unfold badB; rw [he]; rfl
    cases hb : begF xs (th, act) i with
    | none =>
      refine ⟨_, lookN (encK := encAct) (encV := encNV) (k := (th, act)) 4 ((hM1 _).trans hb) law_act rfl rfl rfl zero3, ?_⟩
      refine ⟨_, ld 1 rfl rfl rfl, ?_⟩
      cases fin with
      | true =>
        refine ⟨fun _ => ?_, nofun⟩
        refine ⟨fun _ => ?_, nofun⟩
        exact ⟨_, (Ent.pick []).trans own_nil, 2, none, 0, [], rfl, .inl ⟨⟨i, by rw [hbad, hb]; rfl⟩, rfl, rfl⟩, rfl⟩
      | false =>
        have hnb : badB xs i = false := by rw [hbad, hb]; rfl
        have ho : ovrF xs (th, act) i = false := by
          cases ho : ovrF xs (th, act) i with
          | false => rfl
          | true => exact absurd hb (hok.over ho)
        refine ⟨nofun, fun _ => ?_⟩
        refine ⟨_, ldA 0 rfl rfl rfl rfl rfl, ?_⟩
        refine ⟨_, lookN' (encK := encAct) (encV := encB) (k := (th, act)) 3 ((hM2 _).trans (by rw [ho]; rfl)) law_act rfl rfl rfl zero4, ?_⟩
        refine ⟨nofun, fun _ => ?_⟩
        refine ⟨_, ld 1 rfl rfl rfl, ?_⟩
        refine ⟨fun _ => ?_, nofun⟩
        refine ⟨_, ldA 0 rfl rfl rfl rfl rfl, ?_⟩
        refine updM (encK := encAct) (encV := encNV) 4 (th, act) i law_act rfl rfl rfl ?_
        refine ⟨((i + 1 : Nat) : Int), by rw [show ((i : Int) + 1) = ((i + 1 : Nat) : Int) by omega]; exact wrap_i64 (by omega) (by omega), ?_⟩
        exact backI (i + 1, ins M1 (th, act) i, M2, ys, ya, yc) (by show n - (i + 1) < n - i; omega) ⟨by show i + 1 ≤ n; omega, hok.succ hnb, fun k => by
          show lk (ins M1 (th, act) i) k = begF xs k (i + 1)
          rw [lk_ins, hM1, show begF xs k (i + 1) = if (th, act) = k then some i else begF xs k i by simp [begF, he, Ev.key]], fun k => by
          show lk M2 k = if ovrF xs k (i + 1) = true then some true else none
          rw [hM2, show ovrF xs k (i + 1) = ovrF xs k i by simp [ovrF, he]], hya, hyc, by show ys.length ≤ i + 1; omega, hnd, fun c => by
          show c ∈ ys ↔ ∃ b k, k < i + 1 ∧ CallAt xs c b k
          rw [hmem]
          constructor
          · rintro ⟨b, k, h1, h2⟩; exact ⟨b, k, by omega, h2⟩
          · rintro ⟨b, k, h1, h2⟩
            rcases Nat.lt_or_ge k i with h | h
            · exact ⟨b, k, h, h2⟩
            · obtain rfl : k = i := by omega
              exact absurd ⟨b, h2⟩ (callAt_beg he rfl hb c)⟩ ⟨rfl, rfl, rfl, rfl, rfl, rfl, rfl, trivial⟩ (Ent.pick [2, 2, 2])
    | some b =>
      obtain ⟨q1, ⟨⟨th2, act2, fin2, k2, s2, a2, d2, r2, e2⟩, q2, q3, q4⟩, q5⟩ := begF_some hb
      obtain ⟨rfl, rfl⟩ : th2 = th ∧ act2 = act := by
        have : (th2, act2) = (th, act) := q3
        exact ⟨congrArg Prod.fst this, congrArg Prod.snd this⟩
      refine ⟨_, lookS (encK := encAct) (encV := encNV) (k := (th2, act2)) (a := b) (.int .i64 0) 4 ((hM1 _).trans hb) law_act rfl rfl rfl zero3, ?_⟩
      refine ⟨_, ld 1 rfl rfl rfl, ?_⟩
      cases fin with
      | false =>
        refine ⟨fun _ => ?_, nofun⟩
        refine ⟨fun _ => ?_, nofun⟩
        exact ⟨_, (Ent.pick []).trans own_nil, 2, none, 0, [], rfl, .inl ⟨⟨i, by rw [hbad, hb]; rfl⟩, rfl, rfl⟩, rfl⟩
      | true =>
        refine ⟨nofun, fun _ => ?_⟩
        refine ⟨_, ldA 0 rfl rfl rfl rfl rfl, ?_⟩
        cases ho : ovrF xs (th2, act2) i with
        | true =>
          refine ⟨_, lookS' (encK := encAct) (encV := encB) (k := (th2, act2)) (a := true) (.bool false) 3 ((hM2 _).trans (by rw [ho]; rfl)) law_act rfl rfl rfl zero4, ?_⟩
          refine ⟨fun _ => ?_, nofun⟩
          exact ⟨_, (Ent.pick []).trans own_nil, 2, none, 0, [], rfl, .inl ⟨⟨i, by rw [hbad, hb, ho]; rfl⟩, rfl, rfl⟩, rfl⟩
        | false =>
          have hnb : badB xs i = false := by rw [hbad, hb, ho]; rfl
          have hce := fun c => callAt_end hok he rfl hb ho q2 c
          have mem' : ∀ c, (∃ b k, k < i + 1 ∧ CallAt xs c b k) ↔ c ∈ ys ∨ (0 ≤ k2 ∧ k2 ≤ 2) ∧ c = ⟨th2, b, i, k2, s2, a2, d2, ra, re⟩ := fun c => by
            have hce' : (∃ b', CallAt xs c b' i) ↔ (0 ≤ k2 ∧ k2 ≤ 2) ∧ c = ⟨th2, b, i, k2, s2, a2, d2, ra, re⟩ := hce c
            rw [hmem, ← hce']
            constructor
            · rintro ⟨b, k, h1, h2⟩
              rcases Nat.lt_or_ge k i with h | h
              · exact .inl ⟨b, k, h, h2⟩
              · obtain rfl : k = i := by omega
                exact .inr ⟨b, h2⟩
            · rintro (⟨b, k, h1, h2⟩ | ⟨b, h2⟩)
              · exact ⟨b, k, by omega, h2⟩
              · exact ⟨b, i, by omega, h2⟩
          have hM1' : ∀ k, lk M1 k = begF xs k (i + 1) := fun k => by
            rw [hM1, show begF xs k (i + 1) = begF xs k i by simp [begF, he]]
          have hM2' : ∀ k, lk (ins M2 (th2, act2) true) k = if ovrF xs k (i + 1) = true then some true else none := fun k => by
            rw [lk_ins, hM2, show ovrF xs k (i + 1) = if (th2, act2) = k then true else ovrF xs k i by simp [ovrF, he, Ev.key]]
            by_cases h : (th2, act2) = k
            · rw [if_pos h, if_pos h]; rfl
            · rw [if_neg h, if_neg h]
          refine ⟨_, lookN' (encK := encAct) (encV := encB) (k := (th2, act2)) 3 ((hM2 _).trans (by rw [ho]; rfl)) law_act rfl rfl rfl zero4, ?_⟩
          refine ⟨nofun, fun _ => ?_⟩
          refine ⟨_, ld 1 rfl rfl rfl, ?_⟩
          refine ⟨nofun, fun _ => ?_⟩
          refine ⟨_, ldA 0 rfl rfl rfl rfl rfl, ?_⟩
          refine updM (encK := encAct) (encV := encB) 3 (th2, act2) true law_act rfl rfl rfl ?_
          refine ⟨b, rfl, by omega, ?_⟩
          refine ⟨_, ldRB hl b 3 q2 rfl rfl rfl rfl rfl, ?_⟩
          refine fun po => ?_
          refine st 0 rfl rfl rfl rfl rfl ?_
          refine ⟨_, ld 0 rfl rfl rfl, ?_⟩
          have hi1 : ((i + 1 : Nat) : Int) = IntKind.i64.wrap ((i : Int) + 1) := by rw [show ((i : Int) + 1) = ((i + 1 : Nat) : Int) by omega]; exact wrap_i64 (by omega) (by omega)
          have out : ¬ (0 ≤ k2 ∧ k2 ≤ 2) → ∀ c, c ∈ ys ↔ ∃ b k, k < i + 1 ∧ CallAt xs c b k := fun h c => by
            rw [mem']
            exact ⟨.inl, fun h' => h'.resolve_right fun h2 => h h2.1⟩
          refine ⟨fun hk0 => ?_, fun hk0 => ?_⟩
          · have hk0 : 0 ≤ k2 := of_decide_eq_true hk0
            refine ⟨_, ld 0 rfl rfl rfl, ?_⟩
            refine ⟨fun hk2 => ?_, fun hk2 => ?_⟩
            · have hk2 : k2 ≤ 2 := of_decide_eq_true hk2
              refine ⟨_, ld 2 rfl rfl rfl, ?_⟩
              refine ⟨_, ldA 0 rfl rfl rfl rfl rfl, ?_⟩
              refine ⟨_, ldA 2 rfl rfl rfl rfl rfl, ?_⟩
              repeat (refine ⟨rfl, Nat.le_of_ble_eq_true rfl, ?_⟩)
              refine bldS (encCl ⟨0, 0, 0, 0, 0, 0, 0, 0, 0⟩) rfl rfl rfl rfl rfl (by kernel_rfl) rfl fun vb => ?_
              refine appO 4 0 ⟨th2, b, i, k2, s2, a2, d2, ra, re⟩ rfl rfl rfl rfl rfl (by decide) rfl rfl rfl rfl rfl rfl (by show ys.length + 1 ≤ 2 ^ 31; omega) (by decide) fun g' cap' hcap' => ?_
              refine ⟨_, hi1, ?_⟩
              have hnew : (⟨th2, b, i, k2, s2, a2, d2, ra, re⟩ : Cl) ∉ ys := fun h => by
                obtain ⟨b', k', h1, h2⟩ := (hmem _).1 h
                have := h2.bg.2.1
                have : (i : Int) = k' := this
                omega
              exact backI (i + 1, M1, ins M2 (th2, act2) true, ys ++ [⟨th2, b, i, k2, s2, a2, d2, ra, re⟩], some ⟨g', 0, none⟩, cap') (by show n - (i + 1) < n - i; omega) ⟨by show i + 1 ≤ n; omega, hok.succ hnb, hM1', hM2', fun _ => ⟨g', rfl⟩, by show (ys ++ [_]).length ≤ cap'; simpa using hcap', by show (ys ++ [_]).length ≤ i + 1; simp; omega, by
                show (ys ++ [_]).Nodup
                rw [List.nodup_append]
                exact ⟨hnd, by simp, fun x hx y hy => by rw [List.mem_singleton] at hy; subst hy; rintro rfl; exact hnew hx⟩, fun c => by
                show c ∈ ys ++ [_] ↔ ∃ b k, k < i + 1 ∧ CallAt xs c b k
                rw [mem', List.mem_append, List.mem_singleton]
                exact or_congr Iff.rfl ⟨fun h => ⟨⟨hk0, hk2⟩, h⟩, fun h => h.2⟩⟩ ⟨rfl, rfl, rfl, by show _ = some (Value.slice _ (ys ++ [_]).length _); rw [List.length_append]; rfl, rfl, rfl, rfl, trivial⟩ (Ent.pick [4, 4, 4])
            · have hk2 : ¬ k2 ≤ 2 := of_decide_eq_false hk2
              refine ⟨_, hi1, ?_⟩
              exact backI (i + 1, M1, ins M2 (th2, act2) true, ys, ya, yc) (by show n - (i + 1) < n - i; omega) ⟨by show i + 1 ≤ n; omega, hok.succ hnb, hM1', hM2', hya, hyc, by show ys.length ≤ i + 1; omega, hnd, out (fun h => hk2 h.2)⟩ ⟨rfl, rfl, rfl, rfl, rfl, rfl, rfl, trivial⟩ (Ent.pick [3, 3, 3])
          · have hk0 : ¬ 0 ≤ k2 := of_decide_eq_false hk0
            refine ⟨nofun, fun _ => ?_⟩
            refine ⟨_, hi1, ?_⟩
            exact backI (i + 1, M1, ins M2 (th2, act2) true, ys, ya, yc) (by show n - (i + 1) < n - i; omega) ⟨by show i + 1 ≤ n; omega, hok.succ hnb, hM1', hM2', hya, hyc, by show ys.length ≤ i + 1; omega, hnd, out (fun h => hk0 h.1)⟩ ⟨rfl, rfl, rfl, rfl, rfl, rfl, rfl, trivial⟩ (Ent.pick [3, 3, 3])
  · have hin : i = n := by have := of_decide_eq_false h; simp at this; omega
    clear h
    subst hin
    rw [← hn] at hok
    have hmm : ∀ c, c ∈ ys ↔ ∃ b k, CallAt xs c b k := fun c => by
      rw [hmem]
      exact ⟨fun ⟨b, k, _, h⟩ => ⟨b, k, h⟩, fun ⟨b, k, h⟩ => ⟨b, k, by have := h.bg; omega, h⟩⟩
    obtain ⟨c1, c2⟩ := calls_few hok hnd fun c hc => (hmm c).1 hc
    refine callP [0] (fun w S hR hB hS hd => sort_spec ya ys.length yc ys rfl (by omega) hya c1 w S hS hd) ?_
    rintro _ _ ⟨zs, rfl, hp, hs, rfl⟩
    exact ⟨_, .pick [0], 0, ya, yc, zs, by rw [hp.length_eq]; rfl, .inr ⟨hok.all, rfl, hs, fun c => (hp.mem_iff).trans (hmm c)⟩, rfl⟩
end Go.Proofs.YtfebaopjfmpfkaaDoor
namespace Go.Proofs.YtfebaopjfmpfkaaDoor
open Go.X
set_option maxRecDepth 10000
set_option linter.unusedVariables false
set_option linter.unusedSimpArgs false

def begI : Option Nat → Int
  | none => -1
  | some b => (b : Int)
def apU (i : Nat) : List Nat := match i with
  | 3 => [1, 2]
  | 4 => [1, 2, 3]
  | 5 => [1, 2, 3, 4]
  | 8 => [6, 7]
  | 9 => [6, 7, 8]
  | 10 => [6, 7, 8, 9]
  | 13 => [11, 12]
  | 14 => [11, 12, 13]
  | 15 => [11, 12, 13, 14]
  | 18 => [1, 2, 3, 4, 5, 6, 7, 8, 9, 10, 11, 12, 13, 14, 15, 16, 17]
  | 19 => [1, 2, 3, 4, 5, 6, 7, 8, 9, 10, 11, 12, 13, 14, 15, 16, 17, 18]
  | _ => []
def apV (ya : Option Addr) (yn yc b1 o1 n cap m k : Nat) (c : Cl) (i : Nat) : Value := match i with
  | 0 => .slice ya yn yc
  | 1 | 6 | 11 => .slice (some ⟨b1, o1, none⟩) n cap
  | 2 | 7 | 16 => .int .i64 m
  | 12 | 17 => .int .i64 k
  | 3 | 4 | 8 => .pointer (some ⟨b1, o1 + m * 9, none⟩)
  | 9 => .pointer (some ⟨b1, o1 + m * 9 + 3, none⟩)
  | 13 => .pointer (some ⟨b1, o1 + k * 9, none⟩)
  | 14 => .pointer (some ⟨b1, o1 + k * 9 + 7, none⟩)
  | 5 => .int .i64 c.th
  | 10 => .agg ⟨[.int .i64 c.kind, .int .i64 c.size, .int .i64 c.align, .int .i64 c.addr]⟩
  | 15 => .agg ⟨[.int .i64 c.ra, .int .i64 c.re]⟩
  | _ => .agg ⟨encCl c⟩
def apRel (ya : Option Addr) (yn yc b1 o1 n cap m k : Nat) (c : Cl) : RelT := fun i _ v N => match i with
  | 19 => ∃ vb, v = .slice (some ⟨vb, 0, none⟩) 1 1 ∧ N = [pt vb (encCl c) 41]
  | i => v = apV ya yn yc b1 o1 n cap m k c i ∧ N = []
theorem OfR_spec (la : Option Addr) (n cap : Nat) (xs : List Ev) (w : World) (S : FP) (hl : RO w S (roS la 9 encEv xs)) (hn : xs.length = n) (hc : n ≤ cap) (hn2 : n ≤ 200) (hd : ∀ b, S b → b < w.heap.size) :
    Trip Tryd.prog 22 #[.slice la n cap] w S fun v L => ∃ e a c zs, v = .tuple #[.slice a zs.length c, .int .i64 e] ∧ OfR xs e zs ∧ L = [own a c 41 9 encCl zs] := by
  refine Trip.of_x (L := []) Tryd.func22 (by kernel_rfl) rfl Tryd.ntmps22 Tryd.results22 rfl (ctx_ok _) trivial hd ?_
  refine ⟨fun h => absurd (of_decide_eq_true h) (by omega), fun _ => ?_⟩
  have inc : ∀ i : Nat, i < n → ((i + 1 : Nat) : Int) = IntKind.i64.wrap ((i : Int) + 1) := fun i hi => by rw [show ((i : Int) + 1) = ((i + 1 : Nat) : Int) by omega]; exact wrap_i64 (by omega) (by omega)
  refine loopI (σ := Nat) (fun i => [(0, .slice la n cap), (4, .slice none 0 0), (5, .int .i64 i)]) (fun _ => []) (fun i => i ≤ n ∧ OkTo xs i) (fun i => n - i) 0 ⟨rfl, rfl, rfl, trivial⟩ (.refl _) ⟨Nat.zero_le _, fun j hj => by omega⟩ ?_
  rintro i ⟨hi, hok⟩
  refine ⟨fun h => ?_, fun h => ?_⟩
  · have hin : i < n := by have := of_decide_eq_true h; omega
    clear h
    obtain ⟨⟨th, act, fin, kind, size, al, ad, ra, re⟩, he⟩ : ∃ e, xs[i]? = some e := ⟨xs[i]'(by omega), by simp [show i < xs.length by omega]⟩
    obtain ⟨b1, o1, rfl⟩ := roS_at hl (by omega)
    have hbad : badB xs i = if fin = true then (begF xs (th, act) i).isNone || ovrF xs (th, act) i else (begF xs (th, act) i).isSome := by unfold badB; rw [he]; rfl
    refine loopI (σ := Nat) (fun k => [(0, .slice (some ⟨b1, o1, none⟩) n cap), (4, .slice none 0 0), (5, .int .i64 i), (6, .int .i64 (begI (begF xs (th, act) k))), (7, .bool (ovrF xs (th, act) k)), (8, .int .i64 k)]) (fun _ => []) (fun k => k ≤ i) (fun k => i - k) 0 ⟨rfl, rfl, rfl, rfl, rfl, rfl, trivial⟩ (.refl _) (Nat.zero_le _) ?_
    rintro k hk
    refine ⟨fun h => ?_, fun h => ?_⟩
    · have hki : k < i := by have := of_decide_eq_true h; omega
      clear h
      obtain ⟨⟨th2, act2, fin2, k2, s2, a2, d2, r2, e2⟩, hk2⟩ : ∃ e, xs[k]? = some e := ⟨xs[k]'(by omega), by simp [show k < xs.length by omega]⟩
      have same : (th2 = th ∧ act2 = act) → begF xs (th, act) (k + 1) = (if fin2 = false then some k else begF xs (th, act) k) ∧ ovrF xs (th, act) (k + 1) = (if fin2 = true then true else ovrF xs (th, act) k) := fun ⟨h1, h2⟩ => by subst h1 h2; simp [begF, ovrF, hk2, Ev.key]
      have diff : ¬ (th2 = th ∧ act2 = act) → begF xs (th, act) (k + 1) = begF xs (th, act) k ∧ ovrF xs (th, act) (k + 1) = ovrF xs (th, act) k := fun h => by
        have : ¬ ((th2, act2) = (th, act)) := fun h' => h ⟨congrArg Prod.fst h', congrArg Prod.snd h'⟩
        constructor
        · simp only [begF, hk2]
          split
          · rename_i h'; exact absurd h'.1 this
          · rfl
        · simp only [ovrF, hk2]
          split
          · rename_i h'; exact absurd h'.1 this
          · rfl
      refine Or.inl ⟨by kernel_rfl, ?_⟩
      refine ⟨k, rfl, by omega, ?_⟩
      refine ⟨_, ldR hl k 0 hk2 rfl rfl rfl, ?_⟩
      refine ⟨i, rfl, by omega, ?_⟩
      refine ⟨_, ldR hl i 0 he rfl rfl rfl, ?_⟩
      refine ⟨fun h1 => ?_, fun h1 => ?_⟩
      · have h1 : th2 = th := of_decide_eq_true h1
        refine ⟨k, rfl, by omega, ?_⟩
        refine ⟨_, ldR hl k 1 hk2 rfl rfl rfl, ?_⟩
        refine ⟨i, rfl, by omega, ?_⟩
        refine ⟨_, ldR hl i 1 he rfl rfl rfl, ?_⟩
        refine ⟨fun h2 => ?_, fun h2 => ?_⟩
        · have h2 : act2 = act := of_decide_eq_true h2
          obtain ⟨e1, e2⟩ := same ⟨h1, h2⟩
          refine ⟨k, rfl, by omega, ?_⟩
          refine ⟨_, ldR hl k 2 hk2 rfl rfl rfl, ?_⟩
          cases fin2 with
          | true =>
            refine ⟨fun _ => ?_, nofun⟩
            refine ⟨_, inc k (by omega), ?_⟩
            exact backI (k + 1) (by omega) (by omega) ⟨rfl, rfl, rfl, by show _ = some (Value.int .i64 (begI (begF xs (th, act) (k + 1)))); rw [e1]; rfl, by show _ = some (Value.bool (ovrF xs (th, act) (k + 1))); rw [e2]; rfl, rfl, trivial⟩ (.refl _)
          | false =>
            refine ⟨nofun, fun _ => ?_⟩
            refine ⟨_, inc k (by omega), ?_⟩
            exact backI (k + 1) (by omega) (by omega) ⟨rfl, rfl, rfl, by show _ = some (Value.int .i64 (begI (begF xs (th, act) (k + 1)))); rw [e1]; rfl, by show _ = some (Value.bool (ovrF xs (th, act) (k + 1))); rw [e2]; rfl, rfl, trivial⟩ (.refl _)
        · have h2 : ¬ act2 = act := of_decide_eq_false h2
          obtain ⟨e1, e2⟩ := diff (fun h => h2 h.2)
          refine ⟨_, inc k (by omega), ?_⟩
          exact backI (k + 1) (by omega) (by omega) ⟨rfl, rfl, rfl, by show _ = some (Value.int .i64 (begI (begF xs (th, act) (k + 1)))); rw [e1]; rfl, by show _ = some (Value.bool (ovrF xs (th, act) (k + 1))); rw [e2]; rfl, rfl, trivial⟩ (.refl _)
      · have h1 : ¬ th2 = th := of_decide_eq_false h1
        obtain ⟨e1, e2⟩ := diff (fun h => h1 h.1)
        refine ⟨nofun, fun _ => ?_⟩
        refine ⟨_, inc k (by omega), ?_⟩
        exact backI (k + 1) (by omega) (by omega) ⟨rfl, rfl, rfl, by show _ = some (Value.int .i64 (begI (begF xs (th, act) (k + 1)))); rw [e1]; rfl, by show _ = some (Value.bool (ovrF xs (th, act) (k + 1))); rw [e2]; rfl, rfl, trivial⟩ (.refl _)
    · have hki : k = i := by have := of_decide_eq_false h; omega
      clear h hk
      subst hki
      refine ⟨k, rfl, by omega, ?_⟩
      refine ⟨_, ldR hl k 2 he rfl rfl rfl, ?_⟩
      generalize hB : begF xs (th, act) k = B at hbad ⊢
      generalize hO : ovrF xs (th, act) k = O at hbad ⊢
      cases fin with
      | true =>
        cases B with
        | none =>
          refine ⟨fun _ => ?_, nofun⟩
          refine ⟨fun _ => ?_, fun h => by simp [begI] at h⟩
          refine ⟨fun _ => ?_, nofun⟩
          refine ⟨fun _ => ?_, nofun⟩
          exact ⟨_, (Ent.pick []).trans own_nil, 2, none, 0, [], rfl, .inl ⟨⟨k, by rw [hbad]; rfl⟩, rfl, rfl⟩, rfl⟩
        | some b =>
          cases O with
          | true =>
            refine ⟨fun _ => ?_, nofun⟩
            refine ⟨fun h => absurd (of_decide_eq_true h) (by simp [begI]), fun _ => ?_⟩
            refine ⟨fun _ => ?_, nofun⟩
            refine ⟨fun _ => ?_, nofun⟩
            exact ⟨_, (Ent.pick []).trans own_nil, 2, none, 0, [], rfl, .inl ⟨⟨k, by rw [hbad]; rfl⟩, rfl, rfl⟩, rfl⟩
          | false =>
            refine ⟨fun _ => ?_, nofun⟩
            refine ⟨fun h => absurd (of_decide_eq_true h) (by simp [begI]), fun _ => ?_⟩
            refine ⟨nofun, fun _ => ?_⟩
            refine ⟨k, rfl, by omega, ?_⟩
            refine ⟨_, ldR hl k 2 he rfl rfl rfl, ?_⟩
            repeat (refine ⟨fun h => by first | (cases h; done) | (simp at h; done), fun _ => ?_⟩)
            have hnb : badB xs k = false := by rw [hbad]; rfl
            refine ⟨_, inc k (by omega), ?_⟩
            exact backI (k + 1) (by omega) ⟨by omega, hok.succ hnb⟩ ⟨rfl, rfl, rfl, trivial⟩ (.refl _)
      | false =>
        refine ⟨nofun, fun _ => ?_⟩
        refine ⟨nofun, fun _ => ?_⟩
        refine ⟨k, rfl, by omega, ?_⟩
        refine ⟨_, ldR hl k 2 he rfl rfl rfl, ?_⟩
        refine ⟨fun _ => ?_, nofun⟩
        cases B with
        | none =>
          refine ⟨fun h => absurd (of_decide_eq_true h) (by simp [begI]), fun _ => ?_⟩
          have hnb : badB xs k = false := by rw [hbad]; rfl
          refine ⟨_, inc k (by omega), ?_⟩
          exact backI (k + 1) (by omega) ⟨by omega, hok.succ hnb⟩ ⟨rfl, rfl, rfl, trivial⟩ (.refl _)
        | some b =>
          refine ⟨fun _ => ?_, fun h => by simp [begI] at h⟩
          exact ⟨_, (Ent.pick []).trans own_nil, 2, none, 0, [], rfl, .inl ⟨⟨k, by rw [hbad]; rfl⟩, rfl, rfl⟩, rfl⟩
  · have hin : i = n := by have := of_decide_eq_false h; omega
    clear h hi
    subst hin
    rw [← hn] at hok
    refine loopI (σ := Nat × List Cl × Option Addr × Nat) (fun s => [(0, .slice la i cap), (4, .slice s.2.2.1 s.2.1.length s.2.2.2), (9, .int .i64 s.1)]) (fun s => [own s.2.2.1 s.2.2.2 41 9 encCl s.2.1]) (fun s => s.1 ≤ i ∧ StrB s.2.1 ∧ s.2.1.length ≤ s.2.2.2 ∧ s.2.1.length ≤ s.1 ∧ (∀ c ∈ s.2.1, c.bg < s.1) ∧ ∀ c, c ∈ s.2.1 ↔ ∃ b k, b < s.1 ∧ CallAt xs c b k) (fun s => i - s.1) (0, [], none, 0) ⟨rfl, rfl, rfl, trivial⟩ own_nil ⟨Nat.zero_le _, List.Pairwise.nil, Nat.le_refl _, Nat.le_refl _, nofun, fun c => ⟨nofun, fun ⟨b, k, h, _⟩ => by omega⟩⟩ ?_
    rintro ⟨m, ys, ya, yc⟩ ⟨hm, hst, hyc, hyl, hlt, hmem⟩
    have hm : m ≤ i := hm
    have hst : StrB ys := hst
    have hyc : ys.length ≤ yc := hyc
    have hyl : ys.length ≤ m := hyl
    have hlt : ∀ c ∈ ys, c.bg < m := hlt
    have hmem : ∀ c, c ∈ ys ↔ ∃ b k, b < m ∧ CallAt xs c b k := hmem
    refine ⟨fun h => ?_, fun h => ?_⟩
    · have hmi : m < i := by have := of_decide_eq_true h; simp at this; omega
      clear h
      obtain ⟨⟨th, act, fin, kind, size, al, ad, ra, re⟩, he⟩ : ∃ e, xs[m]? = some e := ⟨xs[m]'(by omega), by simp [show m < xs.length by omega]⟩
      obtain ⟨b1, o1, rfl⟩ := roS_at hl (by omega)
      have skip : (∀ c k, ¬ CallAt xs c m k) → ∀ c, c ∈ ys ↔ ∃ b k, b < m + 1 ∧ CallAt xs c b k := fun h c => by
        rw [hmem]
        constructor
        · rintro ⟨b, k, h1, h2⟩; exact ⟨b, k, by omega, h2⟩
        · rintro ⟨b, k, h1, h2⟩
          rcases Nat.lt_or_ge b m with h' | h'
          · exact ⟨b, k, h', h2⟩
          · obtain rfl : b = m := by omega
            exact absurd h2 (h c k)
      have hlt' : ∀ c ∈ ys, c.bg < ((m + 1 : Nat) : Int) := fun c hc => by have := hlt c hc; omega
      have hm1 := inc m hmi
      refine ⟨m, rfl, by omega, ?_⟩
      refine ⟨_, ldR hl m 2 he rfl rfl rfl, ?_⟩
      cases fin with
      | true =>
        refine ⟨fun _ => ?_, nofun⟩
        refine ⟨fun _ => ?_, nofun⟩
        refine ⟨fun _ => ?_, nofun⟩
        refine ⟨_, hm1, ?_⟩
        exact backI (m + 1, ys, ya, yc) (by show i - (m + 1) < i - m; omega) ⟨by show m + 1 ≤ i; omega, hst, hyc, by show ys.length ≤ m + 1; omega, hlt', skip fun c k ⟨e, f, h1, h2, h3, h4, h5, _⟩ => by rw [he] at h2; cases h2; cases h5⟩ ⟨rfl, rfl, rfl, trivial⟩ (.refl _)
      | false =>
        refine ⟨nofun, fun _ => ?_⟩
        refine ⟨m, rfl, by omega, ?_⟩
        refine ⟨_, ldR hl m 3 he rfl rfl rfl, ?_⟩
        refine ⟨fun h0 => ?_, fun h0 => ?_⟩
        · have h0 : kind < 0 := of_decide_eq_true h0
          refine ⟨fun _ => ?_, fun h => by first | (cases h; done) | exact absurd (of_decide_eq_false h) (by simpa using h0)⟩
          refine ⟨_, hm1, ?_⟩
          exact backI (m + 1, ys, ya, yc) (by show i - (m + 1) < i - m; omega) ⟨by show m + 1 ≤ i; omega, hst, hyc, by show ys.length ≤ m + 1; omega, hlt', skip fun c k ⟨e, f, h1, h2, h3, h4, h5, h6, h7, _⟩ => by rw [he] at h2; cases h2; exact absurd h7 (by show ¬ 0 ≤ kind; omega)⟩ ⟨rfl, rfl, rfl, trivial⟩ (.refl _)
        · have h0 : ¬ kind < 0 := of_decide_eq_false h0
          refine ⟨m, rfl, by omega, ?_⟩
          refine ⟨_, ldR hl m 3 he rfl rfl rfl, ?_⟩
          refine ⟨fun h2 => ?_, fun h2 => ?_⟩
          · have h2 : kind > 2 := of_decide_eq_true h2
            refine ⟨_, hm1, ?_⟩
            exact backI (m + 1, ys, ya, yc) (by show i - (m + 1) < i - m; omega) ⟨by show m + 1 ≤ i; omega, hst, hyc, by show ys.length ≤ m + 1; omega, hlt', skip fun c k ⟨e, f, h1, h2', h3, h4, h5, h6, h7, h8, _⟩ => by rw [he] at h2'; cases h2'; exact absurd h8 (by show ¬ kind ≤ 2; omega)⟩ ⟨rfl, rfl, rfl, trivial⟩ (.refl _)
          · have h2 : ¬ kind > 2 := of_decide_eq_false h2
            refine ⟨_, hm1, ?_⟩
            refine loopI (σ := Nat) (fun k => [(0, .slice (some ⟨b1, o1, none⟩) i cap), (4, .slice ya ys.length yc), (9, .int .i64 m), (10, .int .i64 k)]) (fun _ => [own ya yc 41 9 encCl ys]) (fun k => m < k ∧ k ≤ i ∧ ∀ j g, m < j → j < k → xs[j]? = some g → g.key ≠ (th, act)) (fun k => i - k) (m + 1) ⟨rfl, rfl, rfl, rfl, trivial⟩ (.refl _) ⟨by omega, by omega, fun j g h1 h2 => by omega⟩ ?_
            rintro k ⟨hk1, hk2, hkn⟩
            refine ⟨fun h => ?_, fun h => ?_⟩
            · have hki : k < i := by have := of_decide_eq_true h; omega
              clear h
              obtain ⟨⟨th2, act2, fin2, k2, s2, a2, d2, r2, e2⟩, hkx⟩ : ∃ e, xs[k]? = some e := ⟨xs[k]'(by omega), by simp [show k < xs.length by omega]⟩
              have next : ¬ (th2 = th ∧ act2 = act) → ∀ j g, m < j → j < k + 1 → xs[j]? = some g → g.key ≠ (th, act) := fun hne j g h1 h2 hg => by
                rcases Nat.lt_or_ge j k with h' | h'
                · exact hkn j g h1 h' hg
                · obtain rfl : j = k := by omega
                  rw [hkx] at hg; cases hg
                  exact fun h' => hne ⟨congrArg Prod.fst h', congrArg Prod.snd h'⟩
              refine Or.inl ⟨by kernel_rfl, ?_⟩
              refine ⟨k, rfl, by omega, ?_⟩
              refine ⟨_, ldR hl k 0 hkx rfl rfl rfl, ?_⟩
              refine ⟨m, rfl, by omega, ?_⟩
              refine ⟨_, ldR hl m 0 he rfl rfl rfl, ?_⟩
              refine ⟨fun h1 => ?_, fun h1 => ?_⟩
              · have h1 : th2 = th := of_decide_eq_true h1
                refine ⟨k, rfl, by omega, ?_⟩
                refine ⟨_, ldR hl k 1 hkx rfl rfl rfl, ?_⟩
                refine ⟨m, rfl, by omega, ?_⟩
                refine ⟨_, ldR hl m 1 he rfl rfl rfl, ?_⟩
                refine ⟨fun h3 => ?_, fun h3 => ?_⟩
                · have h3 : act2 = act := of_decide_eq_true h3
                  refine Or.inr (Or.inr (drawF 20 apU (apRel ya ys.length yc b1 o1 i cap m k ⟨th, m, k, kind, size, al, ad, r2, e2⟩) (by kernel_rfl) ?_ ?_))
                  · refine ⟨?_, ?_, ?_, ?_, ?_, ?_, ?_, ?_, ?_, ?_, ?_, ?_, ?_, ?_, ?_, ?_, ?_, ?_, ?_, ?_, trivial⟩
                    · intro w S hR; exact ⟨[], ⟨rfl, rfl⟩, .refl _⟩
                    · intro w S hR; exact ⟨[], ⟨rfl, rfl⟩, .refl _⟩
                    · intro w S hR; exact ⟨[], ⟨rfl, rfl⟩, .refl _⟩
                    · intro w S hR; rintro _ _ ⟨rfl, rfl⟩; rintro _ _ ⟨rfl, rfl⟩; refine ⟨m, rfl, by omega, ?_⟩; exact ⟨[], ⟨rfl, rfl⟩, .refl _⟩
                    · intro w S hR; rintro _ _ ⟨rfl, rfl⟩; rintro _ _ ⟨rfl, rfl⟩; rintro _ _ ⟨rfl, rfl⟩; exact ⟨[], ⟨rfl, rfl⟩, .refl _⟩
                    · intro w S hR; rintro _ _ ⟨rfl, rfl⟩; rintro _ _ ⟨rfl, rfl⟩; rintro _ _ ⟨rfl, rfl⟩; rintro _ _ ⟨rfl, rfl⟩; refine ⟨_, ldR (hR _ hl) m 0 he rfl rfl (by show _ = o1 + (m * 9 + 0); omega), ?_⟩; exact ⟨[], ⟨rfl, rfl⟩, .refl _⟩
                    · intro w S hR; exact ⟨[], ⟨rfl, rfl⟩, .refl _⟩
                    · intro w S hR; exact ⟨[], ⟨rfl, rfl⟩, .refl _⟩
                    · intro w S hR; rintro _ _ ⟨rfl, rfl⟩; rintro _ _ ⟨rfl, rfl⟩; refine ⟨m, rfl, by omega, ?_⟩; exact ⟨[], ⟨rfl, rfl⟩, .refl _⟩
                    · intro w S hR; rintro _ _ ⟨rfl, rfl⟩; rintro _ _ ⟨rfl, rfl⟩; rintro _ _ ⟨rfl, rfl⟩; exact ⟨[], ⟨rfl, rfl⟩, .refl _⟩
                    · intro w S hR; rintro _ _ ⟨rfl, rfl⟩; rintro _ _ ⟨rfl, rfl⟩; rintro _ _ ⟨rfl, rfl⟩; rintro _ _ ⟨rfl, rfl⟩; refine ⟨_, ldRB (hR _ hl) m 3 he rfl rfl rfl rfl (by omega), ?_⟩; exact ⟨[], ⟨rfl, rfl⟩, .refl _⟩
                    · intro w S hR; exact ⟨[], ⟨rfl, rfl⟩, .refl _⟩
                    · intro w S hR; exact ⟨[], ⟨rfl, rfl⟩, .refl _⟩
                    · intro w S hR; rintro _ _ ⟨rfl, rfl⟩; rintro _ _ ⟨rfl, rfl⟩; refine ⟨k, rfl, by omega, ?_⟩; exact ⟨[], ⟨rfl, rfl⟩, .refl _⟩
                    · intro w S hR; rintro _ _ ⟨rfl, rfl⟩; rintro _ _ ⟨rfl, rfl⟩; rintro _ _ ⟨rfl, rfl⟩; exact ⟨[], ⟨rfl, rfl⟩, .refl _⟩
                    · intro w S hR; rintro _ _ ⟨rfl, rfl⟩; rintro _ _ ⟨rfl, rfl⟩; rintro _ _ ⟨rfl, rfl⟩; rintro _ _ ⟨rfl, rfl⟩; refine ⟨_, ldRB (hR _ hl) k 7 hkx rfl rfl rfl rfl (by omega), ?_⟩; exact ⟨[], ⟨rfl, rfl⟩, .refl _⟩
                    · intro w S hR; exact ⟨[], ⟨rfl, rfl⟩, .refl _⟩
                    · intro w S hR; exact ⟨[], ⟨rfl, rfl⟩, .refl _⟩
                    · intro w S hR; rintro _ _ ⟨rfl, rfl⟩; rintro _ _ ⟨rfl, rfl⟩; rintro _ _ ⟨rfl, rfl⟩; rintro _ _ ⟨rfl, rfl⟩; rintro _ _ ⟨rfl, rfl⟩; rintro _ _ ⟨rfl, rfl⟩; rintro _ _ ⟨rfl, rfl⟩; rintro _ _ ⟨rfl, rfl⟩; rintro _ _ ⟨rfl, rfl⟩; rintro _ _ ⟨rfl, rfl⟩; rintro _ _ ⟨rfl, rfl⟩; rintro _ _ ⟨rfl, rfl⟩; rintro _ _ ⟨rfl, rfl⟩; rintro _ _ ⟨rfl, rfl⟩; rintro _ _ ⟨rfl, rfl⟩; rintro _ _ ⟨rfl, rfl⟩; rintro _ _ ⟨rfl, rfl⟩; repeat (refine ⟨rfl, Nat.le_of_ble_eq_true rfl, ?_⟩)
                      exact ⟨[], ⟨rfl, rfl⟩, .refl _⟩
                    · intro w S hR; rintro _ _ ⟨rfl, rfl⟩; rintro _ _ ⟨rfl, rfl⟩; rintro _ _ ⟨rfl, rfl⟩; rintro _ _ ⟨rfl, rfl⟩; rintro _ _ ⟨rfl, rfl⟩; rintro _ _ ⟨rfl, rfl⟩; rintro _ _ ⟨rfl, rfl⟩; rintro _ _ ⟨rfl, rfl⟩; rintro _ _ ⟨rfl, rfl⟩; rintro _ _ ⟨rfl, rfl⟩; rintro _ _ ⟨rfl, rfl⟩; rintro _ _ ⟨rfl, rfl⟩; rintro _ _ ⟨rfl, rfl⟩; rintro _ _ ⟨rfl, rfl⟩; rintro _ _ ⟨rfl, rfl⟩; rintro _ _ ⟨rfl, rfl⟩; rintro _ _ ⟨rfl, rfl⟩; rintro _ _ ⟨rfl, rfl⟩; refine bldS (encCl ⟨0, 0, 0, 0, 0, 0, 0, 0, 0⟩) rfl rfl rfl rfl rfl (by kernel_rfl) rfl fun vb => ?_
                      exact ⟨_, ⟨vb, rfl, rfl⟩, .refl _⟩
                  rintro _ _ ⟨rfl, rfl⟩; rintro _ _ ⟨rfl, rfl⟩; rintro _ _ ⟨rfl, rfl⟩; rintro _ _ ⟨rfl, rfl⟩; rintro _ _ ⟨rfl, rfl⟩; rintro _ _ ⟨rfl, rfl⟩; rintro _ _ ⟨rfl, rfl⟩; rintro _ _ ⟨rfl, rfl⟩; rintro _ _ ⟨rfl, rfl⟩; rintro _ _ ⟨rfl, rfl⟩; rintro _ _ ⟨rfl, rfl⟩; rintro _ _ ⟨rfl, rfl⟩; rintro _ _ ⟨rfl, rfl⟩; rintro _ _ ⟨rfl, rfl⟩; rintro _ _ ⟨rfl, rfl⟩; rintro _ _ ⟨rfl, rfl⟩; rintro _ _ ⟨rfl, rfl⟩; rintro _ _ ⟨rfl, rfl⟩; rintro _ _ ⟨rfl, rfl⟩; rintro _ _ ⟨vb, rfl, rfl⟩
                  refine appO 1 0 ⟨th, m, k, kind, size, al, ad, r2, e2⟩ rfl rfl rfl rfl rfl (by decide) rfl rfl rfl rfl rfl rfl (by show ys.length + 1 ≤ 2 ^ 31; omega) (by decide) fun g' cap' hcap' => ?_
                  refine ⟨_, hm1, ?_⟩
                  have hcall : CallAt xs ⟨th, m, k, kind, size, al, ad, r2, e2⟩ m k := ⟨_, _, hk1, he, hkx, by show (th2, act2) = (th, act); rw [h1, h3], rfl, hkn, by show 0 ≤ kind; omega, by show kind ≤ 2; omega, rfl⟩
                  exact backI (m + 1, ys ++ [⟨th, m, k, kind, size, al, ad, r2, e2⟩], some ⟨g', 0, none⟩, cap') (by show i - (m + 1) < i - m; omega) ⟨by show m + 1 ≤ i; omega, by
                    show StrB (ys ++ [_])
                    refine List.pairwise_append.2 ⟨hst, List.pairwise_singleton _ _, fun x hx y hy => ?_⟩
                    rw [List.mem_singleton] at hy; subst hy
                    exact hlt x hx, by show (ys ++ [_]).length ≤ cap'; simpa using hcap', by show (ys ++ [_]).length ≤ m + 1; simp; omega, fun c hc => by
                    have hc : c ∈ ys ++ [_] := hc
                    rcases List.mem_append.1 hc with hc | hc
                    · exact hlt' c hc
                    · rw [List.mem_singleton] at hc; subst hc
                      show (m : Int) < ((m + 1 : Nat) : Int)
                      omega, fun c => by
                    show c ∈ ys ++ [_] ↔ ∃ b k, b < m + 1 ∧ CallAt xs c b k
                    rw [List.mem_append, List.mem_singleton, hmem]
                    constructor
                    · rintro (⟨b, k', h1, h2⟩ | rfl)
                      · exact ⟨b, k', by omega, h2⟩
                      · exact ⟨m, k, by omega, hcall⟩
                    · rintro ⟨b, k', h1, h2⟩
                      rcases Nat.lt_or_ge b m with h' | h'
                      · exact .inl ⟨b, k', h', h2⟩
                      · obtain rfl : b = m := by omega
                        exact .inr (h2.fun1 hcall).2⟩ ⟨rfl, by show _ = some (Value.slice _ (ys ++ [_]).length _); rw [List.length_append]; rfl, rfl, trivial⟩ (Ent.pick [1])
                · have h3 : ¬ act2 = act := of_decide_eq_false h3
                  refine ⟨_, inc k hki, ?_⟩
                  exact backI (k + 1) (by omega) ⟨by omega, by omega, next fun h => h3 h.2⟩ ⟨rfl, rfl, rfl, rfl, trivial⟩ (.refl _)
              · have h1 : ¬ th2 = th := of_decide_eq_false h1
                refine ⟨nofun, fun _ => ?_⟩
                refine ⟨_, inc k hki, ?_⟩
                exact backI (k + 1) (by omega) ⟨by omega, by omega, next fun h => h1 h.1⟩ ⟨rfl, rfl, rfl, rfl, trivial⟩ (.refl _)
            · have hki : k = i := by have := of_decide_eq_false h; omega
              refine ⟨_, hm1, ?_⟩
              exact backI (m + 1, ys, ya, yc) (by show i - (m + 1) < i - m; omega) ⟨by show m + 1 ≤ i; omega, hst, hyc, by show ys.length ≤ m + 1; omega, hlt', skip fun c k' ⟨e, f, h1, h2', h3, h4, h5, h6, h7, h8, _⟩ => by
                rw [he] at h2'; cases h2'
                exact hkn k' f h1 (by have := (List.getElem?_eq_some_iff.1 h3).1; omega) h3 h4⟩ ⟨rfl, rfl, rfl, trivial⟩ (.refl _)
    · have hmi : m = i := by have := of_decide_eq_false h; simp at this; omega
      subst hmi
      exact ⟨_, .refl _, 0, ya, yc, ys, rfl, .inr ⟨hok.all, rfl, hst, fun c => (hmem c).trans ⟨fun ⟨b, k, _, h⟩ => ⟨b, k, h⟩, fun ⟨b, k, h⟩ => ⟨b, k, by have := h.bg; omega, h⟩⟩⟩, rfl⟩
end Go.Proofs.YtfebaopjfmpfkaaDoor
