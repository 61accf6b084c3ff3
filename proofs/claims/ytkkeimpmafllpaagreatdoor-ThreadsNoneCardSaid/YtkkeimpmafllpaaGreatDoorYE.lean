/- The evaluator: the keys of a map, collected (in whatever order) and sorted. -/
import Derived.Test.YtkkeimpmafllpaaGreatDoorYD
import Derived.Lib.SlKeysI
import Derived.Maps.Own
import Derived.WideShapes
import Derived.Test.YtkkeimpmafllpaaGreatDoorXB
import Derived.ChangeKeysEq
import Derived.ChangeArms
import Derived.WalkKit
import Derived.ProofKit
namespace Go.Y
open Go.X (TK TyI Fr FP Tab TabOk CtxOk)
open Go.RowKit Go.ChangeMaps Go.MapKept
set_option linter.unusedVariables false
set_option linter.unusedSimpArgs false
set_option linter.constructorNameAsVariable false
set_option linter.unusedSectionVars false

/-! ### sorted lists -/
theorem insI_perm (x : Int) : ∀ l : List Int, (insI x l).Perm (x :: l)
  | [] => .refl _
  | y :: l => by
    show (match iblt y x with | true => y :: insI x l | false => x :: y :: l).Perm _
    cases iblt y x with
    | true => exact ((insI_perm x l).cons y).trans (.swap x y l)
    | false => exact .refl _
theorem sortI_perm : ∀ l : List Int, (sortI l).Perm l
  | [] => .refl _
  | x :: l => (insI_perm x _).trans ((sortI_perm l).cons x)
theorem insI_sorted (x : Int) : ∀ {l : List Int}, l.Pairwise (· ≤ ·) → (insI x l).Pairwise (· ≤ ·)
  | [], _ => List.pairwise_singleton _ _
  | y :: l, h => by
    show List.Pairwise (· ≤ ·) (match iblt y x with | true => y :: insI x l | false => x :: y :: l)
    rw [List.pairwise_cons] at h
    cases hb : iblt y x with
    | true =>
      rw [iblt_eq, decide_eq_true_iff] at hb
      refine List.pairwise_cons.2 ⟨fun z hz => ?_, insI_sorted x h.2⟩
      rcases List.mem_cons.1 ((insI_perm x l).mem_iff.1 hz) with rfl | hz
      · omega
      · exact h.1 z hz
    | false =>
      rw [iblt_eq, decide_eq_false_iff_not] at hb
      refine List.pairwise_cons.2 ⟨fun z hz => ?_, List.pairwise_cons.2 h⟩
      rcases List.mem_cons.1 hz with rfl | hz
      · omega
      · have := h.1 z hz; omega
theorem sortI_sorted : ∀ l : List Int, (sortI l).Pairwise (· ≤ ·)
  | [] => .nil
  | x :: l => insI_sorted x (sortI_sorted l)
theorem sorted_one : ∀ {l l' : List Int}, l.Pairwise (· ≤ ·) → l'.Pairwise (· ≤ ·) → l.Perm l' → l = l'
  | [], l', _, _, hp => (List.nil_perm.1 hp).symm
  | a :: l, [], _, _, hp => by have := hp.length_eq; simp at this
  | a :: l, b :: l', h, h', hp => by
    rw [List.pairwise_cons] at h h'
    have h1 : a ∈ b :: l' := hp.mem_iff.1 (by simp)
    have h2 : b ∈ a :: l := hp.mem_iff.2 (by simp)
    have hab : a = b := by
      rcases List.mem_cons.1 h1 with rfl | h1
      · rfl
      · rcases List.mem_cons.1 h2 with rfl | h2
        · rfl
        · have := h.1 b h2; have := h'.1 a h1; omega
    subst hab
    rw [sorted_one h.2 h'.2 ((List.perm_cons _).1 hp)]
theorem merge_sortI {ss ks : List Int} (h : ss.Perm ks) : ss.mergeSort (fun x y => decide (x ≤ y)) = sortI ks := by
  refine sorted_one ?_ (sortI_sorted ks) ((List.mergeSort_perm ss _).trans (h.trans (sortI_perm ks).symm))
  have := List.pairwise_mergeSort (le := fun a b : Int => decide (a ≤ b)) (fun a b c h1 h2 => by simp at *; omega) (fun a b => by simp; omega) ss
  exact this.imp fun h => by simpa using h
/-! ### what the keys are -/
theorem distB_nodup : ∀ {l : List Nat}, distB l = true → l.Nodup
  | [], _ => List.nodup_nil
  | x :: l, h => by
    have h : (match mem x l with | true => false | false => distB l) = true := h
    cases hm : mem x l with
    | true => rw [hm] at h; cases h
    | false =>
      rw [hm] at h
      rw [mem_eq, List.contains_eq_mem, decide_eq_false_iff_not] at hm
      exact List.nodup_cons.2 ⟨hm, distB_nodup h⟩
theorem distI_nodup : ∀ {l : List Int}, distI l = true → l.Nodup
  | [], _ => List.nodup_nil
  | x :: l, h => by
    have h : (match allB (fun y => !ibeq x y) l with | true => distI l | false => false) = true := h
    cases hm : allB (fun y => !ibeq x y) l with
    | false => rw [hm] at h; cases h
    | true =>
      rw [hm] at h
      refine List.nodup_cons.2 ⟨fun hx => ?_, distI_nodup h⟩
      have := allB_spec hm x hx
      rw [ibeq_eq] at this
      simp at this
theorem borns_eq : ∀ es : List (AV × AV × Nat), borns es = es.map (·.2.2)
  | [] => rfl
  | x :: es => by
    show x.2.2 :: borns es = _
    rw [borns_eq es]; rfl
theorem keysI_some : ∀ {es : List (AV × AV × Nat)} {ks : List Int}, keysI es = some ks → es.map (·.1) = ks.map fun k => AV.int .i64 k
  | [], ks, h => by cases h; rfl
  | x :: es, ks, h => by
    have h : (match x.1 with
      | .int .i64 n => ob (keysI es) fun l => some (n :: l)
      | _ => none) = some ks := h
    split at h
    · rename_i n hx
      obtain ⟨l, h1, h2⟩ := ob_some h
      cases h2
      rw [List.map_cons, List.map_cons, hx, keysI_some h1]
    · cases h
theorem intsA_eq : ∀ l : List Int, intsA l = l.map fun k => AV.int .i64 k
  | [] => rfl
  | x :: l => by
    show AV.int .i64 x :: intsA l = _
    rw [intsA_eq l]; rfl
theorem EsR.keys {ρ : Rho} : ∀ {es : List (AV × AV × Nat)} {l : List MapEntry} {ks : List Int}, EsR ρ es l → es.map (·.1) = ks.map (fun k => AV.int .i64 k) → l.map (·.key) = ks.map (fun k => Value.int .i64 k) ∧ l.map (·.born) = es.map (·.2.2)
  | [], l, ks, h, hk => by
    have : l = [] := h
    subst this
    cases ks with
    | nil => exact ⟨rfl, rfl⟩
    | cons => simp at hk
  | x :: es, l, ks, h, hk => by
    obtain ⟨e, l', rfl, h1, h2, h3, h4⟩ := h
    cases ks with
    | nil => simp at hk
    | cons k ks =>
      rw [List.map_cons, List.map_cons, List.cons.injEq] at hk
      obtain ⟨i1, i2⟩ := EsR.keys h4 hk.2
      rw [hk.1] at h1
      simp only [VR] at h1
      rw [List.map_cons, List.map_cons, List.map_cons, List.map_cons, i1, i2, h1, h3]
      exact ⟨rfl, rfl⟩
def rAny (_ : Value) : Option (DataW Unit × List MemPlace) := some (.lit (.bool false), [])
/-- The map at a block has the keys, and no others. -/
theorem ownsMap_keys {P : Program} {kt : TypeId} (hkt : P.underlying kt = some (.int .i64)) {w : World} {b clock : Nat} {es : List MapEntry} {ks : List Int} (hb : w.heap[b]? = some (.map es.toArray clock)) (hk : es.map (·.key) = ks.map fun k => Value.int .i64 k) (hlt : ∀ x ∈ es.map (·.born), x < clock) (hnd : (es.map (·.born)).Nodup) (hks : ks.Nodup)
    (hr : ∀ k ∈ ks, -9223372036854775808 ≤ k ∧ k ≤ 9223372036854775807) (hlen : ks.length ≤ 4096) : ∃ D : DataW Unit, w.ownsMap P kt rAny b ks.length D ∧ (Go.intKeys D).Perm ks ∧ Maps.size D = ks.length := by
  have hsz : es.length = ks.length := by have := congrArg List.length hk; simpa using this
  have hkey : ∀ x ∈ es, ∃ k ∈ ks, x.key = .int .i64 k := fun x hx => by
    have : x.key ∈ es.map (·.key) := List.mem_map.2 ⟨x, hx, rfl⟩
    rw [hk] at this
    obtain ⟨k, hk1, hk2⟩ := List.mem_map.1 this
    exact ⟨k, hk1, hk2.symm⟩
  have hkof : ∀ k ∈ ks, keyOf P kt (.int .i64 k) = some (.int .i64 k) := fun k hk => by
    have := hr k hk
    have hwf : (Lit.int .i64 k).wf = true := by
      have h1 : IntKind.i64.min = -9223372036854775808 := rfl
      have h2 : IntKind.i64.max = 9223372036854775807 := rfl
      simp only [Lit.wf, h1, h2, Bool.and_eq_true, decide_eq_true_eq]
      omega
    simp [keyOf, hkt, mapKey, hwf]
  have hrd : ∀ (x : MapEntry) (k : Int), k ∈ ks → x.key = .int .i64 k → WideElems.rd (H := Unit) P kt rAny x = some (.int .i64 k, .lit (.bool false)) := fun x k hk hx => by
    unfold WideElems.rd
    rw [hx, hkof k hk]; rfl
  have hst : Stamped es.toArray clock := by
    refine ⟨fun x hx => hlt x.born (List.mem_map.2 ⟨x, by simpa using hx, rfl⟩), by simpa using hnd, ?_⟩
    rw [show es.toArray.toList = es by simp, hk]
    exact List.Pairwise.map _ (fun a b hab h => hab (by cases h; rfl)) hks
  refine ⟨_, ⟨es.toArray, clock, hb, ⟨by unfold maxLen; simp; omega, hst, fun x hx => ?_⟩, by simp; omega, rfl⟩, ?_, ?_⟩
  · obtain ⟨k, hk1, hk2⟩ := hkey x (by simpa using hx)
    exact ⟨_, hrd x k hk1 hk2⟩
  · show (((es.toArray.toList.map (WideElems.rg P kt rAny)).foldr DataW.insert []).map fun p => Go.intOf p.1).Perm _
    refine ((WideShapes.sorted_perm _).map _).trans ?_
    rw [List.map_map]
    have key : ∀ (l : List MapEntry) (N : List Int), (∀ k ∈ N, k ∈ ks) → l.map (·.key) = N.map (fun k => Value.int .i64 k) → l.map ((fun p : Lit × DataW Unit => Go.intOf p.1) ∘ WideElems.rg P kt rAny) = N := by
      intro l
      induction l with
      | nil => intro N _ h; cases N with | nil => rfl | cons => simp at h
      | cons x l ih =>
        intro N hN h
        cases N with
        | nil => simp at h
        | cons p N =>
          simp only [List.map_cons, List.cons.injEq] at h ⊢
          refine ⟨?_, ih N (fun q hq => hN q (by simp [hq])) h.2⟩
          simp only [Function.comp, WideElems.rg, hrd x p (hN p (by simp)) h.1]
          rfl
    rw [key es.toArray.toList ks (fun k hk => hk) (by simpa using hk)]
  · show ((es.toArray.toList.map (WideElems.rg P kt rAny)).foldr DataW.insert []).length = _
    rw [DataW.length_sorted]
    simp [hsz]
/-- What is asked of a function that collects the keys of a map. -/
structure CollectC (P : Program) (f : FuncId) (kt ti : TypeId) (kf : List Nat) (S : List Int → List Int) : Prop where
  kty : P.underlying kt = some (.int .i64)
  fn : Go.X.FnOk P f
  run : ∀ k ∈ kf, ∀ (r mb nn : Nat) (D : DataW Unit) (w : World), r < w.heap.size → w.cell? ⟨r, 0, none⟩ = some (.map (some mb)) → w.ownsMap P kt rAny mb nn D → Maps.size D ≤ 4096 →
    Calls P f #[.func (.func k) #[] #[.pointer (some ⟨r, 0, none⟩)]] w fun e w' => ∃ (v : Value) (ss : List Int), e = .returned v ∧ ss.Perm (Go.intKeys D) ∧ w'.ownsRow w.heap.size ti 1 v ss.length ((S ss).map fun x => Value.int .i64 x) ∧ (v = .slice none 0 0 ↔ ss = []) ∧ Below w.heap.size w w'
theorem below_fr {w w' : World} (h : Below w.heap.size w w') : Fr w (fun _ => False) w' := ⟨h.os, h.tape, h.output, h.size, fun b hb _ => h.block b hb⟩
theorem spKeys_some {f : Nat → Option AObj} {kf : List Nat} {vs : List AV} {ks : List Int} (h : spKeys f kf vs = some ks) : ∃ k b c i es clock, vs = [.fn k [] [.ptr b 0]] ∧ k ∈ kf ∧ f b = some (.cells c [.map i] false) ∧ f i = some (.map es clock) ∧ keysI es = some ks ∧ (∀ x ∈ borns es, x < clock) ∧ (borns es).Nodup ∧ ks.Nodup ∧ (∀ k ∈ ks, -9223372036854775808 ≤ k ∧ k ≤ 9223372036854775807) ∧ ks.length ≤ 4096 := by
  unfold spKeys at h
  split at h
  · rename_i k b
    obtain ⟨h1, h⟩ := chk_some h
    obtain ⟨⟨ct, cl, cf⟩, h2, h⟩ := ob_some h
    obtain ⟨h3, h⟩ := chk_some h
    simp only at h3 h
    have hcl : ∃ i, cl = [.map i] := by
      split at h
      · exact ⟨_, rfl⟩
      · cases h
    obtain ⟨i, rfl⟩ := hcl
    obtain ⟨⟨es, clock⟩, h4, h⟩ := ob_some h
    obtain ⟨ks', h5, h⟩ := ob_some h
    obtain ⟨h6, h⟩ := chk_some h
    cases h
    simp only [Bool.and_eq_true] at h6
    obtain ⟨⟨⟨⟨c1, c2⟩, c3⟩, c4⟩, c5⟩ := h6
    have hcf : cf = false := by simpa using h3
    subst hcf
    rw [mem_eq, List.contains_eq_mem, decide_eq_true_iff] at h1
    refine ⟨k, b, ct, i, es, clock, rfl, h1, cellsOf_some h2, mapOf_some h4, h5, fun x hx => ?_, distB_nodup c2, distI_nodup c3, fun k hk => ?_, ?_⟩
    · have := allB_spec c1 x hx
      rwa [nblt, decide_eq_true_iff] at this
    · have := allB_spec c4 k hk
      rw [iblt_eq, iblt_eq, Bool.and_eq_true, Bool.not_eq_true', Bool.not_eq_true', decide_eq_false_iff_not, decide_eq_false_iff_not] at this
      omega
    · have := Nat.le_of_ble_eq_true c5
      rwa [len_eq] at this
  · cases h
section
variable {P : Program} {g : Gl} {f : FuncId} {kt ti : TypeId} {kf : List Nat} {S : List Int → List Int}
theorem collect_run (hc : CollectC P f kt ti kf S) {ks : List Int} {vs : List AV} {m : Mem} {w0 : Base} {ρ : Rho} {w : World} {us : List Value} (h : spKeys m.t.get kf vs = some ks) (hv : VRL ρ vs us) (hm : MR ρ m.t.get w0 w) :
    Calls P f ⟨us⟩ w fun e w' => ∃ (v : Value) (ss : List Int), e = .returned v ∧ ss.Perm ks ∧ w'.ownsRow w.heap.size ti 1 v ss.length ((S ss).map fun x => Value.int .i64 x) ∧ (v = .slice none 0 0 ↔ ss = []) ∧ Fr w (fun _ => False) w' := by
  obtain ⟨k, b, c, i, es, clock, rfl, h1, h2, h3, h4, h5, h6, h7, h8, h9⟩ := spKeys_some h
  have hv' : VRL ρ [.fn k [] [.ptr b 0]] us := hv
  simp only [VRL, VR] at hv'
  obtain ⟨u, l', rfl, ⟨p', q', rfl, hp, v2, l2, rfl, ⟨x, hx, rfl⟩, rfl⟩, rfl⟩ := hv'
  subst hp
  obtain ⟨y, b1, ⟨cs, b2, b3, b4, b5, b6⟩, b7⟩ := hm.at' b _ h2 trivial
  rw [hx] at b1; cases b1
  obtain ⟨d0, dN⟩ := b6 rfl
  rw [d0] at b4 b5
  simp only [List.length_cons, List.length_nil] at b4 b5 dN
  have hcs : ∃ z, ρ i = some z ∧ cs = [.map (some z.b)] := by
    cases cs with
    | nil => simp at b3; omega
    | cons v0 cs =>
      simp only [List.drop_zero, List.take_succ_cons, List.take_zero, VRL, VR] at b5
      obtain ⟨_, _, e1, ⟨z, e2, e3⟩, e4⟩ := b5
      cases e1
      cases cs with
      | nil => exact ⟨z, e2, by rw [e3]⟩
      | cons => simp at b3; omega
  obtain ⟨z, hz, rfl⟩ := hcs
  obtain ⟨z', c1, ⟨es', c2, c3⟩, c4⟩ := hm.at' i _ h3 trivial
  rw [hz] at c1; cases c1
  obtain ⟨k1, k2⟩ := EsR.keys c3 (keysI_some h4)
  rw [borns_eq, ← k2] at h5 h6
  obtain ⟨D, hown, hperm, hsize⟩ := ownsMap_keys hc.kty c2 k1 h5 h6 h7 h8 h9
  have hlt : x.b < w.heap.size := (Array.getElem?_eq_some_iff.1 b2).1
  have hrun := hc.run k h1 x.b z.b ks.length D w hlt (by simp [World.cell?, b2]) hown (by omega)
  have e0 : (⟨[Value.func (.func k) ⟨[]⟩ ⟨[.pointer (some ⟨x.b, x.d + 0, none⟩)]⟩]⟩ : Array Value) = #[.func (.func k) #[] #[.pointer (some ⟨x.b, 0, none⟩)]] := by rw [d0]
  rw [e0]
  refine hrun.mono ?_
  rintro _ w' ⟨v, ss, rfl, q1, q2, q3, q4⟩
  exact ⟨v, ss, rfl, q1.trans hperm, q2, q3, below_fr q4⟩
theorem vrl_ints {ρ : Rho} : ∀ l : List Int, VRL ρ (intsA l) (l.map fun x => Value.int .i64 x)
  | [] => .nil
  | x :: l => by
    show VRL ρ (AV.int .i64 x :: intsA l) (Value.int .i64 x :: l.map fun x => Value.int .i64 x)
    exact .cons (by simp [VR]) (vrl_ints l)
/-- What comes of it: nothing, or a new row. -/
theorem row_done {m : Mem} {w0 : Base} {ρ : Rho} {w w' : World} {v : Value} {n : Nat} {x : Int} {l : List Int} (hm : MR ρ m.t.get w0 w) (hfr : Fr w (fun _ => False) w') (hfree : ρ m.n = none) (hlen : n = (x :: l).length) (hr : w'.ownsRow w.heap.size ti 1 v n ((x :: l).map fun x => Value.int .i64 x)) :
    ∃ ρ', ρ.le ρ' ∧ VR ρ' (.su m.n 0 (x :: l).length 1) v ∧ MR ρ' (putNew m (some (.cells ti (intsA (x :: l)) true))).t.get w0 w' ∧ Ext ρ ρ' m.n (m.n + 1) := by
  subst hlen
  obtain ⟨hr1, hr⟩ := hr
  rcases hr with ⟨_, hz⟩ | ⟨gb, cap, cur, rfl, hg, hb, h1, h2, h3, h4⟩
  · simp at hz
  · have hia : (intsA (x :: l)).length = (x :: l).length := by rw [intsA_eq, List.length_map]
    refine ⟨ρ.set m.n ⟨gb, 0, cap⟩, Rho.le_set hfree, ?_, ?_, ?_⟩
    · simp only [VR]
      exact ⟨_, _, cap, Rho.set_at, rfl, h1, by simp, fun _ => rfl⟩
    · have hnew := hm.new (o := .cells ti (intsA (x :: l)) true) (x := ⟨gb, 0, cap⟩) hfree hfr hg ⟨cur.toList, by simpa using hb, by simp only [Array.length_toList]; omega, by rw [hia]; simp only; omega, ?_, fun h => by cases h⟩
      · refine hnew.eq fun i => ?_
        show (nat1 (m.n + 1) fun n => (⟨n, m.t.set (.cells ti (intsA (x :: l)) true) m.n, m.lw⟩ : Mem)).t.get i = _
        rw [nat1_eq]
        show (m.t.set _ m.n).get i = _
        rw [T.get_set]; rfl
      · rw [List.drop_zero, hia]
        rw [Nat.mul_one] at h4
        rw [h4]
        exact (vrl_ints (x :: l)).mono (fun i y h => h)
    · intro i hi
      unfold Rho.set at hi
      split at hi
      · rename_i he; subst he; exact .inr ⟨Nat.le_refl _, Nat.lt_succ_self _⟩
      · exact .inl hi
theorem putNew_fm (m : Mem) (o : AObj) : Fm m (putNew m (some o)) := by
  have := doLR_fm (m := m) (r := ⟨.pnil, none, some o⟩) (fun y h => by cases h)
  exact this
theorem putNew_n (m : Mem) (o : AObj) : (putNew m (some o)).n = m.n + 1 := by
  show (nat1 (m.n + 1) fun n => (⟨n, m.t.set o m.n, m.lw⟩ : Mem)).n = _
  rw [nat1_eq]
theorem sorted_sp (hc : CollectC P f kt ti kf fun ss => ss.mergeSort fun x y => decide (x ≤ y)) : SpR P g f (spSorted ti kf) := by
  refine ⟨fun vs m v m' h hw => ?_, fun vs m v m' h hwm w0 ρ w us hg hv hm hfree => ⟨hc.fn, ?_⟩⟩
  · obtain ⟨ks, h1, h⟩ := ob_some h
    split at h
    · cases h; exact .refl m
    · obtain ⟨_, h⟩ := chk_some h
      obtain ⟨_, _, h⟩ := ob_some h
      cases h; exact putNew_fm m _
  · obtain ⟨ks, h1, h⟩ := ob_some h
    refine (collect_run hc h1 hv hm).mono ?_
    rintro _ w' ⟨u, ss, rfl, q1, q2, q3, q4⟩
    rw [merge_sortI q1] at q2
    have hl : ss.length = (sortI ks).length := (q1.trans (sortI_perm ks).symm).length_eq
    split at h
    · rename_i hs
      cases h
      rw [hs] at hl
      have hss : ss = [] := List.eq_nil_of_length_eq_zero (by simpa using hl)
      exact ⟨u, ρ, rfl, .refl ρ, by simp only [VR]; exact q3.2 hss, hm.quiet q4, .refl _ _ _⟩
    · rename_i x l hs
      obtain ⟨_, h⟩ := chk_some h
      obtain ⟨v', h2, h⟩ := ob_some h
      cases h
      simp only [mkSu, nat1_eq] at h2
      cases h2
      rw [hs] at hl q2
      rw [putNew_n] at hfree
      obtain ⟨ρ', r1, r2, r3, r4⟩ := row_done hm q4 (hfree m.n (Nat.le_refl _) (Nat.lt_succ_self _)) hl q2
      exact ⟨u, ρ', rfl, r1, by rw [len_eq]; exact r2, r3, by rw [putNew_n]; exact r4⟩
theorem collect_sp (hc : CollectC P f kt ti kf fun ss => ss) : SpR P g f (spCollect ti kf) := by
  refine ⟨fun vs m v m' h hw => ?_, fun vs m v m' h hwm w0 ρ w us hg hv hm hfree => ⟨hc.fn, ?_⟩⟩
  · obtain ⟨ks, h1, h⟩ := ob_some h
    split at h
    · cases h; exact .refl m
    · cases h; exact putNew_fm m _
    · cases h
  · obtain ⟨ks, h1, h⟩ := ob_some h
    refine (collect_run hc h1 hv hm).mono ?_
    rintro _ w' ⟨u, ss, rfl, q1, q2, q3, q4⟩
    split at h
    · cases h
      exact ⟨u, ρ, rfl, .refl ρ, by simp only [VR]; exact q3.2 (List.Perm.eq_nil q1), hm.quiet q4, .refl _ _ _⟩
    · rename_i x
      cases h
      obtain rfl := List.Perm.eq_singleton q1
      rw [putNew_n] at hfree
      obtain ⟨ρ', r1, r2, r3, r4⟩ := row_done hm q4 (hfree m.n (Nat.le_refl _) (Nat.lt_succ_self _)) rfl q2
      exact ⟨u, ρ', rfl, r1, r2, r3, by rw [putNew_n]; exact r4⟩
    · cases h
end
end Go.Y

/- The evaluator: facts of types, easily laid. -/
namespace Go.Y
open Go.X (TK TyI Tab)
set_option linter.unusedVariables false
set_option linter.constructorNameAsVariable false
def plainV : AV → Option Value
  | .bool b => some (.bool b)
  | .int k n => some (.int k n)
  | .str s => some (.string s)
  | .pnil => some (.pointer none)
  | .snil => some (.slice none 0 0)
  | .mnil => some (.map none)
  | .fnil => some .nilFunc
  | .inil => some .nilIface
  | _ => none
theorem plainV_vr {ρ : Rho} {a : AV} {v : Value} (h : plainV a = some v) : VR ρ a v := by
  cases a <;> simp only [plainV] at h <;> first | (cases h; done) | (cases h; simp only [VR])
theorem plain_vrl {ρ : Rho} : ∀ {l : List AV} {l' : List Value}, l.map plainV = l'.map some → VRL ρ l l'
  | [], [], _ => .nil
  | [], _ :: _, h => by simp at h
  | _ :: _, [], h => by simp at h
  | a :: l, v :: l', h => by
    rw [List.map_cons, List.map_cons, List.cons.injEq] at h
    exact .cons (plainV_vr h.1) (plain_vrl h.2)
theorem TyR.agg {P : Program} {tab : Tab} {t : TypeId} {y : Ty} {b : Nat} {zero : List Value} (h1 : Go.X.tget tab t = some ⟨y.k, y.size, b, zero⟩) (h2 : y.zero.map plainV = zero.map some) (h3 : b ≤ 4096) (h4 : y.zero.length = y.size) (h5 : ∀ fs, y.k = .struct fs → Go.X.allT tab fs = true) (h6 : ∀ n et, y.k = .array n et → ∃ ei, Go.X.tget tab et = some ei) (h7 : y.cmp = true → CmpOk P t y.zero)
    (h8 : Go.Y.agg y = true) (h9 : ∀ w, (zeroValue t).run P w = .ok (.agg ⟨zero⟩) w) : TyR P tab t y :=
  ⟨⟨b, zero, h1, plain_vrl h2, h3⟩, h4, h5, h6, h7, fun z hz => by
    unfold zeroV at hz
    rw [h8] at hz
    cases hz
    exact ⟨_, by simp only [VR]; exact ⟨zero, rfl, plain_vrl h2⟩, h9⟩⟩
theorem TyR.one {P : Program} {tab : Tab} {t : TypeId} {y : Ty} {b : Nat} {z : AV} {u : Value} (hy : y.zero = [z]) (h1 : Go.X.tget tab t = some ⟨y.k, y.size, b, [u]⟩) (h2 : plainV z = some u) (h3 : b ≤ 4096) (h4 : y.zero.length = y.size) (h8 : Go.Y.agg y = false) (h7 : y.cmp = false)
    (h9 : ∀ w, (zeroValue t).run P w = .ok u w) : TyR P tab t y :=
  ⟨⟨b, [u], h1, by rw [hy]; exact .cons (plainV_vr h2) .nil, h3⟩, h4, fun fs h => (by unfold Go.Y.agg at h8; simp only [h] at h8; cases h8), fun n et h => (by unfold Go.Y.agg at h8; simp only [h] at h8; cases h8), fun h => (by rw [h7] at h; cases h), fun z' hz => by
    unfold zeroV at hz
    rw [h8, hy] at hz
    cases hz
    exact ⟨u, plainV_vr h2, h9⟩⟩
end Go.Y

/- The evaluator: structs that are compared. -/
namespace Go.Y
open Go.X (TK TyI Tab)
set_option linter.unusedVariables false
set_option linter.unusedSimpArgs false
set_option linter.constructorNameAsVariable false

/-- The fields are plain, one behind the other, as the zero cells say. -/
def FOk (P : Program) : List Field → List AV → Nat → Prop
  | [], [], _ => True
  | f :: fs, z :: zs, i => ((f.name == "_") = false ∧ f.offset = i ∧ (match z with
      | .int _ _ => ∃ k, P.underlying f.type = some (.int k)
      | .bool _ => P.underlying f.type = some .bool
      | .str _ => P.underlying f.type = some .string
      | _ => False)) ∧ FOk P fs zs (i + 1)
  | _, _, _ => False
theorem eqF_run {P : Program} {w : World} {ρ : Rho} {d : Nat} : ∀ {fs : List Field} {zs : List AV} {i : Nat} {l m : List AV} {l' m' : List Value} {xs ys : List Value} {b : Bool}, FOk P fs zs i → shL zs l = true → eqL l m = some b → VRL ρ l l' → VRL ρ m m' → xs.drop i = l' → ys.drop i = m' →
    (Op.eqFields (d + 1) ⟨xs⟩ ⟨ys⟩ fs).run P w = .ok b w
  | [], [], i, l, m, l', m', xs, ys, b, hf, hs, he, hl, hm, hx, hy => by
    cases l with
    | cons a l => cases hs
    | nil =>
      cases m with
      | cons a l => cases he
      | nil => cases he; exact Go.X.run_eqFields_nil
  | [], _ :: _, i, l, m, l', m', xs, ys, b, hf, hs, he, hl, hm, hx, hy => by cases hf
  | _ :: _, [], i, l, m, l', m', xs, ys, b, hf, hs, he, hl, hm, hx, hy => by cases hf
  | f :: fs, z :: zs, i, l, m, l', m', xs, ys, b, hf, hs, he, hl, hm, hx, hy => by
    obtain ⟨⟨h1, h2, h3⟩, hf⟩ := hf
    cases l with
    | nil => cases hs
    | cons a l =>
      cases m with
      | nil => cases he
      | cons c m =>
        have hs' : (match shC z a with | true => shL zs l | false => false) = true := hs
        have hsz : shC z a = true := by
          cases hq : shC z a with
          | true => rfl
          | false => rw [hq] at hs'; cases hs'
        rw [hsz] at hs'
        obtain ⟨b1, e1, he⟩ := ob_some (show ob (eqC a c) (fun x => ob (eqL l m) fun y => some (x && y)) = some b from he)
        obtain ⟨b2, e2, he⟩ := ob_some he
        cases he
        obtain ⟨u, l'', rfl, k1, hl⟩ := hl.cons_inv
        obtain ⟨v, m'', rfl, k2, hm⟩ := hm.cons_inv
        have nx : ∀ {q : List Value} {u : Value} {r : List Value}, q.drop i = u :: r → q.drop (i + 1) = r ∧ q[i]? = some u := by
          intro q u r hq
          refine ⟨by rw [← List.drop_drop, hq]; rfl, ?_⟩
          have := congrArg (fun l => l[0]?) hq
          simpa using this
        have ihx := eqF_run (w := w) (d := d) hf hs' e2 hl hm (nx hx).1 (nx hy).1
        have px := (nx hx).2
        have py := (nx hy).2
        subst h2
        cases z <;> cases a <;> first | (cases hsz; done) | skip
        case bool.bool x0 x =>
          cases c <;> cases e1
          simp only [VR] at k1 k2; subst k1; subst k2
          have hp : P.plainKey f.type = true := by simp [Program.plainKey, show P.underlying f.type = some .bool from h3]
          rw [beqB_eq]
          exact Go.X.run_eqFields_one (by simpa using h1) (run_part_plain w hp (by simpa using px)) (run_part_plain w hp (by simpa using py)) (run_equalIn_bool' w d f.type _ _ h3) ihx
        case int.int k0 n0 k n =>
          obtain ⟨k', h3⟩ := h3
          cases c <;> try cases e1
          rename_i k2' n2
          simp only [eqC] at e1
          cases hk : Go.X.kEq k k2' with
          | false => rw [hk] at e1; cases e1
          | true =>
            rw [hk] at e1; cases e1
            have := Go.X.kEq_eq hk; subst this
            simp only [VR] at k1 k2; subst k1; subst k2
            rw [ibeq_eq]
            exact Go.X.run_eqFields_int h1 h3 (by simpa using px) (by simpa using py) ihx
        case str.str s0 s =>
          cases c <;> cases e1
          simp only [VR] at k1 k2; subst k1; subst k2
          rw [str_eq]
          exact Go.X.run_eqFields_str h1 h3 (by simpa using px) (by simpa using py) ihx
        all_goals cases h3
theorem CmpOk.struct {P : Program} {t : TypeId} {fs : List Field} {z : List AV} (ht : P.underlying t = some (.struct (P.fieldsOf t))) (hp : P.stoodInHeld t = false) (hg : P.eqGuardType P.depth t = false) (hf : (P.fieldsOf t).toList = fs) (h : FOk P fs z 0) : CmpOk P t z :=
  fun w ρ x y l m l' m' b hs he hl hm =>
    have k := eqF_run (d := 9998) (xs := l') (ys := m') (w := w) h hs he hl hm rfl rfl
    ⟨Go.X.run_eql_agg ht hp hg hf k, Go.X.run_neq_agg ht hp hg hf k⟩
/-- The elements of an array are plain, of one type. -/
def AOk (P : Program) (e : TypeId) : List AV → Prop
  | [] => True
  | z :: zs => (match z with
      | .int _ _ => ∃ k, P.underlying e = some (.int k)
      | .bool _ => P.underlying e = some .bool
      | .pnil => ∃ q, P.underlying e = some (.pointer q)
      | _ => False) ∧ AOk P e zs
theorem part_ptr {P : Program} {w : World} {e q : TypeId} (h : P.underlying e = some (.pointer q)) {xs : Array Value} {i : Nat} {v : Value} (hx : xs[i]? = some v) : (part e xs i).run P w = .ok v w := by
  simp [part, isAgg, run_underlying h, hx]
theorem eqI_one {P : Program} {w : World} {d : Nat} {e : TypeId} {xs ys : Array Value} {i : Nat} {is : List Nat} {a b : Value} {r r' : Bool} (pa : (part e xs i).run P w = .ok a w) (pb : (part e ys i).run P w = .ok b w)
    (he : (Op.equalIn d e a b).run P w = .ok r w) (hr : (Op.eqItems d e 1 xs ys is).run P w = .ok r' w) : (Op.eqItems d e 1 xs ys (i :: is)).run P w = .ok (r && r') w := by
  simp only [Op.eqItems, Nat.mul_one, Sem.run_bind, pa, pb, he, Result.andThen_ok]
  cases r with
  | true => simpa using hr
  | false => simp
theorem eqI_run {P : Program} {w : World} {ρ : Rho} {d : Nat} {e : TypeId} : ∀ {zs : List AV} {i : Nat} {l m : List AV} {l' m' : List Value} {xs ys : List Value} {b : Bool}, AOk P e zs → shL zs l = true → eqL l m = some b → VRL ρ l l' → VRL ρ m m' → xs.drop i = l' → ys.drop i = m' →
    (Op.eqItems (d + 1) e 1 ⟨xs⟩ ⟨ys⟩ (List.range' i zs.length)).run P w = .ok b w
  | [], i, l, m, l', m', xs, ys, b, hf, hs, he, hl, hm, hx, hy => by
    cases l with
    | cons a l => cases hs
    | nil =>
      cases m with
      | cons a l => cases he
      | nil => cases he; simp [Op.eqItems]
  | z :: zs, i, l, m, l', m', xs, ys, b, hf, hs, he, hl, hm, hx, hy => by
    obtain ⟨h3, hf⟩ := hf
    cases l with
    | nil => cases hs
    | cons a l =>
      cases m with
      | nil => cases he
      | cons c m =>
        have hs' : (match shC z a with | true => shL zs l | false => false) = true := hs
        have hsz : shC z a = true := by
          cases hq : shC z a with
          | true => rfl
          | false => rw [hq] at hs'; cases hs'
        rw [hsz] at hs'
        obtain ⟨b1, e1, he⟩ := ob_some (show ob (eqC a c) (fun x => ob (eqL l m) fun y => some (x && y)) = some b from he)
        obtain ⟨b2, e2, he⟩ := ob_some he
        cases he
        obtain ⟨u, l'', rfl, k1, hl⟩ := hl.cons_inv
        obtain ⟨v, m'', rfl, k2, hm⟩ := hm.cons_inv
        have nx : ∀ {q : List Value} {u : Value} {r : List Value}, q.drop i = u :: r → q.drop (i + 1) = r ∧ q[i]? = some u := by
          intro q u r hq
          refine ⟨by rw [← List.drop_drop, hq]; rfl, ?_⟩
          have := congrArg (fun l => l[0]?) hq
          simpa using this
        have ihx := eqI_run (w := w) (d := d) hf hs' e2 hl hm (nx hx).1 (nx hy).1
        have px := (nx hx).2
        have py := (nx hy).2
        rw [List.length_cons, List.range'_succ]
        cases z <;> cases a <;> first | (cases hsz; done) | skip
        case bool.bool x0 x =>
          cases c <;> cases e1
          simp only [VR] at k1 k2; subst k1; subst k2
          have hp : P.plainKey e = true := by simp [Program.plainKey, show P.underlying e = some .bool from h3]
          rw [beqB_eq]
          exact eqI_one (run_part_plain w hp (by simpa using px)) (run_part_plain w hp (by simpa using py)) (run_equalIn_bool' w d e _ _ h3) ihx
        case int.int k0 n0 k n =>
          obtain ⟨k', h3⟩ := h3
          cases c <;> try cases e1
          rename_i k2' n2
          simp only [eqC] at e1
          cases hk : Go.X.kEq k k2' with
          | false => rw [hk] at e1; cases e1
          | true =>
            rw [hk] at e1; cases e1
            have := Go.X.kEq_eq hk; subst this
            simp only [VR] at k1 k2; subst k1; subst k2
            have hp : P.plainKey e = true := by simp [Program.plainKey, h3]
            rw [ibeq_eq]
            exact eqI_one (run_part_plain w hp (by simpa using px)) (run_part_plain w hp (by simpa using py)) (run_equalIn_int w d e k k' _ _ h3) ihx
        case pnil.pnil =>
          obtain ⟨q, h3⟩ := h3
          simp only [VR] at k1; subst k1
          cases c <;> try cases e1
          · simp only [VR] at k2; obtain ⟨bk, _, rfl⟩ := k2
            exact eqI_one (part_ptr h3 (by simpa using px)) (part_ptr h3 (by simpa using py)) (eqIn_pns h3) ihx
          · simp only [VR] at k2; subst k2
            exact eqI_one (part_ptr h3 (by simpa using px)) (part_ptr h3 (by simpa using py)) (eqIn_pnn h3) ihx
        case pnil.ptr =>
          obtain ⟨q, h3⟩ := h3
          simp only [VR] at k1; obtain ⟨bk, _, rfl⟩ := k1
          cases c <;> try cases e1
          simp only [VR] at k2; subst k2
          exact eqI_one (part_ptr h3 (by simpa using px)) (part_ptr h3 (by simpa using py)) (eqIn_psn h3) ihx
        all_goals cases h3
theorem CmpOk.array {P : Program} {t e : TypeId} {n : Nat} {z : List AV} {i : TypeInfo} (ht : P.underlying t = some (.array n e)) (hi : P.info? e = some i) (hc : P.cellsOf e = 1) (hg : P.eqGuardType P.depth t = false) (hn : z.length = n) (h : AOk P e z) : CmpOk P t z := by
  intro w ρ x y l m l' m' b hs he hl hm
  have k := eqI_run (i := 0) (d := 9998) (xs := l') (ys := m') (w := w) (e := e) h hs he hl hm rfl rfl
  have q : (Op.equalIn 10000 t (.agg ⟨l'⟩) (.agg ⟨m'⟩)).run P w = .ok b w := by
    rw [show (10000 : Nat) = 9999 + 1 from rfl, run_equalIn_array w 9999 _ _ ht hi, hc, List.range_eq_range', ← hn]
    exact k
  constructor
  · rw [Sem.run_bind, run_eqGuard_agg _ _ _ _ _ _ _ hg, Result.andThen_ok, run_eql_struct, q]; rfl
  · rw [Sem.run_bind, run_eqGuard_agg _ _ _ _ _ _ _ hg, Result.andThen_ok, run_neq_struct, q]; rfl
/-- The same, by a run. -/
def plainB (P : Program) (t : TypeId) (z : AV) : Bool := match z, P.underlying t with
  | .int _ _, some (.int _) => true
  | .bool _, some .bool => true
  | .str _, some .string => true
  | .pnil, some (.pointer _) => true
  | _, _ => false
def isNil : AV → Bool
  | .pnil => true
  | _ => false
def isStr : AV → Bool
  | .str _ => true
  | _ => false
def fokB (P : Program) : List Field → List AV → Nat → Bool
  | [], [], _ => true
  | f :: fs, z :: zs, i => !(f.name == "_") && Nat.beq f.offset i && plainB P f.type z && !isNil z && fokB P fs zs (i + 1)
  | _, _, _ => false
def aokB (P : Program) (e : TypeId) : List AV → Bool
  | [] => true
  | z :: zs => plainB P e z && !isStr z && aokB P e zs
theorem fokB_ok {P : Program} : ∀ {fs : List Field} {zs : List AV} {i : Nat}, fokB P fs zs i = true → FOk P fs zs i
  | [], [], _, _ => trivial
  | [], _ :: _, _, h => by cases h
  | _ :: _, [], _, h => by cases h
  | f :: fs, z :: zs, i, h => by
    simp only [fokB, Bool.and_eq_true, Bool.not_eq_true'] at h
    obtain ⟨⟨⟨⟨h1, h2⟩, h3⟩, h4⟩, h5⟩ := h
    refine ⟨⟨h1, Nat.eq_of_beq_eq_true h2, ?_⟩, fokB_ok h5⟩
    unfold plainB at h3
    split at h3 <;> first | (cases h3; done) | skip
    · rename_i hq; exact ⟨_, hq⟩
    · rename_i hq; exact hq
    · rename_i hq; exact hq
    · cases h4
theorem aokB_ok {P : Program} {e : TypeId} : ∀ {zs : List AV}, aokB P e zs = true → AOk P e zs
  | [], _ => trivial
  | z :: zs, h => by
    simp only [aokB, Bool.and_eq_true, Bool.not_eq_true'] at h
    obtain ⟨⟨h1, h2⟩, h3⟩ := h
    refine ⟨?_, aokB_ok h3⟩
    unfold plainB at h1
    split at h1 <;> first | (cases h1; done) | skip
    · rename_i hq; exact ⟨_, hq⟩
    · rename_i hq; exact hq
    · cases h2
    · rename_i hq; exact ⟨_, hq⟩
def structB (P : Program) (t : TypeId) (z : List AV) : Bool := !P.stoodInHeld t && !P.eqGuardType P.depth t && fokB P (P.fieldsOf t).toList z 0
def arrayB (P : Program) (t e : TypeId) (z : List AV) : Bool := Nat.beq (P.cellsOf e) 1 && !P.eqGuardType P.depth t && aokB P e z
theorem CmpOk.structB {P : Program} {t : TypeId} {z : List AV} (ht : P.underlying t = some (.struct (P.fieldsOf t))) (h : structB P t z = true) : CmpOk P t z := by
  simp only [Go.Y.structB, Bool.and_eq_true, Bool.not_eq_true'] at h
  exact .struct ht h.1.1 h.1.2 rfl (fokB_ok h.2)
theorem CmpOk.arrayB {P : Program} {t e : TypeId} {n : Nat} {z : List AV} (ht : P.underlying t = some (.array n e)) (hi : (P.info? e).isSome = true) (hn : z.length = n) (h : arrayB P t e z = true) : CmpOk P t z := by
  simp only [Go.Y.arrayB, Bool.and_eq_true, Bool.not_eq_true'] at h
  obtain ⟨i, hi⟩ := Option.isSome_iff_exists.1 hi
  exact .array ht hi (Nat.eq_of_beq_eq_true h.1.1) h.1.2 hn (aokB_ok h.2)
end Go.Y

/- The evaluator: what it has run, as a contract of the executor. -/
namespace Go.Y
open Go.X (TK TyI Tab FP Trip Fr)
set_option linter.unusedVariables false
set_option linter.constructorNameAsVariable false

noncomputable def m0 : Mem := ⟨0, .e, 0⟩
noncomputable def isT (o : Option (AV × Mem)) : Bool := match o with | some (.bool true, _) => true | _ => false
theorem isT_some {o : Option (AV × Mem)} (h : isT o = true) : ∃ m, o = some (.bool true, m) := by
  unfold isT at h
  split at h
  · exact ⟨_, rfl⟩
  · cases h
theorem get_e (i : Nat) : T.get (.e : T AObj) i = none := by cases i <;> rfl
theorem trip_of {P : Program} {g : Gl} {call : CallF} (hc : CallOk P g call) {f : FuncId} {vs : List AV} {us : List Value} {v : AV} {m' : Mem} (h : call f vs m0 = some (v, m')) {w : World} (S : FP) (hgl : GlOk g ⟨w, fun _ => False⟩) (hv : VRL ρ0 vs us) :
    Trip P f ⟨us⟩ w S fun u L => (∃ ρ, VR ρ v u) ∧ L = [] := by
  have hw : Wm m0 := fun i _ => get_e i
  obtain ⟨h1, h2⟩ := hc.ok f vs m0 v m' h hw ⟨w, fun _ => False⟩ ρ0 w us hgl hv ⟨Fr.refl _ _, fun i o hi => (by rw [show m0.t.get i = none from get_e i] at hi; cases hi), fun i j oi oj x y hi => (by rw [show m0.t.get i = none from get_e i] at hi; cases hi)⟩ (fun _ _ _ => rfl)
  refine ⟨h1, h2.mono ?_⟩
  rintro e w' ⟨u, ρ', rfl, _, hu, hm, _⟩
  exact ⟨u, [], rfl, ⟨⟨ρ', hu⟩, rfl⟩, ⟨hm.fr.os, hm.fr.tape, hm.fr.output, hm.fr.size, fun b hb _ => hm.fr.blk b hb id⟩, fun _ => False, trivial, fun _ h => h.elim⟩
theorem trip_true {P : Program} {g : Gl} {call : CallF} (hc : CallOk P g call) {f : FuncId} (h : isT (call f [] m0) = true) {w : World} (S : FP) (hgl : GlOk g ⟨w, fun _ => False⟩) :
    Trip P f #[] w S fun v L => v = .bool true ∧ L = [] := by
  obtain ⟨m', h⟩ := isT_some h
  exact (trip_of hc h S hgl .nil).mono fun v L ⟨⟨ρ, hv⟩, hL⟩ => ⟨by simpa only [VR] using hv, hL⟩
end Go.Y

/- The executor: comparisons with nil. -/
namespace Go.X
open Go.Y
set_option linter.unusedVariables false
section
variable {C : Ctx} {L : List Chunk} {t e : TypeId} {x y : Operand}
theorem neq_nn (h : C.P.underlying t = some (.pointer e)) : RunsTo C L (do eqGuard .neq t x y (.pointer none) (.pointer none); binOp .neq t (.pointer none) (.pointer none)) (.bool false) :=
  fun w _ => (eq_run (fun op ho => by rcases ho with rfl | rfl <;> rfl) (eqIn_pnn (d := 9999) h) rfl rfl).2
theorem eql_nn (h : C.P.underlying t = some (.pointer e)) : RunsTo C L (do eqGuard .eql t x y (.pointer none) (.pointer none); binOp .eql t (.pointer none) (.pointer none)) (.bool true) :=
  fun w _ => (eq_run (fun op ho => by rcases ho with rfl | rfl <;> rfl) (eqIn_pnn (d := 9999) h) rfl rfl).1
theorem neq_sn {a : Addr} (h : C.P.underlying t = some (.pointer e)) : RunsTo C L (do eqGuard .neq t x y (.pointer (some a)) (.pointer none); binOp .neq t (.pointer (some a)) (.pointer none)) (.bool true) :=
  fun w _ => (eq_run (fun op ho => by rcases ho with rfl | rfl <;> rfl) (eqIn_psn (d := 9999) h) rfl rfl).2
theorem eql_sn {a : Addr} (h : C.P.underlying t = some (.pointer e)) : RunsTo C L (do eqGuard .eql t x y (.pointer (some a)) (.pointer none); binOp .eql t (.pointer (some a)) (.pointer none)) (.bool false) :=
  fun w _ => (eq_run (fun op ho => by rcases ho with rfl | rfl <;> rfl) (eqIn_psn (d := 9999) h) rfl rfl).1
theorem RunsTo.var {a : Addr} {v : Value} (h : RunsTo C L (Instr.loadAt t (.pointer (some a))) v) : RunsTo C L (loadVar t a) v := fun w hw => by
  have := h w hw
  simpa only [Instr.loadAt, Instr.sureAddr, Sem.run_bind, Sem.run_pure, Result.andThen_ok] using this
end
end Go.X
namespace Go.Y
open Go.X (Chunk RO FP Trip)
/-- The package variables that the evaluator reads. -/
def glC (g : Gl) (n : Nat) : Chunk where
  sat w S := (∀ k, S k ↔ k < n) ∧ (∀ k, k < n → k < w.heap.size) ∧ T.All (fun i l => i < n ∧ ∃ cs t fr, w.heap[i]? = some (.cells cs t fr) ∧ VRL ρ0 l cs.toList) g.gl
  stab {w w' S} h hk := ⟨h.1, fun k hkn => by
    have h1 := hk k ((h.1 k).2 hkn)
    have h2 := h.2.1 k hkn
    rw [Array.getElem?_eq_getElem h2] at h1
    exact (Array.getElem?_eq_some_iff.1 h1).1, h.2.2.mono fun i l ⟨h1, cs, t, fr, h2, h3⟩ => ⟨h1, cs, t, fr, (hk i ((h.1 i).2 h1)).trans h2, h3⟩⟩
  dom h hb := h.2.1 _ ((h.1 _).1 hb)
theorem glOk_of {g : Gl} {n : Nat} {w : World} {S : FP} (h : RO w S (glC g n)) : GlOk g ⟨w, fun _ => False⟩ := by
  obtain ⟨T, hT, _⟩ := h
  exact hT.2.2.mono fun i l ⟨_, cs, t, fr, h1, h2⟩ => ⟨cs, t, fr, h1, h2, fun h => h⟩
theorem awake_of {P : Program} {g : Gl} {call : CallF} (hc : CallOk P g call) {f : FuncId} (h : isT (call f [] m0) = true) {n : Nat} (w : World) (S : FP) (hg : RO w S (glC g n)) : Trip P f #[] w S fun v L => v = .bool true ∧ L = [] := trip_true hc h S (glOk_of hg)
end Go.Y

/- The evaluator: package variables, out of a row's list. -/
namespace Go.Y
open Go.X (Chunk RO FP Trip)
theorem var_cells {P : Program} {w : World} {n : String} {g : Nat} {cs : Array Value} (hg : P.globalNamed n = some g) (hv : w.var? P n = some cs) : ∃ t fr, w.heap[g]? = some (.cells cs t fr) := by
  unfold World.var? at hv
  rw [hg, Option.bind_some] at hv
  split at hv
  · rename_i c t f hc
    cases hv
    exact ⟨_, _, hc⟩
  · cases hv
section
variable {H : Type} {enc : TypeId × Value → H} {P : Program} {W : World} {base : Nat} {spare : Nat → Bool} {held : Bool} {fuel : Nat}
/-- A variable of two truth values. -/
theorem open_page {t bt : TypeId} {fs : Array Field} {f0 f1 : Field} {cs : List Value} {a b : Bool} {p : List MemPlace} (ht : P.underlying t = some (.struct fs)) (h0 : fs[0]? = some f0) (h1 : fs[1]? = some f1) (o0 : f0.offset = 0) (o1 : f1.offset = 1) (t0 : f0.type = bt) (t1 : f1.type = bt)
    (hb : P.underlying bt = some .bool) (hc : P.cellsOf t = 2) (hcb : P.cellsOf bt = 1) (h : DataW.trod enc P W base spare held fuel t cs = some (.agg [.lit (.bool a), .lit (.bool b)], p)) : VRL ρ0 [.bool a, .bool b] cs := by
  obtain ⟨xs, n, _, hx, hlen, hxl, hf⟩ := DataW.trod_struct ht h
  have g0 := hf 0 f0 h0
  have g1 := hf 1 f1 h1
  rw [hc] at hlen
  match cs, hlen with
  | [u, v], _ =>
    rw [o0, t0, hcb] at g0
    rw [o1, t1, hcb] at g1
    rw [Prod.mk.injEq] at hx
    have hx1 := hx.1
    rw [DataW.agg.injEq] at hx1
    have hl2 : xs.length = 2 := by
      have := congrArg List.length hx1
      simpa using this.symm
    match xs, hl2 with
    | [x, y], _ =>
      obtain ⟨c, k1, k2⟩ := DataW.trod_bool hb g0
      obtain ⟨d, k3, k4⟩ := DataW.trod_bool hb g1
      subst k2; subst k4
      simp at k1 k3 hx1
      subst k1; subst k3
      obtain ⟨rfl, rfl⟩ := hx1
      exact .cons (.of_bool _) (.cons (.of_bool _) .nil)
end
end Go.Y
namespace Go.Y
open Go.X (RunsTo Ctx)
theorem CmpOk.eql {C : Ctx} {L : List Go.X.Chunk} {t : TypeId} {z l m : List AV} {l' m' : List Value} {b : Bool} {x y : Operand} (h : CmpOk C.P t z) (hs : shL z l = true) (he : eqL l m = some b) (hl : VRL ρ0 l l') (hm : VRL ρ0 m m') :
    RunsTo C L (do eqGuard .eql t x y (.agg ⟨l'⟩) (.agg ⟨m'⟩); binOp .eql t (.agg ⟨l'⟩) (.agg ⟨m'⟩)) (.bool b) := fun w _ => (h w ρ0 x y l m l' m' b hs he hl hm).1
theorem CmpOk.neq {C : Ctx} {L : List Go.X.Chunk} {t : TypeId} {z l m : List AV} {l' m' : List Value} {b : Bool} {x y : Operand} (h : CmpOk C.P t z) (hs : shL z l = true) (he : eqL l m = some b) (hl : VRL ρ0 l l') (hm : VRL ρ0 m m') :
    RunsTo C L (do eqGuard .neq t x y (.agg ⟨l'⟩) (.agg ⟨m'⟩); binOp .neq t (.agg ⟨l'⟩) (.agg ⟨m'⟩)) (.bool (!b)) := fun w _ => (h w ρ0 x y l m l' m' b hs he hl hm).2
end Go.Y
namespace Go.Y
open Go.X (Chunk RO FP Trip)
noncomputable def isS (o : Option (AV × Mem)) : Bool := match o with | some _ => true | none => false
/-- A call that ends, whatever it returns. -/
theorem ends_of {P : Program} {g : Gl} {call : CallF} (hc : CallOk P g call) {f : FuncId} (h : isS (call f [] m0) = true) {n : Nat} (w : World) (S : FP) (hg : RO w S (glC g n)) : Trip P f #[] w S fun _ L => L = [] := by
  cases hq : call f [] m0 with
  | none => rw [hq] at h; cases h
  | some x => exact (trip_of hc (v := x.1) (m' := x.2) hq S (glOk_of hg) .nil).mono fun _ _ h => h.2
end Go.Y

/- The evaluator: maps.Clone, by its law. -/
namespace Go.Y
open Go.X (TK TyI Fr FP Tab)
set_option linter.unusedVariables false
set_option linter.constructorNameAsVariable false
/-- What maps.Clone does. -/
structure CloneC (P : Program) (f : FuncId) : Prop where
  fn : Go.X.FnOk P f
  nil : ∀ w, Calls P f #[.map none] w fun e w' => e = .returned (.map none) ∧ w' = w
  run : ∀ (b : Nat) (es : Array MapEntry) (clock : Nat) (w : World), w.heap[b]? = some (.map es clock) → Calls P f #[.map (some b)] w fun e w' => e = .returned (.map (some w.heap.size)) ∧ w' = w.alloc (.map es clock)
theorem alloc_fr (w : World) (o : Obj) : Fr w (fun _ => False) (w.alloc o) := ⟨rfl, rfl, rfl, by show w.heap.size ≤ (w.heap.push o).size; simp, fun b hb _ => by show (w.heap.push o)[b]? = _; simp [Array.getElem?_push, Nat.ne_of_lt hb]⟩
theorem clone_sp {P : Program} {g : Gl} {f : FuncId} (hc : CloneC P f) : SpR P g f spClone := by
  refine ⟨fun vs m v m' h hw => ?_, fun vs m v m' h hwm w0 ρ w us hg hv hm hfree => ⟨hc.fn, ?_⟩⟩
  · unfold spClone at h
    split at h
    · cases h; exact .refl m
    · obtain ⟨q, _, h⟩ := ob_some h
      cases h; exact putNew_fm m _
    · cases h
  · unfold spClone at h
    split at h
    · cases h
      obtain ⟨u, us', rfl, k1, k2⟩ := hv.cons_inv
      obtain rfl := k2.nil_inv
      simp only [VR] at k1; subst k1
      refine (hc.nil w).mono ?_
      rintro _ w' ⟨rfl, rfl⟩
      exact ⟨_, ρ, rfl, .refl ρ, by simp only [VR], hm, .refl _ _ _⟩
    · rename_i i
      obtain ⟨q, h1, h⟩ := ob_some h
      cases h
      obtain ⟨u, us', rfl, k1, k2⟩ := hv.cons_inv
      obtain rfl := k2.nil_inv
      simp only [VR] at k1
      obtain ⟨x, es', hx, hb, he, _, _⟩ := map_at hm h1
      obtain ⟨y, hy, rfl⟩ := k1
      rw [hx] at hy; cases hy
      refine (hc.run x.b _ _ w hb).mono ?_
      rintro _ w' ⟨rfl, rfl⟩
      rw [putNew_n] at hfree
      have hf : ρ m.n = none := hfree m.n (Nat.le_refl _) (Nat.lt_succ_self _)
      have hle := Rho.le_set (x := (⟨w.heap.size, 0, 0⟩ : Bk)) hf
      have hnew := hm.new (o := .map q.1 q.2) (x := ⟨w.heap.size, 0, 0⟩) hf (alloc_fr w (.map es'.toArray q.2)) (Nat.le_refl _) ⟨es', by show (w.heap.push _)[w.heap.size]? = _; simp, he.mono hle⟩
      refine ⟨_, ρ.set m.n ⟨w.heap.size, 0, 0⟩, rfl, hle, ?_, hnew.eq fun i => ?_, fun i hi => ?_⟩
      · simp only [VR]; exact ⟨_, Rho.set_at, rfl⟩
      · show (nat1 (m.n + 1) fun n => (⟨n, m.t.set (.map q.1 q.2) m.n, m.lw⟩ : Mem)).t.get i = _
        rw [nat1_eq]
        show (m.t.set _ m.n).get i = _
        rw [T.get_set]; rfl
      · rw [putNew_n]
        unfold Rho.set at hi
        split at hi
        · rename_i he; subst he; exact .inr ⟨Nat.le_refl _, Nat.lt_succ_self _⟩
        · exact .inl hi
    · cases h
end Go.Y

/- The evaluator: values, memory and slots made plain at once, so that the kernel never meets one thing twice unevaluated. -/
namespace Go.Y
set_option linter.unusedVariables false
set_option linter.constructorNameAsVariable false
section
variable {β : Type}
noncomputable def fKind (d : IntKind) (k : IntKind → β) : β := IntKind.rec (motive := fun _ => β) (k .i8) (k .i16) (k .i32) (k .i64) (k .u8) (k .u16) (k .u32) (k .u64) d
theorem fKind_eq (d : IntKind) (k : IntKind → β) : fKind d k = k d := by cases d <;> rfl
noncomputable def fB (b : Bool) (k : Bool → β) : β := Bool.rec (motive := fun _ => β) (k false) (k true) b
theorem fB_eq (b : Bool) (k : Bool → β) : fB b k = k b := by cases b <;> rfl
noncomputable def fAV (a : AV) : (AV → β) → β := AV.rec (motive_1 := fun _ => (AV → β) → β) (motive_2 := fun _ => (List AV → β) → β)
  (fun b k => fB b fun b => k (.bool b)) (fun d n k => fKind d fun d => int1 n fun n => k (.int d n)) (fun s k => k (.str s))
  (fun i o k => nat1 i fun i => nat1 o fun o => k (.ptr i o)) (fun k => k .pnil) (fun i o k => nat1 i fun i => nat1 o fun o => k (.gp i o))
  (fun i o n c k => nat1 i fun i => nat1 o fun o => nat1 n fun n => nat1 c fun c => k (.sl i o n c)) (fun i o n c k => nat1 i fun i => nat1 o fun o => nat1 n fun n => nat1 c fun c => k (.su i o n c)) (fun k => k .snil) (fun k => k .se)
  (fun i k => nat1 i fun i => k (.map i)) (fun k => k .mnil) (fun f _ _ p q k => nat1 f fun f => p fun p => q fun q => k (.fn f p q)) (fun k => k .fnil)
  (fun t _ v k => nat1 t fun t => v fun v => k (.ifc t v)) (fun k => k .inil) (fun _ l k => l fun l => k (.agg l)) (fun _ l k => l fun l => k (.tup l))
  (fun k => k []) (fun _ _ a l k => a fun a => l fun l => k (a :: l)) a
noncomputable def fAL (l : List AV) : (List AV → β) → β := List.rec (motive := fun _ => (List AV → β) → β) (fun k => k []) (fun a _ l k => fAV a fun a => l fun l => k (a :: l)) l
noncomputable def fALr (l : List AV) : (List AV → β) → β := AV.rec_1 (motive_1 := fun _ => (AV → β) → β) (motive_2 := fun _ => (List AV → β) → β)
  (fun b k => fB b fun b => k (.bool b)) (fun d n k => fKind d fun d => int1 n fun n => k (.int d n)) (fun s k => k (.str s))
  (fun i o k => nat1 i fun i => nat1 o fun o => k (.ptr i o)) (fun k => k .pnil) (fun i o k => nat1 i fun i => nat1 o fun o => k (.gp i o))
  (fun i o n c k => nat1 i fun i => nat1 o fun o => nat1 n fun n => nat1 c fun c => k (.sl i o n c)) (fun i o n c k => nat1 i fun i => nat1 o fun o => nat1 n fun n => nat1 c fun c => k (.su i o n c)) (fun k => k .snil) (fun k => k .se)
  (fun i k => nat1 i fun i => k (.map i)) (fun k => k .mnil) (fun f _ _ p q k => nat1 f fun f => p fun p => q fun q => k (.fn f p q)) (fun k => k .fnil)
  (fun t _ v k => nat1 t fun t => v fun v => k (.ifc t v)) (fun k => k .inil) (fun _ l k => l fun l => k (.agg l)) (fun _ l k => l fun l => k (.tup l))
  (fun k => k []) (fun _ _ a l k => a fun a => l fun l => k (a :: l)) l
theorem fRec (l : List AV) : fALr (β := β) l = fAL l := by
  induction l with
  | nil => rfl
  | cons a l ih => funext k; show fAV a (fun a => fALr l fun l => k (a :: l)) = fAV a (fun a => fAL l fun l => k (a :: l)); rw [ih]
mutual
theorem fAV_eq : ∀ (a : AV) (k : AV → β), fAV a k = k a
  | .bool b, k => by show fB b (fun b => k (.bool b)) = _; rw [fB_eq]
  | .int d n, k => by show fKind d (fun d => int1 n fun n => k (.int d n)) = _; rw [fKind_eq, int1_eq]
  | .str s, k => rfl
  | .ptr i o, k => by show nat1 i (fun i => nat1 o fun o => k (.ptr i o)) = _; simp only [nat1_eq]
  | .pnil, k => rfl
  | .gp i o, k => by show nat1 i (fun i => nat1 o fun o => k (.gp i o)) = _; simp only [nat1_eq]
  | .sl i o n c, k => by show nat1 i (fun i => nat1 o fun o => nat1 n fun n => nat1 c fun c => k (.sl i o n c)) = _; simp only [nat1_eq]
  | .su i o n c, k => by show nat1 i (fun i => nat1 o fun o => nat1 n fun n => nat1 c fun c => k (.su i o n c)) = _; simp only [nat1_eq]
  | .snil, k => rfl
  | .se, k => rfl
  | .map i, k => by show nat1 i (fun i => k (.map i)) = _; rw [nat1_eq]
  | .mnil, k => rfl
  | .fn f p q, k => by
    show nat1 f (fun f => fALr p fun p => fALr q fun q => k (.fn f p q)) = _
    rw [nat1_eq, fRec, fRec, fAL_eq p, fAL_eq q]
  | .fnil, k => rfl
  | .ifc t v, k => by show nat1 t (fun t => fAV v fun v => k (.ifc t v)) = _; rw [nat1_eq, fAV_eq v]
  | .inil, k => rfl
  | .agg l, k => by
    show fALr l (fun l => k (.agg l)) = _
    rw [fRec, fAL_eq l]
  | .tup l, k => by
    show fALr l (fun l => k (.tup l)) = _
    rw [fRec, fAL_eq l]
theorem fAL_eq : ∀ (l : List AV) (k : List AV → β), fAL l k = k l
  | [], k => rfl
  | a :: l, k => by show fAV a (fun a => fAL l fun l => k (a :: l)) = _; rw [fAV_eq a, fAL_eq l]
end
noncomputable def fEs (l : List (AV × AV × Nat)) : (List (AV × AV × Nat) → β) → β := List.rec (motive := fun _ => (List (AV × AV × Nat) → β) → β) (fun k => k [])
  (fun a _ l k => fAV a.1 fun x => fAV a.2.1 fun y => nat1 a.2.2 fun n => l fun l => k ((x, y, n) :: l)) l
theorem fEs_eq : ∀ (l : List (AV × AV × Nat)) (k : List (AV × AV × Nat) → β), fEs l k = k l
  | [], k => rfl
  | a :: l, k => by show fAV a.1 (fun x => fAV a.2.1 fun y => nat1 a.2.2 fun n => fEs l fun l => k ((x, y, n) :: l)) = _; rw [fAV_eq, fAV_eq, nat1_eq, fEs_eq l]
noncomputable def fNs (l : List Nat) : (List Nat → β) → β := List.rec (motive := fun _ => (List Nat → β) → β) (fun k => k []) (fun a _ l k => nat1 a fun a => l fun l => k (a :: l)) l
theorem fNs_eq : ∀ (l : List Nat) (k : List Nat → β), fNs l k = k l
  | [], k => rfl
  | a :: l, k => by show nat1 a (fun a => fNs l fun l => k (a :: l)) = _; rw [nat1_eq, fNs_eq l]
noncomputable def fOb (o : AObj) : (AObj → β) → β := AObj.rec (motive := fun _ => (AObj → β) → β)
  (fun t l b k => nat1 t fun t => fAL l fun l => fB b fun b => k (.cells t l b)) (fun es c k => fEs es fun es => nat1 c fun c => k (.map es c))
  (fun m s l t k => nat1 s fun s => fNs l fun l => nat1 t fun t => Option.rec (motive := fun _ => β) (k (.iter none s l t)) (fun m => nat1 m fun m => k (.iter (some m) s l t)) m) (fun k => k .dead) o
theorem fOb_eq (o : AObj) (k : AObj → β) : fOb o k = k o := by
  cases o with
  | cells t l b => show nat1 t (fun t => fAL l fun l => fB b fun b => k (.cells t l b)) = _; rw [nat1_eq, fAL_eq, fB_eq]
  | map es c => show fEs es (fun es => nat1 c fun c => k (.map es c)) = _; rw [fEs_eq, nat1_eq]
  | iter m s l t =>
    show nat1 s (fun s => fNs l fun l => nat1 t fun t => Option.rec (motive := fun _ => β) (k (.iter none s l t)) (fun m => nat1 m fun m => k (.iter (some m) s l t)) m) = _
    rw [nat1_eq, fNs_eq, nat1_eq]
    cases m with
    | none => rfl
    | some m => exact nat1_eq m _
  | dead => rfl
noncomputable def fT {α : Type} (f : α → (α → β) → β) (t : T α) : (T α → β) → β := T.rec (motive := fun _ => (T α → β) → β) (fun k => k .e)
  (fun _ v _ l r k => l fun l => Option.rec (motive := fun _ => β) (r fun r => k (.n l none r)) (fun v => f v fun v => r fun r => k (.n l (some v) r)) v) t
theorem fT_eq {α : Type} {f : α → (α → β) → β} (hf : ∀ a k, f a k = k a) : ∀ (t : T α) (k : T α → β), fT f t k = k t
  | .e, k => rfl
  | .n l v r, k => by
    show fT f l (fun l => Option.rec (motive := fun _ => β) (fT f r fun r => k (.n l none r)) (fun v => f v fun v => fT f r fun r => k (.n l (some v) r)) v) = _
    rw [fT_eq hf l]
    cases v with
    | none => exact fT_eq hf r _
    | some v => show f v (fun v => fT f r fun r => k (.n l (some v) r)) = _; rw [hf, fT_eq hf r]
end
noncomputable def fEx {β : Type} (x : Ex) (k : Ex → β) : β := Ex.rec (motive := fun _ => β) (k .nrm) (fun i => nat1 i fun i => k (.ext i)) (k .ret) x
theorem fEx_eq {β : Type} (x : Ex) (k : Ex → β) : fEx x k = k x := by
  cases x with
  | nrm => rfl
  | ext i => exact nat1_eq i fun i => k (.ext i)
  | ret => rfl
/-! ### tables, set at once -/
section
variable {α β : Type}
noncomputable def oneK (v : α) (f : Nat) : Nat → (T α → β) → β := Nat.rec (motive := fun _ => Nat → (T α → β) → β) (fun _ c => c (.n .e (some v) .e))
  (fun _ ih k c => Nat.rec (motive := fun _ => β) (c (.n .e (some v) .e)) (fun p _ => Nat.rec (motive := fun _ => β) (ih (p / 2) fun t => c (.n t none .e)) (fun _ _ => ih (p / 2) fun t => c (.n .e none t)) (p % 2)) k) f
theorem oneK_eq (v : α) : ∀ (f k : Nat) (c : T α → β), oneK v f k c = c (T.one v f k)
  | 0, k, c => rfl
  | f + 1, k, c => by
    have ih := oneK_eq v f
    cases k with
    | zero => rfl
    | succ p =>
      show Nat.rec (motive := fun _ => β) (oneK v f (p / 2) fun t => c (.n t none .e)) (fun _ _ => oneK v f (p / 2) fun t => c (.n .e none t)) (p % 2) = c (Nat.rec (motive := fun _ => T α) (.n (T.one v f (p / 2)) none .e) (fun _ _ => .n .e none (T.one v f (p / 2))) (p % 2))
      cases p % 2 with
      | zero => exact ih _ _
      | succ q => exact ih _ _
noncomputable def setK (t : T α) (v : α) : Nat → (T α → β) → β := T.rec (motive := fun _ => Nat → (T α → β) → β) (fun k c => oneK v k k c)
  (fun l u r sl sr k c => Nat.rec (motive := fun _ => β) (c (.n l (some v) r)) (fun p _ => Nat.rec (motive := fun _ => β) (sl (p / 2) fun l => c (.n l u r)) (fun _ _ => sr (p / 2) fun r => c (.n l u r)) (p % 2)) k) t
theorem setK_eq (v : α) : ∀ (t : T α) (k : Nat) (c : T α → β), setK t v k c = c (t.set v k)
  | .e, k, c => oneK_eq v k k c
  | .n l u r, k, c => by
    have hl := setK_eq v l
    have hr := setK_eq v r
    cases k with
    | zero => rfl
    | succ p =>
      show Nat.rec (motive := fun _ => β) (setK l v (p / 2) fun l => c (.n l u r)) (fun _ _ => setK r v (p / 2) fun r => c (.n l u r)) (p % 2) = c (Nat.rec (motive := fun _ => T α) (.n (l.set v (p / 2)) u r) (fun _ _ => .n l u (r.set v (p / 2))) (p % 2))
      cases p % 2 with
      | zero => exact hl _ _
      | succ q => exact hr _ _
noncomputable def putK (e : Env) (d : Option Tmp) (v : AV) (c : Env → β) : β := Option.rec (motive := fun _ => β) (c e) (fun d => fAV v fun v => setK e v d c) d
theorem putK_eq (e : Env) (d : Option Tmp) (v : AV) (c : Env → β) : putK e d v c = c (put e d v) := by
  cases d with
  | none => rfl
  | some d => show fAV v (fun v => setK e v d c) = _; rw [fAV_eq, setK_eq]; rfl
noncomputable def upK (m : Mem) (up : Option (Nat × AObj)) (c : Mem → β) : β := Option.rec (motive := fun _ => β) (c m) (fun x => nat1 x.1 fun i => fOb x.2 fun o => setK m.t o i fun t => nat1 (match Nat.ble i m.lw with | true => i | false => m.lw) fun lw => nat1 m.n fun n => c ⟨n, t, lw⟩) up
theorem upK_eq (m : Mem) (up : Option (Nat × AObj)) (c : Mem → β) : upK m up c = c (setUp m up) := by
  cases up with
  | none => rfl
  | some x => show nat1 x.1 (fun i => fOb x.2 fun o => setK m.t o i fun t => nat1 (match Nat.ble i m.lw with | true => i | false => m.lw) fun lw => nat1 m.n fun n => c ⟨n, t, lw⟩) = _; simp only [nat1_eq, fOb_eq, setK_eq]; rfl
noncomputable def newK (m : Mem) (new : Option AObj) (c : Mem → β) : β := Option.rec (motive := fun _ => β) (c m) (fun o => nat1 m.n fun n => nat1 (n + 1) fun n1 => fOb o fun o => setK m.t o n fun t => nat1 m.lw fun lw => c ⟨n1, t, lw⟩) new
theorem newK_eq (m : Mem) (new : Option AObj) (c : Mem → β) : newK m new c = c (putNew m new) := by
  cases new with
  | none => rfl
  | some o => show nat1 m.n (fun n => nat1 (n + 1) fun n1 => fOb o fun o => setK m.t o n fun t => nat1 m.lw fun lw => c ⟨n1, t, lw⟩) = c (nat1 (m.n + 1) fun n => ⟨n, m.t.set o m.n, m.lw⟩); simp only [nat1_eq, fOb_eq, setK_eq]
noncomputable def doK (m : Mem) (r : LR) (c : Mem → β) : β := upK m r.up fun m => newK m r.new c
theorem doK_eq (m : Mem) (r : LR) (c : Mem → β) : doK m r c = c (doLR m r) := by unfold doK; rw [upK_eq, newK_eq]; rfl
noncomputable def memK (m : Mem) (c : Mem → β) : β := nat1 m.n fun n => nat1 m.lw fun lw => c ⟨n, m.t, lw⟩
theorem memK_eq (m : Mem) (c : Mem → β) : memK m c = c m := by unfold memK; simp only [nat1_eq]
noncomputable def argK (vs : List AV) : Nat → Env → (Env → β) → β := List.rec (motive := fun _ => Nat → Env → (Env → β) → β) (fun _ e c => c e) (fun v _ ih k e c => fAV v fun v => setK e v k fun e => ih (k + 1) e c) vs
theorem argK_eq : ∀ (vs : List AV) (k : Nat) (e : Env) (c : Env → β), argK vs k e c = c (argE vs k e)
  | [], k, e, c => rfl
  | v :: vs, k, e, c => by show fAV v (fun v => setK e v k fun e => argK vs (k + 1) e c) = _; rw [fAV_eq, setK_eq, argK_eq vs]; rfl
end
end Go.Y

/- The evaluator, made cheaper for the kernel: dispatchers whose arms are closed terms (unfolding a definition copies what is open in it). -/
namespace Go.Y
open Go.X (TK)
set_option linter.unusedVariables false
set_option linter.constructorNameAsVariable false
noncomputable def binIQ (op : BinOp) (k : IntKind) (a b : Int) : Option AV := BinOp.rec (motive := fun _ => IntKind → Int → Int → Option AV)
  (fun k a b => mkI k (wrapF k (a + b)))
  (fun k a b => mkI k (wrapF k (a - b)))
  (fun k a b => mkI k (wrapF k (a * b)))
  (fun k a b => chk (!ibeq b 0) (mkI k (wrapF k (a.tdiv b))))
  (fun k a b => chk (!ibeq b 0) (mkI k (a.tmod b)))
  (fun k a b => mkI k (k.wrap (BitVec.ofInt k.bits a &&& BitVec.ofInt k.bits b).toNat))
  (fun k a b => mkI k (k.wrap (BitVec.ofInt k.bits a ||| BitVec.ofInt k.bits b).toNat))
  (fun k a b => mkI k (k.wrap (BitVec.ofInt k.bits a ^^^ BitVec.ofInt k.bits b).toNat))
  (fun k a b => chk (!iblt b 0) (mkI k (wrapF k (a * 2 ^ min b.toNat k.bits))))
  (fun k a b => chk (!iblt b 0) (mkI k (a.fdiv (2 ^ min b.toNat k.bits))))
  (fun k a b => mkI k (k.wrap (BitVec.ofInt k.bits a &&& ~~~BitVec.ofInt k.bits b).toNat))
  (fun k a b => some (.bool (ibeq a b)))
  (fun k a b => some (.bool (!ibeq a b)))
  (fun k a b => some (.bool (iblt a b)))
  (fun k a b => some (.bool (!iblt b a)))
  (fun k a b => some (.bool (iblt b a)))
  (fun k a b => some (.bool (!iblt a b)))
  op k a b
theorem binIQ_eq (op : BinOp) (k : IntKind) (a b : Int) : binIQ op k a b = binI op k a b := by cases op <;> rfl
noncomputable def intOp (op : BinOp) (k : IntKind) (a : Int) (k' : IntKind) (b : Int) : Option AV := BinOp.rec (motive := fun _ => IntKind → Int → IntKind → Int → Option AV)
  (fun k a k' b => Bool.rec (motive := fun _ => Option AV) none (binIQ .add k a b) (Go.X.kEq k k'))
  (fun k a k' b => Bool.rec (motive := fun _ => Option AV) none (binIQ .sub k a b) (Go.X.kEq k k'))
  (fun k a k' b => Bool.rec (motive := fun _ => Option AV) none (binIQ .mul k a b) (Go.X.kEq k k'))
  (fun k a k' b => Bool.rec (motive := fun _ => Option AV) none (binIQ .quo k a b) (Go.X.kEq k k'))
  (fun k a k' b => Bool.rec (motive := fun _ => Option AV) none (binIQ .rem k a b) (Go.X.kEq k k'))
  (fun k a k' b => Bool.rec (motive := fun _ => Option AV) none (binIQ .and k a b) (Go.X.kEq k k'))
  (fun k a k' b => Bool.rec (motive := fun _ => Option AV) none (binIQ .or k a b) (Go.X.kEq k k'))
  (fun k a k' b => Bool.rec (motive := fun _ => Option AV) none (binIQ .xor k a b) (Go.X.kEq k k'))
  (fun k a k' b => binIQ .shl k a b)
  (fun k a k' b => binIQ .shr k a b)
  (fun k a k' b => Bool.rec (motive := fun _ => Option AV) none (binIQ .andNot k a b) (Go.X.kEq k k'))
  (fun k a k' b => Bool.rec (motive := fun _ => Option AV) none (binIQ .eql k a b) (Go.X.kEq k k'))
  (fun k a k' b => Bool.rec (motive := fun _ => Option AV) none (binIQ .neq k a b) (Go.X.kEq k k'))
  (fun k a k' b => Bool.rec (motive := fun _ => Option AV) none (binIQ .lss k a b) (Go.X.kEq k k'))
  (fun k a k' b => Bool.rec (motive := fun _ => Option AV) none (binIQ .leq k a b) (Go.X.kEq k k'))
  (fun k a k' b => Bool.rec (motive := fun _ => Option AV) none (binIQ .gtr k a b) (Go.X.kEq k k'))
  (fun k a k' b => Bool.rec (motive := fun _ => Option AV) none (binIQ .geq k a b) (Go.X.kEq k k'))
  op k a k' b
noncomputable def binA (op : BinOp) (k : IntKind) (a : Int) (v : AV) : Option AV := match v with
  | .int k' b => intOp op k a k' b
  | _ => none
noncomputable def binB (g : Gl) (op : BinOp) (t : TypeId) (x y : Operand) (u v : AV) : Option AV := match op with
  | .eql => ob (eqV g t x y u v) fun b => some (.bool b)
  | .neq => ob (eqV g t x y u v) fun b => some (.bool (!b))
  | _ => none
noncomputable def binC (g : Gl) (op : BinOp) (t : TypeId) (x y : Operand) (u v : AV) : Option AV := match u with
  | .int k a => binA op k a v
  | u => binB g op t x y u v
noncomputable def v_binOpQ (g : Gl) (e : Env) (op : BinOp) (t : TypeId) (x y : Operand) : Option AV := ob (ev e x) fun u => ob (ev e y) (binC g op t x y u)
theorem v_binOpQ_eq (g : Gl) (e : Env) (op : BinOp) (t : TypeId) (x y : Operand) : v_binOpQ g e op t x y = v_binOp g e op t x y := by
  unfold v_binOpQ v_binOp
  congr 1; funext u; congr 1; funext v
  cases u <;> try rfl
  cases v <;> try rfl
  rename_i k a k' b
  show intOp op k a k' b = _
  cases op
  case shl => exact binIQ_eq .shl k a b
  case shr => exact binIQ_eq .shr k a b
  all_goals (show Bool.rec (motive := fun _ => Option AV) none (binIQ _ k a b) (Go.X.kEq k k') = (match Go.X.kEq k k' with | true => binI _ k a b | false => none); rw [binIQ_eq]; cases Go.X.kEq k k' <;> rfl)
noncomputable def sWQ (m : Mem) (o : Option LR) : Option (AV × Mem) := ob o fun r => doK m r fun m => some (r.v, m)
theorem sWQ_eq (m : Mem) (o : Option LR) : sWQ m o = sW m o := by unfold sWQ sW; congr 1; funext r; exact doK_eq m r _
noncomputable def c_buiQ (g : Gl) (e : Env) (m : Mem) (b : Builtin) (args : Array Operand) (ts : Array TypeId) : Option (AV × Mem) := match b with
  | .len => c_len g e m args ts
  | .min => sV m (v_call g e .min args ts)
  | .max => sV m (v_call g e .max args ts)
  | .cap => sV m (v_call g e .cap args ts)
  | b => sWQ m (w_call g e m.t.get m.n b args ts)
theorem c_buiQ_eq (g : Gl) (e : Env) (m : Mem) (b : Builtin) (args : Array Operand) (ts : Array TypeId) : c_buiQ g e m b args ts = c_bui g e m b args ts := by
  cases b <;> first | rfl | exact sWQ_eq _ _
noncomputable def c_callQ (g : Gl) (call : CallF) (e : Env) (m : Mem) (c : Call) : Option (AV × Mem) := Call.rec (fun callee args ts => Callee.rec (motive := fun _ => Option (AV × Mem)) (fun f => c_val g call e m f args) (fun r name => opC g call (.call ⟨.invoke r name, args, ts⟩) e m) (fun b => c_buiQ g e m b args ts) callee) c
theorem c_callQ_eq (g : Gl) (call : CallF) (e : Env) (m : Mem) (c : Call) : c_callQ g call e m c = c_call g call e m c := by
  obtain ⟨cl, args, ts⟩ := c
  cases cl <;> first | rfl | exact c_buiQ_eq _ _ _ _ _ _
noncomputable def stepFQ (g : Gl) (call : CallF) (op : Op) (e : Env) (m : Mem) : Option (AV × Mem) := Op.rec (motive := fun _ => Gl → CallF → Env → Mem → Option (AV × Mem))
  (fun x g call e m => sV m (ev e x))
  (fun x g call e m => sV m (ev e x))
  (fun c a b g call e m => sV m (v_pick g e c a b))
  (fun t g call e m => sWQ m (w_alloc g e m.t.get m.n t))
  (fun t x g call e m => sWQ m (w_box g e m.t.get m.n t x))
  (fun t ps g call e m => sV m (v_build g e t ps))
  (fun t k ps g call e m => sWQ m (w_buildSlice g e m.t.get m.n t k ps))
  (fun _ _ _ _ g call e m => none)
  (fun t x g call e m => sV m (r_load g e m.t.get t x))
  (fun t x y g call e m => sWQ m (w_store g e m.t.get m.n t x y))
  (fun _ g call e m => none)
  (fun _ g call e m => none)
  (fun x g call e m => sV m (v_nilCheck g e x))
  (fun op t x y _ g call e m => sV m (v_binOpQ g e op t x y))
  (fun op _ x g call e m => sV m (v_unOp g e op x))
  (fun s d x g call e m => sV m (v_convert g e s d x))
  (fun _ _ g call e m => none)
  (fun t x g call e m => sV m (v_makeInterface g e t x))
  (fun fn a b g call e m => sV m (v_makeFunc g e fn a b))
  (fun _ r g call e m => sWQ m (w_makeMap g e m.t.get m.n r))
  (fun _ _ g call e m => none)
  (fun t a b g call e m => sWQ m (w_makeSlice g e m.t.get m.n t a b))
  (fun t x lo hi mx g call e m => sV m (v_slice g e t x lo hi mx))
  (fun s x f g call e m => sV m (v_fieldAddr g e s x f))
  (fun s x f g call e m => sV m (v_field g e s x f))
  (fun t x i g call e m => sV m (v_indexAddr g e t x i))
  (fun t x i g call e m => sV m (v_index g e t x i))
  (fun t x i ok g call e m => sV m (r_lookup g e m.t.get t x i ok))
  (fun t a k x g call e m => sWQ m (w_mapUpdate g e m.t.get m.n t a k x))
  (fun _ _ _ g call e m => none)
  (fun _ _ _ _ g call e m => none)
  (fun t x g call e m => sWQ m (w_range g e m.t.get m.n t x))
  (fun x s g call e m => sWQ m (w_next g e m.t.get m.n x s))
  (fun x g call e m => sV m (r_entry g e m.t.get x))
  (fun x _ u ok g call e m => sV m (v_typeAssert g e x u ok))
  (fun t i g call e m => sV m (v_extract g e t i))
  (fun c g call e m => c_callQ g call e m c)
  (fun _ g call e m => none)
  (fun _ g call e m => none)
  (fun _ g call e m => none)
  (fun _ _ g call e m => none)
  (fun _ _ _ g call e m => none)
  (fun _ _ g call e m => none)
  op g call e m
theorem stepFQ_eq (g : Gl) (call : CallF) (op : Op) (e : Env) (m : Mem) : stepFQ g call op e m = stepF g call op e m := by
  cases op <;> first | rfl | exact sWQ_eq _ _ | exact c_callQ_eq _ _ _ _ _ | skip
  case binOp op t x y t2 => show sV m (v_binOpQ g e op t x y) = sV m (v_binOp g e op t x y); rw [v_binOpQ_eq]
noncomputable def dWQ (m : Mem) (t : Option (List Nat)) (o : Option LR) : Option Rec := ob t fun t => ob o fun r => doK m r fun m1 => some ⟨false, r.v, t, wids r m.n, 0, 0, m1⟩
theorem dWQ_eq (m : Mem) (t : Option (List Nat)) (o : Option LR) : dWQ m t o = dW m t o := by unfold dWQ dW; congr 1; funext t; congr 1; funext r; exact doK_eq m r _
noncomputable def d_buiQ (g : Gl) (e : Env) (m : Mem) (b : Builtin) (args : Array Operand) (ts : Array TypeId) : Option Rec := match b with
  | .len => d_len g e m args ts
  | .min => dV m (v_call g e .min args ts)
  | .max => dV m (v_call g e .max args ts)
  | .cap => dV m (v_call g e .cap args ts)
  | b => dWQ m (tchW (.call ⟨.builtin b, args, ts⟩) e) (w_call g e m.t.get m.n b args ts)
theorem d_buiQ_eq (g : Gl) (e : Env) (m : Mem) (b : Builtin) (args : Array Operand) (ts : Array TypeId) : d_buiQ g e m b args ts = d_bui g e m b args ts := by
  cases b <;> first | rfl | exact dWQ_eq _ _ _
noncomputable def d_callQ (g : Gl) (call : CallF) (e : Env) (m : Mem) (c : Call) : Option Rec := Call.rec (fun callee args ts => Callee.rec (motive := fun _ => Option Rec) (fun f => dC m (c_val g call e ⟨m.n, m.t, m.n⟩ f args)) (fun r name => dC m (opC g call (.call ⟨.invoke r name, args, ts⟩) e ⟨m.n, m.t, m.n⟩)) (fun b => d_buiQ g e m b args ts) callee) c
theorem d_callQ_eq (g : Gl) (call : CallF) (e : Env) (m : Mem) (c : Call) : d_callQ g call e m c = d_call g call e m c := by
  obtain ⟨cl, args, ts⟩ := c
  cases cl <;> first | rfl | exact d_buiQ_eq _ _ _ _ _ _
noncomputable def stepDFQ (g : Gl) (call : CallF) (op : Op) (e : Env) (m : Mem) : Option Rec := Op.rec (motive := fun _ => Gl → CallF → Env → Mem → Option Rec)
  (fun x g call e m => dV m (ev e x))
  (fun x g call e m => dV m (ev e x))
  (fun c a b g call e m => dV m (v_pick g e c a b))
  (fun t g call e m => dWQ m (some []) (w_alloc g e m.t.get m.n t))
  (fun t x g call e m => dWQ m (some []) (w_box g e m.t.get m.n t x))
  (fun t ps g call e m => dV m (v_build g e t ps))
  (fun t k ps g call e m => dWQ m (some []) (w_buildSlice g e m.t.get m.n t k ps))
  (fun _ _ _ _ g call e m => none)
  (fun t x g call e m => dR m (tId e x) (r_load g e m.t.get t x))
  (fun t x y g call e m => dWQ m (tId e x) (w_store g e m.t.get m.n t x y))
  (fun _ g call e m => none)
  (fun _ g call e m => none)
  (fun x g call e m => dV m (v_nilCheck g e x))
  (fun op t x y _ g call e m => dV m (v_binOpQ g e op t x y))
  (fun op _ x g call e m => dV m (v_unOp g e op x))
  (fun s d x g call e m => dV m (v_convert g e s d x))
  (fun _ _ g call e m => none)
  (fun t x g call e m => dV m (v_makeInterface g e t x))
  (fun fn a b g call e m => dV m (v_makeFunc g e fn a b))
  (fun _ r g call e m => dWQ m (some []) (w_makeMap g e m.t.get m.n r))
  (fun _ _ g call e m => none)
  (fun t a b g call e m => dWQ m (some []) (w_makeSlice g e m.t.get m.n t a b))
  (fun t x lo hi mx g call e m => dV m (v_slice g e t x lo hi mx))
  (fun s x f g call e m => dV m (v_fieldAddr g e s x f))
  (fun s x f g call e m => dV m (v_field g e s x f))
  (fun t x i g call e m => dV m (v_indexAddr g e t x i))
  (fun t x i g call e m => dV m (v_index g e t x i))
  (fun t x i ok g call e m => dR m (tId e x) (r_lookup g e m.t.get t x i ok))
  (fun t a k x g call e m => dWQ m (tId e a) (w_mapUpdate g e m.t.get m.n t a k x))
  (fun _ _ _ g call e m => none)
  (fun _ _ _ _ g call e m => none)
  (fun _ _ g call e m => none)
  (fun _ _ g call e m => none)
  (fun _ g call e m => none)
  (fun x _ u ok g call e m => dV m (v_typeAssert g e x u ok))
  (fun t i g call e m => dV m (v_extract g e t i))
  (fun c g call e m => d_callQ g call e m c)
  (fun _ g call e m => none)
  (fun _ g call e m => none)
  (fun _ g call e m => none)
  (fun _ _ g call e m => none)
  (fun _ _ _ g call e m => none)
  (fun _ _ g call e m => none)
  op g call e m
theorem stepDFQ_eq (g : Gl) (call : CallF) (op : Op) (e : Env) (m : Mem) : stepDFQ g call op e m = stepDF g call op e m := by
  cases op <;> first | rfl | exact dWQ_eq _ _ _ | exact d_callQ_eq _ _ _ _ _ | skip
  case binOp op t x y t2 => show dV m (v_binOpQ g e op t x y) = dV m (v_binOp g e op t x y); rw [v_binOpQ_eq]
noncomputable def runQ (g : Gl) (call : CallF) (o : Oper) (ih : Env → Mem → Option (Env × Mem)) (e : Env) (m : Mem) : Option (Env × Mem) := ob (stepFQ g call o.op e m) fun r => putK e o.dst r.1 fun e => memK r.2 fun m => ih e m
noncomputable def guardQ (g : Gl) (call : CallF) (all : List Oper) (o : Oper) (ih : Env → Mem → Option (Env × Mem)) (e : Env) (m : Mem) : Option (Env × Mem) := ob (wanted all o e) fun w => Bool.rec (motive := fun _ => Option (Env × Mem)) (putK e o.dst (.tup []) fun e => ih e m) (runQ g call o ih e m) w
noncomputable def evalOpsQ (g : Gl) (call : CallF) (all : List Oper) (os : List Oper) : Env → Mem → Option (Env × Mem) := List.rec (motive := fun _ => Env → Mem → Option (Env × Mem)) (fun e m => some (e, m))
  (fun o _ ih e m => Option.rec (motive := fun _ => Option (Env × Mem)) (runQ g call o ih e m) (fun _ => guardQ g call all o ih e m) o.guard) os
theorem evalOpsQ_eq (g : Gl) (call : CallF) (all : List Oper) : ∀ (os : List Oper) (e : Env) (m : Mem), evalOpsQ g call all os e m = evalOps g call all os e m
  | [], e, m => rfl
  | o :: os, e, m => by
    have ih : ∀ e m, evalOpsQ g call all os e m = evalOps g call all os e m := evalOpsQ_eq g call all os
    have hr : runQ g call o (evalOpsQ g call all os) e m = ob (stepF g call o.op e m) fun r => evalOps g call all os (put e o.dst r.1) r.2 := by
      unfold runQ; rw [stepFQ_eq]; congr 1; funext r; rw [putK_eq, memK_eq]; exact ih _ _
    show Option.rec (motive := fun _ => Option (Env × Mem)) (runQ g call o (evalOpsQ g call all os) e m) (fun _ => guardQ g call all o (evalOpsQ g call all os) e m) o.guard = ob (wanted all o e) fun w => match w with
      | true => ob (stepF g call o.op e m) fun r => evalOps g call all os (put e o.dst r.1) r.2
      | false => evalOps g call all os (put e o.dst (.tup [])) m
    have hg : guardQ g call all o (evalOpsQ g call all os) e m = ob (wanted all o e) fun w => match w with
      | true => ob (stepF g call o.op e m) fun r => evalOps g call all os (put e o.dst r.1) r.2
      | false => evalOps g call all os (put e o.dst (.tup [])) m := by
      unfold guardQ; congr 1; funext w; cases w
      · show putK e o.dst (.tup []) (fun e => evalOpsQ g call all os e m) = _; rw [putK_eq]; exact ih _ _
      · exact hr
    cases h : o.guard with
    | none => rw [show wanted all o e = some true by unfold wanted; rw [h]]; exact hr
    | some x => exact hg
noncomputable def stepDGQ (g : Gl) (call : CallF) (all : List Oper) (o : Oper) (e : Env) (m : Mem) : Option Rec := ob (wanted all o e) fun b => Bool.rec (motive := fun _ => Option Rec) (some ⟨false, .tup [], [], [], 0, 0, m⟩) (stepDFQ g call o.op e m) b
theorem stepDGQ_eq (g : Gl) (call : CallF) (all : List Oper) (o : Oper) (e : Env) (m : Mem) : stepDGQ g call all o e m = stepDG g call all o e m := by
  unfold stepDGQ stepDG; congr 1; funext b; cases b
  · rfl
  · exact stepDFQ_eq g call o.op e m
noncomputable def traceQ (g : Gl) (call : CallF) (all : List Oper) (os : List Oper) : Env → Mem → Option (List Rec × Env × Mem) := List.rec (motive := fun _ => Env → Mem → Option (List Rec × Env × Mem)) (fun e m => some ([], e, m))
  (fun o _ ih e m => ob (stepDGQ g call all o e m) fun r => putK e o.dst r.v fun e => memK r.m1 fun m => ob (ih e m) fun q => some (r :: q.1, q.2)) os
theorem traceQ_eq (g : Gl) (call : CallF) (all : List Oper) : ∀ (os : List Oper) (e : Env) (m : Mem), traceQ g call all os e m = trace g call all os e m
  | [], e, m => rfl
  | o :: os, e, m => by
    show (ob (stepDGQ g call all o e m) fun r => putK e o.dst r.v fun e => memK r.m1 fun m => ob (traceQ g call all os e m) fun q => some (r :: q.1, q.2)) = ob (stepDG g call all o e m) fun r => ob (trace g call all os (put e o.dst r.v) r.m1) fun q => some (r :: q.1, q.2)
    rw [stepDGQ_eq]; congr 1; funext r; rw [putK_eq, memK_eq, traceQ_eq g call all os]
noncomputable def evalDrawQ (g : Gl) (call : CallF) (ops : List Oper) (e : Env) (m : Mem) : Option (Env × Mem) := ob (traceQ g call ops ops e m) fun q => chk (calm ops q.1) (some q.2)
abbrev SelfF := Code → Env → Mem → Option Out
noncomputable def resK (g : Gl) (res : List ResultVar) (o : Out) : Option (AV × Mem) := ob (resA g o.e o.m res) fun rs => fAV (pack rs) fun v => memK o.m fun m => some (v, m)
noncomputable def retQ (g : Gl) (res : List ResultVar) (o : Out) : Option (AV × Mem) := Ex.rec (motive := fun _ => Gl → List ResultVar → Out → Option (AV × Mem)) resK (fun _ _ _ _ => none) resK o.x g res o
noncomputable def callBQ (g : Gl) (self : SelfF) : CallF := fun f vs m => ob (g.fn.get f) fun fi => chk (Nat.ble (len vs) fi.ntmps) (argK vs 0 .e fun e => ob (self fi.body e m) (retQ g fi.res))
theorem callBQ_eq (g : Gl) (self : SelfF) (f : FuncId) (vs : List AV) (m : Mem) : callBQ g self f vs m = callB g self f vs m := by
  unfold callBQ callB
  congr 1; funext fi; congr 1
  rw [argK_eq]
  congr 1; funext o
  unfold retQ
  have hr : resK g fi.res o = ob (resA g o.e o.m fi.res) fun rs => some (pack rs, o.m) := by unfold resK; congr 1; funext rs; rw [fAV_eq, memK_eq]
  cases hx : o.x <;> first | exact hr | rfl
noncomputable def callFQ (g : Gl) (self : SelfF) : CallF := fun f vs m => match g.sp.get f with
  | some h => h vs m
  | none => callBQ g self f vs m
theorem callFQ_eq (g : Gl) (self : SelfF) : callFQ g self = callF g self := by
  funext f vs m
  unfold callFQ callF
  cases g.sp.get f with
  | none => exact callBQ_eq g self f vs m
  | some h => rfl
noncomputable def nrmQ (r : Env × Mem) : Option Out := some ⟨.nrm, r.1, r.2⟩
noncomputable def seqQ (self : SelfF) (b : Code) (o : Out) : Option Out := Ex.rec (motive := fun _ => SelfF → Code → Out → Option Out) (fun self b o => self b o.e o.m) (fun _ self b o => some o) (fun self b o => some o) o.x self b o
noncomputable def condQ (self : SelfF) (a b : Code) (e : Env) (m : Mem) (v : AV) : Option Out := match v with
  | .bool t => Bool.rec (motive := fun _ => Option Out) (self b e m) (self a e m) t
  | _ => none
noncomputable def blockQ (i : Nat) (o : Out) : Option Out := Ex.rec (motive := fun _ => Nat → Out → Option Out) (fun i o => some o) (fun j i o => Bool.rec (motive := fun _ => Option Out) (some o) (some ⟨.nrm, o.e, o.m⟩) (Nat.beq j i)) (fun i o => some o) o.x i o
noncomputable def evalFQ (g : Gl) (self : SelfF) (c : Code) (e : Env) (m : Mem) : Option Out := Code.rec (motive := fun _ => Gl → SelfF → Env → Mem → Option Out)
  (fun g self e m => some ⟨.nrm, e, m⟩)
  (fun _ ops d g self e m => Bool.rec (motive := fun _ => Option Out) (ob (evalOpsQ g (callFQ g self) ops.toList ops.toList e m) nrmQ) (ob (evalDrawQ g (callFQ g self) ops.toList e m) nrmQ) d)
  (fun a b _ _ g self e m => ob (self a e m) (seqQ self b))
  (fun c a b _ _ g self e m => ob (ev e c) (condQ self a b e m))
  (fun i c _ g self e m => ob (self c e m) (blockQ i))
  (fun c _ g self e m => ob (self c e m) (seqQ self (.loop c)))
  (fun _ _ _ _ _ _ g self e m => none)
  (fun i g self e m => some ⟨.ext i, e, m⟩)
  (fun c _ g self e m => self c e m)
  (fun _ g self e m => some ⟨.nrm, e, m⟩)
  (fun _ g self e m => none)
  (fun g self e m => some ⟨.ret, e, m⟩)
  (fun _ g self e m => none)
  c g self e m
theorem seqQ_eq (self : SelfF) (b : Code) (o : Out) : seqQ self b o = match o.x with
    | .nrm => self b o.e o.m
    | _ => some o := by
  unfold seqQ; cases o.x <;> rfl
theorem evalFQ_eq (g : Gl) (self : SelfF) (c : Code) (e : Env) (m : Mem) : evalFQ g self c e m = evalF g self c e m := by
  cases c <;> try rfl
  case region i ops d =>
    cases d
    · show ob (evalOpsQ g (callFQ g self) ops.toList ops.toList e m) nrmQ = _; rw [callFQ_eq, evalOpsQ_eq]; rfl
    · show ob (evalDrawQ g (callFQ g self) ops.toList e m) nrmQ = _; rw [callFQ_eq]; unfold evalDrawQ; rw [traceQ_eq]; rfl
  case seq a b => show ob (self a e m) (seqQ self b) = _; unfold evalF; congr 1; funext o; exact seqQ_eq self b o
  case cond c a b =>
    show ob (ev e c) (condQ self a b e m) = _; unfold evalF; congr 1; funext v
    cases v <;> try rfl
    rename_i t; cases t <;> rfl
  case block i c =>
    show ob (self c e m) (blockQ i) = _; unfold evalF; congr 1; funext o
    unfold blockQ
    cases o.x <;> try rfl
    rename_i j
    show Bool.rec (motive := fun _ => Option Out) (some o) (some ⟨.nrm, o.e, o.m⟩) (Nat.beq j i) = (match Nat.beq j i with | true => some ⟨.nrm, o.e, o.m⟩ | false => some o)
    cases Nat.beq j i <;> rfl
  case loop c => show ob (self c e m) (seqQ self (.loop c)) = _; unfold evalF; congr 1; funext o; exact seqQ_eq self (.loop c) o
noncomputable def evalQ (g : Gl) (n : Nat) : SelfF := Nat.rec (motive := fun _ => SelfF) (fun _ _ _ => none) (fun _ ih => evalFQ g ih) n
theorem evalQ_eq (g : Gl) : ∀ n, evalQ g n = eval g n
  | 0 => rfl
  | n + 1 => by
    show evalFQ g (evalQ g n) = evalF g (eval g n)
    rw [evalQ_eq g n]
    funext c e m
    exact evalFQ_eq g _ c e m
theorem calls_q {P : Program} {g : Gl} {n : Nat} (h : CallOk P g (callF g (eval g n))) : CallOk P g (callF g (evalQ g n)) := by rw [evalQ_eq]; exact h
/-- What comes out, made plain. -/
noncomputable def snap (o : Option Out) : Option Out := ob o fun o => fEx o.x fun x => fT fAV o.e fun e => nat1 o.m.n fun n => fT fOb o.m.t fun t => nat1 o.m.lw fun lw => some (⟨x, e, ⟨n, t, lw⟩⟩ : Out)
theorem snap_eq (o : Option Out) : snap o = o := by
  cases o with
  | none => rfl
  | some o =>
    show fEx o.x (fun x => fT fAV o.e fun e => nat1 o.m.n fun n => fT fOb o.m.t fun t => nat1 o.m.lw fun lw => some (⟨x, e, ⟨n, t, lw⟩⟩ : Out)) = _
    rw [fEx_eq, fT_eq fAV_eq, nat1_eq, fT_eq fOb_eq, nat1_eq]
/-! ### code cut in two -/
noncomputable def preC : Nat → Code → Code := fun k => Nat.rec (motive := fun _ => Code → Code) (fun _ => .skip) (fun _ ih c => match c with | .seq a b => .seq a (ih b) | c => .refuse "") k
noncomputable def cutC : Nat → Code → Code := fun k => Nat.rec (motive := fun _ => Code → Code) (fun c => c) (fun _ ih c => match c with | .seq a b => ih b | c => .refuse "") k
theorem cut_eval {g : Gl} {n : Nat} : ∀ (k : Nat) {c : Code} {e : Env} {m : Mem} {e1 : Env} {m1 : Mem}, evalQ g (n + 1 + k) (preC k c) e m = some ⟨.nrm, e1, m1⟩ → evalQ g (n + 1 + k) c e m = evalQ g (n + 1) (cutC k c) e1 m1
  | 0, c, e, m, e1, m1, h => by
    have h : some (⟨.nrm, e, m⟩ : Out) = some ⟨.nrm, e1, m1⟩ := h
    cases h; rfl
  | k + 1, c, e, m, e1, m1, h => by
    cases c
    case seq a b =>
      have h : ob (evalQ g (n + 1 + k) a e m) (seqQ (evalQ g (n + 1 + k)) (preC k b)) = some ⟨.nrm, e1, m1⟩ := h
      show ob (evalQ g (n + 1 + k) a e m) (seqQ (evalQ g (n + 1 + k)) b) = evalQ g (n + 1) (cutC k b) e1 m1
      obtain ⟨o, h1, h2⟩ := ob_some h
      rw [h1]
      rw [seqQ_eq] at h2
      show seqQ (evalQ g (n + 1 + k)) b o = _
      rw [seqQ_eq]
      cases hx : o.x with
      | nrm => rw [hx] at h2; exact cut_eval k h2
      | ext i =>
        rw [hx] at h2
        have h2 : some o = some _ := h2
        cases h2; cases hx
      | ret =>
        rw [hx] at h2
        have h2 : some o = some _ := h2
        cases h2; cases hx
    all_goals cases h
/-- A call, by the run of its body. -/
theorem call_eval {g : Gl} {n : Nat} {f : FuncId} {fi : FnI} {vs : List AV} {m : Mem} {o : Out} {rs : List AV} (hs : g.sp.get f = none) (hf : g.fn.get f = some fi) (hl : Nat.ble (len vs) fi.ntmps = true)
    (hb : evalQ g n fi.body (argE vs 0 .e) m = some o) (hx : o.x = .ret) (hr : resA g o.e o.m fi.res = some rs) : callF g (evalQ g n) f vs m = some (pack rs, o.m) := by
  unfold callF
  rw [hs]
  show callB g (evalQ g n) f vs m = _
  unfold callB
  rw [hf]
  show chk (Nat.ble (len vs) fi.ntmps) _ = _
  rw [hl]
  show ob (evalQ g n fi.body (argE vs 0 .e) m) _ = _
  rw [hb]
  show (match o.x with | .ext _ => none | _ => ob (resA g o.e o.m fi.res) fun rs => some (pack rs, o.m)) = _
  rw [hx]
  show ob (resA g o.e o.m fi.res) _ = _
  rw [hr]; rfl
/-- The last piece: it returns true. -/
noncomputable def endT (g : Gl) (rs : List ResultVar) (o : Option Out) : Bool := match o with
  | some o => match o.x with
    | .ret => match resA g o.e o.m rs with
      | some [.bool true] => true
      | _ => false
    | _ => false
  | none => false
theorem endT_call {g : Gl} {n : Nat} {f : FuncId} {fi : FnI} {m : Mem} (hs : g.sp.get f = none) (hf : g.fn.get f = some fi) (h : endT g fi.res (evalQ g n fi.body .e m) = true) : isT (callF g (evalQ g n) f [] m) = true := by
  unfold endT at h
  split at h
  · rename_i o ho
    split at h
    · rename_i hx
      split at h
      · rename_i hr
        rw [call_eval hs hf rfl ho hx hr]; rfl
      · cases h
    · cases h
  · cases h
end Go.Y
namespace Go.Y
set_option linter.constructorNameAsVariable false
/-- n times a, then l. -/
noncomputable def rp (n : Nat) (a : AV) (l : List AV) : List AV := Nat.rec (motive := fun _ => List AV) l (fun _ r => a :: r) n
abbrev iv (n : Nat) : AV := .int .i64 (.ofNat n)
theorem cut_snap {g : Gl} {n : Nat} (k : Nat) {c : Code} {e : Env} {m : Mem} {e1 : Env} {m1 : Mem} (h : snap (evalQ g (n + 1 + k) (preC k c) e m) = some ⟨.nrm, e1, m1⟩) : evalQ g (n + 1 + k) c e m = evalQ g (n + 1) (cutC k c) e1 m1 := cut_eval k (by rw [← h, snap_eq])
end Go.Y

/- The evaluator: a page's number in the page map, by its law (package pagemap, Get). -/
namespace Go.Y
open Go.X (TK TyI Fr FP Tab RO pt Trip)
set_option linter.unusedVariables false
set_option linter.unusedSimpArgs false
set_option linter.constructorNameAsVariable false
/-- What Get finds: nothing, nothing, or a number. -/
inductive PmAt (w : World) (S : FP) (n : Nat) (z : Int) : Value → Prop where
  | no : z = 0 → PmAt w S n z (.pointer none)
  | no2 (b : Nat) (ds : List Value) (t : TypeId) : z = 0 → RO w S (pt b ds t) → ds[n / 8 % 8]? = some (.pointer none) → PmAt w S n z (.pointer (some ⟨b, 0, none⟩))
  | full (b : Nat) (ds : List Value) (t : TypeId) (c : Nat) (es : List Value) (t2 : TypeId) : RO w S (pt b ds t) → ds[n / 8 % 8]? = some (.pointer (some ⟨c, 0, none⟩)) → RO w S (pt c es t2) → es[n % 8]? = some (.int .i64 z) → PmAt w S n z (.pointer (some ⟨b, 0, none⟩))
structure GetC (P : Program) (f : FuncId) : Prop where
  run : ∀ (b : Nat) (cs : List Value) (t : TypeId) (n : Nat) (z : Int) (x : Value) (w : World), RO w (fun _ => False) (pt b cs t) → cs[0]? = some (.bool true) → n < 1024 → cs[1 + n / 8 / 8]? = some x → PmAt w (fun _ => False) n z x →
    Trip P f #[.pointer (some ⟨b, 0, none⟩), .int .i64 n] w (fun _ => False) fun v L => v = .int .i64 z ∧ L = []
noncomputable def pm2 (m : Mem) (n : Nat) (y : AV) : Option (AV × Mem) := match y with
  | .pnil => some (.int .i64 (.ofNat 0), m)
  | .ptr l 0 => ob (cellsOf m.t.get l) fun q => chk (!q.2.2) (ob (lget q.2.1 (n % 8)) fun v => match v with
    | .int .i64 z => some (.int .i64 z, m)
    | _ => none)
  | _ => none
noncomputable def pm1 (m : Mem) (n : Nat) (x : AV) : Option (AV × Mem) := match x with
  | .pnil => some (.int .i64 (.ofNat 0), m)
  | .ptr j 0 => ob (cellsOf m.t.get j) fun d => chk (!d.2.2) (ob (lget d.2.1 (n / 8 % 8)) (pm2 m n))
  | _ => none
noncomputable def pm0 (m : Mem) (n : Nat) (cs : List AV) : Option (AV × Mem) := match cs with
  | .bool true :: ms => ob (lget ms (n / 8 / 8)) (pm1 m n)
  | _ => none
noncomputable def spGet (vs : List AV) (m : Mem) : Option (AV × Mem) := match vs with
  | [.ptr i 0, .int .i64 (.ofNat n)] => chk (Nat.blt n 1024) (ob (cellsOf m.t.get i) fun c => chk (!c.2.2) (pm0 m n c.2.1))
  | _ => none
section
variable {ρ : Rho} {m : Mem} {w0 : Base} {w : World}
theorem closed_at (hm : MR ρ m.t.get w0 w) {i : Nat} {q : TypeId × List AV × Bool} (h : cellsOf m.t.get i = some q) (hc : (!q.2.2) = true) {u : Value} (hu : VR ρ (.ptr i 0) u) : ∃ (b : Nat) (cs : List Value), u = .pointer (some ⟨b, 0, none⟩) ∧ RO w (fun _ => False) (pt b cs q.1) ∧ VRL ρ q.2.1 cs := by
  obtain ⟨x, cs, h1, h2, h3, h4, h5, h6, _⟩ := cells_at hm h
  have hf : q.2.2 = false := by simpa using hc
  obtain ⟨d0, dN⟩ := h6 hf
  simp only [VR] at hu
  obtain ⟨y, hy, rfl⟩ := hu
  rw [h1] at hy; cases hy
  rw [d0] at h5
  refine ⟨x.b, cs, by rw [d0], ⟨fun k => k = x.b, ⟨fun _ => Iff.rfl, h2⟩, fun _ _ h => h⟩, ?_⟩
  rw [List.drop_zero, ← dN, ← h3, List.take_length] at h5
  exact h5
theorem at_of {l : List AV} {cs : List Value} (h : VRL ρ l cs) {i : Nat} {a : AV} (hi : lget l i = some a) : ∃ v, cs[i]? = some v ∧ VR ρ a v := by
  rw [lget_eq] at hi
  exact h.get hi
theorem get_sp {P : Program} {g : Gl} {f : FuncId} (hc : GetC P f) (hf : Go.X.FnOk P f) : SpR P g f spGet := by
  have key : ∀ (vs : List AV) (m : Mem) (v : AV) (m' : Mem), spGet vs m = some (v, m') → ∃ i n c z x, vs = [.ptr i 0, .int .i64 (.ofNat n)] ∧ n < 1024 ∧ cellsOf m.t.get i = some c ∧ (!c.2.2) = true ∧ (∃ ms, c.2.1 = .bool true :: ms ∧ lget ms (n / 8 / 8) = some x) ∧ m' = m ∧ v = .int .i64 z ∧ pm1 m n x = some (.int .i64 z, m) := by
    intro vs m v m' h
    unfold spGet at h
    split at h
    · rename_i i n
      obtain ⟨h1, h⟩ := chk_some h
      obtain ⟨c, h2, h⟩ := ob_some h
      obtain ⟨h3, h⟩ := chk_some h
      unfold pm0 at h
      split at h
      · rename_i ms hms
        obtain ⟨x, h4, h⟩ := ob_some h
        have hz : ∃ z, v = .int .i64 z ∧ m' = m := by
          unfold pm1 at h
          split at h
          · cases h; exact ⟨_, rfl, rfl⟩
          · obtain ⟨d, _, h⟩ := ob_some h
            obtain ⟨_, h⟩ := chk_some h
            obtain ⟨y, _, h⟩ := ob_some h
            unfold pm2 at h
            split at h
            · cases h; exact ⟨_, rfl, rfl⟩
            · obtain ⟨q, _, h⟩ := ob_some h
              obtain ⟨_, h⟩ := chk_some h
              obtain ⟨v', _, h⟩ := ob_some h
              split at h
              · cases h; exact ⟨_, rfl, rfl⟩
              · cases h
            · cases h
          · cases h
        obtain ⟨z, rfl, rfl⟩ := hz
        exact ⟨i, n, c, z, x, rfl, by simpa [Nat.blt_eq] using h1, h2, h3, ⟨ms, hms, h4⟩, rfl, rfl, h⟩
      · cases h
    · cases h
  refine ⟨fun vs m v m' h hw => ?_, fun vs m v m' h hwm w0 ρ w us hg hv hm hfree => ⟨hf, ?_⟩⟩
  · obtain ⟨_, _, _, _, _, _, _, _, _, _, rfl, _⟩ := key vs m v m' h
    exact .refl m'
  · obtain ⟨i, n, c, z, x, rfl, hn, h2, h3, ⟨ms, h4, h5⟩, rfl, rfl, h6⟩ := key vs m v m' h
    obtain ⟨u0, us, rfl, k0, hv⟩ := hv.cons_inv
    obtain ⟨u1, us, rfl, k1, hv⟩ := hv.cons_inv
    obtain rfl := hv.nil_inv
    obtain ⟨b, cs, rfl, hb, hcs⟩ := closed_at hm h2 h3 k0
    have hk1 : u1 = .int .i64 (n : Int) := k1.int_inv
    subst hk1
    rw [h4] at hcs
    obtain ⟨v0, cs', rfl, q0, q1⟩ := hcs.cons_inv
    obtain rfl : v0 = .bool true := by simpa only [VR] using q0
    obtain ⟨xv, hx, hxv⟩ := at_of q1 h5
    have hp : PmAt w (fun _ => False) n z xv := by
      unfold pm1 at h6
      split at h6
      · obtain rfl : xv = .pointer none := by simpa only [VR] using hxv
        exact .no (by cases h6; rfl)
      · rename_i j
        obtain ⟨d, e1, h6⟩ := ob_some h6
        obtain ⟨e2, h6⟩ := chk_some h6
        obtain ⟨y, e3, h6⟩ := ob_some h6
        obtain ⟨b2, ds, rfl, hb2, hds⟩ := closed_at hm e1 e2 hxv
        obtain ⟨yv, hy, hyv⟩ := at_of hds e3
        unfold pm2 at h6
        split at h6
        · obtain rfl : yv = .pointer none := by simpa only [VR] using hyv
          exact .no2 b2 ds _ (by cases h6; rfl) hb2 hy
        · obtain ⟨q, f1, h6⟩ := ob_some h6
          obtain ⟨f2, h6⟩ := chk_some h6
          obtain ⟨v', f3, h6⟩ := ob_some h6
          obtain ⟨b3, es, rfl, hb3, hes⟩ := closed_at hm f1 f2 hyv
          obtain ⟨zv, hz, hzv⟩ := at_of hes f3
          split at h6
          · cases h6
            obtain rfl : zv = .int .i64 z := by simpa only [VR] using hzv
            exact .full b2 ds _ b3 es _ hb2 hy hb3 hz
          · cases h6
        · cases h6
      · cases h6
    have := (hc.run b (.bool true :: cs') c.1 n z xv w hb rfl hn (by rw [Nat.add_comm]; simpa using hx) hp).2
    refine this.mono ?_
    rintro _ w' ⟨v, L, rfl, ⟨rfl, rfl⟩, hI⟩
    exact ⟨_, ρ, rfl, .refl ρ, by simp only [VR], hm.quiet hI.1, .refl _ _ _⟩
end
end Go.Y
