/- The evaluator: regions that draw their order: one operation, in whatever order. -/
import Derived.Test.YtkkeimpmafllpaaGreatDoorYC
import Derived.LoopN
import Derived.Scope
namespace Go.Y
open Go.X (TK TyI Fr FP Tab TabOk CtxOk depsOf backB closB)
set_option linter.unusedVariables false
set_option linter.unusedSimpArgs false
set_option linter.constructorNameAsVariable false
set_option linter.unusedSectionVars false

theorem T.All.mono {α : Type} : ∀ {t : T α} {p q : Nat → α → Prop}, (∀ i v, p i v → q i v) → T.All p t → T.All q t
  | .e, _, _, _, _ => trivial
  | .n l v r, p, q, h, k => ⟨by
      have := k.1
      cases v with
      | none => trivial
      | some x => exact h 0 x this, T.All.mono (fun i v => h _ v) k.2.1, T.All.mono (fun i v => h _ v) k.2.2⟩
/-- Slots, by a function. -/
def SR (ρ : Rho) (X : Nat → Option AV) (a : Act) : Prop := ∀ t v, X t = some v → ∃ u, a.tmps[t]? = some u ∧ VR ρ v u
noncomputable def cut (e : Env) : List Nat → Env
  | [] => .e
  | t :: l => match e.get t with
    | some v => (cut e l).set v t
    | none => cut e l
theorem cut_get {e : Env} {k : Nat} : ∀ {l : List Nat}, (cut e l).get k = if k ∈ l then e.get k else none
  | [] => by simp [cut, T.get_e]
  | t :: l => by
    unfold cut
    cases ht : e.get t with
    | none =>
      simp only [cut_get (l := l), List.mem_cons]
      by_cases h : k = t
      · subst h; simp [ht]
      · simp [h]
    | some v =>
      simp only [T.get_set, cut_get (l := l), List.mem_cons]
      by_cases h : k = t
      · subst h; simp [ht]
      · simp [h]
theorem MR.eq {ρ : Rho} {f f' : Nat → Option AObj} {w0 : Base} {w : World} (h : MR ρ f w0 w) (k : ∀ i, f' i = f i) : MR ρ f' w0 w := by
  rw [show f' = f from funext k]; exact h
/-- The world now, and the blocks of a memory's objects. -/
def baseOf (ρ : Rho) (m : Mem) (w : World) : Base := ⟨w, fun b => ∃ k o x, m.t.get k = some o ∧ live o ∧ ρ k = some x ∧ x.b = b⟩
section
variable {P : Program} {tab : Tab} {g : Gl} (hG : GOk P tab g) (hI : GInv P g) {ρ : Rho} {a : Act} {w0 : Base} {w : World} {call : CallF}
theorem GlOk.base {m : Mem} {F : Nat → Option AObj} (hg : GlOk g w0) (hm : MR ρ F w0 w) (hF : ∀ k, k < m.n → F k = m.t.get k) (hwm : Wm m) : GlOk g (baseOf ρ m w) := by
  unfold GlOk at *
  refine T.All.mono (fun i l h => ?_) hg
  obtain ⟨cs, t, fr, h1, h2, h3⟩ := h
  have hlt := (Array.getElem?_eq_some_iff.1 h1).1
  refine ⟨cs, t, fr, by show w.heap[i]? = _; rw [hm.fr.blk i hlt h3]; exact h1, h2, ?_⟩
  rintro ⟨k, o, x, h4, h5, h6, h7⟩
  have hk : k < m.n := Nat.lt_of_not_le fun hh => by rw [hwm k hh] at h4; cases h4
  obtain ⟨y, a1, _, a3⟩ := hm.at' k o ((hF k hk).trans h4) h5
  rw [h6] at a1; cases a1
  rw [h7] at a3
  rcases a3 with a3 | a3
  · exact h3 a3
  · omega
theorem MR.base {m : Mem} {F : Nat → Option AObj} (hm : MR ρ F w0 w) (hF : ∀ k, k < m.n → F k = m.t.get k) (hwm : Wm m) : MR ρ m.t.get (baseOf ρ m w) w := by
  have lt : ∀ {k o}, m.t.get k = some o → k < m.n := fun {k o} h => Nat.lt_of_not_le fun hh => by rw [hwm k hh] at h; cases h
  refine ⟨.refl _ _, fun i o hi hl => ?_, fun i j oi oj x y hi hli hj hlj => ?_⟩
  · obtain ⟨x, h1, h2, _⟩ := hm.at' i o ((hF i (lt hi)).trans hi) hl
    exact ⟨x, h1, h2, .inl ⟨i, o, x, hi, hl, h1, rfl⟩⟩
  · exact hm.inj i j oi oj x y ((hF i (lt hi)).trans hi) hli ((hF j (lt hj)).trans hj) hlj
theorem MR.unbase {m m' : Mem} {F F' : Nat → Option AObj} {ρ' : Rho} {w' : World} (hm : MR ρ F w0 w) (hF : ∀ k, k < m.n → F k = m.t.get k) (hwm : Wm m) (hle : ρ.le ρ') (h : MR ρ' m'.t.get (baseOf ρ m w) w') (hlow : ∀ k, k < m'.n → F' k = m'.t.get k) (hhigh : ∀ k, m'.n ≤ k → F' k = F k) (hn : m.n ≤ m'.n) : MR ρ' F' w0 w' := by
  have lt : ∀ {k o}, m.t.get k = some o → k < m.n := fun {k o} h => Nat.lt_of_not_le fun hh => by rw [hwm k hh] at h; cases h
  have own : ∀ b, (baseOf ρ m w).own b → w0.own b := fun b hb => by
    rcases hb with ⟨k, o, x, h1, h2, h3, rfl⟩ | hb
    · obtain ⟨y, a1, _, a3⟩ := hm.at' k o ((hF k (lt h1)).trans h1) h2
      rw [h3] at a1; cases a1; exact a3
    · exact .inr (Nat.le_trans hm.fr.size hb)
  -- a block of a name behind: not the call's
  have far : ∀ k o x, m'.n ≤ k → F k = some o → live o → ρ k = some x → ¬ (baseOf ρ m w).S x.b := fun k o x hk hF1 hl hx => by
    rintro ⟨j, oj, y, h1, h2, h3, h4⟩
    have hj := lt h1
    have := hm.inj j k oj o y x ((hF j hj).trans h1) h2 hF1 hl h3 hx h4
    omega
  have hS : ∀ b, (baseOf ρ m w).S b → w0.own b := fun b hb => own b (.inl hb)
  refine ⟨Fr.trans' hm.fr h.fr hS, fun k o hk hl => ?_, fun i j oi oj x y hi hli hj hlj hx hy hxy => ?_⟩
  · by_cases hkn : k < m'.n
    · obtain ⟨x, h1, h2, h3⟩ := h.at' k o ((hlow k hkn).symm.trans hk) hl
      exact ⟨x, h1, h2, own _ h3⟩
    · rw [hhigh k (by omega)] at hk
      obtain ⟨x, h1, h2, h3⟩ := hm.at' k o hk hl
      have hlt := hm.lt hk hl h1
      exact ⟨x, hle k x h1, by rw [h.fr.blk x.b hlt (far k o x (by omega) hk hl h1)]; exact h2.mono hle, h3⟩
  · have high : ∀ k o x, ¬ k < m'.n → F' k = some o → live o → ρ' k = some x → ρ k = some x ∧ F k = some o ∧ x.b < w.heap.size ∧ ¬ (baseOf ρ m w).S x.b := fun k o x hkn hk hl hx => by
      rw [hhigh k (by omega)] at hk
      obtain ⟨y, h1, _, _⟩ := hm.at' k o hk hl
      have := hle k y h1
      rw [hx] at this; cases this
      exact ⟨h1, hk, hm.lt hk hl h1, far k o x (by omega) hk hl h1⟩
    have low : ∀ k o x, k < m'.n → F' k = some o → live o → ρ' k = some x → (baseOf ρ m w).own x.b := fun k o x hkn hk hl hx => by
      obtain ⟨y, h1, _, h3⟩ := h.at' k o ((hlow k hkn).symm.trans hk) hl
      rw [hx] at h1; cases h1; exact h3
    by_cases hin : i < m'.n
    · by_cases hjn : j < m'.n
      · exact h.inj i j oi oj x y ((hlow i hin).symm.trans hi) hli ((hlow j hjn).symm.trans hj) hlj hx hy hxy
      · obtain ⟨b1, b2, b3, b4⟩ := high j oj y hjn hj hlj hy
        rcases low i oi x hin hi hli hx with h5 | h5
        · rw [hxy] at h5; exact absurd h5 b4
        · have h5 : w.heap.size ≤ x.b := h5
          omega
    · obtain ⟨b1, b2, b3, b4⟩ := high i oi x hin hi hli hx
      by_cases hjn : j < m'.n
      · rcases low j oj y hjn hj hlj hy with h5 | h5
        · rw [← hxy] at h5; exact absurd h5 b4
        · have h5 : w.heap.size ≤ y.b := h5
          omega
      · obtain ⟨c1, c2, c3, c4⟩ := high j oj y hjn hj hlj hy
        exact hm.inj i j oi oj x y b2 hli c2 hlj b1 c1 hxy
include hG hI
theorem stepD_ok (hcall : CallOk P g call) (hg : GlOk g w0) {all : List Oper} {o : Oper} {e : Env} {m : Mem} {r : Rec} (h : stepD g call all o e m = some r) {X : Nat → Option AV} {F : Nat → Option AObj} (hwm : Wm m) (hX : SR ρ X a) (hd : a.defers = []) (hsl : ∀ t ∈ slotsOf all o, X t = e.get t) (hF : MR ρ F w0 w)
    (ht : ∀ k ∈ r.t, F k = m.t.get k) (hc : r.call = true → ∀ k, k < m.n → F k = m.t.get k) (hfree : Free ρ m.n r.m1.n) {K : Act → World → Prop} {Q : Exit → Act → World → Prop}
    (hK : ∀ u ρ' w', ρ.le ρ' → VR ρ' r.v u → MR ρ' (fun k => if wrt r k = true then r.m1.t.get k else F k) w0 w' → Ext ρ ρ' m.n r.m1.n → K (a.put o.dst u) w') :
    if Region.wanted o (yielded ⟨all⟩ a.tmps) then o.wp P a w K Q ∨ (o.asks P a w ∧ LetsOut Q) else K (a.put o.dst undef) w := by
  have hsl' : ∀ t ∈ slotsOf all o, (cut e (slotsOf all o)).get t = e.get t := fun t ht => by rw [cut_get, if_pos ht]
  have her : ER ρ (cut e (slotsOf all o)) a := fun t v hv => by
    rw [cut_get] at hv
    split at hv
    · rename_i h1; exact hX t v ((hsl t h1).trans hv)
    · cases hv
  obtain ⟨b, h1, h⟩ := ob_some h
  rw [← wanted_congr hsl'] at h1
  have hev := ev_slots hsl'
  have hw := wanted_ok her h1
  have quiet : ∀ {v}, (∃ u, VR ρ v u ∧ (execOp a.eval o).run P w = .ok (.value u) w) → (∀ u, VR ρ v u → K (a.put o.dst u) w) → o.wp P a w K Q := by
    rintro v ⟨u, h1, h2⟩ hn
    unfold Oper.wp
    rw [h2]
    exact hn u h1
  cases b with
  | false =>
    cases h
    rw [if_neg (by rw [hw]; exact Bool.false_ne_true)]
    exact hK undef ρ w (.refl _) (by simp only [VR]; exact ⟨[], rfl, .nil⟩) hF (.refl _ _ _)
  | true =>
    rw [if_pos hw]
    refine .inl ?_
    simp only at h
    split at h
    · obtain ⟨v, h2, h⟩ := ob_some h
      cases h
      exact quiet (opV_ok hG her hd ((opV_congr hev).trans h2) w) fun u hu => hK u ρ w (.refl _) hu hF (.refl _ _ _)
    · obtain ⟨t, h2, h⟩ := ob_some h
      obtain ⟨v, h3, h⟩ := ob_some h
      cases h
      have h4 : opR g o.op (cut e (slotsOf all o)) F = some v := by
        rw [opR_congr hev, opR_tch h2 ht]; exact h3
      exact quiet (opR_ok hG her hd hF hg h4) fun u hu => hK u ρ w (.refl _) hu hF (.refl _ _ _)
    · obtain ⟨t, h2, h⟩ := ob_some h
      obtain ⟨q, h3, h⟩ := ob_some h
      cases h
      have h4 : opW g o.op (cut e (slotsOf all o)) F m.n = some q := by
        rw [opW_congr hev, opW_tch h2 ht]; exact h3
      have hnn := doLR_n m q
      have hlt : q.new ≠ none → m.n < (doLR m q).n := fun hq => by
        cases hr : q.new with
        | none => exact absurd hr hq
        | some o => rw [hnn, hr]; exact Nat.lt_succ_self _
      refine opW_ok hG her hd hF (fun hq => hfree m.n (Nat.le_refl _) (hlt hq)) h4 K Q fun u ρ' w' q1 q2 q3 q4 => hK u ρ' w' q1 q2 (q3.eq fun k => ?_) fun i hi => ?_
      · show (if (wids q m.n).contains k = true then (doLR m q).t.get k else F k) = _
        rw [doLR_get, List.contains_eq_mem]
        by_cases hk : k ∈ wids q m.n
        · rw [if_pos (by simpa using hk)]; exact applyF_in hk
        · rw [if_neg (by simpa using hk)]; exact (applyF_out hk).symm
      · rcases q4 i hi with h5 | ⟨rfl, h5⟩
        · exact .inl h5
        · exact .inr ⟨Nat.le_refl _, hlt h5⟩
    · obtain ⟨⟨v, m'⟩, h2, h⟩ := ob_some h
      cases h
      have hF' := hc rfl
      have hf := opC_fm hcall h2 hwm
      have hlw : m'.lw ≤ m.n := hf.lw
      have hn : m.n ≤ m'.n := hf.n
      refine opC_ok hI hcall (m := ⟨m.n, m.t, m.n⟩) (m' := m') (w0 := baseOf ρ m w) hwm her hd (GlOk.base hg hF hF' hwm) (MR.base hF hF' hwm) hfree ((opC_congr hev).trans h2) fun u ρ' w' q1 q2 q3 q4 => hK u ρ' w' q1 q2 ?_ q4
      refine MR.unbase hF hF' hwm q1 q3 (fun k hk => ?_) (fun k hk => ?_) hn
      · show (if inW ⟨true, v, [], [], m'.lw, m'.n, _⟩ k = true then m'.t.get k else F k) = _
        by_cases hk' : m'.lw ≤ k
        · rw [if_pos (inW_iff.2 ⟨hk', hk⟩)]
        · rw [if_neg fun hh => hk' (inW_iff.1 hh).1, hF' k (by omega)]
          exact (hf.get k (by omega) (by show k < m.n; omega)).symm
      · show (if inW ⟨true, v, [], [], m'.lw, m'.n, _⟩ k = true then m'.t.get k else F k) = _
        rw [if_neg fun hh => by have := (inW_iff.1 hh).2; simp only at this; omega]
end
end Go.Y

/- The evaluator: regions that draw their order. -/
namespace Go.Y
open Go.X (TK TyI Fr FP Tab TabOk CtxOk depsOf backB closB)
set_option linter.unusedVariables false
set_option linter.unusedSimpArgs false
set_option linter.constructorNameAsVariable false
set_option linter.unusedSectionVars false

/-! ### what is checked once -/
def memN (d : Nat) : List Nat → Bool
  | [] => false
  | x :: l => Nat.beq x d || memN d l
theorem memN_iff {d : Nat} : ∀ {l : List Nat}, memN d l = true ↔ d ∈ l
  | [] => by simp [memN]
  | x :: l => by
    unfold memN
    rw [Bool.or_eq_true, memN_iff, nbeq, decide_eq_true_iff, List.mem_cons]
    exact ⟨fun h => h.imp Eq.symm id, fun h => h.imp Eq.symm id⟩
/-- Does b write a slot that a reads or writes? -/
def hits (all : List Oper) (a b : Oper) : Bool := match b.dst with
  | none => false
  | some d => memN d (slotsOf all a) || (match a.dst with | some x => Nat.beq x d | none => false)
noncomputable def pairOk (ms : T Nat) (all : List Oper) (a : Oper) (i : Nat) : List Oper → Nat → Bool
  | [], _ => true
  | b :: l, j => (!(hits all a b || hits all b a) || ord ms i j) && pairOk ms all a i l (j + 1)
noncomputable def pairsOk (ms : T Nat) (all : List Oper) : List Oper → Nat → Bool
  | [], _ => true
  | a :: l, i => pairOk ms all a i l (i + 1) && pairsOk ms all l (i + 1)
noncomputable def regOk (n : Nat) (ops : List Oper) : Bool := backB ops 0 && dstOk n ops && pairsOk (masks ops) ops ops 0
theorem pairOk_spec {ms : T Nat} {all : List Oper} {a : Oper} {i : Nat} : ∀ {l : List Oper} {k : Nat}, pairOk ms all a i l k = true → ∀ j b, l[j]? = some b → (hits all a b = true ∨ hits all b a = true) → ord ms i (k + j) = true
  | [], _, _, j, b, h, _ => by simp at h
  | x :: l, k, h, j, b, hj, hh => by
    simp only [pairOk, Bool.and_eq_true, Bool.or_eq_true, Bool.not_eq_true', Bool.or_eq_false_iff] at h
    cases j with
    | zero =>
      obtain rfl : x = b := by simpa using hj
      rcases h.1 with h1 | h1
      · rcases hh with hh | hh
        · rw [h1.1] at hh; cases hh
        · rw [h1.2] at hh; cases hh
      · exact h1
    | succ j =>
      have := pairOk_spec h.2 j b (by simpa using hj) hh
      rwa [show k + (j + 1) = k + 1 + j by omega]
theorem pairsOk_spec {ms : T Nat} {all : List Oper} : ∀ {l : List Oper} {k : Nat}, pairsOk ms all l k = true → ∀ i j a b, i < j → l[i]? = some a → l[j]? = some b → (hits all a b = true ∨ hits all b a = true) → ord ms (k + i) (k + j) = true
  | [], _, _, i, j, a, b, _, h, _, _ => by simp at h
  | x :: l, k, h, i, j, a, b, hij, hi, hj, hh => by
    simp only [pairsOk, Bool.and_eq_true] at h
    cases j with
    | zero => omega
    | succ j =>
      cases i with
      | zero =>
        obtain rfl : x = a := by simpa using hi
        have := pairOk_spec h.1 j b (by simpa using hj) hh
        rwa [show k + (j + 1) = k + 1 + j by omega]
      | succ i =>
        have := pairsOk_spec h.2 i j a b (by omega) (by simpa using hi) (by simpa using hj) hh
        rwa [show k + (j + 1) = k + 1 + j by omega, show k + (i + 1) = k + 1 + i by omega]
/-! ### what is checked at each run -/
/-- a ahead of b: what one touches the other one does not write. -/
structure NC (a b : Rec) : Prop where
  l : b.call = false → ∀ k, wrt a k = true → ¬ (k ∈ b.t ∨ wrt b k = true)
  r : a.call = false → ∀ k, wrt b k = true → ¬ (k ∈ a.t ∨ wrt a k = true)
  cl : a.call = true → ∀ k, wrt b k = true → a.hi ≤ k
  cr : b.call = true → ∀ k, ¬ wrt a k = true
theorem noW_wrt {r : Rec} (h : noW r = true) (k : Nat) : ¬ wrt r k = true := by
  unfold noW at h
  unfold wrt
  cases hc : r.call with
  | true =>
    rw [hc] at h
    have h := Nat.le_of_ble_eq_true h
    intro hk
    have := inW_iff.1 hk
    omega
  | false =>
    rw [hc] at h
    cases hw : r.w with
    | nil => simp
    | cons x l => rw [hw] at h; cases h
theorem allB_spec {α : Type} {p : α → Bool} : ∀ {l : List α}, allB p l = true → ∀ x ∈ l, p x = true
  | [], _, x, h => by cases h
  | a :: l, h, x, hx => by
    have h : (match p a with | true => allB p l | false => false) = true := h
    cases ha : p a with
    | false => rw [ha] at h; cases h
    | true =>
      rw [ha] at h
      rcases List.mem_cons.1 hx with rfl | hx
      · exact ha
      · exact allB_spec h x hx
theorem noConf_nc {a b : Rec} (h : noConf a b = true) : NC a b := by
  unfold noConf at h
  cases ha : a.call <;> cases hb : b.call <;> rw [ha, hb] at h <;> simp only [Bool.and_eq_true] at h
  · have h1 := allB_spec h.1
    have h2 := allB_spec h.2
    simp only [Bool.and_eq_true, Bool.not_eq_true', mem_eq, List.contains_eq_mem, decide_eq_false_iff_not] at h1 h2
    refine ⟨fun _ k hk => ?_, fun _ k hk => ?_, fun hc => (by rw [ha] at hc; cases hc), fun hc => (by rw [hb] at hc; cases hc)⟩
    · unfold wrt at hk ⊢
      rw [ha] at hk; rw [hb]
      simp only [List.contains_eq_mem, decide_eq_true_iff] at hk ⊢
      exact fun hh => hh.elim (h2 k hk).2 (h2 k hk).1
    · unfold wrt at hk ⊢
      rw [hb] at hk; rw [ha]
      simp only [List.contains_eq_mem, decide_eq_true_iff] at hk ⊢
      exact fun hh => hh.elim (fun h => h1 k h hk) fun h => (h2 k h).1 hk
  · have h1 := noW_wrt h.1
    have h2 := allB_spec h.2
    refine ⟨fun hc => (by rw [hb] at hc; cases hc), fun _ k hk hh => ?_, fun hc => (by rw [ha] at hc; cases hc), fun _ => h1⟩
    rcases hh with hh | hh
    · have := h2 k hh
      unfold wrt at hk
      rw [hb] at hk
      simp only at hk
      rw [hk] at this; cases this
    · exact h1 k hh
  · have h1 := allB_spec h.1
    have h2 := allB_spec h.2
    refine ⟨fun _ k hk hh => ?_, fun hc => (by rw [ha] at hc; cases hc), fun _ k hk => ?_, fun hc => (by rw [hb] at hc; cases hc)⟩
    · unfold wrt at hk hh
      rw [ha] at hk; rw [hb] at hh
      simp only [List.contains_eq_mem, decide_eq_true_iff] at hk hh
      rcases hh with hh | hh
      · have := h2 k hh
        rw [hk] at this; cases this
      · have := Nat.le_of_ble_eq_true (h1 k hh)
        have := (inW_iff.1 hk).2
        omega
    · unfold wrt at hk
      rw [hb] at hk
      simp only [List.contains_eq_mem, decide_eq_true_iff] at hk
      exact Nat.le_of_ble_eq_true (h1 k hk)
  · have h1 := noW_wrt h.1
    have h2 := noW_wrt h.2
    exact ⟨fun _ k hk => absurd hk (h1 k), fun _ k hk => absurd hk (h2 k), fun _ k hk => absurd hk (h2 k), fun _ => h1⟩
theorem calmGo_spec {ms : T Nat} : ∀ {rs : List Rec} {k : Nat}, calmGo ms rs k = true → ∀ i j a b, i < j → rs[i]? = some a → rs[j]? = some b → noConf a b = true ∨ ord ms (k + i) (k + j) = true
  | [], _, _, i, j, a, b, _, h, _ => by simp at h
  | x :: rs, k, h, i, j, a, b, hij, hi, hj => by
    have h : ((List.rec (motive := fun _ => Nat → Bool) (fun _ => true) (fun b _ r j => (noConf x b || ord ms k j) && r (j + 1)) rs (k + 1) : Bool) && calmGo ms rs (k + 1)) = true := h
    rw [Bool.and_eq_true] at h
    cases j with
    | zero => omega
    | succ j =>
      have hj : rs[j]? = some b := by simpa using hj
      cases i with
      | zero =>
        obtain rfl : x = a := by simpa using hi
        have key : ∀ (l : List Rec) (c j : Nat), (List.rec (motive := fun _ => Nat → Bool) (fun _ => true) (fun b _ r j => (noConf x b || ord ms k j) && r (j + 1)) l c : Bool) = true → l[j]? = some b → noConf x b = true ∨ ord ms k (c + j) = true := by
          intro l
          induction l with
          | nil => intro c j _ h; simp at h
          | cons y l ih =>
            intro c j hl hy
            have hl : ((noConf x y || ord ms k c) && (List.rec (motive := fun _ => Nat → Bool) (fun _ => true) (fun b _ r j => (noConf x b || ord ms k j) && r (j + 1)) l (c + 1) : Bool)) = true := hl
            rw [Bool.and_eq_true, Bool.or_eq_true] at hl
            cases j with
            | zero =>
              obtain rfl : y = b := by simpa using hy
              exact hl.1
            | succ j =>
              have := ih (c + 1) j hl.2 (by simpa using hy)
              rwa [show c + (j + 1) = c + 1 + j by omega]
        have := key rs (k + 1) j h.1 hj
        rwa [show k + (j + 1) = k + 1 + j by omega]
      | succ i =>
        have := calmGo_spec h.2 i j a b (by omega) (by simpa using hi) hj
        rwa [show k + (j + 1) = k + 1 + j by omega, show k + (i + 1) = k + 1 + i by omega]
theorem calm_nc {ops : List Oper} {rs : List Rec} (h : calm ops rs = true) {i j : Nat} {a b : Rec} (hij : i < j) (hi : rs[i]? = some a) (hj : rs[j]? = some b) : NC a b ∨ ord (masks ops) i j = true := by
  unfold calm at h
  rw [Bool.or_eq_true] at h
  rcases h with h | h
  · have h1 := noW_wrt (allB_spec h a (List.mem_of_getElem? hi))
    have h2 := noW_wrt (allB_spec h b (List.mem_of_getElem? hj))
    exact .inl ⟨fun _ k hk => absurd hk (h1 k), fun _ k hk => absurd hk (h2 k), fun _ k hk => absurd hk (h2 k), fun _ => h1⟩
  · rcases calmGo_spec h i j a b hij hi hj with h | h
    · exact .inl (noConf_nc h)
    · rw [Nat.zero_add, Nat.zero_add] at h; exact .inr h
/-! ### the region -/
def wrE (ops : List Oper) (rs : List Rec) (i k : Nat) : Option (Option AV) := match ops[i]?, rs[i]? with
  | some o, some r => if o.dst = some k then some (some r.v) else none
  | _, _ => none
noncomputable def wrM (rs : List Rec) (i k : Nat) : Option (Option AObj) := match rs[i]? with
  | some r => if wrt r k = true then some (r.m1.t.get k) else none
  | none => none
/-- What holds when the operations of S have run. -/
structure JR (P : Program) (ops : List Oper) (rs : List Rec) (E0 : Env) (M : Nat → Mem) (w0 : Base) (n : Nat) (ρ0 : Rho) (S : Nat → Bool) (a : Act) (w : World) (ρ : Rho) : Prop where
  le : ρ0.le ρ
  sr : SR ρ (fo (wrE ops rs) S E0.get ops.length) a
  de : a.defers = []
  sz : a.tmps.size = n
  mr : MR ρ (fo (wrM rs) S (M 0).t.get ops.length) w0 w
  nm : ∀ x, ρ x ≠ none → ρ0 x ≠ none ∨ ∃ j, j < ops.length ∧ S j = true ∧ (M j).n ≤ x ∧ x < (M (j + 1)).n
  cl : ∀ i, i < ops.length → S i = true → ∀ j ∈ before ops i, S j = true
section
variable {P : Program} {tab : Tab} {g : Gl} (hG : GOk P tab g) (hI : GInv P g) {w0 : Base} {call : CallF} {n : Nat}
include hG hI
theorem draw_ok (hcall : CallOk P g call) (hg : GlOk g w0) {ops : List Oper} {id : Nat} {Q : Exit → Act → World → Prop} {ρ : Rho} {e : Env} {m : Mem} {a : Act} {w : World} {e' : Env} {m' : Mem} (hreg : regOk n ops = true) (hs : St ρ e m w0 n a w) (h : evalDraw g call ops e m = some (e', m')) (hf : Free ρ m.n m'.n)
    (hq : ∀ ρ' a' w', ρ.le ρ' → Ext ρ ρ' m.n m'.n → St ρ' e' m' w0 n a' w' → Q .normal a' w') : (Code.region id ⟨ops⟩ true).wp P Q a w := by
  simp only [regOk, Bool.and_eq_true] at hreg
  obtain ⟨⟨hb, hdst⟩, hpairs⟩ := hreg
  obtain ⟨⟨rs, e1, m1⟩, h1, h2⟩ := ob_some h
  obtain ⟨hcalm, h2⟩ := chk_some h2
  cases h2
  obtain ⟨E, M, hE0, hM0, hEn, hMn, htr⟩ := trace_some h1
  -- the trace
  have hwm : ∀ i, i ≤ ops.length → Wm (M i) := by
    intro i
    induction i with
    | zero => intro _; rw [hM0]; exact hs.wm
    | succ i ih =>
      intro hi
      obtain ⟨r, b1, b2, b3, b4⟩ := htr i (ops[i]'(by omega)) (by simp)
      rw [b4]
      exact (stepD_frame hcall b2 (ih (by omega))).1.wm (ih (by omega))
  have hmono1 : ∀ i, i < ops.length → (M i).n ≤ (M (i + 1)).n := fun i hi => by
    obtain ⟨r, b1, b2, b3, b4⟩ := htr i (ops[i]'hi) (by simp)
    rw [b4]
    exact (stepD_frame hcall b2 (hwm i (by omega))).1.n
  have hmono : ∀ i d, i + d ≤ ops.length → (M i).n ≤ (M (i + d)).n := by
    intro i d
    induction d with
    | zero => intro _; exact Nat.le_refl _
    | succ d ih => intro hd; exact Nat.le_trans (ih (by omega)) (hmono1 (i + d) (by omega))
  have hmono' : ∀ i j, i ≤ j → j ≤ ops.length → (M i).n ≤ (M j).n := fun i j hij hj => by
    have := hmono i (j - i) (by omega)
    rwa [show i + (j - i) = j by omega] at this
  have hwrE : ∀ {i o r k}, ops[i]? = some o → rs[i]? = some r → wrE ops rs i k = if o.dst = some k then some (some r.v) else none := fun {i o r k} h1 h2 => by unfold wrE; rw [h1, h2]
  have hwrM : ∀ {i r k}, rs[i]? = some r → wrM rs i k = if wrt r k = true then some (r.m1.t.get k) else none := fun {i r k} h2 => by unfold wrM; rw [h2]
  have hEtr : ∀ k i, i ≤ ops.length → fo (wrE ops rs) (fun j => decide (j < i)) e.get ops.length k = (E i).get k := fun k i hi => by
    rw [fo_upto hi]
    refine fo_trace (X := fun i => (E i).get) (by rw [hE0]) fun j hj => ?_
    obtain ⟨r, b1, b2, b3, b4⟩ := htr j (ops[j]'(by omega)) (by simp)
    rw [hwrE (o := ops[j]'(by omega)) (by simp) b1]
    show (E (j + 1)).get k = _
    rw [b3]
    unfold put
    cases hd : (ops[j]'(by omega)).dst with
    | none => simp
    | some d =>
      simp only [T.get_set, Option.some.injEq]
      by_cases hk : d = k
      · subst hk; simp
      · rw [if_neg fun h => hk h.symm, if_neg hk]
  have hMtr : ∀ k i, i ≤ ops.length → fo (wrM rs) (fun j => decide (j < i)) (M 0).t.get ops.length k = (M i).t.get k := fun k i hi => by
    rw [fo_upto hi]
    refine fo_trace (X := fun i => (M i).t.get) rfl fun j hj => ?_
    obtain ⟨r, b1, b2, b3, b4⟩ := htr j (ops[j]'(by omega)) (by simp)
    rw [hwrM b1]
    show (M (j + 1)).t.get k = _
    rw [b4]
    cases hk : wrt r k with
    | true => rfl
    | false => exact (stepD_frame hcall b2 (hwm j (by omega))).2 k hk
  have hsp := Go.X.backB_spec hb
  have harr : (ops ++ []).toArray = (⟨ops⟩ : Array Oper) := by simp
  have hgoal := Go.X.wp_region_front (P := P) (Q' := Q) (id := id) (a := a) (w := w) (pre := ops) (suf := []) (u := before ops) hG.mixed (by simpa using hb) (before_clos hb _) rfl (fun S a w => ∃ ρ', JR P ops rs e M w0 n ρ S a w ρ') ?_ ?_ ?_ ?_
  · rwa [harr] at hgoal
  · rintro S S' a w hS ⟨ρ', k⟩
    refine ⟨ρ', k.le, ?_, k.de, k.sz, k.mr.eq fun x => fo_congr fun j hj _ => (hS j hj).symm, fun x hx => ?_, fun i hi hSi j hj => ?_⟩
    · rw [show fo (wrE ops rs) S' e.get ops.length = fo (wrE ops rs) S e.get ops.length from funext fun x => fo_congr fun j hj _ => (hS j hj).symm]
      exact k.sr
    · rcases k.nm x hx with h | ⟨j, h1, h2, h3⟩
      · exact .inl h
      · exact .inr ⟨j, h1, (hS j h1).symm.trans h2, h3⟩
    · have hjl : j < ops.length := List.mem_range.1 (List.mem_filter.1 hj).1
      rw [← hS j hjl]
      exact k.cl i hi ((hS i hi).trans hSi) j hj
  · have h0 : ∀ {V : Type} (wr : Nat → Nat → Option V) (f : Nat → V) (k : Nat), fo wr (fun _ => false) f ops.length k = f k := fun wr f k => by
      have := fo_upto (wr := wr) (f := f) (k := k) (i := 0) (n := ops.length) (Nat.zero_le _)
      have e : (fun j => decide (j < 0)) = fun _ => false := funext fun j => by simp
      rw [e] at this
      exact this
    refine ⟨ρ, .refl ρ, ?_, hs.de, hs.sz, ?_, fun x hx => .inl hx, fun i _ h => by cases h⟩
    · rw [show fo (wrE ops rs) (fun _ => false) e.get ops.length = e.get from funext fun x => h0 _ _ x]
      exact hs.er
    · rw [hM0]
      exact (hs.mr.quiet (w' := { w with drawn := w.drawn + 1 }) ⟨rfl, rfl, rfl, Nat.le_refl _, fun _ _ _ => rfl⟩).eq fun x => h0 _ _ x
  · rintro S a w i o ho hSi hu ⟨ρ', k⟩ K hK
    have hi : i < ops.length := (List.getElem?_eq_some_iff.1 ho).1
    obtain ⟨r, b1, b2, b3, b4⟩ := htr i o ho
    -- those that are ordered
    have hord : ∀ j, j < ops.length → (j < i → ord (masks ops) j i = true) → (i < j → ord (masks ops) i j = true) → S j = decide (j < i) := fun j hj h1 h2 => by
      rcases Nat.lt_trichotomy j i with h | h | h
      · rw [decide_eq_true h]; exact hu j (ord_mem hj (h1 h))
      · subst h; rw [hSi]; simp
      · rw [decide_eq_false (by omega)]
        cases hq : S j with
        | false => rfl
        | true => have := k.cl j hj hq i (ord_mem hi (h2 h)); rw [hSi] at this; cases this
    have hordE : ∀ x j, (x ∈ slotsOf ops o ∨ o.dst = some x) → j < ops.length → wrE ops rs j x ≠ none → j ≠ i → (j < i → ord (masks ops) j i = true) ∧ (i < j → ord (masks ops) i j = true) := fun x j hx hj hw hji => by
      obtain ⟨rj, c1, c2, c3, c4⟩ := htr j (ops[j]'hj) (by simp)
      rw [hwrE (o := ops[j]'hj) (by simp) c1] at hw
      have hd : (ops[j]'hj).dst = some x := by
        by_cases hd : (ops[j]'hj).dst = some x
        · exact hd
        · rw [if_neg hd] at hw; exact absurd rfl hw
      have hh : hits ops o (ops[j]'hj) = true := by
        unfold hits
        rw [hd]
        rcases hx with hx | hx
        · rw [Bool.or_eq_true]; exact .inl (memN_iff.2 hx)
        · rw [Bool.or_eq_true]; right; rw [hx]; simp
      refine ⟨fun hlt => ?_, fun hlt => ?_⟩
      · have := pairsOk_spec hpairs j i (ops[j]'hj) o hlt (by simp) ho (.inr hh)
        rwa [Nat.zero_add, Nat.zero_add] at this
      · have := pairsOk_spec hpairs i j o (ops[j]'hj) hlt ho (by simp) (.inl hh)
        rwa [Nat.zero_add, Nat.zero_add] at this
    have hordM : ∀ x j, r.call = false → (x ∈ r.t ∨ wrt r x = true) → j < ops.length → wrM rs j x ≠ none → j ≠ i → (j < i → ord (masks ops) j i = true) ∧ (i < j → ord (masks ops) i j = true) := fun x j hc hx hj hw hji => by
      obtain ⟨rj, c1, c2, c3, c4⟩ := htr j (ops[j]'hj) (by simp)
      rw [hwrM c1] at hw
      have hd : wrt rj x = true := by
        by_cases hd : wrt rj x = true
        · exact hd
        · rw [if_neg hd] at hw; exact absurd rfl hw
      refine ⟨fun hlt => ?_, fun hlt => ?_⟩
      · rcases calm_nc hcalm hlt c1 b1 with h | h
        · exact absurd hx (h.l hc x hd)
        · exact h
      · rcases calm_nc hcalm hlt b1 c1 with h | h
        · exact absurd hx (h.r hc x hd)
        · exact h
    have hX : ∀ x ∈ slotsOf ops o, fo (wrE ops rs) S e.get ops.length x = (E i).get x := fun x hx => by
      rw [← hEtr x i (by omega)]
      refine fo_congr fun j hj hw => ?_
      by_cases hji : j = i
      · subst hji; rw [hSi]; simp
      · have := hordE x j (.inl hx) hj hw hji
        exact hord j hj this.1 this.2
    have hT : ∀ x ∈ r.t, fo (wrM rs) S (M 0).t.get ops.length x = (M i).t.get x := fun x hx => by
      rw [← hMtr x i (by omega)]
      refine fo_congr fun j hj hw => ?_
      by_cases hji : j = i
      · subst hji; rw [hSi]; simp
      · by_cases hc : r.call = true
        · -- a call touches nothing that it lists
          exfalso
          obtain ⟨b, q1, q2⟩ := ob_some b2
          cases b with
          | false => cases q2; cases hc
          | true =>
            simp only at q2
            split at q2
            · obtain ⟨_, _, q2⟩ := ob_some q2; cases q2; cases hc
            · obtain ⟨_, _, q2⟩ := ob_some q2
              obtain ⟨_, _, q2⟩ := ob_some q2; cases q2; cases hc
            · obtain ⟨_, _, q2⟩ := ob_some q2
              obtain ⟨_, _, q2⟩ := ob_some q2; cases q2; cases hc
            · obtain ⟨_, _, q2⟩ := ob_some q2; cases q2; cases hx
        · have := hordM x j (by simpa using hc) (.inl hx) hj hw hji
          exact hord j hj this.1 this.2
    have hC : r.call = true → ∀ x, x < (M i).n → fo (wrM rs) S (M 0).t.get ops.length x = (M i).t.get x := fun hc x hx => by
      rw [← hMtr x i (by omega)]
      refine fo_congr fun j hj hw => ?_
      by_cases hji : j = i
      · subst hji; rw [hSi]; simp
      · obtain ⟨rj, c1, c2, c3, c4⟩ := htr j (ops[j]'hj) (by simp)
        rw [hwrM c1] at hw
        have hd : wrt rj x = true := by
          by_cases hd : wrt rj x = true
          · exact hd
          · rw [if_neg hd] at hw; exact absurd rfl hw
        refine hord j hj (fun hlt => ?_) (fun hlt => ?_)
        · rcases calm_nc hcalm hlt c1 b1 with h | h
          · exact absurd hd (h.cr hc x)
          · exact h
        · rcases calm_nc hcalm hlt b1 c1 with h | h
          · have h5 := h.cl hc x hd
            -- the call's names end behind
            have h6 : (M i).n ≤ r.hi := by
              obtain ⟨b, q1, q2⟩ := ob_some b2
              cases b with
              | false => cases q2; cases hc
              | true =>
                simp only at q2
                split at q2
                · obtain ⟨_, _, q2⟩ := ob_some q2; cases q2; cases hc
                · obtain ⟨_, _, q2⟩ := ob_some q2
                  obtain ⟨_, _, q2⟩ := ob_some q2; cases q2; cases hc
                · obtain ⟨_, _, q2⟩ := ob_some q2
                  obtain ⟨_, _, q2⟩ := ob_some q2; cases q2; cases hc
                · obtain ⟨_, q3, q2⟩ := ob_some q2; cases q2; exact (opC_fm hcall q3 (hwm i (by omega))).n
            omega
          · exact h
    have hfree : Free ρ' (M i).n r.m1.n := fun x hx1 hx2 => by
      rw [← b4] at hx2
      cases hq : ρ' x with
      | none => rfl
      | some y =>
        rcases k.nm x (by rw [hq]; simp) with h | ⟨j, c1, c2, c3, c4⟩
        · have l1 := hmono' 0 i (by omega) (by omega)
          have l2 := hmono' (i + 1) ops.length (by omega) (by omega)
          rw [hM0] at l1; rw [hMn] at l2
          exact absurd (hf x (by omega) (by omega)) h
        · rcases Nat.lt_trichotomy j i with h | h | h
          · have := hmono' (j + 1) i (by omega) (by omega); omega
          · subst h; rw [hSi] at c2; cases c2
          · have := hmono' (i + 1) j (by omega) (by omega); omega
    unfold wpOp
    rw [harr, show (⟨ops⟩ : Array Oper)[i]? = some o by simpa using ho]
    refine stepD_ok hG hI hcall hg b2 (hwm i (by omega)) k.sr k.de hX k.mr hT hC hfree fun u ρ'' w'' q1 q2 q3 q4 => hK _ _ ⟨ρ'', k.le.trans q1, ?_, ?_, ?_, q3.eq fun x => ?_, fun x hx => ?_, fun j hj hSj d hd => ?_⟩
    · intro t v hv
      by_cases hd : o.dst = some t
      · have : fo (wrE ops rs) (fun j => S j || j == i) e.get ops.length t = (E (i + 1)).get t := by
          rw [← hEtr t (i + 1) (by omega)]
          refine fo_congr fun j hj hw => ?_
          by_cases hji : j = i
          · subst hji; simp
          · have := hordE t j (.inr hd) hj hw hji
            rw [hord j hj this.1 this.2]
            by_cases h : j < i
            · rw [decide_eq_true h, decide_eq_true (by omega)]; rfl
            · rw [decide_eq_false h, decide_eq_false (by omega)]; simpa using hji
        rw [this, b3, hd] at hv
        have hv : ((E i).set r.v t).get t = some v := hv
        rw [T.get_set, if_pos rfl] at hv
        cases hv
        have hlt : t < n := by
          have := List.all_eq_true.1 hdst o (List.mem_of_getElem? ho)
          rw [hd] at this
          simpa [nblt] using this
        exact ⟨u, by simp [Act.put, hd, k.sz, hlt], q2⟩
      · have : fo (wrE ops rs) (fun j => S j || j == i) e.get ops.length t = fo (wrE ops rs) S e.get ops.length t := fo_congr fun j hj hw => by
          have hji : j ≠ i := by
            rintro rfl
            rw [hwrE ho b1, if_neg hd] at hw
            exact hw rfl
          have : (j == i) = false := by simpa using hji
          rw [this, Bool.or_false]
        rw [this] at hv
        obtain ⟨y, c1, c2⟩ := k.sr t v hv
        refine ⟨y, ?_, c2.mono q1⟩
        cases hdd : o.dst with
        | none => exact c1
        | some d =>
          have hdt : d ≠ t := fun h => hd (by rw [hdd, h])
          rw [← c1]
          simp [Act.put, Array.getElem?_setIfInBounds, hdt]
    · cases hdd : o.dst <;> exact k.de
    · cases hdd : o.dst with
      | none => exact k.sz
      | some d => simp [Act.put, k.sz]
    · -- memory
      by_cases hw : wrt r x = true
      · rw [if_pos hw]
        have : fo (wrM rs) (fun j => S j || j == i) (M 0).t.get ops.length x = (M (i + 1)).t.get x := by
          rw [← hMtr x (i + 1) (by omega)]
          refine fo_congr fun j hj hwj => ?_
          by_cases hji : j = i
          · subst hji; simp
          · have hor : (j < i → ord (masks ops) j i = true) ∧ (i < j → ord (masks ops) i j = true) := by
              by_cases hc : r.call = true
              · obtain ⟨rj, c1, c2, c3, c4⟩ := htr j (ops[j]'hj) (by simp)
                rw [hwrM c1] at hwj
                have hd : wrt rj x = true := by
                  by_cases hd : wrt rj x = true
                  · exact hd
                  · rw [if_neg hd] at hwj; exact absurd rfl hwj
                refine ⟨fun hlt => ?_, fun hlt => ?_⟩
                · rcases calm_nc hcalm hlt c1 b1 with h | h
                  · exact absurd hd (h.cr hc x)
                  · exact h
                · rcases calm_nc hcalm hlt b1 c1 with h | h
                  · have h5 := h.cl hc x hd
                    unfold wrt at hw
                    rw [hc] at hw
                    have := (inW_iff.1 hw).2
                    omega
                  · exact h
              · exact hordM x j (by simpa using hc) (.inr hw) hj hwj hji
            rw [hord j hj hor.1 hor.2]
            by_cases h : j < i
            · rw [decide_eq_true h, decide_eq_true (by omega)]; rfl
            · rw [decide_eq_false h, decide_eq_false (by omega)]; simpa using hji
        rw [this, b4]
      · rw [if_neg hw]
        exact fo_congr fun j hj hwj => by
          have hji : j ≠ i := by
            rintro rfl
            rw [hwrM b1, if_neg hw] at hwj
            exact hwj rfl
          have : (j == i) = false := by simpa using hji
          rw [this, Bool.or_false]
    · rcases q4 x hx with h | ⟨h1, h2⟩
      · rcases k.nm x h with h | ⟨j, c1, c2, c3⟩
        · exact .inl h
        · exact .inr ⟨j, c1, by rw [c2]; rfl, c3⟩
      · exact .inr ⟨i, hi, by simp, h1, by rw [b4]; exact h2⟩
    · rw [Bool.or_eq_true] at hSj
      rcases hSj with hSj | hSj
      · rw [k.cl j hj hSj d hd]; rfl
      · obtain rfl : j = i := by simpa using hSj
        rw [hu d hd]; rfl
  · rintro S a w hS ⟨ρ', k⟩
    have hall : ∀ j, j < ops.length → S j = decide (j < ops.length) := fun j hj => by rw [hS j hj, decide_eq_true hj]
    refine hq ρ' a w k.le (fun x hx => ?_) ⟨?_, k.de, k.sz, ?_, ?_⟩
    · rcases k.nm x hx with h | ⟨j, h1, h2, h3, h4⟩
      · exact .inl h
      · have l1 := hmono' 0 j (by omega) (by omega)
        have l2 := hmono' (j + 1) ops.length (by omega) (by omega)
        rw [hM0] at l1; rw [hMn] at l2
        exact .inr ⟨by omega, by omega⟩
    · intro t v hv
      refine k.sr t v ?_
      rw [← hv, ← hEn, ← hEtr t ops.length (by omega)]
      exact fo_congr fun j hj _ => hall j hj
    · rw [← hMn]
      refine k.mr.eq fun x => ?_
      rw [← hMtr x ops.length (by omega)]
      exact (fo_congr fun j hj _ => hall j hj).symm
    · rw [← hMn]; exact hwm _ (by omega)
end
end Go.Y

/- The evaluator: code, and calls of functions. -/
namespace Go.Y
open Go.X (TK TyI Fr FP Tab TabOk CtxOk)
set_option linter.unusedVariables false
set_option linter.unusedSimpArgs false
set_option linter.constructorNameAsVariable false
set_option linter.unusedSectionVars false

/-- What is checked once, of a function's code. -/
noncomputable def codeOk (n : Nat) : Code → Bool
  | .seq a b => codeOk n a && codeOk n b
  | .cond _ a b => codeOk n a && codeOk n b
  | .block _ c => codeOk n c
  | .scope c => codeOk n c
  | .loop c => codeOk n c
  | .region _ ops false => dstOk n ops.toList
  | .region _ ops true => regOk n ops.toList
  | _ => true
/-- A function of the table. -/
structure FnR (P : Program) (f : FuncId) (fi : FnI) : Prop where
  fn : ∃ F : Func, P.funcs[f]? = some F ∧ (F.name == "runtime.NumGoroutine") = false ∧ F.body = some fi.body ∧ F.ntmps = fi.ntmps ∧ F.results = fi.res.toArray
  ok : codeOk fi.ntmps fi.body = true
/-- A law of a function's own. -/
structure SpR (P : Program) (g : Gl) (f : FuncId) (h : List AV → Mem → Option (AV × Mem)) : Prop where
  fm : ∀ (vs : List AV) (m : Mem) (v : AV) (m' : Mem), h vs m = some (v, m') → Wm m → Fm m m'
  ok : ∀ (vs : List AV) (m : Mem) (v : AV) (m' : Mem), h vs m = some (v, m') → Wm m → ∀ (w0 : Base) (ρ : Rho) (w : World) (us : List Value), GlOk g w0 → VRL ρ vs us → MR ρ m.t.get w0 w → Free ρ m.n m'.n →
    Go.X.FnOk P f ∧ Calls P f ⟨us⟩ w fun e w' => ∃ u ρ', e = .returned u ∧ ρ.le ρ' ∧ VR ρ' v u ∧ MR ρ' m'.t.get w0 w' ∧ Ext ρ ρ' m.n m'.n
/-- How code ends. -/
def QY (ρ : Rho) (m : Mem) (w0 : Base) (n : Nat) (o : Out) : Exit → Act → World → Prop := fun x a w => (match o.x, x with
  | .nrm, .normal => True
  | .ext i, .exit j => i = j
  | .ret, .ret => True
  | _, _ => False) ∧ ∃ ρ', ρ.le ρ' ∧ Ext ρ ρ' m.n o.m.n ∧ St ρ' o.e o.m w0 n a w
theorem QY.trans {ρ ρ' : Rho} {m m1 : Mem} {w0 : Base} {n : Nat} {o : Out} (h1 : ρ.le ρ') (h2 : Ext ρ ρ' m.n m1.n) (h3 : m.n ≤ m1.n) (h4 : m1.n ≤ o.m.n) : ∀ x a w, QY ρ' m1 w0 n o x a w → QY ρ m w0 n o x a w :=
  fun x a w ⟨k1, ρ'', k2, k3, k4⟩ => ⟨k1, ρ'', h1.trans k2, h2.trans k3 h3 h4, k4⟩
theorem rounds_mono {P : Program} {c : Code} {Q Q' : Exit → Act → World → Prop} (h : ∀ x a w, Q x a w → Q' x a w) : ∀ {N : Nat} {a : Act} {w : World}, Code.rounds P c Q N a w → Code.rounds P c Q' N a w
  | 0, _, _, k => k
  | N + 1, a, w, k => wp_mono (P := P) k fun x a w hx => by
    cases x with
    | normal => exact rounds_mono h hx
    | exit i => exact h _ _ _ hx
    | goto l => exact h _ _ _ hx
    | ret => exact h _ _ _ hx
    | panic ch => exact h _ _ _ hx
    | outgrown => exact h _ _ _ hx
/-- What one level of the evaluator says of code. -/
structure SelfOk (P : Program) (g : Gl) (N : Nat) (sf : Code → Env → Mem → Option Out) : Prop where
  fm : ∀ c e m o, sf c e m = some o → Wm m → Fm m o.m
  ok : ∀ c e m o, sf c e m = some o → ∀ (w0 : Base) (n : Nat) (ρ : Rho) (a : Act) (w : World), codeOk n c = true → GlOk g w0 → St ρ e m w0 n a w → Free ρ m.n o.m.n → c.wp P (QY ρ m w0 n o) a w
  lp : ∀ c e m o, sf (.loop c) e m = some o → ∀ (w0 : Base) (n : Nat) (ρ : Rho) (a : Act) (w : World), codeOk n c = true → GlOk g w0 → St ρ e m w0 n a w → Free ρ m.n o.m.n → Code.rounds P c (QY ρ m w0 n o) N a w
theorem draw_fm {P : Program} {g : Gl} {call : CallF} (hcall : CallOk P g call) {ops : List Oper} {e : Env} {m : Mem} {e' : Env} {m' : Mem} (h : evalDraw g call ops e m = some (e', m')) (hw : Wm m) : Fm m m' := by
  obtain ⟨⟨rs, e1, m1⟩, h1, h2⟩ := ob_some h
  obtain ⟨_, h2⟩ := chk_some h2
  cases h2
  clear h
  have key : ∀ (os : List Oper) (e : Env) (m : Mem) (rs : List Rec) (e' : Env) (m' : Mem), Wm m → trace g call ops os e m = some (rs, e', m') → Fm m m' := by
    intro os
    induction os with
    | nil => intro e m rs e' m' _ h; cases h; exact .refl m
    | cons o os ih =>
      intro e m rs e' m' hw h
      obtain ⟨r, h1, h⟩ := ob_some (show ob (stepDG g call ops o e m) (fun r => ob (trace g call ops os (put e o.dst r.v) r.m1) fun q => some (r :: q.1, q.2)) = some (rs, e', m') from h)
      rw [stepDG_eq] at h1
      obtain ⟨⟨rs', e1, m1⟩, h2, h⟩ := ob_some h
      cases h
      have f1 := (stepD_frame hcall h1 hw).1
      exact f1.trans (ih _ _ _ _ _ (f1.wm hw) h2)
  exact key _ _ _ _ _ _ hw h1
/-! ### results -/
theorem argE_get : ∀ {vs : List AV} {k : Nat} {e : Env} {t : Nat}, (argE vs k e).get t = if k ≤ t ∧ t < k + vs.length then vs[t - k]? else e.get t
  | [], k, e, t => by
    have : ¬ (k ≤ t ∧ t < k + 0) := by omega
    show e.get t = _
    rw [List.length_nil, if_neg this]
  | v :: vs, k, e, t => by
    show (argE vs (k + 1) (e.set v k)).get t = _
    rw [argE_get (vs := vs)]
    by_cases h1 : k + 1 ≤ t ∧ t < k + 1 + vs.length
    · rw [if_pos h1, if_pos (by simp only [List.length_cons]; omega)]
      rw [show t - k = (t - (k + 1)) + 1 by omega, List.getElem?_cons_succ]
    · rw [if_neg h1, T.get_set]
      by_cases h2 : t = k
      · subst h2
        rw [if_pos rfl, if_pos (by simp only [List.length_cons]; omega)]
        simp
      · rw [if_neg h2, if_neg (by simp only [List.length_cons]; omega)]
theorem pack_vr {ρ : Rho} {vs : List AV} {us : List Value} (h : VRL ρ vs us) : VR ρ (pack vs) (Go.X.packV us) := by
  cases vs with
  | nil =>
    simp only [VRL] at h
    subst h
    simp only [pack, Go.X.packV, VR]
    exact ⟨[], rfl, .nil⟩
  | cons v vs =>
    have h' := h
    simp only [VRL] at h
    obtain ⟨u, us', rfl, h1, h2⟩ := h
    cases vs with
    | nil =>
      simp only [VRL] at h2
      subst h2
      exact h1
    | cons v2 vs =>
      have h2' := h2
      simp only [VRL] at h2
      obtain ⟨u2, us2, rfl, _, _⟩ := h2
      simp only [pack, Go.X.packV, VR]
      exact ⟨_, rfl, h'⟩
section
variable {P : Program} {tab : Tab} {g : Gl} (hG : GOk P tab g) (hI : GInv P g) (hF : T.All (FnR P) g.fn) (hS : T.All (SpR P g) g.sp)
include hG
theorem res_ok {w0 : Base} {ρ : Rho} {e : Env} {m : Mem} {n : Nat} {a : Act} {w : World} (hs : St ρ e m w0 n a w) : ∀ {rs : List ResultVar} {vs : List AV}, resA g e m rs = some vs → ∃ us, VRL ρ vs us ∧ (rs.mapM (Go.X.resF a.tmps)).run P w = .ok us w
  | [], vs, h => by cases h; exact ⟨[], .nil, rfl⟩
  | .tmp t :: rs, vs, h => by
    obtain ⟨v, h1, h⟩ := ob_some (show ob (e.get t) (fun v => ob (resA g e m rs) fun vs => some (v :: vs)) = some vs from h)
    obtain ⟨vs', h2, h⟩ := ob_some h
    cases h
    obtain ⟨us, h3, h4⟩ := res_ok hs h2
    obtain ⟨u, h5, h6⟩ := hs.er t v h1
    refine ⟨u :: us, .cons h6 h3, ?_⟩
    have : a.tmps.getD t undef = u := by simp [Array.getD_eq_getD_getElem?, h5]
    simp only [List.mapM_cons, Go.X.resF, this, Sem.run_bind, Sem.run_pure, Result.andThen_ok, h4]
  | .cell p ty :: rs, vs, h => by
    obtain ⟨pv, h1, h⟩ := ob_some (show ob (e.get p) (fun p => match p with
      | .ptr i o => ob (cellsOf m.t.get i) fun c => ob (loadF g ty c.2.1 o) fun v => ob (resA g e m rs) fun vs => some (v :: vs)
      | _ => none) = some vs from h)
    cases pv <;> try cases h
    rename_i i o
    obtain ⟨c, h2, h⟩ := ob_some h
    obtain ⟨v, h3, h⟩ := ob_some h
    obtain ⟨vs', h4, h⟩ := ob_some h
    cases h
    obtain ⟨us, h5, h6⟩ := res_ok hs h4
    obtain ⟨pu, h7, h8⟩ := hs.er p _ h1
    simp only [VR] at h8
    obtain ⟨x, b1, rfl⟩ := h8
    obtain ⟨xb, cs, a1, a2, a3, a4, a5, a6, a7⟩ := cells_at hs.mr h2
    rw [b1] at a1; cases a1
    obtain ⟨u, q1, q2, _⟩ := load_run hG (a := a) h3 a2 a5
    refine ⟨u :: us, .cons q1 h5, ?_⟩
    have : a.tmps.getD p undef = .pointer (some ⟨x.b, x.d + o, none⟩) := by simp [Array.getD_eq_getD_getElem?, h7]
    have hl : (loadVar ty ⟨x.b, x.d + o, none⟩).run P w = .ok u w := by
      have := q2 w (holds0 P tab _ w)
      simpa [Instr.loadAt, Instr.sureAddr, loadVar] using this
    simp only [List.mapM_cons, Go.X.resF, this, asAddr, Sem.run_bind, Sem.run_pure, Result.andThen_ok, hl, h6]
include hF
theorem callB_ok {N : Nat} {self : Code → Env → Mem → Option Out} (hself : SelfOk P g N self) : CallOk P g (callB g self) := by
  refine ⟨fun f vs m v m' h hw => ?_, fun f vs m v m' h hwm w0 ρ w us hg hv hm hfree => ?_⟩
  · obtain ⟨fi, h1, h⟩ := ob_some h
    obtain ⟨_, h⟩ := chk_some h
    obtain ⟨o, h2, h⟩ := ob_some h
    have f1 := hself.fm _ _ _ _ h2 hw
    split at h
    · cases h
    · obtain ⟨rs, h3, h⟩ := ob_some h
      cases h
      exact f1
  · obtain ⟨fi, h1, h⟩ := ob_some h
    obtain ⟨hlen, h⟩ := chk_some h
    obtain ⟨o, h2, h⟩ := ob_some h
    have hlen := Nat.le_of_ble_eq_true hlen
    rw [len_eq] at hlen
    obtain ⟨⟨F, a1, a2, a3, a4, a5⟩, hok⟩ := T.get_all hF h1
    refine ⟨⟨F, a1, a2, by rw [a3]; rfl⟩, calls_of_wp a1 a3 ?_⟩
    have hlu : us.length = vs.length := hv.length
    have h3 : o.x ≠ .nrm → o.x ≠ .ret → False := fun n1 n2 => by
      cases hx : o.x with
      | nrm => exact n1 hx
      | ret => exact n2 hx
      | ext i => rw [hx] at h; cases h
    have h4 : ∃ rs, resA g o.e o.m fi.res = some rs ∧ v = pack rs ∧ m' = o.m := by
      cases hx : o.x with
      | ext i => rw [hx] at h; cases h
      | nrm => rw [hx] at h; obtain ⟨rs, h3, h⟩ := ob_some h; cases h; exact ⟨rs, h3, rfl, rfl⟩
      | ret => rw [hx] at h; obtain ⟨rs, h3, h⟩ := ob_some h; cases h; exact ⟨rs, h3, rfl, rfl⟩
    obtain ⟨rs, h5, rfl, rfl⟩ := h4
    have hs0 : St ρ (argE vs 0 .e) m w0 fi.ntmps { tmps := ⟨us⟩ ++ Array.replicate (F.ntmps - (⟨us⟩ : Array Value).size) undef, defers := [] } w := by
      refine ⟨fun t x ht => ?_, rfl, by simp [a4]; omega, hm, hwm⟩
      rw [argE_get] at ht
      split at ht
      · rename_i hh
        rw [Nat.sub_zero] at ht
        obtain ⟨u, q1, q2⟩ := hv.get ht
        refine ⟨u, ?_, q2⟩
        rw [Array.getElem?_append_left (by simp; omega)]
        simpa using q1
      · rw [T.get_e] at ht; cases ht
    refine wp_mono (hself.ok _ _ _ _ h2 w0 fi.ntmps ρ _ w hok hg hs0 hfree) fun x a' w' hx => ?_
    obtain ⟨hx1, ρ', k1, k2, k3⟩ := hx
    have hret : a'.defers = [] ∧ ∃ v, (results F a'.tmps).run P w' = .ok v w' ∧ ∃ u ρ', Ending.returned v = .returned u ∧ ρ.le ρ' ∧ VR ρ' (pack rs) u ∧ MR ρ' o.m.t.get w0 w' ∧ Ext ρ ρ' m.n o.m.n := by
      obtain ⟨us', r1, r2⟩ := res_ok hG k3 h5
      refine ⟨k3.de, Go.X.packV us', ?_, Go.X.packV us', ρ', rfl, k1, pack_vr r1, k3.mr, k2⟩
      rw [Go.X.results_eq, a5, Array.mapM_eq_mapM_toList]
      simp only [Sem.run_bind, Sem.run_map]
      have hrun' : (fi.res.toArray.toList.mapM (Go.X.resF a'.tmps)).run P w' = .ok us' w' := by simpa using r2
      rw [hrun']
      simp only [Result.andThen_ok, Sem.run_pure]
      congr 1
      cases us' with
      | nil => rfl
      | cons v vs => cases vs <;> rfl
    cases x with
    | normal => exact hret
    | ret => exact hret
    | exit i =>
      exfalso
      cases hox : o.x with
      | nrm => rw [hox] at hx1; exact hx1
      | ret => rw [hox] at hx1; exact hx1
      | ext j => exact h3 (by rw [hox]; intro h; cases h) (by rw [hox]; intro h; cases h)
    | goto l => exfalso; cases hox : o.x <;> rw [hox] at hx1 <;> exact hx1
    | panic ch => exfalso; cases hox : o.x <;> rw [hox] at hx1 <;> exact hx1
    | outgrown => exfalso; cases hox : o.x <;> rw [hox] at hx1 <;> exact hx1
include hS
theorem callF_ok {N : Nat} {self : Code → Env → Mem → Option Out} (hself : SelfOk P g N self) : CallOk P g (callF g self) := by
  have hb := callB_ok hG hF hself
  refine ⟨fun f vs m v m' h hw => ?_, fun f vs m v m' h => ?_⟩
  · unfold callF at h
    cases hs : g.sp.get f with
    | some x => rw [hs] at h; exact (T.get_all hS hs).fm _ _ _ _ h hw
    | none => rw [hs] at h; exact hb.fm _ _ _ _ _ h hw
  · unfold callF at h
    cases hs : g.sp.get f with
    | some x => rw [hs] at h; exact (T.get_all hS hs).ok _ _ _ _ h
    | none => rw [hs] at h; exact hb.ok _ _ _ _ _ h
end
end Go.Y

/- The evaluator: it says what the code does. -/
namespace Go.Y
open Go.X (TK TyI Fr FP Tab TabOk CtxOk)
set_option linter.unusedVariables false
set_option linter.unusedSimpArgs false
set_option linter.constructorNameAsVariable false
set_option linter.unusedSectionVars false

theorem ext_done {ρ ρ' : Rho} {m : Mem} {w0 : Base} {n : Nat} {x : Ex} {e : Env} {m' : Mem} (h1 : ρ.le ρ') (h2 : Ext ρ ρ' m.n m'.n) {a : Act} {w : World} (h3 : St ρ' e m' w0 n a w) {y : Exit} (hx : match x, y with
  | .nrm, .normal => True
  | .ext i, .exit j => i = j
  | .ret, .ret => True
  | _, _ => False) : QY ρ m w0 n ⟨x, e, m'⟩ y a w := ⟨hx, ρ', h1, h2, h3⟩
theorem qy_nrm {ρ : Rho} {m : Mem} {w0 : Base} {n : Nat} {o : Out} {y : Exit} {a : Act} {w : World} (h : QY ρ m w0 n o y a w) (ho : o.x = .nrm) : y = .normal := by
  have := h.1
  rw [ho] at this
  cases y <;> first | rfl | exact this.elim
theorem qy_ne {ρ : Rho} {m : Mem} {w0 : Base} {n : Nat} {o : Out} {y : Exit} {a : Act} {w : World} (h : QY ρ m w0 n o y a w) (ho : o.x ≠ .nrm) : y ≠ .normal := by
  rintro rfl
  have := h.1
  cases hx : o.x <;> rw [hx] at this
  · exact ho hx
  · exact this
  · exact this
section
variable {P : Program} {tab : Tab} {g : Gl} (hG : GOk P tab g) (hI : GInv P g) (hF : T.All (FnR P) g.fn) (hS : T.All (SpR P g) g.sp)
include hG hI hF hS
theorem evalF_ok {N : Nat} {sf : Code → Env → Mem → Option Out} (hs : SelfOk P g N sf) : SelfOk P g (N + 1) (evalF g sf) := by
  have hcall := callF_ok hG hF hS hs
  have lp : ∀ c e m o, evalF g sf (.loop c) e m = some o → ∀ (w0 : Base) (n : Nat) (ρ : Rho) (a : Act) (w : World), codeOk n c = true → GlOk g w0 → St ρ e m w0 n a w → Free ρ m.n o.m.n → Code.rounds P c (QY ρ m w0 n o) (N + 1) a w := by
    intro c e m o h w0 n ρ a w hc hg hst hfree
    obtain ⟨o1, h1, h⟩ := ob_some (show ob (sf c e m) (fun o => match o.x with
      | .nrm => sf (.loop c) o.e o.m
      | _ => some o) = some o from h)
    have f1 := hs.fm _ _ _ _ h1 hst.wm
    show c.wp P (Exit.then (Code.rounds P c (QY ρ m w0 n o) N) (QY ρ m w0 n o)) a w
    by_cases hx : o1.x = .nrm
    · rw [hx] at h
      have f2 := hs.fm _ _ _ _ h (f1.wm hst.wm)
      refine wp_mono (hs.ok _ _ _ _ h1 w0 n ρ a w hc hg hst (hfree.sub f2.n)) fun y a' w' hy => ?_
      obtain rfl := qy_nrm hy hx
      obtain ⟨_, ρ', k1, k2, k3⟩ := hy
      exact rounds_mono (QY.trans k1 k2 f1.n f2.n) (hs.lp _ _ _ _ h w0 n ρ' a' w' hc hg k3 (hfree.ext k2 f1.n))
    · have h : some o1 = some o := by
        cases hq : o1.x with
        | nrm => exact absurd hq hx
        | ext i => rw [hq] at h; exact h
        | ret => rw [hq] at h; exact h
      cases h
      refine wp_mono (hs.ok _ _ _ _ h1 w0 n ρ a w hc hg hst hfree) fun y a' w' hy => ?_
      have := qy_ne hy hx
      cases y with
      | normal => exact absurd rfl this
      | exit i => exact hy
      | goto l => exact hy
      | ret => exact hy
      | panic ch => exact hy
      | outgrown => exact hy
  refine ⟨fun c e m o h hw => ?_, fun c e m o h w0 n ρ a w hc hg hst hfree => ?_, lp⟩
  · cases c <;> simp only [evalF] at h <;> first | (cases h; done) | (cases h; exact .refl m) | skip
    case seq x y =>
      obtain ⟨o1, h1, h⟩ := ob_some h
      have f1 := hs.fm _ _ _ _ h1 hw
      split at h
      · exact f1.trans (hs.fm _ _ _ _ h (f1.wm hw))
      · cases h; exact f1
    case region id ops d =>
      obtain ⟨⟨e', m'⟩, h1, h⟩ := ob_some h
      cases h
      cases d with
      | false => exact evalOps_fm hcall h1 hw
      | true => exact draw_fm hcall h1 hw
    case cond x p q =>
      obtain ⟨v, h1, h⟩ := ob_some h
      split at h
      · exact hs.fm _ _ _ _ h hw
      · exact hs.fm _ _ _ _ h hw
      · cases h
    case block i x =>
      obtain ⟨o1, h1, h⟩ := ob_some h
      have f1 := hs.fm _ _ _ _ h1 hw
      split at h
      · split at h <;> (cases h; exact f1)
      · cases h; exact f1
    case scope x => exact hs.fm _ _ _ _ h hw
    case loop x =>
      obtain ⟨o1, h1, h⟩ := ob_some h
      have f1 := hs.fm _ _ _ _ h1 hw
      split at h
      · exact f1.trans (hs.fm _ _ _ _ h (f1.wm hw))
      · cases h; exact f1
  · cases c <;> (try (simp only [evalF] at h; cases h; done))
    case skip => cases h; exact wp_skip (ext_done (.refl ρ) (.refl _ _ _) hst trivial)
    case label => cases h; exact wp_label (ext_done (.refl ρ) (.refl _ _ _) hst trivial)
    case exit i => cases h; exact wp_exit (ext_done (.refl ρ) (.refl _ _ _) hst rfl)
    case ret => cases h; exact wp_ret (ext_done (.refl ρ) (.refl _ _ _) hst trivial)
    case seq x y =>
      simp only [codeOk, Bool.and_eq_true] at hc
      obtain ⟨o1, h1, h⟩ := ob_some (show ob (sf x e m) (fun o => match o.x with
        | .nrm => sf y o.e o.m
        | _ => some o) = some o from h)
      have f1 := hs.fm _ _ _ _ h1 hst.wm
      refine wp_seq ?_
      by_cases hx : o1.x = .nrm
      · rw [hx] at h
        have f2 := hs.fm _ _ _ _ h (f1.wm hst.wm)
        refine wp_mono (hs.ok _ _ _ _ h1 w0 n ρ a w hc.1 hg hst (hfree.sub f2.n)) fun z a' w' hz => ?_
        obtain rfl := qy_nrm hz hx
        obtain ⟨_, ρ', k1, k2, k3⟩ := hz
        exact wp_mono (hs.ok _ _ _ _ h w0 n ρ' a' w' hc.2 hg k3 (hfree.ext k2 f1.n)) (QY.trans k1 k2 f1.n f2.n)
      · have h : some o1 = some o := by
          cases hq : o1.x with
          | nrm => exact absurd hq hx
          | ext i => rw [hq] at h; exact h
          | ret => rw [hq] at h; exact h
        cases h
        refine wp_mono (hs.ok _ _ _ _ h1 w0 n ρ a w hc.1 hg hst hfree) fun z a' w' hz => ?_
        have := qy_ne hz hx
        cases z with
        | normal => exact absurd rfl this
        | exit i => exact hz
        | goto l => exact hz
        | ret => exact hz
        | panic ch => exact hz
        | outgrown => exact hz
    case region id ops d =>
      obtain ⟨⟨e', m'⟩, h1, h⟩ := ob_some (show ob (match d with | false => evalOps g (callF g sf) ops.toList ops.toList e m | true => evalDraw g (callF g sf) ops.toList e m) (fun r => some ⟨.nrm, r.1, r.2⟩) = some o from h)
      cases h
      cases d with
      | false => exact wp_region_list (evalOps_ok hG hI hcall hg hc hst h1 hfree fun ρ' a' w' k1 k2 k3 => ext_done k1 k2 k3 trivial)
      | true =>
        obtain ⟨l⟩ := ops
        exact draw_ok hG hI hcall hg hc hst h1 hfree fun ρ' a' w' k1 k2 k3 => ext_done k1 k2 k3 trivial
    case cond x p q =>
      simp only [codeOk, Bool.and_eq_true] at hc
      obtain ⟨v, h1, h⟩ := ob_some (show ob (ev e x) (fun v => match v with
        | .bool true => sf p e m
        | .bool false => sf q e m
        | _ => none) = some o from h)
      obtain ⟨u, h2, h3⟩ := ev_vr hst.er h1
      have hx := (envOf_es hst.de).eval h2
      cases v <;> try cases h
      rename_i b
      have := h3.bool_inv; subst this
      refine wp_cond hx ?_
      cases b with
      | true => exact hs.ok _ _ _ _ h w0 n ρ a w hc.1 hg hst hfree
      | false => exact hs.ok _ _ _ _ h w0 n ρ a w hc.2 hg hst hfree
    case block i x =>
      obtain ⟨o1, h1, h⟩ := ob_some (show ob (sf x e m) (fun o => match o.x with
        | .ext j => match Nat.beq j i with
          | true => some ⟨.nrm, o.e, o.m⟩
          | false => some o
        | _ => some o) = some o from h)
      have hm : o.m = o1.m ∧ o.e = o1.e := by
        split at h
        · split at h <;> (cases h; exact ⟨rfl, rfl⟩)
        · cases h; exact ⟨rfl, rfl⟩
      refine wp_block (wp_mono (hs.ok _ _ _ _ h1 w0 n ρ a w hc hg hst (by rw [← hm.1]; exact hfree)) fun z a' w' hz => ?_)
      obtain ⟨hz1, ρ', k1, k2, k3⟩ := hz
      rw [← hm.1] at k2 k3
      rw [← hm.2] at k3
      cases hx : o1.x with
      | nrm =>
        rw [hx] at h hz1
        cases h
        cases z <;> first | exact hz1.elim | skip
        exact ⟨by rw [hx]; trivial, ρ', k1, k2, k3⟩
      | ret =>
        rw [hx] at h hz1
        cases h
        cases z <;> first | exact hz1.elim | skip
        exact ⟨by rw [hx]; trivial, ρ', k1, k2, k3⟩
      | ext j =>
        rw [hx] at h hz1
        cases z <;> first | exact hz1.elim | skip
        rename_i j'
        have hz1 : j = j' := hz1
        subst hz1
        simp only [Exit.inBlock]
        simp only at h
        cases hb : Nat.beq j i with
        | true =>
          rw [if_pos (Nat.eq_of_beq_eq_true hb)]
          rw [hb] at h
          cases h
          exact ⟨trivial, ρ', k1, k2, k3⟩
        | false =>
          rw [if_neg (fun he => by subst he; simp at hb)]
          rw [hb] at h
          cases h
          exact ⟨by rw [hx], ρ', k1, k2, k3⟩
    case scope x =>
      refine wp_scope_straight (wp_mono (hs.ok _ _ _ _ h w0 n ρ a w hc hg hst hfree) fun z a' w' hz => ?_)
      cases z with
      | goto l => exact absurd hz.1 (by cases o.x <;> exact fun h => h)
      | _ => exact hz
    case loop x => exact wp_loop_rounds (N + 1) (lp x e m o h w0 n ρ a w hc hg hst hfree)
theorem eval_ok : ∀ N, SelfOk P g N (eval g N)
  | 0 => ⟨fun _ _ _ _ h => (by cases h), fun _ _ _ _ h => (by cases h), fun _ _ _ _ h => (by cases h)⟩
  | N + 1 => evalF_ok hG hI hF hS (eval_ok N)
theorem callY_ok (N : Nat) : CallOk P g (callF g (eval g N)) := callF_ok hG hF hS (eval_ok hG hI hF hS N)
end
end Go.Y
