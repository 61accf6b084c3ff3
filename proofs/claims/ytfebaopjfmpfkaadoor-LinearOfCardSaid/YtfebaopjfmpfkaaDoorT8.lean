/- What a history of events is: the plain law of Of. -/
import Derived.Test.YtfebaopjfmpfkaaDoorT7
namespace Go.Proofs.YtfebaopjfmpfkaaDoor
open Go.X
set_option maxRecDepth 10000
set_option linter.unusedVariables false
set_option linter.unusedSimpArgs false

structure Ev where
  th : Int
  act : Int
  fin : Bool
  kind : Int
  size : Int
  align : Int
  addr : Int
  ra : Int
  re : Int
def encEv (e : Ev) : List Value := [.int .i64 e.th, .int .i64 e.act, .bool e.fin, .int .i64 e.kind, .int .i64 e.size, .int .i64 e.align, .int .i64 e.addr, .int .i64 e.ra, .int .i64 e.re]
def Ev.key (e : Ev) : Int × Int := (e.th, e.act)
/-- The last beginning before place i. -/
def begF (xs : List Ev) (k : Int × Int) : Nat → Option Nat
  | 0 => none
  | i + 1 => match xs[i]? with
    | some e => if e.key = k ∧ e.fin = false then some i else begF xs k i
    | none => begF xs k i
/-- Is it over before place i? -/
def ovrF (xs : List Ev) (k : Int × Int) : Nat → Bool
  | 0 => false
  | i + 1 => match xs[i]? with
    | some e => if e.key = k ∧ e.fin = true then true else ovrF xs k i
    | none => ovrF xs k i
theorem begF_none {xs : List Ev} {k : Int × Int} : ∀ {i : Nat}, begF xs k i = none → ∀ j e, j < i → xs[j]? = some e → e.key = k → e.fin = true
  | 0, _, j, e, hj, _, _ => by omega
  | i + 1, h, j, e, hj, he, hk => by
    simp only [begF] at h
    cases hx : xs[i]? with
    | none =>
      rw [hx] at h
      rcases Nat.lt_or_ge j i with h' | h'
      · exact begF_none h j e h' he hk
      · obtain rfl : j = i := by omega
        rw [hx] at he; cases he
    | some f =>
      rw [hx] at h
      simp only at h
      split at h
      · cases h
      · rename_i hn
        rcases Nat.lt_or_ge j i with h' | h'
        · exact begF_none h j e h' he hk
        · obtain rfl : j = i := by omega
          rw [hx] at he; cases he
          cases hf : e.fin with
          | true => rfl
          | false => exact absurd ⟨hk, hf⟩ hn
theorem begF_some {xs : List Ev} {k : Int × Int} : ∀ {i b : Nat}, begF xs k i = some b → b < i ∧ (∃ e, xs[b]? = some e ∧ e.key = k ∧ e.fin = false) ∧ ∀ j f, b < j → j < i → xs[j]? = some f → f.key = k → f.fin = true
  | 0, b, h => by cases h
  | i + 1, b, h => by
    simp only [begF] at h
    cases hx : xs[i]? with
    | none =>
      rw [hx] at h
      obtain ⟨h1, h2, h3⟩ := begF_some h
      refine ⟨by omega, h2, fun j f hj hj' hf hk => ?_⟩
      rcases Nat.lt_or_ge j i with h' | h'
      · exact h3 j f hj h' hf hk
      · obtain rfl : j = i := by omega
        rw [hx] at hf; cases hf
    | some g =>
      rw [hx] at h
      simp only at h
      split at h
      · rename_i hc
        cases h
        exact ⟨by omega, ⟨g, hx, hc.1, hc.2⟩, fun j f hj hj' => by omega⟩
      · rename_i hn
        obtain ⟨h1, h2, h3⟩ := begF_some h
        refine ⟨by omega, h2, fun j f hj hj' hf hk => ?_⟩
        rcases Nat.lt_or_ge j i with h' | h'
        · exact h3 j f hj h' hf hk
        · obtain rfl : j = i := by omega
          rw [hx] at hf; cases hf
          cases hf : g.fin with
          | true => rfl
          | false => exact absurd ⟨hk, hf⟩ hn
theorem ovrF_iff {xs : List Ev} {k : Int × Int} : ∀ {i : Nat}, ovrF xs k i = true ↔ ∃ j e, j < i ∧ xs[j]? = some e ∧ e.key = k ∧ e.fin = true
  | 0 => ⟨fun h => by simp [ovrF] at h, fun ⟨j, e, h, _⟩ => by omega⟩
  | i + 1 => by
    have ih := ovrF_iff (xs := xs) (k := k) (i := i)
    have up : (∃ j e, j < i + 1 ∧ xs[j]? = some e ∧ e.key = k ∧ e.fin = true) ↔ (∃ e, xs[i]? = some e ∧ e.key = k ∧ e.fin = true) ∨ ∃ j e, j < i ∧ xs[j]? = some e ∧ e.key = k ∧ e.fin = true := by
      constructor
      · rintro ⟨j, e, h1, h2⟩
        rcases Nat.lt_or_ge j i with h' | h'
        · exact .inr ⟨j, e, h', h2⟩
        · obtain rfl : j = i := by omega
          exact .inl ⟨e, h2⟩
      · rintro (⟨e, h⟩ | ⟨j, e, h1, h2⟩)
        · exact ⟨i, e, by omega, h⟩
        · exact ⟨j, e, by omega, h2⟩
    rw [up, ← ih]
    simp only [ovrF]
    cases hx : xs[i]? with
    | none => simp
    | some f =>
      simp only
      split
      · rename_i hc
        exact ⟨fun _ => .inl ⟨f, rfl, hc⟩, fun _ => rfl⟩
      · rename_i hn
        refine ⟨.inr, fun h => h.resolve_left ?_⟩
        rintro ⟨e, he, hc⟩
        cases he; exact hn hc
def badB (xs : List Ev) (i : Nat) : Bool := match xs[i]? with
  | some e => if e.fin = true then (begF xs e.key i).isNone || ovrF xs e.key i else (begF xs e.key i).isSome
  | none => false
def BadE (xs : List Ev) : Prop := ∃ i, badB xs i = true
def OkTo (xs : List Ev) (i : Nat) : Prop := ∀ j, j < i → badB xs j = false
theorem OkTo.succ {xs : List Ev} {i : Nat} (h : OkTo xs i) (hi : badB xs i = false) : OkTo xs (i + 1) := fun j hj => by
  rcases Nat.lt_or_ge j i with h' | h'
  · exact h j h'
  · obtain rfl : j = i := by omega
    exact hi
theorem OkTo.all {xs : List Ev} (h : OkTo xs xs.length) : ¬ BadE xs := fun ⟨i, hi⟩ => by
  rcases Nat.lt_or_ge i xs.length with h' | h'
  · rw [h i h'] at hi; cases hi
  · unfold badB at hi
    rw [List.getElem?_eq_none h'] at hi; cases hi
theorem OkTo.over {xs : List Ev} {i : Nat} (h : OkTo xs i) {k : Int × Int} (ho : ovrF xs k i = true) : begF xs k i ≠ none := fun hn => by
  obtain ⟨j, e, h1, h2, h3, h4⟩ := ovrF_iff.1 ho
  have := h j h1
  unfold badB at this
  rw [h2] at this
  simp only [h4, if_true, Bool.or_eq_false_iff] at this
  obtain ⟨h5, _⟩ := this
  cases hb : begF xs e.key j with
  | none => rw [hb] at h5; cases h5
  | some b =>
    obtain ⟨q1, ⟨f, q2, q3, q4⟩, _⟩ := begF_some hb
    have := begF_none hn b f (by omega) q2 (q3.trans h3)
    rw [q4] at this; cases this

/-! ### the calls -/
def mkC (e f : Ev) (b k : Nat) : Cl := ⟨e.th, b, k, e.kind, e.size, e.align, e.addr, f.ra, f.re⟩
def CallAt (xs : List Ev) (c : Cl) (b k : Nat) : Prop := ∃ e f, b < k ∧ xs[b]? = some e ∧ xs[k]? = some f ∧ f.key = e.key ∧ e.fin = false ∧ (∀ j g, b < j → j < k → xs[j]? = some g → g.key ≠ e.key) ∧ 0 ≤ e.kind ∧ e.kind ≤ 2 ∧ c = mkC e f b k
theorem CallAt.fun1 {xs : List Ev} {c c' : Cl} {b k k' : Nat} (h : CallAt xs c b k) (h' : CallAt xs c' b k') : k = k' ∧ c = c' := by
  obtain ⟨e, f, h1, h2, h3, h4, h5, h6, h7, h8, h9⟩ := h
  obtain ⟨e', f', k1, k2, k3, k4, k5, k6, k7, k8, k9⟩ := h'
  rw [h2] at k2; cases k2
  have hk : k = k' := by
    rcases Nat.lt_trichotomy k k' with h | h | h
    · exact absurd h4 (k6 k f h1 h h3)
    · exact h
    · exact absurd k4 (h6 k' f' k1 h k3)
  subst hk
  rw [h3] at k3; cases k3
  exact ⟨rfl, h9.trans k9.symm⟩
theorem CallAt.bg {xs : List Ev} {c : Cl} {b k : Nat} (h : CallAt xs c b k) : c.bg = b ∧ c.en = k ∧ b < k ∧ k < xs.length := by
  obtain ⟨e, f, h1, h2, h3, h4, h5, h6, h7, h8, rfl⟩ := h
  exact ⟨rfl, rfl, h1, (List.getElem?_eq_some_iff.1 h3).1⟩
/-- At an end. -/
theorem callAt_end {xs : List Ev} {i : Nat} (hok : OkTo xs i) {f : Ev} (hf : xs[i]? = some f) (hfin : f.fin = true) {b : Nat} {e : Ev} (hb : begF xs f.key i = some b) (ho : ovrF xs f.key i = false) (he : xs[b]? = some e) (c : Cl) :
    (∃ b', CallAt xs c b' i) ↔ (0 ≤ e.kind ∧ e.kind ≤ 2) ∧ c = mkC e f b i := by
  obtain ⟨q1, ⟨e', q2, q3, q4⟩, q5⟩ := begF_some hb
  rw [he] at q2; cases q2
  have no : ∀ j g, j < i → xs[j]? = some g → g.key = f.key → g.fin = false := fun j g hj hg hk => by
    cases hgf : g.fin with
    | false => rfl
    | true =>
      have := ovrF_iff.2 ⟨j, g, hj, hg, hk, hgf⟩
      rw [ho] at this; cases this
  constructor
  · rintro ⟨b', e2, f2, h1, h2, h3, h4, h5, h6, h7, h8, rfl⟩
    rw [hf] at h3; cases h3
    have hbb : b' = b := by
      rcases Nat.lt_trichotomy b' b with h | h | h
      · exact absurd (q3.trans h4) (h6 b e h q1 he)
      · exact h
      · have := q5 b' e2 h h1 h2 h4.symm
        rw [h5] at this; cases this
    subst hbb
    rw [he] at h2; cases h2
    exact ⟨⟨h7, h8⟩, rfl⟩
  · rintro ⟨⟨h7, h8⟩, rfl⟩
    refine ⟨b, e, f, q1, he, hf, q3.symm, q4, fun j g hj hj' hg hk => ?_, h7, h8, rfl⟩
    have h1 := q5 j g hj hj' hg (hk.trans q3)
    have h2 := no j g hj' hg (hk.trans q3)
    rw [h1] at h2; cases h2
/-- At a beginning. -/
theorem callAt_beg {xs : List Ev} {i : Nat} {f : Ev} (hf : xs[i]? = some f) (hfin : f.fin = false) (hb : begF xs f.key i = none) (c : Cl) : ¬ ∃ b', CallAt xs c b' i := by
  rintro ⟨b', e2, f2, h1, h2, h3, h4, h5, h6, h7, h8, rfl⟩
  rw [hf] at h3; cases h3
  have := begF_none hb b' e2 h1 h2 h4.symm
  rw [h5] at this; cases this

def StrB (zs : List Cl) : Prop := zs.Pairwise fun a b => a.bg < b.bg
theorem StrB.ext : ∀ {A B : List Cl}, StrB A → StrB B → (∀ c, c ∈ A ↔ c ∈ B) → A = B
  | [], B, _, _, h => by
    cases B with
    | nil => rfl
    | cons y B => have := (h y).2 (by simp); cases this
  | x :: A, [], _, _, h => by have := (h x).1 (by simp); cases this
  | x :: A, y :: B, hA, hB, h => by
    obtain ⟨a1, a2⟩ := List.pairwise_cons.1 hA
    obtain ⟨b1, b2⟩ := List.pairwise_cons.1 hB
    have hxy : x = y := by
      rcases List.mem_cons.1 ((h x).1 (by simp)) with h1 | h1
      · exact h1
      · rcases List.mem_cons.1 ((h y).2 (by simp)) with h2 | h2
        · exact h2.symm
        · have := b1 x h1; have := a1 y h2; omega
    subst hxy
    rw [StrB.ext (A := A) (B := B) a2 b2 fun c => ?_]
    constructor
    · intro hc
      rcases List.mem_cons.1 ((h c).1 (by simp [hc])) with h1 | h1
      · subst h1; have := a1 c hc; omega
      · exact h1
    · intro hc
      rcases List.mem_cons.1 ((h c).2 (by simp [hc])) with h1 | h1
      · subst h1; have := b1 c hc; omega
      · exact h1
/-- What Of returns. -/
def OfR (xs : List Ev) (e : Int) (zs : List Cl) : Prop := (BadE xs ∧ e = 2 ∧ zs = []) ∨ (¬ BadE xs ∧ e = 0 ∧ StrB zs ∧ ∀ c, c ∈ zs ↔ ∃ b k, CallAt xs c b k)
theorem OfR.uniq {xs : List Ev} {e e' : Int} {zs zs' : List Cl} (h : OfR xs e zs) (h' : OfR xs e' zs') : e = e' ∧ zs = zs' := by
  rcases h with ⟨h1, h2, h3⟩ | ⟨h1, h2, h3, h4⟩ <;> rcases h' with ⟨k1, k2, k3⟩ | ⟨k1, k2, k3, k4⟩
  · exact ⟨h2.trans k2.symm, h3.trans k3.symm⟩
  · exact absurd h1 k1
  · exact absurd k1 h1
  · exact ⟨h2.trans k2.symm, h3.ext k3 fun c => (h4 c).trans (k4 c).symm⟩

theorem nodup_lt : ∀ (n : Nat) (l : List Nat), l.Nodup → (∀ x ∈ l, x < n) → l.length ≤ n
  | 0, l, _, h => by
    cases l with
    | nil => exact Nat.le_refl _
    | cons x l => have := h x (by simp); omega
  | n + 1, l, hn, h => by
    by_cases hm : n ∈ l
    · have h1 := nodup_lt n (l.erase n) (hn.erase n) fun x hx => by
        have := (hn.mem_erase_iff).1 hx
        have := h x this.2
        omega
      have h2 := List.length_erase_of_mem hm
      omega
    · have := nodup_lt n l hn fun x hx => by
        have := h x hx
        have : x ≠ n := by rintro rfl; exact hm hx
        omega
      omega
/-- Two events make a call. -/
theorem few {xs : List Ev} {ys : List Cl} (hn : ys.Nodup) (h : ∀ c ∈ ys, ∃ b k f, CallAt xs c b k ∧ xs[k]? = some f ∧ f.fin = true) (hd : (ys.map fun c => c.bg).Nodup) (he : (ys.map fun c => c.en).Nodup) : 2 * ys.length ≤ xs.length := by
  have := nodup_lt xs.length (ys.map (fun c => c.bg.toNat) ++ ys.map (fun c => c.en.toNat)) ?_ ?_
  · simp at this; omega
  · rw [List.nodup_append]
    have inj : ∀ {g : Cl → Int}, (∀ c ∈ ys, 0 ≤ g c) → (ys.map g).Nodup → (ys.map fun c => (g c).toNat).Nodup := fun {g} hg h => by
      rw [List.nodup_iff_pairwise_ne, List.pairwise_map] at h ⊢
      refine List.Pairwise.imp_of_mem ?_ h
      intro a b ha hb hne
      have := hg a ha; have := hg b hb
      omega
    refine ⟨inj (fun c hc => ?_) hd, inj (fun c hc => ?_) he, ?_⟩
    · obtain ⟨b, k, f, h1, _⟩ := h c hc
      have := h1.bg; omega
    · obtain ⟨b, k, f, h1, _⟩ := h c hc
      have := h1.bg; omega
    · intro u hu v hv huv
      obtain ⟨c, hc, rfl⟩ := List.mem_map.1 hu
      obtain ⟨c', hc', rfl⟩ := List.mem_map.1 hv
      obtain ⟨b, k, f, h1, h2, h3⟩ := h c hc
      obtain ⟨b', k', f', h1', h2', h3'⟩ := h c' hc'
      have q1 := h1.bg
      have q2 := h1'.bg
      have : b = k' := by omega
      subst this
      obtain ⟨e, _, _, r1, _, _, r2, _⟩ := h1
      rw [h2'] at r1; cases r1
      rw [h3'] at r2; cases r2
  · intro u hu
    rcases List.mem_append.1 hu with hu | hu
    · obtain ⟨c, hc, rfl⟩ := List.mem_map.1 hu
      obtain ⟨b, k, f, h1, _⟩ := h c hc
      have := h1.bg; omega
    · obtain ⟨c, hc, rfl⟩ := List.mem_map.1 hu
      obtain ⟨b, k, f, h1, _⟩ := h c hc
      have := h1.bg; omega

/-! ### sorting -/
theorem sort_spec (ao : Option Addr) (n cap : Nat) (xs : List Cl) (hn : xs.length = n) (hn2 : n < 128) (hao : xs ≠ [] → ∃ g, ao = some ⟨g, 0, none⟩) (hdst : Dst xs) (w : World) (S : FP) (hS : Sep [own ao cap 41 9 encCl xs] w S) (hd : ∀ b, S b → b < w.heap.size) :
    Trip Tryd.prog 38 #[.slice ao n cap, .func (.func 39) #[] #[]] w S fun v L => ∃ zs, v = .tuple #[] ∧ zs.Perm xs ∧ StrB zs ∧ L = [own ao cap 41 9 encCl zs] := by
  refine Trip.of_x (L := [own ao cap 41 9 encCl xs]) Tryd.func38 (by kernel_rfl) rfl Tryd.ntmps38 Tryd.results38 rfl (ctx_ok _) hS hd ?_
  refine ⟨(n : Int), (wrap_u64 (by omega)).symm, ?_⟩
  refine callP [] (fun w S hR hB hS hd => len_spec n hn2 w S hd) ?_
  rintro _ _ ⟨rfl, rfl⟩
  refine callP [0] (fun w S hR hB hS hd => pdq_spec ao n cap hn2 (n - 0) 0 n (bitsL n) xs w S rfl hn (Nat.zero_le _) (Nat.le_refl _) (by have := bitsL_le n; omega) hao hdst (fun s t x y h => by omega) hS hd) ?_
  rintro _ _ ⟨zs, rfl, hP, hs, rfl⟩
  refine ⟨_, .refl _, zs, rfl, hP.1, ?_, rfl⟩
  have hdz := hdst.perm hP
  refine List.pairwise_iff_getElem.2 fun i j hi hj hij => ?_
  have h1 := hs i j zs[i] zs[j] (Nat.zero_le _) hij (by rw [hP.len] at hj; omega) (by simp [hi]) (by simp [hj])
  have h2 := hdz.at hij (x := zs[i]) (y := zs[j]) (by simp [hi]) (by simp [hj])
  omega
end Go.Proofs.YtfebaopjfmpfkaaDoor
