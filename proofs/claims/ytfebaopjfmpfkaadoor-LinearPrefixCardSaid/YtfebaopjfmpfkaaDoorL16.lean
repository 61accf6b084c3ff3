/- Orders that are right, said of the calls themselves, in the order in which they are done. -/
import Derived.Test.YtfebaopjfmpfkaaDoorL13
namespace Go.Proofs.YtfebaopjfmpfkaaDoor
open Go.X
set_option maxRecDepth 10000
set_option linter.unusedVariables false
set_option linter.unusedSimpArgs false

/-- All these calls are accepted, one after the other. -/
def AccAll : List (Int × Int) → List Cl → Prop
  | _, [] => True
  | M, c :: cs => (accF M c).1 = true ∧ AccAll (accF M c).2 cs
/-- These calls, one after the other, as their times allow. -/
def Lin (cs : List Cl) : Prop := cs.Pairwise (fun c d => ¬ d.en < c.bg) ∧ AccAll [] cs

theorem canB_iff {xs : List Cl} (hs : xs.length ≤ 64) {D i : Nat} (hD : D < 2 ^ 64) (hi : i < 64) {bg : Int} : canB xs D i bg = true ↔ D.testBit i = false ∧ ∀ (j : Nat) (d : Cl), xs[j]? = some d → D.testBit j = false → ¬ d.en < bg := by
  unfold canB
  rw [Bool.and_eq_true, all_zipIdx, hasB_nat hD hi]
  refine and_congr (by simp) ⟨fun h j d hd hb => ?_, fun h j d hd => ?_⟩
  · have hj : j < 64 := by have := (List.getElem?_eq_some_iff.1 hd).1; omega
    have := h j d hd
    rw [hasB_nat hD hj, hb] at this
    simpa using this
  · have hj : j < 64 := by have := (List.getElem?_eq_some_iff.1 hd).1; omega
    rw [hasB_nat hD hj]
    cases hb : D.testBit j with
    | true => rfl
    | false => simpa using h j d hd hb

theorem runs_iff {xs : List Cl} (hs : xs.length ≤ 64) (hle : ∀ c ∈ xs, ¬ c.en < c.bg) : ∀ (o : List Nat) {D : Nat} {pre : List Nat} {M : List (Int × Int)}, Done xs D pre → (pre ++ o).Perm (List.range xs.length) →
    (Runs xs D M o ↔ ∃ cs : List Cl, o.map (fun i => xs[i]?) = cs.map some ∧ cs.Pairwise (fun c d => ¬ d.en < c.bg) ∧ AccAll M cs)
  | [], D, pre, M, _, _ => ⟨fun _ => ⟨[], rfl, .nil, trivial⟩, fun _ => trivial⟩
  | i :: r, D, pre, M, hD, hp => by
    have hnd : (pre ++ i :: r).Nodup := hp.nodup_iff.2 List.nodup_range
    have hmem : ∀ j, j < xs.length → (D.testBit j = false ↔ j ∈ i :: r) := fun j hj => by
      have h1 : j ∈ pre ++ i :: r := hp.mem_iff.2 (List.mem_range.2 hj)
      constructor
      · intro hb
        rcases List.mem_append.1 h1 with h | h
        · have := ((hD.mem j).1 h).2; rw [hb] at this; cases this
        · exact h
      · intro h
        cases hb : D.testBit j with
        | false => rfl
        | true => exact absurd rfl ((List.nodup_append.1 hnd).2.2 j ((hD.mem j).2 ⟨hj, hb⟩) j h)
    have hi : i < xs.length := List.mem_range.1 (hp.mem_iff.1 (by simp))
    obtain ⟨c, hc⟩ : ∃ c, xs[i]? = some c := ⟨_, List.getElem?_eq_getElem hi⟩
    have hbi : D.testBit i = false := (hmem i hi).2 (by simp)
    have ih := runs_iff hs hle r (D := D ||| 2 ^ i) (pre := pre ++ [i]) (M := (accF M c).2) (hD.push hs hi hbi) (by simpa using hp)
    have hcan : canB xs D i c.bg = true ↔ ∀ j ∈ r, ∀ d, xs[j]? = some d → ¬ d.en < c.bg := by
      rw [canB_iff hs hD.lt (by omega)]
      constructor
      · rintro ⟨_, h⟩ j hj d hd
        exact h j d hd ((hmem j (List.getElem?_eq_some_iff.1 hd).1).2 (by simp [hj]))
      · refine fun h => ⟨hbi, fun j d hd hb => ?_⟩
        rcases List.mem_cons.1 ((hmem j (List.getElem?_eq_some_iff.1 hd).1).1 hb) with rfl | hj
        · rw [hc] at hd; cases hd; exact hle _ (List.mem_of_getElem? hc)
        · exact h j hj d hd
    constructor
    · rintro ⟨c', h1, h2, h3, h4⟩
      rw [hc] at h1; cases h1
      obtain ⟨cs, e, hpw, ha⟩ := ih.1 h4
      refine ⟨c :: cs, by simp [hc, e], List.pairwise_cons.2 ⟨fun d hd => ?_, hpw⟩, h3, ha⟩
      have : some d ∈ cs.map some := List.mem_map.2 ⟨d, hd, rfl⟩
      rw [← e] at this
      obtain ⟨j, hj, hjd⟩ := List.mem_map.1 this
      exact hcan.1 h2 j hj d hjd
    · rintro ⟨cs, e, hpw, ha⟩
      cases cs with
      | nil => simp at e
      | cons c' cs =>
        simp only [List.map_cons, List.cons.injEq] at e
        obtain ⟨e1, e2⟩ := e
        rw [hc] at e1; cases e1
        obtain ⟨p1, p2⟩ := List.pairwise_cons.1 hpw
        refine ⟨c, hc, hcan.2 fun j hj d hd => p1 d ?_, ha.1, ih.2 ⟨cs, e2, p2, ha.2⟩⟩
        have : some d ∈ cs.map some := e2 ▸ List.mem_map.2 ⟨j, hj, hd⟩
        simpa using this

theorem Valid.le {xs : List Cl} (h : Valid xs) : ∀ c ∈ xs, ¬ c.en < c.bg := fun c hc => by
  obtain ⟨i, hi⟩ := List.mem_iff_getElem?.1 hc
  have := (h i c hi).1.lt
  omega

theorem good_iff {xs : List Cl} (hs : xs.length ≤ 64) (hv : Valid xs) {o : List Nat} : Good xs 0 [] o ↔ o.Perm (List.range xs.length) ∧ ∃ cs : List Cl, o.map (fun i => xs[i]?) = cs.map some ∧ Lin cs := by
  constructor
  · intro h
    have hnew : o.Nodup ∧ ∀ i ∈ o, i < xs.length := by
      have key : ∀ {o : List Nat} {D : Nat} {M : List (Int × Int)}, D < 2 ^ 64 → Runs xs D M o → o.Nodup ∧ ∀ i ∈ o, i < xs.length ∧ D.testBit i = false := by
        intro o
        induction o with
        | nil => intros; exact ⟨by simp, by simp⟩
        | cons i r ih =>
          rintro D M hD ⟨c, h1, h2, _, h4⟩
          have hlt := (List.getElem?_eq_some_iff.1 h1).1
          obtain ⟨k1, k2⟩ := ih (or_lt hD (by omega)) h4
          have hb := canB_has hD (by omega) h2
          refine ⟨List.nodup_cons.2 ⟨fun hm => ?_, k1⟩, fun j hj => ?_⟩
          · have := (k2 i hm).2
            rw [bit_set] at this
            simp at this
          · rcases List.mem_cons.1 hj with rfl | hj
            · exact ⟨hlt, hb⟩
            · obtain ⟨p, q⟩ := k2 j hj
              rw [bit_set, Bool.or_eq_false_iff] at q
              exact ⟨p, q.1⟩
      obtain ⟨a, b⟩ := key (by decide) h.1
      exact ⟨a, fun i hi => (b i hi).1⟩
    have hp : o.Perm (List.range xs.length) := (List.perm_ext_iff_of_nodup hnew.1 List.nodup_range).2 fun i => ⟨fun hi => List.mem_range.2 (hnew.2 i hi), fun hi => by
      rcases h.2 i (List.mem_range.1 hi) with h | h
      · simp at h
      · exact h⟩
    exact ⟨hp, (runs_iff hs hv.le o (.nil xs) hp).1 h.1⟩
  · rintro ⟨hp, h⟩
    exact ⟨(runs_iff hs hv.le o (.nil xs) hp).2 h, fun i hi => .inr (hp.mem_iff.2 (List.mem_range.2 hi))⟩

theorem perm_map {α β : Type} {f : α → β} {l m : List β} (h : l.Perm m) : ∀ {r : List α}, m = r.map f → ∃ r' : List α, r'.Perm r ∧ l = r'.map f := by
  induction h with
  | nil => exact fun h => ⟨_, .refl _, h⟩
  | cons x _ ih =>
    intro r h
    cases r with
    | nil => simp at h
    | cons a r =>
      simp only [List.map_cons, List.cons.injEq] at h
      obtain ⟨r', h1, h2⟩ := ih h.2
      exact ⟨a :: r', h1.cons a, by rw [h.1, h2]; rfl⟩
  | swap x y l =>
    intro r h
    match r, h with
    | a :: b :: r, h =>
      simp only [List.map_cons, List.cons.injEq] at h
      obtain ⟨rfl, rfl, rfl⟩ := h
      exact ⟨b :: a :: r, .swap _ _ _, rfl⟩
  | trans _ _ ih1 ih2 =>
    intro r h
    obtain ⟨r1, h1, h2⟩ := ih2 h
    obtain ⟨r2, h3, h4⟩ := ih1 h2
    exact ⟨r2, h3.trans h1, h4⟩

theorem map_get {α : Type} (xs : List α) : (List.range xs.length).map (fun i => xs[i]?) = xs.map some := by
  apply List.ext_getElem?
  intro i
  rw [List.getElem?_map, List.getElem?_map]
  rcases Nat.lt_or_ge i xs.length with h | h
  · rw [List.getElem?_range h]; simp [h]
  · rw [List.getElem?_eq_none (by simpa using h), List.getElem?_eq_none (by simpa using h)]; rfl

theorem some_inj {α : Type} : ∀ {a b : List α}, a.map some = b.map some → a = b
  | [], [], _ => rfl
  | [], _ :: _, h => by simp at h
  | _ :: _, [], h => by simp at h
  | x :: a, y :: b, h => by
    simp only [List.map_cons, List.cons.injEq, Option.some.injEq] at h
    rw [h.1, some_inj h.2]
theorem perm_some {α : Type} {a b : List α} (h : (a.map some).Perm (b.map some)) : a.Perm b := by
  have := h.filterMap id
  simpa [List.filterMap_map, Function.comp_def] using this

theorem some_good {xs : List Cl} (hs : xs.length ≤ 64) (hv : Valid xs) : (∃ o, Good xs 0 [] o) ↔ ∃ cs : List Cl, cs.Perm xs ∧ Lin cs := by
  constructor
  · rintro ⟨o, h⟩
    obtain ⟨hp, cs, e, hl⟩ := (good_iff hs hv).1 h
    refine ⟨cs, perm_some ?_, hl⟩
    rw [← e, ← map_get xs]
    exact hp.map _
  · rintro ⟨cs, hp, hl⟩
    obtain ⟨o, h1, h2⟩ := perm_map (f := fun i => xs[i]?) (r := List.range xs.length) (hp.map some) (map_get xs).symm
    exact ⟨o, (good_iff hs hv).2 ⟨h1, cs, h2.symm, hl⟩⟩

theorem AccAll.take : ∀ {cs : List Cl} {M : List (Int × Int)} (k : Nat), AccAll M cs → AccAll M (cs.take k)
  | [], _, k, _ => by simp [AccAll]
  | c :: cs, _, 0, _ => trivial
  | c :: cs, M, k + 1, h => ⟨h.1, AccAll.take k h.2⟩
theorem Lin.take {cs : List Cl} (k : Nat) (h : Lin cs) : Lin (cs.take k) := ⟨h.1.sublist (List.take_sublist k cs), h.2.take k⟩

/-- What the order begins with is a history, and the order is right for it. -/
theorem parts_good {xs ys : List Cl} (hs : xs.length ≤ 64) (hv : Valid xs) {o : List Nat} {k : Nat} (h : Good xs 0 [] o) (hk : (o.take k).map (fun i => xs[i]?) = ys.map some) : Valid ys ∧ ∃ o', Good ys 0 [] o' := by
  obtain ⟨hp, cs, e, hl⟩ := (good_iff hs hv).1 h
  have hy : ys = cs.take k := some_inj (by rw [← hk, List.map_take, e, List.map_take])
  have hpc : cs.Perm xs := perm_some (by rw [← e, ← map_get xs]; exact hp.map _)
  have hvc : Valid (cs.take k) := (hv.perm hpc.symm).take k
  subst hy
  exact ⟨hvc, (some_good (by have := hpc.length_eq; simp; omega) hvc).2 ⟨_, .refl _, hl.take k⟩⟩

theorem lexLe_at : ∀ {o o' : List Nat} {i p q : Nat}, lexLe o o' → (∀ j, j < i → o[j]? = o'[j]?) → o[i]? = some p → o'[i]? = some q → p ≠ q → p < q
  | [], _, i, p, q, _, _, h, _, _ => by simp at h
  | _ :: _, [], _, _, _, h, _, _, _, _ => h.elim
  | a :: l, b :: m, 0, p, q, h, _, hp, hq, hne => by
    simp at hp hq
    subst hp hq
    rcases h with h | ⟨h, _⟩
    · exact h
    · exact absurd h hne
  | a :: l, b :: m, i + 1, p, q, h, he, hp, hq, hne => by
    have h0 := he 0 (by omega)
    simp at h0
    rcases h with h | ⟨_, h⟩
    · omega
    · exact lexLe_at (i := i) h (fun j hj => by simpa using he (j + 1) (by omega)) (by simpa using hp) (by simpa using hq) hne
/-- A call begins earlier and ends later. -/
structure Wider (c d : Cl) : Prop where
  th : d.th = c.th
  bg : d.bg ≤ c.bg
  en : c.en ≤ d.en
  kind : d.kind = c.kind
  size : d.size = c.size
  align : d.align = c.align
  addr : d.addr = c.addr
  ra : d.ra = c.ra
  re : d.re = c.re
theorem Wider.acc {c d : Cl} (h : Wider c d) (M : List (Int × Int)) : accF M d = accF M c := by
  obtain ⟨_, _, _, h1, h2, h3, h4, h5, h6⟩ := h
  unfold accF
  rw [h1, h2, h3, h4, h5, h6]
theorem Runs.wider {xs ys : List Cl} (hs : xs.length ≤ 64) (hl : ys.length = xs.length) (hw : ∀ (i : Nat) (c : Cl), xs[i]? = some c → ∃ d, ys[i]? = some d ∧ Wider c d) : ∀ {o : List Nat} {D : Nat} {M : List (Int × Int)}, D < 2 ^ 64 → Runs xs D M o → Runs ys D M o
  | [], _, _, _, _ => trivial
  | i :: r, D, M, hD, ⟨c, h1, h2, h3, h4⟩ => by
    have hi := (List.getElem?_eq_some_iff.1 h1).1
    obtain ⟨d, k1, k2⟩ := hw i c h1
    rw [← k2.acc M] at h3 h4
    refine ⟨d, k1, ?_, h3, Runs.wider hs hl hw (or_lt hD (by omega)) h4⟩
    rw [canB_iff hs hD (by omega)] at h2
    rw [canB_iff (by omega) hD (by omega)]
    refine ⟨h2.1, fun j e he hb => ?_⟩
    obtain ⟨e', he'⟩ : ∃ e', xs[j]? = some e' := ⟨xs[j]'(by have := (List.getElem?_eq_some_iff.1 he).1; omega), List.getElem?_eq_getElem _⟩
    obtain ⟨e2, q1, q2⟩ := hw j e' he'
    rw [he] at q1; cases q1
    have := h2.2 j e' he' hb
    have := q2.en
    have := k2.bg
    omega
theorem Good.wider {xs ys : List Cl} (hs : xs.length ≤ 64) (hl : ys.length = xs.length) (hw : ∀ (i : Nat) (c : Cl), xs[i]? = some c → ∃ d, ys[i]? = some d ∧ Wider c d) {o : List Nat} (h : Good xs 0 [] o) : Good ys 0 [] o :=
  ⟨h.1.wider hs hl hw (by decide), fun i hi => h.2 i (hl ▸ hi)⟩

/-- Calls that do not overlap are done one behind the other. -/
theorem alone_at {xs : List Cl} (hs : xs.length ≤ 64) (hv : Valid xs) {o : List Nat} (h : Good xs 0 [] o) (hno : ∀ (i k : Nat) (c d : Cl), k < i → xs[i]? = some c → xs[k]? = some d → ¬ (c.bg ≤ d.en ∧ d.bg ≤ c.en))
    {i p q : Nat} {c d : Cl} (hp : o[i]? = some p) (hq : o[i + 1]? = some q) (hc : xs[p]? = some c) (hd : xs[q]? = some d) : c.en < d.bg := by
  obtain ⟨hpm, cs, e, hl⟩ := (good_iff hs hv).1 h
  have hcs : ∀ (j m : Nat) (x : Cl), o[j]? = some m → xs[m]? = some x → cs[j]? = some x := fun j m x hj hm => by
    have := congrArg (·[j]?) e
    simp only [List.getElem?_map, hj, Option.map_some, hm] at this
    cases hcj : cs[j]? with
    | none => rw [hcj] at this; cases this
    | some y => rw [hcj] at this; simp only [Option.map_some, Option.some.injEq] at this; rw [this]
  have h1 := hcs i p c hp hc
  have h2 := hcs (i + 1) q d hq hd
  have hpw : ¬ d.en < c.bg := by
    obtain ⟨a1, a2⟩ := List.getElem?_eq_some_iff.1 h1
    obtain ⟨b1, b2⟩ := List.getElem?_eq_some_iff.1 h2
    have := List.pairwise_iff_getElem.1 hl.1 i (i + 1) a1 b1 (by omega)
    rwa [a2, b2] at this
  have hne : p ≠ q := fun he => by
    obtain ⟨a1, a2⟩ := List.getElem?_eq_some_iff.1 hp
    obtain ⟨b1, b2⟩ := List.getElem?_eq_some_iff.1 hq
    have hnd : o.Nodup := hpm.nodup_iff.2 List.nodup_range
    have := (List.pairwise_iff_getElem.1 hnd) i (i + 1) a1 b1 (by omega)
    rw [a2, b2] at this
    exact this he
  rcases Nat.lt_trichotomy p q with hlt | heq | hgt
  · have := hno q p d c hlt hd hc
    omega
  · exact absurd heq hne
  · have := hno p q c d hgt hc hd
    omega
end Go.Proofs.YtfebaopjfmpfkaaDoor
