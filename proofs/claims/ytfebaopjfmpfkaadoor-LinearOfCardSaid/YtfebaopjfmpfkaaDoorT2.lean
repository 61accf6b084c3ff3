/- Sorting calls by their beginnings: changes within a range; partition. -/
import Derived.Test.YtfebaopjfmpfkaaDoorT1
namespace Go.Proofs.YtfebaopjfmpfkaaDoor
open Go.X
set_option maxRecDepth 10000
set_option linter.unusedVariables false
set_option linter.unusedSimpArgs false

/-- Nothing but places from a to b is changed, and there they change for one another. -/
def PermR (a b : Nat) (xs zs : List Cl) : Prop := zs.Perm xs ∧ ∀ t, t < a ∨ b ≤ t → zs[t]? = xs[t]?
theorem PermR.refl {a b : Nat} (xs : List Cl) : PermR a b xs xs := ⟨.refl _, fun _ _ => rfl⟩
theorem PermR.trans {a b : Nat} {xs ys zs : List Cl} (h : PermR a b xs ys) (h' : PermR a b ys zs) : PermR a b xs zs := ⟨h'.1.trans h.1, fun t ht => (h'.2 t ht).trans (h.2 t ht)⟩
theorem PermR.wide {a b a' b' : Nat} {xs ys : List Cl} (h : PermR a b xs ys) (ha : a' ≤ a) (hb : b ≤ b') : PermR a' b' xs ys := ⟨h.1, fun t ht => h.2 t (by omega)⟩
theorem PermR.len {a b : Nat} {xs ys : List Cl} (h : PermR a b xs ys) : ys.length = xs.length := h.1.length_eq
theorem PermR.swap {a b : Nat} {xs : List Cl} {p q : Nat} {x y : Cl} (hx : xs[p]? = some x) (hy : xs[q]? = some y) (hp : a ≤ p) (hp' : p < b) (hq : a ≤ q) (hq' : q < b) : PermR a b xs ((xs.set p y).set q x) := by
  obtain ⟨h1, rfl⟩ := List.getElem?_eq_some_iff.1 hx
  obtain ⟨h2, rfl⟩ := List.getElem?_eq_some_iff.1 hy
  refine ⟨List.set_set_perm h1 h2, fun t ht => ?_⟩
  rw [List.getElem?_set_ne (by omega), List.getElem?_set_ne (by omega)]
theorem sw_get {xs : List Cl} {p q : Nat} {x y : Cl} (hx : xs[p]? = some x) (hy : xs[q]? = some y) (t : Nat) : ((xs.set p y).set q x)[t]? = if t = q then some x else if t = p then some y else xs[t]? := by
  have h1 := (List.getElem?_eq_some_iff.1 hx).1
  have h2 := (List.getElem?_eq_some_iff.1 hy).1
  rw [List.getElem?_set, List.getElem?_set]
  by_cases e1 : t = q
  · subst e1; rw [if_pos rfl, if_pos (by simpa using h2), if_pos rfl]
  · rw [if_neg (fun h => e1 h.symm), if_neg e1]
    by_cases e2 : t = p
    · subst e2; rw [if_pos rfl, if_pos h1, if_pos rfl]
    · rw [if_neg (fun h => e2 h.symm), if_neg e2]
/-- What stands in the range stood there before. -/
theorem PermR.from {a b : Nat} {xs zs : List Cl} (h : PermR a b xs zs) {t : Nat} {x : Cl} (ht : a ≤ t) (ht' : t < b) (hx : zs[t]? = some x) : ∃ s, a ≤ s ∧ s < b ∧ xs[s]? = some x := by
  have hl := h.len
  have e1 : zs.take a = xs.take a := List.ext_getElem? fun i => by
    rw [List.getElem?_take, List.getElem?_take]
    split
    · exact h.2 i (.inl ‹_›)
    · rfl
  have e2 : zs.drop b = xs.drop b := List.ext_getElem? fun i => by
    rw [List.getElem?_drop, List.getElem?_drop]
    exact h.2 _ (.inr (by omega))
  have s1 : ∀ ys : List Cl, ys = ys.take a ++ ((ys.drop a).take (b - a) ++ ys.drop b) := fun ys => by
    have e : ys.drop b = (ys.drop a).drop (b - a) := by rw [List.drop_drop, show a + (b - a) = b by omega]
    rw [e, List.take_append_drop, List.take_append_drop]
  have hp := h.1
  rw [s1 zs, s1 xs, e1, e2, List.perm_append_left_iff, List.perm_append_right_iff] at hp
  have hm : x ∈ (zs.drop a).take (b - a) := by
    refine List.mem_of_getElem? (i := t - a) ?_
    rw [List.getElem?_take, if_pos (by omega), List.getElem?_drop, show a + (t - a) = t by omega, hx]
  have hm' := hp.mem_iff.1 hm
  obtain ⟨s, hs⟩ := List.mem_iff_getElem?.1 hm'
  rw [List.getElem?_take] at hs
  split at hs
  · rw [List.getElem?_drop] at hs
    exact ⟨a + s, by omega, by omega, hs⟩
  · cases hs

theorem branch_not {t : Bool} {f : Bool → Prop} : branch (!t) f ↔ (t = false → f true) ∧ (t = true → f false) := by cases t <;> simp [branch]
structure Hold (T : Prop) : Prop where
  get : T
/-- What is used twice is proved once. -/
theorem share {T G : Prop} (h : Hold T → G) (b : T) : G := h ⟨b⟩

/-! ### a region that changes two places for one another -/
def swQ (i : Nat) : List Nat := match i with
  | 6 => [4, 5]
  | 7 => [4, 5, 6]
  | 10 => [8, 9]
  | 11 => [8, 9, 10]
  | 12 => [0, 1]
  | 13 => [0, 1, 4, 5, 6, 7, 12]
  | 14 => [2, 3]
  | 15 => [2, 3, 8, 9, 10, 11, 14]
  | _ => []
def swU (i : Nat) : List Nat := match i with
  | 13 => [0, 1, 4, 5, 6, 7, 12, 11, 8, 9, 10]
  | 15 => [2, 3, 8, 9, 10, 11, 14, 13, 0, 1, 4, 5, 6, 7, 12]
  | i => swQ i
def swV (g n cap p q : Nat) (x y : Cl) : RelV := fun i _ v => v = match i with
  | 0 | 2 | 4 | 8 => .slice (some ⟨g, 0, none⟩) n cap
  | 1 | 9 => .int .i64 p
  | 3 | 5 => .int .i64 q
  | 6 | 14 => .pointer (some ⟨g, 0 + q * 9, none⟩)
  | 10 | 12 => .pointer (some ⟨g, 0 + p * 9, none⟩)
  | 7 => .agg ⟨encCl y⟩
  | 11 => .agg ⟨encCl x⟩
  | _ => undef
/-- Below i what is less than the pivot, above j what is not. -/
def Mid (a b : Nat) (pv : Cl) (zs : List Cl) (i j : Nat) : Prop :=
  zs[a]? = some pv ∧ a + 1 ≤ i ∧ j < b ∧ i ≤ j + 1 ∧ (∀ t x, a < t → t < i → zs[t]? = some x → x.bg < pv.bg) ∧ (∀ t x, j < t → t < b → zs[t]? = some x → pv.bg ≤ x.bg)
theorem Mid.up {a b : Nat} {pv : Cl} {zs : List Cl} {i j : Nat} (h : Mid a b pv zs i j) {x : Cl} (hij : i ≤ j) (hx : zs[i]? = some x) (hl : x.bg < pv.bg) : Mid a b pv zs (i + 1) j := by
  obtain ⟨j1, j2, j3, j4, j5, j6⟩ := h
  refine ⟨j1, by omega, j3, by omega, fun t z h1 h2 hz => ?_, j6⟩
  rcases Nat.lt_or_ge t i with h' | h'
  · exact j5 t z h1 h' hz
  · obtain rfl : t = i := by omega
    rw [hx] at hz; cases hz; exact hl
theorem Mid.down {a b : Nat} {pv : Cl} {zs : List Cl} {i j : Nat} (h : Mid a b pv zs i j) {x : Cl} (hij : i ≤ j) (hx : zs[j]? = some x) (hl : ¬ x.bg < pv.bg) : Mid a b pv zs i (j - 1) := by
  obtain ⟨j1, j2, j3, j4, j5, j6⟩ := h
  refine ⟨j1, j2, by omega, by omega, j5, fun t z h1 h2 hz => ?_⟩
  rcases Nat.lt_or_ge j t with h' | h'
  · exact j6 t z h' h2 hz
  · obtain rfl : t = j := by omega
    rw [hx] at hz; cases hz; omega
theorem Mid.swap {a b : Nat} {pv : Cl} {zs : List Cl} {i j : Nat} (h : Mid a b pv zs i j) {x y : Cl} (hij : i ≤ j) (hx : zs[i]? = some x) (hy : zs[j]? = some y) (h1 : ¬ x.bg < pv.bg) (h2 : y.bg < pv.bg) : Mid a b pv ((zs.set i y).set j x) (i + 1) (j - 1) := by
  obtain ⟨j1, j2, j3, j4, j5, j6⟩ := h
  have hne : i ≠ j := by rintro rfl; rw [hx] at hy; cases hy; exact h1 h2
  refine ⟨?_, by omega, by omega, by omega, fun t z k1 k2 hz => ?_, fun t z k1 k2 hz => ?_⟩
  · rw [sw_get hx hy, if_neg (by omega), if_neg (by omega)]; exact j1
  · rw [sw_get hx hy, if_neg (by omega)] at hz
    split at hz
    · cases hz; exact h2
    · exact j5 t z k1 (by omega) hz
  · rw [sw_get hx hy] at hz
    split at hz
    · cases hz; omega
    · rw [if_neg (by omega)] at hz; exact j6 t z (by omega) k2 hz
/-- The pivot comes to its place. -/
def Parted (a b : Nat) (pv : Cl) (zs : List Cl) (mid : Nat) : Prop :=
  a ≤ mid ∧ mid < b ∧ zs[mid]? = some pv ∧ (∀ t x, a ≤ t → t < mid → zs[t]? = some x → x.bg < pv.bg) ∧ (∀ t x, mid < t → t < b → zs[t]? = some x → pv.bg ≤ x.bg)
theorem Mid.fin {a b : Nat} {pv : Cl} {zs : List Cl} {i j : Nat} (h : Mid a b pv zs i j) (hij : j < i) {y : Cl} (hy : zs[j]? = some y) : Parted a b pv ((zs.set j pv).set a y) j := by
  obtain ⟨j1, j2, j3, j4, j5, j6⟩ := h
  refine ⟨by omega, j3, ?_, fun t z k1 k2 hz => ?_, fun t z k1 k2 hz => ?_⟩
  · rw [sw_get hy j1]
    split
    · rename_i he; subst he; rw [hy] at j1; exact j1
    · rw [if_pos rfl]
  · rw [sw_get hy j1] at hz
    split at hz
    · cases hz; exact j5 j _ (by omega) (by omega) hy
    · rw [if_neg (by omega)] at hz; exact j5 t z (by omega) (by omega) hz
  · rw [sw_get hy j1, if_neg (by omega), if_neg (by omega)] at hz
    exact j6 t z k1 k2 hz

theorem partition_spec (g n cap a b p : Nat) (xs : List Cl) (hn : xs.length = n) (hn2 : n ≤ 1000000) (hb : b ≤ n) (hp : a ≤ p) (hp' : p < b) (w : World) (S : FP) (hS : Sep [own (some ⟨g, 0, none⟩) cap 41 9 encCl xs] w S) (hd : ∀ b, S b → b < w.heap.size) :
    Trip Tryd.prog 60 #[.slice (some ⟨g, 0, none⟩) n cap, .int .i64 a, .int .i64 b, .int .i64 p, .func (.func 39) #[] #[]] w S fun v L => ∃ mid bo zs pv, v = .tuple #[.int .i64 (mid : Nat), .bool bo] ∧ PermR a b xs zs ∧ Parted a b pv zs mid ∧ L = [own (some ⟨g, 0, none⟩) cap 41 9 encCl zs] := by
  refine Trip.of_x (L := [own (some ⟨g, 0, none⟩) cap 41 9 encCl xs]) Tryd.func60 (by kernel_rfl) rfl Tryd.ntmps60 Tryd.results60 rfl (ctx_ok _) hS hd ?_
  obtain ⟨x0, hx0⟩ : ∃ x, xs[a]? = some x := ⟨xs[a]'(by omega), by simp [show a < xs.length by omega]⟩
  obtain ⟨pv, hpv⟩ : ∃ x, xs[p]? = some x := ⟨xs[p]'(by omega), by simp [show p < xs.length by omega]⟩
  refine Or.inr (Or.inr (drawE swU swQ (swV g n cap a p x0 pv) [13, 15] [7, 11] [[own (some ⟨g, 0, none⟩) cap 41 9 encCl xs], [own (some ⟨g, 0, none⟩) cap 41 9 encCl (xs.set a pv)], [own (some ⟨g, 0, none⟩) cap 41 9 encCl ((xs.set a pv).set p x0)]] rfl (by kernel_rfl) ?_ ?_))
  · refine ⟨?_, ?_, ?_, ?_, ?_, ?_, ?_, ?_, ?_, ?_, ?_, ?_, ?_, ?_, ?_, ?_, trivial⟩
    · exact rfl
    · exact rfl
    · exact rfl
    · exact rfl
    · exact rfl
    · exact rfl
    · rintro _ _ ⟨rfl, rfl⟩; rintro _ _ ⟨rfl, rfl⟩; exact ⟨p, rfl, by omega, rfl⟩
    · rintro _ _ ⟨rfl, rfl⟩; rintro _ _ ⟨rfl, rfl⟩; rintro _ _ ⟨rfl, rfl⟩; exact ⟨_, ldOA 0 (p) rfl (fun _ _ => rfl) hpv rfl rfl rfl (by omega), rfl⟩
    · exact rfl
    · exact rfl
    · rintro _ _ ⟨rfl, rfl⟩; rintro _ _ ⟨rfl, rfl⟩; exact ⟨a, rfl, by omega, rfl⟩
    · rintro _ _ ⟨rfl, rfl⟩; rintro _ _ ⟨rfl, rfl⟩; rintro _ _ ⟨rfl, rfl⟩; exact ⟨_, ldOA 0 (a) rfl (fun _ _ => rfl) hx0 rfl rfl rfl (by omega), rfl⟩
    · rintro _ _ ⟨rfl, rfl⟩; rintro _ _ ⟨rfl, rfl⟩; exact ⟨a, rfl, by omega, rfl⟩
    · rintro _ _ ⟨rfl, rfl⟩; rintro _ _ ⟨rfl, rfl⟩; rintro _ _ ⟨rfl, rfl⟩; rintro _ _ ⟨rfl, rfl⟩; rintro _ _ ⟨rfl, rfl⟩; rintro _ _ ⟨rfl, rfl⟩; rintro _ _ ⟨rfl, rfl⟩; exact stO 0 (a) pv rfl (fun _ _ => rfl) rfl (by omega) rfl rfl rfl rfl (by omega) ⟨rfl, .refl _⟩
    · rintro _ _ ⟨rfl, rfl⟩; rintro _ _ ⟨rfl, rfl⟩; exact ⟨p, rfl, by omega, rfl⟩
    · rintro _ _ ⟨rfl, rfl⟩; rintro _ _ ⟨rfl, rfl⟩; rintro _ _ ⟨rfl, rfl⟩; rintro _ _ ⟨rfl, rfl⟩; rintro _ _ ⟨rfl, rfl⟩; rintro _ _ ⟨rfl, rfl⟩; rintro _ _ ⟨rfl, rfl⟩; exact stO 0 (p) x0 rfl (fun _ _ => rfl) rfl (by simp; omega) rfl rfl rfl rfl (by omega) ⟨rfl, .refl _⟩
  rintro _ _ ⟨rfl, rfl⟩; rintro _ _ ⟨rfl, rfl⟩; rintro _ _ ⟨rfl, rfl⟩; rintro _ _ ⟨rfl, rfl⟩; rintro _ _ ⟨rfl, rfl⟩; rintro _ _ ⟨rfl, rfl⟩; rintro _ _ ⟨rfl, rfl⟩; rintro _ _ ⟨rfl, rfl⟩; rintro _ _ ⟨rfl, rfl⟩; rintro _ _ ⟨rfl, rfl⟩; rintro _ _ ⟨rfl, rfl⟩; rintro _ _ ⟨rfl, rfl⟩; rintro _ _ ⟨rfl, rfl⟩; rintro _ _ ⟨rfl, rfl⟩; rintro _ _ ⟨rfl, rfl⟩; rintro _ _ ⟨rfl, rfl⟩
  have hP0 : PermR a b xs ((xs.set a pv).set p x0) := PermR.swap hx0 hpv (Nat.le_refl _) (by omega) hp hp'
  have ha0 : ((xs.set a pv).set p x0)[a]? = some pv := by
    rw [sw_get hx0 hpv]
    split
    · rename_i he; subst he; rw [hx0] at hpv; exact hpv
    · rw [if_pos rfl]
  generalize (xs.set a pv).set p x0 = zs at hP0 ha0 ⊢
  have hzl : zs.length = n := hP0.len.trans hn
  refine ⟨((a + 1 : Nat) : Int), by rw [show ((a : Int) + 1) = ((a + 1 : Nat) : Int) by omega]; exact wrap_i64 (by omega) (by omega), ?_⟩
  refine ⟨((b - 1 : Nat) : Int), by rw [show ((b : Int) - 1) = ((b - 1 : Nat) : Int) by omega]; exact wrap_i64 (by omega) (by omega), ?_⟩
  have hJ : Mid a b pv zs (a + 1) (b - 1) := ⟨ha0, Nat.le_refl _, by omega, by omega, fun t x h1 h2 => by omega, fun t x h1 h2 => by omega⟩
  generalize a + 1 = i at hJ ⊢
  generalize b - 1 = j at hJ ⊢
  have hPz : PermR a b xs zs := hP0
  apply share
  · intro hb4
    apply share
    · intro hb2
      refine loopI (σ := Nat × Nat) (fun s => [(0, .slice (some ⟨g, 0, none⟩) n cap), (1, .int .i64 a), (4, .func (.func 39) #[] #[]), (12, .int .i64 s.1), (13, .int .i64 s.2)]) (fun _ => [own (some ⟨g, 0, none⟩) cap 41 9 encCl zs]) (fun s => Mid a b pv zs s.1 s.2 ∧ True) (fun s => s.2 + 1 - s.1) (i, j) ⟨rfl, rfl, rfl, rfl, rfl, trivial⟩ (.refl _) ⟨hJ, trivial⟩ ?_
      rintro ⟨i, j⟩ ⟨hJ, hlo⟩
      have hJ : Mid a b pv zs i j := hJ
      have hlo : True := hlo
      obtain ⟨j1, j2, j3, j4, j5, j6⟩ := id hJ
      refine Or.inl ⟨by kernel_rfl, ?_⟩
      refine ⟨fun h => ?_, fun h => ?_⟩
      · have hij : i ≤ j := by have := of_decide_eq_true h; simp at this; omega
        obtain ⟨x, hx⟩ : ∃ x, zs[i]? = some x := ⟨zs[i]'(by omega), by simp [show i < zs.length by omega]⟩
        refine ⟨i, rfl, by omega, ?_⟩
        refine ⟨_, ldOA 0 i rfl (fun _ _ => rfl) hx rfl rfl rfl (by show 0 + i * 9 = i * 9; omega), ?_⟩
        refine ⟨a, rfl, by omega, ?_⟩
        refine ⟨_, ldOA 0 a rfl (fun _ _ => rfl) j1 rfl rfl rfl (by show 0 + a * 9 = a * 9; omega), ?_⟩
        refine callQ [] (fun w S hR hB hS hd => cmpBg_spec x pv w S hd) ?_
        have hcmp : cmpZ x.bg pv.bg < 0 ↔ x.bg < pv.bg := cmpZ_lt
        refine ⟨fun hc => ?_, fun hc => ?_⟩
        · have hc : x.bg < pv.bg := hcmp.1 (of_decide_eq_true hc)
          refine ⟨((i + 1 : Nat) : Int), by rw [show ((i : Int) + 1) = ((i + 1 : Nat) : Int) by omega]; exact wrap_i64 (by omega) (by omega), ?_⟩
          exact backI (i + 1, j) (by show j + 1 - (i + 1) < j + 1 - i; omega) ⟨hJ.up hij hx hc, by show True; omega⟩ ⟨rfl, rfl, rfl, rfl, rfl, trivial⟩ (.refl _)
        · have hc : ¬ x.bg < pv.bg := fun h => of_decide_eq_false hc (hcmp.2 h)
          exact by refine loopI (σ := Nat × Nat) (fun s => [(0, .slice (some ⟨g, 0, none⟩) n cap), (1, .int .i64 a), (4, .func (.func 39) #[] #[]), (12, .int .i64 s.1), (13, .int .i64 s.2)]) (fun _ => [own (some ⟨g, 0, none⟩) cap 41 9 encCl zs]) (fun s => Mid a b pv zs s.1 s.2 ∧ True ∧ ∀ z, s.1 ≤ s.2 → zs[s.1]? = some z → ¬ z.bg < pv.bg) (fun s => s.2 + 1 - s.1) (i, j) ⟨rfl, rfl, rfl, rfl, rfl, trivial⟩ (.refl _) ⟨hJ, hlo, fun z _ hz => by rw [hx] at hz; cases hz; exact hc⟩ ?_; exact hb2.get
      · have hij : ¬ i ≤ j := by have := of_decide_eq_false h; simp at this; omega
        repeat (refine ⟨nofun, fun _ => ?_⟩)
        exact by refine loopI (σ := Nat × Nat) (fun s => [(0, .slice (some ⟨g, 0, none⟩) n cap), (1, .int .i64 a), (4, .func (.func 39) #[] #[]), (12, .int .i64 s.1), (13, .int .i64 s.2)]) (fun _ => [own (some ⟨g, 0, none⟩) cap 41 9 encCl zs]) (fun s => Mid a b pv zs s.1 s.2 ∧ True ∧ ∀ z, s.1 ≤ s.2 → zs[s.1]? = some z → ¬ z.bg < pv.bg) (fun s => s.2 + 1 - s.1) (i, j) ⟨rfl, rfl, rfl, rfl, rfl, trivial⟩ (.refl _) ⟨hJ, hlo, fun z h _ => absurd h hij⟩ ?_; exact hb2.get
    · rintro ⟨i, j⟩ ⟨hJ, hlo, hst⟩
      have hJ : Mid a b pv zs i j := hJ
      have hlo : True := hlo
      have hst : ∀ z, i ≤ j → zs[i]? = some z → ¬ z.bg < pv.bg := hst
      obtain ⟨j1, j2, j3, j4, j5, j6⟩ := id hJ
      refine Or.inl ⟨by kernel_rfl, ?_⟩
      refine ⟨fun h => ?_, fun h => ?_⟩
      · have hij : i ≤ j := by have := of_decide_eq_true h; simp at this; omega
        obtain ⟨y, hy⟩ : ∃ x, zs[j]? = some x := ⟨zs[j]'(by omega), by simp [show j < zs.length by omega]⟩
        refine ⟨j, rfl, by omega, ?_⟩
        refine ⟨_, ldOA 0 j rfl (fun _ _ => rfl) hy rfl rfl rfl (by show 0 + j * 9 = j * 9; omega), ?_⟩
        refine ⟨a, rfl, by omega, ?_⟩
        refine ⟨_, ldOA 0 a rfl (fun _ _ => rfl) j1 rfl rfl rfl (by show 0 + a * 9 = a * 9; omega), ?_⟩
        refine callQ [] (fun w S hR hB hS hd => cmpBg_spec y pv w S hd) ?_
        have hcmp : cmpZ y.bg pv.bg < 0 ↔ y.bg < pv.bg := cmpZ_lt
        refine ⟨fun hc => ?_, fun hc => ?_⟩
        · have hc : ¬ y.bg < pv.bg := fun h => by
            have h' := hcmp.2 h
            have hc : (!decide (cmpZ y.bg pv.bg < 0)) = true := hc
            rw [decide_eq_true h'] at hc; cases hc
          refine ⟨((j - 1 : Nat) : Int), by rw [show ((j : Int) - 1) = ((j - 1 : Nat) : Int) by omega]; exact wrap_i64 (by omega) (by omega), ?_⟩
          exact backI (i, j - 1) (by show j - 1 + 1 - i < j + 1 - i; omega) ⟨hJ.down hij hy hc, by show True; omega, fun z _ hz => hst z hij hz⟩ ⟨rfl, rfl, rfl, rfl, rfl, trivial⟩ (.refl _)
        · have hc : y.bg < pv.bg := hcmp.1 (by
            have hc : (!decide (cmpZ y.bg pv.bg < 0)) = false := hc
            simpa using hc)
          refine ⟨fun h => absurd (of_decide_eq_true h) (by simp; omega), fun _ => ?_⟩
          obtain ⟨x, hx⟩ : ∃ x, zs[i]? = some x := ⟨zs[i]'(by omega), by simp [show i < zs.length by omega]⟩
          refine Or.inr (Or.inr (drawE swU swQ (swV g n cap i j x y) [13, 15] [7, 11] [[own (some ⟨g, 0, none⟩) cap 41 9 encCl zs], [own (some ⟨g, 0, none⟩) cap 41 9 encCl (zs.set i y)], [own (some ⟨g, 0, none⟩) cap 41 9 encCl ((zs.set i y).set j x)]] rfl (by kernel_rfl) ?_ ?_))
          · refine ⟨?_, ?_, ?_, ?_, ?_, ?_, ?_, ?_, ?_, ?_, ?_, ?_, ?_, ?_, ?_, ?_, trivial⟩
            · exact rfl
            · exact rfl
            · exact rfl
            · exact rfl
            · exact rfl
            · exact rfl
            · rintro _ _ ⟨rfl, rfl⟩; rintro _ _ ⟨rfl, rfl⟩; exact ⟨j, rfl, by omega, rfl⟩
            · rintro _ _ ⟨rfl, rfl⟩; rintro _ _ ⟨rfl, rfl⟩; rintro _ _ ⟨rfl, rfl⟩; exact ⟨_, ldOA 0 (j) rfl (fun _ _ => rfl) hy rfl rfl rfl (by omega), rfl⟩
            · exact rfl
            · exact rfl
            · rintro _ _ ⟨rfl, rfl⟩; rintro _ _ ⟨rfl, rfl⟩; exact ⟨i, rfl, by omega, rfl⟩
            · rintro _ _ ⟨rfl, rfl⟩; rintro _ _ ⟨rfl, rfl⟩; rintro _ _ ⟨rfl, rfl⟩; exact ⟨_, ldOA 0 (i) rfl (fun _ _ => rfl) hx rfl rfl rfl (by omega), rfl⟩
            · rintro _ _ ⟨rfl, rfl⟩; rintro _ _ ⟨rfl, rfl⟩; exact ⟨i, rfl, by omega, rfl⟩
            · rintro _ _ ⟨rfl, rfl⟩; rintro _ _ ⟨rfl, rfl⟩; rintro _ _ ⟨rfl, rfl⟩; rintro _ _ ⟨rfl, rfl⟩; rintro _ _ ⟨rfl, rfl⟩; rintro _ _ ⟨rfl, rfl⟩; rintro _ _ ⟨rfl, rfl⟩; exact stO 0 (i) y rfl (fun _ _ => rfl) rfl (by omega) rfl rfl rfl rfl (by omega) ⟨rfl, .refl _⟩
            · rintro _ _ ⟨rfl, rfl⟩; rintro _ _ ⟨rfl, rfl⟩; exact ⟨j, rfl, by omega, rfl⟩
            · rintro _ _ ⟨rfl, rfl⟩; rintro _ _ ⟨rfl, rfl⟩; rintro _ _ ⟨rfl, rfl⟩; rintro _ _ ⟨rfl, rfl⟩; rintro _ _ ⟨rfl, rfl⟩; rintro _ _ ⟨rfl, rfl⟩; rintro _ _ ⟨rfl, rfl⟩; exact stO 0 (j) x rfl (fun _ _ => rfl) rfl (by simp; omega) rfl rfl rfl rfl (by omega) ⟨rfl, .refl _⟩
          rintro _ _ ⟨rfl, rfl⟩; rintro _ _ ⟨rfl, rfl⟩; rintro _ _ ⟨rfl, rfl⟩; rintro _ _ ⟨rfl, rfl⟩; rintro _ _ ⟨rfl, rfl⟩; rintro _ _ ⟨rfl, rfl⟩; rintro _ _ ⟨rfl, rfl⟩; rintro _ _ ⟨rfl, rfl⟩; rintro _ _ ⟨rfl, rfl⟩; rintro _ _ ⟨rfl, rfl⟩; rintro _ _ ⟨rfl, rfl⟩; rintro _ _ ⟨rfl, rfl⟩; rintro _ _ ⟨rfl, rfl⟩; rintro _ _ ⟨rfl, rfl⟩; rintro _ _ ⟨rfl, rfl⟩; rintro _ _ ⟨rfl, rfl⟩
          refine ⟨((i + 1 : Nat) : Int), by rw [show ((i : Int) + 1) = ((i + 1 : Nat) : Int) by omega]; exact wrap_i64 (by omega) (by omega), ?_⟩
          refine ⟨((j - 1 : Nat) : Int), by rw [show ((j : Int) - 1) = ((j - 1 : Nat) : Int) by omega]; exact wrap_i64 (by omega) (by omega), ?_⟩
          refine loopI (σ := Nat × Nat × List Cl) (fun s => [(0, .slice (some ⟨g, 0, none⟩) n cap), (1, .int .i64 a), (4, .func (.func 39) #[] #[]), (12, .int .i64 s.1), (13, .int .i64 s.2.1)]) (fun s => [own (some ⟨g, 0, none⟩) cap 41 9 encCl s.2.2]) (fun s => PermR a b xs s.2.2 ∧ Mid a b pv s.2.2 s.1 s.2.1) (fun s => s.2.1 + 1 - s.1) (i + 1, j - 1, (zs.set i y).set j x) ⟨rfl, rfl, rfl, rfl, rfl, trivial⟩ (.refl _) ⟨PermR.trans hPz (PermR.swap hx hy (by omega) (by omega) (by omega) (by omega)), hJ.swap hij hx hy (hst x hij hx) hc⟩ ?_; exact hb4.get
      · have hij : ¬ i ≤ j := by have := of_decide_eq_false h; simp at this; omega
        refine ⟨nofun, fun _ => ?_⟩
        refine ⟨fun _ => ?_, fun h => absurd (of_decide_eq_false h) (by simp; omega)⟩
        obtain ⟨y, hy⟩ : ∃ x, zs[j]? = some x := ⟨zs[j]'(by omega), by simp [show j < zs.length by omega]⟩
        refine Or.inr (Or.inr (drawE swU swQ (swV g n cap j a y pv) [13, 15] [7, 11] [[own (some ⟨g, 0, none⟩) cap 41 9 encCl zs], [own (some ⟨g, 0, none⟩) cap 41 9 encCl (zs.set j pv)], [own (some ⟨g, 0, none⟩) cap 41 9 encCl ((zs.set j pv).set a y)]] rfl (by kernel_rfl) ?_ ?_))
        · refine ⟨?_, ?_, ?_, ?_, ?_, ?_, ?_, ?_, ?_, ?_, ?_, ?_, ?_, ?_, ?_, ?_, trivial⟩
          · exact rfl
          · exact rfl
          · exact rfl
          · exact rfl
          · exact rfl
          · exact rfl
          · rintro _ _ ⟨rfl, rfl⟩; rintro _ _ ⟨rfl, rfl⟩; exact ⟨a, rfl, by omega, rfl⟩
          · rintro _ _ ⟨rfl, rfl⟩; rintro _ _ ⟨rfl, rfl⟩; rintro _ _ ⟨rfl, rfl⟩; exact ⟨_, ldOA 0 (a) rfl (fun _ _ => rfl) j1 rfl rfl rfl (by omega), rfl⟩
          · exact rfl
          · exact rfl
          · rintro _ _ ⟨rfl, rfl⟩; rintro _ _ ⟨rfl, rfl⟩; exact ⟨j, rfl, by omega, rfl⟩
          · rintro _ _ ⟨rfl, rfl⟩; rintro _ _ ⟨rfl, rfl⟩; rintro _ _ ⟨rfl, rfl⟩; exact ⟨_, ldOA 0 (j) rfl (fun _ _ => rfl) hy rfl rfl rfl (by omega), rfl⟩
          · rintro _ _ ⟨rfl, rfl⟩; rintro _ _ ⟨rfl, rfl⟩; exact ⟨j, rfl, by omega, rfl⟩
          · rintro _ _ ⟨rfl, rfl⟩; rintro _ _ ⟨rfl, rfl⟩; rintro _ _ ⟨rfl, rfl⟩; rintro _ _ ⟨rfl, rfl⟩; rintro _ _ ⟨rfl, rfl⟩; rintro _ _ ⟨rfl, rfl⟩; rintro _ _ ⟨rfl, rfl⟩; exact stO 0 (j) pv rfl (fun _ _ => rfl) rfl (by omega) rfl rfl rfl rfl (by omega) ⟨rfl, .refl _⟩
          · rintro _ _ ⟨rfl, rfl⟩; rintro _ _ ⟨rfl, rfl⟩; exact ⟨a, rfl, by omega, rfl⟩
          · rintro _ _ ⟨rfl, rfl⟩; rintro _ _ ⟨rfl, rfl⟩; rintro _ _ ⟨rfl, rfl⟩; rintro _ _ ⟨rfl, rfl⟩; rintro _ _ ⟨rfl, rfl⟩; rintro _ _ ⟨rfl, rfl⟩; rintro _ _ ⟨rfl, rfl⟩; exact stO 0 (a) y rfl (fun _ _ => rfl) rfl (by simp; omega) rfl rfl rfl rfl (by omega) ⟨rfl, .refl _⟩
        rintro _ _ ⟨rfl, rfl⟩; rintro _ _ ⟨rfl, rfl⟩; rintro _ _ ⟨rfl, rfl⟩; rintro _ _ ⟨rfl, rfl⟩; rintro _ _ ⟨rfl, rfl⟩; rintro _ _ ⟨rfl, rfl⟩; rintro _ _ ⟨rfl, rfl⟩; rintro _ _ ⟨rfl, rfl⟩; rintro _ _ ⟨rfl, rfl⟩; rintro _ _ ⟨rfl, rfl⟩; rintro _ _ ⟨rfl, rfl⟩; rintro _ _ ⟨rfl, rfl⟩; rintro _ _ ⟨rfl, rfl⟩; rintro _ _ ⟨rfl, rfl⟩; rintro _ _ ⟨rfl, rfl⟩; rintro _ _ ⟨rfl, rfl⟩
        exact ⟨_, .refl _, j, true, _, pv, rfl, PermR.trans hPz (PermR.swap hy j1 (by omega) (by omega) (by omega) (by omega)), hJ.fin (by omega) hy, rfl⟩
  · rintro ⟨i0, j0, zs⟩ ⟨hPz, hJ⟩
    have hPz : PermR a b xs zs := hPz
    have hJ : Mid a b pv zs i0 j0 := hJ
    have hzl : zs.length = n := hPz.len.trans hn
    apply share
    · intro hb8
      refine loopI (σ := Nat × Nat) (fun s => [(0, .slice (some ⟨g, 0, none⟩) n cap), (1, .int .i64 a), (4, .func (.func 39) #[] #[]), (12, .int .i64 s.1), (13, .int .i64 s.2)]) (fun _ => [own (some ⟨g, 0, none⟩) cap 41 9 encCl zs]) (fun s => Mid a b pv zs s.1 s.2 ∧ (i0 ≤ s.1 ∧ s.2 ≤ j0)) (fun s => s.2 + 1 - s.1) (i0, j0) ⟨rfl, rfl, rfl, rfl, rfl, trivial⟩ (.refl _) ⟨hJ, Nat.le_refl _, Nat.le_refl _⟩ ?_
      rintro ⟨i, j⟩ ⟨hJ, hlo⟩
      have hJ : Mid a b pv zs i j := hJ
      have hlo : i0 ≤ i ∧ j ≤ j0 := hlo
      obtain ⟨j1, j2, j3, j4, j5, j6⟩ := id hJ
      refine Or.inl ⟨by kernel_rfl, ?_⟩
      refine ⟨fun h => ?_, fun h => ?_⟩
      · have hij : i ≤ j := by have := of_decide_eq_true h; simp at this; omega
        obtain ⟨x, hx⟩ : ∃ x, zs[i]? = some x := ⟨zs[i]'(by omega), by simp [show i < zs.length by omega]⟩
        refine ⟨i, rfl, by omega, ?_⟩
        refine ⟨_, ldOA 0 i rfl (fun _ _ => rfl) hx rfl rfl rfl (by show 0 + i * 9 = i * 9; omega), ?_⟩
        refine ⟨a, rfl, by omega, ?_⟩
        refine ⟨_, ldOA 0 a rfl (fun _ _ => rfl) j1 rfl rfl rfl (by show 0 + a * 9 = a * 9; omega), ?_⟩
        refine callQ [] (fun w S hR hB hS hd => cmpBg_spec x pv w S hd) ?_
        have hcmp : cmpZ x.bg pv.bg < 0 ↔ x.bg < pv.bg := cmpZ_lt
        refine ⟨fun hc => ?_, fun hc => ?_⟩
        · have hc : x.bg < pv.bg := hcmp.1 (of_decide_eq_true hc)
          refine ⟨((i + 1 : Nat) : Int), by rw [show ((i : Int) + 1) = ((i + 1 : Nat) : Int) by omega]; exact wrap_i64 (by omega) (by omega), ?_⟩
          exact backI (i + 1, j) (by show j + 1 - (i + 1) < j + 1 - i; omega) ⟨hJ.up hij hx hc, by show i0 ≤ i + 1 ∧ j ≤ j0; omega⟩ ⟨rfl, rfl, rfl, rfl, rfl, trivial⟩ (.refl _)
        · have hc : ¬ x.bg < pv.bg := fun h => of_decide_eq_false hc (hcmp.2 h)
          exact by refine loopI (σ := Nat × Nat) (fun s => [(0, .slice (some ⟨g, 0, none⟩) n cap), (1, .int .i64 a), (4, .func (.func 39) #[] #[]), (12, .int .i64 s.1), (13, .int .i64 s.2)]) (fun _ => [own (some ⟨g, 0, none⟩) cap 41 9 encCl zs]) (fun s => Mid a b pv zs s.1 s.2 ∧ (i0 ≤ s.1 ∧ s.2 ≤ j0) ∧ ∀ z, s.1 ≤ s.2 → zs[s.1]? = some z → ¬ z.bg < pv.bg) (fun s => s.2 + 1 - s.1) (i, j) ⟨rfl, rfl, rfl, rfl, rfl, trivial⟩ (.refl _) ⟨hJ, hlo, fun z _ hz => by rw [hx] at hz; cases hz; exact hc⟩ ?_; exact hb8.get
      · have hij : ¬ i ≤ j := by have := of_decide_eq_false h; simp at this; omega
        repeat (refine ⟨nofun, fun _ => ?_⟩)
        exact by refine loopI (σ := Nat × Nat) (fun s => [(0, .slice (some ⟨g, 0, none⟩) n cap), (1, .int .i64 a), (4, .func (.func 39) #[] #[]), (12, .int .i64 s.1), (13, .int .i64 s.2)]) (fun _ => [own (some ⟨g, 0, none⟩) cap 41 9 encCl zs]) (fun s => Mid a b pv zs s.1 s.2 ∧ (i0 ≤ s.1 ∧ s.2 ≤ j0) ∧ ∀ z, s.1 ≤ s.2 → zs[s.1]? = some z → ¬ z.bg < pv.bg) (fun s => s.2 + 1 - s.1) (i, j) ⟨rfl, rfl, rfl, rfl, rfl, trivial⟩ (.refl _) ⟨hJ, hlo, fun z h _ => absurd h hij⟩ ?_; exact hb8.get
    · rintro ⟨i, j⟩ ⟨hJ, hlo, hst⟩
      have hJ : Mid a b pv zs i j := hJ
      have hlo : i0 ≤ i ∧ j ≤ j0 := hlo
      have hst : ∀ z, i ≤ j → zs[i]? = some z → ¬ z.bg < pv.bg := hst
      obtain ⟨j1, j2, j3, j4, j5, j6⟩ := id hJ
      refine Or.inl ⟨by kernel_rfl, ?_⟩
      refine ⟨fun h => ?_, fun h => ?_⟩
      · have hij : i ≤ j := by have := of_decide_eq_true h; simp at this; omega
        obtain ⟨y, hy⟩ : ∃ x, zs[j]? = some x := ⟨zs[j]'(by omega), by simp [show j < zs.length by omega]⟩
        refine ⟨j, rfl, by omega, ?_⟩
        refine ⟨_, ldOA 0 j rfl (fun _ _ => rfl) hy rfl rfl rfl (by show 0 + j * 9 = j * 9; omega), ?_⟩
        refine ⟨a, rfl, by omega, ?_⟩
        refine ⟨_, ldOA 0 a rfl (fun _ _ => rfl) j1 rfl rfl rfl (by show 0 + a * 9 = a * 9; omega), ?_⟩
        refine callQ [] (fun w S hR hB hS hd => cmpBg_spec y pv w S hd) ?_
        have hcmp : cmpZ y.bg pv.bg < 0 ↔ y.bg < pv.bg := cmpZ_lt
        refine ⟨fun hc => ?_, fun hc => ?_⟩
        · have hc : ¬ y.bg < pv.bg := fun h => by
            have h' := hcmp.2 h
            have hc : (!decide (cmpZ y.bg pv.bg < 0)) = true := hc
            rw [decide_eq_true h'] at hc; cases hc
          refine ⟨((j - 1 : Nat) : Int), by rw [show ((j : Int) - 1) = ((j - 1 : Nat) : Int) by omega]; exact wrap_i64 (by omega) (by omega), ?_⟩
          exact backI (i, j - 1) (by show j - 1 + 1 - i < j + 1 - i; omega) ⟨hJ.down hij hy hc, by show i0 ≤ i ∧ j - 1 ≤ j0; omega, fun z _ hz => hst z hij hz⟩ ⟨rfl, rfl, rfl, rfl, rfl, trivial⟩ (.refl _)
        · have hc : y.bg < pv.bg := hcmp.1 (by
            have hc : (!decide (cmpZ y.bg pv.bg < 0)) = false := hc
            simpa using hc)
          refine ⟨fun h => absurd (of_decide_eq_true h) (by simp; omega), fun _ => ?_⟩
          obtain ⟨x, hx⟩ : ∃ x, zs[i]? = some x := ⟨zs[i]'(by omega), by simp [show i < zs.length by omega]⟩
          refine Or.inr (Or.inr (drawE swU swQ (swV g n cap i j x y) [13, 15] [7, 11] [[own (some ⟨g, 0, none⟩) cap 41 9 encCl zs], [own (some ⟨g, 0, none⟩) cap 41 9 encCl (zs.set i y)], [own (some ⟨g, 0, none⟩) cap 41 9 encCl ((zs.set i y).set j x)]] rfl (by kernel_rfl) ?_ ?_))
          · refine ⟨?_, ?_, ?_, ?_, ?_, ?_, ?_, ?_, ?_, ?_, ?_, ?_, ?_, ?_, ?_, ?_, trivial⟩
            · exact rfl
            · exact rfl
            · exact rfl
            · exact rfl
            · exact rfl
            · exact rfl
            · rintro _ _ ⟨rfl, rfl⟩; rintro _ _ ⟨rfl, rfl⟩; exact ⟨j, rfl, by omega, rfl⟩
            · rintro _ _ ⟨rfl, rfl⟩; rintro _ _ ⟨rfl, rfl⟩; rintro _ _ ⟨rfl, rfl⟩; exact ⟨_, ldOA 0 (j) rfl (fun _ _ => rfl) hy rfl rfl rfl (by omega), rfl⟩
            · exact rfl
            · exact rfl
            · rintro _ _ ⟨rfl, rfl⟩; rintro _ _ ⟨rfl, rfl⟩; exact ⟨i, rfl, by omega, rfl⟩
            · rintro _ _ ⟨rfl, rfl⟩; rintro _ _ ⟨rfl, rfl⟩; rintro _ _ ⟨rfl, rfl⟩; exact ⟨_, ldOA 0 (i) rfl (fun _ _ => rfl) hx rfl rfl rfl (by omega), rfl⟩
            · rintro _ _ ⟨rfl, rfl⟩; rintro _ _ ⟨rfl, rfl⟩; exact ⟨i, rfl, by omega, rfl⟩
            · rintro _ _ ⟨rfl, rfl⟩; rintro _ _ ⟨rfl, rfl⟩; rintro _ _ ⟨rfl, rfl⟩; rintro _ _ ⟨rfl, rfl⟩; rintro _ _ ⟨rfl, rfl⟩; rintro _ _ ⟨rfl, rfl⟩; rintro _ _ ⟨rfl, rfl⟩; exact stO 0 (i) y rfl (fun _ _ => rfl) rfl (by omega) rfl rfl rfl rfl (by omega) ⟨rfl, .refl _⟩
            · rintro _ _ ⟨rfl, rfl⟩; rintro _ _ ⟨rfl, rfl⟩; exact ⟨j, rfl, by omega, rfl⟩
            · rintro _ _ ⟨rfl, rfl⟩; rintro _ _ ⟨rfl, rfl⟩; rintro _ _ ⟨rfl, rfl⟩; rintro _ _ ⟨rfl, rfl⟩; rintro _ _ ⟨rfl, rfl⟩; rintro _ _ ⟨rfl, rfl⟩; rintro _ _ ⟨rfl, rfl⟩; exact stO 0 (j) x rfl (fun _ _ => rfl) rfl (by simp; omega) rfl rfl rfl rfl (by omega) ⟨rfl, .refl _⟩
          rintro _ _ ⟨rfl, rfl⟩; rintro _ _ ⟨rfl, rfl⟩; rintro _ _ ⟨rfl, rfl⟩; rintro _ _ ⟨rfl, rfl⟩; rintro _ _ ⟨rfl, rfl⟩; rintro _ _ ⟨rfl, rfl⟩; rintro _ _ ⟨rfl, rfl⟩; rintro _ _ ⟨rfl, rfl⟩; rintro _ _ ⟨rfl, rfl⟩; rintro _ _ ⟨rfl, rfl⟩; rintro _ _ ⟨rfl, rfl⟩; rintro _ _ ⟨rfl, rfl⟩; rintro _ _ ⟨rfl, rfl⟩; rintro _ _ ⟨rfl, rfl⟩; rintro _ _ ⟨rfl, rfl⟩; rintro _ _ ⟨rfl, rfl⟩
          refine ⟨((i + 1 : Nat) : Int), by rw [show ((i : Int) + 1) = ((i + 1 : Nat) : Int) by omega]; exact wrap_i64 (by omega) (by omega), ?_⟩
          refine ⟨((j - 1 : Nat) : Int), by rw [show ((j : Int) - 1) = ((j - 1 : Nat) : Int) by omega]; exact wrap_i64 (by omega) (by omega), ?_⟩
          exact backI (i + 1, j - 1, (zs.set i y).set j x) (by show j - 1 + 1 - (i + 1) < j0 + 1 - i0; omega) ⟨PermR.trans hPz (PermR.swap hx hy (by omega) (by omega) (by omega) (by omega)), hJ.swap hij hx hy (hst x hij hx) hc⟩ ⟨rfl, rfl, rfl, rfl, rfl, trivial⟩ (.refl _)
      · have hij : ¬ i ≤ j := by have := of_decide_eq_false h; simp at this; omega
        refine ⟨nofun, fun _ => ?_⟩
        refine ⟨fun _ => ?_, fun h => absurd (of_decide_eq_false h) (by simp; omega)⟩
        obtain ⟨y, hy⟩ : ∃ x, zs[j]? = some x := ⟨zs[j]'(by omega), by simp [show j < zs.length by omega]⟩
        refine Or.inr (Or.inr (drawE swU swQ (swV g n cap j a y pv) [13, 15] [7, 11] [[own (some ⟨g, 0, none⟩) cap 41 9 encCl zs], [own (some ⟨g, 0, none⟩) cap 41 9 encCl (zs.set j pv)], [own (some ⟨g, 0, none⟩) cap 41 9 encCl ((zs.set j pv).set a y)]] rfl (by kernel_rfl) ?_ ?_))
        · refine ⟨?_, ?_, ?_, ?_, ?_, ?_, ?_, ?_, ?_, ?_, ?_, ?_, ?_, ?_, ?_, ?_, trivial⟩
          · exact rfl
          · exact rfl
          · exact rfl
          · exact rfl
          · exact rfl
          · exact rfl
          · rintro _ _ ⟨rfl, rfl⟩; rintro _ _ ⟨rfl, rfl⟩; exact ⟨a, rfl, by omega, rfl⟩
          · rintro _ _ ⟨rfl, rfl⟩; rintro _ _ ⟨rfl, rfl⟩; rintro _ _ ⟨rfl, rfl⟩; exact ⟨_, ldOA 0 (a) rfl (fun _ _ => rfl) j1 rfl rfl rfl (by omega), rfl⟩
          · exact rfl
          · exact rfl
          · rintro _ _ ⟨rfl, rfl⟩; rintro _ _ ⟨rfl, rfl⟩; exact ⟨j, rfl, by omega, rfl⟩
          · rintro _ _ ⟨rfl, rfl⟩; rintro _ _ ⟨rfl, rfl⟩; rintro _ _ ⟨rfl, rfl⟩; exact ⟨_, ldOA 0 (j) rfl (fun _ _ => rfl) hy rfl rfl rfl (by omega), rfl⟩
          · rintro _ _ ⟨rfl, rfl⟩; rintro _ _ ⟨rfl, rfl⟩; exact ⟨j, rfl, by omega, rfl⟩
          · rintro _ _ ⟨rfl, rfl⟩; rintro _ _ ⟨rfl, rfl⟩; rintro _ _ ⟨rfl, rfl⟩; rintro _ _ ⟨rfl, rfl⟩; rintro _ _ ⟨rfl, rfl⟩; rintro _ _ ⟨rfl, rfl⟩; rintro _ _ ⟨rfl, rfl⟩; exact stO 0 (j) pv rfl (fun _ _ => rfl) rfl (by omega) rfl rfl rfl rfl (by omega) ⟨rfl, .refl _⟩
          · rintro _ _ ⟨rfl, rfl⟩; rintro _ _ ⟨rfl, rfl⟩; exact ⟨a, rfl, by omega, rfl⟩
          · rintro _ _ ⟨rfl, rfl⟩; rintro _ _ ⟨rfl, rfl⟩; rintro _ _ ⟨rfl, rfl⟩; rintro _ _ ⟨rfl, rfl⟩; rintro _ _ ⟨rfl, rfl⟩; rintro _ _ ⟨rfl, rfl⟩; rintro _ _ ⟨rfl, rfl⟩; exact stO 0 (a) y rfl (fun _ _ => rfl) rfl (by simp; omega) rfl rfl rfl rfl (by omega) ⟨rfl, .refl _⟩
        rintro _ _ ⟨rfl, rfl⟩; rintro _ _ ⟨rfl, rfl⟩; rintro _ _ ⟨rfl, rfl⟩; rintro _ _ ⟨rfl, rfl⟩; rintro _ _ ⟨rfl, rfl⟩; rintro _ _ ⟨rfl, rfl⟩; rintro _ _ ⟨rfl, rfl⟩; rintro _ _ ⟨rfl, rfl⟩; rintro _ _ ⟨rfl, rfl⟩; rintro _ _ ⟨rfl, rfl⟩; rintro _ _ ⟨rfl, rfl⟩; rintro _ _ ⟨rfl, rfl⟩; rintro _ _ ⟨rfl, rfl⟩; rintro _ _ ⟨rfl, rfl⟩; rintro _ _ ⟨rfl, rfl⟩; rintro _ _ ⟨rfl, rfl⟩
        exact ⟨_, .refl _, j, false, _, pv, rfl, PermR.trans hPz (PermR.swap hy j1 (by omega) (by omega) (by omega) (by omega)), hJ.fin (by omega) hy, rfl⟩
end Go.Proofs.YtfebaopjfmpfkaaDoor
