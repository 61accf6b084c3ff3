/- Sorting calls by their beginnings: a range turned round; a few insertions. Sorting calls by their beginnings: the pivot is chosen. -/
import Derived.Test.YtfebaopjfmpfkaaDoorT2
namespace Go.Proofs.YtfebaopjfmpfkaaDoor
open Go.X
set_option maxRecDepth 10000
set_option linter.unusedVariables false
set_option linter.unusedSimpArgs false

theorem reverse_spec (f : Value) (g n cap a b : Nat) (xs : List Cl) (hn : xs.length = n) (hn2 : n ≤ 1000000) (hb : b ≤ n) (hab : a < b) (w : World) (S : FP) (hS : Sep [own (some ⟨g, 0, none⟩) cap 41 9 encCl xs] w S) (hd : ∀ b, S b → b < w.heap.size) :
    Trip Tryd.prog 57 #[.slice (some ⟨g, 0, none⟩) n cap, .int .i64 a, .int .i64 b, f] w S fun v L => ∃ zs, v = .tuple #[] ∧ PermR a b xs zs ∧ L = [own (some ⟨g, 0, none⟩) cap 41 9 encCl zs] := by
  refine Trip.of_x (L := [own (some ⟨g, 0, none⟩) cap 41 9 encCl xs]) Tryd.func57 (by kernel_rfl) rfl Tryd.ntmps57 Tryd.results57 rfl (ctx_ok _) hS hd ?_
  refine ⟨((b - 1 : Nat) : Int), by rw [show ((b : Int) - 1) = ((b - 1 : Nat) : Int) by omega]; exact wrap_i64 (by omega) (by omega), ?_⟩
  refine loopI (σ := Nat × Nat × List Cl) (fun s => [(0, .slice (some ⟨g, 0, none⟩) n cap), (8, .int .i64 s.1), (9, .int .i64 s.2.1)]) (fun s => [own (some ⟨g, 0, none⟩) cap 41 9 encCl s.2.2]) (fun s => PermR a b xs s.2.2 ∧ a ≤ s.1 ∧ s.2.1 < b) (fun s => s.2.1 - s.1) (a, b - 1, xs) ⟨rfl, rfl, rfl, trivial⟩ (.refl _) ⟨PermR.refl _, Nat.le_refl _, by show b - 1 < b; omega⟩ ?_
  rintro ⟨i, j, zs⟩ ⟨hP, hi, hj⟩
  have hP : PermR a b xs zs := hP
  have hi : a ≤ i := hi
  have hj : j < b := hj
  have hzl : zs.length = n := hP.len.trans hn
  refine ⟨fun h => ?_, fun h => ?_⟩
  · have hij : i < j := by have := of_decide_eq_true h; simp at this; omega
    obtain ⟨x, hx⟩ : ∃ x, zs[i]? = some x := ⟨zs[i]'(by omega), by simp [show i < zs.length by omega]⟩
    obtain ⟨y, hy⟩ : ∃ x, zs[j]? = some x := ⟨zs[j]'(by omega), by simp [show j < zs.length by omega]⟩
    refine Or.inr (Or.inr (drawE swU swQ (swV g n cap i j x y) [13, 15] [7, 11] [[own (some ⟨g, 0, none⟩) cap 41 9 encCl zs], [own (some ⟨g, 0, none⟩) cap 41 9 encCl (zs.set i y)], [own (some ⟨g, 0, none⟩) cap 41 9 encCl ((zs.set i y).set j x)]] rfl (by kernel_rfl) ?_ ?_))
    · refine ⟨?_, ?_, ?_, ?_, ?_, ?_, ?_, ?_, ?_, ?_, ?_, ?_, ?_, ?_, ?_, ?_, trivial⟩
      · exact rfl
      · exact rfl
      · exact rfl
      · exact rfl
      · exact rfl
      · exact rfl
      · rintro _ _ ⟨rfl, rfl⟩; rintro _ _ ⟨rfl, rfl⟩; exact ⟨j, rfl, by omega, rfl⟩
      · rintro _ _ ⟨rfl, rfl⟩; rintro _ _ ⟨rfl, rfl⟩; rintro _ _ ⟨rfl, rfl⟩; exact ⟨_, ldOA 0 (j) rfl (fun _ _ => rfl) hy rfl rfl rfl (by omega), rfl⟩
      · exact rfl
      · exact rfl
      · rintro _ _ ⟨rfl, rfl⟩; rintro _ _ ⟨rfl, rfl⟩; exact ⟨i, rfl, by omega, rfl⟩
      · rintro _ _ ⟨rfl, rfl⟩; rintro _ _ ⟨rfl, rfl⟩; rintro _ _ ⟨rfl, rfl⟩; exact ⟨_, ldOA 0 (i) rfl (fun _ _ => rfl) hx rfl rfl rfl (by omega), rfl⟩
      · rintro _ _ ⟨rfl, rfl⟩; rintro _ _ ⟨rfl, rfl⟩; exact ⟨i, rfl, by omega, rfl⟩
      · rintro _ _ ⟨rfl, rfl⟩; rintro _ _ ⟨rfl, rfl⟩; rintro _ _ ⟨rfl, rfl⟩; rintro _ _ ⟨rfl, rfl⟩; rintro _ _ ⟨rfl, rfl⟩; rintro _ _ ⟨rfl, rfl⟩; rintro _ _ ⟨rfl, rfl⟩; exact stO 0 (i) y rfl (fun _ _ => rfl) rfl (by omega) rfl rfl rfl rfl (by omega) ⟨rfl, .refl _⟩
      · rintro _ _ ⟨rfl, rfl⟩; rintro _ _ ⟨rfl, rfl⟩; exact ⟨j, rfl, by omega, rfl⟩
      · rintro _ _ ⟨rfl, rfl⟩; rintro _ _ ⟨rfl, rfl⟩; rintro _ _ ⟨rfl, rfl⟩; rintro _ _ ⟨rfl, rfl⟩; rintro _ _ ⟨rfl, rfl⟩; rintro _ _ ⟨rfl, rfl⟩; rintro _ _ ⟨rfl, rfl⟩; exact stO 0 (j) x rfl (fun _ _ => rfl) rfl (by simp; omega) rfl rfl rfl rfl (by omega) ⟨rfl, .refl _⟩
    rintro _ _ ⟨rfl, rfl⟩; rintro _ _ ⟨rfl, rfl⟩; rintro _ _ ⟨rfl, rfl⟩; rintro _ _ ⟨rfl, rfl⟩; rintro _ _ ⟨rfl, rfl⟩; rintro _ _ ⟨rfl, rfl⟩; rintro _ _ ⟨rfl, rfl⟩; rintro _ _ ⟨rfl, rfl⟩; rintro _ _ ⟨rfl, rfl⟩; rintro _ _ ⟨rfl, rfl⟩; rintro _ _ ⟨rfl, rfl⟩; rintro _ _ ⟨rfl, rfl⟩; rintro _ _ ⟨rfl, rfl⟩; rintro _ _ ⟨rfl, rfl⟩; rintro _ _ ⟨rfl, rfl⟩; rintro _ _ ⟨rfl, rfl⟩
    refine ⟨((i + 1 : Nat) : Int), by rw [show ((i : Int) + 1) = ((i + 1 : Nat) : Int) by omega]; exact wrap_i64 (by omega) (by omega), ?_⟩
    refine ⟨((j - 1 : Nat) : Int), by rw [show ((j : Int) - 1) = ((j - 1 : Nat) : Int) by omega]; exact wrap_i64 (by omega) (by omega), ?_⟩
    exact backI (i + 1, j - 1, (zs.set i y).set j x) (by show j - 1 - (i + 1) < j - i; omega) ⟨hP.trans (PermR.swap hx hy (by omega) (by omega) (by omega) (by omega)), by show a ≤ i + 1; omega, by show j - 1 < b; omega⟩ ⟨rfl, rfl, rfl, trivial⟩ (.refl _)
  · exact ⟨_, .refl _, zs, rfl, hP, rfl⟩

/-! ### a few insertions -/
def SrtI (a i : Nat) (zs : List Cl) : Prop := ∀ s t x y, a ≤ s → s < t → t < i → zs[s]? = some x → zs[t]? = some y → x.bg ≤ y.bg
/-- Sorted, but for what stands at j and what is before it. -/
def SrtX (a i j : Nat) (zs : List Cl) : Prop := ∀ s t x y, a ≤ s → s < t → t < i → t ≠ j → zs[s]? = some x → zs[t]? = some y → x.bg ≤ y.bg
/-- What is before the range is less. -/
def LoR (a b : Nat) (zs : List Cl) : Prop := ∀ s t x y, s < a → a ≤ t → t < b → zs[s]? = some x → zs[t]? = some y → x.bg < y.bg
theorem LoR.perm {a b : Nat} {xs zs : List Cl} (h : LoR a b xs) (hP : PermR a b xs zs) : LoR a b zs := fun s t x y hs ht ht' hx hy => by
  obtain ⟨t', h1, h2, h3⟩ := hP.from ht ht' hy
  exact h s t' x y hs h1 h2 (by rw [← hP.2 s (.inl hs)]; exact hx) h3
theorem SrtI.step {a i : Nat} {zs : List Cl} (h : SrtI a i zs) {x y : Cl} (hai : a < i) (hx : zs[i - 1]? = some x) (hy : zs[i]? = some y) (hxy : x.bg ≤ y.bg) : SrtI a (i + 1) zs := fun s t u v hs hst ht hu hv => by
  rcases Nat.lt_or_ge t i with h' | h'
  · exact h s t u v hs hst h' hu hv
  · obtain rfl : t = i := by omega
    rw [hy] at hv; cases hv
    rcases Nat.lt_or_ge s (t - 1) with h2 | h2
    · have := h s (t - 1) u x hs h2 (by omega) hu hx; omega
    · obtain rfl : s = t - 1 := by omega
      rw [hx] at hu; cases hu; exact hxy
theorem SrtX.ofSwap {a j : Nat} {zs : List Cl} (h : SrtI a (j + 1) zs) {x y : Cl} (hx : zs[j]? = some x) (hy : zs[j + 1]? = some y) : SrtX a (j + 1) j ((zs.set (j + 1) x).set j y) := fun s t u v hs hst ht htj hu hv => by
  rw [sw_get hy hx, if_neg (by omega), if_neg (by omega)] at hu hv
  exact h s t u v hs hst ht hu hv
theorem SrtX.swap {a i j : Nat} {zs : List Cl} (h : SrtX a i (j + 1) zs) {x y : Cl} (hji : j + 1 < i) (hx : zs[j]? = some x) (hy : zs[j + 1]? = some y) (haj : a ≤ j) (hyx : y.bg < x.bg) : SrtX a i j ((zs.set (j + 1) x).set j y) := fun s t u v hs hst ht htj hu hv => by
  rw [sw_get hy hx] at hu hv
  rw [if_neg htj] at hv
  by_cases e1 : t = j + 1
  · rw [if_pos e1] at hv; cases hv
    by_cases e2 : s = j
    · rw [if_pos e2] at hu; cases hu; omega
    · rw [if_neg e2, if_neg (by omega)] at hu
      exact h s j _ _ hs (by omega) (by omega) (by omega) hu hx
  · rw [if_neg e1] at hv
    by_cases e2 : s = j
    · rw [if_pos e2] at hu; cases hu
      exact h (j + 1) t _ _ (by omega) (by omega) ht e1 hy hv
    · rw [if_neg e2] at hu
      by_cases e3 : s = j + 1
      · rw [if_pos e3] at hu; cases hu
        exact h j t _ _ haj (by omega) ht e1 hx hv
      · rw [if_neg e3] at hu
        exact h s t u v hs hst ht e1 hu hv
theorem SrtX.fin {a i j : Nat} {zs : List Cl} (h : SrtX a i j zs) (hji : j < i) (hjn : i ≤ zs.length) (hj : j ≤ a ∨ ∃ x y, 0 < j ∧ zs[j - 1]? = some x ∧ zs[j]? = some y ∧ x.bg ≤ y.bg) : SrtI a i zs := fun s t u v hs hst ht hu hv => by
  by_cases e : t = j
  · subst e
    rcases hj with hj | ⟨x, y, h0, h1, h2, h3⟩
    · omega
    · rw [h2] at hv; cases hv
      by_cases e2 : s = t - 1
      · subst e2; rw [h1] at hu; cases hu; exact h3
      · have := h s (t - 1) u x hs (by omega) (by omega) (by omega) hu h1
        omega
  · exact h s t u v hs hst ht e hu hv
theorem SrtI.keep {a i b : Nat} {xs zs : List Cl} (h : SrtI a i xs) (hP : PermR i b xs zs) : SrtI a i zs := fun s t u v hs hst ht hu hv => by
  rw [hP.2 s (.inl (by omega))] at hu
  rw [hP.2 t (.inl (by omega))] at hv
  exact h s t u v hs hst ht hu hv

theorem partial_spec (g n cap a b : Nat) (xs : List Cl) (hn : xs.length = n) (hn2 : n ≤ 1000000) (hb : b ≤ n) (hab : a < b) (hlo : LoR a b xs) (w : World) (S : FP) (hS : Sep [own (some ⟨g, 0, none⟩) cap 41 9 encCl xs] w S) (hd : ∀ b, S b → b < w.heap.size) :
    Trip Tryd.prog 58 #[.slice (some ⟨g, 0, none⟩) n cap, .int .i64 a, .int .i64 b, .func (.func 39) #[] #[]] w S fun v L => ∃ bo zs, v = .bool bo ∧ PermR a b xs zs ∧ (bo = true → SrtI a b zs) ∧ L = [own (some ⟨g, 0, none⟩) cap 41 9 encCl zs] := by
  refine Trip.of_x (L := [own (some ⟨g, 0, none⟩) cap 41 9 encCl xs]) Tryd.func58 (by kernel_rfl) rfl Tryd.ntmps58 Tryd.results58 rfl (ctx_ok _) hS hd ?_
  refine ⟨((a + 1 : Nat) : Int), by rw [show ((a : Int) + 1) = ((a + 1 : Nat) : Int) by omega]; exact wrap_i64 (by omega) (by omega), ?_⟩
  refine loopI (σ := Nat × Nat × List Cl) (fun s => [(0, .slice (some ⟨g, 0, none⟩) n cap), (1, .int .i64 a), (2, .int .i64 b), (3, .func (.func 39) #[] #[]), (9, .int .i64 s.2.1), (10, .int .i64 s.1)]) (fun s => [own (some ⟨g, 0, none⟩) cap 41 9 encCl s.2.2]) (fun s => s.1 ≤ 5 ∧ a < s.2.1 ∧ s.2.1 ≤ b ∧ PermR a b xs s.2.2 ∧ SrtI a s.2.1 s.2.2) (fun s => 5 - s.1) (0, a + 1, xs) ⟨rfl, rfl, rfl, rfl, rfl, rfl, trivial⟩ (.refl _) ⟨Nat.zero_le _, by show a < a + 1; omega, by show a + 1 ≤ b; omega, PermR.refl _, fun s t x y h1 h2 h3 => by have h3 : t < a + 1 := h3; omega⟩ ?_
  rintro ⟨k, i, zs⟩ ⟨hk, hai, hib, hP, hs⟩
  have hk : k ≤ 5 := hk
  have hai : a < i := hai
  have hib : i ≤ b := hib
  have hP : PermR a b xs zs := hP
  have hs : SrtI a i zs := hs
  have hzl : zs.length = n := hP.len.trans hn
  refine ⟨fun h => ?_, fun h => ?_⟩
  · have hk5 : k < 5 := by have := of_decide_eq_true h; simp at this; omega
    clear h
    refine loopI (σ := Nat) (fun i => [(0, .slice (some ⟨g, 0, none⟩) n cap), (1, .int .i64 a), (2, .int .i64 b), (3, .func (.func 39) #[] #[]), (9, .int .i64 i), (10, .int .i64 k)]) (fun s => [own (some ⟨g, 0, none⟩) cap 41 9 encCl zs]) (fun i => a < i ∧ i ≤ b ∧ SrtI a i zs) (fun i => b - i) i ⟨rfl, rfl, rfl, rfl, rfl, rfl, trivial⟩ (.refl _) ⟨hai, hib, hs⟩ ?_
    rintro i ⟨hai, hib, hs⟩
    obtain ⟨j, rfl⟩ : ∃ j, i = j + 1 := ⟨i - 1, by omega⟩
    have hsub : ((j : Nat) : Int) = IntKind.i64.wrap (((j + 1 : Nat) : Int) - 1) := by rw [show (((j + 1 : Nat) : Int) - 1) = j by omega]; exact wrap_i64 (by omega) (by omega)
    obtain ⟨x, hx⟩ : ∃ x, zs[j]? = some x := ⟨zs[j]'(by omega), by simp [show j < zs.length by omega]⟩
    refine Or.inl ⟨by kernel_rfl, ?_⟩
    refine ⟨fun h => ?_, fun h => ?_⟩
    · have hjb : j + 1 < b := by have := of_decide_eq_true h; omega
      obtain ⟨y, hy⟩ : ∃ x, zs[j + 1]? = some x := ⟨zs[j + 1]'(by omega), by simp [show j + 1 < zs.length by omega]⟩
      refine ⟨j + 1, rfl, by omega, ?_⟩
      refine ⟨_, ldOA 0 (j + 1) rfl (fun _ _ => rfl) hy rfl rfl rfl (by show 0 + (j + 1) * 9 = (j + 1) * 9; omega), ?_⟩
      refine ⟨_, hsub, ?_⟩
      refine ⟨j, rfl, by omega, ?_⟩
      refine ⟨_, ldOA 0 j rfl (fun _ _ => rfl) hx rfl rfl rfl (by show 0 + j * 9 = j * 9; omega), ?_⟩
      refine callQ [] (fun w S hR hB hS hd => cmpBg_spec y x w S hd) ?_
      have hcmp : cmpZ y.bg x.bg < 0 ↔ y.bg < x.bg := cmpZ_lt
      refine ⟨fun hc => ?_, fun hc => ?_⟩
      · have hc : ¬ y.bg < x.bg := fun h => by
          have h' := hcmp.2 h
          have hc : (!decide (cmpZ y.bg x.bg < 0)) = true := hc
          rw [decide_eq_true h'] at hc; cases hc
        refine ⟨((j + 2 : Nat) : Int), by rw [show (((j + 1 : Nat) : Int) + 1) = ((j + 2 : Nat) : Int) by omega]; exact wrap_i64 (by omega) (by omega), ?_⟩
        exact backI (j + 2) (by omega) ⟨by omega, by omega, hs.step hai hx hy (by omega)⟩ ⟨rfl, rfl, rfl, rfl, rfl, rfl, trivial⟩ (.refl _)
      · have hc : y.bg < x.bg := hcmp.1 (by
          have hc : (!decide (cmpZ y.bg x.bg < 0)) = false := hc
          simpa using hc)
        refine ⟨fun h => absurd (of_decide_eq_true h) (by omega), fun _ => ?_⟩
        refine ⟨((b - a : Nat) : Int), by rw [show ((b : Int) - a) = ((b - a : Nat) : Int) by omega]; exact wrap_i64 (by omega) (by omega), ?_⟩
        refine ⟨fun _ => ?_, fun _ => ?_⟩
        · exact ⟨_, .refl _, false, zs, rfl, hP, nofun, rfl⟩
        refine Or.inr (Or.inr (drawE swpU swpR (swpV g n cap j x y) [15, 17] [9, 13] [[own (some ⟨g, 0, none⟩) cap 41 9 encCl zs], [own (some ⟨g, 0, none⟩) cap 41 9 encCl (zs.set (j + 1) x)], [own (some ⟨g, 0, none⟩) cap 41 9 encCl ((zs.set (j + 1) x).set j y)]] rfl (by kernel_rfl) ?_ ?_))
        · refine ⟨?_, ?_, ?_, ?_, ?_, ?_, ?_, ?_, ?_, ?_, ?_, ?_, ?_, ?_, ?_, ?_, ?_, ?_, trivial⟩
          · exact rfl
          · exact rfl
          · exact rfl
          · exact rfl
          · rintro _ _ ⟨rfl, rfl⟩; exact ⟨_, hsub, rfl⟩
          · exact rfl
          · exact rfl
          · rintro _ _ ⟨rfl, rfl⟩; exact ⟨_, hsub, rfl⟩
          · rintro _ _ ⟨rfl, rfl⟩; rintro _ _ ⟨rfl, rfl⟩; rintro _ _ ⟨rfl, rfl⟩; exact ⟨j, rfl, by omega, rfl⟩
          · rintro _ _ ⟨rfl, rfl⟩; rintro _ _ ⟨rfl, rfl⟩; rintro _ _ ⟨rfl, rfl⟩; rintro _ _ ⟨rfl, rfl⟩; exact ⟨_, ldOA 0 j rfl (fun _ _ => rfl) hx rfl rfl rfl (by omega), rfl⟩
          · exact rfl
          · exact rfl
          · rintro _ _ ⟨rfl, rfl⟩; rintro _ _ ⟨rfl, rfl⟩; exact ⟨j + 1, rfl, by omega, rfl⟩
          · rintro _ _ ⟨rfl, rfl⟩; rintro _ _ ⟨rfl, rfl⟩; rintro _ _ ⟨rfl, rfl⟩; exact ⟨_, ldOA 0 (j + 1) rfl (fun _ _ => rfl) hy rfl rfl rfl (by omega), rfl⟩
          · rintro _ _ ⟨rfl, rfl⟩; rintro _ _ ⟨rfl, rfl⟩; exact ⟨j + 1, rfl, by omega, rfl⟩
          · rintro _ _ ⟨rfl, rfl⟩; rintro _ _ ⟨rfl, rfl⟩; rintro _ _ ⟨rfl, rfl⟩; rintro _ _ ⟨rfl, rfl⟩; rintro _ _ ⟨rfl, rfl⟩; rintro _ _ ⟨rfl, rfl⟩; rintro _ _ ⟨rfl, rfl⟩; rintro _ _ ⟨rfl, rfl⟩; exact stO 0 (j + 1) x rfl (fun _ _ => rfl) rfl (by omega) rfl rfl rfl rfl (by omega) ⟨rfl, .refl _⟩
          · rintro _ _ ⟨rfl, rfl⟩; rintro _ _ ⟨rfl, rfl⟩; rintro _ _ ⟨rfl, rfl⟩; exact ⟨j, rfl, by omega, rfl⟩
          · rintro _ _ ⟨rfl, rfl⟩; rintro _ _ ⟨rfl, rfl⟩; rintro _ _ ⟨rfl, rfl⟩; rintro _ _ ⟨rfl, rfl⟩; rintro _ _ ⟨rfl, rfl⟩; rintro _ _ ⟨rfl, rfl⟩; rintro _ _ ⟨rfl, rfl⟩; rintro _ _ ⟨rfl, rfl⟩; exact stO 0 j y rfl (fun _ _ => rfl) rfl (by simp; omega) rfl rfl rfl rfl (by omega) ⟨rfl, .refl _⟩
        rintro _ _ ⟨rfl, rfl⟩; rintro _ _ ⟨rfl, rfl⟩; rintro _ _ ⟨rfl, rfl⟩; rintro _ _ ⟨rfl, rfl⟩; rintro _ _ ⟨rfl, rfl⟩; rintro _ _ ⟨rfl, rfl⟩; rintro _ _ ⟨rfl, rfl⟩; rintro _ _ ⟨rfl, rfl⟩; rintro _ _ ⟨rfl, rfl⟩; rintro _ _ ⟨rfl, rfl⟩; rintro _ _ ⟨rfl, rfl⟩; rintro _ _ ⟨rfl, rfl⟩; rintro _ _ ⟨rfl, rfl⟩; rintro _ _ ⟨rfl, rfl⟩; rintro _ _ ⟨rfl, rfl⟩; rintro _ _ ⟨rfl, rfl⟩; rintro _ _ ⟨rfl, rfl⟩; rintro _ _ ⟨rfl, rfl⟩
        have hP1 : PermR a b xs ((zs.set (j + 1) x).set j y) := hP.trans (PermR.swap hy hx (by omega) (by omega) (by omega) (by omega))
        have hX1 : SrtX a (j + 1) j ((zs.set (j + 1) x).set j y) := SrtX.ofSwap hs hx hy
        generalize ((zs.set (j + 1) x).set j y) = ys at hP1 hX1 ⊢
        refine ⟨((j + 1 - a : Nat) : Int), by rw [show (((j + 1 : Nat) : Int) - a) = ((j + 1 - a : Nat) : Int) by omega]; exact wrap_i64 (by omega) (by omega), ?_⟩
        apply share
        · intro hb6
          have step : ∀ {us : List Cl}, PermR a b xs us → SrtI a (j + 1) us → True := fun _ _ => trivial
          refine ⟨fun h => ?_, fun h => ?_⟩
          · have hja : a + 1 ≤ j := by have := of_decide_eq_true h; omega
            refine ⟨_, hsub, ?_⟩
            refine loopI (σ := Nat × List Cl) (fun s => [(0, .slice (some ⟨g, 0, none⟩) n cap), (1, .int .i64 a), (2, .int .i64 b), (3, .func (.func 39) #[] #[]), (9, .int .i64 ((j + 1 : Nat) : Int)), (10, .int .i64 k), (11, .int .i64 s.1)]) (fun s => [own (some ⟨g, 0, none⟩) cap 41 9 encCl s.2]) (fun s => a ≤ s.1 ∧ s.1 ≤ j ∧ PermR a b xs s.2 ∧ SrtX a (j + 1) s.1 s.2) (fun s => s.1) (j, ys) ⟨rfl, rfl, rfl, rfl, rfl, rfl, rfl, trivial⟩ (.refl _) ⟨by show a ≤ j; omega, Nat.le_refl _, hP1, hX1⟩ ?_
            rintro ⟨m, us⟩ ⟨hma, hmj, hPu, hXu⟩
            have hma : a ≤ m := hma
            have hmj : m ≤ j := hmj
            have hPu : PermR a b xs us := hPu
            have hXu : SrtX a (j + 1) m us := hXu
            have hul : us.length = n := hPu.len.trans hn
            refine ⟨fun h => ?_, fun h => ?_⟩
            · have hm0 : 0 < m := by have := of_decide_eq_true h; simp at this; omega
              obtain ⟨m, rfl⟩ : ∃ m', m = m' + 1 := ⟨m - 1, by omega⟩
              have hsubm : ((m : Nat) : Int) = IntKind.i64.wrap (((m + 1 : Nat) : Int) - 1) := by rw [show (((m + 1 : Nat) : Int) - 1) = m by omega]; exact wrap_i64 (by omega) (by omega)
              obtain ⟨u, hu⟩ : ∃ x, us[m]? = some x := ⟨us[m]'(by omega), by simp [show m < us.length by omega]⟩
              obtain ⟨v, hv⟩ : ∃ x, us[m + 1]? = some x := ⟨us[m + 1]'(by omega), by simp [show m + 1 < us.length by omega]⟩
              refine Or.inl ⟨by kernel_rfl, ?_⟩
              refine ⟨m + 1, rfl, by omega, ?_⟩
              refine ⟨_, ldOA 0 (m + 1) rfl (fun _ _ => rfl) hv rfl rfl rfl (by show 0 + (m + 1) * 9 = (m + 1) * 9; omega), ?_⟩
              refine ⟨_, hsubm, ?_⟩
              refine ⟨m, rfl, by omega, ?_⟩
              refine ⟨_, ldOA 0 m rfl (fun _ _ => rfl) hu rfl rfl rfl (by show 0 + m * 9 = m * 9; omega), ?_⟩
              refine callQ [] (fun w S hR hB hS hd => cmpBg_spec v u w S hd) ?_
              have hcmp : cmpZ v.bg u.bg < 0 ↔ v.bg < u.bg := cmpZ_lt
              refine ⟨fun hc => ?_, fun hc => ?_⟩
              · have hc : ¬ v.bg < u.bg := fun h => by
                  have h' := hcmp.2 h
                  have hc : (!decide (cmpZ v.bg u.bg < 0)) = true := hc
                  rw [decide_eq_true h'] at hc; cases hc
                have hSu : SrtI a (j + 1) us := hXu.fin (by omega) (by omega) (.inr ⟨u, v, by omega, by rw [Nat.add_sub_cancel]; exact hu, hv, by omega⟩)
                refine ⟨((b - (j + 1) : Nat) : Int), by rw [show ((b : Int) - ((j + 1 : Nat) : Int)) = ((b - (j + 1) : Nat) : Int) by omega]; exact wrap_i64 (by omega) (by omega), ?_⟩
                refine ⟨fun _ => ?_, fun _ => ?_⟩
                · refine ⟨((j + 2 : Nat) : Int), by rw [show (((j + 1 : Nat) : Int) + 1) = ((j + 2 : Nat) : Int) by omega]; exact wrap_i64 (by omega) (by omega), ?_⟩
                  refine loopI (σ := Nat × List Cl) (fun s => [(0, .slice (some ⟨g, 0, none⟩) n cap), (1, .int .i64 a), (2, .int .i64 b), (3, .func (.func 39) #[] #[]), (9, .int .i64 ((j + 1 : Nat) : Int)), (10, .int .i64 k), (12, .int .i64 s.1)]) (fun s => [own (some ⟨g, 0, none⟩) cap 41 9 encCl s.2]) (fun s => j + 2 ≤ s.1 ∧ s.1 ≤ b ∧ PermR a b xs s.2 ∧ SrtI a (j + 1) s.2) (fun s => b - s.1) (j + 2, us) ⟨rfl, rfl, rfl, rfl, rfl, rfl, rfl, trivial⟩ (.refl _) ⟨Nat.le_refl _, by show j + 2 ≤ b; omega, hPu, hSu⟩ ?_
                  exact hb6.get
                · refine ⟨((k + 1 : Nat) : Int), by rw [show ((k : Int) + 1) = ((k + 1 : Nat) : Int) by omega]; exact wrap_i64 (by omega) (by omega), ?_⟩
                  exact backI (k + 1, j + 1, us) (by show 5 - (k + 1) < 5 - k; omega) ⟨by show k + 1 ≤ 5; omega, by show a < j + 1; omega, by show j + 1 ≤ b; omega, hPu, hSu⟩ ⟨rfl, rfl, rfl, rfl, rfl, rfl, trivial⟩ (.refl _)
              · have hc : v.bg < u.bg := hcmp.1 (by
                  have hc : (!decide (cmpZ v.bg u.bg < 0)) = false := hc
                  simpa using hc)
                have ham : a ≤ m := by
                  rcases Nat.lt_or_ge m a with h' | h'
                  · have := (hlo.perm hPu) m (m + 1) u v h' hma (by omega) hu hv
                    omega
                  · exact h'
                refine Or.inr (Or.inr (drawE swpU swpR (swpV g n cap m u v) [15, 17] [9, 13] [[own (some ⟨g, 0, none⟩) cap 41 9 encCl us], [own (some ⟨g, 0, none⟩) cap 41 9 encCl (us.set (m + 1) u)], [own (some ⟨g, 0, none⟩) cap 41 9 encCl ((us.set (m + 1) u).set m v)]] rfl (by kernel_rfl) ?_ ?_))
                · refine ⟨?_, ?_, ?_, ?_, ?_, ?_, ?_, ?_, ?_, ?_, ?_, ?_, ?_, ?_, ?_, ?_, ?_, ?_, trivial⟩
                  · exact rfl
                  · exact rfl
                  · exact rfl
                  · exact rfl
                  · rintro _ _ ⟨rfl, rfl⟩; exact ⟨_, hsubm, rfl⟩
                  · exact rfl
                  · exact rfl
                  · rintro _ _ ⟨rfl, rfl⟩; exact ⟨_, hsubm, rfl⟩
                  · rintro _ _ ⟨rfl, rfl⟩; rintro _ _ ⟨rfl, rfl⟩; rintro _ _ ⟨rfl, rfl⟩; exact ⟨m, rfl, by omega, rfl⟩
                  · rintro _ _ ⟨rfl, rfl⟩; rintro _ _ ⟨rfl, rfl⟩; rintro _ _ ⟨rfl, rfl⟩; rintro _ _ ⟨rfl, rfl⟩; exact ⟨_, ldOA 0 m rfl (fun _ _ => rfl) hu rfl rfl rfl (by omega), rfl⟩
                  · exact rfl
                  · exact rfl
                  · rintro _ _ ⟨rfl, rfl⟩; rintro _ _ ⟨rfl, rfl⟩; exact ⟨m + 1, rfl, by omega, rfl⟩
                  · rintro _ _ ⟨rfl, rfl⟩; rintro _ _ ⟨rfl, rfl⟩; rintro _ _ ⟨rfl, rfl⟩; exact ⟨_, ldOA 0 (m + 1) rfl (fun _ _ => rfl) hv rfl rfl rfl (by omega), rfl⟩
                  · rintro _ _ ⟨rfl, rfl⟩; rintro _ _ ⟨rfl, rfl⟩; exact ⟨m + 1, rfl, by omega, rfl⟩
                  · rintro _ _ ⟨rfl, rfl⟩; rintro _ _ ⟨rfl, rfl⟩; rintro _ _ ⟨rfl, rfl⟩; rintro _ _ ⟨rfl, rfl⟩; rintro _ _ ⟨rfl, rfl⟩; rintro _ _ ⟨rfl, rfl⟩; rintro _ _ ⟨rfl, rfl⟩; rintro _ _ ⟨rfl, rfl⟩; exact stO 0 (m + 1) u rfl (fun _ _ => rfl) rfl (by omega) rfl rfl rfl rfl (by omega) ⟨rfl, .refl _⟩
                  · rintro _ _ ⟨rfl, rfl⟩; rintro _ _ ⟨rfl, rfl⟩; rintro _ _ ⟨rfl, rfl⟩; exact ⟨m, rfl, by omega, rfl⟩
                  · rintro _ _ ⟨rfl, rfl⟩; rintro _ _ ⟨rfl, rfl⟩; rintro _ _ ⟨rfl, rfl⟩; rintro _ _ ⟨rfl, rfl⟩; rintro _ _ ⟨rfl, rfl⟩; rintro _ _ ⟨rfl, rfl⟩; rintro _ _ ⟨rfl, rfl⟩; rintro _ _ ⟨rfl, rfl⟩; exact stO 0 m v rfl (fun _ _ => rfl) rfl (by simp; omega) rfl rfl rfl rfl (by omega) ⟨rfl, .refl _⟩
                rintro _ _ ⟨rfl, rfl⟩; rintro _ _ ⟨rfl, rfl⟩; rintro _ _ ⟨rfl, rfl⟩; rintro _ _ ⟨rfl, rfl⟩; rintro _ _ ⟨rfl, rfl⟩; rintro _ _ ⟨rfl, rfl⟩; rintro _ _ ⟨rfl, rfl⟩; rintro _ _ ⟨rfl, rfl⟩; rintro _ _ ⟨rfl, rfl⟩; rintro _ _ ⟨rfl, rfl⟩; rintro _ _ ⟨rfl, rfl⟩; rintro _ _ ⟨rfl, rfl⟩; rintro _ _ ⟨rfl, rfl⟩; rintro _ _ ⟨rfl, rfl⟩; rintro _ _ ⟨rfl, rfl⟩; rintro _ _ ⟨rfl, rfl⟩; rintro _ _ ⟨rfl, rfl⟩; rintro _ _ ⟨rfl, rfl⟩
                refine ⟨_, hsubm, ?_⟩
                exact backI (m, (us.set (m + 1) u).set m v) (by show m < m + 1; omega) ⟨ham, by show m ≤ j; omega, hPu.trans (PermR.swap hv hu (by omega) (by omega) (by omega) (by omega)), hXu.swap (by omega) hu hv ham hc⟩ ⟨rfl, rfl, rfl, rfl, rfl, rfl, rfl, trivial⟩ (.refl _)
            · have hm0 : m = 0 := by have := of_decide_eq_false h; simp at this; omega
              have hSu : SrtI a (j + 1) us := hXu.fin (by omega) (by omega) (.inl (by omega))
              refine ⟨((b - (j + 1) : Nat) : Int), by rw [show ((b : Int) - ((j + 1 : Nat) : Int)) = ((b - (j + 1) : Nat) : Int) by omega]; exact wrap_i64 (by omega) (by omega), ?_⟩
              refine ⟨fun _ => ?_, fun _ => ?_⟩
              · refine ⟨((j + 2 : Nat) : Int), by rw [show (((j + 1 : Nat) : Int) + 1) = ((j + 2 : Nat) : Int) by omega]; exact wrap_i64 (by omega) (by omega), ?_⟩
                refine loopI (σ := Nat × List Cl) (fun s => [(0, .slice (some ⟨g, 0, none⟩) n cap), (1, .int .i64 a), (2, .int .i64 b), (3, .func (.func 39) #[] #[]), (9, .int .i64 ((j + 1 : Nat) : Int)), (10, .int .i64 k), (12, .int .i64 s.1)]) (fun s => [own (some ⟨g, 0, none⟩) cap 41 9 encCl s.2]) (fun s => j + 2 ≤ s.1 ∧ s.1 ≤ b ∧ PermR a b xs s.2 ∧ SrtI a (j + 1) s.2) (fun s => b - s.1) (j + 2, us) ⟨rfl, rfl, rfl, rfl, rfl, rfl, rfl, trivial⟩ (.refl _) ⟨Nat.le_refl _, by show j + 2 ≤ b; omega, hPu, hSu⟩ ?_
                exact hb6.get
              · refine ⟨((k + 1 : Nat) : Int), by rw [show ((k : Int) + 1) = ((k + 1 : Nat) : Int) by omega]; exact wrap_i64 (by omega) (by omega), ?_⟩
                exact backI (k + 1, j + 1, us) (by show 5 - (k + 1) < 5 - k; omega) ⟨by show k + 1 ≤ 5; omega, by show a < j + 1; omega, by show j + 1 ≤ b; omega, hPu, hSu⟩ ⟨rfl, rfl, rfl, rfl, rfl, rfl, trivial⟩ (.refl _)
          · have hja : j ≤ a := by have := of_decide_eq_false h; omega
            have hSu : SrtI a (j + 1) ys := hX1.fin (by omega) (by rw [hP1.len]; omega) (.inl hja)
            refine ⟨((b - (j + 1) : Nat) : Int), by rw [show ((b : Int) - ((j + 1 : Nat) : Int)) = ((b - (j + 1) : Nat) : Int) by omega]; exact wrap_i64 (by omega) (by omega), ?_⟩
            refine ⟨fun _ => ?_, fun _ => ?_⟩
            · refine ⟨((j + 2 : Nat) : Int), by rw [show (((j + 1 : Nat) : Int) + 1) = ((j + 2 : Nat) : Int) by omega]; exact wrap_i64 (by omega) (by omega), ?_⟩
              refine loopI (σ := Nat × List Cl) (fun s => [(0, .slice (some ⟨g, 0, none⟩) n cap), (1, .int .i64 a), (2, .int .i64 b), (3, .func (.func 39) #[] #[]), (9, .int .i64 ((j + 1 : Nat) : Int)), (10, .int .i64 k), (12, .int .i64 s.1)]) (fun s => [own (some ⟨g, 0, none⟩) cap 41 9 encCl s.2]) (fun s => j + 2 ≤ s.1 ∧ s.1 ≤ b ∧ PermR a b xs s.2 ∧ SrtI a (j + 1) s.2) (fun s => b - s.1) (j + 2, ys) ⟨rfl, rfl, rfl, rfl, rfl, rfl, rfl, trivial⟩ (.refl _) ⟨Nat.le_refl _, by show j + 2 ≤ b; omega, hP1, hSu⟩ ?_
              exact hb6.get
            · refine ⟨((k + 1 : Nat) : Int), by rw [show ((k : Int) + 1) = ((k + 1 : Nat) : Int) by omega]; exact wrap_i64 (by omega) (by omega), ?_⟩
              exact backI (k + 1, j + 1, ys) (by show 5 - (k + 1) < 5 - k; omega) ⟨by show k + 1 ≤ 5; omega, by show a < j + 1; omega, by show j + 1 ≤ b; omega, hP1, hSu⟩ ⟨rfl, rfl, rfl, rfl, rfl, rfl, trivial⟩ (.refl _)
        · rintro ⟨m, us⟩ ⟨hmj, hmb, hPu, hSu⟩
          have hmj : j + 2 ≤ m := hmj
          have hmb : m ≤ b := hmb
          have hPu : PermR a b xs us := hPu
          have hSu : SrtI a (j + 1) us := hSu
          have hul : us.length = n := hPu.len.trans hn
          have hk1 : ((k + 1 : Nat) : Int) = IntKind.i64.wrap ((k : Int) + 1) := by rw [show ((k : Int) + 1) = ((k + 1 : Nat) : Int) by omega]; exact wrap_i64 (by omega) (by omega)
          refine ⟨fun h => ?_, fun h => ?_⟩
          · have hm0 : m < b := by have := of_decide_eq_true h; simp at this; omega
            obtain ⟨m, rfl⟩ : ∃ m', m = m' + 1 := ⟨m - 1, by omega⟩
            have hsubm : ((m : Nat) : Int) = IntKind.i64.wrap (((m + 1 : Nat) : Int) - 1) := by rw [show (((m + 1 : Nat) : Int) - 1) = m by omega]; exact wrap_i64 (by omega) (by omega)
            obtain ⟨u, hu⟩ : ∃ x, us[m]? = some x := ⟨us[m]'(by omega), by simp [show m < us.length by omega]⟩
            obtain ⟨v, hv⟩ : ∃ x, us[m + 1]? = some x := ⟨us[m + 1]'(by omega), by simp [show m + 1 < us.length by omega]⟩
            refine Or.inl ⟨by kernel_rfl, ?_⟩
            refine ⟨m + 1, rfl, by omega, ?_⟩
            refine ⟨_, ldOA 0 (m + 1) rfl (fun _ _ => rfl) hv rfl rfl rfl (by show 0 + (m + 1) * 9 = (m + 1) * 9; omega), ?_⟩
            refine ⟨_, hsubm, ?_⟩
            refine ⟨m, rfl, by omega, ?_⟩
            refine ⟨_, ldOA 0 m rfl (fun _ _ => rfl) hu rfl rfl rfl (by show 0 + m * 9 = m * 9; omega), ?_⟩
            refine callQ [] (fun w S hR hB hS hd => cmpBg_spec v u w S hd) ?_
            refine ⟨fun hc => ?_, fun hc => ?_⟩
            · refine ⟨_, hk1, ?_⟩
              exact backI (k + 1, j + 1, us) (by show 5 - (k + 1) < 5 - k; omega) ⟨by show k + 1 ≤ 5; omega, by show a < j + 1; omega, by show j + 1 ≤ b; omega, hPu, hSu⟩ ⟨rfl, rfl, rfl, rfl, rfl, rfl, trivial⟩ (.refl _)
            · clear hc
              refine Or.inr (Or.inr (drawE swpU swpR (swpV g n cap m u v) [15, 17] [9, 13] [[own (some ⟨g, 0, none⟩) cap 41 9 encCl us], [own (some ⟨g, 0, none⟩) cap 41 9 encCl (us.set (m + 1) u)], [own (some ⟨g, 0, none⟩) cap 41 9 encCl ((us.set (m + 1) u).set m v)]] rfl (by kernel_rfl) ?_ ?_))
              · refine ⟨?_, ?_, ?_, ?_, ?_, ?_, ?_, ?_, ?_, ?_, ?_, ?_, ?_, ?_, ?_, ?_, ?_, ?_, trivial⟩
                · exact rfl
                · exact rfl
                · exact rfl
                · exact rfl
                · rintro _ _ ⟨rfl, rfl⟩; exact ⟨_, hsubm, rfl⟩
                · exact rfl
                · exact rfl
                · rintro _ _ ⟨rfl, rfl⟩; exact ⟨_, hsubm, rfl⟩
                · rintro _ _ ⟨rfl, rfl⟩; rintro _ _ ⟨rfl, rfl⟩; rintro _ _ ⟨rfl, rfl⟩; exact ⟨m, rfl, by omega, rfl⟩
                · rintro _ _ ⟨rfl, rfl⟩; rintro _ _ ⟨rfl, rfl⟩; rintro _ _ ⟨rfl, rfl⟩; rintro _ _ ⟨rfl, rfl⟩; exact ⟨_, ldOA 0 m rfl (fun _ _ => rfl) hu rfl rfl rfl (by omega), rfl⟩
                · exact rfl
                · exact rfl
                · rintro _ _ ⟨rfl, rfl⟩; rintro _ _ ⟨rfl, rfl⟩; exact ⟨m + 1, rfl, by omega, rfl⟩
                · rintro _ _ ⟨rfl, rfl⟩; rintro _ _ ⟨rfl, rfl⟩; rintro _ _ ⟨rfl, rfl⟩; exact ⟨_, ldOA 0 (m + 1) rfl (fun _ _ => rfl) hv rfl rfl rfl (by omega), rfl⟩
                · rintro _ _ ⟨rfl, rfl⟩; rintro _ _ ⟨rfl, rfl⟩; exact ⟨m + 1, rfl, by omega, rfl⟩
                · rintro _ _ ⟨rfl, rfl⟩; rintro _ _ ⟨rfl, rfl⟩; rintro _ _ ⟨rfl, rfl⟩; rintro _ _ ⟨rfl, rfl⟩; rintro _ _ ⟨rfl, rfl⟩; rintro _ _ ⟨rfl, rfl⟩; rintro _ _ ⟨rfl, rfl⟩; rintro _ _ ⟨rfl, rfl⟩; exact stO 0 (m + 1) u rfl (fun _ _ => rfl) rfl (by omega) rfl rfl rfl rfl (by omega) ⟨rfl, .refl _⟩
                · rintro _ _ ⟨rfl, rfl⟩; rintro _ _ ⟨rfl, rfl⟩; rintro _ _ ⟨rfl, rfl⟩; exact ⟨m, rfl, by omega, rfl⟩
                · rintro _ _ ⟨rfl, rfl⟩; rintro _ _ ⟨rfl, rfl⟩; rintro _ _ ⟨rfl, rfl⟩; rintro _ _ ⟨rfl, rfl⟩; rintro _ _ ⟨rfl, rfl⟩; rintro _ _ ⟨rfl, rfl⟩; rintro _ _ ⟨rfl, rfl⟩; rintro _ _ ⟨rfl, rfl⟩; exact stO 0 m v rfl (fun _ _ => rfl) rfl (by simp; omega) rfl rfl rfl rfl (by omega) ⟨rfl, .refl _⟩
              rintro _ _ ⟨rfl, rfl⟩; rintro _ _ ⟨rfl, rfl⟩; rintro _ _ ⟨rfl, rfl⟩; rintro _ _ ⟨rfl, rfl⟩; rintro _ _ ⟨rfl, rfl⟩; rintro _ _ ⟨rfl, rfl⟩; rintro _ _ ⟨rfl, rfl⟩; rintro _ _ ⟨rfl, rfl⟩; rintro _ _ ⟨rfl, rfl⟩; rintro _ _ ⟨rfl, rfl⟩; rintro _ _ ⟨rfl, rfl⟩; rintro _ _ ⟨rfl, rfl⟩; rintro _ _ ⟨rfl, rfl⟩; rintro _ _ ⟨rfl, rfl⟩; rintro _ _ ⟨rfl, rfl⟩; rintro _ _ ⟨rfl, rfl⟩; rintro _ _ ⟨rfl, rfl⟩; rintro _ _ ⟨rfl, rfl⟩
              refine ⟨((m + 2 : Nat) : Int), by rw [show (((m + 1 : Nat) : Int) + 1) = ((m + 2 : Nat) : Int) by omega]; exact wrap_i64 (by omega) (by omega), ?_⟩
              exact backI (m + 2, (us.set (m + 1) u).set m v) (by show b - (m + 2) < b - (m + 1); omega) ⟨by show j + 2 ≤ m + 2; omega, by show m + 2 ≤ b; omega, hPu.trans (PermR.swap hv hu (by omega) (by omega) (by omega) (by omega)), hSu.keep (b := b) (PermR.swap hv hu (by omega) (by omega) (by omega) (by omega))⟩ ⟨rfl, rfl, rfl, rfl, rfl, rfl, rfl, trivial⟩ (.refl _)
          · refine ⟨_, hk1, ?_⟩
            exact backI (k + 1, j + 1, us) (by show 5 - (k + 1) < 5 - k; omega) ⟨by show k + 1 ≤ 5; omega, by show a < j + 1; omega, by show j + 1 ≤ b; omega, hPu, hSu⟩ ⟨rfl, rfl, rfl, rfl, rfl, rfl, trivial⟩ (.refl _)
    · have hjb : j + 1 = b := by have := of_decide_eq_false h; omega
      subst hjb
      refine ⟨nofun, fun _ => ?_⟩
      refine ⟨fun _ => ?_, fun h => absurd (of_decide_eq_false h) (by simp)⟩
      exact ⟨_, .refl _, true, zs, rfl, hP, fun _ => hs, rfl⟩
  · exact ⟨_, .refl _, false, zs, rfl, hP, nofun, rfl⟩
end Go.Proofs.YtfebaopjfmpfkaaDoor
namespace Go.Proofs.YtfebaopjfmpfkaaDoor
open Go.X
set_option maxRecDepth 10000
set_option linter.unusedVariables false
set_option linter.unusedSimpArgs false

theorem order2_spec (g n cap a b sw c : Nat) (xs : List Cl) (hn : xs.length = n) (hn2 : n ≤ 1000000) (ha : a < n) (hb : b < n) (hc : c ≤ 1000) (w : World) (S : FP) (hx : RO w S (roS (some ⟨g, 0, none⟩) 9 encCl xs)) (hS : Sep [pt sw [.int .i64 c] 3] w S) (hd : ∀ b, S b → b < w.heap.size) :
    Trip Tryd.prog 81 #[.slice (some ⟨g, 0, none⟩) n cap, .int .i64 a, .int .i64 b, .pointer (some ⟨sw, 0, none⟩), .func (.func 39) #[] #[]] w S fun v L => ∃ a' b' c' : Nat, v = .tuple #[.int .i64 a', .int .i64 b'] ∧ (a' = a ∧ b' = b ∨ a' = b ∧ b' = a) ∧ c' ≤ c + 1 ∧ L = [pt sw [.int .i64 c'] 3] := by
  refine Trip.of_x (L := [pt sw [.int .i64 c] 3]) Tryd.func81 (by kernel_rfl) rfl Tryd.ntmps81 Tryd.results81 rfl (ctx_ok _) hS hd ?_
  obtain ⟨x, hxa⟩ : ∃ x, xs[a]? = some x := ⟨xs[a]'(by omega), by simp [show a < xs.length by omega]⟩
  obtain ⟨y, hyb⟩ : ∃ x, xs[b]? = some x := ⟨xs[b]'(by omega), by simp [show b < xs.length by omega]⟩
  refine Or.inl ⟨by kernel_rfl, ?_⟩
  refine ⟨b, rfl, by omega, ?_⟩
  refine ⟨_, ldRA hx b hyb rfl rfl rfl rfl, ?_⟩
  refine ⟨a, rfl, by omega, ?_⟩
  refine ⟨_, ldRA hx a hxa rfl rfl rfl rfl, ?_⟩
  refine callQ [] (fun w S hR hB hS hd => cmpBg_spec y x w S hd) ?_
  refine ⟨fun _ => ?_, fun _ => ?_⟩
  · refine ⟨_, ld 0 rfl rfl rfl, ?_⟩
    refine ⟨((c + 1 : Nat) : Int), by rw [show ((c : Int) + 1) = ((c + 1 : Nat) : Int) by omega]; exact wrap_i64 (by omega) (by omega), ?_⟩
    refine st 0 rfl rfl rfl rfl rfl ?_
    exact ⟨_, .refl _, b, a, c + 1, rfl, .inr ⟨rfl, rfl⟩, Nat.le_refl _, rfl⟩
  · exact ⟨_, .refl _, a, b, c, rfl, .inl ⟨rfl, rfl⟩, Nat.le_succ _, rfl⟩

theorem median_spec (g n cap a b d sw c : Nat) (xs : List Cl) (hn : xs.length = n) (hn2 : n ≤ 1000000) (ha : a < n) (hb : b < n) (hd' : d < n) (hc : c ≤ 900) (w : World) (S : FP) (hx : RO w S (roS (some ⟨g, 0, none⟩) 9 encCl xs)) (hS : Sep [pt sw [.int .i64 c] 3] w S) (hd : ∀ b, S b → b < w.heap.size) :
    Trip Tryd.prog 74 #[.slice (some ⟨g, 0, none⟩) n cap, .int .i64 a, .int .i64 b, .int .i64 d, .pointer (some ⟨sw, 0, none⟩), .func (.func 39) #[] #[]] w S fun v L => ∃ r c' : Nat, v = .int .i64 r ∧ (r = a ∨ r = b ∨ r = d) ∧ c' ≤ c + 3 ∧ L = [pt sw [.int .i64 c'] 3] := by
  refine Trip.of_x (L := [pt sw [.int .i64 c] 3]) Tryd.func74 (by kernel_rfl) rfl Tryd.ntmps74 Tryd.results74 rfl (ctx_ok _) hS hd ?_
  refine callP [0] (fun w S hR hB hS hd => order2_spec g n cap a b sw c xs hn hn2 ha hb (by omega) w S (hR _ hx) hS hd) ?_
  rintro _ _ ⟨a1, b1, c1, rfl, h1, h1c, rfl⟩
  refine callP [0] (fun w S hR hB hS hd => order2_spec g n cap b1 d sw c1 xs hn hn2 (by omega) hd' (by omega) w S (hR _ hx) hS hd) ?_
  rintro _ _ ⟨b2, d2, c2, rfl, h2, h2c, rfl⟩
  refine callP [0] (fun w S hR hB hS hd => order2_spec g n cap a1 b2 sw c2 xs hn hn2 (by omega) (by omega) (by omega) w S (hR _ hx) hS hd) ?_
  rintro _ _ ⟨a3, b3, c3, rfl, h3, h3c, rfl⟩
  exact ⟨_, .refl _, b3, c3, rfl, by omega, by omega, rfl⟩

theorem medAdj_spec (g n cap i sw c : Nat) (xs : List Cl) (hn : xs.length = n) (hn2 : n ≤ 1000000) (h0 : 0 < i) (hi : i + 1 < n) (hc : c ≤ 900) (w : World) (S : FP) (hx : RO w S (roS (some ⟨g, 0, none⟩) 9 encCl xs)) (hS : Sep [pt sw [.int .i64 c] 3] w S) (hd : ∀ b, S b → b < w.heap.size) :
    Trip Tryd.prog 73 #[.slice (some ⟨g, 0, none⟩) n cap, .int .i64 i, .pointer (some ⟨sw, 0, none⟩), .func (.func 39) #[] #[]] w S fun v L => ∃ r c' : Nat, v = .int .i64 r ∧ (i - 1 ≤ r ∧ r ≤ i + 1) ∧ c' ≤ c + 3 ∧ L = [pt sw [.int .i64 c'] 3] := by
  refine Trip.of_x (L := [pt sw [.int .i64 c] 3]) Tryd.func73 (by kernel_rfl) rfl Tryd.ntmps73 Tryd.results73 rfl (ctx_ok _) hS hd ?_
  refine ⟨((i - 1 : Nat) : Int), by rw [show ((i : Int) - 1) = ((i - 1 : Nat) : Int) by omega]; exact wrap_i64 (by omega) (by omega), ?_⟩
  refine ⟨((i + 1 : Nat) : Int), by rw [show ((i : Int) + 1) = ((i + 1 : Nat) : Int) by omega]; exact wrap_i64 (by omega) (by omega), ?_⟩
  refine callP [0] (fun w S hR hB hS hd => median_spec g n cap (i - 1) i (i + 1) sw c xs hn hn2 (by omega) (by omega) (by omega) (by omega) w S (hR _ hx) hS hd) ?_
  rintro _ _ ⟨r, c', rfl, h1, h2, rfl⟩
  exact ⟨_, .refl _, r, c', rfl, by omega, h2, rfl⟩

theorem choose_spec (g n cap a b : Nat) (xs : List Cl) (hn : xs.length = n) (hn2 : n ≤ 1000000) (hb : b ≤ n) (hab : a + 8 ≤ b) (w : World) (S : FP) (hx : RO w S (roS (some ⟨g, 0, none⟩) 9 encCl xs)) (hd : ∀ b, S b → b < w.heap.size) :
    Trip Tryd.prog 56 #[.slice (some ⟨g, 0, none⟩) n cap, .int .i64 a, .int .i64 b, .func (.func 39) #[] #[]] w S fun v L => ∃ p h : Nat, v = .tuple #[.int .i64 p, .int .i64 h] ∧ a ≤ p ∧ p < b ∧ L = [] := by
  refine Trip.of_x (L := []) Tryd.func56 (by kernel_rfl) rfl Tryd.ntmps56 Tryd.results56 rfl (ctx_ok _) trivial hd ?_
  refine ⟨((b - a : Nat) : Int), by rw [show ((b : Int) - a) = ((b - a : Nat) : Int) by omega]; exact wrap_i64 (by omega) (by omega), ?_⟩
  intro sw
  have q4 : (((b - a) / 4 : Nat) : Int) = IntKind.i64.wrap ((((b - a : Nat)) : Int).tdiv 4) := by
    rw [show (((b - a : Nat)) : Int).tdiv 4 = (((b - a) / 4 : Nat) : Int) from rfl]
    exact wrap_i64 (by omega) (by omega)
  have mk : ∀ k : Nat, k ≤ 3 → ((((b - a) / 4) * k : Nat) : Int) = IntKind.i64.wrap ((((b - a) / 4 : Nat) : Int) * (k : Nat)) := fun k hk => by
    have : ((b - a) / 4) * k ≤ ((b - a) / 4) * 3 := Nat.mul_le_mul_left _ hk
    rw [← Int.natCast_mul]
    exact wrap_i64 (by omega) (by omega)
  have ak : ∀ k : Nat, k ≤ 3 → ((a + ((b - a) / 4) * k : Nat) : Int) = IntKind.i64.wrap ((a : Int) + (((((b - a) / 4) * k : Nat)) : Int)) := fun k hk => by
    have : ((b - a) / 4) * k ≤ ((b - a) / 4) * 3 := Nat.mul_le_mul_left _ hk
    rw [← Int.natCast_add]
    exact wrap_i64 (by omega) (by omega)
  refine ⟨by decide, _, q4, ?_⟩
  refine ⟨_, mk 1 (by omega), ?_⟩
  refine ⟨_, ak 1 (by omega), ?_⟩
  refine ⟨by decide, _, q4, ?_⟩
  refine ⟨_, mk 2 (by omega), ?_⟩
  refine ⟨_, ak 2 (by omega), ?_⟩
  refine ⟨by decide, _, q4, ?_⟩
  refine ⟨_, mk 3 (by omega), ?_⟩
  refine ⟨_, ak 3 (by omega), ?_⟩
  have h2 : 2 ≤ (b - a) / 4 := by omega
  have h3 : (b - a) / 4 * 3 + 2 ≤ b - a := by omega
  generalize hi : a + (b - a) / 4 * 1 = i
  generalize hj : a + (b - a) / 4 * 2 = j
  generalize hk : a + (b - a) / 4 * 3 = k
  have e1 : a + 2 ≤ i := by omega
  have e2 : a + 4 ≤ j := by omega
  have e3 : k + 2 ≤ b := by omega
  have e4 : i + 2 ≤ j ∧ j + 2 ≤ k := by omega
  clear q4 mk ak hi hj hk h2 h3
  refine ⟨fun _ => ?_, fun h => absurd (of_decide_eq_false h) (by omega)⟩
  refine ⟨fun _ => ?_, fun _ => ?_⟩
  · refine callP [0] (fun w S hR hB hS hd => medAdj_spec g n cap i sw 0 xs hn hn2 (by omega) (by omega) (by omega) w S (hR _ hx) hS hd) ?_
    rintro _ _ ⟨i', c1, rfl, hi', hc1, rfl⟩
    refine callP [0] (fun w S hR hB hS hd => medAdj_spec g n cap j sw c1 xs hn hn2 (by omega) (by omega) (by omega) w S (hR _ hx) hS hd) ?_
    rintro _ _ ⟨j', c2, rfl, hj', hc2, rfl⟩
    refine callP [0] (fun w S hR hB hS hd => medAdj_spec g n cap k sw c2 xs hn hn2 (by omega) (by omega) (by omega) w S (hR _ hx) hS hd) ?_
    rintro _ _ ⟨k', c3, rfl, hk', hc3, rfl⟩
    refine callP [0] (fun w S hR hB hS hd => median_spec g n cap i' j' k' sw c3 xs hn hn2 (by omega) (by omega) (by omega) (by omega) w S (hR _ hx) hS hd) ?_
    rintro _ _ ⟨p, c4, rfl, hp, hc4, rfl⟩
    refine ⟨_, ld 0 rfl rfl rfl, ?_⟩
    refine ⟨fun _ => ?_, fun _ => ?_⟩
    · exact ⟨_, .pick [], p, 1, rfl, by omega, by omega, rfl⟩
    refine ⟨fun _ => ?_, fun _ => ?_⟩
    · exact ⟨_, .pick [], p, 2, rfl, by omega, by omega, rfl⟩
    · exact ⟨_, .pick [], p, 0, rfl, by omega, by omega, rfl⟩
  · refine callP [0] (fun w S hR hB hS hd => median_spec g n cap i j k sw 0 xs hn hn2 (by omega) (by omega) (by omega) (by omega) w S (hR _ hx) hS hd) ?_
    rintro _ _ ⟨p, c4, rfl, hp, hc4, rfl⟩
    refine ⟨_, ld 0 rfl rfl rfl, ?_⟩
    refine ⟨fun _ => ?_, fun _ => ?_⟩
    · exact ⟨_, .pick [], p, 1, rfl, by omega, by omega, rfl⟩
    refine ⟨fun _ => ?_, fun _ => ?_⟩
    · exact ⟨_, .pick [], p, 2, rfl, by omega, by omega, rfl⟩
    · exact ⟨_, .pick [], p, 0, rfl, by omega, by omega, rfl⟩
end Go.Proofs.YtfebaopjfmpfkaaDoor
