/- Sorting calls by their beginnings: the heap's sort. Sorting calls by their beginnings: how many bits, patterns broken. -/
import Derived.Test.YtfebaopjfmpfkaaDoorT3
namespace Go.Proofs.YtfebaopjfmpfkaaDoor
open Go.X
set_option maxRecDepth 10000
set_option linter.unusedVariables false
set_option linter.unusedSimpArgs false

def sw24Q (i : Nat) : List Nat := match i with
  | 3 => [1, 2]
  | 7 => [5, 6]
  | 11 => [9, 10]
  | 12 => [8, 9, 10, 11]
  | 13 => [8, 9, 10, 11, 12]
  | 17 => [15, 16]
  | 18 => [14, 15, 16, 17]
  | 19 => [14, 15, 16, 17, 18]
  | 20 => [0, 1, 2, 3]
  | 21 => [0, 1, 2, 3, 8, 9, 10, 11, 12, 13, 20]
  | 22 => [4, 5, 6, 7]
  | 23 => [4, 5, 6, 7, 14, 15, 16, 17, 18, 19, 22]
  | _ => []
def sw24U (i : Nat) : List Nat := match i with
  | 21 => [0, 1, 2, 3, 8, 9, 10, 11, 12, 13, 20, 19]
  | 23 => [4, 5, 6, 7, 14, 15, 16, 17, 18, 19, 22, 21, 13]
  | i => sw24Q i
def sw24V (g n cap f r m : Nat) (x y : Cl) : RelV := fun i _ v => v = match i with
  | 0 | 4 | 8 | 14 => .slice (some ⟨g, 0, none⟩) n cap
  | 1 | 5 | 9 | 15 => .int .i64 f
  | 2 | 16 => .int .i64 r
  | 6 | 10 => .int .i64 m
  | 3 | 17 => .int .i64 ((f + r : Nat) : Int)
  | 7 | 11 => .int .i64 ((f + m : Nat) : Int)
  | 12 | 22 => .pointer (some ⟨g, 0 + (f + m) * 9, none⟩)
  | 18 | 20 => .pointer (some ⟨g, 0 + (f + r) * 9, none⟩)
  | 13 => .agg ⟨encCl y⟩
  | 19 => .agg ⟨encCl x⟩
  | _ => undef
def sw20Q (i : Nat) : List Nat := match i with
  | 5 => [3, 4]
  | 9 => [7, 8]
  | 10 => [6, 7, 8, 9]
  | 11 => [6, 7, 8, 9, 10]
  | 14 => [12, 13]
  | 15 => [12, 13, 14]
  | 16 => [0, 1]
  | 17 => [0, 1, 6, 7, 8, 9, 10, 11, 16]
  | 18 => [2, 3, 4, 5]
  | 19 => [2, 3, 4, 5, 12, 13, 14, 15, 18]
  | _ => []
def sw20U (i : Nat) : List Nat := match i with
  | 17 => [0, 1, 6, 7, 8, 9, 10, 11, 16, 15]
  | 19 => [2, 3, 4, 5, 12, 13, 14, 15, 18, 17, 11]
  | i => sw20Q i
def sw20V (g n cap p f m : Nat) (x y : Cl) : RelV := fun i _ v => v = match i with
  | 0 | 2 | 6 | 12 => .slice (some ⟨g, 0, none⟩) n cap
  | 1 | 13 => .int .i64 p
  | 3 | 7 => .int .i64 f
  | 4 | 8 => .int .i64 m
  | 5 | 9 => .int .i64 ((f + m : Nat) : Int)
  | 10 | 18 => .pointer (some ⟨g, 0 + (f + m) * 9, none⟩)
  | 14 | 16 => .pointer (some ⟨g, 0 + p * 9, none⟩)
  | 11 => .agg ⟨encCl y⟩
  | 15 => .agg ⟨encCl x⟩
  | _ => undef

/-! ### heaps -/
abbrev Kid (p c : Nat) : Prop := c = 2 * p + 1 ∨ c = 2 * p + 2
/-- No child is greater, of the places from lo on. -/
def HeapO (f lo hi : Nat) (zs : List Cl) : Prop := ∀ p c x y, lo ≤ p → Kid p c → c < hi → zs[f + p]? = some x → zs[f + c]? = some y → y.bg ≤ x.bg
/-- The same, but for what stands at r. -/
def HeapX (f lo hi r : Nat) (zs : List Cl) : Prop := (∀ p c x y, lo ≤ p → Kid p c → c < hi → p ≠ r → zs[f + p]? = some x → zs[f + c]? = some y → y.bg ≤ x.bg) ∧
  (∀ q c x y, lo ≤ q → Kid q r → Kid r c → c < hi → zs[f + q]? = some x → zs[f + c]? = some y → y.bg ≤ x.bg)
theorem HeapX.fin {f lo hi r : Nat} {zs : List Cl} (h : HeapX f lo hi r zs) (hr : ∀ c x y, Kid r c → c < hi → zs[f + r]? = some x → zs[f + c]? = some y → y.bg ≤ x.bg) : HeapO f lo hi zs := fun p c x y h1 h2 h3 h4 h5 => by
  by_cases e : p = r
  · subst e; exact hr c x y h2 h3 h4 h5
  · exact h.1 p c x y h1 h2 h3 e h4 h5
theorem HeapX.swap {f lo hi r m : Nat} {zs : List Cl} (h : HeapX f lo hi r zs) {x y : Cl} (hlo : lo ≤ r) (hk : Kid r m) (hm : m < hi) (hx : zs[f + r]? = some x) (hy : zs[f + m]? = some y) (hxy : x.bg ≤ y.bg)
    (hmax : ∀ c z, Kid r c → c < hi → zs[f + c]? = some z → z.bg ≤ y.bg) : HeapX f lo hi m ((zs.set (f + r) y).set (f + m) x) := by

  refine ⟨fun p c u v h1 h2 h3 h4 hu hv => ?_, fun q c u v h1 h2 h3 h4 hu hv => ?_⟩
  · rw [sw_get hx hy] at hu hv
    rw [if_neg (by omega)] at hu
    by_cases e1 : p = r
    · subst e1
      rw [if_pos rfl] at hu
      obtain rfl : u = y := (Option.some.inj hu).symm
      by_cases e2 : c = m
      · subst e2; rw [if_pos rfl] at hv
        obtain rfl : v = x := (Option.some.inj hv).symm
        exact hxy
      · rw [if_neg (by omega), if_neg (by omega)] at hv
        exact hmax c v h2 h3 hv
    · rw [if_neg (by omega)] at hu
      rw [if_neg (by omega)] at hv
      by_cases e2 : c = r
      · subst e2; rw [if_pos rfl] at hv
        obtain rfl : v = y := (Option.some.inj hv).symm
        exact h.2 p m u v h1 h2 hk hm hu hy
      · rw [if_neg (by omega)] at hv
        exact h.1 p c u v h1 h2 h3 e1 hu hv
  · obtain rfl : q = r := by omega
    rw [sw_get hx hy] at hu hv
    rw [if_neg (by omega), if_pos rfl] at hu
    obtain rfl : u = y := (Option.some.inj hu).symm
    rw [if_neg (by omega), if_neg (by omega)] at hv
    exact h.1 m c _ v (by omega) h3 h4 (by omega) hy hv
/-- The first one is the greatest. -/
theorem HeapO.top {f hi : Nat} {zs : List Cl} (h : HeapO f 0 hi zs) (hl : f + hi ≤ zs.length) {x : Cl} (hx : zs[f]? = some x) : ∀ (c : Nat) (y : Cl), c < hi → zs[f + c]? = some y → y.bg ≤ x.bg := by
  intro c
  induction c using Nat.strongRecOn with
  | _ c ih =>
    intro y hc hy
    rcases Nat.eq_zero_or_pos c with rfl | h0
    · rw [Nat.add_zero, hx] at hy; cases hy; omega
    · obtain ⟨z, hz⟩ : ∃ z, zs[f + (c - 1) / 2]? = some z := ⟨zs[f + (c - 1) / 2]'(by omega), by simp [show f + (c - 1) / 2 < zs.length by omega]⟩
      have h1 := ih ((c - 1) / 2) (by omega) z (by omega) hz
      have h2 := h ((c - 1) / 2) c z y (Nat.zero_le _) (by unfold Kid; omega) hc hz hy
      omega

theorem sift_spec (g n cap lo hi f : Nat) (xs : List Cl) (hn : xs.length = n) (hn2 : n ≤ 1000000) (hb : f + hi ≤ n) (hlo : lo ≤ hi) (hX : HeapX f lo hi lo xs) (w : World) (S : FP) (hS : Sep [own (some ⟨g, 0, none⟩) cap 41 9 encCl xs] w S) (hd : ∀ b, S b → b < w.heap.size) :
    Trip Tryd.prog 70 #[.slice (some ⟨g, 0, none⟩) n cap, .int .i64 lo, .int .i64 hi, .int .i64 f, .func (.func 39) #[] #[]] w S fun v L => ∃ zs, v = .tuple #[] ∧ PermR (f + lo) (f + hi) xs zs ∧ HeapO f lo hi zs ∧ L = [own (some ⟨g, 0, none⟩) cap 41 9 encCl zs] := by
  refine Trip.of_x (L := [own (some ⟨g, 0, none⟩) cap 41 9 encCl xs]) Tryd.func70 (by kernel_rfl) rfl Tryd.ntmps70 Tryd.results70 rfl (ctx_ok _) hS hd ?_
  refine loopI (σ := Nat × List Cl) (fun s => [(0, .slice (some ⟨g, 0, none⟩) n cap), (2, .int .i64 hi), (3, .int .i64 f), (4, .func (.func 39) #[] #[]), (10, .int .i64 s.1)]) (fun s => [own (some ⟨g, 0, none⟩) cap 41 9 encCl s.2]) (fun s => lo ≤ s.1 ∧ s.1 ≤ hi ∧ PermR (f + lo) (f + hi) xs s.2 ∧ HeapX f lo hi s.1 s.2) (fun s => hi - s.1) (lo, xs) ⟨rfl, rfl, rfl, rfl, rfl, trivial⟩ (.refl _) ⟨Nat.le_refl _, hlo, PermR.refl _, hX⟩ ?_
  rintro ⟨r, zs⟩ ⟨hr, hr2, hP, hH⟩
  have hr : lo ≤ r := hr
  have hr2 : r ≤ hi := hr2
  have hP : PermR (f + lo) (f + hi) xs zs := hP
  have hH : HeapX f lo hi r zs := hH
  have hzl : zs.length = n := hP.len.trans hn
  refine ⟨((2 * r : Nat) : Int), by show _ = IntKind.i64.wrap ((2 : Int) * (r : Int)); rw [show ((2 : Int) * (r : Int)) = ((2 * r : Nat) : Int) by omega]; exact wrap_i64 (by omega) (by omega), ?_⟩
  refine ⟨((2 * r + 1 : Nat) : Int), by rw [show (((2 * r : Nat) : Int) + 1) = ((2 * r + 1 : Nat) : Int) by omega]; exact wrap_i64 (by omega) (by omega), ?_⟩
  refine ⟨fun h => ?_, fun h => ?_⟩
  · have hge : hi ≤ 2 * r + 1 := by have := of_decide_eq_true h; omega
    exact ⟨_, .refl _, zs, rfl, hP, hH.fin fun c x y hk hc => by unfold Kid at hk; omega, rfl⟩
  have hlt : 2 * r + 1 < hi := by have := of_decide_eq_false h; omega
  clear h
  have ad : ∀ k : Nat, k ≤ n → ((f + k : Nat) : Int) = IntKind.i64.wrap ((f : Int) + (k : Int)) := fun k hk => by rw [← Int.natCast_add]; exact wrap_i64 (by omega) (by omega)
  obtain ⟨x, hx⟩ : ∃ x, zs[f + r]? = some x := ⟨zs[f + r]'(by omega), by simp [show f + r < zs.length by omega]⟩
  obtain ⟨y1, hy1⟩ : ∃ x, zs[f + (2 * r + 1)]? = some x := ⟨zs[f + (2 * r + 1)]'(by omega), by simp [show f + (2 * r + 1) < zs.length by omega]⟩
  refine Or.inl ⟨by kernel_rfl, ?_⟩
  refine ⟨((2 * r + 2 : Nat) : Int), by rw [show (((2 * r + 1 : Nat) : Int) + 1) = ((2 * r + 2 : Nat) : Int) by omega]; exact wrap_i64 (by omega) (by omega), ?_⟩
  refine ⟨fun h => ?_, fun h => ?_⟩
  · have hlt2 : 2 * r + 2 < hi := by have := of_decide_eq_true h; omega
    clear h
    obtain ⟨y2, hy2⟩ : ∃ x, zs[f + (2 * r + 2)]? = some x := ⟨zs[f + (2 * r + 2)]'(by omega), by simp [show f + (2 * r + 2) < zs.length by omega]⟩
    refine ⟨_, ad (2 * r + 1) (by omega), ?_⟩
    refine ⟨f + (2 * r + 1), rfl, by omega, ?_⟩
    refine ⟨_, ldOA 0 (f + (2 * r + 1)) rfl (fun _ _ => rfl) hy1 rfl rfl rfl (by show 0 + (f + (2 * r + 1)) * 9 = (f + (2 * r + 1)) * 9; omega), ?_⟩
    refine ⟨_, ad (2 * r + 1) (by omega), ?_⟩
    refine ⟨((f + (2 * r + 2) : Nat) : Int), by rw [show (((f + (2 * r + 1) : Nat) : Int) + 1) = ((f + (2 * r + 2) : Nat) : Int) by omega]; exact wrap_i64 (by omega) (by omega), ?_⟩
    refine ⟨f + (2 * r + 2), rfl, by omega, ?_⟩
    refine ⟨_, ldOA 0 (f + (2 * r + 2)) rfl (fun _ _ => rfl) hy2 rfl rfl rfl (by show 0 + (f + (2 * r + 2)) * 9 = (f + (2 * r + 2)) * 9; omega), ?_⟩
    refine callQ [] (fun w S hR hB hS hd => cmpBg_spec y1 y2 w S hd) ?_
    have hcmp : cmpZ y1.bg y2.bg < 0 ↔ y1.bg < y2.bg := cmpZ_lt
    refine ⟨fun hc => ?_, fun hc => ?_⟩
    · have hc : y1.bg < y2.bg := hcmp.1 (of_decide_eq_true hc)
      have hmax : ∀ c z, Kid r c → c < hi → zs[f + c]? = some z → z.bg ≤ y2.bg := fun c z hk _ hz => by
        rcases hk with rfl | rfl
        · rw [hy1] at hz; cases hz; omega
        · rw [hy2] at hz; cases hz; omega
      clear hcmp
      refine ⟨((2 * r + 2 : Nat) : Int), by rw [show (((2 * r + 1 : Nat) : Int) + 1) = ((2 * r + 2 : Nat) : Int) by omega]; exact wrap_i64 (by omega) (by omega), ?_⟩
      have hr' := ad r (by omega)
      have hm' := ad (2 * r + 2) (by omega)
      refine Or.inl ⟨by kernel_rfl, ?_⟩
      refine ⟨_, hr', ?_⟩
      refine ⟨f + r, rfl, by omega, ?_⟩
      refine ⟨_, ldOA 0 (f + r) rfl (fun _ _ => rfl) hx rfl rfl rfl (by show 0 + (f + r) * 9 = (f + r) * 9; omega), ?_⟩
      refine ⟨_, hm', ?_⟩
      refine ⟨f + (2 * r + 2), rfl, by omega, ?_⟩
      refine ⟨_, ldOA 0 (f + (2 * r + 2)) rfl (fun _ _ => rfl) hy2 rfl rfl rfl (by show 0 + (f + (2 * r + 2)) * 9 = (f + (2 * r + 2)) * 9; omega), ?_⟩
      refine callQ [] (fun w S hR hB hS hd => cmpBg_spec x y2 w S hd) ?_
      have hcmp : cmpZ x.bg y2.bg < 0 ↔ x.bg < y2.bg := cmpZ_lt
      refine ⟨fun hc => ?_, fun hc => ?_⟩
      · have hc : ¬ x.bg < y2.bg := fun h => by
          have h' := hcmp.2 h
          have hc : (!decide (cmpZ x.bg y2.bg < 0)) = true := hc
          rw [decide_eq_true h'] at hc; cases hc
        exact ⟨_, .refl _, zs, rfl, hP, hH.fin fun c u v hk hc' hu hv => by
          rw [hx] at hu; cases hu
          have := hmax c v hk hc' hv
          omega, rfl⟩
      · have hc : x.bg < y2.bg := hcmp.1 (by
          have hc : (!decide (cmpZ x.bg y2.bg < 0)) = false := hc
          simpa using hc)
        refine Or.inr (Or.inr (drawE sw24U sw24Q (sw24V g n cap f r (2 * r + 2) x y2) [21, 23] [13, 19] [[own (some ⟨g, 0, none⟩) cap 41 9 encCl zs], [own (some ⟨g, 0, none⟩) cap 41 9 encCl (zs.set (f + r) y2)], [own (some ⟨g, 0, none⟩) cap 41 9 encCl ((zs.set (f + r) y2).set (f + (2 * r + 2)) x)]] rfl (by kernel_rfl) ?_ ?_))
        · refine ⟨?_, ?_, ?_, ?_, ?_, ?_, ?_, ?_, ?_, ?_, ?_, ?_, ?_, ?_, ?_, ?_, ?_, ?_, ?_, ?_, ?_, ?_, ?_, ?_, trivial⟩
          · exact rfl
          · exact rfl
          · exact rfl
          · rintro _ _ ⟨rfl, rfl⟩; rintro _ _ ⟨rfl, rfl⟩; exact ⟨_, hr', rfl⟩
          · exact rfl
          · exact rfl
          · exact rfl
          · rintro _ _ ⟨rfl, rfl⟩; rintro _ _ ⟨rfl, rfl⟩; exact ⟨_, hm', rfl⟩
          · exact rfl
          · exact rfl
          · exact rfl
          · rintro _ _ ⟨rfl, rfl⟩; rintro _ _ ⟨rfl, rfl⟩; exact ⟨_, hm', rfl⟩
          · rintro _ _ ⟨rfl, rfl⟩; rintro _ _ ⟨rfl, rfl⟩; rintro _ _ ⟨rfl, rfl⟩; rintro _ _ ⟨rfl, rfl⟩; exact ⟨(f + (2 * r + 2)), rfl, by omega, rfl⟩
          · rintro _ _ ⟨rfl, rfl⟩; rintro _ _ ⟨rfl, rfl⟩; rintro _ _ ⟨rfl, rfl⟩; rintro _ _ ⟨rfl, rfl⟩; rintro _ _ ⟨rfl, rfl⟩; exact ⟨_, ldOA 0 (f + (2 * r + 2)) rfl (fun _ _ => rfl) hy2 rfl rfl rfl (by omega), rfl⟩
          · exact rfl
          · exact rfl
          · exact rfl
          · rintro _ _ ⟨rfl, rfl⟩; rintro _ _ ⟨rfl, rfl⟩; exact ⟨_, hr', rfl⟩
          · rintro _ _ ⟨rfl, rfl⟩; rintro _ _ ⟨rfl, rfl⟩; rintro _ _ ⟨rfl, rfl⟩; rintro _ _ ⟨rfl, rfl⟩; exact ⟨(f + r), rfl, by omega, rfl⟩
          · rintro _ _ ⟨rfl, rfl⟩; rintro _ _ ⟨rfl, rfl⟩; rintro _ _ ⟨rfl, rfl⟩; rintro _ _ ⟨rfl, rfl⟩; rintro _ _ ⟨rfl, rfl⟩; exact ⟨_, ldOA 0 (f + r) rfl (fun _ _ => rfl) hx rfl rfl rfl (by omega), rfl⟩
          · rintro _ _ ⟨rfl, rfl⟩; rintro _ _ ⟨rfl, rfl⟩; rintro _ _ ⟨rfl, rfl⟩; rintro _ _ ⟨rfl, rfl⟩; exact ⟨(f + r), rfl, by omega, rfl⟩
          · rintro _ _ ⟨rfl, rfl⟩; rintro _ _ ⟨rfl, rfl⟩; rintro _ _ ⟨rfl, rfl⟩; rintro _ _ ⟨rfl, rfl⟩; rintro _ _ ⟨rfl, rfl⟩; rintro _ _ ⟨rfl, rfl⟩; rintro _ _ ⟨rfl, rfl⟩; rintro _ _ ⟨rfl, rfl⟩; rintro _ _ ⟨rfl, rfl⟩; rintro _ _ ⟨rfl, rfl⟩; rintro _ _ ⟨rfl, rfl⟩; exact stO 0 (f + r) y2 rfl (fun _ _ => rfl) rfl (by omega) rfl rfl rfl rfl (by omega) ⟨rfl, .refl _⟩
          · rintro _ _ ⟨rfl, rfl⟩; rintro _ _ ⟨rfl, rfl⟩; rintro _ _ ⟨rfl, rfl⟩; rintro _ _ ⟨rfl, rfl⟩; exact ⟨(f + (2 * r + 2)), rfl, by omega, rfl⟩
          · rintro _ _ ⟨rfl, rfl⟩; rintro _ _ ⟨rfl, rfl⟩; rintro _ _ ⟨rfl, rfl⟩; rintro _ _ ⟨rfl, rfl⟩; rintro _ _ ⟨rfl, rfl⟩; rintro _ _ ⟨rfl, rfl⟩; rintro _ _ ⟨rfl, rfl⟩; rintro _ _ ⟨rfl, rfl⟩; rintro _ _ ⟨rfl, rfl⟩; rintro _ _ ⟨rfl, rfl⟩; rintro _ _ ⟨rfl, rfl⟩; exact stO 0 (f + (2 * r + 2)) x rfl (fun _ _ => rfl) rfl (by simp; omega) rfl rfl rfl rfl (by omega) ⟨rfl, .refl _⟩
        rintro _ _ ⟨rfl, rfl⟩; rintro _ _ ⟨rfl, rfl⟩; rintro _ _ ⟨rfl, rfl⟩; rintro _ _ ⟨rfl, rfl⟩; rintro _ _ ⟨rfl, rfl⟩; rintro _ _ ⟨rfl, rfl⟩; rintro _ _ ⟨rfl, rfl⟩; rintro _ _ ⟨rfl, rfl⟩; rintro _ _ ⟨rfl, rfl⟩; rintro _ _ ⟨rfl, rfl⟩; rintro _ _ ⟨rfl, rfl⟩; rintro _ _ ⟨rfl, rfl⟩; rintro _ _ ⟨rfl, rfl⟩; rintro _ _ ⟨rfl, rfl⟩; rintro _ _ ⟨rfl, rfl⟩; rintro _ _ ⟨rfl, rfl⟩; rintro _ _ ⟨rfl, rfl⟩; rintro _ _ ⟨rfl, rfl⟩; rintro _ _ ⟨rfl, rfl⟩; rintro _ _ ⟨rfl, rfl⟩; rintro _ _ ⟨rfl, rfl⟩; rintro _ _ ⟨rfl, rfl⟩; rintro _ _ ⟨rfl, rfl⟩; rintro _ _ ⟨rfl, rfl⟩
        exact backI ((2 * r + 2), (zs.set (f + r) y2).set (f + (2 * r + 2)) x) (by show hi - (2 * r + 2) < hi - r; omega) ⟨by show lo ≤ (2 * r + 2); omega, by show (2 * r + 2) ≤ hi; omega, hP.trans (PermR.swap hx hy2 (by omega) (by omega) (by omega) (by omega)), hH.swap hr (by omega) (by omega) hx hy2 (by omega) hmax⟩ ⟨rfl, rfl, rfl, rfl, rfl, trivial⟩ (.refl _)
    · have hc : ¬ y1.bg < y2.bg := fun h => of_decide_eq_false hc (hcmp.2 h)
      have hmax : ∀ c z, Kid r c → c < hi → zs[f + c]? = some z → z.bg ≤ y1.bg := fun c z hk _ hz => by
        rcases hk with rfl | rfl
        · rw [hy1] at hz; cases hz; omega
        · rw [hy2] at hz; cases hz; omega
      clear hcmp
      have hr' := ad r (by omega)
      have hm' := ad (2 * r + 1) (by omega)
      refine Or.inl ⟨by kernel_rfl, ?_⟩
      refine ⟨_, hr', ?_⟩
      refine ⟨f + r, rfl, by omega, ?_⟩
      refine ⟨_, ldOA 0 (f + r) rfl (fun _ _ => rfl) hx rfl rfl rfl (by show 0 + (f + r) * 9 = (f + r) * 9; omega), ?_⟩
      refine ⟨_, hm', ?_⟩
      refine ⟨f + (2 * r + 1), rfl, by omega, ?_⟩
      refine ⟨_, ldOA 0 (f + (2 * r + 1)) rfl (fun _ _ => rfl) hy1 rfl rfl rfl (by show 0 + (f + (2 * r + 1)) * 9 = (f + (2 * r + 1)) * 9; omega), ?_⟩
      refine callQ [] (fun w S hR hB hS hd => cmpBg_spec x y1 w S hd) ?_
      have hcmp : cmpZ x.bg y1.bg < 0 ↔ x.bg < y1.bg := cmpZ_lt
      refine ⟨fun hc => ?_, fun hc => ?_⟩
      · have hc : ¬ x.bg < y1.bg := fun h => by
          have h' := hcmp.2 h
          have hc : (!decide (cmpZ x.bg y1.bg < 0)) = true := hc
          rw [decide_eq_true h'] at hc; cases hc
        exact ⟨_, .refl _, zs, rfl, hP, hH.fin fun c u v hk hc' hu hv => by
          rw [hx] at hu; cases hu
          have := hmax c v hk hc' hv
          omega, rfl⟩
      · have hc : x.bg < y1.bg := hcmp.1 (by
          have hc : (!decide (cmpZ x.bg y1.bg < 0)) = false := hc
          simpa using hc)
        refine Or.inr (Or.inr (drawE sw24U sw24Q (sw24V g n cap f r (2 * r + 1) x y1) [21, 23] [13, 19] [[own (some ⟨g, 0, none⟩) cap 41 9 encCl zs], [own (some ⟨g, 0, none⟩) cap 41 9 encCl (zs.set (f + r) y1)], [own (some ⟨g, 0, none⟩) cap 41 9 encCl ((zs.set (f + r) y1).set (f + (2 * r + 1)) x)]] rfl (by kernel_rfl) ?_ ?_))
        · refine ⟨?_, ?_, ?_, ?_, ?_, ?_, ?_, ?_, ?_, ?_, ?_, ?_, ?_, ?_, ?_, ?_, ?_, ?_, ?_, ?_, ?_, ?_, ?_, ?_, trivial⟩
          · exact rfl
          · exact rfl
          · exact rfl
          · rintro _ _ ⟨rfl, rfl⟩; rintro _ _ ⟨rfl, rfl⟩; exact ⟨_, hr', rfl⟩
          · exact rfl
          · exact rfl
          · exact rfl
          · rintro _ _ ⟨rfl, rfl⟩; rintro _ _ ⟨rfl, rfl⟩; exact ⟨_, hm', rfl⟩
          · exact rfl
          · exact rfl
          · exact rfl
          · rintro _ _ ⟨rfl, rfl⟩; rintro _ _ ⟨rfl, rfl⟩; exact ⟨_, hm', rfl⟩
          · rintro _ _ ⟨rfl, rfl⟩; rintro _ _ ⟨rfl, rfl⟩; rintro _ _ ⟨rfl, rfl⟩; rintro _ _ ⟨rfl, rfl⟩; exact ⟨(f + (2 * r + 1)), rfl, by omega, rfl⟩
          · rintro _ _ ⟨rfl, rfl⟩; rintro _ _ ⟨rfl, rfl⟩; rintro _ _ ⟨rfl, rfl⟩; rintro _ _ ⟨rfl, rfl⟩; rintro _ _ ⟨rfl, rfl⟩; exact ⟨_, ldOA 0 (f + (2 * r + 1)) rfl (fun _ _ => rfl) hy1 rfl rfl rfl (by omega), rfl⟩
          · exact rfl
          · exact rfl
          · exact rfl
          · rintro _ _ ⟨rfl, rfl⟩; rintro _ _ ⟨rfl, rfl⟩; exact ⟨_, hr', rfl⟩
          · rintro _ _ ⟨rfl, rfl⟩; rintro _ _ ⟨rfl, rfl⟩; rintro _ _ ⟨rfl, rfl⟩; rintro _ _ ⟨rfl, rfl⟩; exact ⟨(f + r), rfl, by omega, rfl⟩
          · rintro _ _ ⟨rfl, rfl⟩; rintro _ _ ⟨rfl, rfl⟩; rintro _ _ ⟨rfl, rfl⟩; rintro _ _ ⟨rfl, rfl⟩; rintro _ _ ⟨rfl, rfl⟩; exact ⟨_, ldOA 0 (f + r) rfl (fun _ _ => rfl) hx rfl rfl rfl (by omega), rfl⟩
          · rintro _ _ ⟨rfl, rfl⟩; rintro _ _ ⟨rfl, rfl⟩; rintro _ _ ⟨rfl, rfl⟩; rintro _ _ ⟨rfl, rfl⟩; exact ⟨(f + r), rfl, by omega, rfl⟩
          · rintro _ _ ⟨rfl, rfl⟩; rintro _ _ ⟨rfl, rfl⟩; rintro _ _ ⟨rfl, rfl⟩; rintro _ _ ⟨rfl, rfl⟩; rintro _ _ ⟨rfl, rfl⟩; rintro _ _ ⟨rfl, rfl⟩; rintro _ _ ⟨rfl, rfl⟩; rintro _ _ ⟨rfl, rfl⟩; rintro _ _ ⟨rfl, rfl⟩; rintro _ _ ⟨rfl, rfl⟩; rintro _ _ ⟨rfl, rfl⟩; exact stO 0 (f + r) y1 rfl (fun _ _ => rfl) rfl (by omega) rfl rfl rfl rfl (by omega) ⟨rfl, .refl _⟩
          · rintro _ _ ⟨rfl, rfl⟩; rintro _ _ ⟨rfl, rfl⟩; rintro _ _ ⟨rfl, rfl⟩; rintro _ _ ⟨rfl, rfl⟩; exact ⟨(f + (2 * r + 1)), rfl, by omega, rfl⟩
          · rintro _ _ ⟨rfl, rfl⟩; rintro _ _ ⟨rfl, rfl⟩; rintro _ _ ⟨rfl, rfl⟩; rintro _ _ ⟨rfl, rfl⟩; rintro _ _ ⟨rfl, rfl⟩; rintro _ _ ⟨rfl, rfl⟩; rintro _ _ ⟨rfl, rfl⟩; rintro _ _ ⟨rfl, rfl⟩; rintro _ _ ⟨rfl, rfl⟩; rintro _ _ ⟨rfl, rfl⟩; rintro _ _ ⟨rfl, rfl⟩; exact stO 0 (f + (2 * r + 1)) x rfl (fun _ _ => rfl) rfl (by simp; omega) rfl rfl rfl rfl (by omega) ⟨rfl, .refl _⟩
        rintro _ _ ⟨rfl, rfl⟩; rintro _ _ ⟨rfl, rfl⟩; rintro _ _ ⟨rfl, rfl⟩; rintro _ _ ⟨rfl, rfl⟩; rintro _ _ ⟨rfl, rfl⟩; rintro _ _ ⟨rfl, rfl⟩; rintro _ _ ⟨rfl, rfl⟩; rintro _ _ ⟨rfl, rfl⟩; rintro _ _ ⟨rfl, rfl⟩; rintro _ _ ⟨rfl, rfl⟩; rintro _ _ ⟨rfl, rfl⟩; rintro _ _ ⟨rfl, rfl⟩; rintro _ _ ⟨rfl, rfl⟩; rintro _ _ ⟨rfl, rfl⟩; rintro _ _ ⟨rfl, rfl⟩; rintro _ _ ⟨rfl, rfl⟩; rintro _ _ ⟨rfl, rfl⟩; rintro _ _ ⟨rfl, rfl⟩; rintro _ _ ⟨rfl, rfl⟩; rintro _ _ ⟨rfl, rfl⟩; rintro _ _ ⟨rfl, rfl⟩; rintro _ _ ⟨rfl, rfl⟩; rintro _ _ ⟨rfl, rfl⟩; rintro _ _ ⟨rfl, rfl⟩
        exact backI ((2 * r + 1), (zs.set (f + r) y1).set (f + (2 * r + 1)) x) (by show hi - (2 * r + 1) < hi - r; omega) ⟨by show lo ≤ (2 * r + 1); omega, by show (2 * r + 1) ≤ hi; omega, hP.trans (PermR.swap hx hy1 (by omega) (by omega) (by omega) (by omega)), hH.swap hr (by omega) (by omega) hx hy1 (by omega) hmax⟩ ⟨rfl, rfl, rfl, rfl, rfl, trivial⟩ (.refl _)
  · have hge2 : hi ≤ 2 * r + 2 := by have := of_decide_eq_false h; omega
    clear h
    have hmax : ∀ c z, Kid r c → c < hi → zs[f + c]? = some z → z.bg ≤ y1.bg := fun c z hk hc hz => by
      rcases hk with rfl | rfl
      · rw [hy1] at hz; cases hz; omega
      · omega
    refine ⟨nofun, fun _ => ?_⟩
    have hr' := ad r (by omega)
    have hm' := ad (2 * r + 1) (by omega)
    refine Or.inl ⟨by kernel_rfl, ?_⟩
    refine ⟨_, hr', ?_⟩
    refine ⟨f + r, rfl, by omega, ?_⟩
    refine ⟨_, ldOA 0 (f + r) rfl (fun _ _ => rfl) hx rfl rfl rfl (by show 0 + (f + r) * 9 = (f + r) * 9; omega), ?_⟩
    refine ⟨_, hm', ?_⟩
    refine ⟨f + (2 * r + 1), rfl, by omega, ?_⟩
    refine ⟨_, ldOA 0 (f + (2 * r + 1)) rfl (fun _ _ => rfl) hy1 rfl rfl rfl (by show 0 + (f + (2 * r + 1)) * 9 = (f + (2 * r + 1)) * 9; omega), ?_⟩
    refine callQ [] (fun w S hR hB hS hd => cmpBg_spec x y1 w S hd) ?_
    have hcmp : cmpZ x.bg y1.bg < 0 ↔ x.bg < y1.bg := cmpZ_lt
    refine ⟨fun hc => ?_, fun hc => ?_⟩
    · have hc : ¬ x.bg < y1.bg := fun h => by
        have h' := hcmp.2 h
        have hc : (!decide (cmpZ x.bg y1.bg < 0)) = true := hc
        rw [decide_eq_true h'] at hc; cases hc
      exact ⟨_, .refl _, zs, rfl, hP, hH.fin fun c u v hk hc' hu hv => by
        rw [hx] at hu; cases hu
        have := hmax c v hk hc' hv
        omega, rfl⟩
    · have hc : x.bg < y1.bg := hcmp.1 (by
        have hc : (!decide (cmpZ x.bg y1.bg < 0)) = false := hc
        simpa using hc)
      refine Or.inr (Or.inr (drawE sw24U sw24Q (sw24V g n cap f r (2 * r + 1) x y1) [21, 23] [13, 19] [[own (some ⟨g, 0, none⟩) cap 41 9 encCl zs], [own (some ⟨g, 0, none⟩) cap 41 9 encCl (zs.set (f + r) y1)], [own (some ⟨g, 0, none⟩) cap 41 9 encCl ((zs.set (f + r) y1).set (f + (2 * r + 1)) x)]] rfl (by kernel_rfl) ?_ ?_))
      · refine ⟨?_, ?_, ?_, ?_, ?_, ?_, ?_, ?_, ?_, ?_, ?_, ?_, ?_, ?_, ?_, ?_, ?_, ?_, ?_, ?_, ?_, ?_, ?_, ?_, trivial⟩
        · exact rfl
        · exact rfl
        · exact rfl
        · rintro _ _ ⟨rfl, rfl⟩; rintro _ _ ⟨rfl, rfl⟩; exact ⟨_, hr', rfl⟩
        · exact rfl
        · exact rfl
        · exact rfl
        · rintro _ _ ⟨rfl, rfl⟩; rintro _ _ ⟨rfl, rfl⟩; exact ⟨_, hm', rfl⟩
        · exact rfl
        · exact rfl
        · exact rfl
        · rintro _ _ ⟨rfl, rfl⟩; rintro _ _ ⟨rfl, rfl⟩; exact ⟨_, hm', rfl⟩
        · rintro _ _ ⟨rfl, rfl⟩; rintro _ _ ⟨rfl, rfl⟩; rintro _ _ ⟨rfl, rfl⟩; rintro _ _ ⟨rfl, rfl⟩; exact ⟨(f + (2 * r + 1)), rfl, by omega, rfl⟩
        · rintro _ _ ⟨rfl, rfl⟩; rintro _ _ ⟨rfl, rfl⟩; rintro _ _ ⟨rfl, rfl⟩; rintro _ _ ⟨rfl, rfl⟩; rintro _ _ ⟨rfl, rfl⟩; exact ⟨_, ldOA 0 (f + (2 * r + 1)) rfl (fun _ _ => rfl) hy1 rfl rfl rfl (by omega), rfl⟩
        · exact rfl
        · exact rfl
        · exact rfl
        · rintro _ _ ⟨rfl, rfl⟩; rintro _ _ ⟨rfl, rfl⟩; exact ⟨_, hr', rfl⟩
        · rintro _ _ ⟨rfl, rfl⟩; rintro _ _ ⟨rfl, rfl⟩; rintro _ _ ⟨rfl, rfl⟩; rintro _ _ ⟨rfl, rfl⟩; exact ⟨(f + r), rfl, by omega, rfl⟩
        · rintro _ _ ⟨rfl, rfl⟩; rintro _ _ ⟨rfl, rfl⟩; rintro _ _ ⟨rfl, rfl⟩; rintro _ _ ⟨rfl, rfl⟩; rintro _ _ ⟨rfl, rfl⟩; exact ⟨_, ldOA 0 (f + r) rfl (fun _ _ => rfl) hx rfl rfl rfl (by omega), rfl⟩
        · rintro _ _ ⟨rfl, rfl⟩; rintro _ _ ⟨rfl, rfl⟩; rintro _ _ ⟨rfl, rfl⟩; rintro _ _ ⟨rfl, rfl⟩; exact ⟨(f + r), rfl, by omega, rfl⟩
        · rintro _ _ ⟨rfl, rfl⟩; rintro _ _ ⟨rfl, rfl⟩; rintro _ _ ⟨rfl, rfl⟩; rintro _ _ ⟨rfl, rfl⟩; rintro _ _ ⟨rfl, rfl⟩; rintro _ _ ⟨rfl, rfl⟩; rintro _ _ ⟨rfl, rfl⟩; rintro _ _ ⟨rfl, rfl⟩; rintro _ _ ⟨rfl, rfl⟩; rintro _ _ ⟨rfl, rfl⟩; rintro _ _ ⟨rfl, rfl⟩; exact stO 0 (f + r) y1 rfl (fun _ _ => rfl) rfl (by omega) rfl rfl rfl rfl (by omega) ⟨rfl, .refl _⟩
        · rintro _ _ ⟨rfl, rfl⟩; rintro _ _ ⟨rfl, rfl⟩; rintro _ _ ⟨rfl, rfl⟩; rintro _ _ ⟨rfl, rfl⟩; exact ⟨(f + (2 * r + 1)), rfl, by omega, rfl⟩
        · rintro _ _ ⟨rfl, rfl⟩; rintro _ _ ⟨rfl, rfl⟩; rintro _ _ ⟨rfl, rfl⟩; rintro _ _ ⟨rfl, rfl⟩; rintro _ _ ⟨rfl, rfl⟩; rintro _ _ ⟨rfl, rfl⟩; rintro _ _ ⟨rfl, rfl⟩; rintro _ _ ⟨rfl, rfl⟩; rintro _ _ ⟨rfl, rfl⟩; rintro _ _ ⟨rfl, rfl⟩; rintro _ _ ⟨rfl, rfl⟩; exact stO 0 (f + (2 * r + 1)) x rfl (fun _ _ => rfl) rfl (by simp; omega) rfl rfl rfl rfl (by omega) ⟨rfl, .refl _⟩
      rintro _ _ ⟨rfl, rfl⟩; rintro _ _ ⟨rfl, rfl⟩; rintro _ _ ⟨rfl, rfl⟩; rintro _ _ ⟨rfl, rfl⟩; rintro _ _ ⟨rfl, rfl⟩; rintro _ _ ⟨rfl, rfl⟩; rintro _ _ ⟨rfl, rfl⟩; rintro _ _ ⟨rfl, rfl⟩; rintro _ _ ⟨rfl, rfl⟩; rintro _ _ ⟨rfl, rfl⟩; rintro _ _ ⟨rfl, rfl⟩; rintro _ _ ⟨rfl, rfl⟩; rintro _ _ ⟨rfl, rfl⟩; rintro _ _ ⟨rfl, rfl⟩; rintro _ _ ⟨rfl, rfl⟩; rintro _ _ ⟨rfl, rfl⟩; rintro _ _ ⟨rfl, rfl⟩; rintro _ _ ⟨rfl, rfl⟩; rintro _ _ ⟨rfl, rfl⟩; rintro _ _ ⟨rfl, rfl⟩; rintro _ _ ⟨rfl, rfl⟩; rintro _ _ ⟨rfl, rfl⟩; rintro _ _ ⟨rfl, rfl⟩; rintro _ _ ⟨rfl, rfl⟩
      exact backI ((2 * r + 1), (zs.set (f + r) y1).set (f + (2 * r + 1)) x) (by show hi - (2 * r + 1) < hi - r; omega) ⟨by show lo ≤ (2 * r + 1); omega, by show (2 * r + 1) ≤ hi; omega, hP.trans (PermR.swap hx hy1 (by omega) (by omega) (by omega) (by omega)), hH.swap hr (by omega) (by omega) hx hy1 (by omega) hmax⟩ ⟨rfl, rfl, rfl, rfl, rfl, trivial⟩ (.refl _)

/-- One less, also of none. -/
def pm1 : Nat → Int
  | 0 => -1
  | k + 1 => (k : Int)
theorem pm1_eq (k : Nat) : pm1 k = (k : Int) - 1 := by cases k <;> simp [pm1] <;> omega
/-- All is in order with what stands from k on. -/
def SufO (a b k : Nat) (zs : List Cl) : Prop := ∀ s t x y, a ≤ s → s < t → t < b → a + k ≤ t → zs[s]? = some x → zs[t]? = some y → x.bg ≤ y.bg
theorem heap_spec (g n cap a b : Nat) (xs : List Cl) (hn : xs.length = n) (hn2 : n ≤ 1000000) (hb : b ≤ n) (hab : a < b) (w : World) (S : FP) (hS : Sep [own (some ⟨g, 0, none⟩) cap 41 9 encCl xs] w S) (hd : ∀ b, S b → b < w.heap.size) :
    Trip Tryd.prog 54 #[.slice (some ⟨g, 0, none⟩) n cap, .int .i64 a, .int .i64 b, .func (.func 39) #[] #[]] w S fun v L => ∃ zs, v = .tuple #[] ∧ PermR a b xs zs ∧ SrtI a b zs ∧ L = [own (some ⟨g, 0, none⟩) cap 41 9 encCl zs] := by
  refine Trip.of_x (L := [own (some ⟨g, 0, none⟩) cap 41 9 encCl xs]) Tryd.func54 (by kernel_rfl) rfl Tryd.ntmps54 Tryd.results54 rfl (ctx_ok _) hS hd ?_
  have hsub : ∀ k : Nat, k ≤ n → pm1 k = IntKind.i64.wrap (pm1 (k + 1) - 1) := fun k hk => by
    rw [pm1_eq, pm1_eq, show (((k + 1 : Nat) : Int) - 1 - 1) = (k : Int) - 1 by omega]
    exact wrap_i64 (by omega) (by omega)
  have hhi : a + (b - a) = b := by omega
  refine ⟨((b - a : Nat) : Int), by rw [show ((b : Int) - a) = ((b - a : Nat) : Int) by omega]; exact wrap_i64 (by omega) (by omega), ?_⟩
  refine ⟨((b - a - 1 : Nat) : Int), by rw [show (((b - a : Nat) : Int) - 1) = ((b - a - 1 : Nat) : Int) by omega]; exact wrap_i64 (by omega) (by omega), ?_⟩
  refine ⟨by decide, (((b - a - 1) / 2 : Nat) : Int), by rw [show (((b - a - 1 : Nat)) : Int).tdiv 2 = (((b - a - 1) / 2 : Nat) : Int) from rfl]; exact wrap_i64 (by omega) (by omega), ?_⟩
  refine loopI (σ := Nat × List Cl) (fun s => [(0, .slice (some ⟨g, 0, none⟩) n cap), (3, .func (.func 39) #[] #[]), (8, .int .i64 a), (9, .int .i64 0), (10, .int .i64 ((b - a : Nat) : Int)), (11, .int .i64 (pm1 s.1))]) (fun s => [own (some ⟨g, 0, none⟩) cap 41 9 encCl s.2]) (fun s => s.1 ≤ b - a ∧ PermR a b xs s.2 ∧ HeapO a s.1 (b - a) s.2) (fun s => s.1) ((b - a - 1) / 2 + 1, xs) ⟨rfl, rfl, rfl, rfl, rfl, rfl, trivial⟩ (.refl _) ⟨by show (b - a - 1) / 2 + 1 ≤ b - a; omega, PermR.refl _, fun p c x y h1 h2 h3 => by have h1 : (b - a - 1) / 2 + 1 ≤ p := h1; omega⟩ ?_
  rintro ⟨k, zs⟩ ⟨hk, hP, hH⟩
  have hk : k ≤ b - a := hk
  have hP : PermR a b xs zs := hP
  have hH : HeapO a k (b - a) zs := hH
  have hzl : zs.length = n := hP.len.trans hn
  refine ⟨fun h => ?_, fun h => ?_⟩
  · have h0 : 0 < k := by
      have h : pm1 k ≥ 0 := of_decide_eq_true h
      rw [pm1_eq] at h; omega
    obtain ⟨k, rfl⟩ : ∃ k', k = k' + 1 := ⟨k - 1, by omega⟩
    clear h
    refine callP [0] (fun w S hR hB hS hd => sift_spec g n cap k (b - a) a zs hzl hn2 (by omega) (by omega) ⟨fun p c x y h1 h2 h3 h4 => hH p c x y (by omega) h2 h3, fun q c x y h1 h2 h3 => by omega⟩ w S hS hd) ?_
    rintro _ _ ⟨us, rfl, hPu, hHu, rfl⟩
    refine ⟨_, hsub k (by omega), ?_⟩
    exact backI (k, us) (by show k < k + 1; omega) ⟨by show k ≤ b - a; omega, hP.trans (hPu.wide (by omega) (by omega)), hHu⟩ ⟨rfl, rfl, rfl, rfl, rfl, rfl, trivial⟩ (.refl _)
  have h0 : k = 0 := by
    have h : ¬ pm1 k ≥ 0 := of_decide_eq_false h
    rw [pm1_eq] at h; omega
  subst h0
  clear h hk
  refine ⟨((b - a - 1 : Nat) : Int), by rw [show (((b - a : Nat) : Int) - 1) = ((b - a - 1 : Nat) : Int) by omega]; exact wrap_i64 (by omega) (by omega), ?_⟩
  refine loopI (σ := Nat × List Cl) (fun s => [(0, .slice (some ⟨g, 0, none⟩) n cap), (3, .func (.func 39) #[] #[]), (8, .int .i64 a), (9, .int .i64 0), (12, .int .i64 (pm1 s.1))]) (fun s => [own (some ⟨g, 0, none⟩) cap 41 9 encCl s.2]) (fun s => s.1 ≤ b - a ∧ PermR a b xs s.2 ∧ HeapO a 0 s.1 s.2 ∧ SufO a b s.1 s.2) (fun s => s.1) (b - a - 1 + 1, zs) ⟨rfl, rfl, rfl, rfl, rfl, trivial⟩ (.refl _) ⟨by show b - a - 1 + 1 ≤ b - a; omega, hP, by show HeapO a 0 (b - a - 1 + 1) zs; rw [show b - a - 1 + 1 = b - a by omega]; exact hH, fun s t x y h1 h2 h3 h4 => by have h4 : a + (b - a - 1 + 1) ≤ t := h4; omega⟩ ?_
  rintro ⟨k, zs⟩ ⟨hk, hP, hH, hU⟩
  have hk : k ≤ b - a := hk
  have hP : PermR a b xs zs := hP
  have hH : HeapO a 0 k zs := hH
  have hU : SufO a b k zs := hU
  have hzl : zs.length = n := hP.len.trans hn
  refine ⟨fun h => ?_, fun h => ?_⟩
  · have h0 : 0 < k := by
      have h : pm1 k ≥ 0 := of_decide_eq_true h
      rw [pm1_eq] at h; omega
    obtain ⟨k, rfl⟩ : ∃ k', k = k' + 1 := ⟨k - 1, by omega⟩
    clear h
    obtain ⟨x, hx⟩ : ∃ x, zs[a]? = some x := ⟨zs[a]'(by omega), by simp [show a < zs.length by omega]⟩
    obtain ⟨y, hy⟩ : ∃ x, zs[a + k]? = some x := ⟨zs[a + k]'(by omega), by simp [show a + k < zs.length by omega]⟩
    have hm : ((a + k : Nat) : Int) = IntKind.i64.wrap ((a : Int) + (k : Int)) := by rw [← Int.natCast_add]; exact wrap_i64 (by omega) (by omega)
    have htop := hH.top (by omega) hx
    refine Or.inr (Or.inr (drawE sw20U sw20Q (sw20V g n cap a a k x y) [17, 19] [11, 15] [[own (some ⟨g, 0, none⟩) cap 41 9 encCl zs], [own (some ⟨g, 0, none⟩) cap 41 9 encCl (zs.set a y)], [own (some ⟨g, 0, none⟩) cap 41 9 encCl ((zs.set a y).set (a + k) x)]] rfl (by kernel_rfl) ?_ ?_))
    · refine ⟨?_, ?_, ?_, ?_, ?_, ?_, ?_, ?_, ?_, ?_, ?_, ?_, ?_, ?_, ?_, ?_, ?_, ?_, ?_, ?_, trivial⟩
      · exact rfl
      · exact rfl
      · exact rfl
      · exact rfl
      · exact rfl
      · rintro _ _ ⟨rfl, rfl⟩; rintro _ _ ⟨rfl, rfl⟩; exact ⟨_, hm, rfl⟩
      · exact rfl
      · exact rfl
      · exact rfl
      · rintro _ _ ⟨rfl, rfl⟩; rintro _ _ ⟨rfl, rfl⟩; exact ⟨_, hm, rfl⟩
      · rintro _ _ ⟨rfl, rfl⟩; rintro _ _ ⟨rfl, rfl⟩; rintro _ _ ⟨rfl, rfl⟩; rintro _ _ ⟨rfl, rfl⟩; exact ⟨(a + k), rfl, by omega, rfl⟩
      · rintro _ _ ⟨rfl, rfl⟩; rintro _ _ ⟨rfl, rfl⟩; rintro _ _ ⟨rfl, rfl⟩; rintro _ _ ⟨rfl, rfl⟩; rintro _ _ ⟨rfl, rfl⟩; exact ⟨_, ldOA 0 (a + k) rfl (fun _ _ => rfl) hy rfl rfl rfl (by omega), rfl⟩
      · exact rfl
      · exact rfl
      · rintro _ _ ⟨rfl, rfl⟩; rintro _ _ ⟨rfl, rfl⟩; exact ⟨a, rfl, by omega, rfl⟩
      · rintro _ _ ⟨rfl, rfl⟩; rintro _ _ ⟨rfl, rfl⟩; rintro _ _ ⟨rfl, rfl⟩; exact ⟨_, ldOA 0 (a) rfl (fun _ _ => rfl) hx rfl rfl rfl (by omega), rfl⟩
      · rintro _ _ ⟨rfl, rfl⟩; rintro _ _ ⟨rfl, rfl⟩; exact ⟨a, rfl, by omega, rfl⟩
      · rintro _ _ ⟨rfl, rfl⟩; rintro _ _ ⟨rfl, rfl⟩; rintro _ _ ⟨rfl, rfl⟩; rintro _ _ ⟨rfl, rfl⟩; rintro _ _ ⟨rfl, rfl⟩; rintro _ _ ⟨rfl, rfl⟩; rintro _ _ ⟨rfl, rfl⟩; rintro _ _ ⟨rfl, rfl⟩; rintro _ _ ⟨rfl, rfl⟩; exact stO 0 (a) y rfl (fun _ _ => rfl) rfl (by omega) rfl rfl rfl rfl (by omega) ⟨rfl, .refl _⟩
      · rintro _ _ ⟨rfl, rfl⟩; rintro _ _ ⟨rfl, rfl⟩; rintro _ _ ⟨rfl, rfl⟩; rintro _ _ ⟨rfl, rfl⟩; exact ⟨(a + k), rfl, by omega, rfl⟩
      · rintro _ _ ⟨rfl, rfl⟩; rintro _ _ ⟨rfl, rfl⟩; rintro _ _ ⟨rfl, rfl⟩; rintro _ _ ⟨rfl, rfl⟩; rintro _ _ ⟨rfl, rfl⟩; rintro _ _ ⟨rfl, rfl⟩; rintro _ _ ⟨rfl, rfl⟩; rintro _ _ ⟨rfl, rfl⟩; rintro _ _ ⟨rfl, rfl⟩; exact stO 0 (a + k) x rfl (fun _ _ => rfl) rfl (by simp; omega) rfl rfl rfl rfl (by omega) ⟨rfl, .refl _⟩
    rintro _ _ ⟨rfl, rfl⟩; rintro _ _ ⟨rfl, rfl⟩; rintro _ _ ⟨rfl, rfl⟩; rintro _ _ ⟨rfl, rfl⟩; rintro _ _ ⟨rfl, rfl⟩; rintro _ _ ⟨rfl, rfl⟩; rintro _ _ ⟨rfl, rfl⟩; rintro _ _ ⟨rfl, rfl⟩; rintro _ _ ⟨rfl, rfl⟩; rintro _ _ ⟨rfl, rfl⟩; rintro _ _ ⟨rfl, rfl⟩; rintro _ _ ⟨rfl, rfl⟩; rintro _ _ ⟨rfl, rfl⟩; rintro _ _ ⟨rfl, rfl⟩; rintro _ _ ⟨rfl, rfl⟩; rintro _ _ ⟨rfl, rfl⟩; rintro _ _ ⟨rfl, rfl⟩; rintro _ _ ⟨rfl, rfl⟩; rintro _ _ ⟨rfl, rfl⟩; rintro _ _ ⟨rfl, rfl⟩
    have hP1 : PermR a (a + (k + 1)) zs ((zs.set a y).set (a + k) x) := PermR.swap hx hy (by omega) (by omega) (by omega) (by omega)
    have hX1 : HeapX a 0 k 0 ((zs.set a y).set (a + k) x) := ⟨fun p c u v h1 h2 h3 h4 hu hv => by
      rw [sw_get hx hy, if_neg (by omega), if_neg (by omega)] at hu hv
      exact hH p c u v h1 h2 (by omega) hu hv, fun q c u v h1 h2 => by omega⟩
    have hg1 : ((zs.set a y).set (a + k) x)[a + k]? = some x := by rw [sw_get hx hy, if_pos rfl]
    generalize ((zs.set a y).set (a + k) x) = ys at hP1 hX1 hg1 ⊢
    refine callP [0] (fun w S hR hB hS hd => sift_spec g n cap 0 k a ys (hP1.len.trans hzl) hn2 (by omega) (by omega) hX1 w S hS hd) ?_
    rintro _ _ ⟨us, rfl, hPu, hHu, rfl⟩
    have hP2 : PermR a (a + (k + 1)) zs us := hP1.trans (hPu.wide (by omega) (by omega))
    refine ⟨_, hsub k (by omega), ?_⟩
    exact backI (k, us) (by show k < k + 1; omega) ⟨by show k ≤ b - a; omega, hP.trans (hP2.wide (by omega) (by omega)), hHu, fun s t u v h1 h2 h3 h4 hu hv => by
      have h4 : a + k ≤ t := h4
      by_cases e : t = a + k
      · subst e
        rw [hPu.2 _ (.inr (by omega)), hg1] at hv; cases hv
        obtain ⟨s', k1, k2, k3⟩ := hP2.from (t := s) h1 (by omega) hu
        obtain ⟨c, rfl⟩ : ∃ c, s' = a + c := ⟨s' - a, by omega⟩
        exact htop c u (by omega) k3
      · rw [hP2.2 t (.inr (by omega))] at hv
        rcases Nat.lt_or_ge s (a + (k + 1)) with h | h
        · obtain ⟨s', k1, k2, k3⟩ := hP2.from (t := s) h1 h hu
          exact hU s' t u v k1 (by omega) h3 (by omega) k3 hv
        · rw [hP2.2 s (.inr h)] at hu
          exact hU s t u v h1 h2 h3 (by omega) hu hv⟩ ⟨rfl, rfl, rfl, rfl, rfl, trivial⟩ (.refl _)
  · have h0 : k = 0 := by
      have h : ¬ pm1 k ≥ 0 := of_decide_eq_false h
      rw [pm1_eq] at h; omega
    subst h0
    exact ⟨_, .refl _, zs, rfl, hP, fun s t u v h1 h2 h3 hu hv => hU s t u v h1 h2 h3 (by omega) hu hv, rfl⟩
end Go.Proofs.YtfebaopjfmpfkaaDoor
namespace Go.Proofs.YtfebaopjfmpfkaaDoor
open Go.X
set_option maxRecDepth 10000
set_option linter.unusedVariables false
set_option linter.unusedSimpArgs false

theorem index_str {C : Ctx} [hC : CtxOk C] {L : List Chunk} (hP : C.P = Tryd.prog) {s : ByteArray} {k : IntKind} {i : Nat} {b : UInt8} (h : s[i]? = some b) : RunsTo C L (Instr.index 9 (.string s) (.int k i)) (.int .u8 b.toNat) := fun w _ => by
  rw [hP]
  simp [Instr.index, asIntOf, run_underlying' Tryd.underlying9, h]

/-- How many bits x has, x < 128. -/
def bitsL (x : Nat) : Nat := if x = 0 then 0 else if x < 2 then 1 else if x < 4 then 2 else if x < 8 then 3 else if x < 16 then 4 else if x < 32 then 5 else if x < 64 then 6 else 7
theorem bitsL_le (x : Nat) : bitsL x ≤ 7 := by
  unfold bitsL
  by_cases h0 : x = 0
  · simp [h0]
  by_cases h1 : x < 2
  · simp [h0, h1]
  by_cases h2 : x < 4
  · simp [h0, h1, h2]
  by_cases h3 : x < 8
  · simp [h0, h1, h2, h3]
  by_cases h4 : x < 16
  · simp [h0, h1, h2, h3, h4]
  by_cases h5 : x < 32
  · simp [h0, h1, h2, h3, h4, h5]
  by_cases h6 : x < 64
  · simp [h0, h1, h2, h3, h4, h5, h6]
  · simp [h0, h1, h2, h3, h4, h5, h6]
theorem bitsL_pow : ∀ x, x < 128 → 0 < x → 2 ^ bitsL x ≤ 2 * x ∧ x < 2 ^ bitsL x := by decide +kernel
theorem wrap_u8 {x : Nat} (h : x < 256) : (x : Int) = IntKind.u8.wrap (x : Int) := by rw [IntKind.wrap_u8]; omega
theorem len64_spec (x : Nat) (hx : x < 128) (w : World) (S : FP) (hd : ∀ b, S b → b < w.heap.size) :
    Trip Tryd.prog 62 #[.int .u64 x] w S fun v L => v = .int .i64 (bitsL x) ∧ L = [] := by
  refine Trip.of_x (L := []) Tryd.func62 (by kernel_rfl) rfl Tryd.ntmps62 Tryd.results62 rfl (ctx_ok _) trivial hd ?_
  refine ⟨fun h => absurd (of_decide_eq_true h) (by omega), fun _ => ?_⟩
  refine ⟨fun h => absurd (of_decide_eq_true h) (by omega), fun _ => ?_⟩
  refine ⟨fun h => absurd (of_decide_eq_true h) (by omega), fun _ => ?_⟩
  have hb : (bitsL x).toUInt8.toNat = bitsL x := by
    have := bitsL_le x
    simp [Nat.toUInt8]; omega
  refine ⟨(x : Int), wrap_u8 (by omega), ?_⟩
  refine ⟨_, index_str (b := (bitsL x).toUInt8) rfl ?_, ?_⟩
  · clear hb
    rename_i h1 h2 h3
    clear h1 h2 h3
    revert x
    decide +kernel
  have h7 := bitsL_le x
  refine ⟨(bitsL x : Int), by rw [hb]; exact wrap_i64 (by omega) (by omega), ?_⟩
  refine ⟨(bitsL x : Int), by rw [show ((0 : Int) + (bitsL x : Int)) = (bitsL x : Int) by omega]; exact wrap_i64 (by omega) (by omega), ?_⟩
  exact ⟨_, .refl _, rfl, rfl⟩

theorem len_spec (x : Nat) (hx : x < 128) (w : World) (S : FP) (hd : ∀ b, S b → b < w.heap.size) :
    Trip Tryd.prog 49 #[.int .u64 x] w S fun v L => v = .int .i64 (bitsL x) ∧ L = [] := by
  refine Trip.of_x (L := []) Tryd.func49 (by kernel_rfl) rfl Tryd.ntmps49 Tryd.results49 rfl (ctx_ok _) trivial hd ?_
  refine ⟨nofun, fun _ => ?_⟩
  refine callP [] (fun w S hR hB hS hd => len64_spec x hx w S hd) ?_
  rintro _ _ ⟨rfl, rfl⟩
  exact ⟨_, .refl _, rfl, rfl⟩

theorem pow2_spec (x : Nat) (hx : x < 128) (h0 : 0 < x) (w : World) (S : FP) (hd : ∀ b, S b → b < w.heap.size) :
    Trip Tryd.prog 71 #[.int .i64 x] w S fun v L => v = .int .u64 ((2 ^ bitsL x : Nat) : Int) ∧ L = [] := by
  refine Trip.of_x (L := []) Tryd.func71 (by kernel_rfl) rfl Tryd.ntmps71 Tryd.results71 rfl (ctx_ok _) trivial hd ?_
  have h7 := bitsL_le x
  have hp : 2 ^ bitsL x ≤ 2 ^ 7 := Nat.pow_le_pow_right (by omega) h7
  refine ⟨(x : Int), (wrap_u64 (by omega)).symm, ?_⟩
  refine callP [] (fun w S hR hB hS hd => len_spec x hx w S hd) ?_
  rintro _ _ ⟨rfl, rfl⟩
  refine ⟨by omega, ((2 ^ bitsL x : Nat) : Int), ?_, ?_⟩
  · show _ = IntKind.u64.wrap ((1 : Int) * 2 ^ min (bitsL x) 64)
    rw [Nat.min_eq_left (by omega), Int.one_mul, show ((2 : Int) ^ bitsL x) = ((2 ^ bitsL x : Nat) : Int) by simp]
    exact (wrap_u64 (by omega)).symm
  exact ⟨_, .refl _, rfl, rfl⟩

/-- The next one of the numbers that look like chance: some number. -/
theorem next_spec (sw : Nat) (c : Int) (w : World) (S : FP) (hS : Sep [pt sw [.int .u64 c] 122] w S) (hd : ∀ b, S b → b < w.heap.size) :
    Trip Tryd.prog 72 #[.pointer (some ⟨sw, 0, none⟩)] w S fun v L => ∃ c', v = .int .u64 c' ∧ L = [pt sw [.int .u64 c'] 122] := by
  refine Trip.of_x (L := [pt sw [.int .u64 c] 122]) Tryd.func72 (by kernel_rfl) rfl Tryd.ntmps72 Tryd.results72 rfl (ctx_ok _) hS hd ?_
  refine Or.inr (Or.inl ⟨⟨by kernel_rfl, by kernel_rfl, rfl⟩, ?_⟩)
  refine ⟨_, ld 0 rfl rfl rfl, ?_⟩
  refine ⟨_, ld 0 rfl rfl rfl, ?_⟩
  refine ⟨by decide, _, rfl, ?_⟩
  refine ⟨_, rfl, ?_⟩
  refine st 0 rfl rfl rfl rfl rfl ?_
  refine Or.inr (Or.inl ⟨⟨by kernel_rfl, by kernel_rfl, rfl⟩, ?_⟩)
  refine ⟨_, ld 0 rfl rfl rfl, ?_⟩
  refine ⟨_, ld 0 rfl rfl rfl, ?_⟩
  refine ⟨by decide, _, rfl, ?_⟩
  refine ⟨_, rfl, ?_⟩
  refine st 0 rfl rfl rfl rfl rfl ?_
  refine Or.inr (Or.inl ⟨⟨by kernel_rfl, by kernel_rfl, rfl⟩, ?_⟩)
  refine ⟨_, ld 0 rfl rfl rfl, ?_⟩
  refine ⟨_, ld 0 rfl rfl rfl, ?_⟩
  refine ⟨by decide, _, rfl, ?_⟩
  refine ⟨_, rfl, ?_⟩
  refine st 0 rfl rfl rfl rfl rfl ?_
  refine ⟨_, ld 0 rfl rfl rfl, ?_⟩
  exact ⟨_, .refl _, _, rfl, rfl⟩

theorem and_le (c : Int) (m : Nat) (hm : m < 2 ^ 64) : ∃ r : Nat, r ≤ m ∧ IntKind.u64.wrap (BitVec.ofInt IntKind.u64.bits c &&& BitVec.ofInt IntKind.u64.bits (m : Int)).toNat = (r : Int) := by
  refine ⟨(BitVec.ofInt 64 c &&& BitVec.ofInt 64 (m : Int)).toNat, ?_, wrap_u64 (BitVec.isLt _)⟩
  rw [BitVec.toNat_and]
  refine Nat.le_trans Nat.and_le_right ?_
  simp only [BitVec.toNat_ofInt]
  omega

theorem break_spec (f : Value) (g n cap a b : Nat) (xs : List Cl) (hn : xs.length = n) (hn2 : n < 128) (hb : b ≤ n) (hab : a + 8 ≤ b) (w : World) (S : FP) (hS : Sep [own (some ⟨g, 0, none⟩) cap 41 9 encCl xs] w S) (hd : ∀ b, S b → b < w.heap.size) :
    Trip Tryd.prog 55 #[.slice (some ⟨g, 0, none⟩) n cap, .int .i64 a, .int .i64 b, f] w S fun v L => ∃ zs, v = .tuple #[] ∧ PermR a b xs zs ∧ L = [own (some ⟨g, 0, none⟩) cap 41 9 encCl zs] := by
  refine Trip.of_x (L := [own (some ⟨g, 0, none⟩) cap 41 9 encCl xs]) Tryd.func55 (by kernel_rfl) rfl Tryd.ntmps55 Tryd.results55 rfl (ctx_ok _) hS hd ?_
  refine ⟨((b - a : Nat) : Int), by rw [show ((b : Int) - a) = ((b - a : Nat) : Int) by omega]; exact wrap_i64 (by omega) (by omega), ?_⟩
  refine ⟨fun _ => ?_, fun h => absurd (of_decide_eq_false h) (by omega)⟩
  generalize hl : b - a = l
  have hl8 : 8 ≤ l ∧ l < 128 := by omega
  refine ⟨(l : Int), (wrap_u64 (by omega)).symm, ?_⟩
  intro sw
  refine st 0 rfl rfl rfl rfl rfl ?_
  refine callP [] (fun w S hR hB hS hd => pow2_spec l (by omega) (by omega) w S hd) ?_
  rintro _ _ ⟨rfl, rfl⟩
  obtain ⟨p1, p2⟩ := bitsL_pow l (by omega) (by omega)
  have h7 := bitsL_le l
  generalize 2 ^ bitsL l = md at p1 p2 ⊢
  have q4 : ((l / 4 : Nat) : Int) = IntKind.i64.wrap ((l : Int).tdiv 4) := by
    rw [show (l : Int).tdiv 4 = ((l / 4 : Nat) : Int) from rfl]
    exact wrap_i64 (by omega) (by omega)
  have m2 : ((l / 4 * 2 : Nat) : Int) = IntKind.i64.wrap (((l / 4 : Nat) : Int) * 2) := by
    rw [show (((l / 4 : Nat) : Int) * 2) = ((l / 4 * 2 : Nat) : Int) by omega]
    exact wrap_i64 (by omega) (by omega)
  have a2 : ((a + l / 4 * 2 : Nat) : Int) = IntKind.i64.wrap ((a : Int) + ((l / 4 * 2 : Nat) : Int)) := by
    rw [show ((a : Int) + ((l / 4 * 2 : Nat) : Int)) = ((a + l / 4 * 2 : Nat) : Int) by omega]
    exact wrap_i64 (by omega) (by omega)
  refine ⟨by decide, _, q4, ?_⟩
  refine ⟨_, m2, ?_⟩
  refine ⟨_, a2, ?_⟩
  refine ⟨((a + l / 4 * 2 - 1 : Nat) : Int), by rw [show (((a + l / 4 * 2 : Nat) : Int) - 1) = ((a + l / 4 * 2 - 1 : Nat) : Int) by omega]; exact wrap_i64 (by omega) (by omega), ?_⟩
  refine loopI (σ := Nat × Int × List Cl) (fun s => [(0, .slice (some ⟨g, 0, none⟩) n cap), (1, .int .i64 a), (8, .int .i64 l), (9, .pointer (some ⟨sw, 0, none⟩)), (10, .int .u64 md), (11, .int .i64 s.1)]) (fun s => [pt sw [.int .u64 s.2.1] 122, own (some ⟨g, 0, none⟩) cap 41 9 encCl s.2.2]) (fun s => a + l / 4 * 2 - 1 ≤ s.1 ∧ s.1 ≤ a + l / 4 * 2 + 2 ∧ PermR a b xs s.2.2) (fun s => a + l / 4 * 2 + 2 - s.1) (a + l / 4 * 2 - 1, l, xs) ⟨rfl, rfl, rfl, rfl, rfl, rfl, trivial⟩ (.refl _) ⟨Nat.le_refl _, by show a + l / 4 * 2 - 1 ≤ a + l / 4 * 2 + 2; omega, PermR.refl _⟩ ?_
  rintro ⟨i, c, zs⟩ ⟨h1, h2, hP⟩
  have h1 : a + l / 4 * 2 - 1 ≤ i := h1
  have h2 : i ≤ a + l / 4 * 2 + 2 := h2
  have hP : PermR a b xs zs := hP
  have hzl : zs.length = n := hP.len.trans hn
  refine ⟨by decide, _, q4, ?_⟩
  refine ⟨_, m2, ?_⟩
  refine ⟨_, a2, ?_⟩
  refine ⟨((a + l / 4 * 2 + 1 : Nat) : Int), by rw [show (((a + l / 4 * 2 : Nat) : Int) + 1) = ((a + l / 4 * 2 + 1 : Nat) : Int) by omega]; exact wrap_i64 (by omega) (by omega), ?_⟩
  refine ⟨fun h => ?_, fun h => ?_⟩
  · have hi : i ≤ a + l / 4 * 2 + 1 := by have := of_decide_eq_true h; simp at this; omega
    clear h
    refine callP [0] (fun w S hR hB hS hd => next_spec sw c w S hS hd) ?_
    rintro _ _ ⟨c2, rfl, rfl⟩
    refine ⟨((md - 1 : Nat) : Int), by rw [show ((md : Int) - 1) = ((md - 1 : Nat) : Int) by omega]; exact (wrap_u64 (by omega)).symm, ?_⟩
    obtain ⟨r, hr, he⟩ := and_le c2 (md - 1) (by omega)
    refine ⟨(r : Int), he.symm, ?_⟩
    clear he
    refine ⟨(r : Int), wrap_i64 (by omega) (by omega), ?_⟩
    refine ⟨fun h => ?_, fun h => ?_⟩
    · have hrl : l ≤ r := by have := of_decide_eq_true h; omega
      clear h
      refine ⟨((r - l : Nat) : Int), by rw [show ((r : Int) - l) = ((r - l : Nat) : Int) by omega]; exact wrap_i64 (by omega) (by omega), ?_⟩
      have hm : ((a + (r - l) : Nat) : Int) = IntKind.i64.wrap ((a : Int) + ((r - l) : Nat)) := by rw [← Int.natCast_add]; exact wrap_i64 (by omega) (by omega)
      obtain ⟨x, hx⟩ : ∃ x, zs[i]? = some x := ⟨zs[i]'(by omega), by simp [show i < zs.length by omega]⟩
      obtain ⟨y, hy⟩ : ∃ x, zs[a + (r - l)]? = some x := ⟨zs[a + (r - l)]'(by omega), by simp [show a + (r - l) < zs.length by omega]⟩
      refine Or.inr (Or.inr (drawE sw20U sw20Q (sw20V g n cap i a (r - l) x y) [17, 19] [11, 15] [[pt sw [.int .u64 c2] 122, own (some ⟨g, 0, none⟩) cap 41 9 encCl zs], [pt sw [.int .u64 c2] 122, own (some ⟨g, 0, none⟩) cap 41 9 encCl (zs.set i y)], [pt sw [.int .u64 c2] 122, own (some ⟨g, 0, none⟩) cap 41 9 encCl ((zs.set i y).set (a + (r - l)) x)]] rfl (by kernel_rfl) ?_ ?_))
      · refine ⟨?_, ?_, ?_, ?_, ?_, ?_, ?_, ?_, ?_, ?_, ?_, ?_, ?_, ?_, ?_, ?_, ?_, ?_, ?_, ?_, trivial⟩
        · exact rfl
        · exact rfl
        · exact rfl
        · exact rfl
        · exact rfl
        · rintro _ _ ⟨rfl, rfl⟩; rintro _ _ ⟨rfl, rfl⟩; exact ⟨_, hm, rfl⟩
        · exact rfl
        · exact rfl
        · exact rfl
        · rintro _ _ ⟨rfl, rfl⟩; rintro _ _ ⟨rfl, rfl⟩; exact ⟨_, hm, rfl⟩
        · rintro _ _ ⟨rfl, rfl⟩; rintro _ _ ⟨rfl, rfl⟩; rintro _ _ ⟨rfl, rfl⟩; rintro _ _ ⟨rfl, rfl⟩; exact ⟨(a + (r - l)), rfl, by omega, rfl⟩
        · rintro _ _ ⟨rfl, rfl⟩; rintro _ _ ⟨rfl, rfl⟩; rintro _ _ ⟨rfl, rfl⟩; rintro _ _ ⟨rfl, rfl⟩; rintro _ _ ⟨rfl, rfl⟩; exact ⟨_, ldOA 1 (a + (r - l)) rfl (fun _ _ => rfl) hy rfl rfl rfl (by omega), rfl⟩
        · exact rfl
        · exact rfl
        · rintro _ _ ⟨rfl, rfl⟩; rintro _ _ ⟨rfl, rfl⟩; exact ⟨i, rfl, by omega, rfl⟩
        · rintro _ _ ⟨rfl, rfl⟩; rintro _ _ ⟨rfl, rfl⟩; rintro _ _ ⟨rfl, rfl⟩; exact ⟨_, ldOA 1 (i) rfl (fun _ _ => rfl) hx rfl rfl rfl (by omega), rfl⟩
        · rintro _ _ ⟨rfl, rfl⟩; rintro _ _ ⟨rfl, rfl⟩; exact ⟨i, rfl, by omega, rfl⟩
        · rintro _ _ ⟨rfl, rfl⟩; rintro _ _ ⟨rfl, rfl⟩; rintro _ _ ⟨rfl, rfl⟩; rintro _ _ ⟨rfl, rfl⟩; rintro _ _ ⟨rfl, rfl⟩; rintro _ _ ⟨rfl, rfl⟩; rintro _ _ ⟨rfl, rfl⟩; rintro _ _ ⟨rfl, rfl⟩; rintro _ _ ⟨rfl, rfl⟩; exact stO 1 (i) y rfl (fun _ _ => rfl) rfl (by omega) rfl rfl rfl rfl (by omega) ⟨rfl, .refl _⟩
        · rintro _ _ ⟨rfl, rfl⟩; rintro _ _ ⟨rfl, rfl⟩; rintro _ _ ⟨rfl, rfl⟩; rintro _ _ ⟨rfl, rfl⟩; exact ⟨(a + (r - l)), rfl, by omega, rfl⟩
        · rintro _ _ ⟨rfl, rfl⟩; rintro _ _ ⟨rfl, rfl⟩; rintro _ _ ⟨rfl, rfl⟩; rintro _ _ ⟨rfl, rfl⟩; rintro _ _ ⟨rfl, rfl⟩; rintro _ _ ⟨rfl, rfl⟩; rintro _ _ ⟨rfl, rfl⟩; rintro _ _ ⟨rfl, rfl⟩; rintro _ _ ⟨rfl, rfl⟩; exact stO 1 (a + (r - l)) x rfl (fun _ _ => rfl) rfl (by simp; omega) rfl rfl rfl rfl (by omega) ⟨rfl, .refl _⟩
      rintro _ _ ⟨rfl, rfl⟩; rintro _ _ ⟨rfl, rfl⟩; rintro _ _ ⟨rfl, rfl⟩; rintro _ _ ⟨rfl, rfl⟩; rintro _ _ ⟨rfl, rfl⟩; rintro _ _ ⟨rfl, rfl⟩; rintro _ _ ⟨rfl, rfl⟩; rintro _ _ ⟨rfl, rfl⟩; rintro _ _ ⟨rfl, rfl⟩; rintro _ _ ⟨rfl, rfl⟩; rintro _ _ ⟨rfl, rfl⟩; rintro _ _ ⟨rfl, rfl⟩; rintro _ _ ⟨rfl, rfl⟩; rintro _ _ ⟨rfl, rfl⟩; rintro _ _ ⟨rfl, rfl⟩; rintro _ _ ⟨rfl, rfl⟩; rintro _ _ ⟨rfl, rfl⟩; rintro _ _ ⟨rfl, rfl⟩; rintro _ _ ⟨rfl, rfl⟩; rintro _ _ ⟨rfl, rfl⟩
      refine ⟨((i + 1 : Nat) : Int), by rw [show ((i : Int) + 1) = ((i + 1 : Nat) : Int) by omega]; exact wrap_i64 (by omega) (by omega), ?_⟩
      exact backI (i + 1, c2, (zs.set i y).set (a + (r - l)) x) (by show a + l / 4 * 2 + 2 - (i + 1) < a + l / 4 * 2 + 2 - i; omega) ⟨by show a + l / 4 * 2 - 1 ≤ i + 1; omega, by show i + 1 ≤ a + l / 4 * 2 + 2; omega, hP.trans (PermR.swap hx hy (by omega) (by omega) (by omega) (by omega))⟩ ⟨rfl, rfl, rfl, rfl, rfl, rfl, trivial⟩ (.refl _)
    · have hrl : r < l := by have := of_decide_eq_false h; omega
      clear h
      have hm : ((a + r : Nat) : Int) = IntKind.i64.wrap ((a : Int) + (r : Nat)) := by rw [← Int.natCast_add]; exact wrap_i64 (by omega) (by omega)
      obtain ⟨x, hx⟩ : ∃ x, zs[i]? = some x := ⟨zs[i]'(by omega), by simp [show i < zs.length by omega]⟩
      obtain ⟨y, hy⟩ : ∃ x, zs[a + r]? = some x := ⟨zs[a + r]'(by omega), by simp [show a + r < zs.length by omega]⟩
      refine Or.inr (Or.inr (drawE sw20U sw20Q (sw20V g n cap i a r x y) [17, 19] [11, 15] [[pt sw [.int .u64 c2] 122, own (some ⟨g, 0, none⟩) cap 41 9 encCl zs], [pt sw [.int .u64 c2] 122, own (some ⟨g, 0, none⟩) cap 41 9 encCl (zs.set i y)], [pt sw [.int .u64 c2] 122, own (some ⟨g, 0, none⟩) cap 41 9 encCl ((zs.set i y).set (a + r) x)]] rfl (by kernel_rfl) ?_ ?_))
      · refine ⟨?_, ?_, ?_, ?_, ?_, ?_, ?_, ?_, ?_, ?_, ?_, ?_, ?_, ?_, ?_, ?_, ?_, ?_, ?_, ?_, trivial⟩
        · exact rfl
        · exact rfl
        · exact rfl
        · exact rfl
        · exact rfl
        · rintro _ _ ⟨rfl, rfl⟩; rintro _ _ ⟨rfl, rfl⟩; exact ⟨_, hm, rfl⟩
        · exact rfl
        · exact rfl
        · exact rfl
        · rintro _ _ ⟨rfl, rfl⟩; rintro _ _ ⟨rfl, rfl⟩; exact ⟨_, hm, rfl⟩
        · rintro _ _ ⟨rfl, rfl⟩; rintro _ _ ⟨rfl, rfl⟩; rintro _ _ ⟨rfl, rfl⟩; rintro _ _ ⟨rfl, rfl⟩; exact ⟨(a + r), rfl, by omega, rfl⟩
        · rintro _ _ ⟨rfl, rfl⟩; rintro _ _ ⟨rfl, rfl⟩; rintro _ _ ⟨rfl, rfl⟩; rintro _ _ ⟨rfl, rfl⟩; rintro _ _ ⟨rfl, rfl⟩; exact ⟨_, ldOA 1 (a + r) rfl (fun _ _ => rfl) hy rfl rfl rfl (by omega), rfl⟩
        · exact rfl
        · exact rfl
        · rintro _ _ ⟨rfl, rfl⟩; rintro _ _ ⟨rfl, rfl⟩; exact ⟨i, rfl, by omega, rfl⟩
        · rintro _ _ ⟨rfl, rfl⟩; rintro _ _ ⟨rfl, rfl⟩; rintro _ _ ⟨rfl, rfl⟩; exact ⟨_, ldOA 1 (i) rfl (fun _ _ => rfl) hx rfl rfl rfl (by omega), rfl⟩
        · rintro _ _ ⟨rfl, rfl⟩; rintro _ _ ⟨rfl, rfl⟩; exact ⟨i, rfl, by omega, rfl⟩
        · rintro _ _ ⟨rfl, rfl⟩; rintro _ _ ⟨rfl, rfl⟩; rintro _ _ ⟨rfl, rfl⟩; rintro _ _ ⟨rfl, rfl⟩; rintro _ _ ⟨rfl, rfl⟩; rintro _ _ ⟨rfl, rfl⟩; rintro _ _ ⟨rfl, rfl⟩; rintro _ _ ⟨rfl, rfl⟩; rintro _ _ ⟨rfl, rfl⟩; exact stO 1 (i) y rfl (fun _ _ => rfl) rfl (by omega) rfl rfl rfl rfl (by omega) ⟨rfl, .refl _⟩
        · rintro _ _ ⟨rfl, rfl⟩; rintro _ _ ⟨rfl, rfl⟩; rintro _ _ ⟨rfl, rfl⟩; rintro _ _ ⟨rfl, rfl⟩; exact ⟨(a + r), rfl, by omega, rfl⟩
        · rintro _ _ ⟨rfl, rfl⟩; rintro _ _ ⟨rfl, rfl⟩; rintro _ _ ⟨rfl, rfl⟩; rintro _ _ ⟨rfl, rfl⟩; rintro _ _ ⟨rfl, rfl⟩; rintro _ _ ⟨rfl, rfl⟩; rintro _ _ ⟨rfl, rfl⟩; rintro _ _ ⟨rfl, rfl⟩; rintro _ _ ⟨rfl, rfl⟩; exact stO 1 (a + r) x rfl (fun _ _ => rfl) rfl (by simp; omega) rfl rfl rfl rfl (by omega) ⟨rfl, .refl _⟩
      rintro _ _ ⟨rfl, rfl⟩; rintro _ _ ⟨rfl, rfl⟩; rintro _ _ ⟨rfl, rfl⟩; rintro _ _ ⟨rfl, rfl⟩; rintro _ _ ⟨rfl, rfl⟩; rintro _ _ ⟨rfl, rfl⟩; rintro _ _ ⟨rfl, rfl⟩; rintro _ _ ⟨rfl, rfl⟩; rintro _ _ ⟨rfl, rfl⟩; rintro _ _ ⟨rfl, rfl⟩; rintro _ _ ⟨rfl, rfl⟩; rintro _ _ ⟨rfl, rfl⟩; rintro _ _ ⟨rfl, rfl⟩; rintro _ _ ⟨rfl, rfl⟩; rintro _ _ ⟨rfl, rfl⟩; rintro _ _ ⟨rfl, rfl⟩; rintro _ _ ⟨rfl, rfl⟩; rintro _ _ ⟨rfl, rfl⟩; rintro _ _ ⟨rfl, rfl⟩; rintro _ _ ⟨rfl, rfl⟩
      refine ⟨((i + 1 : Nat) : Int), by rw [show ((i : Int) + 1) = ((i + 1 : Nat) : Int) by omega]; exact wrap_i64 (by omega) (by omega), ?_⟩
      exact backI (i + 1, c2, (zs.set i y).set (a + r) x) (by show a + l / 4 * 2 + 2 - (i + 1) < a + l / 4 * 2 + 2 - i; omega) ⟨by show a + l / 4 * 2 - 1 ≤ i + 1; omega, by show i + 1 ≤ a + l / 4 * 2 + 2; omega, hP.trans (PermR.swap hx hy (by omega) (by omega) (by omega) (by omega))⟩ ⟨rfl, rfl, rfl, rfl, rfl, rfl, trivial⟩ (.refl _)
  · exact ⟨_, .pick [1], zs, rfl, hP, rfl⟩
end Go.Proofs.YtfebaopjfmpfkaaDoor
