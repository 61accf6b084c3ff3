/- Small functions that the laws on package linear lean on: equal lists of ints, the example's history, comparing, sorting a few. -/
import Derived.Test.YtfebaopjfmpfkaaDoorL7
import Derived.Test.YtfebaopjfmpfkaaDoorX18
namespace Go.Proofs.YtfebaopjfmpfkaaDoor
open Go.X
set_option maxRecDepth 10000
set_option linter.unusedVariables false
set_option linter.unusedSimpArgs false

theorem ints_spec (a b : Option Addr) (n m c d : Nat) (xs ys : List Int) (w : World) (S : FP) (hx : RO w S (roS a 1 encZ1 xs)) (hy : RO w S (roS b 1 encZ1 ys)) (hn : xs.length = n) (hm : ys.length = m) (hn2 : n ≤ 4611686018427387904) (hm2 : m ≤ 4611686018427387904) (hd : ∀ b, S b → b < w.heap.size) :
    Trip Tryd.prog 18 #[.slice a n c, .slice b m d] w S fun v L => v = .bool (decide (xs = ys)) ∧ L = [] := by
  refine Trip.of_x (L := []) Tryd.func18 (by kernel_rfl) rfl Tryd.ntmps18 Tryd.results18 rfl (ctx_ok _) trivial hd ?_
  refine ⟨fun h => ?_, fun h => ?_⟩
  · have h : (n : Int) ≠ m := of_decide_eq_true h
    exact ⟨_, .pick [], by rw [decide_eq_false fun he => h (by rw [← hn, ← hm, he])]; rfl, rfl⟩
  have h : n = m := by have : (n : Int) = m := by simpa using h
                       omega
  refine loopI (σ := Nat) (fun k => [(0, .slice a n c), (1, .slice b m d), (5, .int .i64 k)]) (fun _ => []) (fun k => k ≤ n ∧ ∀ i, i < k → xs[i]? = ys[i]?) (fun k => n - k) 0 ⟨rfl, rfl, rfl, trivial⟩ (.refl _) ⟨Nat.zero_le _, fun i hi => by omega⟩ ?_
  rintro k ⟨hk, hin⟩
  refine ⟨fun hlt => ?_, fun hge => ?_⟩
  · have hkn : k < n := by have := of_decide_eq_true hlt; omega
    obtain ⟨x, hxk⟩ : ∃ x, xs[k]? = some x := ⟨xs[k]'(by omega), by simp [show k < xs.length by omega]⟩
    obtain ⟨y, hyk⟩ : ∃ y, ys[k]? = some y := ⟨ys[k]'(by omega), by simp [show k < ys.length by omega]⟩
    obtain ⟨b1, o1, rfl⟩ := roS_at hx (by omega)
    obtain ⟨b2, o2, rfl⟩ := roS_at hy (by omega)
    refine Or.inl ⟨by kernel_rfl, ?_⟩
    refine ⟨k, rfl, hkn, ?_⟩
    refine ⟨_, ldR hx k 0 hxk rfl rfl (by show o1 + k = o1 + (k * 1 + 0); omega), ?_⟩
    refine ⟨k, rfl, by omega, ?_⟩
    refine ⟨_, ldR hy k 0 hyk rfl rfl (by show o2 + k = o2 + (k * 1 + 0); omega), ?_⟩
    refine ⟨fun hne => ?_, fun heq => ?_⟩
    · have hne : x ≠ y := of_decide_eq_true hne
      exact ⟨_, .pick [], by rw [decide_eq_false fun he => hne (by rw [he, hyk] at hxk; exact (Option.some.inj hxk).symm)]; rfl, rfl⟩
    · have heq : x = y := by simpa using heq
      refine ⟨_, wrap_i64 (by omega) (by omega), ?_⟩
      exact backI (k + 1) (by omega) ⟨hkn, fun i hi => by
        rcases Nat.lt_or_ge i k with h | h
        · exact hin i h
        · obtain rfl : i = k := by omega
          rw [hxk, hyk, heq]⟩ ⟨rfl, rfl, rfl, trivial⟩ (.pick [])
  · have hkn : k = n := by have := of_decide_eq_false hge; omega
    refine ⟨_, .pick [], ?_, rfl⟩
    rw [decide_eq_true (show xs = ys from ?_)]
    · rfl
    · apply List.ext_getElem?
      intro i
      rcases Nat.lt_or_ge i k with h | h
      · exact hin i h
      · rw [List.getElem?_eq_none (by omega), List.getElem?_eq_none (by omega)]

def exA : Cl := ⟨0, 0, 3, 0, 24, 8, 0, 4096, 0⟩
def exB (b : Int) : Cl := ⟨1, b, b + 1, 1, 0, 0, 4096, 0, 0⟩
theorem first24_spec (b : Int) (hb : 0 ≤ b ∧ b ≤ 1000) (w : World) (S : FP) (hd : ∀ b, S b → b < w.heap.size) :
    Trip Tryd.prog 24 #[.int .i64 b] w S fun v L => ∃ g, v = .slice (some ⟨g, 0, none⟩) 2 2 ∧ L = [pt g (encCl exA ++ encCl (exB b)) 41] := by
  refine Trip.of_x (L := []) Tryd.func24 (by kernel_rfl) rfl Tryd.ntmps24 Tryd.results24 rfl (ctx_ok _) trivial hd ?_
  repeat (refine ⟨rfl, Nat.le_of_ble_eq_true rfl, ?_⟩)
  refine ⟨b + 1, wrap_i64 (by omega) (by omega), ?_⟩
  repeat (refine ⟨rfl, Nat.le_of_ble_eq_true rfl, ?_⟩)
  refine bldS (encCl ⟨0, 0, 0, 0, 0, 0, 0, 0, 0⟩ ++ encCl ⟨0, 0, 0, 0, 0, 0, 0, 0, 0⟩) rfl rfl rfl rfl rfl (by kernel_rfl) rfl fun g => ?_
  exact ⟨_, .pick [0], g, rfl, rfl⟩

/-! ### comparing two calls by their ends -/
def cmpZ (x y : Int) : Int := if x < y then -1 else if x > y then 1 else 0
theorem cmpZ_lt {x y : Int} : cmpZ x y < 0 ↔ x < y := by
  unfold cmpZ
  by_cases h : x < y
  · simp [h]
  · rw [if_neg h]
    by_cases h2 : x > y
    · rw [if_pos h2]; omega
    · rw [if_neg h2]; omega
theorem nan_spec (x : Int) (w : World) (S : FP) (hd : ∀ b, S b → b < w.heap.size) : Trip Tryd.prog 46 #[.int .i64 x] w S fun v L => v = .bool false ∧ L = [] := by
  refine Trip.of_x (L := []) Tryd.func46 (by kernel_rfl) rfl Tryd.ntmps46 Tryd.results46 rfl (ctx_ok _) trivial hd ?_
  exact ⟨_, .pick [], by simp, rfl⟩
theorem cmp_spec (x y : Int) (w : World) (S : FP) (hd : ∀ b, S b → b < w.heap.size) : Trip Tryd.prog 32 #[.int .i64 x, .int .i64 y] w S fun v L => v = .int .i64 (cmpZ x y) ∧ L = [] := by
  refine Trip.of_x (L := []) Tryd.func32 (by kernel_rfl) rfl Tryd.ntmps32 Tryd.results32 rfl (ctx_ok _) trivial hd ?_
  refine callP [] (fun w S hR hB hS hd => nan_spec x w S hd) ?_
  rintro _ _ ⟨rfl, rfl⟩
  refine callP [] (fun w S hR hB hS hd => nan_spec y w S hd) ?_
  rintro _ _ ⟨rfl, rfl⟩
  refine ⟨nofun, fun _ => ?_⟩
  refine ⟨nofun, fun _ => ?_⟩
  refine ⟨fun h => ?_, fun h => ?_⟩
  · have h : x < y := of_decide_eq_true h
    exact ⟨_, .pick [], by unfold cmpZ; rw [if_pos h]; rfl, rfl⟩
  have h : ¬ x < y := of_decide_eq_false h
  refine ⟨fun h2 => ?_, fun h2 => ?_⟩
  · have h2 : x > y := of_decide_eq_true h2
    exact ⟨_, .pick [], by unfold cmpZ; rw [if_neg h, if_pos h2]; rfl, rfl⟩
  · have h2 : ¬ x > y := of_decide_eq_false h2
    exact ⟨_, .pick [], by unfold cmpZ; rw [if_neg h, if_neg h2]; rfl, rfl⟩
theorem cmpEnd_spec (a b : Cl) (w : World) (S : FP) (hd : ∀ b, S b → b < w.heap.size) : Trip Tryd.prog 31 #[.agg ⟨encCl a⟩, .agg ⟨encCl b⟩] w S fun v L => v = .int .i64 (cmpZ a.en b.en) ∧ L = [] := by
  refine Trip.of_x (L := []) Tryd.func31 (by kernel_rfl) rfl Tryd.ntmps31 Tryd.results31 rfl (ctx_ok _) trivial hd ?_
  intro ab
  intro bb
  refine ⟨_, ld 1 rfl rfl rfl, ?_⟩
  refine ⟨_, ld 0 rfl rfl rfl, ?_⟩
  refine callP [] (fun w S hR hB hS hd => cmp_spec a.en b.en w S hd) ?_
  rintro _ _ ⟨rfl, rfl⟩
  exact ⟨_, .pick [], rfl, rfl⟩

/-! ### sorting by insertion -/
/-- Places j and j + 1 are changed for one another. -/
def swp (xs : List Cl) (j : Nat) : List Cl := match xs[j]?, xs[j + 1]? with
  | some x, some y => (xs.set (j + 1) x).set j y
  | _, _ => xs
def sink (a : Nat) : Nat → List Cl → List Cl
  | 0, xs => xs
  | j + 1, xs => match xs[j]?, xs[j + 1]? with
    | some x, some y => if a < j + 1 ∧ y.en < x.en then sink a j (swp xs j) else xs
    | _, _ => xs
def isortFrom (a : Nat) : Nat → Nat → List Cl → List Cl
  | _, 0, xs => xs
  | i, n + 1, xs => isortFrom a (i + 1) n (sink a i xs)
theorem swp_len (xs : List Cl) (j : Nat) : (swp xs j).length = xs.length := by unfold swp; split <;> simp
theorem sink_len (a : Nat) : ∀ (j : Nat) (xs : List Cl), (sink a j xs).length = xs.length
  | 0, xs => rfl
  | j + 1, xs => by
    simp only [sink]
    split
    · split
      · rw [sink_len a j, swp_len]
      · rfl
    · rfl
theorem isortFrom_len (a : Nat) : ∀ (n i : Nat) (xs : List Cl), (isortFrom a i n xs).length = xs.length
  | 0, _, _ => rfl
  | n + 1, i, xs => by simp only [isortFrom]; rw [isortFrom_len a n, sink_len]

/-- What the operations of a swap need of one another, and what they leave. -/
def swpR (i : Nat) : List Nat := match i with
  | 4 => [3]
  | 7 => [6]
  | 8 => [5, 6, 7]
  | 9 => [5, 6, 7, 8]
  | 12 => [10, 11]
  | 13 => [10, 11, 12]
  | 14 => [0, 1]
  | 15 => [0, 1, 5, 6, 7, 8, 9, 14]
  | 16 => [2, 3, 4]
  | 17 => [2, 3, 4, 10, 11, 12, 13, 16]
  | _ => []
def swpU (i : Nat) : List Nat := match i with
  | 15 => [0, 1, 5, 6, 7, 8, 9, 14, 13]
  | 17 => [2, 3, 4, 10, 11, 12, 13, 16, 15, 9]
  | i => swpR i
def swpV (g n cap j : Nat) (x y : Cl) : RelV := fun i _ v => v = match i with
  | 0 | 2 | 5 | 10 => .slice (some ⟨g, 0, none⟩) n cap
  | 1 | 3 | 6 | 11 => .int .i64 ((j + 1 : Nat) : Int)
  | 4 | 7 => .int .i64 j
  | 8 | 16 => .pointer (some ⟨g, 0 + j * 9, none⟩)
  | 12 | 14 => .pointer (some ⟨g, 0 + (j + 1) * 9, none⟩)
  | 9 => .agg ⟨encCl x⟩
  | 13 => .agg ⟨encCl y⟩
  | _ => undef
theorem insertion_spec (ao : Option Addr) (n cap a b : Nat) (xs : List Cl) (hao : xs ≠ [] → ∃ g, ao = some ⟨g, 0, none⟩) (hn : xs.length = n) (hb : b ≤ n) (hn2 : n ≤ 1000000) (ha : a ≤ 1000000) (w : World) (S : FP) (hS : Sep [own ao cap 41 9 encCl xs] w S) (hd : ∀ b, S b → b < w.heap.size) :
    Trip Tryd.prog 52 #[.slice ao n cap, .int .i64 a, .int .i64 b, .func (.func 31) #[] #[]] w S fun v L => v = .tuple #[] ∧ L = [own ao cap 41 9 encCl (isortFrom a (a + 1) (b - (a + 1)) xs)] := by
  refine Trip.of_x (L := [own ao cap 41 9 encCl xs]) Tryd.func52 (by kernel_rfl) rfl Tryd.ntmps52 Tryd.results52 rfl (ctx_ok _) hS hd ?_
  refine ⟨((a + 1 : Nat) : Int), by rw [show ((a : Int) + 1) = ((a + 1 : Nat) : Int) by omega]; exact wrap_i64 (by omega) (by omega), ?_⟩
  refine loopI (σ := Nat × List Cl) (fun s => [(0, .slice ao n cap), (1, .int .i64 a), (2, .int .i64 b), (3, .func (.func 31) #[] #[]), (8, .int .i64 s.1)]) (fun s => [own ao cap 41 9 encCl s.2])
    (fun s => a + 1 ≤ s.1 ∧ (s.1 ≤ b ∨ s.1 = a + 1) ∧ s.2.length = n ∧ isortFrom a s.1 (b - s.1) s.2 = isortFrom a (a + 1) (b - (a + 1)) xs) (fun s => b - s.1) (a + 1, xs) ⟨rfl, rfl, rfl, rfl, rfl, trivial⟩ (.refl _) ⟨Nat.le_refl _, .inr rfl, hn, rfl⟩ ?_
  rintro ⟨i, ys⟩ ⟨h1, h2, h3, h4⟩
  have h1 : a + 1 ≤ i := h1
  have h2 : i ≤ b ∨ i = a + 1 := h2
  have h3 : ys.length = n := h3
  have h4 : isortFrom a i (b - i) ys = isortFrom a (a + 1) (b - (a + 1)) xs := h4
  refine ⟨fun hlt => ?_, fun hge => ?_⟩
  · have hib : i < b := by have := of_decide_eq_true hlt; simp at this; omega
    obtain ⟨g, rfl⟩ := hao (by rintro rfl; simp at hn; omega)
    refine loopI (σ := Nat × List Cl) (fun s => [(0, .slice (some ⟨g, 0, none⟩) n cap), (1, .int .i64 a), (2, .int .i64 b), (3, .func (.func 31) #[] #[]), (8, .int .i64 i), (9, .int .i64 s.1)]) (fun s => [own (some ⟨g, 0, none⟩) cap 41 9 encCl s.2])
      (fun s => s.1 ≤ i ∧ a ≤ s.1 ∧ s.2.length = n ∧ sink a s.1 s.2 = sink a i ys) (fun s => s.1) (i, ys) ⟨rfl, rfl, rfl, rfl, rfl, rfl, trivial⟩ (.refl _) ⟨Nat.le_refl _, by omega, h3, rfl⟩ ?_
    rintro ⟨j, zs⟩ ⟨k1, k2, k3, k4⟩
    have k1 : j ≤ i := k1
    have k2 : a ≤ j := k2
    have k3 : zs.length = n := k3
    have k4 : sink a j zs = sink a i ys := k4
    have fin : sink a j zs = zs → isortFrom a (i + 1) (b - (i + 1)) zs = isortFrom a (a + 1) (b - (a + 1)) xs := fun he => by
      rw [← h4, show b - i = (b - (i + 1)) + 1 by omega]
      simp only [isortFrom]
      rw [← k4, he]
    refine Or.inl ⟨by kernel_rfl, ?_⟩
    refine ⟨fun hja => ?_, fun hja => ?_⟩
    · have hja : a < j := by have := of_decide_eq_true hja; simp at this; omega
      obtain ⟨j, rfl⟩ : ∃ j', j = j' + 1 := ⟨j - 1, by omega⟩
      obtain ⟨y, hy⟩ : ∃ y, zs[j + 1]? = some y := ⟨zs[j + 1]'(by omega), by simp [show j + 1 < zs.length by omega]⟩
      obtain ⟨x, hx⟩ : ∃ x, zs[j]? = some x := ⟨zs[j]'(by omega), by simp [show j < zs.length by omega]⟩
      have hsub : ((j : Nat) : Int) = IntKind.i64.wrap (((j + 1 : Nat) : Int) - 1) := by rw [show (((j + 1 : Nat) : Int) - 1) = j by omega]; exact wrap_i64 (by omega) (by omega)
      refine ⟨j + 1, rfl, by omega, ?_⟩
      refine ⟨_, ldOA 0 (j + 1) rfl (fun _ _ => rfl) hy rfl rfl rfl (by show 0 + (j + 1) * 9 = (j + 1) * 9; omega), ?_⟩
      refine ⟨_, hsub, ?_⟩
      refine ⟨j, rfl, by omega, ?_⟩
      refine ⟨_, ldOA 0 j rfl (fun _ _ => rfl) hx rfl rfl rfl (by show 0 + j * 9 = j * 9; omega), ?_⟩
      refine callQ [] (fun w S hR hB _ hd => cmpEnd_spec y x w S hd) ?_
      have hcmp : cmpZ y.en x.en < 0 ↔ y.en < x.en := cmpZ_lt
      have hsink : sink a (j + 1) zs = if y.en < x.en then sink a j (swp zs j) else zs := by
        simp only [sink, hx, hy]
        by_cases h : y.en < x.en <;> simp [h, hja]
      refine ⟨fun hc => ?_, fun hc => ?_⟩
      · have hc : y.en < x.en := hcmp.1 (of_decide_eq_true hc)
        have hswp : swp zs j = (zs.set (j + 1) x).set j y := by simp only [swp, hx, hy]
        refine Or.inr (Or.inr (drawE swpU swpR (swpV g n cap j x y) [15, 17] [9, 13] [[own (some ⟨g, 0, none⟩) cap 41 9 encCl zs], [own (some ⟨g, 0, none⟩) cap 41 9 encCl (zs.set (j + 1) x)], [own (some ⟨g, 0, none⟩) cap 41 9 encCl ((zs.set (j + 1) x).set j y)]] rfl (by kernel_rfl) ?_ ?_))
        · refine ⟨?_, ?_, ?_, ?_, ?_, ?_, ?_, ?_, ?_, ?_, ?_, ?_, ?_, ?_, ?_, ?_, ?_, ?_, trivial⟩
          · exact rfl
          · exact rfl
          · exact rfl
          · exact rfl
          · rintro _ _ ⟨rfl, rfl⟩; exact ⟨_, hsub, rfl⟩
          · exact rfl
          · exact rfl
          · rintro _ _ ⟨rfl, rfl⟩; exact ⟨_, hsub, rfl⟩
          · rintro _ _ ⟨rfl, rfl⟩; rintro _ _ ⟨rfl, rfl⟩; rintro _ _ ⟨rfl, rfl⟩; exact ⟨j, rfl, by omega, rfl⟩
          · rintro _ _ ⟨rfl, rfl⟩; rintro _ _ ⟨rfl, rfl⟩; rintro _ _ ⟨rfl, rfl⟩; rintro _ _ ⟨rfl, rfl⟩; exact ⟨_, ldOA 0 j rfl (fun _ _ => rfl) hx rfl rfl rfl (by omega), rfl⟩
          · exact rfl
          · exact rfl
          · rintro _ _ ⟨rfl, rfl⟩; rintro _ _ ⟨rfl, rfl⟩; exact ⟨j + 1, rfl, by omega, rfl⟩
          · rintro _ _ ⟨rfl, rfl⟩; rintro _ _ ⟨rfl, rfl⟩; rintro _ _ ⟨rfl, rfl⟩; exact ⟨_, ldOA 0 (j + 1) rfl (fun _ _ => rfl) hy rfl rfl rfl (by omega), rfl⟩
          · rintro _ _ ⟨rfl, rfl⟩; rintro _ _ ⟨rfl, rfl⟩; exact ⟨j + 1, rfl, by omega, rfl⟩
          · rintro _ _ ⟨rfl, rfl⟩; rintro _ _ ⟨rfl, rfl⟩; rintro _ _ ⟨rfl, rfl⟩; rintro _ _ ⟨rfl, rfl⟩; rintro _ _ ⟨rfl, rfl⟩; rintro _ _ ⟨rfl, rfl⟩; rintro _ _ ⟨rfl, rfl⟩; rintro _ _ ⟨rfl, rfl⟩; exact stO 0 (j + 1) x rfl (fun _ _ => rfl) rfl (by omega) rfl rfl rfl rfl (by omega) ⟨rfl, .refl _⟩
          · rintro _ _ ⟨rfl, rfl⟩; rintro _ _ ⟨rfl, rfl⟩; rintro _ _ ⟨rfl, rfl⟩; exact ⟨j, rfl, by omega, rfl⟩
          · rintro _ _ ⟨rfl, rfl⟩; rintro _ _ ⟨rfl, rfl⟩; rintro _ _ ⟨rfl, rfl⟩; rintro _ _ ⟨rfl, rfl⟩; rintro _ _ ⟨rfl, rfl⟩; rintro _ _ ⟨rfl, rfl⟩; rintro _ _ ⟨rfl, rfl⟩; rintro _ _ ⟨rfl, rfl⟩; exact stO 0 j y rfl (fun _ _ => rfl) rfl (by simp; omega) rfl rfl rfl rfl (by omega) ⟨rfl, .refl _⟩
        rintro _ _ ⟨rfl, rfl⟩; rintro _ _ ⟨rfl, rfl⟩; rintro _ _ ⟨rfl, rfl⟩; rintro _ _ ⟨rfl, rfl⟩; rintro _ _ ⟨rfl, rfl⟩; rintro _ _ ⟨rfl, rfl⟩; rintro _ _ ⟨rfl, rfl⟩; rintro _ _ ⟨rfl, rfl⟩; rintro _ _ ⟨rfl, rfl⟩; rintro _ _ ⟨rfl, rfl⟩; rintro _ _ ⟨rfl, rfl⟩; rintro _ _ ⟨rfl, rfl⟩; rintro _ _ ⟨rfl, rfl⟩; rintro _ _ ⟨rfl, rfl⟩; rintro _ _ ⟨rfl, rfl⟩; rintro _ _ ⟨rfl, rfl⟩; rintro _ _ ⟨rfl, rfl⟩; rintro _ _ ⟨rfl, rfl⟩
        refine ⟨_, hsub, ?_⟩
        exact backI (j, (zs.set (j + 1) x).set j y) (by show j < j + 1; omega) ⟨by show j ≤ i; omega, by show a ≤ j; omega, by simp [k3], by
          show sink a j ((zs.set (j + 1) x).set j y) = _
          rw [← k4, hsink, if_pos hc, hswp]⟩ ⟨rfl, rfl, rfl, rfl, rfl, rfl, trivial⟩ (.refl _)
      · have hc : ¬ y.en < x.en := fun h => of_decide_eq_false hc (hcmp.2 h)
        refine ⟨((i + 1 : Nat) : Int), by rw [show ((i : Int) + 1) = ((i + 1 : Nat) : Int) by omega]; exact wrap_i64 (by omega) (by omega), ?_⟩
        exact backI (i + 1, zs) (by show b - (i + 1) < b - i; omega) ⟨by show a + 1 ≤ i + 1; omega, .inl (by show i + 1 ≤ b; omega), k3, fin (by rw [hsink, if_neg hc])⟩ ⟨rfl, rfl, rfl, rfl, rfl, trivial⟩ (.refl _)
    · have hja : ¬ a < j := by have := of_decide_eq_false hja; simp at this; omega
      have hs : sink a j zs = zs := by
        cases j with
        | zero => rfl
        | succ j =>
          simp only [sink]
          split
          · rw [if_neg (by omega)]
          · rfl
      repeat (refine ⟨nofun, fun _ => ?_⟩)
      refine ⟨((i + 1 : Nat) : Int), by rw [show ((i : Int) + 1) = ((i + 1 : Nat) : Int) by omega]; exact wrap_i64 (by omega) (by omega), ?_⟩
      exact backI (i + 1, zs) (by show b - (i + 1) < b - i; omega) ⟨by show a + 1 ≤ i + 1; omega, .inl (by show i + 1 ≤ b; omega), k3, fin hs⟩ ⟨rfl, rfl, rfl, rfl, rfl, trivial⟩ (.refl _)
  · have hib : ¬ i < b := by have := of_decide_eq_false hge; simp at this; omega
    have h5 : b - i = 0 := by omega
    rw [h5] at h4
    exact ⟨_, .refl _, rfl, by rw [← h4]; rfl⟩

/-- Few elements are sorted by insertion alone. -/
theorem stable_spec (ao : Option Addr) (n cap : Nat) (xs : List Cl) (hao : xs ≠ [] → ∃ g, ao = some ⟨g, 0, none⟩) (hn : xs.length = n) (hn2 : n < 20) (w : World) (S : FP) (hS : Sep [own ao cap 41 9 encCl xs] w S) (hd : ∀ b, S b → b < w.heap.size) :
    Trip Tryd.prog 45 #[.slice ao n cap, .int .i64 n, .func (.func 31) #[] #[]] w S fun v L => v = .tuple #[] ∧ L = [own ao cap 41 9 encCl (isortFrom 0 1 (n - 1) xs)] := by
  refine Trip.of_x (L := [own ao cap 41 9 encCl xs]) Tryd.func45 (by kernel_rfl) rfl Tryd.ntmps45 Tryd.results45 rfl (ctx_ok _) hS hd ?_
  refine loopI (σ := Unit) (fun _ => [(0, .slice ao n cap), (1, .int .i64 n), (2, .func (.func 31) #[] #[]), (6, .int .i64 20), (7, .int .i64 0), (8, .int .i64 20)]) (fun _ => [own ao cap 41 9 encCl xs])
    (fun _ => True) (fun _ => 0) () ⟨rfl, rfl, rfl, rfl, rfl, rfl, trivial⟩ (.refl _) trivial ?_
  rintro _ _
  refine ⟨fun h => absurd (of_decide_eq_true h) (by omega), fun _ => ?_⟩
  refine callP [0] (fun w S hR hB hS hd => insertion_spec ao n cap 0 n xs hao hn (Nat.le_refl _) (by omega) (by omega) w S hS hd) ?_
  rintro _ _ ⟨rfl, rfl⟩
  refine loopI (σ := Unit) (fun _ => [(0, .slice ao n cap), (1, .int .i64 n), (2, .func (.func 31) #[] #[]), (6, .int .i64 20)]) (fun _ => [own ao cap 41 9 encCl (isortFrom 0 1 (n - 1) xs)])
    (fun _ => True) (fun _ => 0) () ⟨rfl, rfl, rfl, rfl, trivial⟩ (.refl _) trivial ?_
  rintro _ _
  refine ⟨fun h => absurd (of_decide_eq_true h) (by omega), fun _ => ?_⟩
  exact ⟨_, .refl _, rfl, rfl⟩
theorem sortStable_spec (ao : Option Addr) (n cap : Nat) (xs : List Cl) (hao : xs ≠ [] → ∃ g, ao = some ⟨g, 0, none⟩) (hn : xs.length = n) (hn2 : n < 20) (w : World) (S : FP) (hS : Sep [own ao cap 41 9 encCl xs] w S) (hd : ∀ b, S b → b < w.heap.size) :
    Trip Tryd.prog 30 #[.slice ao n cap, .func (.func 31) #[] #[]] w S fun v L => v = .tuple #[] ∧ L = [own ao cap 41 9 encCl (isortFrom 0 1 (n - 1) xs)] := by
  refine Trip.of_x (L := [own ao cap 41 9 encCl xs]) Tryd.func30 (by kernel_rfl) rfl Tryd.ntmps30 Tryd.results30 rfl (ctx_ok _) hS hd ?_
  refine callP [0] (fun w S hR hB hS hd => stable_spec ao n cap xs hao hn hn2 w S hS hd) ?_
  rintro _ _ ⟨rfl, rfl⟩
  exact ⟨_, .refl _, rfl, rfl⟩

/-! ### a search that one can count out -/
/-- The first right order from here, found by trying all. -/
def srchF (xs : List Cl) : Nat → Nat → List (Int × Int) → Option (List Nat)
  | 0, D, M => if (List.range xs.length).all fun i => D.testBit i then some [] else none
  | f + 1, D, M => if (List.range xs.length).all fun i => D.testBit i then some [] else
      (List.range xs.length).findSome? fun i => match xs[i]? with
        | some c => if canB xs D i c.bg && (accF M c).1 then (srchF xs f (D ||| 2 ^ i) (accF M c).2).map (i :: ·) else none
        | none => none
theorem full_iff {xs : List Cl} {D : Nat} : Full xs D [] ↔ (List.range xs.length).all (fun i => D.testBit i) = true := by
  rw [List.all_eq_true]
  constructor
  · intro h i hi
    rcases h i (List.mem_range.1 hi) with h | h
    · exact h
    · cases h
  · exact fun h i hi => .inl (h i (List.mem_range.2 hi))
end Go.Proofs.YtfebaopjfmpfkaaDoor
