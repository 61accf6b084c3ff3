/- The specification's package of chapter 21: which calls may be, and the errors of a history. -/
import Derived.Test.YtfebaopjfmpfkaaDoorL15
import Derived.Test.YtfebaopjfmpfkaaDoorL16
import Derived.Test.YtfebaopjfmpfkaaDoorX22
import Derived.Test.YtfebaopjfmpfkaaDoorL8
namespace Go.Proofs.YtfebaopjfmpfkaaDoor
open Go.X
set_option maxRecDepth 10000
set_option linter.unusedVariables false
set_option linter.unusedSimpArgs false

theorem power_spec (n : Int) (w : World) (S : FP) (hd : ∀ b, S b → b < w.heap.size) :
    Trip Tryd.prog 68 #[.int .i64 n, .int .i64 256] w S fun v L => ∃ b, v = .bool b ∧ (b = true ↔ ∃ i, i < 9 ∧ n = ((2 ^ i : Nat) : Int)) ∧ L = [] := by
  refine Trip.of_x (L := []) Tryd.func68 (by kernel_rfl) rfl Tryd.ntmps68 Tryd.results68 rfl (ctx_ok _) trivial hd ?_
  refine loopI (σ := Nat) (fun j => [(0, .int .i64 n), (1, .int .i64 256), (5, .int .i64 ((2 ^ j : Nat) : Int))]) (fun _ => []) (fun j => j ≤ 9 ∧ ∀ i, i < j → n ≠ ((2 ^ i : Nat) : Int)) (fun j => 9 - j) 0
    ⟨rfl, rfl, rfl, trivial⟩ (.refl _) ⟨Nat.zero_le _, fun i h => absurd h (by omega)⟩ ?_
  rintro j ⟨hj, hno⟩
  refine ⟨fun hlt => ?_, fun hge => ?_⟩
  · have hlt : ((2 ^ j : Nat) : Int) ≤ 256 := of_decide_eq_true hlt
    have hj8 : j < 9 := by
      rcases Nat.lt_or_ge j 9 with h | h
      · exact h
      · obtain rfl : j = 9 := by omega
        exact absurd hlt (by decide)
    refine ⟨fun he => ?_, fun he => ?_⟩
    · have he : ((2 ^ j : Nat) : Int) = n := of_decide_eq_true he
      exact ⟨_, .pick [], true, rfl, by simp only [true_iff]; exact ⟨j, hj8, he.symm⟩, rfl⟩
    · have he : ¬ ((2 ^ j : Nat) : Int) = n := of_decide_eq_false he
      refine ⟨((2 ^ (j + 1) : Nat) : Int), by rw [show (2 * ((2 ^ j : Nat) : Int)) = ((2 ^ (j + 1) : Nat) : Int) by rw [Nat.pow_succ]; omega]; exact wrap_i64 (Int.le_trans (by decide) (Int.natCast_nonneg _)) (by have := Nat.pow_succ 2 j; omega), ?_⟩
      exact backI (j + 1) (by omega) ⟨by omega, fun i hi => by
        rcases Nat.lt_or_ge i j with h | h
        · exact hno i h
        · obtain rfl : i = j := by omega
          exact fun h => he h.symm⟩ ⟨rfl, rfl, rfl, trivial⟩ (.refl _)
  · have hge : ¬ ((2 ^ j : Nat) : Int) ≤ 256 := of_decide_eq_false hge
    have hj9 : j = 9 := by
      rcases Nat.lt_or_ge j 9 with h | h
      · exfalso
        apply hge
        have := Nat.pow_le_pow_right (n := 2) (by omega) (show j ≤ 8 by omega)
        omega
      · omega
    subst hj9
    exact ⟨_, .pick [], false, rfl, by simp only [Bool.false_eq_true, false_iff]; rintro ⟨i, h1, h2⟩; exact hno i h1 h2, rfl⟩

theorem pow_all : (List.range 257).all (fun a => decide (1 ≤ a) == false || ((decide (pow0 (a : Int) = 0)) == ((List.range 9).any fun i => decide (a = 2 ^ i)))) = true := by decide +kernel
theorem pow0_iff {a : Int} (h1 : 1 ≤ a) (h2 : a ≤ 256) : pow0 a = 0 ↔ ∃ i, i < 9 ∧ a = ((2 ^ i : Nat) : Int) := by
  obtain ⟨n, rfl⟩ : ∃ n : Nat, a = n := ⟨a.toNat, by omega⟩
  have := List.all_eq_true.1 pow_all n (List.mem_range.2 (by omega))
  rw [decide_eq_true (show 1 ≤ n by omega)] at this
  simp only [Bool.true_eq_false, beq_iff_eq, Bool.or_eq_true, false_or, reduceCtorEq] at this
  constructor
  · intro h
    rw [decide_eq_true h] at this
    obtain ⟨i, hi, he⟩ := List.any_eq_true.1 this.symm
    exact ⟨i, List.mem_range.1 hi, by have := of_decide_eq_true he; omega⟩
  · rintro ⟨i, hi, he⟩
    rw [List.any_eq_true.2 ⟨i, List.mem_range.2 hi, decide_eq_true (by omega)⟩] at this
    exact of_decide_eq_true this

/-- What an operation asks may be asked. -/
def FitsP (kind size align : Int) : Prop := (kind = 0 ∧ 1 ≤ size ∧ size ≤ 16384 ∧ ∃ i, i < 9 ∧ align = ((2 ^ i : Nat) : Int)) ∨ kind = 1 ∨ kind = 2
def encOp (k s a d : Int) : List Value := [.int .i64 k, .int .i64 s, .int .i64 a, .int .i64 d]

theorem fits_spec (k s a d : Int) (w : World) (S : FP) (hd : ∀ b, S b → b < w.heap.size) :
    Trip Tryd.prog 51 #[.agg ⟨encOp k s a d⟩] w S fun v L => ∃ b, v = .bool b ∧ (b = true ↔ FitsP k s a) ∧ L = [] := by
  refine Trip.of_x (L := []) Tryd.func51 (by kernel_rfl) rfl Tryd.ntmps51 Tryd.results51 rfl (ctx_ok _) trivial hd ?_
  intro ob
  refine ⟨_, ld 0 rfl rfl rfl, ?_⟩
  refine ⟨fun hk => ?_, fun hk => ?_⟩
  · obtain rfl : k = 0 := of_decide_eq_true hk
    refine ⟨_, ld 0 rfl rfl rfl, ?_⟩
    refine ⟨fun h1 => ?_, fun h1 => ?_⟩
    · have h1 : s ≥ 1 := of_decide_eq_true h1
      refine ⟨_, ld 0 rfl rfl rfl, ?_⟩
      refine ⟨fun h2 => ?_, fun h2 => ?_⟩
      · have h2 : s ≤ 16384 := of_decide_eq_true h2
        refine ⟨_, ld 0 rfl rfl rfl, ?_⟩
        refine callP [] (fun w S hR hB hS hd => power_spec a w S hd) ?_
        rintro _ _ ⟨b, rfl, hb, rfl⟩
        refine ⟨_, .pick [], b, rfl, ?_, rfl⟩
        rw [hb]
        constructor
        · exact fun h => .inl ⟨rfl, h1, h2, h⟩
        · rintro (⟨_, _, _, h⟩ | h | h)
          · exact h
          · omega
          · omega
      · have h2 : ¬ s ≤ 16384 := of_decide_eq_false h2
        refine ⟨_, .pick [], false, rfl, ?_, rfl⟩
        simp only [Bool.false_eq_true, false_iff]
        rintro (⟨_, _, h, _⟩ | h | h) <;> omega
    · have h1 : ¬ s ≥ 1 := of_decide_eq_false h1
      refine ⟨nofun, fun _ => ?_⟩
      refine ⟨_, .pick [], false, rfl, ?_, rfl⟩
      simp only [Bool.false_eq_true, false_iff]
      rintro (⟨_, h, _, _⟩ | h | h) <;> omega
  · have hk : ¬ k = 0 := of_decide_eq_false hk
    refine ⟨_, ld 0 rfl rfl rfl, ?_⟩
    refine ⟨fun h1 => ?_, fun h1 => ?_⟩
    · have h1 : k = 1 := of_decide_eq_true h1
      refine ⟨_, .pick [], true, rfl, ?_, rfl⟩
      simp only [true_iff]
      exact .inr (.inl h1)
    · have h1 : ¬ k = 1 := of_decide_eq_false h1
      refine ⟨_, ld 0 rfl rfl rfl, ?_⟩
      refine ⟨_, .pick [], decide (k = 2), rfl, ?_, rfl⟩
      rw [decide_eq_true_iff]
      constructor
      · exact fun h => .inr (.inr h)
      · rintro (⟨h, _⟩ | h | h)
        · exact absurd h hk
        · exact absurd h h1
        · exact h

theorem okCl_iff {c : Cl} : OkCl c ↔ (0 ≤ c.th ∧ c.th < 4) ∧ FitsP c.kind c.size c.align ∧ 0 ≤ c.bg ∧ c.bg < c.en ∧ c.en ≤ 1000000 := by
  constructor
  · rintro ⟨h1, h2, h3, h4, h5, h6⟩
    refine ⟨h1, ?_, h2, h3, h4⟩
    by_cases hk : c.kind = 0
    · obtain ⟨a1, a2, a3, a4, a5⟩ := h6 hk
      exact .inl ⟨hk, a1, a2, (pow0_iff a3 a4).1 a5⟩
    · right; omega
  · rintro ⟨h1, h6, h2, h3, h4⟩
    refine ⟨h1, h2, h3, h4, ?_, ?_⟩
    · rcases h6 with ⟨h, _⟩ | h | h <;> omega
    · intro hk
      rcases h6 with ⟨_, a1, a2, i, hi, a3⟩ | h | h
      · have hlo : 1 ≤ 2 ^ i := Nat.one_le_two_pow
        have hhi := Nat.pow_le_pow_right (n := 2) (by omega) (show i ≤ 8 by omega)
        have b1 : 1 ≤ c.align := by omega
        have b2 : c.align ≤ 256 := by omega
        exact ⟨a1, a2, b1, b2, (pow0_iff b1 b2).2 ⟨i, hi, a3⟩⟩
      · omega
      · omega

theorem valid1_spec (c : Cl) (w : World) (S : FP) (hd : ∀ b, S b → b < w.heap.size) :
    Trip Tryd.prog 42 #[.agg ⟨encCl c⟩] w S fun v L => ∃ b, v = .bool b ∧ (b = true ↔ OkCl c) ∧ L = [] := by
  refine Trip.of_x (L := []) Tryd.func42 (by kernel_rfl) rfl Tryd.ntmps42 Tryd.results42 rfl (ctx_ok _) trivial hd ?_
  intro cb
  refine ⟨_, ld 0 rfl rfl rfl, ?_⟩
  refine ⟨fun h1 => ?_, fun h1 => ?_⟩
  rotate_left
  · have h1 : ¬ c.th ≥ 0 := of_decide_eq_false h1
    repeat (refine ⟨nofun, fun _ => ?_⟩)
    refine ⟨_, .pick [], false, rfl, ?_, rfl⟩
    simp only [Bool.false_eq_true, false_iff, okCl_iff]
    omega
  have h1 : c.th ≥ 0 := of_decide_eq_true h1
  refine ⟨_, ld 0 rfl rfl rfl, ?_⟩
  refine ⟨fun h2 => ?_, fun h2 => ?_⟩
  rotate_left
  · have h2 : ¬ c.th < 4 := of_decide_eq_false h2
    repeat (refine ⟨nofun, fun _ => ?_⟩)
    refine ⟨_, .pick [], false, rfl, ?_, rfl⟩
    simp only [Bool.false_eq_true, false_iff, okCl_iff]
    omega
  have h2 : c.th < 4 := of_decide_eq_true h2
  refine ⟨_, ldA 0 rfl rfl rfl rfl rfl, ?_⟩
  refine callP [] (fun w S hR hB hS hd => fits_spec c.kind c.size c.align c.addr w S hd) ?_
  rintro _ _ ⟨b, rfl, hb, rfl⟩
  refine ⟨fun h3 => ?_, fun h3 => ?_⟩
  rotate_left
  · have h3 : ¬ FitsP c.kind c.size c.align := fun h => by rw [hb.2 h] at h3; cases h3
    repeat (refine ⟨nofun, fun _ => ?_⟩)
    refine ⟨_, .pick [], false, rfl, ?_, rfl⟩
    simp only [Bool.false_eq_true, false_iff, okCl_iff]
    exact fun h => h3 h.2.1
  have h3 : FitsP c.kind c.size c.align := hb.1 h3
  refine ⟨_, ld 0 rfl rfl rfl, ?_⟩
  refine ⟨fun h4 => ?_, fun h4 => ?_⟩
  rotate_left
  · have h4 : ¬ c.bg ≥ 0 := of_decide_eq_false h4
    repeat (refine ⟨nofun, fun _ => ?_⟩)
    refine ⟨_, .pick [], false, rfl, ?_, rfl⟩
    simp only [Bool.false_eq_true, false_iff, okCl_iff]
    omega
  have h4 : c.bg ≥ 0 := of_decide_eq_true h4
  refine ⟨_, ld 0 rfl rfl rfl, ?_⟩
  refine ⟨_, ld 0 rfl rfl rfl, ?_⟩
  refine ⟨fun h5 => ?_, fun h5 => ?_⟩
  rotate_left
  · have h5 : ¬ c.bg < c.en := of_decide_eq_false h5
    repeat (refine ⟨nofun, fun _ => ?_⟩)
    refine ⟨_, .pick [], false, rfl, ?_, rfl⟩
    simp only [Bool.false_eq_true, false_iff, okCl_iff]
    omega
  have h5 : c.bg < c.en := of_decide_eq_true h5
  refine ⟨_, ld 0 rfl rfl rfl, ?_⟩
  refine ⟨_, .pick [], decide (c.en ≤ 1000000), rfl, ?_, rfl⟩
  rw [decide_eq_true_iff, okCl_iff]
  exact ⟨fun h => ⟨⟨h1, h2⟩, h3, h4, h5, h⟩, fun h => h.2.2.2.2⟩

/-- The errors of a history, as the specification's package finds them, are those of the program. -/
theorem fault_spec (a : Option Addr) (n cap : Nat) (xs : List Cl) (w : World) (S : FP) (hl : RO w S (roS a 9 encCl xs)) (hn : xs.length = n) (hc : n ≤ cap) (hn2 : n ≤ 4611686018427387904) (hd : ∀ b, S b → b < w.heap.size) :
    Trip Tryd.prog 27 #[.slice a n cap] w S fun v L => v = .int .i64 (chk xs) ∧ L = [] := by
  refine Trip.of_x (L := []) Tryd.func27 (by kernel_rfl) rfl Tryd.ntmps27 Tryd.results27 rfl (ctx_ok _) trivial hd ?_
  refine ⟨fun h => ?_, fun h => ?_⟩
  · have h : (n : Int) > 64 := of_decide_eq_true h
    exact ⟨[], .pick [], by unfold chk; rw [if_pos (by omega)]; rfl, rfl⟩
  have h : ¬ (n : Int) > 64 := of_decide_eq_false h
  have bad : ¬ Valid xs → chk xs = 2 := fun hv => by unfold chk; rw [if_neg (by omega), if_neg hv]
  refine loopI (σ := Nat) (fun i => [(0, .slice a n cap), (3, .int .i64 i)]) (fun _ => []) (fun i => i ≤ n ∧ ∀ (i' : Nat) (c : Cl), i' < i → xs[i']? = some c → OkCl c ∧ ∀ (j : Nat) (d : Cl), j < i' → xs[j]? = some d → ¬ Clash d c) (fun i => n - i) 0
    ⟨rfl, rfl, trivial⟩ (.refl _) ⟨Nat.zero_le _, fun i' c h => absurd h (by omega)⟩ ?_
  rintro i ⟨hi, hin⟩
  refine ⟨fun hlt => ?_, fun hge => ?_⟩
  · have hi' : i < n := by have := of_decide_eq_true hlt; omega
    obtain ⟨x, hx⟩ : ∃ x, xs[i]? = some x := ⟨xs[i]'(by omega), by simp [show i < xs.length by omega]⟩
    obtain ⟨b, o, rfl⟩ := roS_at hl (by omega)
    refine ⟨i, rfl, by omega, ?_⟩
    refine ⟨_, ldRA hl i hx rfl rfl rfl rfl, ?_⟩
    refine callP [] (fun w S hR hB hS hd => valid1_spec x w S hd) ?_
    rintro _ _ ⟨ok, rfl, hok, rfl⟩
    refine ⟨fun h1 => ?_, fun h1 => ?_⟩
    · have h1 : ¬ OkCl x := fun h => by rw [hok.2 h] at h1; cases h1
      exact ⟨[], .pick [], by rw [bad fun hv => h1 (hv i x hx).1]; rfl, rfl⟩
    have h1 : OkCl x := hok.1 (by simpa using h1)
    refine loopI (σ := Nat) (fun k => [(0, .slice (some ⟨b, o, none⟩) n cap), (3, .int .i64 i), (4, .int .i64 k)]) (fun _ => []) (fun k => k ≤ i ∧ ∀ (k' : Nat) (d : Cl), k' < k → xs[k']? = some d → ¬ Clash d x) (fun k => i - k) 0
      ⟨rfl, rfl, rfl, trivial⟩ (.refl _) ⟨Nat.zero_le _, fun k' d h => absurd h (by omega)⟩ ?_
    rintro k ⟨hk, hkn⟩
    refine ⟨fun hlt => ?_, fun hge => ?_⟩
    · have hk' : k < i := by have := of_decide_eq_true hlt; omega
      obtain ⟨y, hy⟩ : ∃ y, xs[k]? = some y := ⟨xs[k]'(by omega), by simp [show k < xs.length by omega]⟩
      have next : ¬ Clash y x → k + 1 ≤ i ∧ ∀ (k' : Nat) (d : Cl), k' < k + 1 → xs[k']? = some d → ¬ Clash d x := fun hno => ⟨hk', fun k' d h hd => by
        rcases Nat.lt_or_ge k' k with h' | h'
        · exact hkn k' d h' hd
        · obtain rfl : k' = k := by omega
          rw [hy] at hd; cases hd; exact hno⟩
      refine Or.inl ⟨by kernel_rfl, ?_⟩
      refine ⟨k, rfl, by omega, ?_⟩
      refine ⟨_, ldR hl k 0 hy rfl rfl rfl, ?_⟩
      refine ⟨i, rfl, by omega, ?_⟩
      refine ⟨_, ldR hl i 0 hx rfl rfl rfl, ?_⟩
      refine ⟨fun c1 => ?_, fun c1 => ?_⟩
      rotate_left
      · repeat (refine ⟨nofun, fun _ => ?_⟩)
        refine ⟨_, wrap_i64 (by omega) (by omega), ?_⟩
        exact backI (k + 1) (by omega) (next fun h => of_decide_eq_false c1 h.1) ⟨rfl, rfl, rfl, trivial⟩ (.refl _)
      refine ⟨k, rfl, by omega, ?_⟩
      refine ⟨_, ldR hl k 2 hy rfl rfl rfl, ?_⟩
      refine ⟨i, rfl, by omega, ?_⟩
      refine ⟨_, ldR hl i 1 hx rfl rfl rfl, ?_⟩
      refine ⟨fun c2 => ?_, fun c2 => ?_⟩
      rotate_left
      · repeat (refine ⟨nofun, fun _ => ?_⟩)
        refine ⟨_, wrap_i64 (by omega) (by omega), ?_⟩
        exact backI (k + 1) (by omega) (next fun h => of_decide_eq_false c2 h.2.1) ⟨rfl, rfl, rfl, trivial⟩ (.refl _)
      refine ⟨i, rfl, by omega, ?_⟩
      refine ⟨_, ldR hl i 2 hx rfl rfl rfl, ?_⟩
      refine ⟨k, rfl, by omega, ?_⟩
      refine ⟨_, ldR hl k 1 hy rfl rfl rfl, ?_⟩
      refine ⟨fun c3 => ?_, fun c3 => ?_⟩
      · exact ⟨[], .pick [], by rw [bad fun hv => (hv i x hx).2 k y hk' hy ⟨of_decide_eq_true c1, of_decide_eq_true c2, of_decide_eq_true c3⟩]; rfl, rfl⟩
      · refine ⟨_, wrap_i64 (by omega) (by omega), ?_⟩
        exact backI (k + 1) (by omega) (next fun h => of_decide_eq_false c3 h.2.2) ⟨rfl, rfl, rfl, trivial⟩ (.refl _)
    · have hk' : k = i := by have := of_decide_eq_false hge; omega
      subst hk'
      refine ⟨_, wrap_i64 (by omega) (by omega), ?_⟩
      exact backI (k + 1) (by omega) ⟨hi', fun i' c h hc => by
        rcases Nat.lt_or_ge i' k with h'' | h''
        · exact hin i' c h'' hc
        · obtain rfl : i' = k := by omega
          rw [hx] at hc; cases hc
          exact ⟨h1, hkn⟩⟩ ⟨rfl, rfl, trivial⟩ (.refl _)
  · have hi' : i = n := by have := of_decide_eq_false hge; omega
    subst hi'
    have hv : Valid xs := fun i' c hc => hin i' c (by have := (List.getElem?_eq_some_iff.1 hc).1; omega) hc
    exact ⟨[], .pick [], by unfold chk; rw [if_neg (by omega), if_pos hv]; rfl, rfl⟩
end Go.Proofs.YtfebaopjfmpfkaaDoor
