/- Package linear: which calls are a history. -/
import Derived.Test.YtfebaopjfmpfkaaDoorL2
import Derived.Test.YtfebaopjfmpfkaaDoorX11
namespace Go.Proofs.YtfebaopjfmpfkaaDoor
open Go.X
set_option maxRecDepth 10000
set_option linter.unusedVariables false
set_option linter.unusedSimpArgs false

def pow0 (a : Int) : Int := IntKind.i64.wrap (BitVec.ofInt 64 a &&& BitVec.ofInt 64 (a - 1)).toNat
structure OkCl (c : Cl) : Prop where
  th : 0 ≤ c.th ∧ c.th < 4
  bg : 0 ≤ c.bg
  lt : c.bg < c.en
  en : c.en ≤ 1000000
  kind : 0 ≤ c.kind ∧ c.kind ≤ 2
  mal : c.kind = 0 → 1 ≤ c.size ∧ c.size ≤ 16384 ∧ 1 ≤ c.align ∧ c.align ≤ 256 ∧ pow0 c.align = 0
def Clash (d c : Cl) : Prop := d.th = c.th ∧ d.en ≥ c.bg ∧ c.en ≥ d.bg
def Valid (xs : List Cl) : Prop := ∀ (i : Nat) (c : Cl), xs[i]? = some c → OkCl c ∧ ∀ (j : Nat) (d : Cl), j < i → xs[j]? = some d → ¬ Clash d c

theorem valid_spec (a : Option Addr) (n cap : Nat) (xs : List Cl) (w : World) (S : FP) (hl : RO w S (roS a 9 encCl xs)) (hn : xs.length = n) (hc : n ≤ cap) (hn2 : n ≤ 4611686018427387904) (hd : ∀ b, S b → b < w.heap.size) :
    Trip Tryd.prog 40 #[.slice a n cap] w S fun v L => ∃ b, v = .bool b ∧ (b = true ↔ Valid xs) ∧ L = [] := by
  refine Trip.of_x (L := []) Tryd.func40 (by kernel_rfl) rfl Tryd.ntmps40 Tryd.results40 rfl (ctx_ok _) trivial hd ?_
  refine loopI (σ := Nat) (fun k => [(0, .slice a n cap), (8, .slice a n cap), (9, .int .i64 n), (10, .int .i64 k)]) (fun _ => [])
    (fun k => k ≤ n ∧ ∀ (i : Nat) (c : Cl), i < k → xs[i]? = some c → OkCl c ∧ ∀ (j : Nat) (d : Cl), j < i → xs[j]? = some d → ¬ Clash d c) (fun k => n - k) 0 ⟨rfl, rfl, rfl, rfl, trivial⟩ (.refl _) ⟨Nat.zero_le _, fun i c hi => by omega⟩ ?_
  rintro k ⟨hk, hinv⟩
  refine ⟨fun hlt => ?_, fun hge => ?_⟩
  · have hkn : k < n := by have := of_decide_eq_true hlt; omega
    obtain ⟨c, hcx⟩ : ∃ c, xs[k]? = some c := ⟨xs[k]'(by omega), by simp [show k < xs.length by omega]⟩
    obtain ⟨b, o, rfl⟩ := roS_at hl (by omega)
    have bad : ¬ OkCl c → ¬ Valid xs := fun h hv => h (hv k c hcx).1
    refine ⟨k, rfl, hkn, ?_⟩
    refine ⟨_, ldRA hl k hcx rfl rfl rfl rfl, ?_⟩
    intro cb
    refine st 0 rfl rfl rfl rfl rfl ?_
    refine ⟨_, ld 0 rfl rfl rfl, ?_⟩
    refine ⟨fun h1 => ?_, fun h1 => ?_⟩
    · have h1 : c.th < 0 := of_decide_eq_true h1
      repeat (refine ⟨fun _ => ?_, nofun⟩)
      exact ⟨[], .pick [], false, rfl, ⟨nofun, fun hv => absurd hv (bad fun h => by have := h.th; omega)⟩, rfl⟩
    have h1 : ¬ (c.th < 0) := of_decide_eq_false h1
    refine ⟨_, ld 0 rfl rfl rfl, ?_⟩
    refine ⟨fun h2 => ?_, fun h2 => ?_⟩
    · have h2 : c.th ≥ 4 := of_decide_eq_true h2
      repeat (refine ⟨fun _ => ?_, nofun⟩)
      exact ⟨[], .pick [], false, rfl, ⟨nofun, fun hv => absurd hv (bad fun h => by have := h.th; omega)⟩, rfl⟩
    have h2 : ¬ (c.th ≥ 4) := of_decide_eq_false h2
    refine ⟨_, ld 0 rfl rfl rfl, ?_⟩
    refine ⟨fun h3 => ?_, fun h3 => ?_⟩
    · have h3 : c.bg < 0 := of_decide_eq_true h3
      repeat (refine ⟨fun _ => ?_, nofun⟩)
      exact ⟨[], .pick [], false, rfl, ⟨nofun, fun hv => absurd hv (bad fun h => by have := h.bg; omega)⟩, rfl⟩
    have h3 : ¬ (c.bg < 0) := of_decide_eq_false h3
    refine ⟨_, ld 0 rfl rfl rfl, ?_⟩
    refine ⟨_, ld 0 rfl rfl rfl, ?_⟩
    refine ⟨fun h4 => ?_, fun h4 => ?_⟩
    · have h4 : c.bg ≥ c.en := of_decide_eq_true h4
      repeat (refine ⟨fun _ => ?_, nofun⟩)
      exact ⟨[], .pick [], false, rfl, ⟨nofun, fun hv => absurd hv (bad fun h => by have := h.lt; omega)⟩, rfl⟩
    have h4 : ¬ (c.bg ≥ c.en) := of_decide_eq_false h4
    refine ⟨_, ld 0 rfl rfl rfl, ?_⟩
    refine ⟨fun h5 => ?_, fun h5 => ?_⟩
    · have h5 : c.en > 1000000 := of_decide_eq_true h5
      repeat (refine ⟨fun _ => ?_, nofun⟩)
      exact ⟨[], .pick [], false, rfl, ⟨nofun, fun hv => absurd hv (bad fun h => by have := h.en; omega)⟩, rfl⟩
    have h5 : ¬ (c.en > 1000000) := of_decide_eq_false h5
    refine ⟨_, ldA 0 rfl rfl rfl rfl rfl, ?_⟩
    intro ob
    refine st 0 rfl rfl rfl rfl rfl ?_
    refine ⟨_, ld 0 rfl rfl rfl, ?_⟩
    refine ⟨fun hk => ?_, fun hk => ?_⟩
    · have hk : c.kind = 0 := of_decide_eq_true hk
      refine ⟨_, ld 0 rfl rfl rfl, ?_⟩
      refine ⟨fun h6 => ?_, fun h6 => ?_⟩
      · have h6 : c.size < 1 := of_decide_eq_true h6
        repeat (refine ⟨fun _ => ?_, nofun⟩)
        exact ⟨[], .pick [], false, rfl, ⟨nofun, fun hv => absurd hv (bad fun h => by have := h.mal hk; omega)⟩, rfl⟩
      have h6 : ¬ (c.size < 1) := of_decide_eq_false h6
      refine ⟨_, ld 0 rfl rfl rfl, ?_⟩
      refine ⟨fun h7 => ?_, fun h7 => ?_⟩
      · have h7 : c.size > 16384 := of_decide_eq_true h7
        repeat (refine ⟨fun _ => ?_, nofun⟩)
        exact ⟨[], .pick [], false, rfl, ⟨nofun, fun hv => absurd hv (bad fun h => by have := h.mal hk; omega)⟩, rfl⟩
      have h7 : ¬ (c.size > 16384) := of_decide_eq_false h7
      refine ⟨_, ld 0 rfl rfl rfl, ?_⟩
      refine ⟨fun h8 => ?_, fun h8 => ?_⟩
      · have h8 : c.align < 1 := of_decide_eq_true h8
        repeat (refine ⟨fun _ => ?_, nofun⟩)
        exact ⟨[], .pick [], false, rfl, ⟨nofun, fun hv => absurd hv (bad fun h => by have := h.mal hk; omega)⟩, rfl⟩
      have h8 : ¬ (c.align < 1) := of_decide_eq_false h8
      refine ⟨_, ld 0 rfl rfl rfl, ?_⟩
      refine ⟨fun h9 => ?_, fun h9 => ?_⟩
      · have h9 : c.align > 256 := of_decide_eq_true h9
        repeat (refine ⟨fun _ => ?_, nofun⟩)
        exact ⟨[], .pick [], false, rfl, ⟨nofun, fun hv => absurd hv (bad fun h => by have := h.mal hk; omega)⟩, rfl⟩
      have h9 : ¬ (c.align > 256) := of_decide_eq_false h9
      refine ⟨_, ld 0 rfl rfl rfl, ?_⟩
      refine ⟨_, ld 0 rfl rfl rfl, ?_⟩
      refine ⟨_, wrap_i64 (by omega) (by omega), ?_⟩
      refine ⟨_, rfl, ?_⟩
      refine ⟨fun h10 => ?_, fun h10 => ?_⟩
      · have h10 : pow0 c.align ≠ 0 := of_decide_eq_true h10
        repeat (refine ⟨fun _ => ?_, nofun⟩)
        exact ⟨[], .pick [], false, rfl, ⟨nofun, fun hv => absurd hv (bad fun h => by have := h.mal hk; exact h10 this.2.2.2.2)⟩, rfl⟩
      have h10 : ¬ (pow0 c.align ≠ 0) := of_decide_eq_false h10
      have hok : OkCl c := ⟨by omega, by omega, by omega, by omega, by omega, fun _ => ⟨by omega, by omega, by omega, by omega, Classical.not_not.1 h10⟩⟩
      refine ⟨_, slHi k rfl (by omega) rfl rfl rfl, ?_⟩
      refine loopI (σ := Nat) (fun j => [(0, .slice (some ⟨b, o, none⟩) n cap), (3, .int .i64 k), (4, .pointer (some ⟨cb, 0, none⟩)), (8, .slice (some ⟨b, o, none⟩) n cap), (9, .int .i64 n), (10, .int .i64 k), (78, .slice (some ⟨b, o, none⟩) k cap), (79, .int .i64 k), (80, .int .i64 j)]) (fun _ => [pt cb (encCl c) 41])
        (fun j => j ≤ k ∧ ∀ (i : Nat) (d : Cl), i < j → xs[i]? = some d → ¬ Clash d c) (fun j => k - j) 0 ⟨rfl, rfl, rfl, rfl, rfl, rfl, rfl, rfl, rfl, trivial⟩ (.pick [1]) ⟨Nat.zero_le _, fun i c hi => by omega⟩ ?_
      rintro j ⟨hj, hin⟩
      refine ⟨fun hlt => ?_, fun hge => ?_⟩
      · have hjk : j < k := by have := of_decide_eq_true hlt; omega
        obtain ⟨d, hdx⟩ : ∃ d, xs[j]? = some d := ⟨xs[j]'(by omega), by simp [show j < xs.length by omega]⟩
        have next : ¬ Clash d c → j + 1 ≤ k ∧ ∀ (i : Nat) (d : Cl), i < j + 1 → xs[i]? = some d → ¬ Clash d c := fun h => ⟨hjk, fun i d' hi hd' => by
          rcases Nat.lt_or_ge i j with h' | h'
          · exact hin i d' h' hd'
          · obtain rfl : i = j := by omega
            rw [hdx] at hd'; cases hd'; exact h⟩
        refine ⟨j, rfl, hjk, ?_⟩
        refine ⟨_, ldRA hl j hdx rfl rfl rfl rfl, ?_⟩
        intro db
        refine st 0 rfl rfl rfl rfl rfl ?_
        refine ⟨_, ld 0 rfl rfl rfl, ?_⟩
        refine ⟨_, ld 1 rfl rfl rfl, ?_⟩
        refine ⟨fun g1 => ?_, fun g1 => ?_⟩
        · have g1 : d.th = c.th := of_decide_eq_true g1
          refine ⟨_, ld 0 rfl rfl rfl, ?_⟩
          refine ⟨_, ld 1 rfl rfl rfl, ?_⟩
          refine ⟨fun g2 => ?_, fun g2 => ?_⟩
          · have g2 : d.en ≥ c.bg := of_decide_eq_true g2
            refine ⟨_, ld 1 rfl rfl rfl, ?_⟩
            refine ⟨_, ld 0 rfl rfl rfl, ?_⟩
            refine ⟨fun g3 => ?_, fun g3 => ?_⟩
            · have g3 : c.en ≥ d.bg := of_decide_eq_true g3
              exact ⟨[], .pick [], false, rfl, ⟨nofun, fun hv => absurd ⟨g1, g2, g3⟩ ((hv k c hcx).2 j d hjk hdx)⟩, rfl⟩
            · have g3 : ¬ (c.en ≥ d.bg) := of_decide_eq_false g3
              refine ⟨_, wrap_i64 (by omega) (by omega), ?_⟩
              exact backI (j + 1) (by omega) (next fun h => g3 h.2.2) ⟨rfl, rfl, rfl, rfl, rfl, rfl, rfl, rfl, rfl, trivial⟩ (.pick [1])
          · have g2 : ¬ (d.en ≥ c.bg) := of_decide_eq_false g2
            repeat (refine ⟨nofun, fun _ => ?_⟩)
            refine ⟨_, wrap_i64 (by omega) (by omega), ?_⟩
            exact backI (j + 1) (by omega) (next fun h => g2 h.2.1) ⟨rfl, rfl, rfl, rfl, rfl, rfl, rfl, rfl, rfl, trivial⟩ (.pick [1])
        · have g1 : ¬ (d.th = c.th) := of_decide_eq_false g1
          repeat (refine ⟨nofun, fun _ => ?_⟩)
          refine ⟨_, wrap_i64 (by omega) (by omega), ?_⟩
          exact backI (j + 1) (by omega) (next fun h => g1 h.1) ⟨rfl, rfl, rfl, rfl, rfl, rfl, rfl, rfl, rfl, trivial⟩ (.pick [1])
      · have hjk : j = k := by have := of_decide_eq_false hge; omega
        refine ⟨_, wrap_i64 (by omega) (by omega), ?_⟩
        exact backI (k + 1) (by omega) ⟨hkn, fun i c' hi hc' => by
          rcases Nat.lt_or_ge i k with h' | h'
          · exact hinv i c' h' hc'
          · obtain rfl : i = k := by omega
            rw [hcx] at hc'; cases hc'
            exact ⟨hok, fun i' d' hi' hd' => hin i' d' (by omega) hd'⟩⟩ ⟨rfl, rfl, rfl, rfl, trivial⟩ (.pick [])
    have hk : ¬ c.kind = 0 := of_decide_eq_false hk
    refine ⟨fun hk1 => ?_, fun hk1 => ?_⟩
    · have hk1 : c.kind = 1 := of_decide_eq_true hk1
      refine ⟨fun _ => ?_, fun h => absurd hk1 (of_decide_eq_false h)⟩
      have hok : OkCl c := ⟨by omega, by omega, by omega, by omega, by omega, fun h => absurd h hk⟩
      refine ⟨_, slHi k rfl (by omega) rfl rfl rfl, ?_⟩
      refine loopI (σ := Nat) (fun j => [(0, .slice (some ⟨b, o, none⟩) n cap), (3, .int .i64 k), (4, .pointer (some ⟨cb, 0, none⟩)), (8, .slice (some ⟨b, o, none⟩) n cap), (9, .int .i64 n), (10, .int .i64 k), (78, .slice (some ⟨b, o, none⟩) k cap), (79, .int .i64 k), (80, .int .i64 j)]) (fun _ => [pt cb (encCl c) 41])
        (fun j => j ≤ k ∧ ∀ (i : Nat) (d : Cl), i < j → xs[i]? = some d → ¬ Clash d c) (fun j => k - j) 0 ⟨rfl, rfl, rfl, rfl, rfl, rfl, rfl, rfl, rfl, trivial⟩ (.pick [1]) ⟨Nat.zero_le _, fun i c hi => by omega⟩ ?_
      rintro j ⟨hj, hin⟩
      refine ⟨fun hlt => ?_, fun hge => ?_⟩
      · have hjk : j < k := by have := of_decide_eq_true hlt; omega
        obtain ⟨d, hdx⟩ : ∃ d, xs[j]? = some d := ⟨xs[j]'(by omega), by simp [show j < xs.length by omega]⟩
        have next : ¬ Clash d c → j + 1 ≤ k ∧ ∀ (i : Nat) (d : Cl), i < j + 1 → xs[i]? = some d → ¬ Clash d c := fun h => ⟨hjk, fun i d' hi hd' => by
          rcases Nat.lt_or_ge i j with h' | h'
          · exact hin i d' h' hd'
          · obtain rfl : i = j := by omega
            rw [hdx] at hd'; cases hd'; exact h⟩
        refine ⟨j, rfl, hjk, ?_⟩
        refine ⟨_, ldRA hl j hdx rfl rfl rfl rfl, ?_⟩
        intro db
        refine st 0 rfl rfl rfl rfl rfl ?_
        refine ⟨_, ld 0 rfl rfl rfl, ?_⟩
        refine ⟨_, ld 1 rfl rfl rfl, ?_⟩
        refine ⟨fun g1 => ?_, fun g1 => ?_⟩
        · have g1 : d.th = c.th := of_decide_eq_true g1
          refine ⟨_, ld 0 rfl rfl rfl, ?_⟩
          refine ⟨_, ld 1 rfl rfl rfl, ?_⟩
          refine ⟨fun g2 => ?_, fun g2 => ?_⟩
          · have g2 : d.en ≥ c.bg := of_decide_eq_true g2
            refine ⟨_, ld 1 rfl rfl rfl, ?_⟩
            refine ⟨_, ld 0 rfl rfl rfl, ?_⟩
            refine ⟨fun g3 => ?_, fun g3 => ?_⟩
            · have g3 : c.en ≥ d.bg := of_decide_eq_true g3
              exact ⟨[], .pick [], false, rfl, ⟨nofun, fun hv => absurd ⟨g1, g2, g3⟩ ((hv k c hcx).2 j d hjk hdx)⟩, rfl⟩
            · have g3 : ¬ (c.en ≥ d.bg) := of_decide_eq_false g3
              refine ⟨_, wrap_i64 (by omega) (by omega), ?_⟩
              exact backI (j + 1) (by omega) (next fun h => g3 h.2.2) ⟨rfl, rfl, rfl, rfl, rfl, rfl, rfl, rfl, rfl, trivial⟩ (.pick [1])
          · have g2 : ¬ (d.en ≥ c.bg) := of_decide_eq_false g2
            repeat (refine ⟨nofun, fun _ => ?_⟩)
            refine ⟨_, wrap_i64 (by omega) (by omega), ?_⟩
            exact backI (j + 1) (by omega) (next fun h => g2 h.2.1) ⟨rfl, rfl, rfl, rfl, rfl, rfl, rfl, rfl, rfl, trivial⟩ (.pick [1])
        · have g1 : ¬ (d.th = c.th) := of_decide_eq_false g1
          repeat (refine ⟨nofun, fun _ => ?_⟩)
          refine ⟨_, wrap_i64 (by omega) (by omega), ?_⟩
          exact backI (j + 1) (by omega) (next fun h => g1 h.1) ⟨rfl, rfl, rfl, rfl, rfl, rfl, rfl, rfl, rfl, trivial⟩ (.pick [1])
      · have hjk : j = k := by have := of_decide_eq_false hge; omega
        refine ⟨_, wrap_i64 (by omega) (by omega), ?_⟩
        exact backI (k + 1) (by omega) ⟨hkn, fun i c' hi hc' => by
          rcases Nat.lt_or_ge i k with h' | h'
          · exact hinv i c' h' hc'
          · obtain rfl : i = k := by omega
            rw [hcx] at hc'; cases hc'
            exact ⟨hok, fun i' d' hi' hd' => hin i' d' (by omega) hd'⟩⟩ ⟨rfl, rfl, rfl, rfl, trivial⟩ (.pick [])
    have hk1 : ¬ c.kind = 1 := of_decide_eq_false hk1
    refine ⟨fun hk2 => ?_, fun hk2 => ?_⟩
    · have hk2 : c.kind = 2 := of_decide_eq_true hk2
      have hok : OkCl c := ⟨by omega, by omega, by omega, by omega, by omega, fun h => absurd h hk⟩
      refine ⟨_, slHi k rfl (by omega) rfl rfl rfl, ?_⟩
      refine loopI (σ := Nat) (fun j => [(0, .slice (some ⟨b, o, none⟩) n cap), (3, .int .i64 k), (4, .pointer (some ⟨cb, 0, none⟩)), (8, .slice (some ⟨b, o, none⟩) n cap), (9, .int .i64 n), (10, .int .i64 k), (78, .slice (some ⟨b, o, none⟩) k cap), (79, .int .i64 k), (80, .int .i64 j)]) (fun _ => [pt cb (encCl c) 41])
        (fun j => j ≤ k ∧ ∀ (i : Nat) (d : Cl), i < j → xs[i]? = some d → ¬ Clash d c) (fun j => k - j) 0 ⟨rfl, rfl, rfl, rfl, rfl, rfl, rfl, rfl, rfl, trivial⟩ (.pick [1]) ⟨Nat.zero_le _, fun i c hi => by omega⟩ ?_
      rintro j ⟨hj, hin⟩
      refine ⟨fun hlt => ?_, fun hge => ?_⟩
      · have hjk : j < k := by have := of_decide_eq_true hlt; omega
        obtain ⟨d, hdx⟩ : ∃ d, xs[j]? = some d := ⟨xs[j]'(by omega), by simp [show j < xs.length by omega]⟩
        have next : ¬ Clash d c → j + 1 ≤ k ∧ ∀ (i : Nat) (d : Cl), i < j + 1 → xs[i]? = some d → ¬ Clash d c := fun h => ⟨hjk, fun i d' hi hd' => by
          rcases Nat.lt_or_ge i j with h' | h'
          · exact hin i d' h' hd'
          · obtain rfl : i = j := by omega
            rw [hdx] at hd'; cases hd'; exact h⟩
        refine ⟨j, rfl, hjk, ?_⟩
        refine ⟨_, ldRA hl j hdx rfl rfl rfl rfl, ?_⟩
        intro db
        refine st 0 rfl rfl rfl rfl rfl ?_
        refine ⟨_, ld 0 rfl rfl rfl, ?_⟩
        refine ⟨_, ld 1 rfl rfl rfl, ?_⟩
        refine ⟨fun g1 => ?_, fun g1 => ?_⟩
        · have g1 : d.th = c.th := of_decide_eq_true g1
          refine ⟨_, ld 0 rfl rfl rfl, ?_⟩
          refine ⟨_, ld 1 rfl rfl rfl, ?_⟩
          refine ⟨fun g2 => ?_, fun g2 => ?_⟩
          · have g2 : d.en ≥ c.bg := of_decide_eq_true g2
            refine ⟨_, ld 1 rfl rfl rfl, ?_⟩
            refine ⟨_, ld 0 rfl rfl rfl, ?_⟩
            refine ⟨fun g3 => ?_, fun g3 => ?_⟩
            · have g3 : c.en ≥ d.bg := of_decide_eq_true g3
              exact ⟨[], .pick [], false, rfl, ⟨nofun, fun hv => absurd ⟨g1, g2, g3⟩ ((hv k c hcx).2 j d hjk hdx)⟩, rfl⟩
            · have g3 : ¬ (c.en ≥ d.bg) := of_decide_eq_false g3
              refine ⟨_, wrap_i64 (by omega) (by omega), ?_⟩
              exact backI (j + 1) (by omega) (next fun h => g3 h.2.2) ⟨rfl, rfl, rfl, rfl, rfl, rfl, rfl, rfl, rfl, trivial⟩ (.pick [1])
          · have g2 : ¬ (d.en ≥ c.bg) := of_decide_eq_false g2
            repeat (refine ⟨nofun, fun _ => ?_⟩)
            refine ⟨_, wrap_i64 (by omega) (by omega), ?_⟩
            exact backI (j + 1) (by omega) (next fun h => g2 h.2.1) ⟨rfl, rfl, rfl, rfl, rfl, rfl, rfl, rfl, rfl, trivial⟩ (.pick [1])
        · have g1 : ¬ (d.th = c.th) := of_decide_eq_false g1
          repeat (refine ⟨nofun, fun _ => ?_⟩)
          refine ⟨_, wrap_i64 (by omega) (by omega), ?_⟩
          exact backI (j + 1) (by omega) (next fun h => g1 h.1) ⟨rfl, rfl, rfl, rfl, rfl, rfl, rfl, rfl, rfl, trivial⟩ (.pick [1])
      · have hjk : j = k := by have := of_decide_eq_false hge; omega
        refine ⟨_, wrap_i64 (by omega) (by omega), ?_⟩
        exact backI (k + 1) (by omega) ⟨hkn, fun i c' hi hc' => by
          rcases Nat.lt_or_ge i k with h' | h'
          · exact hinv i c' h' hc'
          · obtain rfl : i = k := by omega
            rw [hcx] at hc'; cases hc'
            exact ⟨hok, fun i' d' hi' hd' => hin i' d' (by omega) hd'⟩⟩ ⟨rfl, rfl, rfl, rfl, trivial⟩ (.pick [])
    have hk2 : ¬ c.kind = 2 := of_decide_eq_false hk2
    exact ⟨[], .pick [], false, rfl, ⟨nofun, fun hv => absurd hv (bad fun h => by have := h.kind; omega)⟩, rfl⟩
  · have hkn : k = n := by have := of_decide_eq_false hge; omega
    refine ⟨[], .pick [], true, rfl, ⟨fun _ i c hi => hinv i c ?_ hi, fun _ => rfl⟩, rfl⟩
    rcases Nat.lt_or_ge i xs.length with h | h
    · omega
    · rw [List.getElem?_eq_none h] at hi; cases hi

end Go.Proofs.YtfebaopjfmpfkaaDoor
