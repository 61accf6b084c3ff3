/- LinearAlone and LinearParts: the walks. -/
import Derived.Test.YtfebaopjfmpfkaaDoorL17
namespace Go.Proofs.YtfebaopjfmpfkaaDoor
open Go.X
set_option maxRecDepth 10000
set_option linter.unusedVariables false
set_option linter.unusedSimpArgs false

theorem alone_spec (la : Option Addr) (n cap : Nat) (xs : List Cl) (w : World) (S : FP) (hr : InR xs) (hT : RO w S tabC) (hl : RO w S (roS la 9 encCl xs)) (hn : xs.length = n)
    (hc : n ≤ cap) (hc2 : cap ≤ maxLen) (hd : ∀ b, S b → b < w.heap.size) :
    Trip Tryd.prog 10 #[.slice la n cap] w S fun v L => v = .bool true ∧ L = [] := by
  refine Trip.of_x (L := []) Tryd.func10 (by kernel_rfl) rfl Tryd.ntmps10 Tryd.results10 rfl (ctx_ok _) trivial hd ?_
  refine ⟨fun h => ?_, fun h => ?_⟩
  · refine callP [] (fun w S hR hB hS hd => awake_spec w S (hR _ hT) hd) ?_
    rintro _ _ ⟨rfl, rfl⟩
    exact ⟨_, .pick [], rfl, rfl⟩
  have hn40 : n ≤ 40 := by have := of_decide_eq_false h; omega
  refine loopI (σ := Nat) (fun i => [(0, .slice la n cap), (3, .int .i64 i)]) (fun _ => []) (fun i => i ≤ n ∧ ∀ (i' k : Nat) (c d : Cl), i' < i → k < i' → xs[i']? = some c → xs[k]? = some d → ¬ (c.bg ≤ d.en ∧ d.bg ≤ c.en)) (fun i => n - i) 0
    ⟨rfl, rfl, trivial⟩ (.refl _) ⟨Nat.zero_le _, fun i' k c d h => by omega⟩ ?_
  rintro i ⟨hi, hin⟩
  refine ⟨fun hlt => ?_, fun hge => ?_⟩
  · have hi' : i < n := by have := of_decide_eq_true hlt; omega
    obtain ⟨x, hx⟩ : ∃ x, xs[i]? = some x := ⟨xs[i]'(by omega), by simp [show i < xs.length by omega]⟩
    obtain ⟨b, o, rfl⟩ := roS_at hl (by omega)
    refine loopI (σ := Nat) (fun k => [(0, .slice (some ⟨b, o, none⟩) n cap), (3, .int .i64 i), (4, .int .i64 k)]) (fun _ => []) (fun k => k ≤ i ∧ ∀ (k' : Nat) (d : Cl), k' < k → xs[k']? = some d → ¬ (x.bg ≤ d.en ∧ d.bg ≤ x.en)) (fun k => i - k) 0
      ⟨rfl, rfl, rfl, trivial⟩ (.refl _) ⟨Nat.zero_le _, fun k' d h => by omega⟩ ?_
    rintro k ⟨hk, hkn⟩
    refine ⟨fun hlt => ?_, fun hge => ?_⟩
    · have hk' : k < i := by have := of_decide_eq_true hlt; omega
      obtain ⟨y, hy⟩ : ∃ y, xs[k]? = some y := ⟨xs[k]'(by omega), by simp [show k < xs.length by omega]⟩
      have next : ¬ (x.bg ≤ y.en ∧ y.bg ≤ x.en) → k + 1 ≤ i ∧ ∀ (k' : Nat) (d : Cl), k' < k + 1 → xs[k']? = some d → ¬ (x.bg ≤ d.en ∧ d.bg ≤ x.en) := fun hno => ⟨hk', fun k' d h hd => by
        rcases Nat.lt_or_ge k' k with h' | h'
        · exact hkn k' d h' hd
        · obtain rfl : k' = k := by omega
          rw [hy] at hd; cases hd; exact hno⟩
      refine Or.inl ⟨by kernel_rfl, ?_⟩
      refine ⟨i, rfl, by omega, ?_⟩
      refine ⟨_, ldR hl i 1 hx rfl rfl rfl, ?_⟩
      refine ⟨k, rfl, by omega, ?_⟩
      refine ⟨_, ldR hl k 2 hy rfl rfl rfl, ?_⟩
      refine ⟨fun h1 => ?_, fun h1 => ?_⟩
      · refine ⟨k, rfl, by omega, ?_⟩
        refine ⟨_, ldR hl k 1 hy rfl rfl rfl, ?_⟩
        refine ⟨i, rfl, by omega, ?_⟩
        refine ⟨_, ldR hl i 2 hx rfl rfl rfl, ?_⟩
        refine ⟨fun h2 => ?_, fun h2 => ?_⟩
        · refine callP [] (fun w S hR hB hS hd => awake_spec w S (hR _ hT) hd) ?_
          rintro _ _ ⟨rfl, rfl⟩
          exact ⟨_, .pick [], rfl, rfl⟩
        · refine ⟨_, wrap_i64 (by omega) (by omega), ?_⟩
          exact backI (k + 1) (by omega) (next fun h => of_decide_eq_false h2 h.2) ⟨rfl, rfl, rfl, trivial⟩ (.refl _)
      · refine ⟨nofun, fun _ => ?_⟩
        refine ⟨_, wrap_i64 (by omega) (by omega), ?_⟩
        exact backI (k + 1) (by omega) (next fun h => of_decide_eq_false h1 h.1) ⟨rfl, rfl, rfl, trivial⟩ (.refl _)
    · have hk' : k = i := by have := of_decide_eq_false hge; omega
      refine ⟨_, wrap_i64 (by omega) (by omega), ?_⟩
      exact backI (i + 1) (by omega) ⟨hi', fun i' k' c d h h' hc hd => by
        rcases Nat.lt_or_ge i' i with h'' | h''
        · exact hin i' k' c d h'' h' hc hd
        · obtain rfl : i' = i := by omega
          rw [hx] at hc; cases hc
          exact hkn k' d (by omega) hd⟩ ⟨rfl, rfl, trivial⟩ (.refl _)
  have hi' : i = n := by have := of_decide_eq_false hge; omega
  subst hi'
  have hno : ∀ (i k : Nat) (c d : Cl), k < i → xs[i]? = some c → xs[k]? = some d → ¬ (c.bg ≤ d.en ∧ d.bg ≤ c.en) := fun i k c d h hc hd => hin i k c d (by have := (List.getElem?_eq_some_iff.1 hc).1; omega) h hc hd
  refine callP [] (fun w S hR hB hS hd => Check_at la _ cap xs w S hr (hR _ hT) (hR _ hl) hn hc (by omega) hd) ?_
  rintro _ _ ⟨e, o, a, c, rfl, hchk, hat, rfl⟩
  refine ⟨fun he => ?_, fun he => ?_⟩
  · have he : e ≠ 0 := of_decide_eq_true he
    obtain rfl : o = [] := by
      rcases hchk with ⟨_, _, h⟩ | ⟨_, h, _⟩ | ⟨_, _, h, _⟩
      · exact h
      · exact absurd h he
      · exact h
    refine ⟨fun _ => ?_, fun h => absurd (of_decide_eq_false h) (by simp)⟩
    refine callP [] (fun w S hR hB hS hd => awake_spec w S (hR _ hT) hd) ?_
    rintro _ _ ⟨rfl, rfl⟩
    exact ⟨_, .pick [], rfl, rfl⟩
  have he : e = 0 := by simpa using he
  subst he
  obtain ⟨hc0, hle⟩ : chk xs = 0 ∧ Least xs 0 [] o := by
    rcases hchk with ⟨h1, h2, _⟩ | ⟨h1, _, h2⟩ | ⟨_, h2, _⟩
    · exact absurd h2.symm h1
    · exact ⟨h1, h2⟩
    · omega
  obtain ⟨hs64, hval⟩ := chk_ok hc0
  have hio := hle.1.isOrd hs64
  have hol : o.length = i := by rw [← hn]; exact hio.len
  refine loopI (σ := Nat) (fun k => [(0, .slice la i cap), (5, .slice a o.length c), (7, .int .i64 k)]) (fun _ => [own a c 3 1 encN o]) (fun k => k ≤ i) (fun k => i - k) 0
    ⟨rfl, rfl, rfl, trivial⟩ (.refl _) (Nat.zero_le _) ?_
  rintro k hk
  refine ⟨fun hlt => ?_, fun hge => ?_⟩
  · have hk' : k < i := by have := of_decide_eq_true hlt; omega
    obtain ⟨p, hp⟩ : ∃ p, o[k]? = some p := ⟨o[k]'(by omega), by simp [show k < o.length by omega]⟩
    have hpl : p < xs.length := hio.lt p (List.mem_of_getElem? hp)
    obtain ⟨g, rfl⟩ := hat (by rintro rfl; simp at hp)
    obtain ⟨b, o1, rfl⟩ := roS_at hl (by omega)
    refine Or.inl ⟨by kernel_rfl, ?_⟩
    refine ⟨k, rfl, by omega, ?_⟩
    refine ⟨_, ldO 0 k 0 rfl (fun _ _ => rfl) hp rfl rfl (by show 0 + k = k * 1 + 0; omega), ?_⟩
    refine ⟨fun h => absurd (of_decide_eq_true h) (by omega), fun _ => ?_⟩
    refine ⟨k, rfl, by omega, ?_⟩
    refine ⟨_, ldO 0 k 0 rfl (fun _ _ => rfl) hp rfl rfl (by show 0 + k = k * 1 + 0; omega), ?_⟩
    refine ⟨fun h => absurd (of_decide_eq_true h) (by omega), fun _ => ?_⟩
    refine ⟨fun h => ?_, fun h => ?_⟩
    · have hk0 : 0 < k := by have := of_decide_eq_true h; omega
      obtain ⟨k, rfl⟩ : ∃ k', k = k' + 1 := ⟨k - 1, by omega⟩
      obtain ⟨q, hq⟩ : ∃ q, o[k]? = some q := ⟨o[k]'(by omega), by simp [show k < o.length by omega]⟩
      have hql : q < xs.length := hio.lt q (List.mem_of_getElem? hq)
      obtain ⟨x, hx⟩ : ∃ x, xs[p]? = some x := ⟨xs[p]'hpl, by simp [hpl]⟩
      obtain ⟨y, hy⟩ : ∃ y, xs[q]? = some y := ⟨xs[q]'hql, by simp [hql]⟩
      have hlaw := alone_at hs64 hval hle.1 hno hq hp hy hx
      refine ⟨(k : Int), by rw [show (((k + 1 : Nat) : Int) - 1) = k by omega]; exact wrap_i64 (by omega) (by omega), ?_⟩
      refine ⟨k, rfl, by omega, ?_⟩
      refine ⟨_, ldO 0 k 0 rfl (fun _ _ => rfl) hq rfl rfl (by show 0 + k = k * 1 + 0; omega), ?_⟩
      refine ⟨q, rfl, by omega, ?_⟩
      refine ⟨_, ldR hl q 2 hy rfl rfl rfl, ?_⟩
      refine ⟨k + 1, rfl, by omega, ?_⟩
      refine ⟨_, ldO 0 (k + 1) 0 rfl (fun _ _ => rfl) hp rfl rfl (by show 0 + (k + 1) = (k + 1) * 1 + 0; omega), ?_⟩
      refine ⟨p, rfl, by omega, ?_⟩
      refine ⟨_, ldR hl p 1 hx rfl rfl rfl, ?_⟩
      refine ⟨fun h => absurd (of_decide_eq_true h) (by omega), fun _ => ?_⟩
      refine ⟨((k + 1 + 1 : Nat) : Int), by rw [show (((k + 1 : Nat) : Int) + 1) = ((k + 1 + 1 : Nat) : Int) by omega]; exact wrap_i64 (by omega) (by omega), ?_⟩
      exact backI (k + 1 + 1) (by omega) (by show k + 1 + 1 ≤ i; omega) ⟨rfl, rfl, rfl, trivial⟩ (.refl _)
    · repeat (refine ⟨nofun, fun _ => ?_⟩)
      refine ⟨_, wrap_i64 (by omega) (by omega), ?_⟩
      exact backI (k + 1) (by omega) (by show k + 1 ≤ i; omega) ⟨rfl, rfl, rfl, trivial⟩ (.refl _)
  · refine ⟨fun _ => ?_, fun h => absurd (of_decide_eq_false h) (by rw [hol]; simp)⟩
    refine callP [] (fun w S hR hB hS hd => awake_spec w S (hR _ hT) hd) ?_
    rintro _ _ ⟨rfl, rfl⟩
    exact ⟨_, .pick [], rfl, rfl⟩
end Go.Proofs.YtfebaopjfmpfkaaDoor
