/- LinearChecks: the walk. -/
import Derived.Test.YtfebaopjfmpfkaaDoorR10
import Derived.Test.YtfebaopjfmpfkaaDoorL14
namespace Go.Proofs.YtfebaopjfmpfkaaDoor
open Go.X
set_option maxRecDepth 10000
set_option linter.unusedVariables false
set_option linter.unusedSimpArgs false

theorem ChkR.uniq {xs : List Cl} {e e' : Int} {o o' : List Nat} (h : ChkR xs e o) (h' : ChkR xs e' o') : e = e' ∧ o = o' := by
  rcases h with ⟨h1, h2, h3⟩ | ⟨h1, h2, h3⟩ | ⟨h1, h2, h3, h4⟩ <;> rcases h' with ⟨k1, k2, k3⟩ | ⟨k1, k2, k3⟩ | ⟨k1, k2, k3, k4⟩
  · exact ⟨h2.trans k2.symm, h3.trans k3.symm⟩
  · exact absurd k1 h1
  · exact absurd k1 h1
  · exact absurd h1 k1
  · exact ⟨h2.trans k2.symm, h3.uniq k3⟩
  · exact absurd h3.1 (k4 o)
  · exact absurd h1 k1
  · exact absurd k3.1 (h4 o')
  · exact ⟨h2.trans k2.symm, h3.trans k3.symm⟩
theorem PrefR.uniq {xs ys : List Cl} {p p' : Nat} {e e' : Int} (h : PrefR xs ys p e) (h' : PrefR xs ys p' e') : p = p' ∧ e = e' := by
  rcases h with ⟨h1, h2, h3⟩ | ⟨h1, h2, h3, h4, h5⟩ <;> rcases h' with ⟨k1, k2, k3⟩ | ⟨k1, k2, k3, k4, k5⟩
  · exact ⟨h2.trans k2.symm, h3.trans k3.symm⟩
  · exact absurd k1 h1
  · exact absurd h1 k1
  · refine ⟨?_, h2.trans k2.symm⟩
    rcases Nat.lt_trichotomy p p' with h | h | h
    · rcases k5 with rfl | ⟨o, ho⟩
      · omega
      · exact absurd ho (h4 p' h k3 o)
    · exact h
    · rcases h5 with rfl | ⟨o, ho⟩
      · omega
      · exact absurd ho (k4 p h h3 o)

theorem great_spec (la : Option Addr) (n cap : Nat) (w : World) (S : FP) (hd : ∀ b, S b → b < w.heap.size) :
    Trip Tryd.prog 12 #[.slice la n cap] w S fun v L => v = .bool (decide (14 < n ∧ n ≤ 64)) ∧ L = [] := by
  refine Trip.of_x (L := []) Tryd.func12 (by kernel_rfl) rfl Tryd.ntmps12 Tryd.results12 rfl (ctx_ok _) trivial hd ?_
  refine ⟨fun h => ?_, fun h => ?_⟩
  · have h : (n : Int) > 14 := of_decide_eq_true h
    refine ⟨_, .pick [], ?_, rfl⟩
    by_cases h' : n ≤ 64
    · rw [decide_eq_true (show 14 < n ∧ n ≤ 64 by omega)]
      show Value.bool (decide ((n : Int) ≤ 64)) = _
      rw [decide_eq_true (by omega)]
    · rw [decide_eq_false (show ¬ (14 < n ∧ n ≤ 64) by omega)]
      show Value.bool (decide ((n : Int) ≤ 64)) = _
      rw [decide_eq_false (by omega)]
  · have h : ¬ (n : Int) > 14 := of_decide_eq_false h
    exact ⟨_, .pick [], by rw [decide_eq_false (show ¬ (14 < n ∧ n ≤ 64) by omega)]; rfl, rfl⟩

theorem prefix_at (la : Option Addr) (n cap : Nat) (xs : List Cl) (w : World) (S : FP) (hr : InR xs) (hT : RO w S tabC) (hl : RO w S (roS la 9 encCl xs)) (hn : xs.length = n) (hc : n ≤ cap) (hn2 : chk xs = 0 → n < 20) (hn3 : n ≤ 4611686018427387904) (hd : ∀ b, S b → b < w.heap.size) :
    Trip Tryd.prog 16 #[.slice la n cap] w S fun v L => ∃ (p : Nat) (e : Int), v = .tuple #[.int .i64 p, .int .i64 e] ∧ PrefR xs (sorted xs) p e ∧ L = [] := by
  by_cases h0 : chk xs = 0
  · exact prefix_spec la n cap xs w S hr hT hl hn hc (hn2 h0) (fun h => by
      by_cases hx : xs = []
      · exact hx
      · obtain ⟨b, o, h'⟩ := roS_at hl (by cases xs with | nil => exact absurd rfl hx | cons _ _ => simp)
        rw [h] at h'; cases h') hd
  · refine Trip.of_x (L := []) Tryd.func16 (by kernel_rfl) rfl Tryd.ntmps16 Tryd.results16 rfl (ctx_ok _) trivial hd ?_
    refine callP [] (fun w S hR hB hS hd => check_spec la n cap xs w S (hR _ hl) hn hc hn3 hd) ?_
    rintro _ _ ⟨rfl, rfl⟩
    refine ⟨fun h => ?_, fun h => absurd (of_decide_eq_false h) (by simpa using h0)⟩
    exact ⟨_, .pick [], 0, chk xs, rfl, .inl ⟨h0, rfl, rfl⟩, rfl⟩

theorem checks_spec (la : Option Addr) (n cap : Nat) (xs : List Cl) (w : World) (S : FP) (hr : InR xs) (hT : RO w S tabC) (hl : RO w S (roS la 9 encCl xs)) (hn : xs.length = n)
    (hc : n ≤ cap) (hc2 : cap ≤ maxLen) (hd : ∀ b, S b → b < w.heap.size) :
    Trip Tryd.prog 3 #[.slice la n cap] w S fun v L => v = .bool true ∧ L = [] := by
  refine Trip.of_x (L := []) Tryd.func3 (by kernel_rfl) rfl Tryd.ntmps3 Tryd.results3 rfl (ctx_ok _) trivial hd ?_
  refine callP [] (fun w S hR hB hS hd => great_spec la n cap w S hd) ?_
  rintro _ _ ⟨rfl, rfl⟩
  refine ⟨fun h => ?_, fun h => ?_⟩
  · repeat (refine ⟨fun _ => ?_, nofun⟩)
    refine callP [] (fun w S hR hB hS hd => awake_spec w S (hR _ hT) hd) ?_
    rintro _ _ ⟨rfl, rfl⟩
    exact ⟨_, .pick [], rfl, rfl⟩
  have hg : ¬ (14 < n ∧ n ≤ 64) := of_decide_eq_false h
  refine ⟨fun h => ?_, fun h => ?_⟩
  · refine callP [] (fun w S hR hB hS hd => awake_spec w S (hR _ hT) hd) ?_
    rintro _ _ ⟨rfl, rfl⟩
    exact ⟨_, .pick [], rfl, rfl⟩
  have hn80 : n ≤ 80 := by have := of_decide_eq_false h; omega
  have hn14 : chk xs = 0 → n ≤ 14 := fun h0 => by have := (chk_ok h0).1; omega
  refine callP [] (fun w S hR hB hS hd => Check_spec la n cap xs w S hr (hR _ hT) (hR _ hl) hn hc (by omega) hd) ?_
  rintro _ _ ⟨e, o, a, c, rfl, hchk, rfl⟩
  refine callP [] (fun w S hR hB hS hd => checkR_spec la n cap xs w S hr (hR _ hl) hn hc (by omega) hn14 hd) ?_
  rintro _ _ ⟨e', o', a', c', l', rfl, hchk', hP, hoi, rfl⟩
  obtain ⟨rfl, rfl⟩ := hchk.uniq hchk'
  refine callP [] (fun w S hR hB hS hd => prefix_at la n cap xs w S hr (hR _ hT) (hR _ hl) hn hc (fun h => by have := hn14 h; omega) (by omega) hd) ?_
  rintro _ _ ⟨p, e2, rfl, hpr, rfl⟩
  refine callP [] (fun w S hR hB hS hd => prefixR_spec la n cap xs w S hr (hR _ hl) hn hc (by omega) hn14 hd) ?_
  rintro _ _ ⟨p', e2', rfl, hpr', rfl⟩
  obtain ⟨rfl, rfl⟩ := hpr.uniq hpr'
  have hol : o.length ≤ 64 := by
    rcases hchk with ⟨_, _, rfl⟩ | ⟨h0, _, h⟩ | ⟨_, _, rfl, _⟩
    · simp
    · have := (h.1.isOrd (chk_ok h0).1).len; have := (chk_ok h0).1; omega
    · simp
  refine callP [] (fun w S hR hB hS hd => ints_spec a a' o.length o.length c c' (o.map fun i : Nat => (i : Int)) (o.map fun i : Nat => (i : Int)) w S (roS_map (enc' := encZ1) (fun i : Nat => (i : Int)) (fun _ => rfl) ((hB _ (lget_mem (i := 1) rfl)).own (enc := encN) (fun _ _ => rfl) (by decide))) (roS_map (enc' := encZ1) (fun i : Nat => (i : Int)) (fun _ => rfl) ((hB _ (lget_mem (i := 0) rfl)).pool (it := ⟨a', 3, o.flatMap encN⟩) (sz := 1) (enc := encN) hoi rfl (fun _ _ => rfl) (by decide))) (by simp) (by simp) (by omega) (by omega) hd) ?_
  rintro _ _ ⟨rfl, rfl⟩
  refine ⟨fun _ => ?_, fun h => absurd h (by simp)⟩
  refine ⟨fun _ => ?_, fun h => absurd (of_decide_eq_false h) (by simp)⟩
  refine ⟨fun _ => ?_, fun h => absurd (of_decide_eq_false h) (by simp)⟩
  refine ⟨fun _ => ?_, fun h => absurd (of_decide_eq_false h) (by simp)⟩
  refine callP [] (fun w S hR hB hS hd => awake_spec w S (hR _ hT) hd) ?_
  rintro _ _ ⟨rfl, rfl⟩
  exact ⟨_, .pick [], rfl, rfl⟩
end Go.Proofs.YtfebaopjfmpfkaaDoor
