/- LinearLeast: the walk. -/
import Derived.Test.YtfebaopjfmpfkaaDoorL15
import Derived.Test.YtfebaopjfmpfkaaDoorL16
import Derived.Test.YtfebaopjfmpfkaaDoorX22
namespace Go.Proofs.YtfebaopjfmpfkaaDoor
open Go.X
set_option maxRecDepth 10000
set_option linter.unusedVariables false
set_option linter.unusedSimpArgs false

theorem Check_at (la : Option Addr) (n cap : Nat) (xs : List Cl) (w : World) (S : FP) (hr : InR xs) (hT : RO w S tabC) (hl : RO w S (roS la 9 encCl xs)) (hn : xs.length = n) (hc : n ≤ cap) (hn2 : n ≤ 4611686018427387904) (hd : ∀ b, S b → b < w.heap.size) :
    Trip Tryd.prog 14 #[.slice la n cap] w S fun v L => ∃ e o a c, v = .tuple #[.slice a o.length c, .int .i64 e] ∧ ChkR xs e o ∧ (o ≠ [] → ∃ g, a = some ⟨g, 0, none⟩) ∧ L = [own a c 3 1 encN o] :=
  (Check_spec la n cap xs w S hr hT hl hn hc hn2 hd).fact fun v L w' ⟨e, o, a, c, h1, h2, h3⟩ hI => ⟨e, o, a, c, h1, h2, fun hne => by subst h3; exact hI.ownAt (List.mem_singleton.2 rfl) hne, h3⟩

theorem least_spec (la oa : Option Addr) (n cap m oc : Nat) (xs : List Cl) (ord : List Int) (w : World) (S : FP) (hr : InR xs) (hT : RO w S tabC) (hl : RO w S (roS la 9 encCl xs)) (ho : RO w S (roS oa 1 encZ1 ord)) (hn : xs.length = n) (hm : ord.length = m)
    (hc : n ≤ cap) (hc2 : cap ≤ maxLen) (hoc : m ≤ oc) (hoc2 : oc ≤ maxLen) (hd : ∀ b, S b → b < w.heap.size) :
    Trip Tryd.prog 6 #[.slice la n cap, .slice oa m oc] w S fun v L => v = .bool true ∧ L = [] := by
  refine Trip.of_x (L := []) Tryd.func6 (by kernel_rfl) rfl Tryd.ntmps6 Tryd.results6 rfl (ctx_ok _) trivial hd ?_
  refine ⟨fun h => ?_, fun h => ?_⟩
  · repeat (refine ⟨fun _ => ?_, nofun⟩)
    refine callP [] (fun w S hR hB hS hd => awake_spec w S (hR _ hT) hd) ?_
    rintro _ _ ⟨rfl, rfl⟩
    exact ⟨_, .pick [], rfl, rfl⟩
  have hn40 : n ≤ 40 := by have := of_decide_eq_false h; omega
  refine ⟨fun h => ?_, fun h => ?_⟩
  · refine callP [] (fun w S hR hB hS hd => awake_spec w S (hR _ hT) hd) ?_
    rintro _ _ ⟨rfl, rfl⟩
    exact ⟨_, .pick [], rfl, rfl⟩
  have hmn : m = n := by
    have : (m : Int) = n := by simpa using h
    omega
  refine callP [] (fun w S hR hB hS hd => Check_at la n cap xs w S hr (hR _ hT) (hR _ hl) hn hc (by omega) hd) ?_
  rintro _ _ ⟨e, o, a, c, rfl, hchk, hat, rfl⟩
  refine callP [] (fun w S hR hB hS hd => Right_spec la oa n cap m oc xs ord w S hr (hR _ hl) (hR _ ho) hn hm hc (by omega) (by omega) hd) ?_
  rintro _ _ ⟨b, e2, rfl, hri, rfl⟩
  refine ⟨fun h => ?_, fun h => ?_⟩
  · repeat (refine ⟨fun _ => ?_, nofun⟩)
    refine callP [] (fun w S hR hB hS hd => awake_spec w S (hR _ hT) hd) ?_
    rintro _ _ ⟨rfl, rfl⟩
    exact ⟨_, .pick [], rfl, rfl⟩
  have he2 : e2 = 0 := by simpa using h
  refine ⟨fun h => ?_, fun h => ?_⟩
  · refine callP [] (fun w S hR hB hS hd => awake_spec w S (hR _ hT) hd) ?_
    rintro _ _ ⟨rfl, rfl⟩
    exact ⟨_, .pick [], rfl, rfl⟩
  have hb : b = true := by simpa using h
  subst hb
  subst he2
  obtain ⟨hc0, o', hio, hgo⟩ : chk xs = 0 ∧ ∃ o', IsOrd xs ord o' ∧ Good xs 0 [] o' := by
    rcases hri with ⟨_, h, _⟩ | ⟨_, _, h, _⟩ | ⟨h1, o', h2, _, h3⟩
    · cases h
    · cases h
    · exact ⟨h1, o', h2, h3.1 rfl⟩
  obtain ⟨rfl, hle⟩ : e = 0 ∧ Least xs 0 [] o := by
    rcases hchk with ⟨h1, _⟩ | ⟨_, h2, h3⟩ | ⟨_, _, _, h2⟩
    · exact absurd hc0 h1
    · exact ⟨h2, h3⟩
    · exact absurd hgo (h2 o')
  have hol : o.length = n := by have := (hle.1.isOrd (chk_ok hc0).1).len; omega
  have hlex := hle.2 o' hgo
  have heq := hio.eq
  refine ⟨fun h => absurd h (by decide), fun _ => ?_⟩
  refine ⟨fun h => absurd (of_decide_eq_true h) (by rw [hol, hmn]; simp), fun _ => ?_⟩
  refine loopI (σ := Nat) (fun k => [(1, .slice oa m oc), (5, .slice a o.length c), (9, .int .i64 k)]) (fun _ => [own a c 3 1 encN o])
    (fun k => k ≤ n ∧ ∀ j, j < k → o[j]? = o'[j]?) (fun k => n - k) 0 ⟨rfl, rfl, rfl, trivial⟩ (.refl _) ⟨Nat.zero_le _, fun j hj => by omega⟩ ?_
  rintro k ⟨hk, hin⟩
  refine ⟨fun hlt => ?_, fun hge => ?_⟩
  · have hkn : k < n := by have := of_decide_eq_true hlt; omega
    obtain ⟨p, hp⟩ : ∃ p, o[k]? = some p := ⟨o[k]'(by omega), by simp [show k < o.length by omega]⟩
    obtain ⟨q, hq⟩ : ∃ q, o'[k]? = some q := ⟨o'[k]'(by have := hio.len; omega), by simp [show k < o'.length by have := hio.len; omega]⟩
    have hqo : ord[k]? = some (q : Int) := by rw [heq, List.getElem?_map, hq]; rfl
    obtain ⟨g, rfl⟩ := hat (by rintro rfl; simp at hp)
    obtain ⟨b1, o1, rfl⟩ := roS_at ho (by omega)
    refine Or.inl ⟨by kernel_rfl, ?_⟩
    refine ⟨k, rfl, by omega, ?_⟩
    refine ⟨_, ldO 0 k 0 rfl (fun _ _ => rfl) hp rfl rfl (by show 0 + k = k * 1 + 0; omega), ?_⟩
    refine ⟨k, rfl, by omega, ?_⟩
    refine ⟨_, ldR ho k 0 hqo rfl rfl (by show o1 + k = o1 + (k * 1 + 0); omega), ?_⟩
    refine ⟨fun hne => ?_, fun heq' => ?_⟩
    · have hne : p ≠ q := by have : (p : Int) ≠ q := of_decide_eq_true hne; omega
      have hpq := lexLe_at (i := k) hlex hin hp hq hne
      refine Or.inl ⟨by kernel_rfl, ?_⟩
      refine ⟨k, rfl, by omega, ?_⟩
      refine ⟨_, ldO 0 k 0 rfl (fun _ _ => rfl) hp rfl rfl (by show 0 + k = k * 1 + 0; omega), ?_⟩
      refine ⟨k, rfl, by omega, ?_⟩
      refine ⟨_, ldR ho k 0 hqo rfl rfl (by show o1 + k = o1 + (k * 1 + 0); omega), ?_⟩
      refine ⟨fun _ => ?_, fun h => absurd (of_decide_eq_false h) (by simp; omega)⟩
      refine callQ [] (fun w S hR hB hS hd => awake_spec w S (hR _ hT) hd) ?_
      exact ⟨_, .pick [], rfl, rfl⟩
    · have heq' : p = q := by have : ¬ (p : Int) ≠ q := of_decide_eq_false heq'; omega
      refine ⟨_, wrap_i64 (by omega) (by omega), ?_⟩
      exact backI (k + 1) (by omega) ⟨hkn, fun j hj => by
        rcases Nat.lt_or_ge j k with h | h
        · exact hin j h
        · obtain rfl : j = k := by omega
          rw [hp, hq, heq']⟩ ⟨rfl, rfl, rfl, trivial⟩ (.refl _)
  · refine callP [] (fun w S hR hB hS hd => awake_spec w S (hR _ hT) hd) ?_
    rintro _ _ ⟨rfl, rfl⟩
    exact ⟨_, .pick [], rfl, rfl⟩
end Go.Proofs.YtfebaopjfmpfkaaDoor
