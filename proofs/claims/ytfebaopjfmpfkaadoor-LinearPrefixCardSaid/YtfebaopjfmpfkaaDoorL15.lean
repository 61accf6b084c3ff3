/- LinearFound: the walk. -/
import Derived.Test.YtfebaopjfmpfkaaDoorL14
import Derived.Test.YtfebaopjfmpfkaaDoorL9
namespace Go.Proofs.YtfebaopjfmpfkaaDoor
open Go.X
set_option maxRecDepth 10000
set_option linter.unusedVariables false
set_option linter.unusedSimpArgs false

theorem Runs.new {xs : List Cl} (hs : xs.length ≤ 64) : ∀ {o : List Nat} {D : Nat} {M : List (Int × Int)}, D < 2 ^ 64 → Runs xs D M o → o.Nodup ∧ ∀ i ∈ o, i < xs.length ∧ D.testBit i = false
  | [], _, _, _, _ => ⟨by simp, by simp⟩
  | i :: r, D, M, hD, ⟨c, h1, h2, _, h4⟩ => by
    have hlt := (List.getElem?_eq_some_iff.1 h1).1
    obtain ⟨k1, k2⟩ := Runs.new hs (or_lt hD (by omega)) h4
    have hb := canB_has hD (by omega) h2
    refine ⟨List.nodup_cons.2 ⟨fun hm => ?_, k1⟩, fun j hj => ?_⟩
    · have := (k2 i hm).2
      rw [bit_set] at this
      simp at this
    · rcases List.mem_cons.1 hj with rfl | hj
      · exact ⟨hlt, hb⟩
      · obtain ⟨p, q⟩ := k2 j hj
        rw [bit_set, Bool.or_eq_false_iff] at q
        exact ⟨p, q.1⟩
theorem Good.isOrd {xs : List Cl} (hs : xs.length ≤ 64) {o : List Nat} (h : Good xs 0 [] o) : IsOrd xs (o.map fun i : Nat => (i : Int)) o := by
  obtain ⟨h1, h2⟩ := Runs.new hs (by decide) h.1
  refine ⟨rfl, ?_, h1, fun i hi => (h2 i hi).1⟩
  have a := h1.length_le_of_subset (l₂ := List.range xs.length) (fun i hi => List.mem_range.2 (h2 i hi).1)
  have b := (List.nodup_range (n := xs.length)).length_le_of_subset (l₂ := o) (fun i hi => by
    rcases h.2 i (List.mem_range.1 hi) with h | h
    · simp at h
    · exact h)
  simp at a b; omega
theorem cast_inj : ∀ {a b : List Nat}, a.map (fun i : Nat => (i : Int)) = b.map (fun i : Nat => (i : Int)) → a = b
  | [], [], _ => rfl
  | [], _ :: _, h => by simp at h
  | _ :: _, [], h => by simp at h
  | x :: a, y :: b, h => by
    simp only [List.map_cons, List.cons.injEq] at h
    rw [cast_inj h.2, show x = y by omega]
/-- The order that Check found is right. -/
theorem right_of_least {xs : List Cl} {o : List Nat} {b : Bool} {e : Int} (hc : chk xs = 0) (h : Least xs 0 [] o) (hr : RightR xs (o.map fun i : Nat => (i : Int)) b e) : b = true ∧ e = 0 ∧ o.length = xs.length := by
  have ho := h.1.isOrd (chk_ok hc).1
  rcases hr with ⟨h1, _⟩ | ⟨_, h1, _⟩ | ⟨_, o', ho', he, hb⟩
  · exact absurd hc h1
  · exact absurd ⟨o, ho⟩ h1
  · have := cast_inj ho'.eq
    subst this
    exact ⟨hb.2 h.1, he, ho.len⟩

theorem found_spec (la oa : Option Addr) (n cap m oc : Nat) (xs : List Cl) (ord : List Int) (w : World) (S : FP) (hr : InR xs) (hT : RO w S tabC) (hl : RO w S (roS la 9 encCl xs)) (ho : RO w S (roS oa 1 encZ1 ord)) (hn : xs.length = n) (hm : ord.length = m)
    (hc : n ≤ cap) (hc2 : cap ≤ maxLen) (hoc : m ≤ oc) (hoc2 : oc ≤ maxLen) (hd : ∀ b, S b → b < w.heap.size) :
    Trip Tryd.prog 5 #[.slice la n cap, .slice oa m oc] w S fun v L => v = .bool true ∧ L = [] := by
  refine Trip.of_x (L := []) Tryd.func5 (by kernel_rfl) rfl Tryd.ntmps5 Tryd.results5 rfl (ctx_ok _) trivial hd ?_
  refine ⟨fun h => ?_, fun h => ?_⟩
  · repeat (refine ⟨fun _ => ?_, nofun⟩)
    refine callP [] (fun w S hR hB hS hd => awake_spec w S (hR _ hT) hd) ?_
    rintro _ _ ⟨rfl, rfl⟩
    exact ⟨_, .pick [], rfl, rfl⟩
  have hn40 : n ≤ 40 := by have := of_decide_eq_false h; omega
  refine ⟨fun h => ?_, fun h => ?_⟩
  · refine callP [] (fun w S hR hB hS hd => awake_spec w S (hR _ hT) hd) ?_
    rintro _ _ ⟨rfl, rfl⟩
    exact ⟨_, .pick [], rfl, rfl⟩
  have hm40 : m ≤ 40 := by have := of_decide_eq_false h; omega
  refine callP [] (fun w S hR hB hS hd => Check_spec la n cap xs w S hr (hR _ hT) (hR _ hl) hn hc (by omega) hd) ?_
  rintro _ _ ⟨e, o, a, c, rfl, hchk, rfl⟩
  refine ⟨fun he => ?_, fun he => ?_⟩
  · have he : e = 0 := of_decide_eq_true he
    obtain ⟨hc0, hle⟩ : chk xs = 0 ∧ Least xs 0 [] o := by
      rcases hchk with ⟨h1, h2, _⟩ | ⟨h1, _, h2⟩ | ⟨_, h2, _⟩
      · exact absurd (h2.symm.trans he) h1
      · exact ⟨h1, h2⟩
      · omega
    have hol : o.length ≤ 64 := by have := (hle.1.isOrd (chk_ok hc0).1).len; have := (chk_ok hc0).1; omega
    refine callP [] (fun w S hR hB hS hd => Right_spec la a n cap o.length c xs (o.map fun i : Nat => (i : Int)) w S hr (hR _ hl) (roS_map (enc' := encZ1) (fun i : Nat => (i : Int)) (fun _ => rfl) ((hB _ (lget_mem (i := 0) rfl)).own (enc := encN) (fun _ _ => rfl) (by decide))) hn (by simp) hc (by omega) (by omega) hd) ?_
    rintro _ _ ⟨b, e2, rfl, hri, rfl⟩
    obtain ⟨rfl, rfl, hol'⟩ := right_of_least hc0 hle hri
    refine ⟨fun _ => ?_, nofun⟩
    refine ⟨fun _ => ?_, fun h => absurd h (by decide)⟩
    refine ⟨fun _ => ?_, fun h => absurd (of_decide_eq_false h) (by rw [hol', hn]; simp)⟩
    refine callP [] (fun w S hR hB hS hd => awake_spec w S (hR _ hT) hd) ?_
    rintro _ _ ⟨rfl, rfl⟩
    exact ⟨_, .pick [], rfl, rfl⟩
  have he : e ≠ 0 := of_decide_eq_false he
  refine callP [] (fun w S hR hB hS hd => Right_spec la oa n cap m oc xs ord w S hr (hR _ hl) (hR _ ho) hn hm hc (by omega) (by omega) hd) ?_
  rintro _ _ ⟨b, e2, rfl, hri, rfl⟩
  refine ⟨fun he4 => ?_, fun he4 => ?_⟩
  · have he4 : e = 4 := of_decide_eq_true he4
    have hb : b = false := by
      rcases hri with ⟨_, h, _⟩ | ⟨_, _, h, _⟩ | ⟨hc0, o', _, _, hb⟩
      · exact h
      · exact h
      · rcases hchk with ⟨h1, _⟩ | ⟨_, h2, _⟩ | ⟨_, _, _, h2⟩
        · exact absurd hc0 h1
        · omega
        · cases b with
          | false => rfl
          | true => exact absurd (hb.1 rfl) (h2 o')
    subst hb
    refine ⟨fun _ => ?_, nofun⟩
    refine callP [] (fun w S hR hB hS hd => awake_spec w S (hR _ hT) hd) ?_
    rintro _ _ ⟨rfl, rfl⟩
    exact ⟨_, .pick [], rfl, rfl⟩
  have he4 : e ≠ 4 := of_decide_eq_false he4
  obtain ⟨hcn, rfl, rfl⟩ : chk xs ≠ 0 ∧ e = chk xs ∧ o = [] := by
    rcases hchk with h | ⟨_, h, _⟩ | ⟨_, h, _⟩
    · exact h
    · exact absurd h he
    · exact absurd h he4
  obtain ⟨rfl, rfl⟩ : b = false ∧ e2 = chk xs := by
    rcases hri with ⟨_, h1, h2⟩ | ⟨h, _⟩ | ⟨h, _⟩
    · exact ⟨h1, h2⟩
    · exact absurd h hcn
    · exact absurd h hcn
  refine ⟨fun _ => ?_, fun h => absurd h (by decide)⟩
  refine ⟨fun _ => ?_, fun h => absurd (of_decide_eq_false h) (by simp)⟩
  repeat (refine ⟨fun _ => ?_, nofun⟩)
  refine callP [] (fun w S hR hB hS hd => awake_spec w S (hR _ hT) hd) ?_
  rintro _ _ ⟨rfl, rfl⟩
  exact ⟨_, .pick [], rfl, rfl⟩
end Go.Proofs.YtfebaopjfmpfkaaDoor
