/- LinearRights: the walk. -/
import Derived.Test.YtfebaopjfmpfkaaDoorR4
namespace Go.Proofs.YtfebaopjfmpfkaaDoor
open Go.X
set_option maxRecDepth 10000
set_option linter.unusedVariables false
set_option linter.unusedSimpArgs false

theorem IsOrd.uniq {xs : List Cl} {ord : List Int} {o o' : List Nat} (h : IsOrd xs ord o) (h' : IsOrd xs ord o') : o = o' := cast_inj (h.eq.symm.trans h'.eq)
theorem RightR.uniq {xs : List Cl} {ord : List Int} {b b' : Bool} {e e' : Int} (h : RightR xs ord b e) (h' : RightR xs ord b' e') : b = b' ∧ e = e' := by
  rcases h with ⟨h1, h2, h3⟩ | ⟨h1, h2, h3, h4⟩ | ⟨h1, o, h2, h3, h4⟩ <;> rcases h' with ⟨k1, k2, k3⟩ | ⟨k1, k2, k3, k4⟩ | ⟨k1, o', k2, k3, k4⟩
  · exact ⟨h2.trans k2.symm, h3.trans k3.symm⟩
  · exact absurd k1 h1
  · exact absurd k1 h1
  · exact absurd h1 k1
  · exact ⟨h3.trans k3.symm, h4.trans k4.symm⟩
  · exact absurd ⟨o', k2⟩ h2
  · exact absurd h1 k1
  · exact absurd ⟨o, h2⟩ k2
  · obtain rfl := h2.uniq k2
    refine ⟨?_, h3.trans k3.symm⟩
    rw [Bool.eq_iff_iff, h4, k4]

theorem rights_spec (la oa : Option Addr) (n cap m oc : Nat) (xs : List Cl) (ord : List Int) (w : World) (S : FP) (hr : InR xs) (hT : RO w S tabC) (hl : RO w S (roS la 9 encCl xs)) (ho : RO w S (roS oa 1 encZ1 ord)) (hn : xs.length = n) (hm : ord.length = m)
    (hc : n ≤ cap) (hc2 : cap ≤ maxLen) (hoc : m ≤ oc) (hoc2 : oc ≤ maxLen) (hd : ∀ b, S b → b < w.heap.size) :
    Trip Tryd.prog 4 #[.slice la n cap, .slice oa m oc] w S fun v L => v = .bool true ∧ L = [] := by
  refine Trip.of_x (L := []) Tryd.func4 (by kernel_rfl) rfl Tryd.ntmps4 Tryd.results4 rfl (ctx_ok _) trivial hd ?_
  refine ⟨fun h => ?_, fun h => ?_⟩
  · repeat (refine ⟨fun _ => ?_, nofun⟩)
    refine callP [] (fun w S hR hB hS hd => awake_spec w S (hR _ hT) hd) ?_
    rintro _ _ ⟨rfl, rfl⟩
    exact ⟨_, .pick [], rfl, rfl⟩
  have hn80 : n ≤ 80 := by have := of_decide_eq_false h; omega
  refine ⟨fun h => ?_, fun h => ?_⟩
  · refine callP [] (fun w S hR hB hS hd => awake_spec w S (hR _ hT) hd) ?_
    rintro _ _ ⟨rfl, rfl⟩
    exact ⟨_, .pick [], rfl, rfl⟩
  have hm100 : m ≤ 100 := by have := of_decide_eq_false h; omega
  refine callP [] (fun w S hR hB hS hd => Right_spec la oa n cap m oc xs ord w S hr (hR _ hl) (hR _ ho) hn hm hc (by omega) (by omega) hd) ?_
  rintro _ _ ⟨b, e, rfl, hri, rfl⟩
  refine callP [] (fun w S hR hB hS hd => rightR_spec la oa n cap m oc xs ord w S hr (hR _ hl) (hR _ ho) hn hm hc (by omega) (by omega) hd) ?_
  rintro _ _ ⟨b', e', rfl, hri', rfl⟩
  obtain ⟨rfl, rfl⟩ := hri.uniq hri'
  refine ⟨fun _ => ?_, fun h => absurd h (by simp)⟩
  refine ⟨fun _ => ?_, fun h => absurd (of_decide_eq_false h) (by simp)⟩
  refine callP [] (fun w S hR hB hS hd => awake_spec w S (hR _ hT) hd) ?_
  rintro _ _ ⟨rfl, rfl⟩
  exact ⟨_, .pick [], rfl, rfl⟩
end Go.Proofs.YtfebaopjfmpfkaaDoor
