/- The examples of the chapter hold: the walk. -/
import Derived.Test.YtfebaopjfmpfkaaDoorL13
namespace Go.Proofs.YtfebaopjfmpfkaaDoor
open Go.X
set_option maxRecDepth 10000
set_option linter.unusedVariables false
set_option linter.unusedSimpArgs false

def awU (i : Nat) : List Nat := match i with
  | 1 => [0]
  | 4 => [2, 3]
  | 6 => [5]
  | 7 => [5, 6]
  | 8 => [2, 3, 4, 5, 6, 7]
  | _ => []
def awRel : RelT := fun i vals v N => match i with
  | 0 | 5 => ∃ g, v = .slice (some ⟨g, 0, none⟩) 2 2 ∧ N = [pt g (encCl exA ++ encCl (exB 4)) 41]
  | 1 => ∃ g, vals = [.slice (some ⟨g, 0, none⟩) 2 2] ∧ v = .slice (some ⟨g, 0, none⟩) 1 2 ∧ N = []
  | 2 => v = .agg ⟨[.int .i64 0, .int .i64 24, .int .i64 8, .int .i64 0]⟩ ∧ N = []
  | 3 => v = .agg ⟨[.int .i64 4096, .int .i64 0]⟩ ∧ N = []
  | 4 => v = .agg ⟨encCl exC⟩ ∧ N = []
  | 6 => ∃ g, vals = [.slice (some ⟨g, 0, none⟩) 2 2] ∧ v = .pointer (some ⟨g, 9, none⟩) ∧ N = []
  | 7 => v = .agg ⟨encCl (exB 4)⟩ ∧ N = []
  | _ => ∃ g, v = .slice (some ⟨g, 0, none⟩) 2 2 ∧ N = [pt g (encCl exC ++ encCl (exB 4)) 41]

theorem roS_map {α β : Type} {w : World} {S : FP} {A : Option Addr} {sz : Nat} {enc : α → List Value} {enc' : β → List Value} {xs : List α} (f : α → β) (he : ∀ x, enc' (f x) = enc x) (h : RO w S (roS A sz enc xs)) : RO w S (roS A sz enc' (xs.map f)) := by
  refine h.conv fun T ⟨h1, h2, h3, h4⟩ => ⟨fun k => ∃ a, A = some a ∧ k = a.block ∧ xs.map f ≠ [], ⟨fun _ => Iff.rfl, fun hne => h2 fun h => hne (by simp [h]), fun y hy => ?_, fun hne => ?_⟩, ?_⟩
  · obtain ⟨x, hx, rfl⟩ := List.mem_map.1 hy
    rw [he]; exact h3 x hx
  · obtain ⟨b, o, rfl, hc⟩ := h4 fun h => hne (by simp [h])
    refine ⟨b, o, rfl, fun i y hi => ?_⟩
    rw [List.getElem?_map] at hi
    obtain ⟨x, hx, rfl⟩ := Option.map_eq_some_iff.1 hi
    rw [he]; exact hc i x hx
  · rintro k ⟨a, rfl, rfl, hne⟩
    exact (h1 _).2 ⟨a, rfl, rfl, fun h => hne (by simp [h])⟩

theorem ord01 {w : World} {S : FP} {A : Option Addr} (h : RO w S (roS A 1 encN [0, 1])) : RO w S (roS A 1 encZ1 [0, 1]) :=
  roS_map (enc' := encZ1) (xs := [0, 1]) (fun i : Nat => (i : Int)) (fun _ => rfl) h

theorem awake_spec (w : World) (S : FP) (hT : RO w S tabC) (hd : ∀ b, S b → b < w.heap.size) : Trip Tryd.prog 13 #[] w S fun v L => v = .bool true ∧ L = [] := by
  refine Trip.of_x (L := []) Tryd.func13 (by kernel_rfl) rfl Tryd.ntmps13 Tryd.results13 rfl (ctx_ok _) trivial hd ?_
  refine callP [] (fun w S _ _ _ hd => first24_spec 1 (by decide) w S hd) ?_
  rintro _ _ ⟨g1, rfl, rfl⟩
  refine callP [] (fun w S hR hB _ hd => Check_spec (some ⟨g1, 0, none⟩) 2 2 his1 w S inR1 (hR _ hT) ((hB _ (lget_mem (i := 0) rfl)).ptS (fun _ _ => rfl) (by decide) rfl) rfl (by decide) (by decide) hd) ?_
  rintro _ _ ⟨e, o, oa, oc, rfl, hchk, rfl⟩
  obtain ⟨rfl, rfl⟩ := check1 hchk
  refine Or.inr (Or.inr (drawF 9 awU awRel (by kernel_rfl) ?_ ?_))
  · refine ⟨fun w S hR => ?_, ?_, ?_, ?_, ?_, ?_, ?_, ?_, ?_, trivial⟩
    · refine callP [] (fun w S _ _ _ hd => first24_spec 4 (by decide) w S hd) ?_
      rintro _ _ ⟨g, rfl, rfl⟩
      exact ⟨_, ⟨g, rfl, rfl⟩, .refl _⟩
    · intro w S hR
      rintro _ _ ⟨g, rfl, rfl⟩
      exact ⟨_, slHi 1 rfl (by decide) rfl rfl rfl, [], ⟨g, rfl, rfl, rfl⟩, .refl _⟩
    · intro w S hR
      repeat (refine ⟨rfl, Nat.le_of_ble_eq_true rfl, ?_⟩)
      exact ⟨[], ⟨rfl, rfl⟩, .refl _⟩
    · intro w S hR
      repeat (refine ⟨rfl, Nat.le_of_ble_eq_true rfl, ?_⟩)
      exact ⟨[], ⟨rfl, rfl⟩, .refl _⟩
    · intro w S hR
      rintro _ _ ⟨rfl, rfl⟩
      rintro _ _ ⟨rfl, rfl⟩
      repeat (refine ⟨rfl, Nat.le_of_ble_eq_true rfl, ?_⟩)
      exact ⟨[], ⟨rfl, rfl⟩, .refl _⟩
    · intro w S hR
      refine callP [] (fun w S _ _ _ hd => first24_spec 4 (by decide) w S hd) ?_
      rintro _ _ ⟨g, rfl, rfl⟩
      exact ⟨_, ⟨g, rfl, rfl⟩, .refl _⟩
    · intro w S hR
      rintro _ _ ⟨g, rfl, rfl⟩
      refine ⟨1, rfl, by decide, ?_⟩
      exact ⟨[], ⟨g, rfl, rfl, rfl⟩, .refl _⟩
    · intro w S hR
      rintro _ _ ⟨g, rfl, rfl⟩
      rintro _ _ ⟨g', hg, rfl, rfl⟩
      have hgg : g = g' := by
        have : [Value.slice (some ⟨g, 0, none⟩) 2 2] = [Value.slice (some ⟨g', 0, none⟩) 2 2] := hg
        simpa using this
      subst hgg
      exact ⟨_, ldA 0 rfl rfl rfl rfl rfl, [], ⟨rfl, rfl⟩, .refl _⟩
    · intro w S hR
      rintro _ _ ⟨rfl, rfl⟩
      rintro _ _ ⟨rfl, rfl⟩
      rintro _ _ ⟨rfl, rfl⟩
      rintro _ _ ⟨g, rfl, rfl⟩
      rintro _ _ ⟨g', hg, rfl, rfl⟩
      rintro _ _ ⟨rfl, rfl⟩
      refine bldS (encCl ⟨0, 0, 0, 0, 0, 0, 0, 0, 0⟩ ++ encCl ⟨0, 0, 0, 0, 0, 0, 0, 0, 0⟩) rfl rfl rfl rfl rfl (by kernel_rfl) rfl fun g8 => ?_
      exact ⟨_, ⟨g8, rfl, rfl⟩, .refl _⟩
  rintro _ _ ⟨g0, rfl, rfl⟩
  rintro _ _ ⟨g0', hg0, rfl, rfl⟩
  have hgg : g0 = g0' := by
    have : [Value.slice (some ⟨g0, 0, none⟩) 2 2] = [Value.slice (some ⟨g0', 0, none⟩) 2 2] := hg0
    simpa using this
  subst hgg
  rintro _ _ ⟨rfl, rfl⟩
  rintro _ _ ⟨rfl, rfl⟩
  rintro _ _ ⟨rfl, rfl⟩
  rintro _ _ ⟨g5, rfl, rfl⟩
  rintro _ _ ⟨g5', hg5, rfl, rfl⟩
  rintro _ _ ⟨rfl, rfl⟩
  rintro _ _ ⟨g8, rfl, rfl⟩
  refine Does.ent ((Ent.both [2]).trans (ptOwn (e := 41) (sz := 9) (enc := encCl) (xs := [exA]) (cap := 2) rfl (by decide) (by decide) (fun _ _ => rfl) rfl)) ?_
  refine appP (ys := [exC, exB 4]) 0 1 rfl rfl rfl rfl rfl (fun _ _ => rfl) (fun _ _ => rfl) (by decide) (fun _ => rfl) rfl rfl rfl rfl rfl (by decide) (by decide) fun g3 c3 hc3 => ?_
  have hc3 : 3 ≤ c3 := hc3
  refine callP [] (fun w S hR hB _ hd => Check_spec (some ⟨g3, 0, none⟩) 3 c3 his3 w S inR3 (hR _ hT) ((hB _ (lget_mem (i := 0) rfl)).own (fun _ _ => rfl) (by decide)) rfl hc3 (by decide) hd) ?_
  rintro _ _ ⟨e3, o3, oa3, oc3, rfl, hchk3, rfl⟩
  obtain ⟨rfl, rfl⟩ := check3 hchk3
  refine callP [] (fun w S hR hB _ hd => prefix_spec (some ⟨g3, 0, none⟩) 3 c3 his3 w S inR3 (hR _ hT) ((hB _ (lget_mem (i := 1) rfl)).own (fun _ _ => rfl) (by decide)) rfl hc3 (by decide) nofun hd) ?_
  rintro _ _ ⟨p, e4, rfl, hpre, rfl⟩
  obtain ⟨rfl, rfl⟩ := prefix3 hpre
  refine callP [] (fun w S _ _ _ hd => first24_spec 1 (by decide) w S hd) ?_
  rintro _ _ ⟨g6, rfl, rfl⟩
  refine bldS [.int .i64 0, .int .i64 0] rfl rfl rfl rfl rfl (by kernel_rfl) rfl fun g7 => ?_
  refine callP [] (fun w S hR hB _ hd => Right_spec (some ⟨g6, 0, none⟩) (some ⟨g7, 0, none⟩) 2 2 2 2 his1 [1, 0] w S inR1 ((hB _ (lget_mem (i := 1) rfl)).ptS (fun _ _ => rfl) (by decide) rfl) ((hB _ (lget_mem (i := 0) rfl)).ptS (fun _ _ => rfl) (by decide) rfl) rfl rfl (by decide) (by decide) (by decide) hd) ?_
  rintro _ _ ⟨b8, e8, rfl, hri, rfl⟩
  obtain ⟨rfl, rfl⟩ := right1 hri
  refine ⟨fun _ => ?_, fun h => absurd h (by decide)⟩
  refine bldS [.int .i64 0, .int .i64 0] rfl rfl rfl rfl rfl (by kernel_rfl) rfl fun g9 => ?_
  refine callP [] (fun w S hR hB _ hd => ints_spec oa (some ⟨g9, 0, none⟩) 2 2 oc 2 [0, 1] [0, 1] w S (ord01 ((hB _ (lget_mem (i := 7) rfl)).own (xs := [0, 1]) (enc := encN) (fun _ _ => rfl) (by decide))) ((hB _ (lget_mem (i := 0) rfl)).ptS (fun _ _ => rfl) (by decide) rfl) rfl rfl (by decide) (by decide) hd) ?_
  rintro _ _ ⟨rfl, rfl⟩
  refine ⟨fun _ => ?_, fun h => absurd h (by decide)⟩
  refine ⟨fun _ => ?_, fun h => absurd h (by decide)⟩
  refine ⟨fun _ => ?_, fun h => absurd h (by decide)⟩
  refine ⟨fun _ => ?_, fun h => absurd h (by decide)⟩
  refine ⟨fun _ => ?_, fun h => absurd h (by decide)⟩
  refine ⟨fun _ => ?_, fun h => absurd h (by decide)⟩
  exact ⟨_, .pick [], rfl, rfl⟩
end Go.Proofs.YtfebaopjfmpfkaaDoor
