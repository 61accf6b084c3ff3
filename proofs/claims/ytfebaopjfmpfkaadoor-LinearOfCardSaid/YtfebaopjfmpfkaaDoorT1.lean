/- Sorting calls by their beginnings: comparing, insertion. -/
import Derived.Test.YtfebaopjfmpfkaaDoorS4
namespace Go.Proofs.YtfebaopjfmpfkaaDoor
open Go.X
set_option maxRecDepth 10000
set_option linter.unusedVariables false
set_option linter.unusedSimpArgs false

theorem cmpBg_spec (a b : Cl) (w : World) (S : FP) (hd : ∀ b, S b → b < w.heap.size) : Trip Tryd.prog 39 #[.agg ⟨encCl a⟩, .agg ⟨encCl b⟩] w S fun v L => v = .int .i64 (cmpZ a.bg b.bg) ∧ L = [] := by
  refine Trip.of_x (L := []) Tryd.func39 (by kernel_rfl) rfl Tryd.ntmps39 Tryd.results39 rfl (ctx_ok _) trivial hd ?_
  intro ab
  intro bb
  refine ⟨_, ld 1 rfl rfl rfl, ?_⟩
  refine ⟨_, ld 0 rfl rfl rfl, ?_⟩
  refine callP [] (fun w S hR hB hS hd => cmp_spec a.bg b.bg w S hd) ?_
  rintro _ _ ⟨rfl, rfl⟩
  exact ⟨_, .pick [], rfl, rfl⟩

/-! ### the two times change places -/
def flip (c : Cl) : Cl := { c with bg := c.en, en := c.bg }
theorem flip_flip (c : Cl) : flip (flip c) = c := rfl
theorem map_flip (xs : List Cl) : (xs.map flip).map flip = xs := by
  rw [List.map_map, show flip ∘ flip = id from funext flip_flip, List.map_id]
theorem swp_map (xs : List Cl) (j : Nat) : (swp xs j).map flip = swp (xs.map flip) j := by
  unfold swp
  rw [List.getElem?_map, List.getElem?_map]
  cases xs[j]? <;> cases xs[j + 1]? <;> simp [List.map_set]
def sinkB (a j : Nat) (xs : List Cl) : List Cl := (sink a j (xs.map flip)).map flip
def isortB (a i m : Nat) (xs : List Cl) : List Cl := (isortFrom a i m (xs.map flip)).map flip
theorem sinkB_succ {a j : Nat} {zs : List Cl} {x y : Cl} (hx : zs[j]? = some x) (hy : zs[j + 1]? = some y) : sinkB a (j + 1) zs = if a < j + 1 ∧ y.bg < x.bg then sinkB a j (swp zs j) else zs := by
  unfold sinkB
  simp only [sink, List.getElem?_map, hx, hy, Option.map_some]
  by_cases h : a < j + 1 ∧ y.bg < x.bg
  · rw [if_pos (show a < j + 1 ∧ (flip y).en < (flip x).en from h), if_pos h, swp_map]
  · rw [if_neg (show ¬ (a < j + 1 ∧ (flip y).en < (flip x).en) from h), if_neg h, map_flip]
theorem sinkB_low {a j : Nat} (h : ¬ a < j) (zs : List Cl) : sinkB a j zs = zs := by
  unfold sinkB
  cases j with
  | zero => exact map_flip zs
  | succ j =>
    simp only [sink]
    split
    · rw [if_neg (by omega), map_flip]
    · exact map_flip zs
theorem isortB_succ (a i n : Nat) (xs : List Cl) : isortB a i (n + 1) xs = isortB a (i + 1) n (sinkB a i xs) := by
  unfold isortB sinkB
  rw [map_flip]; rfl
def SrtB (L : List Cl) : Prop := L.Pairwise fun a b => a.bg ≤ b.bg
def sortedB (M : List Cl) : List Cl := (sorted (M.map flip)).map flip
theorem sortedB_perm (M : List Cl) : (sortedB M).Perm M := by
  have h : (sorted (M.map flip)).Perm (M.map flip) := isort_perm _ _ _ _
  have := h.map flip
  rwa [map_flip] at this
theorem sortedB_srt (M : List Cl) : SrtB (sortedB M) := by
  have := (sorted_stab (M.map flip)).srt
  unfold SrtB sortedB
  rw [List.pairwise_map]
  exact this
theorem isortB_eq (P M Q : List Cl) : isortB P.length (P.length + 1) (M.length - 1) (P ++ M ++ Q) = P ++ sortedB M ++ Q := by
  unfold isortB
  have h1 := isort_app (P.map flip) (M.length - 1) 1 ((M ++ Q).map flip)
  rw [List.length_map] at h1
  rw [List.append_assoc, List.map_append, h1]
  cases M with
  | nil =>
    show List.map flip (List.map flip P ++ List.map flip Q) = P ++ [] ++ Q
    rw [List.map_append, map_flip, map_flip, List.append_nil]
  | cons m M =>
    have h2 := isort_front ((m :: M).map flip) (Q.map flip) (by simp)
    rw [List.length_map] at h2
    rw [List.map_append (f := flip) (l₁ := m :: M), h2, List.map_append, List.map_append, map_flip, map_flip, List.append_assoc]
    rfl

theorem insB_walk (ao : Option Addr) (n cap a b : Nat) (xs : List Cl) (hao : xs ≠ [] → ∃ g, ao = some ⟨g, 0, none⟩) (hn : xs.length = n) (hb : b ≤ n) (hn2 : n ≤ 1000000) (ha : a ≤ 1000000) (w : World) (S : FP) (hS : Sep [own ao cap 41 9 encCl xs] w S) (hd : ∀ b, S b → b < w.heap.size) :
    Trip Tryd.prog 52 #[.slice ao n cap, .int .i64 a, .int .i64 b, .func (.func 39) #[] #[]] w S fun v L => v = .tuple #[] ∧ L = [own ao cap 41 9 encCl (isortB a (a + 1) (b - (a + 1)) xs)] := by
  refine Trip.of_x (L := [own ao cap 41 9 encCl xs]) Tryd.func52 (by kernel_rfl) rfl Tryd.ntmps52 Tryd.results52 rfl (ctx_ok _) hS hd ?_
  refine ⟨((a + 1 : Nat) : Int), by rw [show ((a : Int) + 1) = ((a + 1 : Nat) : Int) by omega]; exact wrap_i64 (by omega) (by omega), ?_⟩
  refine loopI (σ := Nat × List Cl) (fun s => [(0, .slice ao n cap), (1, .int .i64 a), (2, .int .i64 b), (3, .func (.func 39) #[] #[]), (8, .int .i64 s.1)]) (fun s => [own ao cap 41 9 encCl s.2])
    (fun s => a + 1 ≤ s.1 ∧ (s.1 ≤ b ∨ s.1 = a + 1) ∧ s.2.length = n ∧ isortB a s.1 (b - s.1) s.2 = isortB a (a + 1) (b - (a + 1)) xs) (fun s => b - s.1) (a + 1, xs) ⟨rfl, rfl, rfl, rfl, rfl, trivial⟩ (.refl _) ⟨Nat.le_refl _, .inr rfl, hn, rfl⟩ ?_
  rintro ⟨i, ys⟩ ⟨h1, h2, h3, h4⟩
  have h1 : a + 1 ≤ i := h1
  have h2 : i ≤ b ∨ i = a + 1 := h2
  have h3 : ys.length = n := h3
  have h4 : isortB a i (b - i) ys = isortB a (a + 1) (b - (a + 1)) xs := h4
  refine ⟨fun hlt => ?_, fun hge => ?_⟩
  · have hib : i < b := by have := of_decide_eq_true hlt; simp at this; omega
    obtain ⟨g, rfl⟩ := hao (by rintro rfl; simp at hn; omega)
    refine loopI (σ := Nat × List Cl) (fun s => [(0, .slice (some ⟨g, 0, none⟩) n cap), (1, .int .i64 a), (2, .int .i64 b), (3, .func (.func 39) #[] #[]), (8, .int .i64 i), (9, .int .i64 s.1)]) (fun s => [own (some ⟨g, 0, none⟩) cap 41 9 encCl s.2])
      (fun s => s.1 ≤ i ∧ a ≤ s.1 ∧ s.2.length = n ∧ sinkB a s.1 s.2 = sinkB a i ys) (fun s => s.1) (i, ys) ⟨rfl, rfl, rfl, rfl, rfl, rfl, trivial⟩ (.refl _) ⟨Nat.le_refl _, by omega, h3, rfl⟩ ?_
    rintro ⟨j, zs⟩ ⟨k1, k2, k3, k4⟩
    have k1 : j ≤ i := k1
    have k2 : a ≤ j := k2
    have k3 : zs.length = n := k3
    have k4 : sinkB a j zs = sinkB a i ys := k4
    have fin : sinkB a j zs = zs → isortB a (i + 1) (b - (i + 1)) zs = isortB a (a + 1) (b - (a + 1)) xs := fun he => by
      rw [← h4, show b - i = (b - (i + 1)) + 1 by omega]
      rw [isortB_succ, ← k4, he]
    refine Or.inl ⟨by kernel_rfl, ?_⟩
    refine ⟨fun hja => ?_, fun hja => ?_⟩
    · have hja : a < j := by have := of_decide_eq_true hja; simp at this; omega
      obtain ⟨j, rfl⟩ : ∃ j', j = j' + 1 := ⟨j - 1, by omega⟩
      obtain ⟨y, hy⟩ : ∃ y, zs[j + 1]? = some y := ⟨zs[j + 1]'(by omega), by simp [show j + 1 < zs.length by omega]⟩
      obtain ⟨x, hx⟩ : ∃ x, zs[j]? = some x := ⟨zs[j]'(by omega), by simp [show j < zs.length by omega]⟩
      have hsub : ((j : Nat) : Int) = IntKind.i64.wrap (((j + 1 : Nat) : Int) - 1) := by rw [show (((j + 1 : Nat) : Int) - 1) = j by omega]; exact wrap_i64 (by omega) (by omega)
      refine ⟨j + 1, rfl, by omega, ?_⟩
      refine ⟨_, ldOA 0 (j + 1) rfl (fun _ _ => rfl) hy rfl rfl rfl (by show 0 + (j + 1) * 9 = (j + 1) * 9; omega), ?_⟩
      refine ⟨_, hsub, ?_⟩
      refine ⟨j, rfl, by omega, ?_⟩
      refine ⟨_, ldOA 0 j rfl (fun _ _ => rfl) hx rfl rfl rfl (by show 0 + j * 9 = j * 9; omega), ?_⟩
      refine callQ [] (fun w S hR hB _ hd => cmpBg_spec y x w S hd) ?_
      have hcmp : cmpZ y.bg x.bg < 0 ↔ y.bg < x.bg := cmpZ_lt
      have hsink : sinkB a (j + 1) zs = if y.bg < x.bg then sinkB a j (swp zs j) else zs := by
        rw [sinkB_succ hx hy]
        by_cases h : y.bg < x.bg <;> simp [h, hja]
      refine ⟨fun hc => ?_, fun hc => ?_⟩
      · have hc : y.bg < x.bg := hcmp.1 (of_decide_eq_true hc)
        have hswp : swp zs j = (zs.set (j + 1) x).set j y := by simp only [swp, hx, hy]
        refine Or.inr (Or.inr (drawE swpU swpR (swpV g n cap j x y) [15, 17] [9, 13] [[own (some ⟨g, 0, none⟩) cap 41 9 encCl zs], [own (some ⟨g, 0, none⟩) cap 41 9 encCl (zs.set (j + 1) x)], [own (some ⟨g, 0, none⟩) cap 41 9 encCl ((zs.set (j + 1) x).set j y)]] rfl (by kernel_rfl) ?_ ?_))
        · refine ⟨?_, ?_, ?_, ?_, ?_, ?_, ?_, ?_, ?_, ?_, ?_, ?_, ?_, ?_, ?_, ?_, ?_, ?_, trivial⟩
          · exact rfl
          · exact rfl
          · exact rfl
          · exact rfl
          · rintro _ _ ⟨rfl, rfl⟩; exact ⟨_, hsub, rfl⟩
          · exact rfl
          · exact rfl
          · rintro _ _ ⟨rfl, rfl⟩; exact ⟨_, hsub, rfl⟩
          · rintro _ _ ⟨rfl, rfl⟩; rintro _ _ ⟨rfl, rfl⟩; rintro _ _ ⟨rfl, rfl⟩; exact ⟨j, rfl, by omega, rfl⟩
          · rintro _ _ ⟨rfl, rfl⟩; rintro _ _ ⟨rfl, rfl⟩; rintro _ _ ⟨rfl, rfl⟩; rintro _ _ ⟨rfl, rfl⟩; exact ⟨_, ldOA 0 j rfl (fun _ _ => rfl) hx rfl rfl rfl (by omega), rfl⟩
          · exact rfl
          · exact rfl
          · rintro _ _ ⟨rfl, rfl⟩; rintro _ _ ⟨rfl, rfl⟩; exact ⟨j + 1, rfl, by omega, rfl⟩
          · rintro _ _ ⟨rfl, rfl⟩; rintro _ _ ⟨rfl, rfl⟩; rintro _ _ ⟨rfl, rfl⟩; exact ⟨_, ldOA 0 (j + 1) rfl (fun _ _ => rfl) hy rfl rfl rfl (by omega), rfl⟩
          · rintro _ _ ⟨rfl, rfl⟩; rintro _ _ ⟨rfl, rfl⟩; exact ⟨j + 1, rfl, by omega, rfl⟩
          · rintro _ _ ⟨rfl, rfl⟩; rintro _ _ ⟨rfl, rfl⟩; rintro _ _ ⟨rfl, rfl⟩; rintro _ _ ⟨rfl, rfl⟩; rintro _ _ ⟨rfl, rfl⟩; rintro _ _ ⟨rfl, rfl⟩; rintro _ _ ⟨rfl, rfl⟩; rintro _ _ ⟨rfl, rfl⟩; exact stO 0 (j + 1) x rfl (fun _ _ => rfl) rfl (by omega) rfl rfl rfl rfl (by omega) ⟨rfl, .refl _⟩
          · rintro _ _ ⟨rfl, rfl⟩; rintro _ _ ⟨rfl, rfl⟩; rintro _ _ ⟨rfl, rfl⟩; exact ⟨j, rfl, by omega, rfl⟩
          · rintro _ _ ⟨rfl, rfl⟩; rintro _ _ ⟨rfl, rfl⟩; rintro _ _ ⟨rfl, rfl⟩; rintro _ _ ⟨rfl, rfl⟩; rintro _ _ ⟨rfl, rfl⟩; rintro _ _ ⟨rfl, rfl⟩; rintro _ _ ⟨rfl, rfl⟩; rintro _ _ ⟨rfl, rfl⟩; exact stO 0 j y rfl (fun _ _ => rfl) rfl (by simp; omega) rfl rfl rfl rfl (by omega) ⟨rfl, .refl _⟩
        rintro _ _ ⟨rfl, rfl⟩; rintro _ _ ⟨rfl, rfl⟩; rintro _ _ ⟨rfl, rfl⟩; rintro _ _ ⟨rfl, rfl⟩; rintro _ _ ⟨rfl, rfl⟩; rintro _ _ ⟨rfl, rfl⟩; rintro _ _ ⟨rfl, rfl⟩; rintro _ _ ⟨rfl, rfl⟩; rintro _ _ ⟨rfl, rfl⟩; rintro _ _ ⟨rfl, rfl⟩; rintro _ _ ⟨rfl, rfl⟩; rintro _ _ ⟨rfl, rfl⟩; rintro _ _ ⟨rfl, rfl⟩; rintro _ _ ⟨rfl, rfl⟩; rintro _ _ ⟨rfl, rfl⟩; rintro _ _ ⟨rfl, rfl⟩; rintro _ _ ⟨rfl, rfl⟩; rintro _ _ ⟨rfl, rfl⟩
        refine ⟨_, hsub, ?_⟩
        exact backI (j, (zs.set (j + 1) x).set j y) (by show j < j + 1; omega) ⟨by show j ≤ i; omega, by show a ≤ j; omega, by simp [k3], by
          show sinkB a j ((zs.set (j + 1) x).set j y) = _
          rw [← k4, hsink, if_pos hc, hswp]⟩ ⟨rfl, rfl, rfl, rfl, rfl, rfl, trivial⟩ (.refl _)
      · have hc : ¬ y.bg < x.bg := fun h => of_decide_eq_false hc (hcmp.2 h)
        refine ⟨((i + 1 : Nat) : Int), by rw [show ((i : Int) + 1) = ((i + 1 : Nat) : Int) by omega]; exact wrap_i64 (by omega) (by omega), ?_⟩
        exact backI (i + 1, zs) (by show b - (i + 1) < b - i; omega) ⟨by show a + 1 ≤ i + 1; omega, .inl (by show i + 1 ≤ b; omega), k3, fin (by rw [hsink, if_neg hc])⟩ ⟨rfl, rfl, rfl, rfl, rfl, trivial⟩ (.refl _)
    · have hja : ¬ a < j := by have := of_decide_eq_false hja; simp at this; omega
      have hs : sinkB a j zs = zs := sinkB_low hja zs
      repeat (refine ⟨nofun, fun _ => ?_⟩)
      refine ⟨((i + 1 : Nat) : Int), by rw [show ((i : Int) + 1) = ((i + 1 : Nat) : Int) by omega]; exact wrap_i64 (by omega) (by omega), ?_⟩
      exact backI (i + 1, zs) (by show b - (i + 1) < b - i; omega) ⟨by show a + 1 ≤ i + 1; omega, .inl (by show i + 1 ≤ b; omega), k3, fin hs⟩ ⟨rfl, rfl, rfl, rfl, rfl, trivial⟩ (.refl _)
  · have hib : ¬ i < b := by have := of_decide_eq_false hge; simp at this; omega
    have h5 : b - i = 0 := by omega
    rw [h5] at h4
    exact ⟨_, .refl _, rfl, by rw [← h4, show isortB a i 0 ys = ys from map_flip ys]⟩

theorem insB_spec (ao : Option Addr) (n cap a b : Nat) (P M Q : List Cl) (hao : P ++ M ++ Q ≠ [] → ∃ g, ao = some ⟨g, 0, none⟩) (hn : (P ++ M ++ Q).length = n) (hP : P.length = a) (hb : a + M.length = b) (hn2 : n ≤ 1000000) (w : World) (S : FP) (hS : Sep [own ao cap 41 9 encCl (P ++ M ++ Q)] w S) (hd : ∀ b, S b → b < w.heap.size) :
    Trip Tryd.prog 52 #[.slice ao n cap, .int .i64 a, .int .i64 b, .func (.func 39) #[] #[]] w S fun v L => v = .tuple #[] ∧ L = [own ao cap 41 9 encCl (P ++ sortedB M ++ Q)] := by
  have hl : P.length + M.length + Q.length = n := by simpa [Nat.add_assoc] using hn
  have := insB_walk ao n cap a b (P ++ M ++ Q) hao hn (by omega) hn2 (by omega) w S hS hd
  rwa [← hP, show b - (P.length + 1) = M.length - 1 by omega, isortB_eq, hP] at this
end Go.Proofs.YtfebaopjfmpfkaaDoor
