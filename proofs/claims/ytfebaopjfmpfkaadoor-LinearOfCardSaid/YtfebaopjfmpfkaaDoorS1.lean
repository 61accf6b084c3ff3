/- Sorting calls: ranges are swapped, blocks change places. -/
import Derived.Test.YtfebaopjfmpfkaaDoorL12
import Derived.Test.YtfebaopjfmpfkaaDoorX23
namespace Go.Proofs.YtfebaopjfmpfkaaDoor
open Go.X
set_option maxRecDepth 10000
set_option linter.unusedVariables false
set_option linter.unusedSimpArgs false

/-- Places p and q are changed for one another. -/
def sw2 (zs : List Cl) (p q : Nat) : List Cl := match zs[p]?, zs[q]? with
  | some x, some y => (zs.set p y).set q x
  | _, _ => zs
def swR (zs : List Cl) (a b : Nat) : Nat → List Cl
  | 0 => zs
  | i + 1 => sw2 (swR zs a b i) (a + i) (b + i)
theorem sw2_len (zs : List Cl) (p q : Nat) : (sw2 zs p q).length = zs.length := by unfold sw2; split <;> simp
theorem swR_len (zs : List Cl) (a b : Nat) : ∀ i, (swR zs a b i).length = zs.length
  | 0 => rfl
  | i + 1 => by simp only [swR]; rw [sw2_len, swR_len zs a b i]
theorem sw2_get {zs : List Cl} {p q : Nat} (hp : p < zs.length) (hq : q < zs.length) (hpq : p ≠ q) (t : Nat) : (sw2 zs p q)[t]? = if t = p then zs[q]? else if t = q then zs[p]? else zs[t]? := by
  unfold sw2
  have h1 : zs[p]? = some zs[p] := by simp [hp]
  have h2 : zs[q]? = some zs[q] := by simp [hq]
  rw [h1, h2]
  simp only
  rw [List.getElem?_set, List.getElem?_set]
  by_cases e1 : t = q
  · subst e1
    rw [if_pos rfl, if_pos (by simpa using hq), if_neg (fun h => hpq h.symm), if_pos rfl]
  · rw [if_neg (fun h => e1 h.symm)]
    by_cases e2 : t = p
    · subst e2
      rw [if_pos rfl, if_pos hp, if_pos rfl]
    · rw [if_neg (fun h => e2 h.symm), if_neg e2, if_neg e1]
theorem swR_get {zs : List Cl} {a b : Nat} : ∀ {i : Nat}, a + i ≤ b → b + i ≤ zs.length → ∀ t, (swR zs a b i)[t]? = if a ≤ t ∧ t < a + i then zs[t - a + b]? else if b ≤ t ∧ t < b + i then zs[t - b + a]? else zs[t]?
  | 0, _, _, t => by
    rw [if_neg (by omega), if_neg (by omega)]; rfl
  | i + 1, h1, h2, t => by
    have ih := swR_get (zs := zs) (a := a) (b := b) (i := i) (by omega) (by omega)
    simp only [swR]
    rw [sw2_get (by rw [swR_len]; omega) (by rw [swR_len]; omega) (by omega), ih, ih, ih]
    by_cases e1 : t = a + i
    · subst e1
      rw [if_pos rfl, if_neg (by omega), if_neg (by omega), if_pos (by omega)]
      congr 1; omega
    · rw [if_neg e1]
      by_cases e2 : t = b + i
      · subst e2
        rw [if_pos rfl, if_neg (by omega), if_neg (by omega), if_neg (by omega), if_pos (by omega)]
        congr 1; omega
      · rw [if_neg e2]
        by_cases e3 : a ≤ t ∧ t < a + i
        · rw [if_pos e3, if_pos (by omega)]
        · rw [if_neg e3]
          by_cases e4 : b ≤ t ∧ t < b + i
          · rw [if_pos e4, if_neg (show ¬ (a ≤ t ∧ t < a + (i + 1)) by omega), if_pos (show b ≤ t ∧ t < b + (i + 1) by omega)]
          · rw [if_neg e4, if_neg (show ¬ (a ≤ t ∧ t < a + (i + 1)) by omega), if_neg (show ¬ (b ≤ t ∧ t < b + (i + 1)) by omega)]

/-- Two blocks of the same length are changed for one another. -/
theorem swR_blocks (P X M Y Q : List Cl) (h : X.length = Y.length) : swR (P ++ X ++ M ++ Y ++ Q) P.length (P.length + X.length + M.length) X.length = P ++ Y ++ M ++ X ++ Q := by
  apply List.ext_getElem?
  intro t
  rw [swR_get (by omega) (by simp; omega)]
  have get : ∀ (A B C D E : List Cl) (t : Nat), (A ++ B ++ C ++ D ++ E)[t]? = if t < A.length then A[t]? else if t < A.length + B.length then B[t - A.length]? else if t < A.length + B.length + C.length then C[t - A.length - B.length]? else if t < A.length + B.length + C.length + D.length then D[t - A.length - B.length - C.length]? else E[t - A.length - B.length - C.length - D.length]? := by
    intro A B C D E t
    rw [List.append_assoc, List.append_assoc, List.append_assoc]
    by_cases h1 : t < A.length
    · rw [List.getElem?_append_left h1, if_pos h1]
    · rw [List.getElem?_append_right (by omega), if_neg h1]
      by_cases h2 : t < A.length + B.length
      · rw [List.getElem?_append_left (by omega), if_pos h2]
      · rw [List.getElem?_append_right (by omega), if_neg h2]
        by_cases h3 : t < A.length + B.length + C.length
        · rw [List.getElem?_append_left (by omega), if_pos h3]
        · rw [List.getElem?_append_right (by omega), if_neg h3]
          by_cases h4 : t < A.length + B.length + C.length + D.length
          · rw [List.getElem?_append_left (by omega), if_pos h4]
          · rw [List.getElem?_append_right (by omega), if_neg h4]
  rw [get, get, get, get]
  by_cases e1 : P.length ≤ t ∧ t < P.length + X.length
  · rw [if_pos e1, if_neg (by omega), if_neg (by omega), if_neg (by omega), if_pos (by omega), if_neg (by omega), if_pos (by omega)]
    congr 1; omega
  · rw [if_neg e1]
    by_cases e2 : P.length + X.length + M.length ≤ t ∧ t < P.length + X.length + M.length + X.length
    · rw [if_pos e2, if_neg (by omega), if_pos (by omega), if_neg (by omega), if_neg (by omega), if_neg (by omega), if_pos (by omega)]
      congr 1; omega
    · rw [if_neg e2]
      by_cases e3 : t < P.length
      · rw [if_pos e3, if_pos e3]
      · rw [if_neg e3, if_neg e3, if_neg (show ¬ t < P.length + X.length by omega), if_neg (show ¬ t < P.length + Y.length by omega)]
        by_cases e4 : t < P.length + X.length + M.length
        · rw [if_pos e4, if_pos (show t < P.length + Y.length + M.length by omega)]
          congr 1; omega
        · rw [if_neg e4, if_neg (show ¬ t < P.length + Y.length + M.length by omega), if_neg (show ¬ t < P.length + X.length + M.length + Y.length by omega), if_neg (show ¬ t < P.length + Y.length + M.length + X.length by omega)]
          congr 1; omega

theorem swapRange_spec (f : Value) (g n cap a b k : Nat) (xs : List Cl) (hn : xs.length = n) (h1 : a + k ≤ b) (h2 : b + k ≤ n) (hn2 : n ≤ 1000000) (w : World) (S : FP) (hS : Sep [own (some ⟨g, 0, none⟩) cap 41 9 encCl xs] w S) (hd : ∀ b, S b → b < w.heap.size) :
    Trip Tryd.prog 80 #[.slice (some ⟨g, 0, none⟩) n cap, .int .i64 a, .int .i64 b, .int .i64 k, f] w S fun v L => v = .tuple #[] ∧ L = [own (some ⟨g, 0, none⟩) cap 41 9 encCl (swR xs a b k)] := by
  refine Trip.of_x (L := [own (some ⟨g, 0, none⟩) cap 41 9 encCl xs]) Tryd.func80 (by kernel_rfl) rfl Tryd.ntmps80 Tryd.results80 rfl (ctx_ok _) hS hd ?_
  refine loopI (σ := Nat) (fun i => [(0, .slice (some ⟨g, 0, none⟩) n cap), (1, .int .i64 a), (2, .int .i64 b), (3, .int .i64 k), (10, .int .i64 i)]) (fun i => [own (some ⟨g, 0, none⟩) cap 41 9 encCl (swR xs a b i)]) (fun i => i ≤ k) (fun i => k - i) 0
    ⟨rfl, rfl, rfl, rfl, rfl, trivial⟩ (.refl _) (Nat.zero_le _) ?_
  rintro i hi
  refine ⟨fun hlt => ?_, fun hge => ?_⟩
  · have hik : i < k := by have := of_decide_eq_true hlt; omega
    have hA : ((a + i : Nat) : Int) = IntKind.i64.wrap ((a : Int) + i) := by rw [show ((a : Int) + i) = ((a + i : Nat) : Int) by omega]; exact wrap_i64 (by omega) (by omega)
    have hB : ((b + i : Nat) : Int) = IntKind.i64.wrap ((b : Int) + i) := by rw [show ((b : Int) + i) = ((b + i : Nat) : Int) by omega]; exact wrap_i64 (by omega) (by omega)
    have hl := swR_len xs a b i
    obtain ⟨x, hx⟩ : ∃ x, (swR xs a b i)[a + i]? = some x := ⟨(swR xs a b i)[a + i]'(by omega), by simp [show a + i < (swR xs a b i).length by omega]⟩
    obtain ⟨y, hy⟩ : ∃ y, (swR xs a b i)[b + i]? = some y := ⟨(swR xs a b i)[b + i]'(by omega), by simp [show b + i < (swR xs a b i).length by omega]⟩
    have hs : swR xs a b (i + 1) = ((swR xs a b i).set (a + i) y).set (b + i) x := by simp only [swR, sw2, hx, hy]
    refine Or.inr (Or.inr (drawT [[], [], [], [1, 2], [], [], [], [5, 6], [], [], [], [9, 10], [8, 11], [12], [], [], [], [15, 16], [14, 17], [18], [0, 3, 0, 1, 2, 3, 8, 9, 10, 11, 12, 13, 19], [20, 13, 0, 1, 2, 3, 8, 9, 10, 11, 12, 13, 19], [4, 7, 0, 1, 2, 3, 4, 5, 6, 7, 8, 9, 10, 11, 12, 13, 14, 15, 16, 17, 18, 19, 20, 21], [22, 19, 21, 0, 1, 2, 3, 4, 5, 6, 7, 8, 9, 10, 11, 12, 13, 14, 15, 16, 17, 18, 19, 20, 21]] [0, 1, 2, 3, 4, 5, 6, 7, 8, 9, 10, 11, 12, 14, 15, 16, 17, 18, 20, 22] (by kernel_rfl) ?_))
    refine ⟨_, hA, ?_⟩
    refine ⟨_, hB, ?_⟩
    refine ⟨_, hB, ?_⟩
    refine ⟨b + i, rfl, by omega, ?_⟩
    refine ⟨_, hA, ?_⟩
    refine ⟨a + i, rfl, by omega, ?_⟩
    refine ⟨?_, ?_, trivial⟩
    · refine ⟨_, ldOA 0 (b + i) rfl (fun _ _ => rfl) hy rfl rfl rfl (by show 0 + (b + i) * 9 = (b + i) * 9; omega), ?_⟩
      refine ⟨_, ldOA 0 (a + i) rfl (fun _ _ => rfl) hx rfl rfl rfl (by show 0 + (a + i) * 9 = (a + i) * 9; omega), ?_⟩
      refine ⟨a + i, rfl, by omega, ?_⟩
      refine stO 0 (a + i) y rfl (fun _ _ => rfl) rfl (by omega) rfl rfl rfl rfl (by show 0 + (a + i) * 9 = (a + i) * 9; omega) ?_
      refine ⟨b + i, rfl, by omega, ?_⟩
      refine stO 0 (b + i) x rfl (fun _ _ => rfl) rfl (by simp; omega) rfl rfl rfl rfl (by show 0 + (b + i) * 9 = (b + i) * 9; omega) ?_
      refine ⟨_, wrap_i64 (by omega) (by omega), ?_⟩
      exact backI (i + 1) (by omega) (by show i + 1 ≤ k; omega) ⟨rfl, rfl, rfl, rfl, rfl, trivial⟩ (by rw [hs]; exact .refl _)
    · refine ⟨_, ldOA 0 (a + i) rfl (fun _ _ => rfl) hx rfl rfl rfl (by show 0 + (a + i) * 9 = (a + i) * 9; omega), ?_⟩
      refine ⟨_, ldOA 0 (b + i) rfl (fun _ _ => rfl) hy rfl rfl rfl (by show 0 + (b + i) * 9 = (b + i) * 9; omega), ?_⟩
      refine ⟨a + i, rfl, by omega, ?_⟩
      refine stO 0 (a + i) y rfl (fun _ _ => rfl) rfl (by omega) rfl rfl rfl rfl (by show 0 + (a + i) * 9 = (a + i) * 9; omega) ?_
      refine ⟨b + i, rfl, by omega, ?_⟩
      refine stO 0 (b + i) x rfl (fun _ _ => rfl) rfl (by simp; omega) rfl rfl rfl rfl (by show 0 + (b + i) * 9 = (b + i) * 9; omega) ?_
      refine ⟨_, wrap_i64 (by omega) (by omega), ?_⟩
      exact backI (i + 1) (by omega) (by show i + 1 ≤ k; omega) ⟨rfl, rfl, rfl, rfl, rfl, trivial⟩ (by rw [hs]; exact .refl _)
  · have hik : i = k := by have := of_decide_eq_false hge; omega
    subst hik
    exact ⟨_, .refl _, rfl, rfl⟩
end Go.Proofs.YtfebaopjfmpfkaaDoor
