/- Sorting by insertion, said in two ways. -/
import Derived.Test.YtfebaopjfmpfkaaDoorL12
namespace Go.Proofs.YtfebaopjfmpfkaaDoor
open Go.X
set_option maxRecDepth 10000
set_option linter.unusedVariables false
set_option linter.unusedSimpArgs false

/-- Where x goes among the first elements of a list: behind all that do not end later, seen from behind. -/
def kk (ys : List Cl) (x : Cl) : Nat → Nat
  | 0 => 0
  | k + 1 => match ys[k]? with
    | some y => if x.en < y.en then kk ys x k else k + 1
    | none => 0
theorem kk_le (ys : List Cl) (x : Cl) : ∀ j, kk ys x j ≤ j
  | 0 => Nat.le_refl _
  | k + 1 => by
    simp only [kk]
    split
    · split
      · exact Nat.le_succ_of_le (kk_le ys x k)
      · exact Nat.le_refl _
    · omega
theorem kk_congr {ys zs : List Cl} {x : Cl} : ∀ {j : Nat}, (∀ i, i < j → ys[i]? = zs[i]?) → kk ys x j = kk zs x j
  | 0, _ => rfl
  | k + 1, h => by
    simp only [kk, h k (by omega), kk_congr (j := k) fun i hi => h i (by omega)]
theorem kk_eq {ys : List Cl} {x : Cl} : ∀ {j k : Nat}, j ≤ ys.length → k ≤ j → (∀ (i : Nat) (y : Cl), k ≤ i → i < j → ys[i]? = some y → x.en < y.en) → (∀ (y : Cl), 0 < k → ys[k - 1]? = some y → ¬ x.en < y.en) → kk ys x j = k
  | 0, k, _, hk, _, _ => by have : k = 0 := by omega
                            subst this; rfl
  | j + 1, k, hj, hk, h1, h2 => by
    obtain ⟨y, hy⟩ : ∃ y, ys[j]? = some y := ⟨ys[j], by simp [show j < ys.length by omega]⟩
    simp only [kk, hy]
    rcases Nat.eq_or_lt_of_le hk with rfl | hk
    · rw [if_neg (h2 y (by omega) (by simpa using hy))]
    · rw [if_pos (h1 j y (by omega) (by omega) hy)]
      exact kk_eq (by omega) (by omega) (fun i z h h' hz => h1 i z h (by omega) hz) h2
/-- One more. -/
def insE (acc : List Cl) (x : Cl) : List Cl := acc.take (kk acc x acc.length) ++ x :: acc.drop (kk acc x acc.length)

theorem swp_get {ys : List Cl} {j : Nat} {x y : Cl} (hx : ys[j]? = some x) (hy : ys[j + 1]? = some y) : swp ys j = ys.take j ++ y :: x :: ys.drop (j + 2) := by
  unfold swp
  simp only [hx, hy]
  obtain ⟨h1, h2⟩ := List.getElem?_eq_some_iff.1 hx
  obtain ⟨h3, h4⟩ := List.getElem?_eq_some_iff.1 hy
  apply List.ext_getElem?
  intro i
  rw [List.getElem?_set, List.getElem?_set]
  rcases Nat.lt_trichotomy i j with h | h | h
  · rw [if_neg (by omega), if_neg (by omega), List.getElem?_append_left (by simp; omega), List.getElem?_take_of_lt h]
  · subst h
    rw [if_pos rfl, if_pos (by simp; omega), List.getElem?_append_right (by simp; omega), List.length_take, Nat.min_eq_left (by omega)]
    simp
  · rw [if_neg (by omega)]
    rw [List.getElem?_append_right (by simp; omega), List.length_take, Nat.min_eq_left (by omega)]
    rcases Nat.eq_or_lt_of_le (show j + 1 ≤ i by omega) with h' | h'
    · subst h'
      rw [if_pos rfl, if_pos (by omega), show j + 1 - j = 1 by omega]; rfl
    · rw [if_neg (by omega)]
      obtain ⟨d, rfl⟩ : ∃ d, i = j + 2 + d := ⟨i - (j + 2), by omega⟩
      rw [show j + 2 + d - j = d + 2 by omega]
      simp [List.getElem?_drop]

theorem sink_eq : ∀ (j : Nat) (ys : List Cl) (x : Cl), ys[j]? = some x → sink 0 j ys = ys.take (kk ys x j) ++ x :: ((ys.take j).drop (kk ys x j) ++ ys.drop (j + 1))
  | 0, ys, x, hx => by
    obtain ⟨h1, h2⟩ := List.getElem?_eq_some_iff.1 hx
    simp only [sink, kk, List.take_zero, List.nil_append, List.drop_nil]
    have := List.drop_eq_getElem_cons h1
    rw [List.drop_zero, h2] at this
    exact this
  | j + 1, ys, y, hy => by
    obtain ⟨h1, h2⟩ := List.getElem?_eq_some_iff.1 hy
    obtain ⟨x, hx⟩ : ∃ x, ys[j]? = some x := ⟨ys[j], by simp [show j < ys.length by omega]⟩
    obtain ⟨h3, h4⟩ := List.getElem?_eq_some_iff.1 hx
    simp only [sink, hx, hy, kk]
    by_cases h : y.en < x.en
    · rw [if_pos ⟨by omega, h⟩, if_pos h]
      have hs := swp_get hx hy
      have hlj : (swp ys j)[j]? = some y := by rw [hs, List.getElem?_append_right (by simp; omega)]; simp [Nat.min_eq_left (show j ≤ ys.length by omega)]
      rw [sink_eq j (swp ys j) y hlj]
      have hlow : ∀ i, i < j → (swp ys j)[i]? = ys[i]? := fun i hi => by rw [hs, List.getElem?_append_left (by simp; omega), List.getElem?_take_of_lt hi]
      rw [kk_congr hlow]
      have hk := kk_le ys y j
      have e1 : (swp ys j).take j = ys.take j := by rw [hs, List.take_append_of_le_length (by simp; omega), List.take_take]; simp
      have e2 : (swp ys j).drop (j + 1) = x :: ys.drop (j + 2) := by
        rw [hs, List.drop_append, List.length_take, Nat.min_eq_left (by omega), List.drop_eq_nil_of_le (by simp; omega), show j + 1 - j = 1 by omega]
        rfl
      have e3 : (swp ys j).take (kk ys y j) = ys.take (kk ys y j) := by
        have : ((swp ys j).take j).take (kk ys y j) = (ys.take j).take (kk ys y j) := by rw [e1]
        rwa [List.take_take, List.take_take, Nat.min_eq_left hk] at this
      have e4 : (ys.take (j + 1)).drop (kk ys y j) = (ys.take j).drop (kk ys y j) ++ [x] := by
        rw [List.take_add_one, hx, List.drop_append_of_le_length (by simp; omega)]; rfl
      rw [e1, e2, e3, e4]
      simp
    · rw [if_neg (fun hh => h hh.2), if_neg h]
      rw [List.drop_eq_nil_of_le (by simp; omega), List.nil_append]
      have := List.drop_eq_getElem_cons h1
      rw [h2] at this
      rw [← this, List.take_append_drop]

theorem isort_eq : ∀ (m i : Nat) (acc xs : List Cl), acc.length = i → i + m ≤ xs.length → isortFrom 0 i m (acc ++ xs.drop i) = ((xs.drop i).take m).foldl insE acc ++ xs.drop (i + m)
  | 0, i, acc, xs, _, _ => by simp [isortFrom]
  | m + 1, i, acc, xs, ha, hi => by
    obtain ⟨x, hx⟩ : ∃ x, xs[i]? = some x := ⟨xs[i], by simp [show i < xs.length by omega]⟩
    obtain ⟨h1, h2⟩ := List.getElem?_eq_some_iff.1 hx
    have hd : xs.drop i = x :: xs.drop (i + 1) := by rw [List.drop_eq_getElem_cons h1, h2]
    have hxi : (acc ++ xs.drop i)[i]? = some x := by rw [List.getElem?_append_right (by omega), ha, Nat.sub_self, hd]; rfl
    have hkk : kk (acc ++ xs.drop i) x i = kk acc x acc.length := by
      rw [ha]
      exact kk_congr fun k hk => List.getElem?_append_left (by omega)
    have hle := kk_le acc x acc.length
    have hstep : sink 0 i (acc ++ xs.drop i) = insE acc x ++ xs.drop (i + 1) := by
      rw [sink_eq i _ x hxi, hkk]
      unfold insE
      have eA : (acc ++ xs.drop i).take (kk acc x acc.length) = acc.take (kk acc x acc.length) := List.take_append_of_le_length hle
      have eB : (acc ++ xs.drop i).take i = acc := by rw [List.take_append_of_le_length (by omega), List.take_of_length_le (by omega)]
      have eC : (acc ++ xs.drop i).drop (i + 1) = xs.drop (i + 1) := by rw [List.drop_append, ha, List.drop_eq_nil_of_le (show acc.length ≤ i + 1 by omega), show i + 1 - i = 1 by omega, hd]; rfl
      rw [eA, eB, eC]
      simp
    simp only [isortFrom]
    have hlen : (insE acc x).length = i + 1 := by unfold insE; simp; omega
    rw [hstep, isort_eq m (i + 1) (insE acc x) xs hlen (by omega)]
    rw [hd, List.take_succ_cons, List.foldl_cons, show i + 1 + m = i + (m + 1) by omega]

theorem sortedE (xs : List Cl) : sorted xs = xs.foldl insE [] := by
  cases xs with
  | nil => rfl
  | cons x xs =>
    have := isort_eq xs.length 1 [x] (x :: xs) rfl (by simp; omega)
    simp only [List.drop_one, List.tail_cons, List.singleton_append] at this
    unfold sorted
    rw [show (x :: xs).length - 1 = xs.length by simp]
    rw [this, List.take_length, List.drop_eq_nil_of_le (by simp; omega), List.append_nil, List.foldl_cons]
    rfl
end Go.Proofs.YtfebaopjfmpfkaaDoor
