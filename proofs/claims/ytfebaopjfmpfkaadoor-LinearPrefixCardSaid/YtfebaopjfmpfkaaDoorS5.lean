/- The law on Prefix: the calls that are counted are the first ones of the order. -/
import Derived.Test.YtfebaopjfmpfkaaDoorS4
import Derived.Test.YtfebaopjfmpfkaaDoorL19
namespace Go.Proofs.YtfebaopjfmpfkaaDoor
open Go.X
set_option maxRecDepth 10000
set_option linter.unusedVariables false
set_option linter.unusedSimpArgs false

def enA (xs : List Cl) (a : Nat) : Int := match xs[a]? with
  | some x => x.en
  | none => 0
theorem enA_at {xs : List Cl} {a : Nat} {x : Cl} (h : xs[a]? = some x) : enA xs a = x.en := by unfold enA; rw [h]
/-- Place a goes before place b. -/
def Lx (xs : List Cl) (a b : Nat) : Bool := decide (enA xs a < enA xs b) || (decide (enA xs a = enA xs b) && decide (a < b))
theorem Lx_iff {xs : List Cl} {a b : Nat} : Lx xs a b = true ↔ enA xs a < enA xs b ∨ enA xs a = enA xs b ∧ a < b := by unfold Lx; simp
theorem ins_split {R : List Cl} (h : Srt R) (x : Cl) : (∀ z ∈ R.take (kk R x R.length), z.en ≤ x.en) ∧ (∀ z ∈ R.drop (kk R x R.length), x.en < z.en) := by
  obtain ⟨k1, k2⟩ := kk_spec R x (j := R.length) (Nat.le_refl _)
  generalize kk R x R.length = k at *
  constructor
  · intro z hz
    have := srt_lo (k := x.en + 1) h (u := k) (by
      rcases Nat.eq_zero_or_pos k with h0 | h0
      · exact .inl h0
      · obtain ⟨y, hy, hn⟩ := k2 h0
        exact .inr ⟨y, hy, by omega⟩) z hz
    omega
  · intro z hz
    have := srt_hi (k := x.en + 1) h (u := k) (by
      rcases Nat.lt_or_ge k R.length with h0 | h0
      · refine .inr ⟨R[k], by simp [h0], ?_⟩
        have := k1 k R[k] (Nat.le_refl _) h0 (by simp [h0])
        omega
      · exact .inl h0) z hz
    omega
theorem snocE {xs : List Cl} {i : Nat} {x : Cl} (hx : xs[i]? = some x) : (xs.take (i + 1)).foldl insE [] = insE ((xs.take i).foldl insE []) x := by
  rw [List.take_add_one, hx, List.foldl_append]; rfl
/-- The order, told by the places. -/
theorem places (xs : List Cl) : ∀ i, i ≤ xs.length → ∃ bs : List Nat, bs.Perm (List.range i) ∧ bs.map (fun i => xs[i]?) = ((xs.take i).foldl insE []).map some ∧ bs.Pairwise fun a b => Lx xs a b = true
  | 0, _ => ⟨[], .refl _, rfl, .nil⟩
  | i + 1, hi => by
    obtain ⟨bs, h1, h2, h3⟩ := places xs i (by omega)
    obtain ⟨x, hx⟩ : ∃ x, xs[i]? = some x := ⟨xs[i]'(by omega), by simp [show i < xs.length by omega]⟩
    have hst : Stab ((xs.take i).foldl insE []) (xs.take i) := by simpa using fold_stab (xs.take i) [] [] (Stab.refl List.Pairwise.nil)
    obtain ⟨s1, s2⟩ := ins_split hst.srt x
    rw [snocE hx]
    generalize (xs.take i).foldl insE [] = acc at *
    unfold insE
    generalize kk acc x acc.length = k at *
    have hat : ∀ {q : Nat} {l : List Nat} {m : List Cl}, l.map (fun i => xs[i]?) = m.map some → q ∈ l → ∃ z ∈ m, enA xs q = z.en := fun {q l m} e hq => by
      have : xs[q]? ∈ m.map some := e ▸ List.mem_map.2 ⟨q, hq, rfl⟩
      obtain ⟨z, hz, he⟩ := List.mem_map.1 this
      exact ⟨z, hz, enA_at he.symm⟩
    refine ⟨bs.take k ++ i :: bs.drop k, ?_, ?_, ?_⟩
    · refine List.perm_middle.trans ?_
      rw [List.take_append_drop, List.range_succ]
      exact (List.Perm.cons _ h1).trans (List.perm_append_singleton _ _).symm
    · rw [List.map_append, List.map_cons, List.map_append, List.map_cons, List.map_take, List.map_drop, List.map_take, List.map_drop, h2, hx]
    · rw [← List.take_append_drop k bs] at h3
      obtain ⟨p1, p2, p3⟩ := List.pairwise_append.1 h3
      have lt : ∀ q ∈ bs, q < i := fun q hq => List.mem_range.1 (h1.mem_iff.1 hq)
      refine List.pairwise_append.2 ⟨p1, List.pairwise_cons.2 ⟨fun q hq => ?_, p2⟩, fun q hq r hr => ?_⟩
      · obtain ⟨z, hz, he⟩ := hat (m := acc.drop k) (by rw [List.map_drop, List.map_drop, h2]) hq
        rw [Lx_iff, enA_at hx, he]
        exact .inl (s2 z hz)
      · rcases List.mem_cons.1 hr with rfl | hr
        · obtain ⟨z, hz, he⟩ := hat (m := acc.take k) (by rw [List.map_take, List.map_take, h2]) hq
          have := s1 z hz
          have := lt q (List.mem_of_mem_take hq)
          rw [Lx_iff, enA_at hx, he]
          omega
        · exact p3 q hq r hr

/-- How many places go before. -/
def bef (xs : List Cl) (i k : Nat) : Nat := ((List.range k).filter fun q => Lx xs q i).length
theorem bef_succ (xs : List Cl) (i k : Nat) : bef xs i (k + 1) = bef xs i k + if Lx xs k i = true then 1 else 0 := by
  unfold bef
  rw [List.range_succ, List.filter_append, List.length_append]
  by_cases h : Lx xs k i = true
  · rw [if_pos h, List.filter_cons_of_pos (p := fun q => Lx xs q i) h]; rfl
  · rw [if_neg h, List.filter_cons_of_neg (p := fun q => Lx xs q i) h]; rfl
theorem bef_le (xs : List Cl) (i k : Nat) : bef xs i k ≤ k := by
  unfold bef
  have := List.length_filter_le (fun q => Lx xs q i) (List.range k)
  simpa using this
theorem Lx_irrefl (xs : List Cl) (a : Nat) : Lx xs a a = false := by
  cases h : Lx xs a a with
  | false => rfl
  | true => rw [Lx_iff] at h; omega
theorem Lx_asymm {xs : List Cl} {a b : Nat} (h : Lx xs a b = true) : Lx xs b a = false := by
  cases h' : Lx xs b a with
  | false => rfl
  | true => rw [Lx_iff] at h h'; omega
theorem first_places (xs : List Cl) (p : Nat) {bs : List Nat} (hs : bs.Pairwise fun a b => Lx xs a b = true) {n : Nat} (hp : bs.Perm (List.range n)) : bs.filter (fun i => decide (bef xs i n < p)) = bs.take p := by
  have key : ∀ (fr bk : List Nat), fr ++ bk = bs → ∀ i r, bk = i :: r → bef xs i n = fr.length := fun fr bk e i r er => by
    subst er
    unfold bef
    rw [← (hp.filter fun q => Lx xs q i).length_eq, ← e]
    rw [← e] at hs
    obtain ⟨h1, h2, h3⟩ := List.pairwise_append.1 hs
    rw [List.filter_append, List.filter_eq_self.2 (fun q hq => h3 q hq i (by simp)), List.filter_eq_nil_iff.2 (fun q hq => by
      rcases List.mem_cons.1 hq with rfl | hq
      · simp [Lx_irrefl]
      · simp [Lx_asymm ((List.pairwise_cons.1 h2).1 q hq)]), List.append_nil]
  have : ∀ (bk fr : List Nat), fr ++ bk = bs → bk.filter (fun i => decide (bef xs i n < p)) = bk.take (p - fr.length) := by
    intro bk
    induction bk with
    | nil => intro fr _; simp
    | cons i r ih =>
      intro fr e
      have hb := key fr _ e i r rfl
      have := ih (fr ++ [i]) (by simpa using e)
      rw [List.length_append, List.length_singleton] at this
      by_cases h : fr.length < p
      · rw [List.filter_cons_of_pos (by simp [hb, h]), this, show p - fr.length = (p - (fr.length + 1)) + 1 by omega, List.take_succ_cons]
      · rw [List.filter_cons_of_neg (by simp [hb, h]), this, show p - fr.length = 0 by omega, show p - (fr.length + 1) = 0 by omega]; rfl
  simpa using this bs [] rfl
/-- The calls that are taken are the first ones. -/
theorem taken (xs ys : List Cl) (p : Nat) (h : ((List.range xs.length).filter fun i => decide (bef xs i xs.length < p)).map (fun i => xs[i]?) = ys.map some) : ys.Perm ((sorted xs).take p) := by
  obtain ⟨bs, h1, h2, h3⟩ := places xs xs.length (Nat.le_refl _)
  rw [List.take_length, ← sortedE] at h2
  have e1 := (h1.filter fun i => decide (bef xs i xs.length < p)).map fun i => xs[i]?
  rw [first_places xs p h3 h1, h, List.map_take, h2, ← List.map_take] at e1
  exact (perm_some e1).symm
end Go.Proofs.YtfebaopjfmpfkaaDoor
