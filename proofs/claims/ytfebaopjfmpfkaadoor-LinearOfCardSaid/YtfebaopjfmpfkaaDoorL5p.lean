/- Package linear, the plain law: what is live, told as text, and that the text tells it. -/
import Derived.Test.YtfebaopjfmpfkaaDoorL4
import Derived.Lib.ItoaNum
namespace Go.Proofs.YtfebaopjfmpfkaaDoor
open Go.X
set_option linter.unusedVariables false
set_option linter.unusedSimpArgs false

def sortZ (l : List Int) : List Int := l.mergeSort fun a b => decide (a ≤ b)
/-- What is live, told by rising addresses. -/
def txtL (M : List (Int × Int)) : List UInt8 := (sortZ (M.map (·.1))).flatMap fun k => Lib.itoa k ++ [32] ++ Lib.itoa ((lk M k).getD 0) ++ [32]
def txt (M : List (Int × Int)) : ByteArray := ⟨(txtL M).toArray⟩

theorem sortZ_perm (l : List Int) : (sortZ l).Perm l := List.mergeSort_perm l _
theorem sortZ_sorted (l : List Int) : (sortZ l).Pairwise (· ≤ ·) := by
  have := List.pairwise_mergeSort (le := fun a b : Int => decide (a ≤ b)) (fun a b c h1 h2 => by simp at *; omega) (fun a b => by simp; omega) l
  exact this.imp fun h => by simpa using h
theorem sorted_eq : ∀ {l l' : List Int}, l.Pairwise (· ≤ ·) → l'.Pairwise (· ≤ ·) → l.Perm l' → l = l'
  | [], l', _, _, hp => (List.nil_perm.1 hp).symm
  | a :: l, [], _, _, hp => by have := hp.length_eq; simp at this
  | a :: l, b :: l', h, h', hp => by
    rw [List.pairwise_cons] at h h'
    have h1 : a ∈ b :: l' := hp.mem_iff.1 (by simp)
    have h2 : b ∈ a :: l := hp.mem_iff.2 (by simp)
    have hab : a = b := by
      rcases List.mem_cons.1 h1 with rfl | h1
      · rfl
      · rcases List.mem_cons.1 h2 with rfl | h2
        · rfl
        · have := h.1 b h2; have := h'.1 a h1; omega
    subst hab
    rw [sorted_eq h.2 h'.2 ((List.perm_cons _).1 hp)]

theorem txt_perm {M M' : List (Int × Int)} (hp : M.Perm M') (hL : LiveOk M) : txt M = txt M' := by
  have hs : sortZ (M.map (·.1)) = sortZ (M'.map (·.1)) := sorted_eq (sortZ_sorted _) (sortZ_sorted _) ((sortZ_perm _).trans ((hp.map _).trans (sortZ_perm _).symm))
  have hk : ∀ k, lk M k = lk M' k := lk_perm hp hL.nodup
  unfold txt txtL
  rw [hs]
  simp only [hk]

/-! ### numerals can be read back -/
def dval (l : List UInt8) : Nat := l.foldl (fun a c => 10 * a + (c.toNat - 48)) 0
theorem dval_snoc (l : List UInt8) (c : UInt8) : dval (l ++ [c]) = 10 * dval l + (c.toNat - 48) := by simp [dval]
theorem dval_dec (u : Nat) : dval (Lib.decDigits u) = u := by
  induction u using Nat.strongRecOn with
  | _ u ih =>
    rw [Lib.decDigits]
    have h48 : ∀ k, k < 10 → (UInt8.ofNat (48 + k)).toNat - 48 = k := fun k hk => by
      have : (UInt8.ofNat (48 + k)).toNat = (48 + k) % 256 := by simp
      rw [this]; omega
    split
    · rename_i h
      simp only [dval, List.foldl_cons, List.foldl_nil]
      rw [h48 u h]; omega
    · rename_i h
      rw [dval_snoc, ih (u / 10) (by omega), h48 _ (by omega)]
      omega
theorem dec_digit (u : Nat) : ∀ c ∈ Lib.decDigits u, c ≠ 32 := by
  induction u using Nat.strongRecOn with
  | _ u ih =>
    rw [Lib.decDigits]
    have h48 : ∀ k, k < 10 → UInt8.ofNat (48 + k) ≠ 32 := fun k hk h => by
      have h2 : (UInt8.ofNat (48 + k)).toNat = 32 := by rw [h]; rfl
      have : (UInt8.ofNat (48 + k)).toNat = (48 + k) % 256 := by simp
      omega
    split
    · rename_i h
      intro c hc
      simp at hc; subst hc
      have := h48 u h
      simpa using this
    · rename_i h
      intro c hc
      rcases List.mem_append.1 hc with hc | hc
      · exact ih (u / 10) (by omega) c hc
      · simp at hc; subst hc
        have := h48 (u % 10) (by omega)
        simpa using this
theorem split_sep {a b r s : List UInt8} (ha : ∀ c ∈ a, c ≠ 32) (hb : ∀ c ∈ b, c ≠ 32) (h : a ++ 32 :: r = b ++ 32 :: s) : a = b ∧ r = s := by
  induction a generalizing b with
  | nil =>
    cases b with
    | nil => simpa using h
    | cons x b =>
      simp at h
      exact absurd h.1.symm (hb x (by simp))
  | cons x a ih =>
    cases b with
    | nil =>
      simp at h
      exact absurd h.1 (ha x (by simp))
    | cons y b =>
      simp only [List.cons_append, List.cons.injEq] at h
      obtain ⟨h1, h2⟩ := ih (fun c hc => ha c (by simp [hc])) (fun c hc => hb c (by simp [hc])) h.2
      exact ⟨by rw [h.1, h1], h2⟩
theorem tok_inj : ∀ {l m : List Nat}, l.flatMap (fun t => Lib.decDigits t ++ [32]) = m.flatMap (fun t => Lib.decDigits t ++ [32]) → l = m
  | [], [], _ => rfl
  | [], t :: m, h => by
    have := congrArg List.length h
    simp at this
  | t :: l, [], h => by
    have := congrArg List.length h
    simp at this
  | t :: l, u :: m, h => by
    simp only [List.flatMap_cons, List.append_assoc, List.cons_append, List.nil_append] at h
    obtain ⟨h1, h2⟩ := split_sep (dec_digit t) (dec_digit u) h
    have : t = u := by rw [← dval_dec t, ← dval_dec u, h1]
    rw [this, tok_inj h2]

/-- What is live, by rising addresses. -/
def pairsOf (M : List (Int × Int)) : List (Int × Int) := (sortZ (M.map (·.1))).map fun k => (k, (lk M k).getD 0)
theorem pairsOf_perm {M : List (Int × Int)} (hL : LiveOk M) : (pairsOf M).Perm M := by
  unfold pairsOf
  refine ((sortZ_perm _).map _).trans ?_
  rw [List.map_map]
  have : M.map ((fun k => (k, (lk M k).getD 0)) ∘ (·.1)) = M.map id := List.map_congr_left fun p hp => by
    have := (lk_mem hL.nodup (k := p.1) (v := p.2)).2 hp
    simp [this]
  rw [this, List.map_id]
theorem txtL_tok {M : List (Int × Int)} (hL : LiveOk M) : txtL M = ((pairsOf M).flatMap fun p => [p.1.toNat, p.2.toNat]).flatMap fun t => Lib.decDigits t ++ [32] := by
  have hit : ∀ n : Int, 0 ≤ n → Lib.itoa n = Lib.decDigits n.toNat := fun n hn => by
    unfold Lib.itoa; rw [if_neg (by omega)]
  unfold txtL pairsOf
  rw [List.flatMap_map]
  have key : ∀ l : List Int, (∀ k ∈ l, 0 ≤ k ∧ 0 ≤ (lk M k).getD 0) → l.flatMap (fun k => Lib.itoa k ++ [32] ++ Lib.itoa ((lk M k).getD 0) ++ [32]) = (l.flatMap fun k => [k.toNat, ((lk M k).getD 0).toNat]).flatMap fun t => Lib.decDigits t ++ [32] := by
    intro l
    induction l with
    | nil => intro _; rfl
    | cons k l ih =>
      intro h
      obtain ⟨h1, h2⟩ := h k (by simp)
      have e := ih fun k hk => h k (by simp [hk])
      rw [List.flatMap_cons, List.flatMap_cons, List.flatMap_append, e, hit _ h1, hit _ h2]
      generalize (l.flatMap fun k => [k.toNat, ((lk M k).getD 0).toNat]).flatMap (fun t => Lib.decDigits t ++ [32]) = rest
      simp only [List.flatMap_cons, List.flatMap_nil, List.append_assoc, List.append_nil]
  refine key _ fun k hk => ?_
  have hk' := (sortZ_perm _).mem_iff.1 hk
  obtain ⟨p, hp, rfl⟩ := List.mem_map.1 hk'
  have := (lk_mem hL.nodup (k := p.1) (v := p.2)).2 hp
  rw [this]
  have h1 := hL.key p hp
  have h2 := hL.val p hp
  exact ⟨by omega, by simp; omega⟩
theorem two_inj : ∀ {l m : List (Int × Int)}, (∀ p ∈ l, 0 ≤ p.1 ∧ 0 ≤ p.2) → (∀ p ∈ m, 0 ≤ p.1 ∧ 0 ≤ p.2) → l.flatMap (fun p => [p.1.toNat, p.2.toNat]) = m.flatMap (fun p => [p.1.toNat, p.2.toNat]) → l = m
  | [], [], _, _, _ => rfl
  | [], p :: m, _, _, h => by simp at h
  | p :: l, [], _, _, h => by simp at h
  | (a, b) :: l, (c, d) :: m, h1, h2, h => by
    simp only [List.flatMap_cons, List.cons_append, List.nil_append, List.cons.injEq] at h
    obtain ⟨h3, h4, h5⟩ := h
    have k1 := h1 (a, b) (by simp)
    have k2 := h2 (c, d) (by simp)
    have e1 : a = c := by simp at k1 k2; omega
    have e2 : b = d := by simp at k1 k2; omega
    rw [e1, e2, two_inj (fun p hp => h1 p (by simp [hp])) (fun p hp => h2 p (by simp [hp])) h5]
theorem txt_inj {M M' : List (Int × Int)} (hL : LiveOk M) (hL' : LiveOk M') (h : txt M = txt M') : M.Perm M' := by
  have h1 : txtL M = txtL M' := by
    have := congrArg (·.data.toList) h
    simpa [txt] using this
  rw [txtL_tok hL, txtL_tok hL'] at h1
  have hpos : ∀ {M : List (Int × Int)}, LiveOk M → ∀ p ∈ pairsOf M, 0 ≤ p.1 ∧ 0 ≤ p.2 := fun hL p hp => by
    have hm := (pairsOf_perm hL).mem_iff.1 hp
    have h1 := hL.key p hm
    have h2 := hL.val p hm
    exact ⟨by omega, by omega⟩
  have := two_inj (hpos hL) (hpos hL') (tok_inj h1)
  exact (pairsOf_perm hL).symm.trans (this ▸ pairsOf_perm hL')
end Go.Proofs.YtfebaopjfmpfkaaDoor
