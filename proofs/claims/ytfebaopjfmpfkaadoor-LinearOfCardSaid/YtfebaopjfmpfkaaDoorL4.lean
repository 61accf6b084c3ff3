/- Package linear, the plain law: masks, orders that are right, and what is live. -/
import Derived.Test.YtfebaopjfmpfkaaDoorL3
namespace Go.Proofs.YtfebaopjfmpfkaaDoor
open Go.X
set_option linter.unusedVariables false
set_option linter.unusedSimpArgs false

/-! ### masks -/
def setB (m i : Int) : Int := IntKind.u64.wrap (BitVec.ofInt 64 m ||| BitVec.ofInt 64 (IntKind.u64.wrap (1 * 2 ^ min i.toNat 64))).toNat

theorem wrap_u64 {x : Nat} (h : x < 2 ^ 64) : IntKind.u64.wrap (x : Int) = x := by
  have : x < 18446744073709551616 := h
  exact IntWalk.u64_in x ⟨by omega, by omega⟩

theorem hasB_nat {D j : Nat} (hD : D < 2 ^ 64) (hj : j < 64) : hasB (D : Int) (j : Int) = D.testBit j := by
  unfold hasB
  have e1 : min (j : Int).toNat 64 = j := by simp; omega
  rw [e1]
  have e0 : ((2 : Int) ^ j) = ((2 ^ j : Nat) : Int) := by simp
  have e2 : (D : Int).fdiv (2 ^ j) = ((D / 2 ^ j : Nat) : Int) := by
    rw [e0, Int.fdiv_eq_ediv_of_nonneg _ (Int.natCast_nonneg _), Int.natCast_ediv]
  rw [e2]
  have e3 : (BitVec.ofInt 64 ((D / 2 ^ j : Nat) : Int) &&& BitVec.ofInt 64 1).toNat = (D / 2 ^ j) % 2 := by
    rw [BitVec.ofInt_natCast, show (1 : Int) = ((1 : Nat) : Int) from rfl, BitVec.ofInt_natCast]
    simp only [BitVec.toNat_and, BitVec.toNat_ofNat]
    have h1 : D / 2 ^ j < 2 ^ 64 := Nat.lt_of_le_of_lt (Nat.div_le_self _ _) hD
    rw [Nat.mod_eq_of_lt h1]
    simp [Nat.and_one_is_mod]
  rw [e3, wrap_u64 (by omega), Nat.testBit_eq_decide_div_mod_eq]
  congr 1
  simp only [eq_iff_iff]
  omega

theorem setB_nat {D i : Nat} (hD : D < 2 ^ 64) (hi : i < 64) : setB (D : Int) (i : Int) = ((D ||| 2 ^ i : Nat) : Int) := by
  unfold setB
  have e1 : min (i : Int).toNat 64 = i := by simp; omega
  have h2 : 2 ^ i < 2 ^ 64 := Nat.pow_lt_pow_right (by omega) hi
  have e0 : (1 * (2 : Int) ^ i) = ((2 ^ i : Nat) : Int) := by simp
  rw [e1, e0, wrap_u64 h2, BitVec.ofInt_natCast, BitVec.ofInt_natCast]
  simp only [BitVec.toNat_or, BitVec.toNat_ofNat]
  rw [Nat.mod_eq_of_lt h2, Nat.mod_eq_of_lt hD]
  exact wrap_u64 (Nat.or_lt_two_pow hD h2)
theorem or_lt {D i : Nat} (hD : D < 2 ^ 64) (hi : i < 64) : D ||| 2 ^ i < 2 ^ 64 := Nat.or_lt_two_pow hD (Nat.pow_lt_pow_right (by omega) hi)
theorem bit_set (D i j : Nat) : (D ||| 2 ^ i).testBit j = (D.testBit j || decide (i = j)) := by
  rw [Nat.testBit_or, Nat.testBit_two_pow]

/-! ### what is live -/
/-- Blocks, each once. -/
structure LiveOk (M : List (Int × Int)) : Prop where
  nodup : (M.map (·.1)).Nodup
  key : ∀ p ∈ M, 256 ≤ p.1 ∧ p.1 ≤ 9223372036854775807
  val : ∀ p ∈ M, 1 ≤ p.2 ∧ p.2 ≤ 16384

theorem LiveOk.nil : LiveOk [] := ⟨by simp, by simp, by simp⟩
theorem LiveOk.perm {M M' : List (Int × Int)} (hp : M.Perm M') (h : LiveOk M) : LiveOk M' :=
  ⟨(hp.map _).nodup_iff.1 h.nodup, fun p hm => h.key p (hp.mem_iff.2 hm), fun p hm => h.val p (hp.mem_iff.2 hm)⟩

theorem lk_mem {M : List (Int × Int)} {k v : Int} (hn : (M.map (·.1)).Nodup) : lk M k = some v ↔ (k, v) ∈ M := by
  induction M with
  | nil => simp [lk]
  | cons p M ih =>
    obtain ⟨k', v'⟩ := p
    simp only [List.map_cons, List.nodup_cons] at hn
    simp only [lk]
    by_cases h : k' = k
    · subst h
      simp only [if_true, Option.some.injEq, List.mem_cons, Prod.mk.injEq, true_and]
      constructor
      · intro h; exact .inl h.symm
      · rintro (h | h)
        · exact h.symm
        · exact absurd (List.mem_map.2 ⟨_, h, rfl⟩) hn.1
    · rw [if_neg h, ih hn.2]
      constructor
      · exact fun hm => List.mem_cons_of_mem _ hm
      · intro hm
        rcases List.mem_cons.1 hm with he | hm
        · cases he; exact absurd rfl h
        · exact hm
theorem lk_none {M : List (Int × Int)} {k : Int} : lk M k = none ↔ ∀ p ∈ M, p.1 ≠ k := by
  induction M with
  | nil => simp [lk]
  | cons p M ih =>
    obtain ⟨k', v'⟩ := p
    simp only [lk]
    by_cases h : k' = k
    · simp [h]
    · simp [h, ih]
theorem lk_perm {M M' : List (Int × Int)} (hp : M.Perm M') (hn : (M.map (·.1)).Nodup) (k : Int) : lk M k = lk M' k := by
  have hn' := (hp.map (·.1)).nodup_iff.1 hn
  cases h : lk M k with
  | none =>
    symm; rw [lk_none]; rw [lk_none] at h
    exact fun p hm => h p (hp.mem_iff.2 hm)
  | some v => symm; rw [lk_mem hn', ← hp.mem_iff, ← lk_mem hn]; exact h

theorem ins_fresh {M : List (Int × Int)} {k v : Int} (h : ∀ p ∈ M, p.1 ≠ k) : ins M k v = M ++ [(k, v)] := by
  induction M with
  | nil => rfl
  | cons p M ih =>
    obtain ⟨k', v'⟩ := p
    have := h (k', v') (by simp)
    simp only [ins, if_neg this, List.cons_append]
    rw [ih fun p hm => h p (by simp [hm])]
theorem del_perm {M : List (Int × Int)} {k v : Int} (hn : (M.map (·.1)).Nodup) (h : (k, v) ∈ M) : M.Perm ((k, v) :: del M k) := by
  induction M with
  | nil => cases h
  | cons p M ih =>
    obtain ⟨k', v'⟩ := p
    simp only [List.map_cons, List.nodup_cons] at hn
    simp only [del]
    by_cases hk : k' = k
    · subst hk
      rw [if_pos rfl]
      rcases List.mem_cons.1 h with he | hm
      · cases he; exact .refl _
      · exact absurd (List.mem_map.2 ⟨_, hm, rfl⟩) hn.1
    · rw [if_neg hk]
      rcases List.mem_cons.1 h with he | hm
      · cases he; exact absurd rfl hk
      · exact ((ih hn.2 hm).cons _).trans (.swap _ _ _)
theorem del_mem {M : List (Int × Int)} {k : Int} {p : Int × Int} (hn : (M.map (·.1)).Nodup) : p ∈ del M k ↔ p ∈ M ∧ p.1 ≠ k := by
  induction M with
  | nil => simp [del]
  | cons q M ih =>
    obtain ⟨k', v'⟩ := q
    simp only [List.map_cons, List.nodup_cons] at hn
    simp only [del]
    by_cases hk : k' = k
    · subst hk
      rw [if_pos rfl]
      constructor
      · intro hm
        exact ⟨List.mem_cons_of_mem _ hm, fun he => hn.1 (List.mem_map.2 ⟨p, hm, he⟩)⟩
      · rintro ⟨hm, hne⟩
        rcases List.mem_cons.1 hm with he | hm
        · subst he; exact absurd rfl hne
        · exact hm
    · rw [if_neg hk, List.mem_cons, ih hn.2, List.mem_cons]
      constructor
      · rintro (rfl | ⟨h1, h2⟩)
        · exact ⟨.inl rfl, hk⟩
        · exact ⟨.inr h1, h2⟩
      · rintro ⟨rfl | h1, h2⟩
        · exact .inl rfl
        · exact .inr ⟨h1, h2⟩
theorem del_nodup {M : List (Int × Int)} {k : Int} (hn : (M.map (·.1)).Nodup) : ((del M k).map (·.1)).Nodup := by
  induction M with
  | nil => simp [del]
  | cons q M ih =>
    obtain ⟨k', v'⟩ := q
    have hn0 := hn
    simp only [List.map_cons, List.nodup_cons] at hn
    simp only [del]
    by_cases hk : k' = k
    · rw [if_pos hk]; exact hn.2
    · rw [if_neg hk]
      simp only [List.map_cons, List.nodup_cons]
      refine ⟨fun hm => hn.1 ?_, ih hn.2⟩
      obtain ⟨p, hp, he⟩ := List.mem_map.1 hm
      exact List.mem_map.2 ⟨p, ((del_mem hn.2).1 hp).1, he⟩
/-- Lists without double keys are the same up to order if they say the same. -/
theorem perm_of_mem {M M' : List (Int × Int)} (hn : (M.map (·.1)).Nodup) (hn' : (M'.map (·.1)).Nodup) (h : ∀ p, p ∈ M ↔ p ∈ M') : M.Perm M' := by
  have nd : ∀ {L : List (Int × Int)}, (L.map (·.1)).Nodup → L.Nodup := fun h => by
    rw [List.nodup_iff_pairwise_ne] at h ⊢
    rw [List.pairwise_map] at h
    exact h.imp fun hne he => hne (by rw [he])
  exact (List.perm_ext_iff_of_nodup (nd hn) (nd hn')).2 h

theorem confl_any {M M' : List (Int × Int)} (hp : M.Perm M') (a b : Int) : M.any (confl a b) = M'.any (confl a b) := by
  rw [Bool.eq_iff_iff, List.any_eq_true, List.any_eq_true]
  constructor
  · rintro ⟨p, h1, h2⟩; exact ⟨p, hp.mem_iff.1 h1, h2⟩
  · rintro ⟨p, h1, h2⟩; exact ⟨p, hp.mem_iff.2 h1, h2⟩

/-- A block that is no conflict is not there. -/
theorem fresh_of {M : List (Int × Int)} {a s : Int} (hs : 1 ≤ s) (h : M.any (confl a s) = false) : ∀ p ∈ M, p.1 ≠ a := by
  intro p hp he
  have : ¬ confl a s p = true := fun hc => by
    have := List.any_eq_true.2 ⟨p, hp, hc⟩
    rw [h] at this; cases this
  apply this
  simp [confl, he]
  omega

/-- What a call asks, so that all goes well. -/
structure ClOk (c : Cl) : Prop where
  ok : OkCl c
  ra : c.ra ≤ 9223372036854775807

theorem accF_perm {M M' : List (Int × Int)} (hp : M.Perm M') (hL : LiveOk M) (c : Cl) (hc : ClOk c) : (accF M c).1 = (accF M' c).1 ∧ (accF M c).2.Perm (accF M' c).2 := by
  have hlk := lk_perm hp hL.nodup c.addr
  have hany := confl_any hp c.ra c.size
  unfold accF
  rw [← hlk, ← hany]
  split
  · rename_i hk
    split
    · exact ⟨rfl, hp⟩
    · split
      · exact ⟨rfl, hp⟩
      · split
        · exact ⟨rfl, hp⟩
        · rename_i hf
          have hf : M.any (confl c.ra c.size) = false := by simpa using hf
          have hs := (hc.ok.mal hk).1
          rw [ins_fresh (fresh_of hs hf), ins_fresh (fresh_of hs (hany ▸ hf))]
          exact ⟨rfl, hp.append_right _⟩
  · split
    · split
      · exact ⟨rfl, hp⟩
      · split
        · rename_i h
          obtain ⟨v, hv⟩ := Option.isSome_iff_exists.1 h.2
          have hn' := (hp.map (·.1)).nodup_iff.1 hL.nodup
          have h1 := del_perm hL.nodup ((lk_mem hL.nodup).1 hv)
          have h2 := del_perm hn' ((lk_mem hn').1 (hlk ▸ hv))
          exact ⟨rfl, (List.perm_cons _).1 ((h1.symm.trans hp).trans h2)⟩
        · exact ⟨rfl, hp⟩
    · exact ⟨rfl, hp⟩

theorem accF_ok {M : List (Int × Int)} (hL : LiveOk M) (c : Cl) (hc : ClOk c) : LiveOk (accF M c).2 := by
  unfold accF
  split
  · rename_i hk
    split
    · exact hL
    · split
      · exact hL
      · rename_i hn
        split
        · exact hL
        · rename_i hf
          have hf : M.any (confl c.ra c.size) = false := by simpa using hf
          have hs := hc.ok.mal hk
          have hfr := fresh_of hs.1 hf
          have hra : 256 ≤ c.ra := by
            rcases Int.lt_or_le c.ra 256 with h | h
            · exact absurd (.inr (.inl h)) hn
            · exact h
          rw [ins_fresh hfr]
          refine ⟨?_, fun p hp => ?_, fun p hp => ?_⟩
          · rw [List.map_append, List.nodup_append]
            refine ⟨hL.nodup, by simp, fun a ha b hb => ?_⟩
            obtain ⟨p, hp, rfl⟩ := List.mem_map.1 ha
            simp at hb
            subst hb
            exact hfr p hp
          · rcases List.mem_append.1 hp with hp | hp
            · exact hL.key p hp
            · simp at hp; subst hp; exact ⟨hra, hc.ra⟩
          · rcases List.mem_append.1 hp with hp | hp
            · exact hL.val p hp
            · simp at hp; subst hp; exact ⟨hs.1, hs.2.1⟩
  · split
    · split
      · exact hL
      · split
        · exact ⟨del_nodup hL.nodup, fun p hp => hL.key p ((del_mem hL.nodup).1 hp).1, fun p hp => hL.val p ((del_mem hL.nodup).1 hp).1⟩
        · exact hL
    · exact hL

theorem accF_len {M : List (Int × Int)} (c : Cl) : (accF M c).2.length ≤ M.length + 1 := by
  have hi : ∀ (M : List (Int × Int)) (k v : Int), (ins M k v).length ≤ M.length + 1 := by
    intro M k v
    induction M with
    | nil => simp [ins]
    | cons p M ih =>
      obtain ⟨k', v'⟩ := p
      simp only [ins]
      split <;> simp <;> omega
  have hd : ∀ (M : List (Int × Int)) (k : Int), (del M k).length ≤ M.length := by
    intro M k
    induction M with
    | nil => simp [del]
    | cons p M ih =>
      obtain ⟨k', v'⟩ := p
      simp only [del]
      split <;> simp <;> omega
  unfold accF
  have h1 := hi M c.ra c.size
  have h2 := hd M c.addr
  repeat' split
  all_goals (simp only []; omega)

/-- A block that was made is taken back. -/
theorem back0 {M M' : List (Int × Int)} {c : Cl} (hL : LiveOk M) (hc : ClOk c) (hk : c.kind = 0) (hr : c.re = 0) (ha : (accF M c).1 = true) (hp : (accF M c).2.Perm M') : (del M' c.ra).Perm M := by
  have hok := accF_ok hL c hc
  have h6 : ¬ c.re = 6 := by omega
  unfold accF at ha hp hok
  rw [if_pos hk, if_neg h6] at ha hp hok
  split at ha
  · cases ha
  · rename_i h7
    rw [if_neg h7] at hp hok
    split at ha
    · cases ha
    · rename_i hf
      rw [if_neg hf] at hp hok
      have hf : M.any (confl c.ra c.size) = false := by simpa using hf
      rw [ins_fresh (fresh_of (hc.ok.mal hk).1 hf)] at hp hok
      have hn' := (hp.map (·.1)).nodup_iff.1 hok.nodup
      have h1 := del_perm hn' (hp.mem_iff.1 (show (c.ra, c.size) ∈ M ++ [(c.ra, c.size)] by simp))
      have h2 : M'.Perm ((c.ra, c.size) :: M) := hp.symm.trans List.perm_append_comm
      exact (List.perm_cons _).1 (h1.symm.trans h2)
/-- A block that was freed is put back. -/
theorem back1 {M M' : List (Int × Int)} {c : Cl} (hL : LiveOk M) (hk : c.kind = 1) (hr : c.re = 0) (ha : (accF M c).1 = true) (hp : (accF M c).2.Perm M') : (ins M' c.addr ((lk M c.addr).getD 0)).Perm M := by
  unfold accF at ha hp
  rw [if_neg (by omega), if_pos hk] at ha hp
  split at ha
  · cases ha
  · rename_i h1
    rw [if_neg h1] at hp
    split at ha
    · rename_i h2
      rw [if_pos h2] at hp
      obtain ⟨v, hv⟩ := Option.isSome_iff_exists.1 h2.2
      have hm := (lk_mem hL.nodup).1 hv
      have hfr : ∀ p ∈ M', p.1 ≠ c.addr := fun p hp' => ((del_mem hL.nodup).1 (hp.mem_iff.2 hp')).2
      rw [ins_fresh hfr, hv]
      exact ((hp.symm.append_right _).trans List.perm_append_comm).trans (del_perm hL.nodup hm).symm
    · exfalso
      simp only [Bool.and_eq_true, Bool.or_eq_true, decide_eq_true_iff] at ha
      omega
theorem backN {M : List (Int × Int)} {c : Cl} (ha : (accF M c).1 = true) (h0 : c.kind = 0 → c.re ≠ 0) (h1 : c.kind = 1 → c.re = 0 → lk M c.addr = none) : (accF M c).2 = M := by
  unfold accF at ha ⊢
  split
  · rename_i hk
    rw [if_pos hk] at ha
    split
    · rfl
    · rename_i h6
      rw [if_neg h6] at ha
      have : c.re ≠ 0 := h0 hk
      rw [if_pos (.inl this)]
  · rename_i hk
    split
    · rename_i hk1
      split
      · rfl
      · split
        · rename_i h2
          rw [h1 hk1 h2.1] at h2
          simp at h2
        · rfl
    · rfl

/-! ### orders -/
/-- The calls, in this order, one after the other, from where these are done and this is live. -/
def Runs (xs : List Cl) : Nat → List (Int × Int) → List Nat → Prop
  | _, _, [] => True
  | D, M, i :: r => ∃ c, xs[i]? = some c ∧ canB xs D i c.bg = true ∧ (accF M c).1 = true ∧ Runs xs (D ||| 2 ^ i) (accF M c).2 r
/-- All that is not done is in the order. -/
def Full (xs : List Cl) (D : Nat) (o : List Nat) : Prop := ∀ i, i < xs.length → D.testBit i = true ∨ i ∈ o
def lexLe : List Nat → List Nat → Prop
  | [], _ => True
  | _ :: _, [] => False
  | a :: l, b :: m => a < b ∨ (a = b ∧ lexLe l m)
def Good (xs : List Cl) (D : Nat) (M : List (Int × Int)) (o : List Nat) : Prop := Runs xs D M o ∧ Full xs D o
/-- The first of the right orders. -/
def Least (xs : List Cl) (D : Nat) (M : List (Int × Int)) (o : List Nat) : Prop := Good xs D M o ∧ ∀ o', Good xs D M o' → lexLe o o'

structure HistOk (xs : List Cl) : Prop where
  valid : Valid xs
  small : xs.length ≤ 64
  ra : ∀ c ∈ xs, c.ra ≤ 9223372036854775807

theorem HistOk.cl {xs : List Cl} (h : HistOk xs) {i : Nat} {c : Cl} (hi : xs[i]? = some c) : ClOk c := ⟨(h.valid i c hi).1, h.ra c (List.mem_of_getElem? hi)⟩

theorem Runs.perm {xs : List Cl} (hx : HistOk xs) : ∀ {o : List Nat} {D : Nat} {M M' : List (Int × Int)}, M.Perm M' → LiveOk M → Runs xs D M o → Runs xs D M' o
  | [], _, _, _, _, _, _ => trivial
  | i :: r, D, M, M', hp, hL, ⟨c, h1, h2, h3, h4⟩ => by
    obtain ⟨e1, e2⟩ := accF_perm hp hL c (hx.cl h1)
    exact ⟨c, h1, h2, e1 ▸ h3, Runs.perm hx e2 (accF_ok hL c (hx.cl h1)) h4⟩
theorem Good.perm {xs : List Cl} (hx : HistOk xs) {o : List Nat} {D : Nat} {M M' : List (Int × Int)} (hp : M.Perm M') (hL : LiveOk M) (h : Good xs D M o) : Good xs D M' o := ⟨h.1.perm hx hp hL, h.2⟩
theorem Least.perm {xs : List Cl} (hx : HistOk xs) {o : List Nat} {D : Nat} {M M' : List (Int × Int)} (hp : M.Perm M') (hL : LiveOk M) (h : Least xs D M o) : Least xs D M' o :=
  ⟨h.1.perm hx hp hL, fun o' h' => h.2 o' (h'.perm hx hp.symm (hL.perm hp))⟩

theorem canB_has {xs : List Cl} {D i : Nat} {bg : Int} (hD : D < 2 ^ 64) (hi : i < 64) (h : canB xs D i bg = true) : D.testBit i = false := by
  simp only [canB, Bool.and_eq_true] at h
  have := h.1
  rw [hasB_nat hD hi] at this
  simpa using this

/-- What has been done stands in a list, each once. -/
structure Done (xs : List Cl) (D : Nat) (out : List Nat) : Prop where
  lt : D < 2 ^ 64
  nodup : out.Nodup
  mem : ∀ i, i ∈ out ↔ i < xs.length ∧ D.testBit i = true

theorem Done.nil (xs : List Cl) : Done xs 0 [] := ⟨by decide, by simp, by simp⟩
theorem Done.push {xs : List Cl} (hs : xs.length ≤ 64) {D i : Nat} {out : List Nat} (h : Done xs D out) (hi : i < xs.length) (hb : D.testBit i = false) : Done xs (D ||| 2 ^ i) (out ++ [i]) := by
  refine ⟨or_lt h.lt (by omega), ?_, fun j => ?_⟩
  · rw [List.nodup_append]
    refine ⟨h.nodup, by simp, fun a ha b hb' => ?_⟩
    simp at hb'; subst hb'
    rintro rfl
    have := ((h.mem _).1 ha).2
    rw [hb] at this; cases this
  · rw [List.mem_append, h.mem, bit_set, Bool.or_eq_true, decide_eq_true_iff, List.mem_singleton]
    constructor
    · rintro (⟨h1, h2⟩ | rfl)
      · exact ⟨h1, .inl h2⟩
      · exact ⟨hi, .inr rfl⟩
    · rintro ⟨h1, h2 | rfl⟩
      · exact .inl ⟨h1, h2⟩
      · exact .inr rfl
theorem Done.le {xs : List Cl} {D : Nat} {out : List Nat} (h : Done xs D out) : out.length ≤ xs.length := by
  have := h.nodup.length_le_of_subset (l₂ := List.range xs.length) (fun i hi => List.mem_range.2 ((h.mem i).1 hi).1)
  simpa using this
theorem Done.full {xs : List Cl} {D : Nat} {out : List Nat} (h : Done xs D out) (hl : out.length = xs.length) : Full xs D [] := by
  intro i hi
  left
  by_cases hm : i ∈ out
  · exact ((h.mem i).1 hm).2
  · exfalso
    have := (List.nodup_cons.2 ⟨hm, h.nodup⟩).length_le_of_subset (l₂ := List.range xs.length) (fun j hj => by
      rcases List.mem_cons.1 hj with rfl | hj
      · exact List.mem_range.2 hi
      · exact List.mem_range.2 ((h.mem j).1 hj).1)
    simp at this; omega
theorem Done.notFull {xs : List Cl} {D : Nat} {out : List Nat} (h : Done xs D out) (hl : out.length ≠ xs.length) : ¬ Full xs D [] := by
  intro hf
  apply hl
  have hsub : List.range xs.length ⊆ out := fun i hi => (h.mem i).2 ⟨List.mem_range.1 hi, by
    rcases hf i (List.mem_range.1 hi) with h | h
    · exact h
    · cases h⟩
  have := (List.nodup_range (n := xs.length)).length_le_of_subset hsub
  have := h.le
  simp at *; omega

theorem Good.cons {xs : List Cl} {D i : Nat} {M : List (Int × Int)} {c : Cl} {r : List Nat} (h1 : xs[i]? = some c) (h2 : canB xs D i c.bg = true) (h3 : (accF M c).1 = true) (h : Good xs (D ||| 2 ^ i) (accF M c).2 r) : Good xs D M (i :: r) :=
  ⟨⟨c, h1, h2, h3, h.1⟩, fun j hj => by
    rcases h.2 j hj with h | h
    · rw [bit_set, Bool.or_eq_true, decide_eq_true_iff] at h
      rcases h with h | rfl
      · exact .inl h
      · exact .inr (by simp)
    · exact .inr (by simp [h])⟩
theorem Good.tail {xs : List Cl} {D i : Nat} {M : List (Int × Int)} {r : List Nat} (h : Good xs D M (i :: r)) : ∃ c, xs[i]? = some c ∧ canB xs D i c.bg = true ∧ (accF M c).1 = true ∧ Good xs (D ||| 2 ^ i) (accF M c).2 r := by
  obtain ⟨⟨c, h1, h2, h3, h4⟩, hf⟩ := h
  refine ⟨c, h1, h2, h3, h4, fun j hj => ?_⟩
  rw [bit_set, Bool.or_eq_true, decide_eq_true_iff]
  rcases hf j hj with h | h
  · exact .inl (.inl h)
  · rcases List.mem_cons.1 h with rfl | h
    · exact .inl (.inr rfl)
    · exact .inr h

/-- The first call that leads to a right order, and the first right order behind it. -/
theorem Least.cons {xs : List Cl} {D i : Nat} {M : List (Int × Int)} {c : Cl} {r : List Nat} (hn : ¬ Full xs D []) (h1 : xs[i]? = some c) (h2 : canB xs D i c.bg = true) (h3 : (accF M c).1 = true) (h : Least xs (D ||| 2 ^ i) (accF M c).2 r)
    (hb : ∀ j, j < i → ∀ r', ¬ Good xs D M (j :: r')) : Least xs D M (i :: r) := by
  refine ⟨h.1.cons h1 h2 h3, fun o' ho => ?_⟩
  cases o' with
  | nil => exact absurd ho.2 hn
  | cons j r' =>
    rcases Nat.lt_trichotomy i j with hlt | rfl | hgt
    · exact .inl hlt
    · obtain ⟨c', h1', _, _, hg⟩ := ho.tail
      rw [h1] at h1'; cases h1'
      exact .inr ⟨rfl, h.2 r' hg⟩
    · exact absurd ho (hb j hgt r')

end Go.Proofs.YtfebaopjfmpfkaaDoor
