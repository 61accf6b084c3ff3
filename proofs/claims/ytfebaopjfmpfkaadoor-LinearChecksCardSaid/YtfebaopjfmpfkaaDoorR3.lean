/- The specification's package of chapter 21: a plain allocator does a call. -/
import Derived.Test.YtfebaopjfmpfkaaDoorR2
import Derived.Test.YtfebaopjfmpfkaaDoorX23
namespace Go.Proofs.YtfebaopjfmpfkaaDoor
open Go.X
set_option maxRecDepth 10000
set_option linter.unusedVariables false
set_option linter.unusedSimpArgs false

def encP (p : Int × Int) : List Value := [.int .i64 p.1, .int .i64 p.2]

theorem apart_spec (a b : Int × Int) (ha : 0 ≤ a.1 ∧ a.1 ≤ 9223372036854775807) (hb : 0 ≤ b.1 ∧ b.1 ≤ 9223372036854775807) (w : World) (S : FP) (hd : ∀ b, S b → b < w.heap.size) :
    Trip Tryd.prog 47 #[.agg ⟨encP a⟩, .agg ⟨encP b⟩] w S fun v L => v = .bool (if a.1 ≤ b.1 then decide (b.1 - a.1 ≥ a.2) else decide (a.1 - b.1 ≥ b.2)) ∧ L = [] := by
  refine Trip.of_x (L := []) Tryd.func47 (by kernel_rfl) rfl Tryd.ntmps47 Tryd.results47 rfl (ctx_ok _) trivial hd ?_
  intro ab
  intro bb
  refine ⟨_, ld 1 rfl rfl rfl, ?_⟩
  refine ⟨_, ld 0 rfl rfl rfl, ?_⟩
  refine ⟨fun h => ?_, fun h => ?_⟩
  · have h : a.1 ≤ b.1 := of_decide_eq_true h
    refine ⟨_, ld 0 rfl rfl rfl, ?_⟩
    refine ⟨_, ld 1 rfl rfl rfl, ?_⟩
    refine ⟨b.1 - a.1, wrap_i64 (by omega) (by omega), ?_⟩
    refine ⟨_, ld 1 rfl rfl rfl, ?_⟩
    exact ⟨_, .pick [], by rw [if_pos h]; rfl, rfl⟩
  · have h : ¬ a.1 ≤ b.1 := of_decide_eq_false h
    refine ⟨_, ld 1 rfl rfl rfl, ?_⟩
    refine ⟨_, ld 0 rfl rfl rfl, ?_⟩
    refine ⟨a.1 - b.1, wrap_i64 (by omega) (by omega), ?_⟩
    refine ⟨_, ld 0 rfl rfl rfl, ?_⟩
    exact ⟨_, .pick [], by rw [if_neg h]; rfl, rfl⟩
theorem apart_confl {p : Int × Int} {ra sz : Int} (hp : 1 ≤ p.2) (hs : 1 ≤ sz) : (if p.1 ≤ ra then decide (ra - p.1 ≥ p.2) else decide (p.1 - ra ≥ sz)) = !confl ra sz p := by
  unfold confl
  by_cases h : p.1 ≤ ra
  · rw [if_pos h]
    by_cases h' : p.1 = ra
    · rw [h', decide_eq_false (show ¬ ra - ra ≥ p.2 by omega), decide_eq_false (show ¬ ra < ra by omega), decide_eq_true (show ra ≥ ra by omega), decide_eq_true (show ra - ra < sz by omega)]; rfl
    · rw [decide_eq_true (show p.1 < ra by omega), decide_eq_false (show ¬ p.1 ≥ ra by omega)]
      simp only [Bool.true_and, Bool.false_and, Bool.or_false]
      rw [← decide_not]
      congr 1
      simp only [eq_iff_iff]
      omega
  · rw [if_neg h, decide_eq_false (show ¬ p.1 < ra by omega), decide_eq_true (show p.1 ≥ ra by omega)]
    simp only [Bool.true_and, Bool.false_and, Bool.false_or]
    rw [← decide_not]
    congr 1
    simp only [eq_iff_iff]
    omega

/-- What a plain allocator says of a call, and its live blocks then, up to their order. -/
def AccR (ys : List (Int × Int)) (c : Cl) (zs : List (Int × Int)) (ok : Bool) : Prop := ok = (accF ys c).1 ∧ (ok = true → zs.Perm (accF ys c).2)

theorem perm_at {α : Type} {ys : List α} {j : Nat} {p : α} (h : ys[j]? = some p) : ys.Perm (p :: (ys.take j ++ ys.drop (j + 1))) := by
  obtain ⟨hj, he⟩ := List.getElem?_eq_some_iff.1 h
  have h1 : ys = ys.take j ++ p :: ys.drop (j + 1) := by
    rw [← he]; simp
  have := List.perm_middle (a := p) (l₁ := ys.take j) (l₂ := ys.drop (j + 1))
  rwa [← h1] at this

theorem acceptR_spec (la : Option Addr) (n cap : Nat) (ys : List (Int × Int)) (c : Cl) (hL : LiveOk ys) (hc : OkCl c) (hra : c.ra ≤ 9223372036854775807) (w : World) (S : FP) (hl : RO w S (roS la 2 encP ys)) (hn : ys.length = n) (hcap : n ≤ cap) (hn2 : n ≤ 1000000) (hd : ∀ b, S b → b < w.heap.size) :
    Trip Tryd.prog 37 #[.slice la n cap, .agg ⟨encCl c⟩] w S fun v L => ∃ (zs : List (Int × Int)) (a' : Option Addr) (c' : Nat) (ok : Bool), v = .tuple #[.slice a' zs.length c', .bool ok] ∧ AccR ys c zs ok ∧ ((a' = la ∧ c' = cap ∧ zs = ys ∧ L = []) ∨ L = [own a' c' 90 2 encP zs]) := by
  refine Trip.of_x (L := []) Tryd.func37 (by kernel_rfl) rfl Tryd.ntmps37 Tryd.results37 rfl (ctx_ok _) trivial hd ?_
  intro cb
  refine loopI (σ := Nat × Int) (fun s => [(0, .slice la n cap), (3, .pointer (some ⟨cb, 0, none⟩)), (6, .int .i64 s.2), (7, .int .i64 s.1)]) (fun s => [pt cb (encCl c) 41])
    (fun s => s.1 ≤ n ∧ ((s.2 = -1 ∧ ∀ (j : Nat) (p : Int × Int), j < s.1 → ys[j]? = some p → p.1 ≠ c.addr) ∨ ∃ (j : Nat) (p : Int × Int), j < s.1 ∧ s.2 = j ∧ ys[j]? = some p ∧ p.1 = c.addr)) (fun s => n - s.1) (0, -1)
    ⟨rfl, rfl, rfl, rfl, trivial⟩ (.refl _) ⟨Nat.zero_le _, .inl ⟨rfl, fun j p h => absurd h (by simp)⟩⟩ ?_
  rintro ⟨k, at'⟩ ⟨hk, hat⟩
  have hk : k ≤ n := hk
  have hat : (at' = -1 ∧ ∀ (j : Nat) (p : Int × Int), j < k → ys[j]? = some p → p.1 ≠ c.addr) ∨ ∃ (j : Nat) (p : Int × Int), j < k ∧ at' = j ∧ ys[j]? = some p ∧ p.1 = c.addr := hat
  refine ⟨fun hlt => ?_, fun hge => ?_⟩
  · have hkn : k < n := by have := of_decide_eq_true hlt; simp at this; omega
    obtain ⟨p, hp⟩ : ∃ p, ys[k]? = some p := ⟨ys[k]'(by omega), by simp [show k < ys.length by omega]⟩
    obtain ⟨b1, o1, rfl⟩ := roS_at hl (by omega)
    refine Or.inl ⟨by kernel_rfl, ?_⟩
    refine ⟨k, rfl, hkn, ?_⟩
    refine ⟨_, ldR hl k 0 hp rfl rfl rfl, ?_⟩
    refine ⟨_, ld 0 rfl rfl rfl, ?_⟩
    refine ⟨fun h => ?_, fun h => ?_⟩
    · have h : p.1 = c.addr := of_decide_eq_true h
      refine ⟨_, wrap_i64 (by omega) (by omega), ?_⟩
      exact backI (k + 1, (k : Int)) (by show n - (k + 1) < n - k; omega) ⟨hkn, .inr ⟨k, p, by show k < k + 1; omega, rfl, hp, h⟩⟩ ⟨rfl, rfl, rfl, rfl, trivial⟩ (.refl _)
    · have h : ¬ p.1 = c.addr := of_decide_eq_false h
      refine ⟨_, wrap_i64 (by omega) (by omega), ?_⟩
      exact backI (k + 1, at') (by show n - (k + 1) < n - k; omega) ⟨hkn, hat.imp (fun ⟨h1, h2⟩ => ⟨h1, fun j q hj hq => by
        have hj : j < k + 1 := hj
        rcases Nat.lt_or_ge j k with h' | h'
        · exact h2 j q h' hq
        · obtain rfl : j = k := by omega
          rw [hp] at hq; cases hq; exact h⟩) (fun ⟨j, q, h1, h2⟩ => ⟨j, q, by show j < k + 1; omega, h2⟩)⟩ ⟨rfl, rfl, rfl, rfl, trivial⟩ (.refl _)
  have hkn : k = n := by have := of_decide_eq_false hge; simp at this; omega
  subst hkn
  clear hge
  have hlk : (at' = -1 ∧ lk ys c.addr = none) ∨ ∃ (j : Nat) (p : Int × Int), j < k ∧ at' = j ∧ ys[j]? = some p ∧ p.1 = c.addr ∧ lk ys c.addr = some p.2 := by
    rcases hat with ⟨h1, h2⟩ | ⟨j, p, h1, h2, h3, h4⟩
    · left
      refine ⟨h1, lk_none.2 fun p hp => ?_⟩
      obtain ⟨j, hj⟩ := List.mem_iff_getElem?.1 hp
      exact h2 j p (by have := (List.getElem?_eq_some_iff.1 hj).1; omega) hj
    · right
      refine ⟨j, p, h1, h2, h3, h4, (lk_mem hL.nodup).2 ?_⟩
      rw [← h4]; exact List.mem_of_getElem? h3
  refine ⟨_, ldA 0 rfl rfl rfl rfl rfl, ?_⟩
  intro xb
  refine st 0 rfl rfl rfl rfl rfl ?_
  refine ⟨_, ld 1 rfl rfl rfl, ?_⟩
  have self : ∀ (ok : Bool) (h : ok = (accF ys c).1 ∧ (ok = true → ys.Perm (accF ys c).2)), ∃ (zs : List (Int × Int)) (a' : Option Addr) (c' : Nat) (ok' : Bool), Value.tuple #[.slice la ys.length cap, .bool ok] = .tuple #[.slice a' zs.length c', .bool ok'] ∧ AccR ys c zs ok' ∧ ((a' = la ∧ c' = cap ∧ zs = ys ∧ ([] : List Chunk) = []) ∨ ([] : List Chunk) = [own a' c' 90 2 encP zs]) := fun ok h => ⟨ys, la, cap, ok, rfl, h, .inl ⟨rfl, rfl, rfl, rfl⟩⟩
  subst hn
  refine ⟨fun hk0 => ?_, fun hk0 => ?_⟩
  · have hk0 : c.kind = 0 := of_decide_eq_true hk0
    obtain ⟨hs1, hs2, ha1, ha2, _⟩ := hc.mal hk0
    refine ⟨_, ld 0 rfl rfl rfl, ?_⟩
    refine ⟨fun h6 => ?_, fun h6 => ?_⟩
    · have h6 : c.re = 6 := of_decide_eq_true h6
      refine Or.inl ⟨by kernel_rfl, ?_⟩
      refine ⟨_, ld 0 rfl rfl rfl, ?_⟩
      have e : accF ys c = (decide (c.ra = 0), ys) := by unfold accF; rw [if_pos hk0, if_pos h6]
      exact ⟨_, .pick [], self _ ⟨by rw [e], fun _ => by rw [e]⟩⟩
    have h6 : ¬ c.re = 6 := of_decide_eq_false h6
    refine ⟨_, ld 0 rfl rfl rfl, ?_⟩
    have bad : (c.re ≠ 0 ∨ c.ra < 256 ∨ c.ra.tmod c.align ≠ 0) → accF ys c = (false, ys) := fun h => by unfold accF; rw [if_pos hk0, if_neg h6, if_pos h]
    refine ⟨fun h1 => ?_, fun h1 => ?_⟩
    · have h1 : c.re ≠ 0 := of_decide_eq_true h1
      have e := bad (.inl h1)
      repeat (refine ⟨fun _ => ?_, nofun⟩)
      exact ⟨_, .pick [], self _ ⟨by rw [e], fun h => by cases h⟩⟩
    have h1 : c.re = 0 := by simpa using h1
    refine ⟨_, ld 0 rfl rfl rfl, ?_⟩
    refine ⟨fun h2 => ?_, fun h2 => ?_⟩
    · have h2 : c.ra < 256 := of_decide_eq_true h2
      have e := bad (.inr (.inl h2))
      repeat (refine ⟨fun _ => ?_, nofun⟩)
      exact ⟨_, .pick [], self _ ⟨by rw [e], fun h => by cases h⟩⟩
    have h2 : ¬ c.ra < 256 := of_decide_eq_false h2
    refine ⟨_, ld 0 rfl rfl rfl, ?_⟩
    refine ⟨_, ld 1 rfl rfl rfl, ?_⟩
    refine ⟨by omega, _, rfl, ?_⟩
    refine ⟨fun h3 => ?_, fun h3 => ?_⟩
    · have h3 : c.ra.tmod c.align ≠ 0 := of_decide_eq_true h3
      have e := bad (.inr (.inr h3))
      exact ⟨_, .pick [], self _ ⟨by rw [e], fun h => by cases h⟩⟩
    have h3 : c.ra.tmod c.align = 0 := by simpa using h3
    have hgood : ¬ (c.re ≠ 0 ∨ c.ra < 256 ∨ c.ra.tmod c.align ≠ 0) := fun h => h.elim (fun h => h h1) fun h => h.elim h2 fun h => h h3
    refine ⟨_, ld 0 rfl rfl rfl, ?_⟩
    refine ⟨_, ld 1 rfl rfl rfl, ?_⟩
    repeat (refine ⟨rfl, Nat.le_of_ble_eq_true rfl, ?_⟩)
    intro pb
    refine st 0 rfl rfl rfl rfl rfl ?_
    refine loopI (σ := Nat × Nat) (fun s => [(0, .slice la ys.length cap), (3, .pointer (some ⟨cb, 0, none⟩)), (8, .pointer (some ⟨xb, 0, none⟩)), (9, .pointer (some ⟨pb, 0, none⟩)), (10, .int .i64 s.2), (11, .int .i64 s.1)]) (fun s => [pt pb (encP (c.ra, c.size)) 90, pt xb [.int .i64 c.ra, .int .i64 c.re] 39, pt cb (encCl c) 41])
      (fun s => s.1 ≤ ys.length ∧ s.2 ≤ s.1 ∧ ∀ (j : Nat) (p : Int × Int), j < s.1 → ys[j]? = some p → confl c.ra c.size p = false) (fun s => ys.length - s.1) (0, 0)
      ⟨rfl, rfl, rfl, rfl, rfl, rfl, trivial⟩ (.refl _) ⟨Nat.zero_le _, Nat.zero_le _, fun j p h => absurd h (by simp)⟩ ?_
    rintro ⟨i, k⟩ ⟨hi, hki, hno⟩
    have hi : i ≤ ys.length := hi
    have hki : k ≤ i := hki
    have hno : ∀ (j : Nat) (p : Int × Int), j < i → ys[j]? = some p → confl c.ra c.size p = false := hno
    refine ⟨fun hlt => ?_, fun hge => ?_⟩
    · have hin : i < ys.length := by have := of_decide_eq_true hlt; simp at this; omega
      obtain ⟨p, hp⟩ : ∃ p, ys[i]? = some p := ⟨ys[i], by simp [hin]⟩
      have hpm := List.mem_of_getElem? hp
      have hp1 := hL.key p hpm
      have hp2 := hL.val p hpm
      obtain ⟨b1, o1, rfl⟩ := roS_at hl (by omega)
      refine Or.inl ⟨by kernel_rfl, ?_⟩
      refine ⟨i, rfl, hin, ?_⟩
      refine ⟨_, ldRA hl i hp rfl rfl rfl rfl, ?_⟩
      refine ⟨_, ldA 0 rfl rfl rfl rfl rfl, ?_⟩
      refine callQ [] (fun w S hR hB hS hd => apart_spec p (c.ra, c.size) (by omega) (by show 0 ≤ c.ra ∧ c.ra ≤ _; omega) w S hd) ?_
      have hap := apart_confl (p := p) (ra := c.ra) (sz := c.size) (by omega) hs1
      rw [hap]
      refine ⟨fun h => ?_, fun h => ?_⟩
      · have h : confl c.ra c.size p = true := by simpa using h
        have e : accF ys c = (false, ys) := by
          unfold accF; rw [if_pos hk0, if_neg h6, if_neg hgood, if_pos (List.any_eq_true.2 ⟨p, hpm, h⟩)]
        exact ⟨_, .pick [], self _ ⟨by rw [e], fun h => by cases h⟩⟩
      · have h : confl c.ra c.size p = false := by simpa using h
        have next : ∀ (j : Nat) (q : Int × Int), j < i + 1 → ys[j]? = some q → confl c.ra c.size q = false := fun j q hj hq => by
          rcases Nat.lt_or_ge j i with h' | h'
          · exact hno j q h' hq
          · obtain rfl : j = i := by omega
            rw [hp] at hq; cases hq; exact h
        refine Or.inl ⟨by kernel_rfl, ?_⟩
        refine ⟨i, rfl, hin, ?_⟩
        refine ⟨_, ldR hl i 0 hp rfl rfl rfl, ?_⟩
        refine ⟨_, ld 0 rfl rfl rfl, ?_⟩
        refine ⟨fun h => ?_, fun h => ?_⟩
        · refine ⟨_, wrap_i64 (by omega) (by omega), ?_⟩
          refine ⟨_, wrap_i64 (by omega) (by omega), ?_⟩
          exact backI (i + 1, i + 1) (by show ys.length - (i + 1) < ys.length - i; omega) ⟨hin, Nat.le_refl _, next⟩ ⟨rfl, rfl, rfl, rfl, rfl, rfl, trivial⟩ (.refl _)
        · refine ⟨_, wrap_i64 (by omega) (by omega), ?_⟩
          exact backI (i + 1, k) (by show ys.length - (i + 1) < ys.length - i; omega) ⟨hin, by show k ≤ i + 1; omega, next⟩ ⟨rfl, rfl, rfl, rfl, rfl, rfl, trivial⟩ (.refl _)
    · have hin : i = ys.length := by have := of_decide_eq_false hge; simp at this; omega
      have hkn : k ≤ ys.length := by omega
      have hany : ys.any (confl c.ra c.size) = false := by
        rw [List.any_eq_false]
        intro p hp
        obtain ⟨j, hj⟩ := List.mem_iff_getElem?.1 hp
        rw [hno j p (by have := (List.getElem?_eq_some_iff.1 hj).1; omega) hj]
        decide
      have e : accF ys c = (true, ys ++ [(c.ra, c.size)]) := by
        unfold accF; rw [if_pos hk0, if_neg h6, if_neg hgood, if_neg (by rw [hany]; decide), ins_fresh (fresh_of hs1 hany)]
      refine bld0 2 encP rfl rfl rfl fun g0 => ?_
      refine ⟨_, slHi k rfl (by omega) rfl rfl rfl, ?_⟩
      refine appRS 0 0 rfl hl (fun _ => map_add0 _ _) (by omega) rfl (fun _ _ => rfl) (fun _ _ => rfl) (by decide) (fun _ => rfl) rfl rfl rfl rfl rfl (by simp; omega) (by decide) fun g1 c1 hc1 => ?_
      refine ⟨_, ldA 1 rfl rfl rfl rfl rfl, ?_⟩
      refine bldS [.int .i64 0, .int .i64 0] rfl rfl rfl rfl rfl (by kernel_rfl) rfl fun vb => ?_
      refine appO 1 0 (c.ra, c.size) rfl rfl rfl rfl rfl (by decide) rfl rfl rfl rfl rfl rfl (by simp; omega) (by decide) fun g2 c2 hc2 => ?_
      refine ⟨_, slLo k rfl (by omega) rfl rfl rfl, ?_⟩
      refine appRS 1 k rfl hl (fun hm => by rw [if_neg (by omega)]; rfl) (by omega) (by simp only [List.length_append]; rfl) (fun _ _ => rfl) (fun _ _ => rfl) (by decide) (fun _ => rfl) rfl rfl rfl rfl rfl (by simp; omega) (by decide) fun g3 c3 hc3 => ?_
      refine ⟨_, .pick [1], _, _, _, _, rfl, ⟨by rw [e], fun _ => ?_⟩, .inr rfl⟩
      rw [e, List.take_of_length_le (l := ys.drop k) (by simp)]
      simp only [List.drop_zero, List.nil_append, List.append_assoc]
      have h1 : (ys.take k ++ [(c.ra, c.size)] ++ ys.drop k).Perm (ys.take k ++ ys.drop k ++ [(c.ra, c.size)]) := by
        rw [List.append_assoc, List.append_assoc]
        exact List.Perm.append_left _ List.perm_append_comm
      rw [List.take_append_drop] at h1
      simpa using h1
  have hk0 : ¬ c.kind = 0 := of_decide_eq_false hk0
  refine ⟨fun hk1 => ?_, fun hk1 => ?_⟩
  rotate_left
  · have hk1 : ¬ c.kind = 1 := of_decide_eq_false hk1
    have e : accF ys c = (decide (c.ra = 0) && decide (c.re = 0), ys) := by unfold accF; rw [if_neg hk0, if_neg hk1]
    refine Or.inl ⟨by kernel_rfl, ?_⟩
    refine ⟨_, ld 0 rfl rfl rfl, ?_⟩
    refine ⟨fun h => ?_, fun h => ?_⟩
    · have h : c.re = 0 := of_decide_eq_true h
      refine ⟨_, ld 0 rfl rfl rfl, ?_⟩
      exact ⟨_, .pick [], self _ ⟨by rw [e, decide_eq_true h]; simp, fun _ => by rw [e]⟩⟩
    · have h : ¬ c.re = 0 := of_decide_eq_false h
      exact ⟨_, .pick [], self _ ⟨by rw [e, decide_eq_false h]; simp, fun h => by cases h⟩⟩
  have hk1 : c.kind = 1 := of_decide_eq_true hk1
  refine ⟨_, ld 0 rfl rfl rfl, ?_⟩
  refine ⟨fun h => ?_, fun h => ?_⟩
  · have h : c.ra ≠ 0 := of_decide_eq_true h
    have e : accF ys c = (false, ys) := by unfold accF; rw [if_neg hk0, if_pos hk1, if_pos h]
    exact ⟨_, .pick [], self _ ⟨by rw [e], fun h => by cases h⟩⟩
  have h0 : ¬ c.ra ≠ 0 := of_decide_eq_false h
  refine ⟨fun h => ?_, fun h => ?_⟩
  · have h : at' ≥ 0 := of_decide_eq_true h
    obtain ⟨j, p, h1, rfl, h2, h3, h4⟩ : ∃ (j : Nat) (p : Int × Int), j < ys.length ∧ at' = j ∧ ys[j]? = some p ∧ p.1 = c.addr ∧ lk ys c.addr = some p.2 := by
      rcases hlk with ⟨h', _⟩ | h'
      · omega
      · exact h'
    have e : c.re = 0 → accF ys c = (true, del ys c.addr) := fun hr => by unfold accF; rw [if_neg hk0, if_pos hk1, if_neg h0, if_pos ⟨hr, by rw [h4]; rfl⟩]
    have e' : c.re ≠ 0 → (accF ys c).1 = false := fun hr => by unfold accF; rw [if_neg hk0, if_pos hk1, if_neg h0, if_neg (fun h => hr h.1), h4]; rfl
    have hR : ∀ zs : List (Int × Int), zs = ys.take j ++ ys.drop (j + 1) → AccR ys c zs (decide (c.re = 0)) := fun zs hz => by
      by_cases hr : c.re = 0
      · rw [decide_eq_true hr]
        refine ⟨by rw [e hr], fun _ => ?_⟩
        rw [e hr, hz]
        have a1 := perm_at h2
        have a2 := del_perm hL.nodup ((lk_mem hL.nodup).1 h4)
        have hpe : p = (c.addr, p.2) := by rw [← h3]
        rw [hpe] at a1
        exact (List.perm_cons _).1 (a1.symm.trans a2)
      · rw [decide_eq_false hr]
        exact ⟨by rw [e' hr], fun h => by cases h⟩
    refine bld0 2 encP rfl rfl rfl fun g0 => ?_
    refine ⟨_, slHi j rfl (by omega) rfl rfl rfl, ?_⟩
    refine appRS 0 0 rfl hl (fun _ => map_add0 _ _) (by omega) rfl (fun _ _ => rfl) (fun _ _ => rfl) (by decide) (fun _ => rfl) rfl rfl rfl rfl rfl (by simp; omega) (by decide) fun g1 c1 hc1 => ?_
    refine Or.inr (Or.inr (drawT [[], [], [], [2], [1, 3], [0, 4], [], [6], [7], [5, 5, 0, 1, 2, 3, 4, 5], [8, 9, 0, 1, 2, 3, 4, 5, 6, 7, 8, 9]] [0, 1, 2, 3, 4, 6, 8, 9, 10] (by kernel_rfl) ?_))
    refine ⟨((j + 1 : Nat) : Int), by rw [show (((ys.length, (j : Int)).2) + 1) = ((j + 1 : Nat) : Int) from rfl]; exact wrap_i64 (by omega) (by omega), ?_⟩
    refine ⟨_, slLoP (j + 1) rfl (by omega) rfl rfl rfl, ?_⟩
    refine ⟨?_, ?_, trivial⟩
    · refine appRS 0 (j + 1) rfl hl (fun hm => by rw [if_neg (by omega)]; rfl) (by omega) rfl (fun _ _ => rfl) (fun _ _ => rfl) (by decide) (fun _ => rfl) rfl rfl rfl rfl rfl (by simp; omega) (by decide) fun g2 c2 hc2 => ?_
      refine ⟨_, ld 1 rfl rfl rfl, ?_⟩
      refine ⟨_, .pick [0], _, _, _, _, rfl, hR _ ?_, .inr rfl⟩
      rw [List.take_of_length_le (l := ys.drop (j + 1)) (by simp)]
      simp only [List.drop_zero, List.nil_append]
    · refine ⟨_, ld 1 rfl rfl rfl, ?_⟩
      refine appRS 0 (j + 1) rfl hl (fun hm => by rw [if_neg (by omega)]; rfl) (by omega) rfl (fun _ _ => rfl) (fun _ _ => rfl) (by decide) (fun _ => rfl) rfl rfl rfl rfl rfl (by simp; omega) (by decide) fun g2 c2 hc2 => ?_
      refine ⟨_, .pick [0], _, _, _, _, rfl, hR _ ?_, .inr rfl⟩
      rw [List.take_of_length_le (l := ys.drop (j + 1)) (by simp)]
      simp only [List.drop_zero, List.nil_append]
  · have h : ¬ at' ≥ 0 := of_decide_eq_false h
    obtain ⟨rfl, hnone⟩ : at' = -1 ∧ lk ys c.addr = none := by
      rcases hlk with h' | ⟨j, p, _, h', _⟩
      · exact h'
      · omega
    have e : accF ys c = ((decide (c.re = 9) || decide (c.re = 8)), ys) := by
      unfold accF; rw [if_neg hk0, if_pos hk1, if_neg h0, if_neg (fun h => by rw [hnone] at h; cases h.2), hnone]; rfl
    refine Or.inl ⟨by kernel_rfl, ?_⟩
    refine ⟨_, ld 0 rfl rfl rfl, ?_⟩
    refine ⟨fun h => ?_, fun h => ?_⟩
    · have h : c.re = 9 := of_decide_eq_true h
      exact ⟨_, .pick [], self _ ⟨by rw [e, decide_eq_true h]; rfl, fun _ => by rw [e]⟩⟩
    · have h : ¬ c.re = 9 := of_decide_eq_false h
      refine ⟨_, ld 0 rfl rfl rfl, ?_⟩
      exact ⟨_, .pick [], self _ ⟨by rw [e, decide_eq_false h]; simp, fun _ => by rw [e]⟩⟩
end Go.Proofs.YtfebaopjfmpfkaaDoor
