/- The specification's package of chapter 21: the numbers of a list, rising, each once. -/
import Derived.Test.YtfebaopjfmpfkaaDoorR1
import Derived.Test.YtfebaopjfmpfkaaDoorX22
namespace Go.Proofs.YtfebaopjfmpfkaaDoor
open Go.X
set_option maxRecDepth 10000
set_option linter.unusedVariables false
set_option linter.unusedSimpArgs false

theorem rise_ins {ys : List Int} {x : Int} {k : Nat} (hs : ys.Pairwise (· < ·)) (hk : k ≤ ys.length) (h1 : ∀ (j : Nat) (y : Int), k ≤ j → ys[j]? = some y → x < y) (h2 : ∀ (j : Nat) (y : Int), j < k → ys[j]? = some y → y < x) :
    (ys.take k ++ x :: ys.drop k).Pairwise (· < ·) ∧ ∀ y, y ∈ ys.take k ++ x :: ys.drop k ↔ y ∈ ys ∨ y = x := by
  have e : ys.take k ++ ys.drop k = ys := List.take_append_drop k ys
  have hs' := hs
  rw [← e, List.pairwise_append] at hs'
  have a1 : ∀ y ∈ ys.take k, y < x := fun y hy => by
    obtain ⟨j, hj⟩ := List.mem_iff_getElem?.1 hy
    rw [List.getElem?_take] at hj
    split at hj
    · exact h2 j y (by assumption) hj
    · cases hj
  have a2 : ∀ y ∈ ys.drop k, x < y := fun y hy => by
    obtain ⟨j, hj⟩ := List.mem_iff_getElem?.1 hy
    rw [List.getElem?_drop] at hj
    exact h1 (k + j) y (by omega) hj
  refine ⟨List.pairwise_append.2 ⟨hs'.1, List.pairwise_cons.2 ⟨a2, hs'.2.1⟩, fun y hy z hz => ?_⟩, fun y => ?_⟩
  · rcases List.mem_cons.1 hz with rfl | hz
    · exact a1 y hy
    · exact hs'.2.2 y hy z hz
  · rw [List.mem_append, List.mem_cons]
    constructor
    · rintro (h | rfl | h)
      · exact .inl (List.mem_of_mem_take h)
      · exact .inr rfl
      · exact .inl (List.mem_of_mem_drop h)
    · rintro (h | rfl)
      · rw [← e, List.mem_append] at h
        rcases h with h | h
        · exact .inl h
        · exact .inr (.inr h)
      · exact .inr (.inl rfl)

theorem rising_spec (la : Option Addr) (n cap : Nat) (ord : List Int) (w : World) (S : FP) (hl : RO w S (roS la 1 encZ1 ord)) (hn : ord.length = n) (hn2 : n ≤ 1000000) (hd : ∀ b, S b → b < w.heap.size) :
    Trip Tryd.prog 36 #[.slice la n cap] w S fun v L => ∃ (r : List Int) (a : Option Addr) (c : Nat), v = .slice a r.length c ∧ r.Pairwise (· < ·) ∧ (∀ y, y ∈ r ↔ y ∈ ord) ∧ L = [own a c 3 1 encZ1 r] := by
  refine Trip.of_x (L := []) Tryd.func36 (by kernel_rfl) rfl Tryd.ntmps36 Tryd.results36 rfl (ctx_ok _) trivial hd ?_
  refine loopI (σ := Nat × List Int × Option Addr × Nat) (fun s => [(0, .slice la n cap), (3, .slice s.2.2.1 s.2.1.length s.2.2.2), (4, .int .i64 s.1)]) (fun s => [own s.2.2.1 s.2.2.2 3 1 encZ1 s.2.1])
    (fun s => s.1 ≤ n ∧ s.2.1.length ≤ s.2.2.2 ∧ s.2.1.length ≤ s.1 ∧ (s.2.1 ≠ [] → ∃ g, s.2.2.1 = some ⟨g, 0, none⟩) ∧ s.2.1.Pairwise (· < ·) ∧ ∀ y, y ∈ s.2.1 ↔ y ∈ ord.take s.1) (fun s => n - s.1) (0, [], none, 0)
    ⟨rfl, rfl, rfl, trivial⟩ own_nil ⟨Nat.zero_le _, Nat.le_refl _, Nat.le_refl _, fun h => absurd rfl h, .nil, fun y => by simp⟩ ?_
  rintro ⟨i, ys, ya, yc⟩ ⟨hi, hyc, hyi, hya, hpw, hmem⟩
  have hi : i ≤ n := hi
  have hyc : ys.length ≤ yc := hyc
  have hyi : ys.length ≤ i := hyi
  have hya : ys ≠ [] → ∃ g, ya = some ⟨g, 0, none⟩ := hya
  have hpw : ys.Pairwise (· < ·) := hpw
  have hmem : ∀ y, y ∈ ys ↔ y ∈ ord.take i := hmem
  refine ⟨fun hlt => ?_, fun hge => ?_⟩
  · have hin : i < n := by have := of_decide_eq_true hlt; simp at this; omega
    obtain ⟨x, hx⟩ : ∃ x, ord[i]? = some x := ⟨ord[i]'(by omega), by simp [show i < ord.length by omega]⟩
    have htake : ∀ y, y ∈ ord.take (i + 1) ↔ y ∈ ord.take i ∨ y = x := fun y => by
      rw [List.take_add_one, hx, List.mem_append]; simp
    obtain ⟨b1, o1, rfl⟩ := roS_at hl (by omega)
    refine loopI (σ := Nat) (fun k => [(0, .slice (some ⟨b1, o1, none⟩) n cap), (3, .slice ya ys.length yc), (4, .int .i64 i), (5, .int .i64 k)]) (fun _ => [own ya yc 3 1 encZ1 ys])
      (fun k => k ≤ ys.length ∧ ∀ (j : Nat) (y : Int), k ≤ j → ys[j]? = some y → x < y) (fun k => k) ys.length
      ⟨rfl, rfl, rfl, rfl, trivial⟩ (.refl _) ⟨Nat.le_refl _, fun j y hj h => by rw [List.getElem?_eq_none hj] at h; cases h⟩ ?_
    rintro k ⟨hk, hgt⟩
    have ins : (∀ (j : Nat) (y : Int), j < k → ys[j]? = some y → y < x) → (ys.take k ++ x :: ys.drop k).Pairwise (· < ·) ∧ ∀ y, y ∈ ys.take k ++ x :: ys.drop k ↔ y ∈ ord.take (i + 1) := fun h => by
      obtain ⟨h1, h2⟩ := rise_ins hpw hk hgt h
      exact ⟨h1, fun y => by rw [h2, htake, hmem]⟩
    refine Or.inl ⟨by kernel_rfl, ?_⟩
    refine ⟨fun hpos => ?_, fun hpos => ?_⟩
    · have hpos : 0 < k := by have := of_decide_eq_true hpos; omega
      obtain ⟨k, rfl⟩ : ∃ k', k = k' + 1 := ⟨k - 1, by omega⟩
      obtain ⟨y, hy⟩ : ∃ y, ys[k]? = some y := ⟨ys[k]'(by omega), by simp [show k < ys.length by omega]⟩
      obtain ⟨g, rfl⟩ := hya (by rintro rfl; simp at hy)
      have hsub : ((k : Nat) : Int) = IntKind.i64.wrap (((k + 1 : Nat) : Int) - 1) := by rw [show (((k + 1 : Nat) : Int) - 1) = k by omega]; exact wrap_i64 (by omega) (by omega)
      refine ⟨_, hsub, ?_⟩
      refine ⟨k, rfl, by omega, ?_⟩
      refine ⟨_, ldO 0 k 0 rfl (fun _ _ => rfl) hy rfl rfl (by show 0 + k = k * 1 + 0; omega), ?_⟩
      refine ⟨i, rfl, by omega, ?_⟩
      refine ⟨_, ldR hl i 0 hx rfl rfl (by show o1 + i = o1 + (i * 1 + 0); omega), ?_⟩
      refine ⟨fun h => ?_, fun h => ?_⟩
      · have h : y > x := of_decide_eq_true h
        refine ⟨_, hsub, ?_⟩
        exact backI k (by omega) ⟨by omega, fun j y' hj hy' => by
          rcases Nat.eq_or_lt_of_le hj with rfl | hj
          · rw [hy] at hy'; cases hy'; exact h
          · exact hgt j y' hj hy'⟩ ⟨rfl, rfl, rfl, rfl, trivial⟩ (.refl _)
      · have h : ¬ y > x := of_decide_eq_false h
        refine Or.inl ⟨by kernel_rfl, ?_⟩
        refine ⟨fun _ => ?_, fun h => absurd (of_decide_eq_false h) (by omega)⟩
        refine ⟨_, hsub, ?_⟩
        refine ⟨k, rfl, by omega, ?_⟩
        refine ⟨_, ldO 0 k 0 rfl (fun _ _ => rfl) hy rfl rfl (by show 0 + k = k * 1 + 0; omega), ?_⟩
        refine ⟨i, rfl, by omega, ?_⟩
        refine ⟨_, ldR hl i 0 hx rfl rfl (by show o1 + i = o1 + (i * 1 + 0); omega), ?_⟩
        refine ⟨fun he => ?_, fun he => ?_⟩
        · obtain rfl : y = x := of_decide_eq_true he
          refine ⟨_, wrap_i64 (by omega) (by omega), ?_⟩
          exact backI (i + 1, ys, some ⟨g, 0, none⟩, yc) (by show n - (i + 1) < n - i; omega) ⟨by show i + 1 ≤ n; omega, hyc, by show ys.length ≤ i + 1; omega, fun _ => ⟨g, rfl⟩, hpw, fun z => by
            show z ∈ ys ↔ z ∈ ord.take (i + 1)
            rw [htake, hmem]
            constructor
            · exact .inl
            · rintro (h | rfl)
              · exact h
              · exact (hmem _).1 (List.mem_of_getElem? hy)⟩ ⟨rfl, rfl, rfl, trivial⟩ (.refl _)
        · have he : ¬ y = x := of_decide_eq_false he
          obtain ⟨i1, i2⟩ := ins fun j z hj hz => by
            rcases Nat.eq_or_lt_of_le (show j ≤ k by omega) with rfl | hjk
            · rw [hy] at hz; cases hz; omega
            · obtain ⟨a1, a2⟩ := List.getElem?_eq_some_iff.1 hz
              obtain ⟨b1, b2⟩ := List.getElem?_eq_some_iff.1 hy
              have : ys[j] < ys[k] := List.pairwise_iff_getElem.1 hpw j k a1 b1 hjk
              rw [a2, b2] at this
              omega
          refine bld0 1 encZ1 rfl rfl rfl fun g0 => ?_
          refine ⟨_, slHi (k + 1) rfl (by omega) rfl rfl rfl, ?_⟩
          refine appOS 0 1 0 rfl rfl (fun _ => map_add0 _ _) (by simp; omega) rfl (fun _ _ => rfl) (fun _ _ => rfl) (by decide) (fun _ => rfl) rfl rfl rfl rfl rfl (by simp; omega) (by decide) fun g1 c1 hc1 => ?_
          refine ⟨i, rfl, by omega, ?_⟩
          refine ⟨_, ldR hl i 0 hx rfl rfl (by show o1 + i = o1 + (i * 1 + 0); omega), ?_⟩
          refine bldS [.int .i64 0] rfl rfl rfl rfl rfl (by kernel_rfl) rfl fun vb => ?_
          refine appO 1 0 x rfl rfl rfl rfl rfl (by decide) rfl rfl rfl rfl rfl rfl (by simp; omega) (by decide) fun g2 c2 hc2 => ?_
          refine ⟨_, slLo (k + 1) rfl (by omega) rfl rfl rfl, ?_⟩
          refine appOS 1 2 (k + 1) rfl rfl (fun hm => by rw [if_neg (by omega)]; rfl) (by omega) (by simp only [List.length_append]; rfl) (fun _ _ => rfl) (fun _ _ => rfl) (by decide) (fun _ => rfl) rfl rfl rfl rfl rfl (by simp; omega) (by decide) fun g3 c3 hc3 => ?_
          have hfin : (([] ++ (ys.drop 0).take (k + 1)) ++ [x]) ++ (ys.drop (k + 1)).take (ys.length - (k + 1)) = ys.take (k + 1) ++ x :: ys.drop (k + 1) := by
            rw [List.take_of_length_le (l := ys.drop (k + 1)) (by simp)]; simp
          refine ⟨_, wrap_i64 (by omega) (by omega), ?_⟩
          exact backI (i + 1, ys.take (k + 1) ++ x :: ys.drop (k + 1), some ⟨g3, 0, none⟩, c3) (by show n - (i + 1) < n - i; omega) ⟨by show i + 1 ≤ n; omega, by rw [← hfin]; exact hc3, by show (ys.take (k + 1) ++ x :: ys.drop (k + 1)).length ≤ i + 1; simp; omega, fun _ => ⟨g3, rfl⟩, i1, i2⟩ ⟨rfl, by rw [← hfin]; rfl, rfl, trivial⟩ (by rw [← hfin]; exact Ent.pick [1])
    · have hk0 : k = 0 := by have := of_decide_eq_false hpos; omega
      refine ⟨nofun, fun _ => ?_⟩
      refine Or.inl ⟨by kernel_rfl, ?_⟩
      refine ⟨fun h => absurd (of_decide_eq_true h) (by omega), fun _ => ?_⟩
      refine ⟨nofun, fun _ => ?_⟩
      obtain ⟨i1, i2⟩ := ins fun j z hj hz => by omega
      refine bld0 1 encZ1 rfl rfl rfl fun g0 => ?_
      refine ⟨_, slHi k rfl (by omega) rfl rfl rfl, ?_⟩
      refine appOS 0 1 0 rfl rfl (fun _ => map_add0 _ _) (by simp; omega) rfl (fun _ _ => rfl) (fun _ _ => rfl) (by decide) (fun _ => rfl) rfl rfl rfl rfl rfl (by simp; omega) (by decide) fun g1 c1 hc1 => ?_
      refine ⟨i, rfl, by omega, ?_⟩
      refine ⟨_, ldR hl i 0 hx rfl rfl (by show o1 + i = o1 + (i * 1 + 0); omega), ?_⟩
      refine bldS [.int .i64 0] rfl rfl rfl rfl rfl (by kernel_rfl) rfl fun vb => ?_
      refine appO 1 0 x rfl rfl rfl rfl rfl (by decide) rfl rfl rfl rfl rfl rfl (by simp; omega) (by decide) fun g2 c2 hc2 => ?_
      refine ⟨_, slLo k rfl (by omega) rfl rfl rfl, ?_⟩
      refine appOS 1 2 k rfl rfl (fun hm => by rw [if_neg (by omega)]; rfl) (by omega) (by simp only [List.length_append]; rfl) (fun _ _ => rfl) (fun _ _ => rfl) (by decide) (fun _ => rfl) rfl rfl rfl rfl rfl (by simp; omega) (by decide) fun g3 c3 hc3 => ?_
      have hfin : (([] ++ (ys.drop 0).take k) ++ [x]) ++ (ys.drop k).take (ys.length - k) = ys.take k ++ x :: ys.drop k := by
        rw [List.take_of_length_le (l := ys.drop k) (by simp)]; simp
      refine ⟨_, wrap_i64 (by omega) (by omega), ?_⟩
      exact backI (i + 1, ys.take k ++ x :: ys.drop k, some ⟨g3, 0, none⟩, c3) (by show n - (i + 1) < n - i; omega) ⟨by show i + 1 ≤ n; omega, by rw [← hfin]; exact hc3, by show (ys.take k ++ x :: ys.drop k).length ≤ i + 1; simp; omega, fun _ => ⟨g3, rfl⟩, i1, i2⟩ ⟨rfl, by rw [← hfin]; rfl, rfl, trivial⟩ (by rw [← hfin]; exact Ent.pick [1])
  · have hin : i = n := by have := of_decide_eq_false hge; simp at this; omega
    subst hin
    refine ⟨_, .refl _, ys, ya, yc, rfl, hpw, fun y => ?_, rfl⟩
    rw [hmem, List.take_of_length_le (by omega)]
end Go.Proofs.YtfebaopjfmpfkaaDoor
