/- Sorting by insertion, said in two ways; the specification's Prefix. -/
import Derived.Test.YtfebaopjfmpfkaaDoorR8
namespace Go.Proofs.YtfebaopjfmpfkaaDoor
open Go.X
set_option maxRecDepth 10000
set_option linter.unusedVariables false
set_option linter.unusedSimpArgs false

/-- Where x goes among the first elements of a list: behind all that do not end later, seen from behind. -/
def kk (ys : List Cl) (x : Cl) : Nat → Nat
  | 0 => 0
  | k + 1 => match ys[k]? with
    | some y => if x.en < y.en then kk ys x k else k + 1
    | none => 0
theorem kk_le (ys : List Cl) (x : Cl) : ∀ j, kk ys x j ≤ j
  | 0 => Nat.le_refl _
  | k + 1 => by
    simp only [kk]
    split
    · split
      · exact Nat.le_succ_of_le (kk_le ys x k)
      · exact Nat.le_refl _
    · omega
theorem kk_congr {ys zs : List Cl} {x : Cl} : ∀ {j : Nat}, (∀ i, i < j → ys[i]? = zs[i]?) → kk ys x j = kk zs x j
  | 0, _ => rfl
  | k + 1, h => by
    simp only [kk, h k (by omega), kk_congr (j := k) fun i hi => h i (by omega)]
theorem kk_eq {ys : List Cl} {x : Cl} : ∀ {j k : Nat}, j ≤ ys.length → k ≤ j → (∀ (i : Nat) (y : Cl), k ≤ i → i < j → ys[i]? = some y → x.en < y.en) → (∀ (y : Cl), 0 < k → ys[k - 1]? = some y → ¬ x.en < y.en) → kk ys x j = k
  | 0, k, _, hk, _, _ => by have : k = 0 := by omega
                            subst this; rfl
  | j + 1, k, hj, hk, h1, h2 => by
    obtain ⟨y, hy⟩ : ∃ y, ys[j]? = some y := ⟨ys[j], by simp [show j < ys.length by omega]⟩
    simp only [kk, hy]
    rcases Nat.eq_or_lt_of_le hk with rfl | hk
    · rw [if_neg (h2 y (by omega) (by simpa using hy))]
    · rw [if_pos (h1 j y (by omega) (by omega) hy)]
      exact kk_eq (by omega) (by omega) (fun i z h h' hz => h1 i z h (by omega) hz) h2
/-- One more. -/
def insE (acc : List Cl) (x : Cl) : List Cl := acc.take (kk acc x acc.length) ++ x :: acc.drop (kk acc x acc.length)

theorem swp_get {ys : List Cl} {j : Nat} {x y : Cl} (hx : ys[j]? = some x) (hy : ys[j + 1]? = some y) : swp ys j = ys.take j ++ y :: x :: ys.drop (j + 2) := by
  unfold swp
  simp only [hx, hy]
  obtain ⟨h1, h2⟩ := List.getElem?_eq_some_iff.1 hx
  obtain ⟨h3, h4⟩ := List.getElem?_eq_some_iff.1 hy
  apply List.ext_getElem?
  intro i
  rw [List.getElem?_set, List.getElem?_set]
  rcases Nat.lt_trichotomy i j with h | h | h
  · rw [if_neg (by omega), if_neg (by omega), List.getElem?_append_left (by simp; omega), List.getElem?_take_of_lt h]
  · subst h
    rw [if_pos rfl, if_pos (by simp; omega), List.getElem?_append_right (by simp; omega), List.length_take, Nat.min_eq_left (by omega)]
    simp
  · rw [if_neg (by omega)]
    rw [List.getElem?_append_right (by simp; omega), List.length_take, Nat.min_eq_left (by omega)]
    rcases Nat.eq_or_lt_of_le (show j + 1 ≤ i by omega) with h' | h'
    · subst h'
      rw [if_pos rfl, if_pos (by omega), show j + 1 - j = 1 by omega]; rfl
    · rw [if_neg (by omega)]
      obtain ⟨d, rfl⟩ : ∃ d, i = j + 2 + d := ⟨i - (j + 2), by omega⟩
      rw [show j + 2 + d - j = d + 2 by omega]
      simp [List.getElem?_drop]

theorem sink_eq : ∀ (j : Nat) (ys : List Cl) (x : Cl), ys[j]? = some x → sink 0 j ys = ys.take (kk ys x j) ++ x :: ((ys.take j).drop (kk ys x j) ++ ys.drop (j + 1))
  | 0, ys, x, hx => by
    obtain ⟨h1, h2⟩ := List.getElem?_eq_some_iff.1 hx
    simp only [sink, kk, List.take_zero, List.nil_append, List.drop_nil]
    have := List.drop_eq_getElem_cons h1
    rw [List.drop_zero, h2] at this
    exact this
  | j + 1, ys, y, hy => by
    obtain ⟨h1, h2⟩ := List.getElem?_eq_some_iff.1 hy
    obtain ⟨x, hx⟩ : ∃ x, ys[j]? = some x := ⟨ys[j], by simp [show j < ys.length by omega]⟩
    obtain ⟨h3, h4⟩ := List.getElem?_eq_some_iff.1 hx
    simp only [sink, hx, hy, kk]
    by_cases h : y.en < x.en
    · rw [if_pos ⟨by omega, h⟩, if_pos h]
      have hs := swp_get hx hy
      have hlj : (swp ys j)[j]? = some y := by rw [hs, List.getElem?_append_right (by simp; omega)]; simp [Nat.min_eq_left (show j ≤ ys.length by omega)]
      rw [sink_eq j (swp ys j) y hlj]
      have hlow : ∀ i, i < j → (swp ys j)[i]? = ys[i]? := fun i hi => by rw [hs, List.getElem?_append_left (by simp; omega), List.getElem?_take_of_lt hi]
      rw [kk_congr hlow]
      have hk := kk_le ys y j
      have e1 : (swp ys j).take j = ys.take j := by rw [hs, List.take_append_of_le_length (by simp; omega), List.take_take]; simp
      have e2 : (swp ys j).drop (j + 1) = x :: ys.drop (j + 2) := by
        rw [hs, List.drop_append, List.length_take, Nat.min_eq_left (by omega), List.drop_eq_nil_of_le (by simp; omega), show j + 1 - j = 1 by omega]
        rfl
      have e3 : (swp ys j).take (kk ys y j) = ys.take (kk ys y j) := by
        have : ((swp ys j).take j).take (kk ys y j) = (ys.take j).take (kk ys y j) := by rw [e1]
        rwa [List.take_take, List.take_take, Nat.min_eq_left hk] at this
      have e4 : (ys.take (j + 1)).drop (kk ys y j) = (ys.take j).drop (kk ys y j) ++ [x] := by
        rw [List.take_add_one, hx, List.drop_append_of_le_length (by simp; omega)]; rfl
      rw [e1, e2, e3, e4]
      simp
    · rw [if_neg (fun hh => h hh.2), if_neg h]
      rw [List.drop_eq_nil_of_le (by simp; omega), List.nil_append]
      have := List.drop_eq_getElem_cons h1
      rw [h2] at this
      rw [← this, List.take_append_drop]

theorem isort_eq : ∀ (m i : Nat) (acc xs : List Cl), acc.length = i → i + m ≤ xs.length → isortFrom 0 i m (acc ++ xs.drop i) = ((xs.drop i).take m).foldl insE acc ++ xs.drop (i + m)
  | 0, i, acc, xs, _, _ => by simp [isortFrom]
  | m + 1, i, acc, xs, ha, hi => by
    obtain ⟨x, hx⟩ : ∃ x, xs[i]? = some x := ⟨xs[i], by simp [show i < xs.length by omega]⟩
    obtain ⟨h1, h2⟩ := List.getElem?_eq_some_iff.1 hx
    have hd : xs.drop i = x :: xs.drop (i + 1) := by rw [List.drop_eq_getElem_cons h1, h2]
    have hxi : (acc ++ xs.drop i)[i]? = some x := by rw [List.getElem?_append_right (by omega), ha, Nat.sub_self, hd]; rfl
    have hkk : kk (acc ++ xs.drop i) x i = kk acc x acc.length := by
      rw [ha]
      exact kk_congr fun k hk => List.getElem?_append_left (by omega)
    have hle := kk_le acc x acc.length
    have hstep : sink 0 i (acc ++ xs.drop i) = insE acc x ++ xs.drop (i + 1) := by
      rw [sink_eq i _ x hxi, hkk]
      unfold insE
      have eA : (acc ++ xs.drop i).take (kk acc x acc.length) = acc.take (kk acc x acc.length) := List.take_append_of_le_length hle
      have eB : (acc ++ xs.drop i).take i = acc := by rw [List.take_append_of_le_length (by omega), List.take_of_length_le (by omega)]
      have eC : (acc ++ xs.drop i).drop (i + 1) = xs.drop (i + 1) := by rw [List.drop_append, ha, List.drop_eq_nil_of_le (show acc.length ≤ i + 1 by omega), show i + 1 - i = 1 by omega, hd]; rfl
      rw [eA, eB, eC]
      simp
    simp only [isortFrom]
    have hlen : (insE acc x).length = i + 1 := by unfold insE; simp; omega
    rw [hstep, isort_eq m (i + 1) (insE acc x) xs hlen (by omega)]
    rw [hd, List.take_succ_cons, List.foldl_cons, show i + 1 + m = i + (m + 1) by omega]

theorem sortedE (xs : List Cl) : sorted xs = xs.foldl insE [] := by
  cases xs with
  | nil => rfl
  | cons x xs =>
    have := isort_eq xs.length 1 [x] (x :: xs) rfl (by simp; omega)
    simp only [List.drop_one, List.tail_cons, List.singleton_append] at this
    unfold sorted
    rw [show (x :: xs).length - 1 = xs.length by simp]
    rw [this, List.take_length, List.drop_eq_nil_of_le (by simp; omega), List.append_nil, List.foldl_cons]
    rfl
end Go.Proofs.YtfebaopjfmpfkaaDoor
namespace Go.Proofs.YtfebaopjfmpfkaaDoor
open Go.X
set_option maxRecDepth 10000
set_option linter.unusedVariables false
set_option linter.unusedSimpArgs false

theorem foldl_snoc {xs : List Cl} {i : Nat} {x : Cl} (hx : xs[i]? = some x) : (xs.take (i + 1)).foldl insE [] = insE ((xs.take i).foldl insE []) x := by
  rw [List.take_add_one, hx, List.foldl_append]; rfl
theorem map_ins {xs : List Cl} {bs : List Nat} {acc : List Cl} {i k : Nat} {x : Cl} (hm : bs.map (fun i => xs[i]?) = acc.map some) (hx : xs[i]? = some x) (hk : kk acc x acc.length = k) : (bs.take k ++ i :: bs.drop k).map (fun i => xs[i]?) = (insE acc x).map some := by
  unfold insE
  rw [hk, List.map_append, List.map_cons, List.map_append, List.map_cons, List.map_take, List.map_drop, List.map_take, List.map_drop, hm, hx]
theorem map_at {xs : List Cl} {bs : List Nat} {acc : List Cl} (hm : bs.map (fun i => xs[i]?) = acc.map some) {j : Nat} (hj : j < bs.length) : ∃ q y, bs[j]? = some q ∧ xs[q]? = some y ∧ acc[j]? = some y := by
  obtain ⟨q, hq⟩ : ∃ q, bs[j]? = some q := ⟨bs[j], by simp [hj]⟩
  have := congrArg (·[j]?) hm
  simp only [List.getElem?_map, hq, Option.map_some] at this
  cases hacc : acc[j]? with
  | none => rw [hacc] at this; cases this
  | some y =>
    rw [hacc] at this
    simp only [Option.map_some, Option.some.injEq] at this
    exact ⟨q, y, hq, this, rfl⟩

theorem prefixR_spec (la : Option Addr) (n cap : Nat) (xs : List Cl) (w : World) (S : FP) (hr : InR xs) (hl : RO w S (roS la 9 encCl xs)) (hn : xs.length = n) (hc : n ≤ cap) (hn2 : n ≤ 4611686018427387904) (hn14 : chk xs = 0 → n ≤ 14) (hd : ∀ b, S b → b < w.heap.size) :
    Trip Tryd.prog 17 #[.slice la n cap] w S fun v L => ∃ (p : Nat) (e : Int), v = .tuple #[.int .i64 p, .int .i64 e] ∧ PrefR xs (sorted xs) p e ∧ L = [] := by
  refine Trip.of_x (L := []) Tryd.func17 (by kernel_rfl) rfl Tryd.ntmps17 Tryd.results17 rfl (ctx_ok _) trivial hd ?_
  refine callP [] (fun w S hR hB hS hd => fault_spec la n cap xs w S (hR _ hl) hn hc hn2 hd) ?_
  rintro _ _ ⟨rfl, rfl⟩
  refine ⟨fun h => ?_, fun h => ?_⟩
  · have h : chk xs ≠ 0 := of_decide_eq_true h
    exact ⟨_, .pick [], 0, chk xs, rfl, .inl ⟨h, rfl, rfl⟩, rfl⟩
  have hc0 : chk xs = 0 := by simpa using h
  obtain ⟨hs64, hval⟩ := chk_ok hc0
  have hx : HistOk xs := ⟨hval, hs64, hr⟩
  have hn14 := hn14 hc0
  refine loopI (σ := Nat × List Nat × Option Addr × Nat) (fun s => [(0, .slice la n cap), (5, .slice s.2.2.1 s.2.1.length s.2.2.2), (6, .int .i64 s.1)]) (fun s => [own s.2.2.1 s.2.2.2 3 1 encN s.2.1])
    (fun s => s.1 ≤ n ∧ s.2.1.length ≤ s.2.2.2 ∧ s.2.1.length = s.1 ∧ (s.2.1 ≠ [] → ∃ g, s.2.2.1 = some ⟨g, 0, none⟩) ∧ s.2.1.map (fun i => xs[i]?) = ((xs.take s.1).foldl insE []).map some) (fun s => n - s.1) (0, [], none, 0)
    ⟨rfl, rfl, rfl, trivial⟩ own_nil ⟨Nat.zero_le _, Nat.le_refl _, rfl, fun h => absurd rfl h, rfl⟩ ?_
  rintro ⟨i, bs, ba, bc⟩ ⟨hi, hbc, hbi, hba, hmap⟩
  have hi : i ≤ n := hi
  have hbc : bs.length ≤ bc := hbc
  have hbi : bs.length = i := hbi
  have hba : bs ≠ [] → ∃ g, ba = some ⟨g, 0, none⟩ := hba
  have hmap : bs.map (fun i => xs[i]?) = ((xs.take i).foldl insE []).map some := hmap
  have hal : ((xs.take i).foldl insE []).length = bs.length := by have := congrArg List.length hmap; simpa using this.symm
  refine ⟨fun hlt => ?_, fun hge => ?_⟩
  · have hin : i < n := by have := of_decide_eq_true hlt; simp at this; omega
    obtain ⟨x, hx'⟩ : ∃ x, xs[i]? = some x := ⟨xs[i]'(by omega), by simp [show i < xs.length by omega]⟩
    obtain ⟨b1, o1, rfl⟩ := roS_at hl (by omega)
    refine loopI (σ := Nat) (fun k => [(0, .slice (some ⟨b1, o1, none⟩) n cap), (5, .slice ba bs.length bc), (6, .int .i64 i), (7, .int .i64 k)]) (fun _ => [own ba bc 3 1 encN bs])
      (fun k => k ≤ bs.length ∧ ∀ (j : Nat) (y : Cl), k ≤ j → j < bs.length → ((xs.take i).foldl insE [])[j]? = some y → x.en < y.en) (fun k => k) bs.length
      ⟨rfl, rfl, rfl, rfl, trivial⟩ (.refl _) ⟨Nat.le_refl _, fun j y h h' => by omega⟩ ?_
    rintro k ⟨hk, hgt⟩
    have ins : (∀ (y : Cl), 0 < k → ((xs.take i).foldl insE [])[k - 1]? = some y → ¬ x.en < y.en) → (bs.take k ++ i :: bs.drop k).map (fun i => xs[i]?) = ((xs.take (i + 1)).foldl insE []).map some := fun h => by
      rw [foldl_snoc hx']
      exact map_ins hmap hx' (kk_eq (Nat.le_refl _) (by omega) (fun j y h1 h2 h3 => hgt j y h1 (by omega) h3) h)
    refine Or.inl ⟨by kernel_rfl, ?_⟩
    refine ⟨fun hpos => ?_, fun hpos => ?_⟩
    · have hpos : 0 < k := by have := of_decide_eq_true hpos; omega
      obtain ⟨k, rfl⟩ : ∃ k', k = k' + 1 := ⟨k - 1, by omega⟩
      obtain ⟨q, y, hq, hy, hya⟩ := map_at hmap (show k < bs.length by omega)
      have hql := (List.getElem?_eq_some_iff.1 hy).1
      obtain ⟨g, rfl⟩ := hba (by rintro rfl; simp at hq)
      have hsub : ((k : Nat) : Int) = IntKind.i64.wrap (((k + 1 : Nat) : Int) - 1) := by rw [show (((k + 1 : Nat) : Int) - 1) = k by omega]; exact wrap_i64 (by omega) (by omega)
      refine ⟨_, hsub, ?_⟩
      refine ⟨k, rfl, by omega, ?_⟩
      refine ⟨_, ldO 0 k 0 rfl (fun _ _ => rfl) hq rfl rfl (by show 0 + k = k * 1 + 0; omega), ?_⟩
      refine ⟨q, rfl, by omega, ?_⟩
      refine ⟨_, ldR hl q 2 hy rfl rfl rfl, ?_⟩
      refine ⟨i, rfl, by omega, ?_⟩
      refine ⟨_, ldR hl i 2 hx' rfl rfl rfl, ?_⟩
      refine ⟨fun h => ?_, fun h => ?_⟩
      · have h : y.en > x.en := of_decide_eq_true h
        refine ⟨_, hsub, ?_⟩
        exact backI k (by omega) ⟨by omega, fun j y' hj hj' hy' => by
          rcases Nat.eq_or_lt_of_le hj with rfl | hj
          · rw [hya] at hy'; cases hy'; exact h
          · exact hgt j y' hj hj' hy'⟩ ⟨rfl, rfl, rfl, rfl, trivial⟩ (.refl _)
      · have h : ¬ y.en > x.en := of_decide_eq_false h
        have i1 := ins fun y' _ hy' => by
          rw [show k + 1 - 1 = k by omega, hya] at hy'; cases hy'; omega
        refine bld0 1 encN rfl rfl rfl fun g0 => ?_
        refine ⟨_, slHi (k + 1) rfl (by omega) rfl rfl rfl, ?_⟩
        refine appOS 0 1 0 rfl rfl (fun _ => map_add0 _ _) (by simp; omega) rfl (fun _ _ => rfl) (fun _ _ => rfl) (by decide) (fun _ => rfl) rfl rfl rfl rfl rfl (by simp; omega) (by decide) fun g1 c1 hc1 => ?_
        refine bldS [.int .i64 0] rfl rfl rfl rfl rfl (by kernel_rfl) rfl fun vb => ?_
        refine appO 1 0 i rfl rfl rfl rfl rfl (by decide) rfl rfl rfl rfl rfl rfl (by simp; omega) (by decide) fun g2 c2 hc2 => ?_
        refine ⟨_, slLo (k + 1) rfl (by omega) rfl rfl rfl, ?_⟩
        refine appOS 1 2 (k + 1) rfl rfl (fun hm => by rw [if_neg (by omega)]; rfl) (by omega) (by simp only [List.length_append]; rfl) (fun _ _ => rfl) (fun _ _ => rfl) (by decide) (fun _ => rfl) rfl rfl rfl rfl rfl (by simp; omega) (by decide) fun g3 c3 hc3 => ?_
        have hfin : (([] ++ (bs.drop 0).take (k + 1)) ++ [i]) ++ (bs.drop (k + 1)).take (bs.length - (k + 1)) = bs.take (k + 1) ++ i :: bs.drop (k + 1) := by
          rw [List.take_of_length_le (l := bs.drop (k + 1)) (by simp)]; simp
        refine ⟨_, wrap_i64 (by omega) (by omega), ?_⟩
        exact backI (i + 1, bs.take (k + 1) ++ i :: bs.drop (k + 1), some ⟨g3, 0, none⟩, c3) (by show n - (i + 1) < n - i; omega) ⟨by show i + 1 ≤ n; omega, by rw [← hfin]; exact hc3, by show (bs.take (k + 1) ++ i :: bs.drop (k + 1)).length = i + 1; simp; omega, fun _ => ⟨g3, rfl⟩, i1⟩ ⟨rfl, by rw [← hfin]; rfl, rfl, trivial⟩ (by rw [← hfin]; exact Ent.pick [1])
    · have hk0 : k = 0 := by have := of_decide_eq_false hpos; omega
      have i1 := ins fun y' h _ => by omega
      refine ⟨nofun, fun _ => ?_⟩
      refine bld0 1 encN rfl rfl rfl fun g0 => ?_
      refine ⟨_, slHi k rfl (by omega) rfl rfl rfl, ?_⟩
      refine appOS 0 1 0 rfl rfl (fun _ => map_add0 _ _) (by simp; omega) rfl (fun _ _ => rfl) (fun _ _ => rfl) (by decide) (fun _ => rfl) rfl rfl rfl rfl rfl (by simp; omega) (by decide) fun g1 c1 hc1 => ?_
      refine bldS [.int .i64 0] rfl rfl rfl rfl rfl (by kernel_rfl) rfl fun vb => ?_
      refine appO 1 0 i rfl rfl rfl rfl rfl (by decide) rfl rfl rfl rfl rfl rfl (by simp; omega) (by decide) fun g2 c2 hc2 => ?_
      refine ⟨_, slLo k rfl (by omega) rfl rfl rfl, ?_⟩
      refine appOS 1 2 k rfl rfl (fun hm => by rw [if_neg (by omega)]; rfl) (by omega) (by simp only [List.length_append]; rfl) (fun _ _ => rfl) (fun _ _ => rfl) (by decide) (fun _ => rfl) rfl rfl rfl rfl rfl (by simp; omega) (by decide) fun g3 c3 hc3 => ?_
      have hfin : (([] ++ (bs.drop 0).take k) ++ [i]) ++ (bs.drop k).take (bs.length - k) = bs.take k ++ i :: bs.drop k := by
        rw [List.take_of_length_le (l := bs.drop k) (by simp)]; simp
      refine ⟨_, wrap_i64 (by omega) (by omega), ?_⟩
      exact backI (i + 1, bs.take k ++ i :: bs.drop k, some ⟨g3, 0, none⟩, c3) (by show n - (i + 1) < n - i; omega) ⟨by show i + 1 ≤ n; omega, by rw [← hfin]; exact hc3, by show (bs.take k ++ i :: bs.drop k).length = i + 1; simp; omega, fun _ => ⟨g3, rfl⟩, i1⟩ ⟨rfl, by rw [← hfin]; rfl, rfl, trivial⟩ (by rw [← hfin]; exact Ent.pick [1])
  have hin : i = n := by have := of_decide_eq_false hge; simp at this; omega
  subst hin
  clear hge
  have hsr : (xs.take i).foldl insE [] = sorted xs := by rw [sortedE, List.take_of_length_le (by omega)]
  have hmap2 : bs.map (fun i => xs[i]?) = (sorted xs).map some := by rw [← hsr]; exact hmap
  have hal2 : (sorted xs).length = bs.length := by rw [← hsr]; exact hal
  have hbi2 : bs.length = i := hbi
  have hba2 : bs ≠ [] → ∃ g, ba = some ⟨g, 0, none⟩ := hba
  clear hsr hmap hal hbi hba
  have hyp : (sorted xs).Perm xs := isort_perm _ _ _ _
  refine loopI (σ := Nat) (fun k => [(0, .slice la i cap), (5, .slice ba bs.length bc), (9, .int .i64 k)]) (fun _ => [own ba bc 3 1 encN bs]) (fun k => k ≤ i ∧ ∀ j, k < j → j ≤ i → ∀ o, ¬ Good ((sorted xs).take j) 0 [] o) (fun k => k) i
    ⟨rfl, rfl, rfl, trivial⟩ (.refl _) ⟨Nat.le_refl _, fun j h1 h2 => by omega⟩ ?_
  rintro k ⟨hk, hno⟩
  refine ⟨fun hgt => ?_, fun hle => ?_⟩
  · have hkp : 0 < k := by have := of_decide_eq_true hgt; omega
    obtain ⟨g, rfl⟩ := hba2 (by rintro rfl; simp at hbi2; omega)
    obtain ⟨b1, o1, rfl⟩ := roS_at hl (by omega)
    refine loopI (σ := Nat × Option Addr × Nat) (fun s => [(0, .slice (some ⟨b1, o1, none⟩) i cap), (5, .slice (some ⟨g, 0, none⟩) bs.length bc), (9, .int .i64 k), (10, .slice s.2.1 s.1 s.2.2), (11, .int .i64 s.1)]) (fun s => [own s.2.1 s.2.2 41 9 encCl ((sorted xs).take s.1), own (some ⟨g, 0, none⟩) bc 3 1 encN bs])
      (fun s => s.1 ≤ k) (fun s => k - s.1) (0, none, 0) ⟨rfl, rfl, rfl, rfl, rfl, trivial⟩ own_nil (Nat.zero_le _) ?_
    rintro ⟨j, ya, yc⟩ hj
    have hj : j ≤ k := hj
    have htl : ((sorted xs).take j).length = j := by simp; omega
    refine ⟨fun hlt => ?_, fun hge => ?_⟩
    · have hjk : j < k := by have := of_decide_eq_true hlt; simp at this; omega
      obtain ⟨q, y, hq, hy, hya⟩ := map_at hmap2 (show j < bs.length by omega)
      have hql := (List.getElem?_eq_some_iff.1 hy).1
      refine ⟨j, rfl, by omega, ?_⟩
      refine ⟨_, ldO 1 j 0 rfl (fun _ _ => rfl) hq rfl rfl (by show 0 + j = j * 1 + 0; omega), ?_⟩
      refine ⟨q, rfl, by omega, ?_⟩
      refine ⟨_, ldRA hl q hy rfl rfl rfl rfl, ?_⟩
      refine bldS (encCl ⟨0, 0, 0, 0, 0, 0, 0, 0, 0⟩) rfl rfl rfl rfl rfl (by kernel_rfl) rfl fun vb => ?_
      refine appO 1 0 y rfl rfl htl.symm rfl rfl (by decide) rfl rfl rfl rfl rfl rfl (by rw [htl]; omega) (by decide) fun g' cap' hcap' => ?_
      refine ⟨_, wrap_i64 (by omega) (by omega), ?_⟩
      have e : (sorted xs).take (j + 1) = (sorted xs).take j ++ [y] := by rw [List.take_add_one, hya]; rfl
      exact backI (j + 1, some ⟨g', 0, none⟩, cap') (by show k - (j + 1) < k - j; omega) (by show j + 1 ≤ k; omega) ⟨rfl, rfl, rfl, by show _ = some (Value.slice _ (j + 1) _); rw [show j + 1 = ((sorted xs).take j).length + 1 by rw [htl]]; rfl, rfl, trivial⟩ (by rw [e]; exact Ent.pick [1, 1])
    · have hjk : j = k := by have := of_decide_eq_false hge; simp at this; omega
      subst hjk
      refine mkS (enc := encBl) j false rfl rfl rfl rfl rfl rfl rfl rfl (by decide) (by simp [maxLen]; omega) (by show 1 * j ≤ _; omega) fun g2 => ?_
      repeat (refine ⟨rfl, Nat.le_of_ble_eq_true rfl, ?_⟩)
      refine callP [0] (fun w S hR hB hS hd => search0_spec ((sorted xs).take j) (hx.take hyp j) ya j yc g2 htl (by omega) w S ((hB _ (lget_mem (i := 0) rfl)).own (fun _ _ => rfl) (by decide)) hS hd) ?_
      rintro _ _ ⟨l', oa', on, oc', ka', kn', kc', ok, rfl, hP, hres, rfl⟩
      rcases hres with ⟨rfl, o, hle, rfl, hoi⟩ | ⟨rfl, hnone⟩
      · refine ⟨fun _ => ?_, nofun⟩
        exact ⟨_, .pick [], j, 0, rfl, .inr ⟨hc0, rfl, by omega, fun j' h1 h2 => hno j' h1 (by omega), .inr ⟨o, hle.1⟩⟩, rfl⟩
      · refine ⟨nofun, fun _ => ?_⟩
        refine ⟨((j - 1 : Nat) : Int), by rw [show ((j : Int) - 1) = ((j - 1 : Nat) : Int) by omega]; exact wrap_i64 (by omega) (by omega), ?_⟩
        exact backI (j - 1) (by omega) ⟨by omega, fun j' h1 h2 => by
          rcases Nat.eq_or_lt_of_le (show j ≤ j' by omega) with rfl | h
          · exact hnone
          · exact hno j' h h2⟩ ⟨rfl, rfl, rfl, trivial⟩ (Ent.pick [2])
  · have hk0 : k = 0 := by have := of_decide_eq_false hle; omega
    subst hk0
    exact ⟨_, .pick [], 0, 0, rfl, .inr ⟨hc0, rfl, Nat.zero_le _, fun j h1 h2 => hno j h1 (by omega), .inl rfl⟩, rfl⟩
end Go.Proofs.YtfebaopjfmpfkaaDoor
