/- Sorting calls: the stable sort of up to 39 elements. -/
import Derived.Test.YtfebaopjfmpfkaaDoorS0
import Derived.Test.YtfebaopjfmpfkaaDoorS3
namespace Go.Proofs.YtfebaopjfmpfkaaDoor
open Go.X
set_option maxRecDepth 10000
set_option linter.unusedVariables false
set_option linter.unusedSimpArgs false

theorem kk_spec (ys : List Cl) (x : Cl) : ∀ {j : Nat}, j ≤ ys.length → (∀ (i : Nat) (y : Cl), kk ys x j ≤ i → i < j → ys[i]? = some y → x.en < y.en) ∧ (0 < kk ys x j → ∃ y, ys[kk ys x j - 1]? = some y ∧ ¬ x.en < y.en)
  | 0, _ => ⟨fun i y h h' => by omega, fun h => absurd h (by simp [kk])⟩
  | j + 1, hj => by
    obtain ⟨y, hy⟩ : ∃ y, ys[j]? = some y := ⟨ys[j], by simp [show j < ys.length by omega]⟩
    obtain ⟨i1, i2⟩ := kk_spec ys x (j := j) (by omega)
    simp only [kk, hy]
    by_cases h : x.en < y.en
    · rw [if_pos h]
      refine ⟨fun i z h1 h2 hz => ?_, i2⟩
      rcases Nat.lt_or_ge i j with hij | hij
      · exact i1 i z h1 hij hz
      · obtain rfl : i = j := by omega
        rw [hy] at hz; cases hz; exact h
    · rw [if_neg h]
      exact ⟨fun i z h1 h2 => by omega, fun _ => ⟨y, by simpa using hy, h⟩⟩
theorem ins_stab {R L : List Cl} (h : Stab R L) (x : Cl) : Stab (insE R x) (L ++ [x]) := by
  obtain ⟨k1, k2⟩ := kk_spec R x (j := R.length) (Nat.le_refl _)
  have hle := kk_le R x R.length
  unfold insE
  generalize kk R x R.length = k at *
  have hlo : ∀ z ∈ R.take k, z.en < x.en + 1 := srt_lo h.srt (by
    rcases Nat.eq_zero_or_pos k with h0 | h0
    · exact .inl h0
    · obtain ⟨y, hy, hn⟩ := k2 h0
      exact .inr ⟨y, hy, by omega⟩)
  have hhi : ∀ z ∈ R.drop k, x.en + 1 ≤ z.en := srt_hi h.srt (by
    rcases Nat.lt_or_ge k R.length with h0 | h0
    · refine .inr ⟨R[k], by simp [h0], ?_⟩
      have := k1 k R[k] (Nat.le_refl _) h0 (by simp [h0])
      omega
    · exact .inl h0)
  have hs := h.srt
  rw [← List.take_append_drop k R] at hs
  obtain ⟨s1, s2, s3⟩ := List.pairwise_append.1 hs
  refine ⟨by simp [← h.len]; omega, ?_, fun q => ?_⟩
  · refine List.pairwise_append.2 ⟨s1, List.pairwise_cons.2 ⟨fun z hz => ?_, s2⟩, fun z hz y hy => ?_⟩
    · have := hhi z hz; omega
    · rcases List.mem_cons.1 hy with rfl | hy
      · have := hlo z hz; omega
      · exact s3 z hz y hy
  · rw [keyL_app, keyL_app, ← h.key q]
    conv => rhs; rw [← List.take_append_drop k R, keyL_app]
    by_cases hq : x.en = q
    · have hd : keyL q (R.drop k) = [] := by
        unfold keyL
        rw [List.filter_eq_nil_iff]
        intro z hz
        have := hhi z hz
        simp; omega
      have : keyL q (x :: R.drop k) = x :: keyL q (R.drop k) := by unfold keyL; rw [List.filter_cons_of_pos (by simpa using hq)]
      rw [this, hd]
      simp [keyL, hq]
    · have h1 : keyL q (x :: R.drop k) = keyL q (R.drop k) := by unfold keyL; rw [List.filter_cons_of_neg (by simpa using hq)]
      have h2 : keyL q [x] = [] := by unfold keyL; rw [List.filter_cons_of_neg (by simpa using hq)]; rfl
      rw [h1, h2, List.append_nil]
theorem fold_stab : ∀ (xs R L : List Cl), Stab R L → Stab (xs.foldl insE R) (L ++ xs)
  | [], R, L, h => by simpa using h
  | x :: xs, R, L, h => by
    have := fold_stab xs _ _ (ins_stab h x)
    rw [List.foldl_cons]
    simpa using this
theorem sorted_stab (xs : List Cl) : Stab (sorted xs) xs := by
  rw [sortedE]
  simpa using fold_stab xs [] [] (Stab.refl List.Pairwise.nil)

/-! ### sorting behind a front -/
theorem swp_app (P zs : List Cl) (j : Nat) : swp (P ++ zs) (P.length + j) = P ++ swp zs j := by
  unfold swp
  rw [List.getElem?_append_right (by omega), List.getElem?_append_right (by omega), show P.length + j - P.length = j by omega, show P.length + j + 1 - P.length = j + 1 by omega]
  split
  · rw [Nat.add_assoc, List.set_append_right _ _ (by omega), List.set_append_right _ _ (by omega), show P.length + (j + 1) - P.length = j + 1 by omega, show P.length + j - P.length = j by omega]
  · rfl
theorem sink_app (P : List Cl) : ∀ (j : Nat) (zs : List Cl), sink P.length (P.length + j) (P ++ zs) = P ++ sink 0 j zs
  | 0, zs => by
    have : ∀ (k : Nat) (ys : List Cl), k ≤ P.length → sink P.length k ys = ys := fun k ys hk => by
      cases k with
      | zero => rfl
      | succ k =>
        simp only [sink]
        split
        · rw [if_neg (by omega)]
        · rfl
    rw [this _ _ (by omega)]; rfl
  | j + 1, zs => by
    rw [show P.length + (j + 1) = (P.length + j) + 1 by omega]
    simp only [sink]
    rw [List.getElem?_append_right (by omega), List.getElem?_append_right (by omega), show P.length + j - P.length = j by omega, show P.length + j + 1 - P.length = j + 1 by omega]
    split
    · rename_i x y h1 h2
      by_cases h : y.en < x.en
      · rw [if_pos ⟨by omega, h⟩, if_pos ⟨by omega, h⟩, swp_app, sink_app P j]
      · rw [if_neg (fun h' => h h'.2), if_neg (fun h' => h h'.2)]
    · rfl
theorem isort_app (P : List Cl) : ∀ (m i : Nat) (zs : List Cl), isortFrom P.length (P.length + i) m (P ++ zs) = P ++ isortFrom 0 i m zs
  | 0, _, _ => rfl
  | m + 1, i, zs => by
    simp only [isortFrom]
    rw [sink_app, Nat.add_assoc, isort_app P m]
theorem isort_front (A B : List Cl) (hA : 0 < A.length) : isortFrom 0 1 (A.length - 1) (A ++ B) = sorted A ++ B := by
  cases A with
  | nil => simp at hA
  | cons x A =>
    have := isort_eq A.length 1 [x] (x :: A ++ B) rfl (by simp; omega)
    simp only [List.cons_append, List.nil_append, List.drop_succ_cons, List.drop_zero, List.singleton_append, List.take_left'] at this
    rw [show (x :: A).length - 1 = A.length by simp]
    rw [List.cons_append, this, sortedE]
    simp [List.foldl_cons, insE, kk, List.take_left, Nat.add_comm 1]

/-! ### the stable sort -/
theorem stableG_spec (g n cap : Nat) (A B : List Cl) (hA : A.length = 20) (hn : 20 + B.length = n) (hn2 : B.length < 20) (w : World) (S : FP) (hS : Sep [own (some ⟨g, 0, none⟩) cap 41 9 encCl (A ++ B)] w S) (hd : ∀ b, S b → b < w.heap.size) :
    Trip Tryd.prog 45 #[.slice (some ⟨g, 0, none⟩) n cap, .int .i64 n, .func (.func 31) #[] #[]] w S fun v L => v = .tuple #[] ∧ L = [own (some ⟨g, 0, none⟩) cap 41 9 encCl (sorted (A ++ B))] := by
  have hlA : (sorted A).length = 20 := (sorted_stab A).len.trans hA
  have e1 : isortFrom 0 1 19 (A ++ B) = sorted A ++ B := by
    have := isort_front A B (by omega)
    rwa [hA] at this
  have e2 : isortFrom 20 21 (n - 21) (sorted A ++ B) = sorted A ++ sorted B := by
    have := isort_app (sorted A) (n - 21) 1 B
    rw [hlA] at this
    rw [this]
    unfold sorted
    rw [show n - 21 = B.length - 1 by omega]
  refine Trip.of_x (L := [own (some ⟨g, 0, none⟩) cap 41 9 encCl (A ++ B)]) Tryd.func45 (by kernel_rfl) rfl Tryd.ntmps45 Tryd.results45 rfl (ctx_ok _) hS hd ?_
  refine loopI (σ := Nat × List Cl) (fun s => [(0, .slice (some ⟨g, 0, none⟩) n cap), (1, .int .i64 n), (2, .func (.func 31) #[] #[]), (6, .int .i64 20), (7, .int .i64 s.1), (8, .int .i64 ((s.1 + 20 : Nat) : Int))]) (fun s => [own (some ⟨g, 0, none⟩) cap 41 9 encCl s.2])
    (fun s => s = (0, A ++ B) ∨ s = (20, sorted A ++ B)) (fun s => 20 - s.1) (0, A ++ B) ⟨rfl, rfl, rfl, rfl, rfl, rfl, trivial⟩ (.refl _) (.inl rfl) ?_
  rintro s hs
  refine ⟨fun h => ?_, fun h => ?_⟩
  · have hle : s.1 + 20 ≤ n := by have := of_decide_eq_true h; omega
    obtain rfl : s = (0, A ++ B) := hs.resolve_right (by rintro rfl; simp at hle; omega)
    refine callP [0] (fun w S hR hB hS hd => insertion_spec (some ⟨g, 0, none⟩) n cap 0 20 (A ++ B) (fun _ => ⟨g, rfl⟩) (by simp; omega) (by omega) (by omega) (by omega) w S hS hd) ?_
    rintro _ _ ⟨rfl, rfl⟩
    refine ⟨40, wrap_i64 (by omega) (by omega), ?_⟩
    exact backI (20, sorted A ++ B) (by show 20 - 20 < 20 - 0; omega) (.inr rfl) ⟨rfl, rfl, rfl, rfl, rfl, rfl, trivial⟩ (by show Ent [own _ _ _ _ _ (isortFrom 0 1 19 (A ++ B))] _; rw [e1]; exact .refl _)
  have hgt : ¬ s.1 + 20 ≤ n := by have := of_decide_eq_false h; omega
  obtain rfl : s = (20, sorted A ++ B) := hs.resolve_left (by rintro rfl; simp at hgt; omega)
  clear h
  refine callP [0] (fun w S hR hB hS hd => insertion_spec (some ⟨g, 0, none⟩) n cap 20 n (sorted A ++ B) (fun _ => ⟨g, rfl⟩) (by simp; omega) (by omega) (by omega) (by omega) w S hS hd) ?_
  rintro _ _ ⟨rfl, rfl⟩
  rw [show n - (20 + 1) = n - 21 by omega, e2]
  refine loopI (σ := Nat × List Cl) (fun s => [(0, .slice (some ⟨g, 0, none⟩) n cap), (1, .int .i64 n), (2, .func (.func 31) #[] #[]), (6, .int .i64 s.1)]) (fun s => [own (some ⟨g, 0, none⟩) cap 41 9 encCl s.2])
    (fun s => s = (20, sorted A ++ sorted B) ∨ s = (40, sorted (A ++ B))) (fun s => 40 - s.1) (20, sorted A ++ sorted B) ⟨rfl, rfl, rfl, rfl, trivial⟩ (.refl _) (.inl rfl) ?_
  rintro s hs
  refine ⟨fun h => ?_, fun h => ?_⟩
  · have hle : s.1 < n := by have := of_decide_eq_true h; omega
    obtain rfl : s = (20, sorted A ++ sorted B) := hs.resolve_right (by rintro rfl; simp at hle; omega)
    have hle : 20 < n := hle
    clear h
    refine ⟨40, wrap_i64 (by omega) (by omega), ?_⟩
    refine loopI (σ := Unit) (fun s => [(0, .slice (some ⟨g, 0, none⟩) n cap), (1, .int .i64 n), (2, .func (.func 31) #[] #[]), (6, .int .i64 20), (7, .int .i64 0), (8, .int .i64 40)]) (fun s => [own (some ⟨g, 0, none⟩) cap 41 9 encCl (sorted A ++ sorted B)])
      (fun _ => True) (fun _ => 0) () ⟨rfl, rfl, rfl, rfl, rfl, rfl, trivial⟩ (.refl _) trivial ?_
    rintro _ _
    refine ⟨fun h => absurd (of_decide_eq_true h) (by omega), fun _ => ?_⟩
    refine ⟨20, wrap_i64 (by omega) (by omega), ?_⟩
    refine ⟨fun _ => ?_, fun h => absurd (of_decide_eq_false h) (by omega)⟩
    have hlB : (sorted B).length = B.length := (sorted_stab B).len
    refine callP [0] (fun w S hR hB hS hd => symMerge_spec g n cap (by omega) n 0 20 n [] (sorted A) (sorted B) [] w S rfl (by simp; omega) rfl (by omega) (by omega) (by omega) (by omega) (sorted_stab A).srt (sorted_stab B).srt (by rw [List.nil_append, List.append_nil]; exact hS) hd) ?_
    rintro _ _ ⟨rfl, R, hR, rfl⟩
    have hRe : R = sorted (A ++ B) := by
      refine Stab.uniq (L := A ++ B) (hR.trans (fun k => ?_) ?_) (sorted_stab _)
      · rw [keyL_app, keyL_app, (sorted_stab A).key, (sorted_stab B).key]
      · simp; omega
    subst hRe
    refine ⟨40, wrap_i64 (by omega) (by omega), ?_⟩
    exact backI (40, sorted (A ++ B)) (by show 40 - 40 < 40 - 20; omega) (.inr rfl) ⟨rfl, rfl, rfl, rfl, trivial⟩ (by simp only [List.nil_append, List.append_nil]; exact .refl _)
  have hge : ¬ s.1 < n := by have := of_decide_eq_false h; omega
  have hfin : s.2 = sorted (A ++ B) := by
    rcases hs with rfl | rfl
    · have hB : B = [] := by
        have : B.length = 0 := by have : ¬ 20 < n := hge; omega
        exact List.eq_nil_of_length_eq_zero this
      subst hB
      show sorted A ++ sorted [] = sorted (A ++ [])
      rw [List.append_nil]
      exact List.append_nil _
    · rfl
  exact ⟨_, .refl _, rfl, by rw [hfin]⟩
theorem sortStableG_spec (ao : Option Addr) (n cap : Nat) (xs : List Cl) (hao : xs ≠ [] → ∃ g, ao = some ⟨g, 0, none⟩) (hn : xs.length = n) (hn2 : n < 40) (w : World) (S : FP) (hS : Sep [own ao cap 41 9 encCl xs] w S) (hd : ∀ b, S b → b < w.heap.size) :
    Trip Tryd.prog 30 #[.slice ao n cap, .func (.func 31) #[] #[]] w S fun v L => v = .tuple #[] ∧ L = [own ao cap 41 9 encCl (sorted xs)] := by
  rcases Nat.lt_or_ge n 20 with h20 | h20
  · have := sortStable_spec ao n cap xs hao hn h20 w S hS hd
    unfold sorted
    rw [hn]
    exact this
  obtain ⟨g, rfl⟩ := hao (by rintro rfl; simp at hn; omega)
  refine Trip.of_x (L := [own (some ⟨g, 0, none⟩) cap 41 9 encCl xs]) Tryd.func30 (by kernel_rfl) rfl Tryd.ntmps30 Tryd.results30 rfl (ctx_ok _) hS hd ?_
  have hx : xs.take 20 ++ xs.drop 20 = xs := List.take_append_drop ..
  refine callP [0] (fun w S hR hB hS hd => stableG_spec g n cap (xs.take 20) (xs.drop 20) (by simp; omega) (by simp; omega) (by simp; omega) w S (by rw [hx]; exact hS) hd) ?_
  rintro _ _ ⟨rfl, rfl⟩
  exact ⟨_, .refl _, rfl, by rw [hx]; rfl⟩

theorem prefixG_spec (la : Option Addr) (n cap : Nat) (xs : List Cl) (w : World) (S : FP) (hr : InR xs) (hT : RO w S tabC) (hl : RO w S (roS la 9 encCl xs)) (hn : xs.length = n) (hc : n ≤ cap) (hn2 : n < 40) (hla : la = none → xs = []) (hd : ∀ b, S b → b < w.heap.size) :
    Trip Tryd.prog 16 #[.slice la n cap] w S fun v L => ∃ (p : Nat) (e : Int), v = .tuple #[.int .i64 p, .int .i64 e] ∧ PrefR xs (sorted xs) p e ∧ L = [] := by
  refine Trip.of_x (L := []) Tryd.func16 (by kernel_rfl) rfl Tryd.ntmps16 Tryd.results16 rfl (ctx_ok _) trivial hd ?_
  refine callP [] (fun w S hR hB hS hd => check_spec la n cap xs w S (hR _ hl) hn hc (by omega) hd) ?_
  rintro _ _ ⟨rfl, rfl⟩
  refine ⟨fun h => ?_, fun h => ?_⟩
  · have h : chk xs ≠ 0 := of_decide_eq_true h
    exact ⟨_, .pick [], 0, chk xs, rfl, .inl ⟨h, rfl, rfl⟩, rfl⟩
  have h : chk xs = 0 := by simpa using h
  obtain ⟨h1, h2⟩ := chk_ok h
  have hx : HistOk xs := ⟨h2, h1, hr⟩
  refine callP [] (fun w S hR hB hS hd => clone_spec la n cap xs hn (by omega) hla w S (hR _ hl) hd) ?_
  rintro _ _ ⟨a, c, rfl, ha, hc', rfl⟩
  refine callP [0] (fun w S hR hB hS hd => sortStableG_spec a n c xs ha hn hn2 w S hS hd) ?_
  rintro _ _ ⟨rfl, rfl⟩
  have hyl : (sorted xs).length = n := by unfold sorted; rw [isortFrom_len, hn]
  have hyp : (sorted xs).Perm xs := isort_perm _ _ _ _
  refine loopI (σ := Nat) (fun k => [(5, .slice a n c), (6, .int .i64 k)]) (fun _ => [own a c 41 9 encCl (sorted xs)])
    (fun k => k ≤ n ∧ ∀ j, k < j → j ≤ n → ∀ o, ¬ Good ((sorted xs).take j) 0 [] o) (fun k => k) n ⟨rfl, rfl, trivial⟩ (.refl _) ⟨Nat.le_refl _, fun j h1 h2 => by omega⟩ ?_
  rintro k ⟨hk, hno⟩
  refine ⟨fun hgt => ?_, fun hle => ?_⟩
  · have hkp : 0 < k := by have := of_decide_eq_true hgt; omega
    refine ⟨_, slHi k rfl (by omega) rfl rfl rfl, ?_⟩
    refine callP [] (fun w S hR hB hS hd => first_spec a k c ((sorted xs).take k) w S (hx.take hyp k) (hR _ hT) (roS_take k ((hB _ (lget_mem (i := 0) rfl)).own (fun _ _ => rfl) (by decide))) (by simp; omega) hd) ?_
    rintro _ _ (⟨o, oa, oc, rfl, hle, rfl⟩ | ⟨oa, oc, rfl, hnone, rfl⟩)
    · refine ⟨fun _ => ?_, nofun⟩
      exact ⟨_, .pick [], k, 0, rfl, .inr ⟨h, rfl, by omega, fun j h1 h2 => hno j h1 (by omega), .inr ⟨o, hle.1⟩⟩, rfl⟩
    · refine ⟨nofun, fun _ => ?_⟩
      refine ⟨((k - 1 : Nat) : Int), by rw [show ((k : Int) - 1) = ((k - 1 : Nat) : Int) by omega]; exact wrap_i64 (by omega) (by omega), ?_⟩
      exact backI (k - 1) (by omega) ⟨by omega, fun j h1 h2 => by
        rcases Nat.eq_or_lt_of_le (show k ≤ j by omega) with rfl | h
        · exact hnone
        · exact hno j h h2⟩ ⟨rfl, rfl, trivial⟩ (.pick [1])
  · have hk0 : k = 0 := by have := of_decide_eq_false hle; omega
    subst hk0
    exact ⟨_, .pick [], 0, 0, rfl, .inr ⟨h, rfl, Nat.zero_le _, fun j h1 h2 => hno j h1 (by omega), .inl rfl⟩, rfl⟩
end Go.Proofs.YtfebaopjfmpfkaaDoor
