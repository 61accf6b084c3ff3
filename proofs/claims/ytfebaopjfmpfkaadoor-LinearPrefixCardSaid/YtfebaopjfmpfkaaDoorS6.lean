/- The law on Prefix walked. -/
import Derived.Test.YtfebaopjfmpfkaaDoorS5
namespace Go.Proofs.YtfebaopjfmpfkaaDoor
open Go.X
set_option maxRecDepth 10000
set_option linter.unusedVariables false
set_option linter.unusedSimpArgs false

theorem prefixlaw_spec (la : Option Addr) (n cap : Nat) (xs : List Cl) (w : World) (S : FP) (hr : InR xs) (hT : RO w S tabC) (hl : RO w S (roS la 9 encCl xs)) (hn : xs.length = n)
    (hc : n ≤ cap) (hc2 : cap ≤ maxLen) (hd : ∀ b, S b → b < w.heap.size) :
    Trip Tryd.prog 9 #[.slice la n cap] w S fun v L => v = .bool true ∧ L = [] := by
  have hla : la = none → xs = [] := fun h => by
    by_cases hx : xs = []
    · exact hx
    · obtain ⟨b, o, h'⟩ := roS_at hl (by cases xs with | nil => exact absurd rfl hx | cons _ _ => simp)
      rw [h] at h'; cases h'
  refine Trip.of_x (L := []) Tryd.func9 (by kernel_rfl) rfl Tryd.ntmps9 Tryd.results9 rfl (ctx_ok _) trivial hd ?_
  refine ⟨fun h => ?_, fun h => ?_⟩
  · refine callP [] (fun w S hR hB hS hd => awake_spec w S (hR _ hT) hd) ?_
    rintro _ _ ⟨rfl, rfl⟩
    exact ⟨_, .pick [], rfl, rfl⟩
  have hn30 : n ≤ 30 := by have := of_decide_eq_false h; omega
  refine callP [] (fun w S hR hB hS hd => Check_spec la n cap xs w S hr (hR _ hT) (hR _ hl) hn hc (by omega) hd) ?_
  rintro _ _ ⟨e, o, a, c, rfl, hchk, rfl⟩
  refine callP [] (fun w S hR hB hS hd => prefixG_spec la n cap xs w S hr (hR _ hT) (hR _ hl) hn hc (by omega) hla hd) ?_
  rintro _ _ ⟨p, e2, rfl, hpr, rfl⟩
  have hc01 : (chk xs ≠ 0 ∧ e = chk xs ∧ p = 0 ∧ e2 = chk xs) ∨ (chk xs = 0 ∧ e2 = 0 ∧ p ≤ n ∧ (∀ j, p < j → j ≤ n → ∀ o, ¬ Good ((sorted xs).take j) 0 [] o) ∧ (p = 0 ∨ ∃ o, Good ((sorted xs).take p) 0 [] o) ∧ (e = 0 ∧ (∃ o, Good xs 0 [] o) ∨ e = 4 ∧ ∀ o, ¬ Good xs 0 [] o)) := by
    rcases hpr with ⟨h1, h2, h3⟩ | ⟨h1, h2, h3, h4, h5⟩ <;> rcases hchk with ⟨k1, k2, k3⟩ | ⟨k1, k2, k3⟩ | ⟨k1, k2, k3, k4⟩
    · exact .inl ⟨h1, k2, h2, h3⟩
    · exact absurd k1 h1
    · exact absurd k1 h1
    · exact absurd h1 k1
    · exact .inr ⟨h1, h2, by omega, fun j hj hj' => h4 j hj (by omega), h5, .inl ⟨k2, o, k3.1⟩⟩
    · exact .inr ⟨h1, h2, by omega, fun j hj hj' => h4 j hj (by omega), h5, .inr ⟨k2, k4⟩⟩
  rcases hc01 with ⟨h1, rfl, rfl, rfl⟩ | ⟨h1, rfl, hp, hno, hyes, he4⟩
  · have hne : chk xs ≠ 4 := by
      unfold chk
      split
      · decide
      · split <;> decide
    repeat (refine ⟨fun _ => ?_, fun h => by first | (cases h; done) | (simp [h1, hne] at h; done)⟩)
    refine callP [] (fun w S hR hB hS hd => awake_spec w S (hR _ hT) hd) ?_
    rintro _ _ ⟨rfl, rfl⟩
    repeat (refine ⟨fun _ => ?_, fun h => by first | (cases h; done) | (simp [h1, hne] at h; done)⟩)
    exact ⟨_, .pick [], rfl, rfl⟩
  obtain ⟨hs64, hval⟩ := chk_ok h1
  have hyl : (sorted xs).length = n := by unfold sorted; rw [isortFrom_len, hn]
  have hyp : (sorted xs).Perm xs := isort_perm _ _ _ _
  have hgp : (∃ o, Good (sorted xs) 0 [] o) ↔ ∃ o, Good xs 0 [] o := by
    rw [some_good (by omega) (hval.perm hyp.symm), some_good hs64 hval]
    exact ⟨fun ⟨cs, h, h'⟩ => ⟨cs, h.trans hyp, h'⟩, fun ⟨cs, h, h'⟩ => ⟨cs, h.trans hyp.symm, h'⟩⟩
  have hpe : p = n ↔ e = 0 := by
    constructor
    · rintro rfl
      rcases he4 with ⟨h, _⟩ | ⟨_, h⟩
      · exact h
      · rcases hyes with rfl | hyes
        · have : xs = [] := List.eq_nil_of_length_eq_zero hn
          subst this
          exact absurd ⟨trivial, fun i hi => absurd hi (by simp)⟩ (h [])
        · rw [List.take_of_length_le (by omega)] at hyes
          obtain ⟨o, ho⟩ := hgp.1 hyes
          exact absurd ho (h o)
    · rintro rfl
      rcases he4 with ⟨_, h⟩ | ⟨h, _⟩
      · obtain ⟨o, ho⟩ := hgp.2 h
        rcases Nat.lt_or_ge p n with hlt | hge
        · have := hno n hlt (Nat.le_refl _) o
          rw [List.take_of_length_le (by omega)] at this
          exact absurd ho this
        · omega
      · cases h
  have hcond : (decide ((p : Int) = (n : Int)) != decide (e = 0)) = false := by
    have : decide ((p : Int) = (n : Int)) = decide (e = 0) := by
      have h1 : ((p : Int) = (n : Int)) ↔ e = 0 := by rw [← hpe]; omega
      simp [h1]
    rw [this]; simp
  rcases he4 with ⟨rfl, hg⟩ | ⟨rfl, hg⟩
  all_goals
    repeat (first | (refine ⟨fun h => by first | (cases h; done) | (simp at h; done) | (have := of_decide_eq_true h; omega) | (rw [hcond] at h; cases h), fun _ => ?_⟩) | (refine ⟨fun _ => ?_, fun h => by first | (cases h; done) | (simp at h; done)⟩))
    refine loopI (σ := Nat × List Cl × Option Addr × Nat) (fun s => [(0, .slice la n cap), (5, .int .i64 p), (6, .int .i64 0), (7, .slice s.2.2.1 s.2.1.length s.2.2.2), (8, .int .i64 s.1)]) (fun s => [own s.2.2.1 s.2.2.2 41 9 encCl s.2.1, own a c 3 1 encN o])
      (fun s => s.1 ≤ n ∧ s.2.1.length ≤ s.2.2.2 ∧ s.2.1.length ≤ s.1 ∧ ((List.range s.1).filter fun i => decide (bef xs i n < p)).map (fun i => xs[i]?) = s.2.1.map some) (fun s => n - s.1) (0, [], none, 0)
      ⟨rfl, rfl, rfl, rfl, rfl, trivial⟩ own_nil ⟨Nat.zero_le _, Nat.le_refl _, Nat.le_refl _, rfl⟩ ?_
    rintro ⟨i, ys, ya, yc⟩ ⟨hi, hyc, hyi, hys⟩
    have hi : i ≤ n := hi
    have hyc : ys.length ≤ yc := hyc
    have hyi : ys.length ≤ i := hyi
    have hys : ((List.range i).filter fun i => decide (bef xs i n < p)).map (fun i => xs[i]?) = ys.map some := hys
    refine ⟨fun hlt => ?_, fun hge => ?_⟩
    · have hin : i < n := by have := of_decide_eq_true hlt; simp at this; omega
      obtain ⟨x, hx⟩ : ∃ x, xs[i]? = some x := ⟨xs[i]'(by omega), by simp [show i < xs.length by omega]⟩
      obtain ⟨b1, o1, rfl⟩ := roS_at hl (by omega)
      refine loopI (σ := Nat) (fun k => [(0, .slice (some ⟨b1, o1, none⟩) n cap), (5, .int .i64 p), (6, .int .i64 0), (7, .slice ya ys.length yc), (8, .int .i64 i), (9, .int .i64 (bef xs i k)), (10, .int .i64 k)]) (fun _ => [own ya yc 41 9 encCl ys, own a c 3 1 encN o])
        (fun k => k ≤ n) (fun k => n - k) 0 ⟨rfl, rfl, rfl, rfl, rfl, rfl, rfl, trivial⟩ (.refl _) (Nat.zero_le _) ?_
      rintro k hk
      refine ⟨fun hlt => ?_, fun hge => ?_⟩
      · have hkn : k < n := by have := of_decide_eq_true hlt; simp at this; omega
        obtain ⟨y, hy⟩ : ∃ y, xs[k]? = some y := ⟨xs[k]'(by omega), by simp [show k < xs.length by omega]⟩
        have hb := bef_le xs i k
        have hlx : Lx xs k i = true ↔ y.en < x.en ∨ y.en = x.en ∧ k < i := by rw [Lx_iff, enA_at hx, enA_at hy]
        have back : ∀ t : Bool, t = Lx xs k i → ((bef xs i k + (if t = true then 1 else 0) : Nat) : Int) = ((bef xs i (k + 1) : Nat) : Int) := fun t ht => by rw [bef_succ, ht]
        refine Or.inl ⟨by kernel_rfl, ?_⟩
        refine ⟨k, rfl, hkn, ?_⟩
        refine ⟨_, ldR hl k 2 hy rfl rfl rfl, ?_⟩
        refine ⟨i, rfl, hin, ?_⟩
        refine ⟨_, ldR hl i 2 hx rfl rfl rfl, ?_⟩
        refine ⟨fun h => ?_, fun h => ?_⟩
        · have h : y.en < x.en := of_decide_eq_true h
          have hL : Lx xs k i = true := hlx.2 (.inl h)
          repeat (refine ⟨fun _ => ?_, fun h' => by first | (cases h'; done) | (exact absurd (of_decide_eq_false h') (by omega))⟩)
          refine ⟨((bef xs i (k + 1) : Nat) : Int), by
            have := back true hL.symm
            rw [if_pos rfl] at this
            rw [← this]
            exact wrap_i64 (by omega) (by omega), ?_⟩
          refine ⟨_, wrap_i64 (by omega) (by omega), ?_⟩
          exact backI (k + 1) (by omega) (by omega) ⟨rfl, rfl, rfl, rfl, rfl, rfl, rfl, trivial⟩ (.refl _)
        · have h : ¬ y.en < x.en := of_decide_eq_false h
          repeat (refine ⟨fun h' => by first | (cases h'; done) | (exact absurd (of_decide_eq_true h') (by omega)), fun _ => ?_⟩)
          refine ⟨k, rfl, hkn, ?_⟩
          refine ⟨_, ldR hl k 2 hy rfl rfl rfl, ?_⟩
          refine ⟨i, rfl, hin, ?_⟩
          refine ⟨_, ldR hl i 2 hx rfl rfl rfl, ?_⟩
          have no : Lx xs k i = false → ((bef xs i k : Nat) : Int) = ((bef xs i (k + 1) : Nat) : Int) := fun hf => by
            have := back false hf.symm
            rwa [if_neg (by simp), Nat.add_zero] at this
          by_cases heq : y.en = x.en
          · by_cases hki : k < i
            · have hL : Lx xs k i = true := hlx.2 (.inr ⟨heq, hki⟩)
              repeat (refine ⟨fun _ => ?_, fun h' => by first | (cases h'; done) | (exact absurd (of_decide_eq_false h') (by omega))⟩)
              refine ⟨((bef xs i (k + 1) : Nat) : Int), by
                have := back true hL.symm
                rw [if_pos rfl] at this
                rw [← this]
                exact wrap_i64 (by omega) (by omega), ?_⟩
              refine ⟨_, wrap_i64 (by omega) (by omega), ?_⟩
              exact backI (k + 1) (by omega) (by omega) ⟨rfl, rfl, rfl, rfl, rfl, rfl, rfl, trivial⟩ (.refl _)
            · have hL : Lx xs k i = false := by
                cases hb : Lx xs k i with
                | false => rfl
                | true => have := hlx.1 hb; omega
              repeat (first | (refine ⟨fun _ => ?_, fun h' => by first | (cases h'; done) | (exact absurd (of_decide_eq_false h') (by omega))⟩) | (refine ⟨fun h' => by first | (cases h'; done) | (exact absurd (of_decide_eq_true h') (by omega)), fun _ => ?_⟩))
              refine ⟨_, wrap_i64 (by omega) (by omega), ?_⟩
              exact backI (k + 1) (by omega) (by omega) ⟨rfl, rfl, rfl, rfl, rfl, by rw [← no hL]; rfl, rfl, trivial⟩ (.refl _)
          · have hL : Lx xs k i = false := by
              cases hb : Lx xs k i with
              | false => rfl
              | true => have := hlx.1 hb; omega
            repeat (refine ⟨fun h' => by first | (cases h'; done) | (exact absurd (of_decide_eq_true h') (by omega)), fun _ => ?_⟩)
            refine ⟨_, wrap_i64 (by omega) (by omega), ?_⟩
            exact backI (k + 1) (by omega) (by omega) ⟨rfl, rfl, rfl, rfl, rfl, by rw [← no hL]; rfl, rfl, trivial⟩ (.refl _)
      · have hkn : k = n := by have := of_decide_eq_false hge; simp at this; omega
        subst hkn
        refine ⟨fun hlt => ?_, fun hge => ?_⟩
        · have hlt : bef xs i k < p := by have := of_decide_eq_true hlt; omega
          refine ⟨i, rfl, hin, ?_⟩
          refine ⟨_, ldRA hl i hx rfl rfl rfl rfl, ?_⟩
          refine bldS (encCl ⟨0, 0, 0, 0, 0, 0, 0, 0, 0⟩) rfl rfl rfl rfl rfl (by kernel_rfl) rfl fun vb => ?_
          refine appO 1 0 x rfl rfl rfl rfl rfl (by decide) rfl rfl rfl rfl rfl rfl (by show ys.length + 1 ≤ 2 ^ 31; omega) (by decide) fun g' cap' hcap' => ?_
          refine ⟨_, wrap_i64 (by omega) (by omega), ?_⟩
          exact backI (i + 1, ys ++ [x], some ⟨g', 0, none⟩, cap') (by show k - (i + 1) < k - i; omega) ⟨by show i + 1 ≤ k; omega, by show (ys ++ [x]).length ≤ cap'; simpa using hcap', by show (ys ++ [x]).length ≤ i + 1; simp; omega, by
            show ((List.range (i + 1)).filter fun i => decide (bef xs i k < p)).map (fun i => xs[i]?) = (ys ++ [x]).map some
            rw [List.range_succ, List.filter_append, List.map_append, List.map_append, hys, List.filter_cons_of_pos (by simpa using hlt)]
            simp only [List.filter_nil, List.map_cons, List.map_nil, hx]⟩ ⟨rfl, rfl, rfl, by show _ = some (Value.slice _ (ys ++ [x]).length _); rw [List.length_append]; rfl, rfl, trivial⟩ (Ent.pick [1, 1])
        · have hge : ¬ bef xs i k < p := by have := of_decide_eq_false hge; omega
          refine ⟨_, wrap_i64 (by omega) (by omega), ?_⟩
          exact backI (i + 1, ys, ya, yc) (by show k - (i + 1) < k - i; omega) ⟨by show i + 1 ≤ k; omega, hyc, by show ys.length ≤ i + 1; omega, by
            show ((List.range (i + 1)).filter fun i => decide (bef xs i k < p)).map (fun i => xs[i]?) = ys.map some
            rw [List.range_succ, List.filter_append, List.map_append, hys, List.filter_cons_of_neg (by simpa using hge)]
            simp⟩ ⟨rfl, rfl, rfl, rfl, rfl, trivial⟩ (.refl _)
    · have hin : i = n := by have := of_decide_eq_false hge; simp at this; omega
      subst hin
      have hper : ys.Perm ((sorted xs).take p) := by
        refine taken xs ys p ?_
        rw [hn]; exact hys
      have hyl2 : ys.length = p := by rw [hper.length_eq]; simp; omega
      have hvy : Valid ys := ((hval.perm hyp.symm).take p).perm hper.symm
      have hcy : chk ys = 0 := by unfold chk; rw [if_neg (by omega), if_pos hvy]
      have hgy : ∃ o, Good ys 0 [] o := by
        rw [some_good (by omega) hvy]
        rcases hyes with h0 | ⟨o, ho⟩
        · refine ⟨[], ?_, List.Pairwise.nil, trivial⟩
          rw [List.eq_nil_of_length_eq_zero (hyl2.trans h0)]
        · obtain ⟨cs, h, h'⟩ := (some_good (by simp; omega) ((hval.perm hyp.symm).take p)).1 ⟨o, ho⟩
          exact ⟨cs, h.trans hper.symm, h'⟩
      refine callP [1] (fun w S hR hB hS hd => Check_spec ya ys.length yc ys w S (fun c hc => hr c (hyp.mem_iff.1 (List.mem_of_mem_take (hper.mem_iff.1 hc)))) (hR _ hT) ((hB _ (lget_mem (i := 0) rfl)).own (fun _ _ => rfl) (by decide)) rfl hyc (by omega) hd) ?_
      rintro _ _ ⟨e', o', a', c', rfl, hchk', rfl⟩
      have he' : e' = 0 := by
        rcases hchk' with ⟨h, _⟩ | ⟨_, h, _⟩ | ⟨_, _, _, h⟩
        · exact absurd hcy h
        · exact h
        · obtain ⟨o, ho⟩ := hgy; exact absurd ho (h o)
      subst he'
      repeat (refine ⟨fun _ => ?_, fun h => by first | (cases h; done) | (simp [hyl2] at h; done)⟩)
      refine callP [] (fun w S hR hB hS hd => awake_spec w S (hR _ hT) hd) ?_
      rintro _ _ ⟨rfl, rfl⟩
      repeat (refine ⟨fun _ => ?_, fun h => by first | (cases h; done) | (simp [hyl2] at h; done)⟩)
      exact ⟨_, .pick [], rfl, rfl⟩
end Go.Proofs.YtfebaopjfmpfkaaDoor
