/- Package linear: how many calls, by their ends, are linearizable; few calls. -/
import Derived.Test.YtfebaopjfmpfkaaDoorL11
import Derived.Test.YtfebaopjfmpfkaaDoorX19
import Derived.Shelf.SlicesE.Clone
namespace Go.Proofs.YtfebaopjfmpfkaaDoor
open Go.X
set_option maxRecDepth 10000
set_option linter.unusedVariables false
set_option linter.unusedSimpArgs false

theorem nil22 (x y : Operand) (a : Option Addr) (n c : Nat) (w : World) : (do eqGuard .eql 22 x y (.slice a n c) (.slice none 0 0); binOp .eql 22 (.slice a n c) (.slice none 0 0) : Sem Value).run Tryd.prog w = .ok (.bool a.isNone) w := by
  rw [Sem.run_bind, show (eqGuard .eql 22 x y (.slice a n c) (.slice none 0 0)).run Tryd.prog w = .ok () w from rfl, Result.andThen_ok]
  exact Lib.run_eql_slice_nil w _ _ a n c 0 0 Tryd.underlying22

theorem clone_spec (a : Option Addr) (n c : Nat) (xs : List Cl) (hl : xs.length = n) (hn : n ≤ 1000000) (ha : a = none → xs = []) (w : World) (S : FP) (hr : RO w S (roS a 9 encCl xs)) (hd : ∀ b, S b → b < w.heap.size) :
    Trip Tryd.prog 29 #[.slice a n c] w S fun v L => ∃ a' c', v = .slice a' n c' ∧ (xs ≠ [] → ∃ g, a' = some ⟨g, 0, none⟩) ∧ n ≤ c' ∧ L = [own a' c' 41 9 encCl xs] := by
  refine Trip.of_x (L := []) Tryd.func29 (by kernel_rfl) rfl Tryd.ntmps29 Tryd.results29 rfl (ctx_ok _) trivial hd ?_
  refine ⟨_, fun w _ => nil22 _ _ a n c w, ?_⟩
  cases a with
  | none =>
    have hx := ha rfl
    subst hx
    have hn0 : n = 0 := hl.symm
    subst hn0
    refine ⟨fun _ => ?_, nofun⟩
    exact ⟨_, own_nil, none, 0, rfl, fun h => absurd rfl h, Nat.le_refl _, rfl⟩
  | some ad =>
    refine ⟨nofun, fun _ => ?_⟩
    refine bld0 9 encCl rfl rfl rfl fun g => ?_
    refine appR (ys := xs) 0 rfl hr rfl hl.symm (fun _ _ => rfl) (fun _ _ => rfl) (by decide) (fun _ => rfl) rfl rfl rfl rfl rfl (by simp; omega) (by decide) fun g' c' hc => ?_
    exact ⟨_, .refl _, some ⟨g', 0, none⟩, c', by subst hl; rfl, fun _ => ⟨g', rfl⟩, by simpa [hl] using hc, rfl⟩

/-! ### a history in another order -/
theorem Clash.symm {d c : Cl} (h : Clash d c) : Clash c d := ⟨h.1.symm, h.2.2, h.2.1⟩
theorem valid_iff {xs : List Cl} : Valid xs ↔ (∀ c ∈ xs, OkCl c) ∧ xs.Pairwise fun d c => ¬ Clash d c := by
  constructor
  · intro h
    refine ⟨fun c hc => ?_, ?_⟩
    · obtain ⟨i, hi⟩ := List.mem_iff_getElem?.1 hc
      exact (h i c hi).1
    · rw [List.pairwise_iff_getElem]
      intro i j hi hj hij
      exact (h j xs[j] (by simp [hj])).2 i xs[i] hij (by simp [hi])
  · rintro ⟨h1, h2⟩ i c hi
    refine ⟨h1 c (List.mem_of_getElem? hi), fun j d hj hd => ?_⟩
    obtain ⟨p1, p2⟩ := List.getElem?_eq_some_iff.1 hi
    obtain ⟨q1, q2⟩ := List.getElem?_eq_some_iff.1 hd
    have := List.pairwise_iff_getElem.1 h2 j i q1 p1 hj
    rwa [p2, q2] at this
theorem Valid.perm {xs ys : List Cl} (hp : xs.Perm ys) (h : Valid xs) : Valid ys := by
  rw [valid_iff] at h ⊢
  exact ⟨fun c hc => h.1 c (hp.mem_iff.2 hc), (hp.pairwise_iff fun {a b} hab hba => hab hba.symm).1 h.2⟩
theorem Valid.take {xs : List Cl} (h : Valid xs) (k : Nat) : Valid (xs.take k) := by
  rw [valid_iff] at h ⊢
  exact ⟨fun c hc => h.1 c (List.mem_of_mem_take hc), h.2.sublist (List.take_sublist k xs)⟩
theorem swp_perm (xs : List Cl) (j : Nat) : (swp xs j).Perm xs := by
  unfold swp
  split
  · rename_i x y hx hy
    induction xs generalizing j with
    | nil => simp at hx
    | cons a l ih =>
      cases j with
      | zero =>
        simp at hx; subst hx
        cases l with
        | nil => simp at hy
        | cons b l => simp at hy; subst hy; simpa using List.Perm.swap a b l
      | succ j =>
        simp only [List.set_cons_succ]
        exact (ih j (by simpa using hx) (by simpa using hy)).cons a
  · exact .refl _
theorem sink_perm (a : Nat) : ∀ (j : Nat) (xs : List Cl), (sink a j xs).Perm xs
  | 0, _ => .refl _
  | j + 1, xs => by
    simp only [sink]
    split
    · split
      · exact (sink_perm a j _).trans (swp_perm xs j)
      · exact .refl _
    · exact .refl _
theorem isort_perm (a : Nat) : ∀ (n i : Nat) (xs : List Cl), (isortFrom a i n xs).Perm xs
  | 0, _, _ => .refl _
  | n + 1, i, xs => by simp only [isortFrom]; exact (isort_perm a n _ _).trans (sink_perm a i xs)
theorem HistOk.take {xs ys : List Cl} (h : HistOk xs) (hp : ys.Perm xs) (k : Nat) : HistOk (ys.take k) :=
  ⟨(h.valid.perm hp.symm).take k, by have := hp.length_eq; have := h.small; simp; omega, fun c hc => h.ra c (hp.mem_iff.1 (List.mem_of_mem_take hc))⟩

/-- What Prefix says, by the calls in the order of their ends. -/
def PrefR (xs ys : List Cl) (p : Nat) (e : Int) : Prop :=
  (chk xs ≠ 0 ∧ p = 0 ∧ e = chk xs) ∨ (chk xs = 0 ∧ e = 0 ∧ p ≤ xs.length ∧ (∀ k, p < k → k ≤ xs.length → ∀ o, ¬ Good (ys.take k) 0 [] o) ∧ (p = 0 ∨ ∃ o, Good (ys.take p) 0 [] o))
def sorted (xs : List Cl) : List Cl := isortFrom 0 1 (xs.length - 1) xs

theorem prefix_spec (la : Option Addr) (n cap : Nat) (xs : List Cl) (w : World) (S : FP) (hr : InR xs) (hT : RO w S tabC) (hl : RO w S (roS la 9 encCl xs)) (hn : xs.length = n) (hc : n ≤ cap) (hn2 : n < 20) (hla : la = none → xs = []) (hd : ∀ b, S b → b < w.heap.size) :
    Trip Tryd.prog 16 #[.slice la n cap] w S fun v L => ∃ (p : Nat) (e : Int), v = .tuple #[.int .i64 p, .int .i64 e] ∧ PrefR xs (sorted xs) p e ∧ L = [] := by
  refine Trip.of_x (L := []) Tryd.func16 (by kernel_rfl) rfl Tryd.ntmps16 Tryd.results16 rfl (ctx_ok _) trivial hd ?_
  refine callP [] (fun w S hR hB hS hd => check_spec la n cap xs w S (hR _ hl) hn hc (by omega) hd) ?_
  rintro _ _ ⟨rfl, rfl⟩
  refine ⟨fun h => ?_, fun h => ?_⟩
  · have h : chk xs ≠ 0 := of_decide_eq_true h
    exact ⟨_, .pick [], 0, chk xs, rfl, .inl ⟨h, rfl, rfl⟩, rfl⟩
  have h : chk xs = 0 := by simpa using h
  obtain ⟨h1, h2⟩ := chk_ok h
  have hx : HistOk xs := ⟨h2, h1, hr⟩
  refine callP [] (fun w S hR hB hS hd => clone_spec la n cap xs hn (by omega) hla w S (hR _ hl) hd) ?_
  rintro _ _ ⟨a, c, rfl, ha, hc', rfl⟩
  refine callP [0] (fun w S hR hB hS hd => sortStable_spec a n c xs ha hn hn2 w S hS hd) ?_
  rintro _ _ ⟨rfl, rfl⟩
  have hys : isortFrom 0 1 (n - 1) xs = sorted xs := by unfold sorted; rw [hn]
  rw [hys]
  have hyl : (sorted xs).length = n := by unfold sorted; rw [isortFrom_len, hn]
  have hyp : (sorted xs).Perm xs := isort_perm _ _ _ _
  refine loopI (σ := Nat) (fun k => [(5, .slice a n c), (6, .int .i64 k)]) (fun _ => [own a c 41 9 encCl (sorted xs)])
    (fun k => k ≤ n ∧ ∀ j, k < j → j ≤ n → ∀ o, ¬ Good ((sorted xs).take j) 0 [] o) (fun k => k) n ⟨rfl, rfl, trivial⟩ (.refl _) ⟨Nat.le_refl _, fun j h1 h2 => by omega⟩ ?_
  rintro k ⟨hk, hno⟩
  refine ⟨fun hgt => ?_, fun hle => ?_⟩
  · have hkp : 0 < k := by have := of_decide_eq_true hgt; omega
    refine ⟨_, slHi k rfl (by omega) rfl rfl rfl, ?_⟩
    refine callP [] (fun w S hR hB hS hd => first_spec a k c ((sorted xs).take k) w S (hx.take hyp k) (hR _ hT) (roS_take k ((hB _ (lget_mem (i := 0) rfl)).own (fun _ _ => rfl) (by decide))) (by simp; omega) hd) ?_
    rintro _ _ (⟨o, oa, oc, rfl, hle, rfl⟩ | ⟨oa, oc, rfl, hnone, rfl⟩)
    · refine ⟨fun _ => ?_, nofun⟩
      exact ⟨_, .pick [], k, 0, rfl, .inr ⟨h, rfl, by omega, fun j h1 h2 => hno j h1 (by omega), .inr ⟨o, hle.1⟩⟩, rfl⟩
    · refine ⟨nofun, fun _ => ?_⟩
      refine ⟨((k - 1 : Nat) : Int), by rw [show ((k : Int) - 1) = ((k - 1 : Nat) : Int) by omega]; exact wrap_i64 (by omega) (by omega), ?_⟩
      exact backI (k - 1) (by omega) ⟨by omega, fun j h1 h2 => by
        rcases Nat.eq_or_lt_of_le (show k ≤ j by omega) with rfl | h
        · exact hnone
        · exact hno j h h2⟩ ⟨rfl, rfl, trivial⟩ (.pick [1])
  · have hk0 : k = 0 := by have := of_decide_eq_false hle; omega
    subst hk0
    exact ⟨_, .pick [], 0, 0, rfl, .inr ⟨h, rfl, Nat.zero_le _, fun j h1 h2 => hno j h1 (by omega), .inl rfl⟩, rfl⟩
end Go.Proofs.YtfebaopjfmpfkaaDoor
