/- The specification's Check. -/
import Derived.Test.YtfebaopjfmpfkaaDoorR7
namespace Go.Proofs.YtfebaopjfmpfkaaDoor
open Go.X
set_option maxRecDepth 10000
set_option linter.unusedVariables false
set_option linter.unusedSimpArgs false

theorem RecIn.start {l : List Itm} {n g : Nat} (h1 : (⟨some ⟨g, 0, none⟩, 4, (List.replicate n false).flatMap encBl⟩ : Itm) ∈ l) (h2 : (⟨none, 90, []⟩ : Itm) ∈ l) : RecIn l n ⟨some ⟨g, 0, none⟩, n, n, none, 0, 0⟩ (List.replicate n false) [] :=
  ⟨h1, h2, by simp, rfl, rfl, Nat.le_refl _, .nil, Nat.zero_le _⟩

theorem nst_le {n m : Nat} (h : n ≤ m) : nst n ≤ nst m := by
  induction m with
  | zero => have : n = 0 := by omega
            subst this; exact Nat.le_refl _
  | succ m ih =>
    rcases Nat.eq_or_lt_of_le h with rfl | h
    · exact Nat.le_refl _
    · refine Nat.le_trans (ih (by omega)) ?_
      show nst m ≤ 1 + (m + 1) * nst m
      rw [Nat.add_mul]
      omega

/-- The search from the start. -/
theorem search0_spec (xs : List Cl) (hx : HistOk xs) (la : Option Addr) (n cap g : Nat) (hn : xs.length = n) (hn14 : n ≤ 14) (w : World) (S : FP) (hl : RO w S (roS la 9 encCl xs)) (hS : Sep [own (some ⟨g, 0, none⟩) n 4 1 encBl (List.replicate n false)] w S) (hd : ∀ b, S b → b < w.heap.size) :
    Trip Tryd.prog 28 #[.slice la n cap, .agg ⟨encR ⟨some ⟨g, 0, none⟩, n, n, none, 0, 0⟩⟩, .slice none 0 0, .slice none 0 0] w S fun v L => ∃ (l' : List Itm) (oa' : Option Addr) (on oc' : Nat) (ka' : Option Addr) (kn' kc' : Nat) (ok : Bool), v = .tuple #[.slice oa' on oc', .slice ka' kn' kc', .bool ok] ∧ PoolOk l' ∧ ((ok = true ∧ ∃ o, Least xs 0 [] o ∧ on = o.length ∧ (⟨oa', 3, o.flatMap encN⟩ : Itm) ∈ l') ∨ (ok = false ∧ ∀ o, ¬ Good xs 0 [] o)) ∧ L = [pool l'] := by
  let l0 : List Itm := [⟨some ⟨g, 0, none⟩, 4, (List.replicate n false).flatMap encBl⟩, ⟨none, 90, []⟩, ⟨none, 3, []⟩, ⟨none, 60, []⟩]
  have hE : Ent [own (some ⟨g, 0, none⟩) n 4 1 encBl (List.replicate n false)] [pool l0] := by
    have e1 : Ent ([] : List Chunk) [pool [⟨none, 90, []⟩, ⟨none, 3, []⟩, ⟨none, 60, []⟩]] :=
      pool_nil.trans ((own_nil (e := 60) (sz := 2) (enc := encR)).trans (pool_add.trans ((own_nil (e := 3) (sz := 1) (enc := encN)).trans (pool_add.trans ((own_nil (e := 90) (sz := 2) (enc := encP)).trans pool_add)))))
    refine Ent.trans (M := [own (some ⟨g, 0, none⟩) n 4 1 encBl (List.replicate n false), pool [⟨none, 90, []⟩, ⟨none, 3, []⟩, ⟨none, 60, []⟩]]) ?_ pool_add
    have e2 : ∀ (c : Chunk), Ent [c] ([] ++ [c]) := fun c => .refl _
    have e3 : ∀ (c d : Chunk), (∀ w, d.sat w fun _ => False) → Ent [c] [c, d] := fun c d h => (Ent.free h).trans (Ent.pick [1, 0])
    refine e3 _ _ fun w => ⟨fun b => ?_, fun it hit => ?_⟩
    · simp
    · simp only [List.mem_cons, List.not_mem_nil, or_false] at hit
      rcases hit with rfl | rfl | rfl <;> rfl
  have hS0 : Sep [pool l0] w S := by
    obtain ⟨_, S', h1, h2⟩ := hE w S w (Inv.start hS hd)
    refine h1.mono fun b hb => ?_
    obtain ⟨h3, h4⟩ := h2 b hb
    rcases h4 with h | h
    · exact h
    · omega
  have hP : PoolOk l0 := fun it hit hne => by
    simp only [l0, List.mem_cons, List.not_mem_nil, or_false] at hit
    rcases hit with rfl | rfl | rfl | rfl
    · exact ⟨g, rfl⟩
    all_goals exact absurd rfl hne
  have := search_spec xs hx la n cap hn hn14 (n - ([] : List Nat).length) ⟨some ⟨g, 0, none⟩, n, n, none, 0, 0⟩ (List.replicate n false) [] [] none 0 none 0 0 l0 w S rfl hP (.start (by simp [l0]) (by simp [l0])) (Nat.le_refl _) (by rw [dn_zero]; exact .nil xs) (by simp [l0]) ⟨[], by simp [l0], rfl, fun r hr => by cases hr⟩ (by rw [Nat.zero_add]; exact nst_le (by simp; omega)) hl hS0 hd
  refine this.mono ?_
  rintro v L ⟨l', oa', on, oc', ka', kn', kc', ok, h1, h2, h3, h4, h5, h6, h7⟩
  rw [dn_zero] at h6
  exact ⟨l', oa', on, oc', ka', kn', kc', ok, h1, h2, h6.imp (fun ⟨q1, o, q2, q3, q4⟩ => ⟨q1, o, q2, by simpa using q3, by simpa using q4⟩) id, h7⟩

theorem checkR_spec (la : Option Addr) (n cap : Nat) (xs : List Cl) (w : World) (S : FP) (hr : InR xs) (hl : RO w S (roS la 9 encCl xs)) (hn : xs.length = n) (hc : n ≤ cap) (hn2 : n ≤ 4611686018427387904) (hn14 : chk xs = 0 → n ≤ 14) (hd : ∀ b, S b → b < w.heap.size) :
    Trip Tryd.prog 15 #[.slice la n cap] w S fun v L => ∃ e o a c l', v = .tuple #[.slice a o.length c, .int .i64 e] ∧ ChkR xs e o ∧ PoolOk l' ∧ (⟨a, 3, o.flatMap encN⟩ : Itm) ∈ l' ∧ L = [pool l'] := by
  have nil : ∀ L : List Chunk, Ent L (pool [⟨none, 3, []⟩] :: L) := fun L => pool_nil.trans ((own_nil (e := 3) (sz := 1) (enc := encN)).trans pool_add)
  have nilP : PoolOk [⟨none, 3, []⟩] := fun it hit hne => by
    rw [List.mem_singleton] at hit
    subst hit; exact absurd rfl hne
  refine Trip.of_x (L := []) Tryd.func15 (by kernel_rfl) rfl Tryd.ntmps15 Tryd.results15 rfl (ctx_ok _) trivial hd ?_
  refine callP [] (fun w S hR hB hS hd => fault_spec la n cap xs w S (hR _ hl) hn hc hn2 hd) ?_
  rintro _ _ ⟨rfl, rfl⟩
  refine ⟨fun h => ?_, fun h => ?_⟩
  · have h : chk xs ≠ 0 := of_decide_eq_true h
    exact ⟨_, nil _, chk xs, [], none, 0, _, rfl, .inl ⟨h, rfl, rfl⟩, nilP, List.mem_singleton.2 rfl, rfl⟩
  have hc0 : chk xs = 0 := by simpa using h
  obtain ⟨hs64, hval⟩ := chk_ok hc0
  have hx : HistOk xs := ⟨hval, hs64, hr⟩
  have hn14 := hn14 hc0
  refine mkS (enc := encBl) n false rfl rfl rfl rfl rfl rfl rfl rfl (by decide) (by simp [maxLen]; omega) (by show 1 * n ≤ _; omega) fun g => ?_
  repeat (refine ⟨rfl, Nat.le_of_ble_eq_true rfl, ?_⟩)
  refine callP [0] (fun w S hR hB hS hd => search0_spec xs hx la n cap g hn hn14 w S (hR _ hl) hS hd) ?_
  rintro _ _ ⟨l', oa', on, oc', ka', kn', kc', ok, rfl, hP, hres, rfl⟩
  rcases hres with ⟨rfl, o, hle, rfl, hoi⟩ | ⟨rfl, hno⟩
  · refine ⟨nofun, fun _ => ?_⟩
    exact ⟨_, .pick [0], 0, o, oa', oc', l', rfl, .inr (.inl ⟨hc0, rfl, hle⟩), hP, hoi, rfl⟩
  · refine ⟨fun _ => ?_, nofun⟩
    exact ⟨_, (Ent.pick []).trans (nil _), 4, [], none, 0, _, rfl, .inr (.inr ⟨hc0, rfl, rfl, hno⟩), nilP, List.mem_singleton.2 rfl, rfl⟩
end Go.Proofs.YtfebaopjfmpfkaaDoor
