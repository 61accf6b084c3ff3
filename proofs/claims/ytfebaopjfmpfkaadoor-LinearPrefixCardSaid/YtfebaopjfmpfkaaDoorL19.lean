/- LinearParts: the walk. -/
import Derived.Test.YtfebaopjfmpfkaaDoorL17
namespace Go.Proofs.YtfebaopjfmpfkaaDoor
open Go.X
set_option maxRecDepth 10000
set_option linter.unusedVariables false
set_option linter.unusedSimpArgs false

theorem parts_spec (la : Option Addr) (n cap : Nat) (xs : List Cl) (at' : Int) (w : World) (S : FP) (hr : InR xs) (hT : RO w S tabC) (hl : RO w S (roS la 9 encCl xs)) (hn : xs.length = n)
    (hc : n ≤ cap) (hc2 : cap ≤ maxLen) (hd : ∀ b, S b → b < w.heap.size) :
    Trip Tryd.prog 8 #[.slice la n cap, .int .i64 at'] w S fun v L => v = .bool true ∧ L = [] := by
  refine Trip.of_x (L := []) Tryd.func8 (by kernel_rfl) rfl Tryd.ntmps8 Tryd.results8 rfl (ctx_ok _) trivial hd ?_
  refine ⟨fun h => ?_, fun h => ?_⟩
  · refine callP [] (fun w S hR hB hS hd => awake_spec w S (hR _ hT) hd) ?_
    rintro _ _ ⟨rfl, rfl⟩
    exact ⟨_, .pick [], rfl, rfl⟩
  have hn30 : n ≤ 30 := by have := of_decide_eq_false h; omega
  refine callP [] (fun w S hR hB hS hd => Check_at la _ cap xs w S hr (hR _ hT) (hR _ hl) hn hc (by omega) hd) ?_
  rintro _ _ ⟨e, o, a, c, rfl, hchk, hat, rfl⟩
  refine ⟨fun he => ?_, fun he => ?_⟩
  · have he : e ≠ 0 := of_decide_eq_true he
    refine ⟨fun _ => ?_, nofun⟩
    refine ⟨fun _ => ?_, fun h => absurd he (of_decide_eq_false h)⟩
    refine callP [] (fun w S hR hB hS hd => awake_spec w S (hR _ hT) hd) ?_
    rintro _ _ ⟨rfl, rfl⟩
    exact ⟨_, .pick [], rfl, rfl⟩
  have he : e = 0 := by simpa using he
  subst he
  obtain ⟨hc0, hle⟩ : chk xs = 0 ∧ Least xs 0 [] o := by
    rcases hchk with ⟨h1, h2, _⟩ | ⟨h1, _, h2⟩ | ⟨_, h2, _⟩
    · exact absurd h2.symm h1
    · exact ⟨h1, h2⟩
    · omega
  obtain ⟨hs64, hval⟩ := chk_ok hc0
  have hio := hle.1.isOrd hs64
  have hol : o.length = n := by rw [← hn]; exact hio.len
  refine ⟨fun h => absurd (of_decide_eq_true h) (by rw [hol]; simp), fun _ => ?_⟩
  have hn1 : IntKind.u64.wrap ((n : Int) + 1) = ((n + 1 : Nat) : Int) := wrap_u64 (x := n + 1) (by omega)
  obtain ⟨K, hK, hKn⟩ : ∃ K : Nat, (IntKind.u64.wrap at').tmod ((n + 1 : Nat) : Int) = (K : Int) ∧ K ≤ n := by
    obtain ⟨u, hu⟩ : ∃ u : Nat, IntKind.u64.wrap at' = (u : Int) := ⟨(IntKind.u64.wrap at').toNat, (Int.toNat_of_nonneg (by rw [IntKind.wrap_u64]; omega)).symm⟩
    have h1 : u % (n + 1) < n + 1 := Nat.mod_lt _ (Nat.succ_pos _)
    exact ⟨u % (n + 1), by rw [hu]; rfl, by omega⟩
  refine loopI (σ := Nat × List Cl × Option Addr × Nat) (fun s => [(0, .slice la n cap), (1, .int .i64 at'), (5, .slice a o.length c), (7, .slice s.2.2.1 s.2.1.length s.2.2.2), (8, .int .i64 s.1)]) (fun s => [own s.2.2.1 s.2.2.2 41 9 encCl s.2.1, own a c 3 1 encN o])
    (fun s => s.1 ≤ n ∧ s.2.1.length ≤ s.2.2.2 ∧ (o.take s.1).map (fun i => xs[i]?) = s.2.1.map some) (fun s => n - s.1) (0, [], none, 0) ⟨rfl, rfl, rfl, rfl, rfl, trivial⟩ own_nil ⟨Nat.zero_le _, Nat.le_refl _, rfl⟩ ?_
  rintro ⟨k, ys, ya, yc⟩ ⟨hk, hyc, hys⟩
  have hyc : ys.length ≤ yc := hyc
  have hk : k ≤ n := hk
  have hys : (o.take k).map (fun i => xs[i]?) = ys.map some := hys
  refine ⟨_, rfl, ?_⟩
  refine ⟨_, wrap_i64 (by rw [hol]; omega) (by rw [hol]; omega), ?_⟩
  refine ⟨((n + 1 : Nat) : Int), by rw [hol, hn1], ?_⟩
  refine ⟨by omega, _, rfl, ?_⟩
  refine ⟨(K : Int), by rw [hK]; exact wrap_i64 (by omega) (by omega), ?_⟩
  refine ⟨fun hlt => ?_, fun hge => ?_⟩
  · have hlt : k < K := by have := of_decide_eq_true hlt; omega
    obtain ⟨p, hp⟩ : ∃ p, o[k]? = some p := ⟨o[k]'(by omega), by simp [show k < o.length by omega]⟩
    have hpl : p < xs.length := hio.lt p (List.mem_of_getElem? hp)
    obtain ⟨x, hx⟩ : ∃ x, xs[p]? = some x := ⟨xs[p]'hpl, by simp [hpl]⟩
    obtain ⟨g, rfl⟩ := hat (by rintro rfl; simp at hp)
    obtain ⟨b, o1, rfl⟩ := roS_at hl (by omega)
    have hyl : ys.length = k := by have := congrArg List.length hys; simp at this; omega
    refine ⟨k, rfl, by omega, ?_⟩
    refine ⟨_, ldO 1 k 0 rfl (fun _ _ => rfl) hp rfl rfl (by show 0 + k = k * 1 + 0; omega), ?_⟩
    refine ⟨fun h => absurd (of_decide_eq_true h) (by omega), fun _ => ?_⟩
    refine ⟨k, rfl, by omega, ?_⟩
    refine ⟨_, ldO 1 k 0 rfl (fun _ _ => rfl) hp rfl rfl (by show 0 + k = k * 1 + 0; omega), ?_⟩
    refine ⟨fun h => absurd (of_decide_eq_true h) (by omega), fun _ => ?_⟩
    refine ⟨k, rfl, by omega, ?_⟩
    refine ⟨_, ldO 1 k 0 rfl (fun _ _ => rfl) hp rfl rfl (by show 0 + k = k * 1 + 0; omega), ?_⟩
    refine ⟨p, rfl, by omega, ?_⟩
    refine ⟨_, ldRA hl p hx rfl rfl rfl rfl, ?_⟩
    refine bldS (encCl ⟨0, 0, 0, 0, 0, 0, 0, 0, 0⟩) rfl rfl rfl rfl rfl (by kernel_rfl) rfl fun vb => ?_
    refine appO 1 0 x rfl rfl rfl rfl rfl (by decide) rfl rfl rfl rfl rfl rfl (by show ys.length + 1 ≤ 2 ^ 31; omega) (by decide) fun g' cap' hcap' => ?_
    refine ⟨_, wrap_i64 (by omega) (by omega), ?_⟩
    exact backI (k + 1, ys ++ [x], some ⟨g', 0, none⟩, cap') (by show n - (k + 1) < n - k; omega) ⟨by show k + 1 ≤ n; omega, by show (ys ++ [x]).length ≤ cap'; simpa using hcap', by
      show (o.take (k + 1)).map (fun i => xs[i]?) = (ys ++ [x]).map some
      rw [List.take_add_one, hp, List.map_append, List.map_append, hys]
      simp only [Option.toList_some, List.map_cons, List.map_nil, hx]⟩ ⟨rfl, rfl, rfl, by show _ = some (Value.slice _ (ys ++ [x]).length _); rw [List.length_append]; rfl, rfl, trivial⟩ (Ent.pick [1, 1])
  · have hyl : ys.length = k := by have := congrArg List.length hys; simp at this; omega
    obtain ⟨hvy, hgy⟩ := parts_good hs64 hval hle.1 hys
    have hry : InR ys := fun c hcy => by
      have : some c ∈ ys.map some := List.mem_map.2 ⟨c, hcy, rfl⟩
      rw [← hys] at this
      obtain ⟨i, _, hi⟩ := List.mem_map.1 this
      exact hr c (List.mem_of_getElem? hi)
    refine callP [] (fun w S hR hB hS hd => Check_at ya ys.length yc ys w S hry (hR _ hT) ((hB _ (lget_mem (i := 0) rfl)).own (fun _ _ => rfl) (by decide)) rfl hyc (by omega) hd) ?_
    rintro _ _ ⟨e, o', a', c', rfl, hchk', hat', rfl⟩
    have he : e = 0 := by
      rcases hchk' with ⟨h1, _⟩ | ⟨_, h, _⟩ | ⟨_, _, _, h⟩
      · exact absurd (by unfold chk; rw [if_neg (by omega), if_pos hvy]) h1
      · exact h
      · obtain ⟨o'', h'⟩ := hgy
        exact absurd h' (h o'')
    subst he
    refine ⟨fun _ => ?_, fun h => absurd h (by decide)⟩
    refine callP [] (fun w S hR hB hS hd => awake_spec w S (hR _ hT) hd) ?_
    rintro _ _ ⟨rfl, rfl⟩
    exact ⟨_, .pick [], rfl, rfl⟩
end Go.Proofs.YtfebaopjfmpfkaaDoor
