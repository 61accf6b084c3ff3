/- Package linear: what it exports. -/
import Derived.Test.YtfebaopjfmpfkaaDoorL6
namespace Go.Proofs.YtfebaopjfmpfkaaDoor
open Go.X
set_option maxRecDepth 10000
set_option linter.unusedVariables false
set_option linter.unusedSimpArgs false

open Classical in
/-- The error of a history, or 0. -/
noncomputable def chk (xs : List Cl) : Int := if xs.length > 64 then 3 else if Valid xs then 0 else 2
theorem chk_ok {xs : List Cl} (h : chk xs = 0) : xs.length ≤ 64 ∧ Valid xs := by
  unfold chk at h
  split at h
  · cases h
  · split at h
    · exact ⟨by omega, by assumption⟩
    · cases h

theorem check_spec (a : Option Addr) (n cap : Nat) (xs : List Cl) (w : World) (S : FP) (hl : RO w S (roS a 9 encCl xs)) (hn : xs.length = n) (hc : n ≤ cap) (hn2 : n ≤ 4611686018427387904) (hd : ∀ b, S b → b < w.heap.size) :
    Trip Tryd.prog 25 #[.slice a n cap] w S fun v L => v = .int .i64 (chk xs) ∧ L = [] := by
  refine Trip.of_x (L := []) Tryd.func25 (by kernel_rfl) rfl Tryd.ntmps25 Tryd.results25 rfl (ctx_ok _) trivial hd ?_
  refine ⟨fun h => ?_, fun h => ?_⟩
  · have h : (n : Int) > 64 := of_decide_eq_true h
    exact ⟨[], .pick [], by unfold chk; rw [if_pos (by omega)]; rfl, rfl⟩
  have h : ¬ (n : Int) > 64 := of_decide_eq_false h
  refine callP [] (fun w S hR hB hS hd => valid_spec a n cap xs w S (hR _ hl) hn hc hn2 hd) ?_
  rintro _ _ ⟨b, rfl, hb, rfl⟩
  refine ⟨fun hv => ?_, fun hv => ?_⟩
  · have hv : ¬ Valid xs := fun h => by rw [hb.2 h] at hv; cases hv
    exact ⟨[], .pick [], by unfold chk; rw [if_neg (by omega), if_neg hv]; rfl, rfl⟩
  · have hv : Valid xs := hb.1 (by simpa using hv)
    exact ⟨[], .pick [], by unfold chk; rw [if_neg (by omega), if_pos hv]; rfl, rfl⟩

theorem first_spec (la : Option Addr) (n cap : Nat) (xs : List Cl) (w : World) (S : FP) (hx : HistOk xs) (hT : RO w S tabC) (hl : RO w S (roS la 9 encCl xs)) (hn : xs.length = n) (hd : ∀ b, S b → b < w.heap.size) :
    Trip Tryd.prog 26 #[.slice la n cap] w S fun v L =>
      (∃ o a c, v = .tuple #[.slice a o.length c, .bool true] ∧ Least xs 0 [] o ∧ L = [own a c 3 1 encN o]) ∨
      (∃ a c, v = .tuple #[.slice a 0 c, .bool false] ∧ (∀ o, ¬ Good xs 0 [] o) ∧ L = [own a c 3 1 encN []]) := by
  refine Trip.of_x (L := []) Tryd.func26 (by kernel_rfl) rfl Tryd.ntmps26 Tryd.results26 rfl (ctx_ok _) trivial hd ?_
  intro db
  refine ⟨rfl, Nat.le_of_ble_eq_true rfl, rfl, Nat.le_of_ble_eq_true rfl, ?_⟩
  intro sb
  intro mb
  refine callE [srch sb la n cap (some db) none ([] : List Nat).length 0, mp mb encI encI ([] : List (Int × Int)), mp db encSt encB ([] : Dead), own none 0 3 1 encN ([] : List Nat)] []
    ((Ent.both [2]).trans ((mp_new db).trans ((Ent.both [1]).trans ((mp_new mb).trans (own_nil.trans (Ent.both [3, 1, 1, 0]))))))
    (fun w S hR hB hS hd => goOn_spec xs hx la n cap sb mb db hn (n - ([] : List Nat).length) 0 [] [] [] none 0 w S rfl (Done.nil xs) .nil (Nat.le_refl _) (fun D t _ h => by cases h) (hR _ hT) (hR _ hl) (Nat.le_refl _) hS hd) ?_
  rintro _ _ (⟨o, oa, oc, rfl, hle, rfl⟩ | ⟨M', dead', oa, oc, rfl, hno, _, _, _, rfl⟩)
  · refine ⟨_, ld 0 rfl rfl rfl, ?_⟩
    exact ⟨_, .pick [1], .inl ⟨o, oa, oc, rfl, hle, rfl⟩⟩
  · refine ⟨_, ld 0 rfl rfl rfl, ?_⟩
    exact ⟨_, .pick [3], .inr ⟨oa, oc, rfl, hno, rfl⟩⟩

/-- What Check says. -/
def ChkR (xs : List Cl) (e : Int) (o : List Nat) : Prop :=
  (chk xs ≠ 0 ∧ e = chk xs ∧ o = []) ∨ (chk xs = 0 ∧ e = 0 ∧ Least xs 0 [] o) ∨ (chk xs = 0 ∧ e = 4 ∧ o = [] ∧ ∀ o, ¬ Good xs 0 [] o)
def InR (xs : List Cl) : Prop := ∀ c ∈ xs, c.ra ≤ 9223372036854775807

theorem Check_spec (la : Option Addr) (n cap : Nat) (xs : List Cl) (w : World) (S : FP) (hr : InR xs) (hT : RO w S tabC) (hl : RO w S (roS la 9 encCl xs)) (hn : xs.length = n) (hc : n ≤ cap) (hn2 : n ≤ 4611686018427387904) (hd : ∀ b, S b → b < w.heap.size) :
    Trip Tryd.prog 14 #[.slice la n cap] w S fun v L => ∃ e o a c, v = .tuple #[.slice a o.length c, .int .i64 e] ∧ ChkR xs e o ∧ L = [own a c 3 1 encN o] := by
  refine Trip.of_x (L := []) Tryd.func14 (by kernel_rfl) rfl Tryd.ntmps14 Tryd.results14 rfl (ctx_ok _) trivial hd ?_
  refine callP [] (fun w S hR hB hS hd => check_spec la n cap xs w S (hR _ hl) hn hc hn2 hd) ?_
  rintro _ _ ⟨rfl, rfl⟩
  refine ⟨fun h => ?_, fun h => ?_⟩
  · have h : chk xs ≠ 0 := of_decide_eq_true h
    exact ⟨_, own_nil, chk xs, [], none, 0, rfl, .inl ⟨h, rfl, rfl⟩, rfl⟩
  have h : chk xs = 0 := by simpa using h
  obtain ⟨h1, h2⟩ := chk_ok h
  refine callP [] (fun w S hR hB hS hd => first_spec la n cap xs w S ⟨h2, h1, hr⟩ (hR _ hT) (hR _ hl) hn hd) ?_
  rintro _ _ (⟨o, oa, oc, rfl, hle, rfl⟩ | ⟨oa, oc, rfl, hno, rfl⟩)
  · refine ⟨fun _ => ?_, nofun⟩
    exact ⟨_, .pick [0], 0, o, oa, oc, rfl, .inr (.inl ⟨h, rfl, hle⟩), rfl⟩
  · refine ⟨nofun, fun _ => ?_⟩
    exact ⟨_, own_nil.trans (Ent.pick [0]), 4, [], none, 0, rfl, .inr (.inr ⟨h, rfl, rfl, hno⟩), rfl⟩

/-- An order of all calls, written in whole numbers. -/
structure IsOrd (xs : List Cl) (ord : List Int) (o : List Nat) : Prop where
  eq : ord = o.map fun i : Nat => (i : Int)
  len : o.length = xs.length
  nodup : o.Nodup
  lt : ∀ i ∈ o, i < xs.length
def RightR (xs : List Cl) (ord : List Int) (b : Bool) (e : Int) : Prop :=
  (chk xs ≠ 0 ∧ b = false ∧ e = chk xs) ∨ (chk xs = 0 ∧ (¬ ∃ o, IsOrd xs ord o) ∧ b = false ∧ e = 1) ∨ (chk xs = 0 ∧ ∃ o, IsOrd xs ord o ∧ e = 0 ∧ (b = true ↔ Good xs 0 [] o))

theorem Done.one {xs : List Cl} {D : Nat} {pre : List Nat} {k : Nat} {x : Int} {ord : List Int} (h : Done xs D pre) (hp : ord.take k = pre.map fun i : Nat => (i : Int)) (hx : ord[k]? = some x) {o : List Nat} (ho : IsOrd xs ord o) : ∃ i : Nat, x = i ∧ i < xs.length ∧ i ∉ pre := by
  have h1 := ho.eq
  rw [h1] at hx hp
  rw [List.getElem?_map] at hx
  obtain ⟨i, hi, rfl⟩ := Option.map_eq_some_iff.1 hx
  refine ⟨i, rfl, ho.lt i (List.mem_of_getElem? hi), fun hm => ?_⟩
  have hpre : pre = o.take k := by
    have : (o.take k).map (fun i : Nat => (i : Int)) = pre.map fun i : Nat => (i : Int) := by rw [List.map_take]; exact hp
    have inj : ∀ (a b : List Nat), a.map (fun i : Nat => (i : Int)) = b.map (fun i : Nat => (i : Int)) → a = b := by
      intro a
      induction a with
      | nil => intro b h; cases b with | nil => rfl | cons => simp at h
      | cons x a ih =>
        intro b h
        cases b with
        | nil => simp at h
        | cons y b =>
          simp only [List.map_cons, List.cons.injEq] at h
          rw [ih b h.2, show x = y by omega]
    exact (inj _ _ this).symm
  rw [hpre] at hm
  obtain ⟨j, hj⟩ := List.mem_iff_getElem?.1 hm
  rw [List.getElem?_take] at hj
  split at hj
  · rename_i hjk
    obtain ⟨hk1, hk2⟩ := List.getElem?_eq_some_iff.1 hi
    obtain ⟨hj1, hj2⟩ := List.getElem?_eq_some_iff.1 hj
    have := (List.getElem_inj ho.nodup).1 (hj2.trans hk2.symm)
    omega
  · cases hj

theorem Right_spec (la oa : Option Addr) (n cap m oc : Nat) (xs : List Cl) (ord : List Int) (w : World) (S : FP) (hr : InR xs) (hl : RO w S (roS la 9 encCl xs)) (ho : RO w S (roS oa 1 encZ1 ord)) (hn : xs.length = n) (hm : ord.length = m)
    (hc : n ≤ cap) (hn2 : n ≤ 4611686018427387904) (hm2 : m ≤ 4611686018427387904) (hd : ∀ b, S b → b < w.heap.size) :
    Trip Tryd.prog 19 #[.slice la n cap, .slice oa m oc] w S fun v L => ∃ b e, v = .tuple #[.bool b, .int .i64 e] ∧ RightR xs ord b e ∧ L = [] := by
  refine Trip.of_x (L := []) Tryd.func19 (by kernel_rfl) rfl Tryd.ntmps19 Tryd.results19 rfl (ctx_ok _) trivial hd ?_
  refine callP [] (fun w S hR hB hS hd => check_spec la n cap xs w S (hR _ hl) hn hc hn2 hd) ?_
  rintro _ _ ⟨rfl, rfl⟩
  refine ⟨fun h => ?_, fun h => ?_⟩
  · have h : chk xs ≠ 0 := of_decide_eq_true h
    exact ⟨_, .pick [], false, chk xs, rfl, .inl ⟨h, rfl, rfl⟩, rfl⟩
  have h : chk xs = 0 := by simpa using h
  obtain ⟨h1, h2⟩ := chk_ok h
  have hx : HistOk xs := ⟨h2, h1, hr⟩
  refine ⟨fun hmn => ?_, fun hmn => ?_⟩
  · have hmn : (m : Int) ≠ n := of_decide_eq_true hmn
    exact ⟨_, .pick [], false, 1, rfl, .inr (.inl ⟨h, fun ⟨o, ho⟩ => hmn (by rw [← hm, ho.eq, List.length_map, ho.len, hn]), rfl, rfl⟩), rfl⟩
  have hmn : m = n := by have : (m : Int) = n := by simpa using hmn
                         omega
  refine loopI (σ := Nat × List Nat × Nat) (fun s => [(0, .slice la n cap), (1, .slice oa m oc), (7, .int .u64 s.2.2), (25, .slice oa m oc), (26, .int .i64 m), (27, .int .i64 s.1)]) (fun _ => [])
    (fun s => s.1 ≤ m ∧ ord.take s.1 = s.2.1.map (fun i : Nat => (i : Int)) ∧ Done xs s.2.2 s.2.1) (fun s => m - s.1) (0, [], 0) ⟨rfl, rfl, rfl, rfl, rfl, rfl, trivial⟩ (.refl _) ⟨Nat.zero_le _, rfl, Done.nil xs⟩ ?_
  rintro ⟨k, pre, D⟩ ⟨hk', hpre', hD'⟩
  have hk : k ≤ m := hk'
  have hpre : ord.take k = pre.map fun i : Nat => (i : Int) := hpre'
  have hD : Done xs D pre := hD'
  refine ⟨fun hlt => ?_, fun hge => ?_⟩
  · have hkm : k < m := by have := of_decide_eq_true hlt; simp at this; omega
    obtain ⟨x, hxk⟩ : ∃ x, ord[k]? = some x := ⟨ord[k]'(by omega), by simp [show k < ord.length by omega]⟩
    obtain ⟨b, o, rfl⟩ := roS_at ho (by omega)
    refine ⟨k, rfl, hkm, ?_⟩
    refine ⟨_, ldR ho k 0 hxk rfl rfl (by show o + k = o + (k * 1 + 0); omega), ?_⟩
    have bad : (∀ i : Nat, x = i → i < xs.length → i ∈ pre) → RightR xs ord false 1 := fun hb => .inr (.inl ⟨h, fun ⟨oo, hoo⟩ => by
      obtain ⟨i, h1, h2, h3⟩ := hD.one hpre hxk hoo
      exact h3 (hb i h1 h2), rfl, rfl⟩)
    refine ⟨fun h0 => ?_, fun h0 => ?_⟩
    · have h0 : x < 0 := of_decide_eq_true h0
      repeat (refine ⟨fun _ => ?_, nofun⟩)
      exact ⟨_, .pick [], false, 1, rfl, bad fun i hi => by omega, rfl⟩
    have h0 : ¬ x < 0 := of_decide_eq_false h0
    refine ⟨fun h3 => ?_, fun h3 => ?_⟩
    · have h3 : x ≥ n := of_decide_eq_true h3
      repeat (refine ⟨fun _ => ?_, nofun⟩)
      exact ⟨_, .pick [], false, 1, rfl, bad fun i hi _ => by omega, rfl⟩
    have h3 : ¬ x ≥ n := of_decide_eq_false h3
    obtain ⟨i, rfl⟩ : ∃ i : Nat, x = i := ⟨x.toNat, by omega⟩
    have hin : i < xs.length := by omega
    refine callP [] (fun w S hR hB hS hd => has_spec D i w S (by omega) hd) ?_
    rintro _ _ ⟨rfl, rfl⟩
    refine ⟨fun hh => ?_, fun hh => ?_⟩
    · rw [hasB_nat hD.lt (by omega)] at hh
      exact ⟨_, .pick [], false, 1, rfl, bad fun j hj hjn => by
        have : j = i := by omega
        subst this
        exact (hD.mem j).2 ⟨hjn, hh⟩, rfl⟩
    rw [hasB_nat hD.lt (by omega)] at hh
    refine ⟨by omega, _, rfl, ?_⟩
    refine ⟨((D ||| 2 ^ i : Nat) : Int), (setB_nat hD.lt (by omega)).symm, ?_⟩
    refine ⟨_, wrap_i64 (by omega) (by omega), ?_⟩
    exact backI (k + 1, pre ++ [i], D ||| 2 ^ i) (by show m - (k + 1) < m - k; omega) ⟨hkm, by
      show ord.take (k + 1) = _
      rw [List.take_add_one, hpre, hxk]; simp, hD.push hx.small hin hh⟩ ⟨rfl, rfl, rfl, rfl, rfl, rfl, trivial⟩ (.pick [])
  have hkm : k = m := by have := of_decide_eq_false hge; simp at this; omega
  subst hkm
  have hord : ord = pre.map fun i : Nat => (i : Int) := by rw [← hpre, ← hm, List.take_length]
  have hpl : pre.length = xs.length := by have := congrArg List.length hord; simp at this; omega
  have hio : IsOrd xs ord pre := ⟨hord, hpl, hD.nodup, fun i hi => ((hD.mem i).1 hi).1⟩
  clear hD hpre hD' hpre'
  refine ⟨rfl, Nat.le_of_ble_eq_true rfl, ?_⟩
  intro sb
  intro mb
  refine loopI (σ := Nat × Nat × List (Int × Int)) (fun s => [(0, .slice la n cap), (1, .slice oa k oc), (10, .pointer (some ⟨sb, 0, none⟩)), (11, .map (some mb)), (12, .int .u64 s.2.1), (53, .slice oa k oc), (54, .int .i64 k), (55, .int .i64 s.1)])
    (fun s => [mp mb encI encI s.2.2, pt sb [.slice la n cap, .map none, .slice none 0 0] 70])
    (fun s => s.1 ≤ k ∧ Done xs s.2.1 (pre.take s.1) ∧ LiveOk s.2.2 ∧ ∀ r, Runs xs 0 [] (pre.take s.1 ++ r) ↔ Runs xs s.2.1 s.2.2 r) (fun s => k - s.1) (0, 0, []) ⟨rfl, rfl, rfl, rfl, rfl, rfl, rfl, rfl, trivial⟩ (mp_new mb) ⟨Nat.zero_le _, Done.nil xs, .nil, fun r => Iff.rfl⟩ ?_
  rintro ⟨j, D, M⟩ ⟨hj, hD, hL, hrun⟩
  have hj : j ≤ k := hj
  have hD : Done xs D (pre.take j) := hD
  have hL : LiveOk M := hL
  have hrun : ∀ r, Runs xs 0 [] (pre.take j ++ r) ↔ Runs xs D M r := hrun
  have done : ∀ i r, pre.drop j = i :: r → pre.take (j + 1) = pre.take j ++ [i] := fun i r he => by
    have hi : pre[j]? = some i := by
      have := congrArg (·[0]?) he
      simpa using this
    rw [List.take_add_one, hi]; rfl
  refine ⟨fun hlt => ?_, fun hge => ?_⟩
  · have hjk : j < k := by have := of_decide_eq_true hlt; simp at this; omega
    obtain ⟨i, hi⟩ : ∃ i, pre[j]? = some i := ⟨pre[j]'(by omega), by simp [show j < pre.length by omega]⟩
    have hin : i < xs.length := hio.lt i (List.mem_of_getElem? hi)
    obtain ⟨c, hcx⟩ : ∃ c, xs[i]? = some c := ⟨xs[i], by simp [hin]⟩
    have hco := hx.cl hcx
    have hxj : ord[j]? = some (i : Int) := by rw [hord, List.getElem?_map, hi]; rfl
    have hdrop : pre = pre.take j ++ i :: pre.drop (j + 1) := by
      obtain ⟨hj1, hj2⟩ := List.getElem?_eq_some_iff.1 hi
      rw [← hj2, ← List.drop_eq_getElem_cons hj1, List.take_append_drop]
    have bad : ¬ Runs xs D M (i :: pre.drop (j + 1)) → RightR xs ord false 0 := fun hb => .inr (.inr ⟨h, pre, hio, rfl, ⟨nofun, fun hg => by
      exfalso
      have := hg.1
      rw [hdrop] at this
      exact hb ((hrun _).1 this)⟩⟩)
    obtain ⟨b, o, rfl⟩ := roS_at ho (by omega)
    obtain ⟨b2, o2, rfl⟩ := roS_at hl (by omega)
    refine ⟨j, rfl, hjk, ?_⟩
    refine ⟨_, ldR ho j 0 hxj rfl rfl (by show o + j = o + (j * 1 + 0); omega), ?_⟩
    refine callP [] (fun w S hR hB _ hd => can_spec sb b2 o2 n cap _ xs (D : Int) i c w S (hB _ (lget_mem (i := 1) rfl)) (hR _ hl) hn (by omega) hcx hd) ?_
    rintro _ _ ⟨rfl, rfl⟩
    refine ⟨fun hcan => ?_, fun hcan => ?_⟩
    · have hcan : canB xs D i c.bg = false := by simpa using hcan
      repeat (refine ⟨fun _ => ?_, nofun⟩)
      exact ⟨_, .pick [], false, 0, rfl, (bad fun ⟨c', h1, h2, _⟩ => by
        rw [hcx] at h1; cases h1
        rw [hcan] at h2; cases h2), rfl⟩
    have hcan : canB xs D i c.bg = true := by simpa using hcan
    refine ⟨i, rfl, by omega, ?_⟩
    refine ⟨_, ldRA hl i hcx rfl rfl rfl rfl, ?_⟩
    refine callP [0] (fun w S hR hB hS hd => accept_spec mb M c w S hS hd (fun hk => by have := (hco.ok.mal hk).2.2.1; omega) hco.ra hL.key) ?_
    rintro _ _ ⟨rfl, rfl⟩
    refine ⟨fun hacc => ?_, fun hacc => ?_⟩
    · have hacc : (accF M c).1 = false := by simpa using hacc
      exact ⟨_, .pick [], false, 0, rfl, (bad fun ⟨c', h1, _, h3, _⟩ => by
        rw [hcx] at h1; cases h1
        rw [hacc] at h3; cases h3), rfl⟩
    have hacc : (accF M c).1 = true := by simpa using hacc
    have htk : pre.take (j + 1) = pre.take j ++ [i] := by rw [List.take_add_one, hi]; rfl
    refine ⟨by omega, _, rfl, ?_⟩
    refine ⟨((D ||| 2 ^ i : Nat) : Int), (setB_nat hD.lt (by omega)).symm, ?_⟩
    refine ⟨_, wrap_i64 (by omega) (by omega), ?_⟩
    exact backI (j + 1, D ||| 2 ^ i, (accF M c).2) (by show k - (j + 1) < k - j; omega) ⟨hjk, by
      show Done xs _ (pre.take (j + 1))
      rw [htk]; exact hD.push hx.small hin (canB_has hD.lt (by omega) hcan), accF_ok hL c hco, fun r => by
      show Runs xs 0 [] (pre.take (j + 1) ++ r) ↔ _
      rw [htk, List.append_assoc]
      refine (hrun (i :: r)).trans ⟨?_, fun h => ⟨c, hcx, hcan, hacc, h⟩⟩
      rintro ⟨c', h1, _, _, h4⟩
      rw [hcx] at h1; cases h1
      exact h4⟩ ⟨rfl, rfl, rfl, rfl, rfl, rfl, rfl, rfl, trivial⟩ (.refl _)
  · have hjk : j = k := by have := of_decide_eq_false hge; simp at this; omega
    subst hjk
    have htk : pre.take j = pre := List.take_of_length_le (by omega)
    rw [htk] at hD hrun
    refine ⟨_, .pick [], true, 0, rfl, .inr (.inr ⟨h, pre, hio, rfl, ⟨fun _ => ⟨by have := (hrun []).2 trivial; simpa using this, ?_⟩, fun _ => rfl⟩⟩), rfl⟩
    intro i hi
    have := (hD.mem i).2 ⟨hi, ?_⟩
    · exact .inr this
    · rcases hD.full hpl i hi with h | h
      · exact h
      · cases h
end Go.Proofs.YtfebaopjfmpfkaaDoor
