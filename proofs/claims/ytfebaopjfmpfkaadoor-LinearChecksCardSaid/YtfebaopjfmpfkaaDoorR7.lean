/- The specification's search finds the first right order, if there is one. -/
import Derived.Test.YtfebaopjfmpfkaaDoorR6
namespace Go.Proofs.YtfebaopjfmpfkaaDoor
open Go.X
set_option maxRecDepth 10000
set_option linter.unusedVariables false
set_option linter.unusedSimpArgs false

/-- The most states that a search with so many calls left may tell dead. -/
def nst : Nat → Nat
  | 0 => 0
  | r + 1 => 1 + (r + 1) * nst r
theorem nst14 : nst 14 ≤ 300000000000 := by decide
/-- How many of the first i calls are not done. -/
def cnt (D i : Nat) : Nat := ((List.range i).filter fun j => !D.testBit j).length
theorem cnt_succ (D i : Nat) : cnt D (i + 1) = cnt D i + if D.testBit i then 0 else 1 := by
  unfold cnt
  rw [List.range_succ, List.filter_append, List.length_append]
  cases h : D.testBit i <;> simp [h]
theorem cnt_done {xs : List Cl} {D : Nat} {out : List Nat} (h : Done xs D out) : out.length + cnt D xs.length = xs.length := by
  have h1 : out.Perm ((List.range xs.length).filter fun j => D.testBit j) := (List.perm_ext_iff_of_nodup h.nodup (List.nodup_range.filter _)).2 fun i => by
    rw [h.mem, List.mem_filter, List.mem_range]
  have key : ∀ (l : List Nat) (p : Nat → Bool), (l.filter p).length + (l.filter fun j => !p j).length = l.length := by
    intro l p
    induction l with
    | nil => rfl
    | cons a l ih => cases hp : p a <;> simp [List.filter_cons, hp] <;> omega
  have := key (List.range xs.length) (fun j => D.testBit j)
  rw [h1.length_eq]
  unfold cnt
  simpa using this
theorem cnt_le {D i n : Nat} (h : i ≤ n) : cnt D i ≤ cnt D n := by
  induction n with
  | zero => have : i = 0 := by omega
            subst this; exact Nat.le_refl _
  | succ n ih =>
    rcases Nat.eq_or_lt_of_le h with rfl | h
    · exact Nat.le_refl _
    · rw [cnt_succ]; exact Nat.le_trans (ih (by omega)) (Nat.le_add_right _ _)

def PoolOk (l : List Itm) : Prop := ∀ it ∈ l, it.cells ≠ [] → ∃ g, it.a = some ⟨g, 0, none⟩
theorem PoolOk.cons {l : List Itm} (h : PoolOk l) {it : Itm} (hi : it.cells ≠ [] → ∃ g, it.a = some ⟨g, 0, none⟩) : PoolOk (it :: l) := fun x hx => by
  rcases List.mem_cons.1 hx with rfl | hx
  · exact hi
  · exact h x hx

theorem acceptP_spec (l : List Itm) (hP : PoolOk l) (pa : Option Addr) (n cap : Nat) (ys : List (Int × Int)) (c : Cl) (hL : LiveOk ys) (hc : OkCl c) (hra : c.ra ≤ 9223372036854775807) (hm : (⟨pa, 90, ys.flatMap encP⟩ : Itm) ∈ l) (hn : ys.length = n) (hcap : n ≤ cap) (hn2 : n ≤ 1000000) (w : World) (S : FP) (hS : Sep [pool l] w S) (hd : ∀ b, S b → b < w.heap.size) :
    Trip Tryd.prog 37 #[.slice pa n cap, .agg ⟨encCl c⟩] w S fun v L => ∃ (zs : List (Int × Int)) (a' : Option Addr) (c' : Nat) (ok : Bool) (l' : List Itm), v = .tuple #[.slice a' zs.length c', .bool ok] ∧ AccR ys c zs ok ∧ zs.length ≤ c' ∧ PoolOk l' ∧ (∀ it ∈ l, it ∈ l') ∧ (⟨a', 90, zs.flatMap encP⟩ : Itm) ∈ l' ∧ L = [pool l'] := by
  have hro : RO w (fun _ => False) (roS pa 2 encP ys) := (RO.of_sep hS (List.mem_singleton.2 rfl)).pool (it := ⟨pa, 90, ys.flatMap encP⟩) hm rfl (fun _ _ => rfl) (by decide)
  refine (((acceptR_at pa n cap ys c hL hc hra w (fun _ => False) hro hn hcap hn2 (fun _ h => h.elim)).fact (Post' := fun v L => ∃ (zs : List (Int × Int)) (a' : Option Addr) (c' : Nat) (ok : Bool), v = .tuple #[.slice a' zs.length c', .bool ok] ∧ AccR ys c zs ok ∧ zs.length ≤ c' ∧ ((a' = pa ∧ c' = cap ∧ zs = ys ∧ L = []) ∨ (L = [own a' c' 90 2 encP zs] ∧ (zs ≠ [] → ∃ g, a' = some ⟨g, 0, none⟩)))) ?_).frame hS hd).ent ?_
  · rintro v L w' ⟨zs, a', c', ok, h1, h2, h3, h4⟩ hI
    refine ⟨zs, a', c', ok, h1, h2, h3, h4.imp id fun h => ⟨h, fun hne => ?_⟩⟩
    subst h
    exact hI.ownAt (List.mem_singleton.2 rfl) hne
  · rintro v L ⟨L0, ⟨zs, a', c', ok, h1, h2, h3, h4⟩, rfl⟩
    rcases h4 with ⟨rfl, rfl, rfl, rfl⟩ | ⟨rfl, h5⟩
    · exact ⟨_, ⟨zs, a', c', ok, l, h1, h2, h3, hP, fun _ h => h, hm, rfl⟩, .refl _⟩
    · exact ⟨_, ⟨zs, a', c', ok, ⟨a', 90, zs.flatMap encP⟩ :: l, h1, h2, h3, hP.cons fun hne => h5 (by rintro rfl; exact hne rfl), fun _ h => List.mem_cons.2 (.inr h), List.mem_cons.2 (.inl rfl), rfl⟩, pool_add⟩

/-- A state that lies in the pool. -/
structure RecIn (l : List Itm) (n : Nat) (r : StR) (ds : List Bool) (ys : List (Int × Int)) : Prop where
  d : (⟨r.da, 4, ds.flatMap encBl⟩ : Itm) ∈ l
  p : (⟨r.pa, 90, ys.flatMap encP⟩ : Itm) ∈ l
  dl : ds.length = n
  rd : r.dl = n
  pl : ys.length = r.pl
  pc : r.pl ≤ r.pc
  ok : LiveOk ys
  le : ys.length ≤ n
theorem RecIn.mono {l l' : List Itm} {n : Nat} {r : StR} {ds : List Bool} {ys : List (Int × Int)} (h : RecIn l n r ds ys) (hs : ∀ it ∈ l, it ∈ l') : RecIn l' n r ds ys := ⟨hs _ h.d, hs _ h.p, h.dl, h.rd, h.pl, h.pc, h.ok, h.le⟩
/-- The dead states: from none of them there is a right order. -/
def DeadIn (xs : List Cl) (l : List Itm) (n : Nat) (ka : Option Addr) (kn : Nat) : Prop :=
  ∃ rs : List StR, (⟨ka, 60, rs.flatMap encR⟩ : Itm) ∈ l ∧ rs.length = kn ∧ ∀ r ∈ rs, ∃ ds ys, RecIn l n r ds ys ∧ ∀ o, ¬ Good xs (dn ds) ys o
theorem DeadIn.mono {xs : List Cl} {l l' : List Itm} {n : Nat} {ka : Option Addr} {kn : Nat} (h : DeadIn xs l n ka kn) (hs : ∀ it ∈ l, it ∈ l') : DeadIn xs l' n ka kn :=
  let ⟨rs, h1, h2, h3⟩ := h; ⟨rs, hs _ h1, h2, fun r hr => let ⟨ds, ys, k1, k2⟩ := h3 r hr; ⟨ds, ys, k1.mono hs, k2⟩⟩

theorem same_at (a b : StR) (n : Nat) (ds ds' : List Bool) (ys ys' : List (Int × Int)) (l : List Itm) (w : World) (S : FP) (hp : RO w S (pool l)) (ha : RecIn l n a ds ys) (hb : RecIn l n b ds' ys') (hn : n ≤ 1000000) (hd : ∀ b, S b → b < w.heap.size) :
    Trip Tryd.prog 43 #[.agg ⟨encR a⟩, .agg ⟨encR b⟩] w S fun v L => v = .bool (decide (ds = ds' ∧ ys = ys')) ∧ L = [] :=
  (same_spec a b n ds ds' ys ys' w S (hp.pool (it := ⟨a.da, 4, ds.flatMap encBl⟩) ha.d rfl (fun _ _ => rfl) (by decide)) (hp.pool (it := ⟨a.pa, 90, ys.flatMap encP⟩) ha.p rfl (fun _ _ => rfl) (by decide)) (hp.pool (it := ⟨b.da, 4, ds'.flatMap encBl⟩) hb.d rfl (fun _ _ => rfl) (by decide)) (hp.pool (it := ⟨b.pa, 90, ys'.flatMap encP⟩) hb.p rfl (fun _ _ => rfl) (by decide))
    ha.dl ha.rd hb.dl hb.rd ha.pl hb.pl hn (by have := ha.le; have := ha.pl; omega) (by have := hb.le; have := hb.pl; omega) hd).mono fun v L ⟨r, h1, h2, h3⟩ => ⟨by
      rw [h1]
      congr 1
      cases r with
      | true => exact (decide_eq_true (h2.1 rfl)).symm
      | false => exact (decide_eq_false fun h => by have := h2.2 h; cases this).symm, h3⟩

theorem flat_ne {α : Type} {enc : α → List Value} {xs : List α} (h : 0 < xs.length) (he : ∀ x, enc x ≠ []) : xs.flatMap enc ≠ [] := by
  cases xs with
  | nil => simp at h
  | cons x xs =>
    intro h0
    rw [List.flatMap_cons, List.append_eq_nil_iff] at h0
    exact he x h0.1

def SearchPost (xs : List Cl) (n : Nat) (ds : List Bool) (ys : List (Int × Int)) (out : List Nat) (kn : Nat) (l : List Itm) (v : Value) (L : List Chunk) : Prop :=
  ∃ (l' : List Itm) (oa' : Option Addr) (on oc' : Nat) (ka' : Option Addr) (kn' kc' : Nat) (ok : Bool), v = .tuple #[.slice oa' on oc', .slice ka' kn' kc', .bool ok] ∧ PoolOk l' ∧ (∀ it ∈ l, it ∈ l') ∧ DeadIn xs l' n ka' kn' ∧ kn' ≤ kn + nst (n - out.length) ∧
    ((ok = true ∧ ∃ o, Least xs (dn ds) ys o ∧ on = (out ++ o).length ∧ (⟨oa', 3, (out ++ o).flatMap encN⟩ : Itm) ∈ l') ∨ (ok = false ∧ ∀ o, ¬ Good xs (dn ds) ys o)) ∧ L = [pool l']

theorem search_spec (xs : List Cl) (hx : HistOk xs) (la : Option Addr) (n cap : Nat) (hn : xs.length = n) (hn14 : n ≤ 14) : ∀ (μ : Nat) (r : StR) (ds : List Bool) (ys : List (Int × Int)) (out : List Nat) (oa : Option Addr) (oc : Nat) (ka : Option Addr) (kn kc : Nat) (l : List Itm) (w : World) (S : FP),
    μ = n - out.length → PoolOk l → RecIn l n r ds ys → ys.length ≤ out.length → Done xs (dn ds) out → (⟨oa, 3, out.flatMap encN⟩ : Itm) ∈ l → DeadIn xs l n ka kn → kn + nst (n - out.length) ≤ nst 14 → RO w S (roS la 9 encCl xs) → Sep [pool l] w S → (∀ b, S b → b < w.heap.size) →
    Trip Tryd.prog 28 #[.slice la n cap, .agg ⟨encR r⟩, .slice oa out.length oc, .slice ka kn kc] w S (SearchPost xs n ds ys out kn l) := by
  intro μ
  induction μ using Nat.strongRecOn with
  | _ μ ih =>
  intro r ds ys out oa oc ka kn kc l w S hμ hP hrec hyo hD hoi hdead hB hl hS hd
  have hol : out.length ≤ n := by have := hD.le; omega
  have h14 := nst14
  refine Trip.of_x (L := [pool l]) Tryd.func28 (by kernel_rfl) rfl Tryd.ntmps28 Tryd.results28 rfl (ctx_ok _) hS hd ?_
  intro sb
  refine ⟨fun h => ?_, fun h => ?_⟩
  · have h : out.length = n := by
      have : (out.length : Int) = n := of_decide_eq_true h
      omega
    refine ⟨_, .pick [1], l, oa, out.length, oc, ka, kn, kc, true, rfl, hP, fun _ h => h, hdead, Nat.le_add_right _ _, .inl ⟨rfl, [], ?_, by simp, by simpa using hoi⟩, rfl⟩
    exact ⟨⟨trivial, hD.full (by omega)⟩, fun o' _ => trivial⟩
  have hlt : out.length < n := by
    have : ¬ (out.length : Int) = n := of_decide_eq_false h
    omega
  have hnf : ¬ Full xs (dn ds) [] := hD.notFull (by omega)
  obtain ⟨rs, hrs1, hrs2, hrs3⟩ := id hdead
  refine loopI (σ := Nat) (fun i => [(0, .slice la n cap), (2, .slice oa out.length oc), (3, .slice ka kn kc), (5, .pointer (some ⟨sb, 0, none⟩)), (11, .int .i64 i)]) (fun _ => [pt sb (encR r) 60, pool l]) (fun i => i ≤ kn) (fun i => kn - i) 0
    ⟨rfl, rfl, rfl, rfl, rfl, trivial⟩ (.refl _) (Nat.zero_le _) ?_
  rintro i hi
  refine ⟨fun hlt' => ?_, fun hge => ?_⟩
  · have hik : i < kn := by have := of_decide_eq_true hlt'; omega
    obtain ⟨q, hq⟩ : ∃ q, rs[i]? = some q := ⟨rs[i]'(by omega), by simp [show i < rs.length by omega]⟩
    obtain ⟨ds', ys', k1, k2⟩ := hrs3 q (List.mem_of_getElem? hq)
    obtain ⟨g, hg⟩ := hP _ hrs1 (flat_ne (by omega) (by intro x; simp [encR]))
    simp only at hg
    subst hg
    refine Or.inl ⟨by kernel_rfl, ?_⟩
    refine ⟨i, rfl, hik, ?_⟩
    refine ⟨_, ldLA (sz := 2) (enc := encR) (xs := rs) (fun w hw => lie_pool 1 rfl hrs1 rfl (fun _ _ => rfl) (by decide) hw) i rfl hq rfl rfl rfl (by show 0 + i * 2 = i * 2; omega), ?_⟩
    refine ⟨_, ldA 0 rfl rfl rfl rfl rfl, ?_⟩
    refine callQ [] (fun w S hR hB' hS hd => same_at q r n ds' ds ys' ys l w S (hB' _ (lget_mem (i := 1) rfl)) k1 hrec (by omega) hd) ?_
    refine ⟨fun h => ?_, fun h => ?_⟩
    · obtain ⟨rfl, rfl⟩ : ds' = ds ∧ ys' = ys := of_decide_eq_true h
      exact ⟨_, .pick [1], l, none, 0, 0, _, kn, kc, false, rfl, hP, fun _ h => h, hdead, Nat.le_add_right _ _, .inr ⟨rfl, k2⟩, rfl⟩
    · refine ⟨_, wrap_i64 (by omega) (by omega), ?_⟩
      exact backI (i + 1) (by omega) (by show i + 1 ≤ kn; omega) ⟨rfl, rfl, rfl, rfl, rfl, trivial⟩ (.refl _)
  clear hge
  have hn64 : xs.length ≤ 64 := hx.small
  have hcn := cnt_done hD
  obtain ⟨m, hm⟩ : ∃ m, n - out.length = m + 1 := ⟨n - out.length - 1, by omega⟩
  have hnm : nst (n - out.length) = 1 + (m + 1) * nst m := by rw [hm]; rfl
  refine loopI (σ := Nat × Option Addr × Nat × Nat × List Itm) (fun s => [(0, .slice la n cap), (2, .slice oa out.length oc), (3, .slice s.2.1 s.2.2.1 s.2.2.2.1), (5, .pointer (some ⟨sb, 0, none⟩)), (12, .int .i64 s.1)]) (fun s => [pt sb (encR r) 60, pool s.2.2.2.2])
    (fun s => s.1 ≤ n ∧ PoolOk s.2.2.2.2 ∧ (∀ it ∈ l, it ∈ s.2.2.2.2) ∧ DeadIn xs s.2.2.2.2 n s.2.1 s.2.2.1 ∧ s.2.2.1 ≤ kn + cnt (dn ds) s.1 * nst m ∧ ∀ j, j < s.1 → ∀ r', ¬ Good xs (dn ds) ys (j :: r')) (fun s => n - s.1) (0, ka, kn, kc, l)
    ⟨rfl, rfl, rfl, rfl, rfl, trivial⟩ (.refl _) ⟨Nat.zero_le _, hP, fun _ h => h, hdead, Nat.le_add_right _ _, fun j h => absurd h (by simp)⟩ ?_
  rintro ⟨i, ka, kn', kc, l'⟩ ⟨hi, hP', hsub, hdead', hkn', hno⟩
  have hi : i ≤ n := hi
  have hP' : PoolOk l' := hP'
  have hsub : ∀ it ∈ l, it ∈ l' := hsub
  have hdead' : DeadIn xs l' n ka kn' := hdead'
  have hkn' : kn' ≤ kn + cnt (dn ds) i * nst m := hkn'
  have hno : ∀ j, j < i → ∀ r', ¬ Good xs (dn ds) ys (j :: r') := hno
  have hrec' := hrec.mono hsub
  clear hdead hrs1 hrs2 hrs3 rs
  refine ⟨fun hlt' => ?_, fun hge => ?_⟩
  · have hin : i < n := by have := of_decide_eq_true hlt'; simp at this; omega
    clear hlt'
    obtain ⟨c, hcx⟩ : ∃ c, xs[i]? = some c := ⟨xs[i]'(by omega), by simp [show i < xs.length by omega]⟩
    have hco := hx.cl hcx
    obtain ⟨b1, o1, rfl⟩ := roS_at hl (by omega)
    have back : (∀ r', ¬ Good xs (dn ds) ys (i :: r')) → (i + 1 ≤ n ∧ PoolOk l' ∧ (∀ it ∈ l, it ∈ l') ∧ DeadIn xs l' n ka kn' ∧ kn' ≤ kn + cnt (dn ds) (i + 1) * nst m ∧ ∀ j, j < i + 1 → ∀ r', ¬ Good xs (dn ds) ys (j :: r')) := fun h => ⟨hin, hP', hsub, hdead', Nat.le_trans hkn' (Nat.add_le_add_left (Nat.mul_le_mul_right _ (cnt_le (by omega))) _), fun j hj r' => by
      rcases Nat.lt_or_ge j i with h' | h'
      · exact hno j h' r'
      · obtain rfl : j = i := by omega
        exact h r'⟩
    have hdl := hrec.dl
    have hrd := hrec.rd
    have hpl := hrec.pl
    refine ⟨_, ld 0 rfl rfl rfl, ?_⟩
    refine callP [] (fun w S hR hB' hS hd => next_spec (some ⟨b1, o1, none⟩) r.da n cap r.dl r.dc xs ds i c hcx hx.valid.le hn64 w S (hR _ hl) ((hB' _ (lget_mem (i := 1) rfl)).pool (it := ⟨r.da, 4, ds.flatMap encBl⟩) hrec'.d rfl (fun _ _ => rfl) (by decide)) hn (by omega) hrd hd) ?_
    rintro _ _ ⟨rfl, rfl⟩
    refine ⟨fun h => ?_, fun h => ?_⟩
    · have h : canB xs (dn ds : Nat) i c.bg = false := by simpa using h
      refine ⟨_, wrap_i64 (by omega) (by omega), ?_⟩
      exact backI (i + 1, ka, kn', kc, l') (by show n - (i + 1) < n - i; omega) (back fun r' hg => by
        obtain ⟨c', q1, q2, _⟩ := hg.tail
        rw [hcx] at q1; cases q1
        rw [h] at q2; cases q2) ⟨rfl, rfl, rfl, rfl, rfl, trivial⟩ (.refl _)
    have hcan : canB xs (dn ds : Nat) i c.bg = true := by simpa using h
    have hbit : (dn ds).testBit i = false := ((canB_iff hn64 hD.lt (by omega)).1 hcan).1
    refine Or.inr (Or.inr (drawGT 6 [[], [0], [], [], [2, 3], [4], [1, 5], [6], [7], [7], [8, 6, 0, 1, 2, 3, 4, 5, 6, 7, 8], [9, 10, 0, 1, 2, 3, 4, 5, 6, 7, 8, 9, 10]] [0, 2, 3, 4, 7, 8, 9, 10, 11] (by kernel_rfl) ?_ (by decide)))
    refine ⟨_, ld 0 rfl rfl rfl, ?_⟩
    refine ⟨i, rfl, hin, ?_⟩
    refine ⟨_, ldRA hl i hcx rfl rfl rfl rfl, ?_⟩
    refine callP [1] (fun w S hR hB' hS hd => acceptP_spec l' hP' r.pa r.pl r.pc ys c hrec.ok hco.ok hco.ra hrec'.p hpl hrec.pc (by have := hrec.le; omega) w S hS hd) ?_
    rintro _ _ ⟨zs, za, zc, ok, l2, rfl, ⟨hok, hzp⟩, hzc, hP2, hsub2, hzi, rfl⟩
    refine ⟨fun h => ?_, fun h => ?_⟩
    · have h : ok = false := by simpa using h
      refine ⟨_, wrap_i64 (by omega) (by omega), ?_⟩
      obtain ⟨q1, q2, q3, q4, q5, q6⟩ := back fun r' hg => by
        obtain ⟨c', q1, _, q2, _⟩ := hg.tail
        rw [hcx] at q1; cases q1
        rw [← hok, h] at q2; cases q2
      exact backI (i + 1, ka, kn', kc, l2) (by show n - (i + 1) < n - i; omega) ⟨q1, hP2, fun it h => hsub2 it (q3 it h), q4.mono hsub2, q5, q6⟩ ⟨rfl, rfl, rfl, rfl, rfl, trivial⟩ (Ent.pick [1, 0])
    have hok1 : ok = true := by simpa using h
    subst hok1
    have hacc : (accF ys c).1 = true := hok.symm
    have hzp := hzp rfl
    have hzL : LiveOk zs := (accF_ok hrec.ok c hco).perm hzp.symm
    have hzl : zs.length ≤ out.length + 1 := by have := accF_len (M := ys) c; have := hzp.length_eq; omega
    have hrec2 := hrec'.mono hsub2
    refine bld0 1 encBl rfl rfl rfl fun g0 => ?_
    refine ⟨_, ld 2 rfl rfl rfl, ?_⟩
    refine appG 0 0 rfl (fun w hw => lie_pool (sz := 1) (enc := encBl) (xs := ds) 1 rfl hrec2.d rfl (fun _ _ => rfl) (by decide) hw) (fun _ => map_add0 _ _) (by omega) rfl (fun _ _ => rfl) (fun _ _ => rfl) (by decide) (fun _ => rfl) rfl rfl rfl rfl rfl (by simp; omega) (by decide) fun g1 c1 hc1 => ?_
    have hdc : [] ++ (ds.drop 0).take r.dl = ds := by rw [List.nil_append, List.drop_zero, List.take_of_length_le (by omega)]
    refine ⟨i, rfl, by rw [hdc]; omega, ?_⟩
    refine stO 0 i true rfl (fun _ _ => rfl) rfl (by rw [hdc]; omega) rfl rfl rfl rfl (by show 0 + i = i * 1; omega) ?_
    repeat (refine ⟨rfl, Nat.le_of_ble_eq_true rfl, ?_⟩)
    refine bld0 1 encN rfl rfl rfl fun g2 => ?_
    refine appG 0 0 rfl (fun w hw => lie_pool (sz := 1) (enc := encN) (xs := out) 2 rfl (hsub2 _ (hsub _ hoi)) rfl (fun _ _ => rfl) (by decide) hw) (fun _ => map_add0 _ _) (by omega) rfl (fun _ _ => rfl) (fun _ _ => rfl) (by decide) (fun _ => rfl) rfl rfl rfl rfl rfl (by simp; omega) (by decide) fun g3 c3 hc3 => ?_
    have hX : [] ++ (out.drop 0).take out.length = out := by simp
    refine bldS [.int .i64 0] rfl rfl rfl rfl rfl (by kernel_rfl) rfl fun vb => ?_
    refine appO 1 0 i rfl rfl rfl rfl rfl (by decide) rfl rfl rfl rfl rfl rfl (by simp; omega) (by decide) fun g4 c4 hc4 => ?_
    have hcnt := cnt_succ (dn ds) i
    rw [hbit] at hcnt
    have hcnt' : cnt (dn ds) i + 1 ≤ m + 1 := by
      have h1 := cnt_le (D := dn ds) (show i + 1 ≤ xs.length by omega)
      have h2 : cnt (dn ds) (i + 1) = cnt (dn ds) i + 1 := hcnt
      omega
    have hmul : (cnt (dn ds) i + 1) * nst m ≤ (m + 1) * nst m := Nat.mul_le_mul_right _ hcnt'
    rw [Nat.add_mul, Nat.one_mul] at hmul
    let l3 : List Itm := ⟨some ⟨g4, 0, none⟩, 3, ([] ++ (out.drop 0).take out.length ++ [i]).flatMap encN⟩ :: ⟨some ⟨g1, 0, none⟩, 4, (([] ++ (ds.drop 0).take r.dl).set i true).flatMap encBl⟩ :: l2
    have hP3 : PoolOk l3 := (hP2.cons fun _ => ⟨g1, rfl⟩).cons fun _ => ⟨g4, rfl⟩
    have hsub3 : ∀ it ∈ l2, it ∈ l3 := fun it h => List.mem_cons.2 (.inr (List.mem_cons.2 (.inr h)))
    have hol' : (out ++ [i]).length = out.length + 1 := by simp
    have hset : dn (ds.set i true) = dn ds ||| 2 ^ i := dn_set (by omega)
    have hD' : Done xs (dn (ds.set i true)) (out ++ [i]) := by rw [hset]; exact hD.push hn64 (by omega) hbit
    let r2 : StR := ⟨some ⟨g1, 0, none⟩, ([] ++ (ds.drop 0).take r.dl).length, c1, za, zs.length, zc⟩
    have hrec3 : RecIn l3 n r2 (ds.set i true) zs := ⟨List.mem_cons.2 (.inr (List.mem_cons.2 (.inl (by rw [hdc])))), hsub3 _ hzi, by simp; omega, by show ([] ++ (ds.drop 0).take r.dl).length = n; rw [hdc]; omega, rfl, hzc, hzL, by omega⟩
    have hm' : n - (out ++ [i]).length = m := by omega
    refine callE [pool l3] [pt sb (encR r) 60] ?_ (fun w S hR hB' hS hd => ?_) ?_ (Post := SearchPost xs n (ds.set i true) zs (out ++ [i]) kn' l3)
    · show Ent _ [pool l3, pt sb (encR r) 60]
      exact (Ent.pick [2, 2, 1, 1]).trans (pool_add.trans ((Ent.both [1]).trans pool_add))
    · have := ih m (by omega) r2 (ds.set i true) zs (out ++ [i]) (some ⟨g4, 0, none⟩) c4 ka kn' kc l3 w S hm'.symm hP3 hrec3 (by omega) hD' (List.mem_cons.2 (.inl (by rw [hX]))) ((hdead'.mono hsub2).mono hsub3) (by rw [hm']; omega) (hR _ hl) hS hd
      rw [show (out ++ [i]).length = ([] ++ (out.drop 0).take out.length).length + 1 by rw [hX, hol']] at this
      exact this
    rintro _ _ ⟨l4, oa', on, oc', ka', kn2, kc', ok, rfl, hP4, hsub4, hdead4, hkn4, hres, rfl⟩
    rw [hm'] at hkn4
    have hsubA : ∀ it ∈ l, it ∈ l4 := fun it h => hsub4 it (hsub3 it (hsub2 it (hsub it h)))
    rw [hset] at hres
    rcases hres with ⟨rfl, o, hle, hon, hoi'⟩ | ⟨rfl, hno'⟩
    · refine ⟨fun _ => ?_, nofun⟩
      have hle' : Least xs (dn ds) ys (i :: o) := Least.cons hnf hcx hcan hacc (hle.perm hx hzp hzL) hno
      exact ⟨_, .pick [0], l4, oa', on, oc', ka', kn2, kc', true, rfl, hP4, hsubA, hdead4, by rw [hnm]; omega, .inl ⟨rfl, i :: o, hle', by rw [hon]; simp, by simpa using hoi'⟩, rfl⟩
    · refine ⟨nofun, fun _ => ?_⟩
      refine ⟨_, wrap_i64 (by omega) (by omega), ?_⟩
      exact backI (i + 1, ka', kn2, kc', l4) (by show n - (i + 1) < n - i; omega) ⟨hin, hP4, hsubA, hdead4, by
        show kn2 ≤ kn + cnt (dn ds) (i + 1) * nst m
        rw [show cnt (dn ds) (i + 1) = cnt (dn ds) i + 1 from hcnt, Nat.add_mul, Nat.one_mul]
        omega, fun j hj r' => by
        rcases Nat.lt_or_ge j i with h' | h'
        · exact hno j h' r'
        · obtain rfl : j = i := by have hj : j < i + 1 := hj; omega
          intro hg
          obtain ⟨c', q1, _, _, q2⟩ := hg.tail
          rw [hcx] at q1; cases q1
          exact hno' r' (q2.perm hx hzp.symm (accF_ok hrec.ok c hco))⟩ ⟨rfl, rfl, rfl, rfl, rfl, trivial⟩ (Ent.pick [1, 0])
  · have hin : i = n := by have := of_decide_eq_false hge; simp at this; omega
    have hnone : ∀ o, ¬ Good xs (dn ds) ys o := fun o hg => by
      cases o with
      | nil => exact hnf hg.2
      | cons j r' =>
        obtain ⟨c, hc, _⟩ := hg.tail
        exact hno j (by have := (List.getElem?_eq_some_iff.1 hc).1; omega) r' hg
    have hbound : kn' + 1 ≤ kn + nst (n - out.length) := by
      have : cnt (dn ds) i = m + 1 := by rw [hn, ← hin] at hcn; omega
      rw [this] at hkn'
      omega
    obtain ⟨rs, hrs1, hrs2, hrs3⟩ := hdead'
    have hX : [] ++ (rs.drop 0).take kn' = rs := by rw [List.nil_append, List.drop_zero, List.take_of_length_le (by omega)]
    have hXl : ([] ++ (rs.drop 0).take kn').length = kn' := by rw [hX, hrs2]
    have fin : ∀ (g c : Nat), SearchPost xs n ds ys out kn l (.tuple #[.slice none 0 0, .slice (some ⟨g, 0, none⟩) (([] ++ (rs.drop 0).take kn').length + 1) c, .bool false]) [pool (⟨some ⟨g, 0, none⟩, 60, ([] ++ (rs.drop 0).take kn' ++ [r]).flatMap encR⟩ :: l')] := fun g c => by
      refine ⟨_, none, 0, 0, some ⟨g, 0, none⟩, _, c, false, rfl, hP'.cons fun _ => ⟨g, rfl⟩, fun it h => List.mem_cons.2 (.inr (hsub it h)), ⟨rs ++ [r], List.mem_cons.2 (.inl (by rw [hX])), by rw [hXl]; simp [hrs2], fun q hq => ?_⟩, by rw [hXl]; exact hbound, .inr ⟨rfl, hnone⟩, rfl⟩
      rcases List.mem_append.1 hq with hq | hq
      · obtain ⟨ds', ys', k1, k2⟩ := hrs3 q hq
        exact ⟨ds', ys', k1.mono fun it h => List.mem_cons.2 (.inr h), k2⟩
      · rw [List.mem_singleton] at hq
        subst hq
        exact ⟨ds, ys, hrec'.mono fun it h => List.mem_cons.2 (.inr h), hnone⟩
    refine Or.inr (Or.inr (drawT [[], [], [0, 1], [], [3], [2, 4, 2], [5], [5, 6, 0, 1, 2, 3, 4, 5, 6], [7, 0, 1, 2, 3, 4, 5, 6, 7]] [1, 6, 7, 8] (by kernel_rfl) ?_))
    refine ⟨?_, ?_, trivial⟩
    · refine bld0 2 encR rfl rfl rfl fun g0 => ?_
      refine ⟨?_, ?_, trivial⟩
      · refine appG2 0 0 rfl (fun w hw => lie_pool (sz := 2) (enc := encR) (xs := rs) 2 rfl hrs1 rfl (fun _ _ => rfl) (by decide) hw) (fun _ => map_add0 _ _) (by show 0 + kn' ≤ rs.length; omega) rfl (fun _ _ => rfl) (fun _ _ => rfl) (by decide) (fun _ => rfl) rfl rfl rfl rfl rfl (by show 0 + kn' ≤ _; simp [maxLen]; omega) (by show (0 + kn') * 48 ≤ _; omega) fun g1 c1 hc1 => ?_
        refine ⟨_, ldA 1 rfl rfl rfl rfl rfl, ?_⟩
        refine bldS [.slice none 0 0, .slice none 0 0] rfl rfl rfl rfl rfl (by kernel_rfl) rfl fun vb => ?_
        refine appO2 1 0 r rfl rfl rfl rfl rfl (by decide) rfl rfl rfl rfl rfl rfl (by rw [hXl]; simp [maxLen]; omega) (by rw [hXl]; show (kn' + 1) * 48 ≤ _; omega) fun g4 c4 hc4 => ?_
        exact ⟨_, (Ent.pick [1, 2]).trans pool_add, fin g4 c4⟩
      · refine ⟨_, ldA 1 rfl rfl rfl rfl rfl, ?_⟩
        refine ⟨?_, ?_, trivial⟩
        · refine appG2 0 0 rfl (fun w hw => lie_pool (sz := 2) (enc := encR) (xs := rs) 2 rfl hrs1 rfl (fun _ _ => rfl) (by decide) hw) (fun _ => map_add0 _ _) (by show 0 + kn' ≤ rs.length; omega) rfl (fun _ _ => rfl) (fun _ _ => rfl) (by decide) (fun _ => rfl) rfl rfl rfl rfl rfl (by show 0 + kn' ≤ _; simp [maxLen]; omega) (by show (0 + kn') * 48 ≤ _; omega) fun g1 c1 hc1 => ?_
          refine bldS [.slice none 0 0, .slice none 0 0] rfl rfl rfl rfl rfl (by kernel_rfl) rfl fun vb => ?_
          refine appO2 1 0 r rfl rfl rfl rfl rfl (by decide) rfl rfl rfl rfl rfl rfl (by rw [hXl]; simp [maxLen]; omega) (by rw [hXl]; show (kn' + 1) * 48 ≤ _; omega) fun g4 c4 hc4 => ?_
          exact ⟨_, (Ent.pick [1, 2]).trans pool_add, fin g4 c4⟩
        · refine bldS [.slice none 0 0, .slice none 0 0] rfl rfl rfl rfl rfl (by kernel_rfl) rfl fun vb => ?_
          refine appG2 1 0 rfl (fun w hw => lie_pool (sz := 2) (enc := encR) (xs := rs) 3 rfl hrs1 rfl (fun _ _ => rfl) (by decide) hw) (fun _ => map_add0 _ _) (by show 0 + kn' ≤ rs.length; omega) rfl (fun _ _ => rfl) (fun _ _ => rfl) (by decide) (fun _ => rfl) rfl rfl rfl rfl rfl (by show 0 + kn' ≤ _; simp [maxLen]; omega) (by show (0 + kn') * 48 ≤ _; omega) fun g1 c1 hc1 => ?_
          refine appO2 1 0 r rfl rfl rfl rfl rfl (by decide) rfl rfl rfl rfl rfl rfl (by rw [hXl]; simp [maxLen]; omega) (by rw [hXl]; show (kn' + 1) * 48 ≤ _; omega) fun g4 c4 hc4 => ?_
          exact ⟨_, (Ent.pick [1, 2]).trans pool_add, fin g4 c4⟩
    · refine ⟨_, ldA 0 rfl rfl rfl rfl rfl, ?_⟩
      refine ⟨?_, ?_, trivial⟩
      · refine bld0 2 encR rfl rfl rfl fun g0 => ?_
        refine ⟨?_, ?_, trivial⟩
        · refine appG2 0 0 rfl (fun w hw => lie_pool (sz := 2) (enc := encR) (xs := rs) 2 rfl hrs1 rfl (fun _ _ => rfl) (by decide) hw) (fun _ => map_add0 _ _) (by show 0 + kn' ≤ rs.length; omega) rfl (fun _ _ => rfl) (fun _ _ => rfl) (by decide) (fun _ => rfl) rfl rfl rfl rfl rfl (by show 0 + kn' ≤ _; simp [maxLen]; omega) (by show (0 + kn') * 48 ≤ _; omega) fun g1 c1 hc1 => ?_
          refine bldS [.slice none 0 0, .slice none 0 0] rfl rfl rfl rfl rfl (by kernel_rfl) rfl fun vb => ?_
          refine appO2 1 0 r rfl rfl rfl rfl rfl (by decide) rfl rfl rfl rfl rfl rfl (by rw [hXl]; simp [maxLen]; omega) (by rw [hXl]; show (kn' + 1) * 48 ≤ _; omega) fun g4 c4 hc4 => ?_
          exact ⟨_, (Ent.pick [1, 2]).trans pool_add, fin g4 c4⟩
        · refine bldS [.slice none 0 0, .slice none 0 0] rfl rfl rfl rfl rfl (by kernel_rfl) rfl fun vb => ?_
          refine appG2 1 0 rfl (fun w hw => lie_pool (sz := 2) (enc := encR) (xs := rs) 3 rfl hrs1 rfl (fun _ _ => rfl) (by decide) hw) (fun _ => map_add0 _ _) (by show 0 + kn' ≤ rs.length; omega) rfl (fun _ _ => rfl) (fun _ _ => rfl) (by decide) (fun _ => rfl) rfl rfl rfl rfl rfl (by show 0 + kn' ≤ _; simp [maxLen]; omega) (by show (0 + kn') * 48 ≤ _; omega) fun g1 c1 hc1 => ?_
          refine appO2 1 0 r rfl rfl rfl rfl rfl (by decide) rfl rfl rfl rfl rfl rfl (by rw [hXl]; simp [maxLen]; omega) (by rw [hXl]; show (kn' + 1) * 48 ≤ _; omega) fun g4 c4 hc4 => ?_
          exact ⟨_, (Ent.pick [1, 2]).trans pool_add, fin g4 c4⟩
      · refine bldS [.slice none 0 0, .slice none 0 0] rfl rfl rfl rfl rfl (by kernel_rfl) rfl fun vb => ?_
        refine bld0 2 encR rfl rfl rfl fun g0 => ?_
        refine appG2 0 0 rfl (fun w hw => lie_pool (sz := 2) (enc := encR) (xs := rs) 3 rfl hrs1 rfl (fun _ _ => rfl) (by decide) hw) (fun _ => map_add0 _ _) (by show 0 + kn' ≤ rs.length; omega) rfl (fun _ _ => rfl) (fun _ _ => rfl) (by decide) (fun _ => rfl) rfl rfl rfl rfl rfl (by show 0 + kn' ≤ _; simp [maxLen]; omega) (by show (0 + kn') * 48 ≤ _; omega) fun g1 c1 hc1 => ?_
        refine appO2 0 1 r rfl rfl rfl rfl rfl (by decide) rfl rfl rfl rfl rfl rfl (by rw [hXl]; simp [maxLen]; omega) (by rw [hXl]; show (kn' + 1) * 48 ≤ _; omega) fun g4 c4 hc4 => ?_
        exact ⟨_, (Ent.pick [0, 2]).trans pool_add, fin g4 c4⟩
end Go.Proofs.YtfebaopjfmpfkaaDoor
