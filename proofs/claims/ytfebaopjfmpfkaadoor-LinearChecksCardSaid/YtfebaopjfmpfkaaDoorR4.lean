/- The specification's package of chapter 21: which orders are right. -/
import Derived.Test.YtfebaopjfmpfkaaDoorR3
namespace Go.Proofs.YtfebaopjfmpfkaaDoor
open Go.X
set_option maxRecDepth 10000
set_option linter.unusedVariables false
set_option linter.unusedSimpArgs false

/-- What is live behind these calls. -/
def accRun : List (Int × Int) → List Cl → List (Int × Int)
  | M, [] => M
  | M, c :: cs => accRun (accF M c).2 cs
theorem accAll_snoc : ∀ {cs : List Cl} {M : List (Int × Int)} {c : Cl}, AccAll M (cs ++ [c]) ↔ AccAll M cs ∧ (accF (accRun M cs) c).1 = true
  | [], M, c => by simp [AccAll, accRun]
  | d :: cs, M, c => by
    simp only [List.cons_append, AccAll, accRun]
    rw [accAll_snoc, and_assoc]
theorem accRun_snoc : ∀ {cs : List Cl} {M : List (Int × Int)} {c : Cl}, accRun M (cs ++ [c]) = (accF (accRun M cs) c).2
  | [], M, c => rfl
  | d :: cs, M, c => by simp only [List.cons_append, accRun]; exact accRun_snoc
theorem accRun_ok : ∀ {cs : List Cl} {M : List (Int × Int)}, LiveOk M → (∀ c ∈ cs, ClOk c) → LiveOk (accRun M cs)
  | [], M, h, _ => h
  | c :: cs, M, h, hc => accRun_ok (cs := cs) (M := (accF M c).2) (accF_ok h c (hc c (by simp))) fun d hd => hc d (by simp [hd])

theorem nodup_of_len {α : Type} [DecidableEq α] : ∀ {ord r : List α}, r.Nodup → (∀ x ∈ r, x ∈ ord) → ord.length ≤ r.length → ord.Nodup
  | [], _, _, _, _ => by simp
  | x :: t, r, hn, hs, hl => by
    have hx : x ∉ t := fun h => by
      have := hn.length_le_of_subset (l₂ := t) fun y hy => by
        rcases List.mem_cons.1 (hs y hy) with rfl | h'
        · exact h
        · exact h'
      simp at hl; omega
    refine List.nodup_cons.2 ⟨hx, nodup_of_len (r := r.erase x) (hn.erase x) (fun y hy => ?_) ?_⟩
    · have h1 := (hn.mem_erase_iff).1 hy
      rcases List.mem_cons.1 (hs y h1.2) with rfl | h'
      · exact absurd rfl h1.1
      · exact h'
    · have := List.length_erase (a := x) (l := r)
      simp at hl
      split at this <;> omega

theorem isOrd_perm {xs : List Cl} {ord : List Int} {o : List Nat} (h : IsOrd xs ord o) : o.Perm (List.range xs.length) := by
  have := h.nodup.length_le_of_subset (l₂ := List.range xs.length) fun i hi => List.mem_range.2 (h.lt i hi)
  refine (List.perm_ext_iff_of_nodup h.nodup List.nodup_range).2 fun i => ⟨fun hi => List.mem_range.2 (h.lt i hi), fun hi => ?_⟩
  by_cases hm : i ∈ o
  · exact hm
  · have := (List.nodup_cons.2 ⟨hm, h.nodup⟩).length_le_of_subset (l₂ := List.range xs.length) fun j hj => by
      rcases List.mem_cons.1 hj with rfl | hj
      · exact hi
      · exact List.mem_range.2 (h.lt j hj)
    have := h.len
    simp at *; omega

theorem cs_of {xs : List Cl} : ∀ {o : List Nat}, (∀ i ∈ o, i < xs.length) → ∃ cs : List Cl, o.map (fun i => xs[i]?) = cs.map some
  | [], _ => ⟨[], rfl⟩
  | i :: o, h => by
    obtain ⟨cs, hcs⟩ := cs_of (o := o) fun j hj => h j (by simp [hj])
    have hi := h i (by simp)
    exact ⟨xs[i] :: cs, by simp [hcs, hi]⟩

theorem nats_of : ∀ {ord : List Int}, (∀ x ∈ ord, 0 ≤ x) → ∃ o : List Nat, ord = o.map fun i : Nat => (i : Int)
  | [], _ => ⟨[], rfl⟩
  | x :: ord, h => by
    obtain ⟨o, ho⟩ := nats_of (ord := ord) fun y hy => h y (by simp [hy])
    have := h x (by simp)
    exact ⟨x.toNat :: o, by simp only [List.map_cons]; rw [← ho, Int.toNat_of_nonneg this]⟩

theorem acceptR_at (la : Option Addr) (n cap : Nat) (ys : List (Int × Int)) (c : Cl) (hL : LiveOk ys) (hc : OkCl c) (hra : c.ra ≤ 9223372036854775807) (w : World) (S : FP) (hl : RO w S (roS la 2 encP ys)) (hn : ys.length = n) (hcap : n ≤ cap) (hn2 : n ≤ 1000000) (hd : ∀ b, S b → b < w.heap.size) :
    Trip Tryd.prog 37 #[.slice la n cap, .agg ⟨encCl c⟩] w S fun v L => ∃ (zs : List (Int × Int)) (a' : Option Addr) (c' : Nat) (ok : Bool), v = .tuple #[.slice a' zs.length c', .bool ok] ∧ AccR ys c zs ok ∧ zs.length ≤ c' ∧ ((a' = la ∧ c' = cap ∧ zs = ys ∧ L = []) ∨ L = [own a' c' 90 2 encP zs]) :=
  (acceptR_spec la n cap ys c hL hc hra w S hl hn hcap hn2 hd).fact fun v L w' ⟨zs, a', c', ok, h1, h2, h3⟩ hI => ⟨zs, a', c', ok, h1, h2, by
    rcases h3 with ⟨rfl, rfl, rfl, rfl⟩ | h
    · omega
    · subst h; exact hI.ownCap (List.mem_singleton.2 rfl), h3⟩

theorem rightR_spec (la oa : Option Addr) (n cap m oc : Nat) (xs : List Cl) (ord : List Int) (w : World) (S : FP) (hr : InR xs) (hl : RO w S (roS la 9 encCl xs)) (ho : RO w S (roS oa 1 encZ1 ord)) (hn : xs.length = n) (hm : ord.length = m)
    (hc : n ≤ cap) (hn2 : n ≤ 4611686018427387904) (hm2 : m ≤ 1000000) (hd : ∀ b, S b → b < w.heap.size) :
    Trip Tryd.prog 20 #[.slice la n cap, .slice oa m oc] w S fun v L => ∃ b e, v = .tuple #[.bool b, .int .i64 e] ∧ RightR xs ord b e ∧ L = [] := by
  refine Trip.of_x (L := []) Tryd.func20 (by kernel_rfl) rfl Tryd.ntmps20 Tryd.results20 rfl (ctx_ok _) trivial hd ?_
  refine callP [] (fun w S hR hB hS hd => fault_spec la n cap xs w S (hR _ hl) hn hc hn2 hd) ?_
  rintro _ _ ⟨rfl, rfl⟩
  refine ⟨fun h => ?_, fun h => ?_⟩
  · have h : chk xs ≠ 0 := of_decide_eq_true h
    exact ⟨_, .pick [], false, chk xs, rfl, .inl ⟨h, rfl, rfl⟩, rfl⟩
  have hc0 : chk xs = 0 := by simpa using h
  obtain ⟨hs64, hval⟩ := chk_ok hc0
  have noord : (¬ ∃ o, IsOrd xs ord o) → RightR xs ord false 1 := fun h => .inr (.inl ⟨hc0, h, rfl, rfl⟩)
  refine ⟨fun h => ?_, fun h => ?_⟩
  · have h : (m : Int) ≠ n := of_decide_eq_true h
    repeat (refine ⟨fun _ => ?_, nofun⟩)
    exact ⟨_, .pick [], false, 1, rfl, noord fun ⟨o, ho⟩ => h (by have h1 := ho.len; have h2 := congrArg List.length ho.eq; simp at h2; omega), rfl⟩
  have hmn : m = n := by
    have : (m : Int) = n := by simpa using h
    omega
  refine callP [] (fun w S hR hB hS hd => rising_spec oa m oc ord w S (hR _ ho) hm hm2 hd) ?_
  rintro _ _ ⟨r, ra, rc, rfl, hpw, hmem, rfl⟩
  have hrn : r.Nodup := List.nodup_iff_pairwise_ne.2 (hpw.imp fun h => by omega)
  refine ⟨fun h => ?_, fun h => ?_⟩
  · have h : (r.length : Int) ≠ n := of_decide_eq_true h
    refine ⟨_, .pick [], false, 1, rfl, noord fun ⟨o, ho⟩ => h ?_, rfl⟩
    have hon : ord.Nodup := by
      rw [ho.eq]
      have := ho.nodup
      rw [List.nodup_iff_pairwise_ne] at this ⊢
      rw [List.pairwise_map]
      exact this.imp fun h => by omega
    have := ((List.perm_ext_iff_of_nodup hrn hon).2 hmem).length_eq
    omega
  have hrl : r.length = n := by
    have : (r.length : Int) = n := by simpa using h
    omega
  have hon : ord.Nodup := nodup_of_len hrn (fun x hx => (hmem x).1 hx) (by omega)
  refine loopI (σ := Nat) (fun i => [(0, .slice la n cap), (1, .slice oa m oc), (7, .int .i64 i)]) (fun _ => []) (fun i => i ≤ m ∧ ∀ (j : Nat) (x : Int), j < i → ord[j]? = some x → 0 ≤ x ∧ x < n) (fun i => m - i) 0
    ⟨rfl, rfl, rfl, trivial⟩ (.pick []) ⟨Nat.zero_le _, fun j x h => absurd h (by omega)⟩ ?_
  rintro i ⟨hi, hin⟩
  refine ⟨fun hlt => ?_, fun hge => ?_⟩
  · have him : i < m := by have := of_decide_eq_true hlt; omega
    obtain ⟨x, hx⟩ : ∃ x, ord[i]? = some x := ⟨ord[i]'(by omega), by simp [show i < ord.length by omega]⟩
    obtain ⟨b1, o1, rfl⟩ := roS_at ho (by omega)
    have bad : ¬ (0 ≤ x ∧ x < n) → ¬ ∃ o, IsOrd xs ord o := fun h ⟨o, ho⟩ => h (by
      have hxm := List.mem_of_getElem? hx
      rw [ho.eq] at hxm
      obtain ⟨j, hj, rfl⟩ := List.mem_map.1 hxm
      have := ho.lt j hj
      omega)
    refine ⟨i, rfl, him, ?_⟩
    refine ⟨_, ldR ho i 0 hx rfl rfl (by show o1 + i = o1 + (i * 1 + 0); omega), ?_⟩
    refine ⟨fun h => ?_, fun h => ?_⟩
    · have h : x < 0 := of_decide_eq_true h
      repeat (refine ⟨fun _ => ?_, nofun⟩)
      exact ⟨_, .pick [], false, 1, rfl, noord (bad (by omega)), rfl⟩
    have h : ¬ x < 0 := of_decide_eq_false h
    refine ⟨i, rfl, him, ?_⟩
    refine ⟨_, ldR ho i 0 hx rfl rfl (by show o1 + i = o1 + (i * 1 + 0); omega), ?_⟩
    refine ⟨fun h' => ?_, fun h' => ?_⟩
    · have h' : x ≥ n := of_decide_eq_true h'
      exact ⟨_, .pick [], false, 1, rfl, noord (bad (by omega)), rfl⟩
    have h' : ¬ x ≥ n := of_decide_eq_false h'
    refine ⟨_, wrap_i64 (by omega) (by omega), ?_⟩
    exact backI (i + 1) (by omega) ⟨him, fun j y hj hy => by
      rcases Nat.lt_or_ge j i with h'' | h''
      · exact hin j y h'' hy
      · obtain rfl : j = i := by omega
        rw [hx] at hy; cases hy; omega⟩ ⟨rfl, rfl, rfl, trivial⟩ (.refl _)
  have him : i = m := by have := of_decide_eq_false hge; omega
  subst him
  have hall : ∀ x ∈ ord, 0 ≤ x ∧ x < n := fun x hx => by
    obtain ⟨j, hj⟩ := List.mem_iff_getElem?.1 hx
    exact hin j x (by have := (List.getElem?_eq_some_iff.1 hj).1; omega) hj
  obtain ⟨o, hoo⟩ := nats_of fun x hx => (hall x hx).1
  have hio : IsOrd xs ord o := by
    refine ⟨hoo, ?_, ?_, fun j hj => ?_⟩
    · have := congrArg List.length hoo; simp at this; omega
    · rw [hoo] at hon
      rw [List.nodup_iff_pairwise_ne] at hon ⊢
      rw [List.pairwise_map] at hon
      exact hon.imp fun h he => h (by rw [he])
    · have := (hall (j : Int) (by rw [hoo]; exact List.mem_map.2 ⟨j, hj, rfl⟩)).2
      omega
  have hop := isOrd_perm hio
  obtain ⟨cs, hcs⟩ := cs_of (xs := xs) (o := o) hio.lt
  have hgood : Good xs 0 [] o ↔ Lin cs := by
    rw [good_iff hs64 hval]
    constructor
    · rintro ⟨_, cs', h1, h2⟩
      rw [hcs] at h1
      rw [some_inj h1]; exact h2
    · exact fun h => ⟨hop, cs, hcs, h⟩
  have hx : HistOk xs := ⟨hval, hs64, hr⟩
  have hol : o.length = i := by have := congrArg List.length hoo; simp at this; omega
  have hcl : cs.length = i := by have := congrArg List.length hcs; simp at this; omega
  -- the calls, by their places in the order
  have hat : ∀ j, j < i → ∃ (q : Nat) (c : Cl), o[j]? = some q ∧ ord[j]? = some (q : Int) ∧ q < n ∧ xs[q]? = some c ∧ cs[j]? = some c := fun j hj => by
    obtain ⟨q, hq⟩ : ∃ q, o[j]? = some q := ⟨o[j]'(by omega), by simp [show j < o.length by omega]⟩
    have hql := hio.lt q (List.mem_of_getElem? hq)
    obtain ⟨c, hcq⟩ : ∃ c, xs[q]? = some c := ⟨xs[q], by simp [hql]⟩
    refine ⟨q, c, hq, by rw [hoo, List.getElem?_map, hq]; rfl, by omega, hcq, ?_⟩
    have := congrArg (·[j]?) hcs
    simp only [List.getElem?_map, hq, Option.map_some, hcq] at this
    cases hcj : cs[j]? with
    | none => rw [hcj] at this; cases this
    | some y => rw [hcj] at this; simp only [Option.map_some, Option.some.injEq] at this; rw [this]
  have hclo : ∀ c ∈ cs, ClOk c := fun c hcm => by
    have : some c ∈ cs.map some := List.mem_map.2 ⟨c, hcm, rfl⟩
    rw [← hcs] at this
    obtain ⟨q, _, hq⟩ := List.mem_map.1 this
    exact hx.cl hq
  have no : ¬ Lin cs → RightR xs ord false 0 := fun h => .inr (.inr ⟨hc0, o, hio, rfl, by simp only [Bool.false_eq_true, false_iff, hgood]; exact h⟩)
  refine loopI (σ := Nat × List (Int × Int) × Option Addr × Nat) (fun s => [(0, .slice la n cap), (1, .slice oa i oc), (8, .slice s.2.2.1 s.2.1.length s.2.2.2), (9, .int .i64 s.1)]) (fun s => [own s.2.2.1 s.2.2.2 90 2 encP s.2.1])
    (fun s => s.1 ≤ i ∧ s.2.1.length ≤ s.2.2.2 ∧ s.2.1.length ≤ s.1 ∧ LiveOk s.2.1 ∧ s.2.1.Perm (accRun [] (cs.take s.1)) ∧ AccAll [] (cs.take s.1) ∧ (cs.take s.1).Pairwise (fun c d => ¬ d.en < c.bg)) (fun s => i - s.1) (0, [], none, 0)
    ⟨rfl, rfl, rfl, rfl, trivial⟩ own_nil ⟨Nat.zero_le _, Nat.le_refl _, Nat.le_refl _, .nil, .refl _, trivial, .nil⟩ ?_
  rintro ⟨k, ys, ya, yc⟩ ⟨hk, hyc, hyk, hyL, hyp, hya, hypw⟩
  have hk : k ≤ i := hk
  have hyc : ys.length ≤ yc := hyc
  have hyk : ys.length ≤ k := hyk
  have hyL : LiveOk ys := hyL
  have hyp : ys.Perm (accRun [] (cs.take k)) := hyp
  have hya : AccAll [] (cs.take k) := hya
  have hypw : (cs.take k).Pairwise (fun c d => ¬ d.en < c.bg) := hypw
  refine ⟨fun hlt => ?_, fun hge => ?_⟩
  · have hki : k < i := by have := of_decide_eq_true hlt; simp at this; omega
    obtain ⟨q, c, hq1, hq2, hq3, hq4, hq5⟩ := hat k hki
    obtain ⟨b1, o1, rfl⟩ := roS_at ho (by omega)
    obtain ⟨b2, o2, rfl⟩ := roS_at hl (by omega)
    refine loopI (σ := Nat) (fun j => [(0, .slice (some ⟨b2, o2, none⟩) n cap), (1, .slice (some ⟨b1, o1, none⟩) i oc), (8, .slice ya ys.length yc), (9, .int .i64 k), (10, .int .i64 j)]) (fun _ => [own ya yc 90 2 encP ys])
      (fun j => j ≤ k ∧ ∀ (j' : Nat) (d : Cl), j' < j → cs[j']? = some d → ¬ c.en < d.bg) (fun j => k - j) 0 ⟨rfl, rfl, rfl, rfl, rfl, trivial⟩ (.refl _) ⟨Nat.zero_le _, fun j' d h => absurd h (by omega)⟩ ?_
    rintro j ⟨hj, hjn⟩
    refine ⟨fun hlt => ?_, fun hge => ?_⟩
    · have hjk : j < k := by have := of_decide_eq_true hlt; omega
      obtain ⟨p, d, hp1, hp2, hp3, hp4, hp5⟩ := hat j (by omega)
      refine Or.inl ⟨by kernel_rfl, ?_⟩
      refine ⟨j, rfl, by omega, ?_⟩
      refine ⟨_, ldR ho j 0 hp2 rfl rfl (by show o1 + j = o1 + (j * 1 + 0); omega), ?_⟩
      refine ⟨p, rfl, hp3, ?_⟩
      refine ⟨_, ldR hl p 1 hp4 rfl rfl rfl, ?_⟩
      refine ⟨k, rfl, by omega, ?_⟩
      refine ⟨_, ldR ho k 0 hq2 rfl rfl (by show o1 + k = o1 + (k * 1 + 0); omega), ?_⟩
      refine ⟨q, rfl, hq3, ?_⟩
      refine ⟨_, ldR hl q 2 hq4 rfl rfl rfl, ?_⟩
      refine ⟨fun h => ?_, fun h => ?_⟩
      · have h : d.bg > c.en := of_decide_eq_true h
        refine ⟨_, .pick [], false, 0, rfl, no fun hlin => ?_, rfl⟩
        obtain ⟨a1, a2⟩ := List.getElem?_eq_some_iff.1 hp5
        obtain ⟨b1, b2⟩ := List.getElem?_eq_some_iff.1 hq5
        have := List.pairwise_iff_getElem.1 hlin.1 j k a1 b1 hjk
        rw [a2, b2] at this
        omega
      · have h : ¬ d.bg > c.en := of_decide_eq_false h
        refine ⟨_, wrap_i64 (by omega) (by omega), ?_⟩
        exact backI (j + 1) (by omega) ⟨hjk, fun j' d' hj' hd' => by
          rcases Nat.lt_or_ge j' j with h' | h'
          · exact hjn j' d' h' hd'
          · obtain rfl : j' = j := by omega
            rw [hp5] at hd'; cases hd'; omega⟩ ⟨rfl, rfl, rfl, rfl, rfl, trivial⟩ (.refl _)
    · have hjk : j = k := by have := of_decide_eq_false hge; omega
      subst hjk
      have htake : cs.take (j + 1) = cs.take j ++ [c] := by rw [List.take_add_one, hq5]; rfl
      have hpw' : (cs.take (j + 1)).Pairwise (fun c d => ¬ d.en < c.bg) := by
        rw [htake, List.pairwise_append]
        refine ⟨hypw, by simp, fun d hd e he => ?_⟩
        simp at he; subst he
        obtain ⟨j', hj'⟩ := List.mem_iff_getElem?.1 hd
        rw [List.getElem?_take] at hj'
        split at hj'
        · exact hjn j' d (by assumption) hj'
        · cases hj'
      refine ⟨j, rfl, by omega, ?_⟩
      refine ⟨_, ldR ho j 0 hq2 rfl rfl (by show o1 + j = o1 + (j * 1 + 0); omega), ?_⟩
      refine ⟨q, rfl, hq3, ?_⟩
      refine ⟨_, ldRA hl q hq4 rfl rfl rfl rfl, ?_⟩
      have hco : ClOk c := hx.cl hq4
      refine callP [] (fun w S hR hB hS hd => acceptR_at ya ys.length yc ys c hyL hco.ok hco.ra w S ((hB _ (lget_mem (i := 0) rfl)).own (fun _ _ => rfl) (by decide)) rfl hyc (by omega) hd) ?_
      rintro _ _ ⟨zs, za, zc, ok, rfl, ⟨hok, hzp⟩, hzc, hL⟩
      obtain ⟨e1, e2⟩ := accF_perm hyp hyL c hco
      refine ⟨fun h => ?_, fun h => ?_⟩
      · have h : ok = false := by simpa using h
        refine ⟨_, .pick [], false, 0, rfl, no fun hlin => ?_, rfl⟩
        have := hlin.2.take (j + 1)
        rw [htake, accAll_snoc, ← e1, ← hok, h] at this
        cases this.2
      · have h : ok = true := by simpa using h
        subst h
        have hzp := hzp rfl
        have hzL : LiveOk zs := (accF_ok hyL c hco).perm hzp.symm
        have hzl : zs.length ≤ j + 1 := by have := accF_len (M := ys) c; have := hzp.length_eq; omega
        have hrun : zs.Perm (accRun [] (cs.take (j + 1))) := by rw [htake, accRun_snoc]; exact hzp.trans e2
        have hacc : AccAll [] (cs.take (j + 1)) := by rw [htake, accAll_snoc]; exact ⟨hya, by rw [← e1]; exact hok.symm⟩
        refine ⟨_, wrap_i64 (by omega) (by omega), ?_⟩
        rcases hL with ⟨rfl, rfl, rfl, rfl⟩ | rfl
        · exact backI (j + 1, zs, za, zc) (by show i - (j + 1) < i - j; omega) ⟨hki, hyc, hzl, hzL, hrun, hacc, hpw'⟩ ⟨rfl, rfl, rfl, rfl, trivial⟩ (.refl _)
        · exact backI (j + 1, zs, za, zc) (by show i - (j + 1) < i - j; omega) ⟨hki, hzc, hzl, hzL, hrun, hacc, hpw'⟩ ⟨rfl, rfl, rfl, rfl, trivial⟩ (Ent.pick [0])
  · have hki : k = i := by have := of_decide_eq_false hge; simp at this; omega
    subst hki
    rw [List.take_of_length_le (by omega)] at hya hypw
    exact ⟨_, .pick [], true, 0, rfl, .inr (.inr ⟨hc0, o, hio, rfl, by simp only [true_iff, hgood]; exact ⟨hypw, hya⟩⟩), rfl⟩
end Go.Proofs.YtfebaopjfmpfkaaDoor
