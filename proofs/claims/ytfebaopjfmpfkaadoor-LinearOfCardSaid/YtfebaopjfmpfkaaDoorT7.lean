/- Sorting calls by their beginnings: the whole sort. -/
import Derived.Test.YtfebaopjfmpfkaaDoorT5
namespace Go.Proofs.YtfebaopjfmpfkaaDoor
open Go.X
set_option maxRecDepth 10000
set_option linter.unusedVariables false
set_option linter.unusedSimpArgs false

theorem insP_spec (ao : Option Addr) (n cap a b : Nat) (xs : List Cl) (hao : xs ≠ [] → ∃ g, ao = some ⟨g, 0, none⟩) (hn : xs.length = n) (hab : a ≤ b) (hb : b ≤ n) (hn2 : n ≤ 1000000) (w : World) (S : FP) (hS : Sep [own ao cap 41 9 encCl xs] w S) (hd : ∀ b, S b → b < w.heap.size) :
    Trip Tryd.prog 52 #[.slice ao n cap, .int .i64 a, .int .i64 b, .func (.func 39) #[] #[]] w S fun v L => ∃ zs, v = .tuple #[] ∧ PermR a b xs zs ∧ SrtI a b zs ∧ L = [own ao cap 41 9 encCl zs] := by
  have e : xs.drop b = (xs.drop a).drop (b - a) := by rw [List.drop_drop, show a + (b - a) = b by omega]
  have hx : xs.take a ++ (xs.drop a).take (b - a) ++ xs.drop b = xs := by rw [e, List.append_assoc, List.take_append_drop, List.take_append_drop]
  have h1 : (xs.take a).length = a := by simp; omega
  have h2 : ((xs.drop a).take (b - a)).length = b - a := by simp; omega
  have := insB_spec ao n cap a b (xs.take a) ((xs.drop a).take (b - a)) (xs.drop b) (by rw [hx]; exact hao) (by rw [hx]; exact hn) h1 (by omega) hn2 w S (by rw [hx]; exact hS) hd
  have h3 : (sortedB ((xs.drop a).take (b - a))).length = b - a := (sortedB_perm _).length_eq.trans h2
  refine this.mono ?_
  rintro _ _ ⟨rfl, rfl⟩
  refine ⟨_, rfl, ⟨?_, fun t ht => ?_⟩, fun s t x y hs hst ht hx' hy' => ?_, rfl⟩
  · conv => rhs; rw [← hx]
    exact ((sortedB_perm _).append_left _).append_right _
  · conv => rhs; rw [← hx]
    rcases ht with ht | ht
    · rw [List.append_assoc, List.append_assoc, List.getElem?_append_left (by omega), List.getElem?_append_left (by omega)]
    · rw [List.getElem?_append_right (by simp [h1, h3]; omega), List.getElem?_append_right (by simp [h1, h2]; omega)]
      simp [h1, h2, h3]
  · rw [List.append_assoc, List.getElem?_append_right (by omega), List.getElem?_append_left (by omega), h1] at hx' hy'
    obtain ⟨q1, e1⟩ := List.getElem?_eq_some_iff.1 hx'
    obtain ⟨q2, e2⟩ := List.getElem?_eq_some_iff.1 hy'
    have := List.pairwise_iff_getElem.1 (sortedB_srt ((xs.drop a).take (b - a))) (s - a) (t - a) q1 q2 (by omega)
    rw [e1, e2] at this
    exact this

/-- What of a range is settled: all but the places from a' to b'. -/
def Glue (a b a' b' : Nat) (zs : List Cl) : Prop := ∀ s t x y, a ≤ s → s < t → t < b → (s < a' ∨ b' ≤ t) → zs[s]? = some x → zs[t]? = some y → x.bg ≤ y.bg
theorem Glue.perm {a b a' b' : Nat} {zs us : List Cl} (h : Glue a b a' b' zs) (hP : PermR a' b' zs us) (ha : a ≤ a') (hb : b' ≤ b) : Glue a b a' b' us := fun s t x y h1 h2 h3 h4 hx hy => by
  by_cases c1 : a' ≤ s ∧ s < b'
  · obtain ⟨s', k1, k2, k3⟩ := hP.from c1.1 c1.2 hx
    rw [hP.2 t (by omega)] at hy
    exact h s' t x y (by omega) (by omega) h3 (by omega) k3 hy
  · rw [hP.2 s (by omega)] at hx
    by_cases c2 : a' ≤ t ∧ t < b'
    · obtain ⟨t', k1, k2, k3⟩ := hP.from c2.1 c2.2 hy
      exact h s t' x y h1 (by omega) (by omega) (by omega) hx k3
    · rw [hP.2 t (by omega)] at hy
      exact h s t x y h1 h2 h3 h4 hx hy
theorem Glue.done {a b a' b' : Nat} {zs : List Cl} (h : Glue a b a' b' zs) (hs : SrtI a' b' zs) : SrtI a b zs := fun s t x y h1 h2 h3 hx hy => by
  by_cases c : s < a' ∨ b' ≤ t
  · exact h s t x y h1 h2 h3 c hx hy
  · exact hs s t x y (by omega) h2 (by omega) hx hy
theorem Parted.left {a b mid : Nat} {pv : Cl} {zs us : List Cl} (h : Parted a b pv zs mid) (hP : PermR a mid zs us) : Parted a b pv us mid := by
  obtain ⟨h1, h2, h3, h4, h5⟩ := h
  refine ⟨h1, h2, by rw [hP.2 mid (.inr (Nat.le_refl _))]; exact h3, fun t x k1 k2 hx => ?_, fun t x k1 k2 hx => ?_⟩
  · obtain ⟨t', q1, q2, q3⟩ := hP.from k1 k2 hx
    exact h4 t' x q1 q2 q3
  · rw [hP.2 t (.inr (by omega))] at hx
    exact h5 t x k1 k2 hx
theorem Parted.right {a b mid : Nat} {pv : Cl} {zs us : List Cl} (h : Parted a b pv zs mid) (hP : PermR (mid + 1) b zs us) : Parted a b pv us mid := by
  obtain ⟨h1, h2, h3, h4, h5⟩ := h
  refine ⟨h1, h2, by rw [hP.2 mid (.inl (by omega))]; exact h3, fun t x k1 k2 hx => ?_, fun t x k1 k2 hx => ?_⟩
  · rw [hP.2 t (.inl (by omega))] at hx
    exact h4 t x k1 k2 hx
  · obtain ⟨t', q1, q2, q3⟩ := hP.from (by omega) k2 hx
    exact h5 t' x (by omega) q2 q3
theorem Glue.left {a b a' b' mid : Nat} {pv : Cl} {zs : List Cl} (h : Glue a b a' b' zs) (hp : Parted a' b' pv zs mid) (hs : SrtI a' mid zs) : Glue a b (mid + 1) b' zs := fun s t x y h1 h2 h3 h4 hx hy => by
  obtain ⟨p1, p2, p3, p4, p5⟩ := hp
  by_cases c : s < a' ∨ b' ≤ t
  · exact h s t x y h1 h2 h3 c hx hy
  · have hx' : s < mid → x.bg < pv.bg := fun hh => p4 s x (by omega) hh hx
    have hy' : mid < t → pv.bg ≤ y.bg := fun hh => p5 t y hh (by omega) hy
    rcases Nat.lt_trichotomy t mid with k | k | k
    · exact hs s t x y (by omega) h2 k hx hy
    · subst k; rw [p3] at hy; cases hy
      have := hx' (by omega); omega
    · have := hy' k
      rcases Nat.lt_or_ge s mid with k2 | k2
      · have := hx' k2; omega
      · obtain rfl : s = mid := by omega
        rw [p3] at hx; cases hx; omega
theorem Glue.right {a b a' b' mid : Nat} {pv : Cl} {zs : List Cl} (h : Glue a b a' b' zs) (hp : Parted a' b' pv zs mid) (hs : SrtI (mid + 1) b' zs) : Glue a b a' mid zs := fun s t x y h1 h2 h3 h4 hx hy => by
  obtain ⟨p1, p2, p3, p4, p5⟩ := hp
  by_cases c : s < a' ∨ b' ≤ t
  · exact h s t x y h1 h2 h3 c hx hy
  · have hx' : s < mid → x.bg < pv.bg := fun hh => p4 s x (by omega) hh hx
    have hy' : mid < t → pv.bg ≤ y.bg := fun hh => p5 t y hh (by omega) hy
    rcases Nat.lt_trichotomy s mid with k | k | k
    · have := hx' k
      rcases Nat.lt_or_ge mid t with k2 | k2
      · have := hy' k2; omega
      · obtain rfl : t = mid := by omega
        rw [p3] at hy; cases hy; omega
    · subst k; rw [p3] at hx; cases hx
      have := hy' (by omega); omega
    · exact hs s t x y (by omega) h2 (by omega) hx hy
def Dst (zs : List Cl) : Prop := (zs.map fun c => c.bg).Nodup
theorem Dst.perm {a b : Nat} {xs zs : List Cl} (h : Dst xs) (hP : PermR a b xs zs) : Dst zs := ((hP.1.map _).nodup_iff).2 h
theorem Dst.at {zs : List Cl} (h : Dst zs) {s t : Nat} {x y : Cl} (hst : s < t) (hx : zs[s]? = some x) (hy : zs[t]? = some y) : x.bg ≠ y.bg := by
  obtain ⟨q1, rfl⟩ := List.getElem?_eq_some_iff.1 hx
  obtain ⟨q2, rfl⟩ := List.getElem?_eq_some_iff.1 hy
  have := List.pairwise_iff_getElem.1 h s t (by simpa using q1) (by simpa using q2) hst
  simpa using this
theorem LoR.right {a b mid : Nat} {pv : Cl} {zs : List Cl} (h : LoR a b zs) (hp : Parted a b pv zs mid) (hd : Dst zs) : LoR (mid + 1) b zs := fun s t x y h1 h2 h3 hx hy => by
  obtain ⟨p1, p2, p3, p4, p5⟩ := hp
  rcases Nat.lt_or_ge s a with k | k
  · exact h s t x y k (by omega) h3 hx hy
  · have := p5 t y (by omega) h3 hy
    have := hd.at (by omega) p3 hy
    rcases Nat.lt_or_ge s mid with k2 | k2
    · have := p4 s x k k2 hx; omega
    · obtain rfl : s = mid := by omega
      rw [p3] at hx; cases hx; omega
theorem LoR.left {a b mid : Nat} {zs : List Cl} (h : LoR a b zs) (hm : mid ≤ b) : LoR a mid zs := fun s t x y h1 h2 h3 hx hy => h s t x y h1 h2 (by omega) hx hy

set_option maxHeartbeats 4000000 in
theorem pdq_spec (ao : Option Addr) (n cap : Nat) (hn2 : n < 128) : ∀ (μ a b lim : Nat) (xs : List Cl) (w : World) (S : FP), μ = b - a → xs.length = n → a ≤ b → b ≤ n → lim ≤ 1000 → (xs ≠ [] → ∃ g, ao = some ⟨g, 0, none⟩) → Dst xs → LoR a b xs → Sep [own ao cap 41 9 encCl xs] w S → (∀ b, S b → b < w.heap.size) →
    Trip Tryd.prog 48 #[.slice ao n cap, .int .i64 a, .int .i64 b, .int .i64 lim, .func (.func 39) #[] #[]] w S fun v L => ∃ zs, v = .tuple #[] ∧ PermR a b xs zs ∧ SrtI a b zs ∧ L = [own ao cap 41 9 encCl zs] := by
  intro μ
  induction μ using Nat.strongRecOn with
  | _ μ ih =>
  intro a b lim xs w S hμ hn hab hb hlim hao hdst hlo hS hd
  refine Trip.of_x (L := [own ao cap 41 9 encCl xs]) Tryd.func48 (by kernel_rfl) rfl Tryd.ntmps48 Tryd.results48 rfl (ctx_ok _) hS hd ?_
  refine loopI (σ := Nat × Nat × Nat × List Cl × Bool × Bool) (fun s => [(0, .slice ao n cap), (1, .int .i64 s.1), (2, .int .i64 s.2.1), (3, .int .i64 s.2.2.1), (4, .func (.func 39) #[] #[]), (10, .bool s.2.2.2.2.1), (11, .bool s.2.2.2.2.2)]) (fun s => [own ao cap 41 9 encCl s.2.2.2.1])
    (fun s => a ≤ s.1 ∧ s.1 ≤ s.2.1 ∧ s.2.1 ≤ b ∧ s.2.2.1 ≤ 1000 ∧ PermR a b xs s.2.2.2.1 ∧ LoR s.1 s.2.1 s.2.2.2.1 ∧ Glue a b s.1 s.2.1 s.2.2.2.1) (fun s => s.2.1 - s.1) (a, b, lim, xs, true, true)
    ⟨rfl, rfl, rfl, rfl, rfl, rfl, rfl, trivial⟩ (.refl _) ⟨Nat.le_refl _, hab, Nat.le_refl _, hlim, PermR.refl _, hlo, fun s t x y h1 h2 h3 h4 => by have h4 : s < a ∨ b ≤ t := h4; omega⟩ ?_
  rintro ⟨a', b', lm, zs, wb, wp⟩ ⟨h1, h2, h3, h4, hP, hL, hG⟩
  have h1 : a ≤ a' := h1
  have h2 : a' ≤ b' := h2
  have h3 : b' ≤ b := h3
  have h4 : lm ≤ 1000 := h4
  have hP : PermR a b xs zs := hP
  have hL : LoR a' b' zs := hL
  have hG : Glue a b a' b' zs := hG
  have hzl : zs.length = n := hP.len.trans hn
  have hao' : ∀ {ys : List Cl}, ys.length = n → ys ≠ [] → ∃ g, ao = some ⟨g, 0, none⟩ := fun {ys} hy hne => hao (by rintro rfl; cases ys with | nil => exact hne rfl | cons _ _ => simp at hn; simp at hy; omega)
  refine ⟨((b' - a' : Nat) : Int), by show _ = IntKind.i64.wrap ((b' : Int) - (a' : Int)); rw [show ((b' : Int) - a') = ((b' - a' : Nat) : Int) by omega]; exact wrap_i64 (by omega) (by omega), ?_⟩
  refine ⟨fun _ => ?_, fun h => ?_⟩
  · refine callP [0] (fun w S hR hB hS hd => insP_spec ao n cap a' b' zs (hao' hzl) hzl h2 (by omega) (by omega) w S hS hd) ?_
    rintro _ _ ⟨us, rfl, hPu, hSu, rfl⟩
    exact ⟨_, .refl _, us, rfl, hP.trans (hPu.wide h1 h3), (hG.perm hPu h1 h3).done hSu, rfl⟩
  have hlen : 12 < b' - a' := by have := of_decide_eq_false h; omega
  clear h
  obtain ⟨g, rfl⟩ := hao' hzl (by rintro rfl; simp at hzl; omega)
  refine ⟨fun _ => ?_, fun hne => ?_⟩
  · refine callP [0] (fun w S hR hB hS hd => heap_spec g n cap a' b' zs hzl (by omega) (by omega) (by omega) w S hS hd) ?_
    rintro _ _ ⟨us, rfl, hPu, hSu, rfl⟩
    exact ⟨_, .refl _, us, rfl, hP.trans (hPu.wide h1 h3), (hG.perm hPu h1 h3).done hSu, rfl⟩
  have hlm : lm ≠ 0 := by have : ¬ (lm : Int) = 0 := of_decide_eq_false hne; omega
  clear hne
  cases wb with
  | false =>
    refine ⟨fun _ => ?_, nofun⟩
    refine callP [0] (fun w S hR hB hS hd => break_spec (.func (.func 39) #[] #[]) g n cap a' b' zs hzl hn2 (by omega) (by omega) w S hS hd) ?_
    rintro _ _ ⟨us, rfl, hPu, rfl⟩
    have hul : us.length = n := hPu.len.trans hzl
    refine ⟨((lm - 1 : Nat) : Int), by show _ = IntKind.i64.wrap ((lm : Int) - 1); rw [show ((lm : Int) - 1) = ((lm - 1 : Nat) : Int) by omega]; exact wrap_i64 (by omega) (by omega), ?_⟩
    refine callP [] (fun w S hR hB hS hd => choose_spec g n cap a' b' us hul (by omega) (by omega) (by omega) w S ((hB _ (lget_mem (i := 0) rfl)).own (fun _ _ => rfl) (by decide)) hd) ?_
    rintro _ _ ⟨p, hh, rfl, q1, q2, rfl⟩
    refine ⟨fun _ => ?_, fun _ => ?_⟩
    · refine callP [0] (fun w S hR hB hS hd => reverse_spec (.func (.func 39) #[] #[]) g n cap a' b' us hul (by omega) (by omega) (by omega) w S hS hd) ?_
      rintro _ _ ⟨us2, rfl, hPr, rfl⟩
      replace hPu : PermR a' b' zs us2 := hPu.trans hPr
      replace hul : us2.length = n := hPr.len.trans hul
      refine ⟨((b' - 1 : Nat) : Int), by show _ = IntKind.i64.wrap ((b' : Int) - 1); rw [show ((b' : Int) - 1) = ((b' - 1 : Nat) : Int) by omega]; exact wrap_i64 (by omega) (by omega), ?_⟩
      refine ⟨((p - a' : Nat) : Int), by show _ = IntKind.i64.wrap ((p : Int) - (a' : Int)); rw [show ((p : Int) - a') = ((p - a' : Nat) : Int) by omega]; exact wrap_i64 (by omega) (by omega), ?_⟩
      refine ⟨((b' - 1 - (p - a') : Nat) : Int), by rw [show (((b' - 1 : Nat) : Int) - ((p - a' : Nat) : Int)) = ((b' - 1 - (p - a') : Nat) : Int) by omega]; exact wrap_i64 (by omega) (by omega), ?_⟩
      obtain ⟨q3, q4⟩ : a' ≤ b' - 1 - (p - a') ∧ b' - 1 - (p - a') < b' := by omega
      generalize b' - 1 - (p - a') = p2 at q3 q4 ⊢
      clear q1 q2
      have q1 : a' ≤ p2 := q3
      have q2 : p2 < b' := q4
      refine ⟨nofun, fun _ => ?_⟩
      refine ⟨nofun, fun _ => ?_⟩
      refine ⟨nofun, fun _ => ?_⟩
      refine Or.inl ⟨by kernel_rfl, ?_⟩
      refine ⟨fun h => ?_, fun h => ?_⟩
      · have ha0 : 0 < a' := by
          have : (a' : Int) > 0 := of_decide_eq_true h
          omega
        clear h
        obtain ⟨x, hx⟩ : ∃ x, us2[a' - 1]? = some x := ⟨us2[a' - 1]'(by omega), by simp [show a' - 1 < us2.length by omega]⟩
        obtain ⟨y, hy⟩ : ∃ x, us2[p2]? = some x := ⟨us2[p2]'(by omega), by simp [show p2 < us2.length by omega]⟩
        have hlt : x.bg < y.bg := (hL.perm hPu) (a' - 1) p2 x y (by omega) q1 q2 hx hy
        refine ⟨((a' - 1 : Nat) : Int), by show _ = IntKind.i64.wrap ((a' : Int) - 1); rw [show ((a' : Int) - 1) = ((a' - 1 : Nat) : Int) by omega]; exact wrap_i64 (by omega) (by omega), ?_⟩
        refine ⟨a' - 1, rfl, by omega, ?_⟩
        refine ⟨_, ldOA 0 (a' - 1) rfl (fun _ _ => rfl) hx rfl rfl rfl (by show 0 + (a' - 1) * 9 = (a' - 1) * 9; omega), ?_⟩
        refine ⟨p2, rfl, by omega, ?_⟩
        refine ⟨_, ldOA 0 (p2) rfl (fun _ _ => rfl) hy rfl rfl rfl (by show 0 + (p2) * 9 = (p2) * 9; omega), ?_⟩
        refine callQ [] (fun w S hR hB hS hd => cmpBg_spec x y w S hd) ?_
        have hcmp : cmpZ x.bg y.bg < 0 := cmpZ_lt.2 hlt
        refine ⟨fun hc => ?_, fun _ => ?_⟩
        · have hc : (!decide (cmpZ x.bg y.bg < 0)) = true := hc
          rw [decide_eq_true hcmp] at hc; cases hc
        refine callP [0] (fun w S hR hB hS hd => partition_spec g n cap a' b' p2 us2 hul (by omega) (by omega) q1 q2 w S hS hd) ?_
        rintro _ _ ⟨mid, bo, vs, pv, rfl, hPv, hpt, rfl⟩
        have hvl : vs.length = n := hPv.len.trans hul
        have hPz : PermR a' b' zs vs := hPu.trans hPv
        have hLv : LoR a' b' vs := hL.perm hPz
        have hGv : Glue a b a' b' vs := hG.perm hPz h1 h3
        have hdv : Dst vs := (hdst.perm hP).perm hPz
        have hPx : PermR a b xs vs := hP.trans (hPz.wide h1 h3)
        obtain ⟨p1, p2, _, _, _⟩ := id hpt
        refine ⟨((mid - a' : Nat) : Int), by show _ = IntKind.i64.wrap ((mid : Int) - (a' : Int)); rw [show ((mid : Int) - a') = ((mid - a' : Nat) : Int) by omega]; exact wrap_i64 (by omega) (by omega), ?_⟩
        refine ⟨((b' - mid : Nat) : Int), by show _ = IntKind.i64.wrap ((b' : Int) - (mid : Int)); rw [show ((b' : Int) - mid) = ((b' - mid : Nat) : Int) by omega]; exact wrap_i64 (by omega) (by omega), ?_⟩
        refine ⟨by decide, (((b' - a') / 8 : Nat) : Int), by rw [show (((b' - a' : Nat)) : Int).tdiv 8 = (((b' - a') / 8 : Nat) : Int) from rfl]; exact wrap_i64 (by omega) (by omega), ?_⟩
        refine ⟨fun _ => ?_, fun _ => ?_⟩
        · refine callP [0] (fun w S hR hB hS hd => ih (mid - a') (by omega) a' mid (lm - 1) vs w S rfl hvl p1 (by omega) (by omega) (hao' hvl) hdv (hLv.left (by omega)) hS hd) ?_
          rintro _ _ ⟨ws, rfl, hPw, hSw, rfl⟩
          have hpw := hpt.left hPw
          refine ⟨((mid + 1 : Nat) : Int), by rw [show ((mid : Int) + 1) = ((mid + 1 : Nat) : Int) by omega]; exact wrap_i64 (by omega) (by omega), ?_⟩
          exact backI (mid + 1, b', (lm - 1), ws, _, _) (by show b' - (mid + 1) < b' - a'; omega) ⟨by show a ≤ mid + 1; omega, by show mid + 1 ≤ b'; omega, h3, by show (lm - 1) ≤ 1000; omega, hPx.trans (hPw.wide h1 (by omega)), (hLv.perm (hPw.wide (Nat.le_refl _) (by omega))).right hpw (hdv.perm hPw), (hGv.perm (hPw.wide (Nat.le_refl _) (by omega)) h1 h3).left hpw hSw⟩ ⟨rfl, rfl, rfl, rfl, rfl, rfl, rfl, trivial⟩ (.refl _)
        · refine ⟨((mid + 1 : Nat) : Int), by rw [show ((mid : Int) + 1) = ((mid + 1 : Nat) : Int) by omega]; exact wrap_i64 (by omega) (by omega), ?_⟩
          refine callP [0] (fun w S hR hB hS hd => ih (b' - (mid + 1)) (by omega) (mid + 1) b' (lm - 1) vs w S rfl hvl (by omega) (by omega) (by omega) (hao' hvl) hdv (hLv.right hpt hdv) hS hd) ?_
          rintro _ _ ⟨ws, rfl, hPw, hSw, rfl⟩
          have hpw := hpt.right hPw
          have hLw : LoR a' mid ws := (hLv.perm (hPw.wide (show a' ≤ mid + 1 by omega) (Nat.le_refl b'))).left (show mid ≤ b' by omega)
          exact backI (a', mid, (lm - 1), ws, _, _) (by show mid - a' < b' - a'; omega) ⟨h1, p1, by show mid ≤ b; omega, by show (lm - 1) ≤ 1000; omega, hPx.trans (hPw.wide (by omega) h3), hLw, (hGv.perm (hPw.wide (by omega) (Nat.le_refl _)) h1 h3).right hpw hSw⟩ ⟨rfl, rfl, rfl, rfl, rfl, rfl, rfl, trivial⟩ (.refl _)
      · clear h
        refine ⟨nofun, fun _ => ?_⟩
        refine callP [0] (fun w S hR hB hS hd => partition_spec g n cap a' b' p2 us2 hul (by omega) (by omega) q1 q2 w S hS hd) ?_
        rintro _ _ ⟨mid, bo, vs, pv, rfl, hPv, hpt, rfl⟩
        have hvl : vs.length = n := hPv.len.trans hul
        have hPz : PermR a' b' zs vs := hPu.trans hPv
        have hLv : LoR a' b' vs := hL.perm hPz
        have hGv : Glue a b a' b' vs := hG.perm hPz h1 h3
        have hdv : Dst vs := (hdst.perm hP).perm hPz
        have hPx : PermR a b xs vs := hP.trans (hPz.wide h1 h3)
        obtain ⟨p1, p2, _, _, _⟩ := id hpt
        refine ⟨((mid - a' : Nat) : Int), by show _ = IntKind.i64.wrap ((mid : Int) - (a' : Int)); rw [show ((mid : Int) - a') = ((mid - a' : Nat) : Int) by omega]; exact wrap_i64 (by omega) (by omega), ?_⟩
        refine ⟨((b' - mid : Nat) : Int), by show _ = IntKind.i64.wrap ((b' : Int) - (mid : Int)); rw [show ((b' : Int) - mid) = ((b' - mid : Nat) : Int) by omega]; exact wrap_i64 (by omega) (by omega), ?_⟩
        refine ⟨by decide, (((b' - a') / 8 : Nat) : Int), by rw [show (((b' - a' : Nat)) : Int).tdiv 8 = (((b' - a') / 8 : Nat) : Int) from rfl]; exact wrap_i64 (by omega) (by omega), ?_⟩
        refine ⟨fun _ => ?_, fun _ => ?_⟩
        · refine callP [0] (fun w S hR hB hS hd => ih (mid - a') (by omega) a' mid (lm - 1) vs w S rfl hvl p1 (by omega) (by omega) (hao' hvl) hdv (hLv.left (by omega)) hS hd) ?_
          rintro _ _ ⟨ws, rfl, hPw, hSw, rfl⟩
          have hpw := hpt.left hPw
          refine ⟨((mid + 1 : Nat) : Int), by rw [show ((mid : Int) + 1) = ((mid + 1 : Nat) : Int) by omega]; exact wrap_i64 (by omega) (by omega), ?_⟩
          exact backI (mid + 1, b', (lm - 1), ws, _, _) (by show b' - (mid + 1) < b' - a'; omega) ⟨by show a ≤ mid + 1; omega, by show mid + 1 ≤ b'; omega, h3, by show (lm - 1) ≤ 1000; omega, hPx.trans (hPw.wide h1 (by omega)), (hLv.perm (hPw.wide (Nat.le_refl _) (by omega))).right hpw (hdv.perm hPw), (hGv.perm (hPw.wide (Nat.le_refl _) (by omega)) h1 h3).left hpw hSw⟩ ⟨rfl, rfl, rfl, rfl, rfl, rfl, rfl, trivial⟩ (.refl _)
        · refine ⟨((mid + 1 : Nat) : Int), by rw [show ((mid : Int) + 1) = ((mid + 1 : Nat) : Int) by omega]; exact wrap_i64 (by omega) (by omega), ?_⟩
          refine callP [0] (fun w S hR hB hS hd => ih (b' - (mid + 1)) (by omega) (mid + 1) b' (lm - 1) vs w S rfl hvl (by omega) (by omega) (by omega) (hao' hvl) hdv (hLv.right hpt hdv) hS hd) ?_
          rintro _ _ ⟨ws, rfl, hPw, hSw, rfl⟩
          have hpw := hpt.right hPw
          have hLw : LoR a' mid ws := (hLv.perm (hPw.wide (show a' ≤ mid + 1 by omega) (Nat.le_refl b'))).left (show mid ≤ b' by omega)
          exact backI (a', mid, (lm - 1), ws, _, _) (by show mid - a' < b' - a'; omega) ⟨h1, p1, by show mid ≤ b; omega, by show (lm - 1) ≤ 1000; omega, hPx.trans (hPw.wide (by omega) h3), hLw, (hGv.perm (hPw.wide (by omega) (Nat.le_refl _)) h1 h3).right hpw hSw⟩ ⟨rfl, rfl, rfl, rfl, rfl, rfl, rfl, trivial⟩ (.refl _)
    · refine ⟨nofun, fun _ => ?_⟩
      refine ⟨nofun, fun _ => ?_⟩
      refine ⟨nofun, fun _ => ?_⟩
      refine Or.inl ⟨by kernel_rfl, ?_⟩
      refine ⟨fun h => ?_, fun h => ?_⟩
      · have ha0 : 0 < a' := by
          have : (a' : Int) > 0 := of_decide_eq_true h
          omega
        clear h
        obtain ⟨x, hx⟩ : ∃ x, us[a' - 1]? = some x := ⟨us[a' - 1]'(by omega), by simp [show a' - 1 < us.length by omega]⟩
        obtain ⟨y, hy⟩ : ∃ x, us[p]? = some x := ⟨us[p]'(by omega), by simp [show p < us.length by omega]⟩
        have hlt : x.bg < y.bg := (hL.perm hPu) (a' - 1) p x y (by omega) q1 q2 hx hy
        refine ⟨((a' - 1 : Nat) : Int), by show _ = IntKind.i64.wrap ((a' : Int) - 1); rw [show ((a' : Int) - 1) = ((a' - 1 : Nat) : Int) by omega]; exact wrap_i64 (by omega) (by omega), ?_⟩
        refine ⟨a' - 1, rfl, by omega, ?_⟩
        refine ⟨_, ldOA 0 (a' - 1) rfl (fun _ _ => rfl) hx rfl rfl rfl (by show 0 + (a' - 1) * 9 = (a' - 1) * 9; omega), ?_⟩
        refine ⟨p, rfl, by omega, ?_⟩
        refine ⟨_, ldOA 0 (p) rfl (fun _ _ => rfl) hy rfl rfl rfl (by show 0 + (p) * 9 = (p) * 9; omega), ?_⟩
        refine callQ [] (fun w S hR hB hS hd => cmpBg_spec x y w S hd) ?_
        have hcmp : cmpZ x.bg y.bg < 0 := cmpZ_lt.2 hlt
        refine ⟨fun hc => ?_, fun _ => ?_⟩
        · have hc : (!decide (cmpZ x.bg y.bg < 0)) = true := hc
          rw [decide_eq_true hcmp] at hc; cases hc
        refine callP [0] (fun w S hR hB hS hd => partition_spec g n cap a' b' p us hul (by omega) (by omega) q1 q2 w S hS hd) ?_
        rintro _ _ ⟨mid, bo, vs, pv, rfl, hPv, hpt, rfl⟩
        have hvl : vs.length = n := hPv.len.trans hul
        have hPz : PermR a' b' zs vs := hPu.trans hPv
        have hLv : LoR a' b' vs := hL.perm hPz
        have hGv : Glue a b a' b' vs := hG.perm hPz h1 h3
        have hdv : Dst vs := (hdst.perm hP).perm hPz
        have hPx : PermR a b xs vs := hP.trans (hPz.wide h1 h3)
        obtain ⟨p1, p2, _, _, _⟩ := id hpt
        refine ⟨((mid - a' : Nat) : Int), by show _ = IntKind.i64.wrap ((mid : Int) - (a' : Int)); rw [show ((mid : Int) - a') = ((mid - a' : Nat) : Int) by omega]; exact wrap_i64 (by omega) (by omega), ?_⟩
        refine ⟨((b' - mid : Nat) : Int), by show _ = IntKind.i64.wrap ((b' : Int) - (mid : Int)); rw [show ((b' : Int) - mid) = ((b' - mid : Nat) : Int) by omega]; exact wrap_i64 (by omega) (by omega), ?_⟩
        refine ⟨by decide, (((b' - a') / 8 : Nat) : Int), by rw [show (((b' - a' : Nat)) : Int).tdiv 8 = (((b' - a') / 8 : Nat) : Int) from rfl]; exact wrap_i64 (by omega) (by omega), ?_⟩
        refine ⟨fun _ => ?_, fun _ => ?_⟩
        · refine callP [0] (fun w S hR hB hS hd => ih (mid - a') (by omega) a' mid (lm - 1) vs w S rfl hvl p1 (by omega) (by omega) (hao' hvl) hdv (hLv.left (by omega)) hS hd) ?_
          rintro _ _ ⟨ws, rfl, hPw, hSw, rfl⟩
          have hpw := hpt.left hPw
          refine ⟨((mid + 1 : Nat) : Int), by rw [show ((mid : Int) + 1) = ((mid + 1 : Nat) : Int) by omega]; exact wrap_i64 (by omega) (by omega), ?_⟩
          exact backI (mid + 1, b', (lm - 1), ws, _, _) (by show b' - (mid + 1) < b' - a'; omega) ⟨by show a ≤ mid + 1; omega, by show mid + 1 ≤ b'; omega, h3, by show (lm - 1) ≤ 1000; omega, hPx.trans (hPw.wide h1 (by omega)), (hLv.perm (hPw.wide (Nat.le_refl _) (by omega))).right hpw (hdv.perm hPw), (hGv.perm (hPw.wide (Nat.le_refl _) (by omega)) h1 h3).left hpw hSw⟩ ⟨rfl, rfl, rfl, rfl, rfl, rfl, rfl, trivial⟩ (.refl _)
        · refine ⟨((mid + 1 : Nat) : Int), by rw [show ((mid : Int) + 1) = ((mid + 1 : Nat) : Int) by omega]; exact wrap_i64 (by omega) (by omega), ?_⟩
          refine callP [0] (fun w S hR hB hS hd => ih (b' - (mid + 1)) (by omega) (mid + 1) b' (lm - 1) vs w S rfl hvl (by omega) (by omega) (by omega) (hao' hvl) hdv (hLv.right hpt hdv) hS hd) ?_
          rintro _ _ ⟨ws, rfl, hPw, hSw, rfl⟩
          have hpw := hpt.right hPw
          have hLw : LoR a' mid ws := (hLv.perm (hPw.wide (show a' ≤ mid + 1 by omega) (Nat.le_refl b'))).left (show mid ≤ b' by omega)
          exact backI (a', mid, (lm - 1), ws, _, _) (by show mid - a' < b' - a'; omega) ⟨h1, p1, by show mid ≤ b; omega, by show (lm - 1) ≤ 1000; omega, hPx.trans (hPw.wide (by omega) h3), hLw, (hGv.perm (hPw.wide (by omega) (Nat.le_refl _)) h1 h3).right hpw hSw⟩ ⟨rfl, rfl, rfl, rfl, rfl, rfl, rfl, trivial⟩ (.refl _)
      · clear h
        refine ⟨nofun, fun _ => ?_⟩
        refine callP [0] (fun w S hR hB hS hd => partition_spec g n cap a' b' p us hul (by omega) (by omega) q1 q2 w S hS hd) ?_
        rintro _ _ ⟨mid, bo, vs, pv, rfl, hPv, hpt, rfl⟩
        have hvl : vs.length = n := hPv.len.trans hul
        have hPz : PermR a' b' zs vs := hPu.trans hPv
        have hLv : LoR a' b' vs := hL.perm hPz
        have hGv : Glue a b a' b' vs := hG.perm hPz h1 h3
        have hdv : Dst vs := (hdst.perm hP).perm hPz
        have hPx : PermR a b xs vs := hP.trans (hPz.wide h1 h3)
        obtain ⟨p1, p2, _, _, _⟩ := id hpt
        refine ⟨((mid - a' : Nat) : Int), by show _ = IntKind.i64.wrap ((mid : Int) - (a' : Int)); rw [show ((mid : Int) - a') = ((mid - a' : Nat) : Int) by omega]; exact wrap_i64 (by omega) (by omega), ?_⟩
        refine ⟨((b' - mid : Nat) : Int), by show _ = IntKind.i64.wrap ((b' : Int) - (mid : Int)); rw [show ((b' : Int) - mid) = ((b' - mid : Nat) : Int) by omega]; exact wrap_i64 (by omega) (by omega), ?_⟩
        refine ⟨by decide, (((b' - a') / 8 : Nat) : Int), by rw [show (((b' - a' : Nat)) : Int).tdiv 8 = (((b' - a') / 8 : Nat) : Int) from rfl]; exact wrap_i64 (by omega) (by omega), ?_⟩
        refine ⟨fun _ => ?_, fun _ => ?_⟩
        · refine callP [0] (fun w S hR hB hS hd => ih (mid - a') (by omega) a' mid (lm - 1) vs w S rfl hvl p1 (by omega) (by omega) (hao' hvl) hdv (hLv.left (by omega)) hS hd) ?_
          rintro _ _ ⟨ws, rfl, hPw, hSw, rfl⟩
          have hpw := hpt.left hPw
          refine ⟨((mid + 1 : Nat) : Int), by rw [show ((mid : Int) + 1) = ((mid + 1 : Nat) : Int) by omega]; exact wrap_i64 (by omega) (by omega), ?_⟩
          exact backI (mid + 1, b', (lm - 1), ws, _, _) (by show b' - (mid + 1) < b' - a'; omega) ⟨by show a ≤ mid + 1; omega, by show mid + 1 ≤ b'; omega, h3, by show (lm - 1) ≤ 1000; omega, hPx.trans (hPw.wide h1 (by omega)), (hLv.perm (hPw.wide (Nat.le_refl _) (by omega))).right hpw (hdv.perm hPw), (hGv.perm (hPw.wide (Nat.le_refl _) (by omega)) h1 h3).left hpw hSw⟩ ⟨rfl, rfl, rfl, rfl, rfl, rfl, rfl, trivial⟩ (.refl _)
        · refine ⟨((mid + 1 : Nat) : Int), by rw [show ((mid : Int) + 1) = ((mid + 1 : Nat) : Int) by omega]; exact wrap_i64 (by omega) (by omega), ?_⟩
          refine callP [0] (fun w S hR hB hS hd => ih (b' - (mid + 1)) (by omega) (mid + 1) b' (lm - 1) vs w S rfl hvl (by omega) (by omega) (by omega) (hao' hvl) hdv (hLv.right hpt hdv) hS hd) ?_
          rintro _ _ ⟨ws, rfl, hPw, hSw, rfl⟩
          have hpw := hpt.right hPw
          have hLw : LoR a' mid ws := (hLv.perm (hPw.wide (show a' ≤ mid + 1 by omega) (Nat.le_refl b'))).left (show mid ≤ b' by omega)
          exact backI (a', mid, (lm - 1), ws, _, _) (by show mid - a' < b' - a'; omega) ⟨h1, p1, by show mid ≤ b; omega, by show (lm - 1) ≤ 1000; omega, hPx.trans (hPw.wide (by omega) h3), hLw, (hGv.perm (hPw.wide (by omega) (Nat.le_refl _)) h1 h3).right hpw hSw⟩ ⟨rfl, rfl, rfl, rfl, rfl, rfl, rfl, trivial⟩ (.refl _)
  | true =>
    refine ⟨nofun, fun _ => ?_⟩
    have hPu : PermR a' b' zs zs := PermR.refl _
    have hul : zs.length = n := hzl
    cases wp with
    | false =>
      refine callP [] (fun w S hR hB hS hd => choose_spec g n cap a' b' zs hul (by omega) (by omega) (by omega) w S ((hB _ (lget_mem (i := 0) rfl)).own (fun _ _ => rfl) (by decide)) hd) ?_
      rintro _ _ ⟨p, hh, rfl, q1, q2, rfl⟩
      refine ⟨fun _ => ?_, fun _ => ?_⟩
      · refine callP [0] (fun w S hR hB hS hd => reverse_spec (.func (.func 39) #[] #[]) g n cap a' b' zs hul (by omega) (by omega) (by omega) w S hS hd) ?_
        rintro _ _ ⟨us2, rfl, hPr, rfl⟩
        replace hPu : PermR a' b' zs us2 := hPu.trans hPr
        replace hul : us2.length = n := hPr.len.trans hul
        refine ⟨((b' - 1 : Nat) : Int), by show _ = IntKind.i64.wrap ((b' : Int) - 1); rw [show ((b' : Int) - 1) = ((b' - 1 : Nat) : Int) by omega]; exact wrap_i64 (by omega) (by omega), ?_⟩
        refine ⟨((p - a' : Nat) : Int), by show _ = IntKind.i64.wrap ((p : Int) - (a' : Int)); rw [show ((p : Int) - a') = ((p - a' : Nat) : Int) by omega]; exact wrap_i64 (by omega) (by omega), ?_⟩
        refine ⟨((b' - 1 - (p - a') : Nat) : Int), by rw [show (((b' - 1 : Nat) : Int) - ((p - a' : Nat) : Int)) = ((b' - 1 - (p - a') : Nat) : Int) by omega]; exact wrap_i64 (by omega) (by omega), ?_⟩
        obtain ⟨q3, q4⟩ : a' ≤ b' - 1 - (p - a') ∧ b' - 1 - (p - a') < b' := by omega
        generalize b' - 1 - (p - a') = p2 at q3 q4 ⊢
        clear q1 q2
        have q1 : a' ≤ p2 := q3
        have q2 : p2 < b' := q4
        refine ⟨fun _ => ?_, nofun⟩
        refine ⟨nofun, fun _ => ?_⟩
        refine ⟨nofun, fun _ => ?_⟩
        refine Or.inl ⟨by kernel_rfl, ?_⟩
        refine ⟨fun h => ?_, fun h => ?_⟩
        · have ha0 : 0 < a' := by
            have : (a' : Int) > 0 := of_decide_eq_true h
            omega
          clear h
          obtain ⟨x, hx⟩ : ∃ x, us2[a' - 1]? = some x := ⟨us2[a' - 1]'(by omega), by simp [show a' - 1 < us2.length by omega]⟩
          obtain ⟨y, hy⟩ : ∃ x, us2[p2]? = some x := ⟨us2[p2]'(by omega), by simp [show p2 < us2.length by omega]⟩
          have hlt : x.bg < y.bg := (hL.perm hPu) (a' - 1) p2 x y (by omega) q1 q2 hx hy
          refine ⟨((a' - 1 : Nat) : Int), by show _ = IntKind.i64.wrap ((a' : Int) - 1); rw [show ((a' : Int) - 1) = ((a' - 1 : Nat) : Int) by omega]; exact wrap_i64 (by omega) (by omega), ?_⟩
          refine ⟨a' - 1, rfl, by omega, ?_⟩
          refine ⟨_, ldOA 0 (a' - 1) rfl (fun _ _ => rfl) hx rfl rfl rfl (by show 0 + (a' - 1) * 9 = (a' - 1) * 9; omega), ?_⟩
          refine ⟨p2, rfl, by omega, ?_⟩
          refine ⟨_, ldOA 0 (p2) rfl (fun _ _ => rfl) hy rfl rfl rfl (by show 0 + (p2) * 9 = (p2) * 9; omega), ?_⟩
          refine callQ [] (fun w S hR hB hS hd => cmpBg_spec x y w S hd) ?_
          have hcmp : cmpZ x.bg y.bg < 0 := cmpZ_lt.2 hlt
          refine ⟨fun hc => ?_, fun _ => ?_⟩
          · have hc : (!decide (cmpZ x.bg y.bg < 0)) = true := hc
            rw [decide_eq_true hcmp] at hc; cases hc
          refine callP [0] (fun w S hR hB hS hd => partition_spec g n cap a' b' p2 us2 hul (by omega) (by omega) q1 q2 w S hS hd) ?_
          rintro _ _ ⟨mid, bo, vs, pv, rfl, hPv, hpt, rfl⟩
          have hvl : vs.length = n := hPv.len.trans hul
          have hPz : PermR a' b' zs vs := hPu.trans hPv
          have hLv : LoR a' b' vs := hL.perm hPz
          have hGv : Glue a b a' b' vs := hG.perm hPz h1 h3
          have hdv : Dst vs := (hdst.perm hP).perm hPz
          have hPx : PermR a b xs vs := hP.trans (hPz.wide h1 h3)
          obtain ⟨p1, p2, _, _, _⟩ := id hpt
          refine ⟨((mid - a' : Nat) : Int), by show _ = IntKind.i64.wrap ((mid : Int) - (a' : Int)); rw [show ((mid : Int) - a') = ((mid - a' : Nat) : Int) by omega]; exact wrap_i64 (by omega) (by omega), ?_⟩
          refine ⟨((b' - mid : Nat) : Int), by show _ = IntKind.i64.wrap ((b' : Int) - (mid : Int)); rw [show ((b' : Int) - mid) = ((b' - mid : Nat) : Int) by omega]; exact wrap_i64 (by omega) (by omega), ?_⟩
          refine ⟨by decide, (((b' - a') / 8 : Nat) : Int), by rw [show (((b' - a' : Nat)) : Int).tdiv 8 = (((b' - a') / 8 : Nat) : Int) from rfl]; exact wrap_i64 (by omega) (by omega), ?_⟩
          refine ⟨fun _ => ?_, fun _ => ?_⟩
          · refine callP [0] (fun w S hR hB hS hd => ih (mid - a') (by omega) a' mid lm vs w S rfl hvl p1 (by omega) (by omega) (hao' hvl) hdv (hLv.left (by omega)) hS hd) ?_
            rintro _ _ ⟨ws, rfl, hPw, hSw, rfl⟩
            have hpw := hpt.left hPw
            refine ⟨((mid + 1 : Nat) : Int), by rw [show ((mid : Int) + 1) = ((mid + 1 : Nat) : Int) by omega]; exact wrap_i64 (by omega) (by omega), ?_⟩
            exact backI (mid + 1, b', lm, ws, _, _) (by show b' - (mid + 1) < b' - a'; omega) ⟨by show a ≤ mid + 1; omega, by show mid + 1 ≤ b'; omega, h3, by show lm ≤ 1000; omega, hPx.trans (hPw.wide h1 (by omega)), (hLv.perm (hPw.wide (Nat.le_refl _) (by omega))).right hpw (hdv.perm hPw), (hGv.perm (hPw.wide (Nat.le_refl _) (by omega)) h1 h3).left hpw hSw⟩ ⟨rfl, rfl, rfl, rfl, rfl, rfl, rfl, trivial⟩ (.refl _)
          · refine ⟨((mid + 1 : Nat) : Int), by rw [show ((mid : Int) + 1) = ((mid + 1 : Nat) : Int) by omega]; exact wrap_i64 (by omega) (by omega), ?_⟩
            refine callP [0] (fun w S hR hB hS hd => ih (b' - (mid + 1)) (by omega) (mid + 1) b' lm vs w S rfl hvl (by omega) (by omega) (by omega) (hao' hvl) hdv (hLv.right hpt hdv) hS hd) ?_
            rintro _ _ ⟨ws, rfl, hPw, hSw, rfl⟩
            have hpw := hpt.right hPw
            have hLw : LoR a' mid ws := (hLv.perm (hPw.wide (show a' ≤ mid + 1 by omega) (Nat.le_refl b'))).left (show mid ≤ b' by omega)
            exact backI (a', mid, lm, ws, _, _) (by show mid - a' < b' - a'; omega) ⟨h1, p1, by show mid ≤ b; omega, by show lm ≤ 1000; omega, hPx.trans (hPw.wide (by omega) h3), hLw, (hGv.perm (hPw.wide (by omega) (Nat.le_refl _)) h1 h3).right hpw hSw⟩ ⟨rfl, rfl, rfl, rfl, rfl, rfl, rfl, trivial⟩ (.refl _)
        · clear h
          refine ⟨nofun, fun _ => ?_⟩
          refine callP [0] (fun w S hR hB hS hd => partition_spec g n cap a' b' p2 us2 hul (by omega) (by omega) q1 q2 w S hS hd) ?_
          rintro _ _ ⟨mid, bo, vs, pv, rfl, hPv, hpt, rfl⟩
          have hvl : vs.length = n := hPv.len.trans hul
          have hPz : PermR a' b' zs vs := hPu.trans hPv
          have hLv : LoR a' b' vs := hL.perm hPz
          have hGv : Glue a b a' b' vs := hG.perm hPz h1 h3
          have hdv : Dst vs := (hdst.perm hP).perm hPz
          have hPx : PermR a b xs vs := hP.trans (hPz.wide h1 h3)
          obtain ⟨p1, p2, _, _, _⟩ := id hpt
          refine ⟨((mid - a' : Nat) : Int), by show _ = IntKind.i64.wrap ((mid : Int) - (a' : Int)); rw [show ((mid : Int) - a') = ((mid - a' : Nat) : Int) by omega]; exact wrap_i64 (by omega) (by omega), ?_⟩
          refine ⟨((b' - mid : Nat) : Int), by show _ = IntKind.i64.wrap ((b' : Int) - (mid : Int)); rw [show ((b' : Int) - mid) = ((b' - mid : Nat) : Int) by omega]; exact wrap_i64 (by omega) (by omega), ?_⟩
          refine ⟨by decide, (((b' - a') / 8 : Nat) : Int), by rw [show (((b' - a' : Nat)) : Int).tdiv 8 = (((b' - a') / 8 : Nat) : Int) from rfl]; exact wrap_i64 (by omega) (by omega), ?_⟩
          refine ⟨fun _ => ?_, fun _ => ?_⟩
          · refine callP [0] (fun w S hR hB hS hd => ih (mid - a') (by omega) a' mid lm vs w S rfl hvl p1 (by omega) (by omega) (hao' hvl) hdv (hLv.left (by omega)) hS hd) ?_
            rintro _ _ ⟨ws, rfl, hPw, hSw, rfl⟩
            have hpw := hpt.left hPw
            refine ⟨((mid + 1 : Nat) : Int), by rw [show ((mid : Int) + 1) = ((mid + 1 : Nat) : Int) by omega]; exact wrap_i64 (by omega) (by omega), ?_⟩
            exact backI (mid + 1, b', lm, ws, _, _) (by show b' - (mid + 1) < b' - a'; omega) ⟨by show a ≤ mid + 1; omega, by show mid + 1 ≤ b'; omega, h3, by show lm ≤ 1000; omega, hPx.trans (hPw.wide h1 (by omega)), (hLv.perm (hPw.wide (Nat.le_refl _) (by omega))).right hpw (hdv.perm hPw), (hGv.perm (hPw.wide (Nat.le_refl _) (by omega)) h1 h3).left hpw hSw⟩ ⟨rfl, rfl, rfl, rfl, rfl, rfl, rfl, trivial⟩ (.refl _)
          · refine ⟨((mid + 1 : Nat) : Int), by rw [show ((mid : Int) + 1) = ((mid + 1 : Nat) : Int) by omega]; exact wrap_i64 (by omega) (by omega), ?_⟩
            refine callP [0] (fun w S hR hB hS hd => ih (b' - (mid + 1)) (by omega) (mid + 1) b' lm vs w S rfl hvl (by omega) (by omega) (by omega) (hao' hvl) hdv (hLv.right hpt hdv) hS hd) ?_
            rintro _ _ ⟨ws, rfl, hPw, hSw, rfl⟩
            have hpw := hpt.right hPw
            have hLw : LoR a' mid ws := (hLv.perm (hPw.wide (show a' ≤ mid + 1 by omega) (Nat.le_refl b'))).left (show mid ≤ b' by omega)
            exact backI (a', mid, lm, ws, _, _) (by show mid - a' < b' - a'; omega) ⟨h1, p1, by show mid ≤ b; omega, by show lm ≤ 1000; omega, hPx.trans (hPw.wide (by omega) h3), hLw, (hGv.perm (hPw.wide (by omega) (Nat.le_refl _)) h1 h3).right hpw hSw⟩ ⟨rfl, rfl, rfl, rfl, rfl, rfl, rfl, trivial⟩ (.refl _)
      · refine ⟨fun _ => ?_, nofun⟩
        refine ⟨nofun, fun _ => ?_⟩
        refine ⟨nofun, fun _ => ?_⟩
        refine Or.inl ⟨by kernel_rfl, ?_⟩
        refine ⟨fun h => ?_, fun h => ?_⟩
        · have ha0 : 0 < a' := by
            have : (a' : Int) > 0 := of_decide_eq_true h
            omega
          clear h
          obtain ⟨x, hx⟩ : ∃ x, zs[a' - 1]? = some x := ⟨zs[a' - 1]'(by omega), by simp [show a' - 1 < zs.length by omega]⟩
          obtain ⟨y, hy⟩ : ∃ x, zs[p]? = some x := ⟨zs[p]'(by omega), by simp [show p < zs.length by omega]⟩
          have hlt : x.bg < y.bg := (hL.perm hPu) (a' - 1) p x y (by omega) q1 q2 hx hy
          refine ⟨((a' - 1 : Nat) : Int), by show _ = IntKind.i64.wrap ((a' : Int) - 1); rw [show ((a' : Int) - 1) = ((a' - 1 : Nat) : Int) by omega]; exact wrap_i64 (by omega) (by omega), ?_⟩
          refine ⟨a' - 1, rfl, by omega, ?_⟩
          refine ⟨_, ldOA 0 (a' - 1) rfl (fun _ _ => rfl) hx rfl rfl rfl (by show 0 + (a' - 1) * 9 = (a' - 1) * 9; omega), ?_⟩
          refine ⟨p, rfl, by omega, ?_⟩
          refine ⟨_, ldOA 0 (p) rfl (fun _ _ => rfl) hy rfl rfl rfl (by show 0 + (p) * 9 = (p) * 9; omega), ?_⟩
          refine callQ [] (fun w S hR hB hS hd => cmpBg_spec x y w S hd) ?_
          have hcmp : cmpZ x.bg y.bg < 0 := cmpZ_lt.2 hlt
          refine ⟨fun hc => ?_, fun _ => ?_⟩
          · have hc : (!decide (cmpZ x.bg y.bg < 0)) = true := hc
            rw [decide_eq_true hcmp] at hc; cases hc
          refine callP [0] (fun w S hR hB hS hd => partition_spec g n cap a' b' p zs hul (by omega) (by omega) q1 q2 w S hS hd) ?_
          rintro _ _ ⟨mid, bo, vs, pv, rfl, hPv, hpt, rfl⟩
          have hvl : vs.length = n := hPv.len.trans hul
          have hPz : PermR a' b' zs vs := hPu.trans hPv
          have hLv : LoR a' b' vs := hL.perm hPz
          have hGv : Glue a b a' b' vs := hG.perm hPz h1 h3
          have hdv : Dst vs := (hdst.perm hP).perm hPz
          have hPx : PermR a b xs vs := hP.trans (hPz.wide h1 h3)
          obtain ⟨p1, p2, _, _, _⟩ := id hpt
          refine ⟨((mid - a' : Nat) : Int), by show _ = IntKind.i64.wrap ((mid : Int) - (a' : Int)); rw [show ((mid : Int) - a') = ((mid - a' : Nat) : Int) by omega]; exact wrap_i64 (by omega) (by omega), ?_⟩
          refine ⟨((b' - mid : Nat) : Int), by show _ = IntKind.i64.wrap ((b' : Int) - (mid : Int)); rw [show ((b' : Int) - mid) = ((b' - mid : Nat) : Int) by omega]; exact wrap_i64 (by omega) (by omega), ?_⟩
          refine ⟨by decide, (((b' - a') / 8 : Nat) : Int), by rw [show (((b' - a' : Nat)) : Int).tdiv 8 = (((b' - a') / 8 : Nat) : Int) from rfl]; exact wrap_i64 (by omega) (by omega), ?_⟩
          refine ⟨fun _ => ?_, fun _ => ?_⟩
          · refine callP [0] (fun w S hR hB hS hd => ih (mid - a') (by omega) a' mid lm vs w S rfl hvl p1 (by omega) (by omega) (hao' hvl) hdv (hLv.left (by omega)) hS hd) ?_
            rintro _ _ ⟨ws, rfl, hPw, hSw, rfl⟩
            have hpw := hpt.left hPw
            refine ⟨((mid + 1 : Nat) : Int), by rw [show ((mid : Int) + 1) = ((mid + 1 : Nat) : Int) by omega]; exact wrap_i64 (by omega) (by omega), ?_⟩
            exact backI (mid + 1, b', lm, ws, _, _) (by show b' - (mid + 1) < b' - a'; omega) ⟨by show a ≤ mid + 1; omega, by show mid + 1 ≤ b'; omega, h3, by show lm ≤ 1000; omega, hPx.trans (hPw.wide h1 (by omega)), (hLv.perm (hPw.wide (Nat.le_refl _) (by omega))).right hpw (hdv.perm hPw), (hGv.perm (hPw.wide (Nat.le_refl _) (by omega)) h1 h3).left hpw hSw⟩ ⟨rfl, rfl, rfl, rfl, rfl, rfl, rfl, trivial⟩ (.refl _)
          · refine ⟨((mid + 1 : Nat) : Int), by rw [show ((mid : Int) + 1) = ((mid + 1 : Nat) : Int) by omega]; exact wrap_i64 (by omega) (by omega), ?_⟩
            refine callP [0] (fun w S hR hB hS hd => ih (b' - (mid + 1)) (by omega) (mid + 1) b' lm vs w S rfl hvl (by omega) (by omega) (by omega) (hao' hvl) hdv (hLv.right hpt hdv) hS hd) ?_
            rintro _ _ ⟨ws, rfl, hPw, hSw, rfl⟩
            have hpw := hpt.right hPw
            have hLw : LoR a' mid ws := (hLv.perm (hPw.wide (show a' ≤ mid + 1 by omega) (Nat.le_refl b'))).left (show mid ≤ b' by omega)
            exact backI (a', mid, lm, ws, _, _) (by show mid - a' < b' - a'; omega) ⟨h1, p1, by show mid ≤ b; omega, by show lm ≤ 1000; omega, hPx.trans (hPw.wide (by omega) h3), hLw, (hGv.perm (hPw.wide (by omega) (Nat.le_refl _)) h1 h3).right hpw hSw⟩ ⟨rfl, rfl, rfl, rfl, rfl, rfl, rfl, trivial⟩ (.refl _)
        · clear h
          refine ⟨nofun, fun _ => ?_⟩
          refine callP [0] (fun w S hR hB hS hd => partition_spec g n cap a' b' p zs hul (by omega) (by omega) q1 q2 w S hS hd) ?_
          rintro _ _ ⟨mid, bo, vs, pv, rfl, hPv, hpt, rfl⟩
          have hvl : vs.length = n := hPv.len.trans hul
          have hPz : PermR a' b' zs vs := hPu.trans hPv
          have hLv : LoR a' b' vs := hL.perm hPz
          have hGv : Glue a b a' b' vs := hG.perm hPz h1 h3
          have hdv : Dst vs := (hdst.perm hP).perm hPz
          have hPx : PermR a b xs vs := hP.trans (hPz.wide h1 h3)
          obtain ⟨p1, p2, _, _, _⟩ := id hpt
          refine ⟨((mid - a' : Nat) : Int), by show _ = IntKind.i64.wrap ((mid : Int) - (a' : Int)); rw [show ((mid : Int) - a') = ((mid - a' : Nat) : Int) by omega]; exact wrap_i64 (by omega) (by omega), ?_⟩
          refine ⟨((b' - mid : Nat) : Int), by show _ = IntKind.i64.wrap ((b' : Int) - (mid : Int)); rw [show ((b' : Int) - mid) = ((b' - mid : Nat) : Int) by omega]; exact wrap_i64 (by omega) (by omega), ?_⟩
          refine ⟨by decide, (((b' - a') / 8 : Nat) : Int), by rw [show (((b' - a' : Nat)) : Int).tdiv 8 = (((b' - a') / 8 : Nat) : Int) from rfl]; exact wrap_i64 (by omega) (by omega), ?_⟩
          refine ⟨fun _ => ?_, fun _ => ?_⟩
          · refine callP [0] (fun w S hR hB hS hd => ih (mid - a') (by omega) a' mid lm vs w S rfl hvl p1 (by omega) (by omega) (hao' hvl) hdv (hLv.left (by omega)) hS hd) ?_
            rintro _ _ ⟨ws, rfl, hPw, hSw, rfl⟩
            have hpw := hpt.left hPw
            refine ⟨((mid + 1 : Nat) : Int), by rw [show ((mid : Int) + 1) = ((mid + 1 : Nat) : Int) by omega]; exact wrap_i64 (by omega) (by omega), ?_⟩
            exact backI (mid + 1, b', lm, ws, _, _) (by show b' - (mid + 1) < b' - a'; omega) ⟨by show a ≤ mid + 1; omega, by show mid + 1 ≤ b'; omega, h3, by show lm ≤ 1000; omega, hPx.trans (hPw.wide h1 (by omega)), (hLv.perm (hPw.wide (Nat.le_refl _) (by omega))).right hpw (hdv.perm hPw), (hGv.perm (hPw.wide (Nat.le_refl _) (by omega)) h1 h3).left hpw hSw⟩ ⟨rfl, rfl, rfl, rfl, rfl, rfl, rfl, trivial⟩ (.refl _)
          · refine ⟨((mid + 1 : Nat) : Int), by rw [show ((mid : Int) + 1) = ((mid + 1 : Nat) : Int) by omega]; exact wrap_i64 (by omega) (by omega), ?_⟩
            refine callP [0] (fun w S hR hB hS hd => ih (b' - (mid + 1)) (by omega) (mid + 1) b' lm vs w S rfl hvl (by omega) (by omega) (by omega) (hao' hvl) hdv (hLv.right hpt hdv) hS hd) ?_
            rintro _ _ ⟨ws, rfl, hPw, hSw, rfl⟩
            have hpw := hpt.right hPw
            have hLw : LoR a' mid ws := (hLv.perm (hPw.wide (show a' ≤ mid + 1 by omega) (Nat.le_refl b'))).left (show mid ≤ b' by omega)
            exact backI (a', mid, lm, ws, _, _) (by show mid - a' < b' - a'; omega) ⟨h1, p1, by show mid ≤ b; omega, by show lm ≤ 1000; omega, hPx.trans (hPw.wide (by omega) h3), hLw, (hGv.perm (hPw.wide (by omega) (Nat.le_refl _)) h1 h3).right hpw hSw⟩ ⟨rfl, rfl, rfl, rfl, rfl, rfl, rfl, trivial⟩ (.refl _)
    | true =>
      refine callP [] (fun w S hR hB hS hd => choose_spec g n cap a' b' zs hul (by omega) (by omega) (by omega) w S ((hB _ (lget_mem (i := 0) rfl)).own (fun _ _ => rfl) (by decide)) hd) ?_
      rintro _ _ ⟨p, hh, rfl, q1, q2, rfl⟩
      refine ⟨fun _ => ?_, fun _ => ?_⟩
      · refine callP [0] (fun w S hR hB hS hd => reverse_spec (.func (.func 39) #[] #[]) g n cap a' b' zs hul (by omega) (by omega) (by omega) w S hS hd) ?_
        rintro _ _ ⟨us2, rfl, hPr, rfl⟩
        replace hPu : PermR a' b' zs us2 := hPu.trans hPr
        replace hul : us2.length = n := hPr.len.trans hul
        refine ⟨((b' - 1 : Nat) : Int), by show _ = IntKind.i64.wrap ((b' : Int) - 1); rw [show ((b' : Int) - 1) = ((b' - 1 : Nat) : Int) by omega]; exact wrap_i64 (by omega) (by omega), ?_⟩
        refine ⟨((p - a' : Nat) : Int), by show _ = IntKind.i64.wrap ((p : Int) - (a' : Int)); rw [show ((p : Int) - a') = ((p - a' : Nat) : Int) by omega]; exact wrap_i64 (by omega) (by omega), ?_⟩
        refine ⟨((b' - 1 - (p - a') : Nat) : Int), by rw [show (((b' - 1 : Nat) : Int) - ((p - a' : Nat) : Int)) = ((b' - 1 - (p - a') : Nat) : Int) by omega]; exact wrap_i64 (by omega) (by omega), ?_⟩
        obtain ⟨q3, q4⟩ : a' ≤ b' - 1 - (p - a') ∧ b' - 1 - (p - a') < b' := by omega
        generalize b' - 1 - (p - a') = p2 at q3 q4 ⊢
        clear q1 q2
        have q1 : a' ≤ p2 := q3
        have q2 : p2 < b' := q4
        refine ⟨fun _ => ?_, nofun⟩
        refine ⟨fun _ => ?_, nofun⟩
        refine ⟨fun _ => ?_, fun h => absurd (of_decide_eq_false h) (by simp)⟩
        refine callP [0] (fun w S hR hB hS hd => partial_spec g n cap a' b' us2 hul (by omega) (by omega) (by omega) (hL.perm hPu) w S hS hd) ?_
        rintro _ _ ⟨bo2, us3, rfl, hPt, hSt, rfl⟩
        refine ⟨fun ht => ?_, fun _ => ?_⟩
        · exact ⟨_, .refl _, us3, rfl, hP.trans ((hPu.trans hPt).wide h1 h3), (hG.perm (hPu.trans hPt) h1 h3).done (hSt ht), rfl⟩
        replace hPu : PermR a' b' zs us3 := hPu.trans hPt
        replace hul : us3.length = n := hPt.len.trans hul
        refine Or.inl ⟨by kernel_rfl, ?_⟩
        refine ⟨fun h => ?_, fun h => ?_⟩
        · have ha0 : 0 < a' := by
            have : (a' : Int) > 0 := of_decide_eq_true h
            omega
          clear h
          obtain ⟨x, hx⟩ : ∃ x, us3[a' - 1]? = some x := ⟨us3[a' - 1]'(by omega), by simp [show a' - 1 < us3.length by omega]⟩
          obtain ⟨y, hy⟩ : ∃ x, us3[p2]? = some x := ⟨us3[p2]'(by omega), by simp [show p2 < us3.length by omega]⟩
          have hlt : x.bg < y.bg := (hL.perm hPu) (a' - 1) p2 x y (by omega) q1 q2 hx hy
          refine ⟨((a' - 1 : Nat) : Int), by show _ = IntKind.i64.wrap ((a' : Int) - 1); rw [show ((a' : Int) - 1) = ((a' - 1 : Nat) : Int) by omega]; exact wrap_i64 (by omega) (by omega), ?_⟩
          refine ⟨a' - 1, rfl, by omega, ?_⟩
          refine ⟨_, ldOA 0 (a' - 1) rfl (fun _ _ => rfl) hx rfl rfl rfl (by show 0 + (a' - 1) * 9 = (a' - 1) * 9; omega), ?_⟩
          refine ⟨p2, rfl, by omega, ?_⟩
          refine ⟨_, ldOA 0 (p2) rfl (fun _ _ => rfl) hy rfl rfl rfl (by show 0 + (p2) * 9 = (p2) * 9; omega), ?_⟩
          refine callQ [] (fun w S hR hB hS hd => cmpBg_spec x y w S hd) ?_
          have hcmp : cmpZ x.bg y.bg < 0 := cmpZ_lt.2 hlt
          refine ⟨fun hc => ?_, fun _ => ?_⟩
          · have hc : (!decide (cmpZ x.bg y.bg < 0)) = true := hc
            rw [decide_eq_true hcmp] at hc; cases hc
          refine callP [0] (fun w S hR hB hS hd => partition_spec g n cap a' b' p2 us3 hul (by omega) (by omega) q1 q2 w S hS hd) ?_
          rintro _ _ ⟨mid, bo, vs, pv, rfl, hPv, hpt, rfl⟩
          have hvl : vs.length = n := hPv.len.trans hul
          have hPz : PermR a' b' zs vs := hPu.trans hPv
          have hLv : LoR a' b' vs := hL.perm hPz
          have hGv : Glue a b a' b' vs := hG.perm hPz h1 h3
          have hdv : Dst vs := (hdst.perm hP).perm hPz
          have hPx : PermR a b xs vs := hP.trans (hPz.wide h1 h3)
          obtain ⟨p1, p2, _, _, _⟩ := id hpt
          refine ⟨((mid - a' : Nat) : Int), by show _ = IntKind.i64.wrap ((mid : Int) - (a' : Int)); rw [show ((mid : Int) - a') = ((mid - a' : Nat) : Int) by omega]; exact wrap_i64 (by omega) (by omega), ?_⟩
          refine ⟨((b' - mid : Nat) : Int), by show _ = IntKind.i64.wrap ((b' : Int) - (mid : Int)); rw [show ((b' : Int) - mid) = ((b' - mid : Nat) : Int) by omega]; exact wrap_i64 (by omega) (by omega), ?_⟩
          refine ⟨by decide, (((b' - a') / 8 : Nat) : Int), by rw [show (((b' - a' : Nat)) : Int).tdiv 8 = (((b' - a') / 8 : Nat) : Int) from rfl]; exact wrap_i64 (by omega) (by omega), ?_⟩
          refine ⟨fun _ => ?_, fun _ => ?_⟩
          · refine callP [0] (fun w S hR hB hS hd => ih (mid - a') (by omega) a' mid lm vs w S rfl hvl p1 (by omega) (by omega) (hao' hvl) hdv (hLv.left (by omega)) hS hd) ?_
            rintro _ _ ⟨ws, rfl, hPw, hSw, rfl⟩
            have hpw := hpt.left hPw
            refine ⟨((mid + 1 : Nat) : Int), by rw [show ((mid : Int) + 1) = ((mid + 1 : Nat) : Int) by omega]; exact wrap_i64 (by omega) (by omega), ?_⟩
            exact backI (mid + 1, b', lm, ws, _, _) (by show b' - (mid + 1) < b' - a'; omega) ⟨by show a ≤ mid + 1; omega, by show mid + 1 ≤ b'; omega, h3, by show lm ≤ 1000; omega, hPx.trans (hPw.wide h1 (by omega)), (hLv.perm (hPw.wide (Nat.le_refl _) (by omega))).right hpw (hdv.perm hPw), (hGv.perm (hPw.wide (Nat.le_refl _) (by omega)) h1 h3).left hpw hSw⟩ ⟨rfl, rfl, rfl, rfl, rfl, rfl, rfl, trivial⟩ (.refl _)
          · refine ⟨((mid + 1 : Nat) : Int), by rw [show ((mid : Int) + 1) = ((mid + 1 : Nat) : Int) by omega]; exact wrap_i64 (by omega) (by omega), ?_⟩
            refine callP [0] (fun w S hR hB hS hd => ih (b' - (mid + 1)) (by omega) (mid + 1) b' lm vs w S rfl hvl (by omega) (by omega) (by omega) (hao' hvl) hdv (hLv.right hpt hdv) hS hd) ?_
            rintro _ _ ⟨ws, rfl, hPw, hSw, rfl⟩
            have hpw := hpt.right hPw
            have hLw : LoR a' mid ws := (hLv.perm (hPw.wide (show a' ≤ mid + 1 by omega) (Nat.le_refl b'))).left (show mid ≤ b' by omega)
            exact backI (a', mid, lm, ws, _, _) (by show mid - a' < b' - a'; omega) ⟨h1, p1, by show mid ≤ b; omega, by show lm ≤ 1000; omega, hPx.trans (hPw.wide (by omega) h3), hLw, (hGv.perm (hPw.wide (by omega) (Nat.le_refl _)) h1 h3).right hpw hSw⟩ ⟨rfl, rfl, rfl, rfl, rfl, rfl, rfl, trivial⟩ (.refl _)
        · clear h
          refine ⟨nofun, fun _ => ?_⟩
          refine callP [0] (fun w S hR hB hS hd => partition_spec g n cap a' b' p2 us3 hul (by omega) (by omega) q1 q2 w S hS hd) ?_
          rintro _ _ ⟨mid, bo, vs, pv, rfl, hPv, hpt, rfl⟩
          have hvl : vs.length = n := hPv.len.trans hul
          have hPz : PermR a' b' zs vs := hPu.trans hPv
          have hLv : LoR a' b' vs := hL.perm hPz
          have hGv : Glue a b a' b' vs := hG.perm hPz h1 h3
          have hdv : Dst vs := (hdst.perm hP).perm hPz
          have hPx : PermR a b xs vs := hP.trans (hPz.wide h1 h3)
          obtain ⟨p1, p2, _, _, _⟩ := id hpt
          refine ⟨((mid - a' : Nat) : Int), by show _ = IntKind.i64.wrap ((mid : Int) - (a' : Int)); rw [show ((mid : Int) - a') = ((mid - a' : Nat) : Int) by omega]; exact wrap_i64 (by omega) (by omega), ?_⟩
          refine ⟨((b' - mid : Nat) : Int), by show _ = IntKind.i64.wrap ((b' : Int) - (mid : Int)); rw [show ((b' : Int) - mid) = ((b' - mid : Nat) : Int) by omega]; exact wrap_i64 (by omega) (by omega), ?_⟩
          refine ⟨by decide, (((b' - a') / 8 : Nat) : Int), by rw [show (((b' - a' : Nat)) : Int).tdiv 8 = (((b' - a') / 8 : Nat) : Int) from rfl]; exact wrap_i64 (by omega) (by omega), ?_⟩
          refine ⟨fun _ => ?_, fun _ => ?_⟩
          · refine callP [0] (fun w S hR hB hS hd => ih (mid - a') (by omega) a' mid lm vs w S rfl hvl p1 (by omega) (by omega) (hao' hvl) hdv (hLv.left (by omega)) hS hd) ?_
            rintro _ _ ⟨ws, rfl, hPw, hSw, rfl⟩
            have hpw := hpt.left hPw
            refine ⟨((mid + 1 : Nat) : Int), by rw [show ((mid : Int) + 1) = ((mid + 1 : Nat) : Int) by omega]; exact wrap_i64 (by omega) (by omega), ?_⟩
            exact backI (mid + 1, b', lm, ws, _, _) (by show b' - (mid + 1) < b' - a'; omega) ⟨by show a ≤ mid + 1; omega, by show mid + 1 ≤ b'; omega, h3, by show lm ≤ 1000; omega, hPx.trans (hPw.wide h1 (by omega)), (hLv.perm (hPw.wide (Nat.le_refl _) (by omega))).right hpw (hdv.perm hPw), (hGv.perm (hPw.wide (Nat.le_refl _) (by omega)) h1 h3).left hpw hSw⟩ ⟨rfl, rfl, rfl, rfl, rfl, rfl, rfl, trivial⟩ (.refl _)
          · refine ⟨((mid + 1 : Nat) : Int), by rw [show ((mid : Int) + 1) = ((mid + 1 : Nat) : Int) by omega]; exact wrap_i64 (by omega) (by omega), ?_⟩
            refine callP [0] (fun w S hR hB hS hd => ih (b' - (mid + 1)) (by omega) (mid + 1) b' lm vs w S rfl hvl (by omega) (by omega) (by omega) (hao' hvl) hdv (hLv.right hpt hdv) hS hd) ?_
            rintro _ _ ⟨ws, rfl, hPw, hSw, rfl⟩
            have hpw := hpt.right hPw
            have hLw : LoR a' mid ws := (hLv.perm (hPw.wide (show a' ≤ mid + 1 by omega) (Nat.le_refl b'))).left (show mid ≤ b' by omega)
            exact backI (a', mid, lm, ws, _, _) (by show mid - a' < b' - a'; omega) ⟨h1, p1, by show mid ≤ b; omega, by show lm ≤ 1000; omega, hPx.trans (hPw.wide (by omega) h3), hLw, (hGv.perm (hPw.wide (by omega) (Nat.le_refl _)) h1 h3).right hpw hSw⟩ ⟨rfl, rfl, rfl, rfl, rfl, rfl, rfl, trivial⟩ (.refl _)
      · refine ⟨fun _ => ?_, nofun⟩
        refine ⟨fun _ => ?_, nofun⟩
        refine ⟨fun _ => ?_, fun _ => ?_⟩
        · refine callP [0] (fun w S hR hB hS hd => partial_spec g n cap a' b' zs hul (by omega) (by omega) (by omega) (hL.perm hPu) w S hS hd) ?_
          rintro _ _ ⟨bo2, us3, rfl, hPt, hSt, rfl⟩
          refine ⟨fun ht => ?_, fun _ => ?_⟩
          · exact ⟨_, .refl _, us3, rfl, hP.trans ((hPu.trans hPt).wide h1 h3), (hG.perm (hPu.trans hPt) h1 h3).done (hSt ht), rfl⟩
          replace hPu : PermR a' b' zs us3 := hPu.trans hPt
          replace hul : us3.length = n := hPt.len.trans hul
          refine Or.inl ⟨by kernel_rfl, ?_⟩
          refine ⟨fun h => ?_, fun h => ?_⟩
          · have ha0 : 0 < a' := by
              have : (a' : Int) > 0 := of_decide_eq_true h
              omega
            clear h
            obtain ⟨x, hx⟩ : ∃ x, us3[a' - 1]? = some x := ⟨us3[a' - 1]'(by omega), by simp [show a' - 1 < us3.length by omega]⟩
            obtain ⟨y, hy⟩ : ∃ x, us3[p]? = some x := ⟨us3[p]'(by omega), by simp [show p < us3.length by omega]⟩
            have hlt : x.bg < y.bg := (hL.perm hPu) (a' - 1) p x y (by omega) q1 q2 hx hy
            refine ⟨((a' - 1 : Nat) : Int), by show _ = IntKind.i64.wrap ((a' : Int) - 1); rw [show ((a' : Int) - 1) = ((a' - 1 : Nat) : Int) by omega]; exact wrap_i64 (by omega) (by omega), ?_⟩
            refine ⟨a' - 1, rfl, by omega, ?_⟩
            refine ⟨_, ldOA 0 (a' - 1) rfl (fun _ _ => rfl) hx rfl rfl rfl (by show 0 + (a' - 1) * 9 = (a' - 1) * 9; omega), ?_⟩
            refine ⟨p, rfl, by omega, ?_⟩
            refine ⟨_, ldOA 0 (p) rfl (fun _ _ => rfl) hy rfl rfl rfl (by show 0 + (p) * 9 = (p) * 9; omega), ?_⟩
            refine callQ [] (fun w S hR hB hS hd => cmpBg_spec x y w S hd) ?_
            have hcmp : cmpZ x.bg y.bg < 0 := cmpZ_lt.2 hlt
            refine ⟨fun hc => ?_, fun _ => ?_⟩
            · have hc : (!decide (cmpZ x.bg y.bg < 0)) = true := hc
              rw [decide_eq_true hcmp] at hc; cases hc
            refine callP [0] (fun w S hR hB hS hd => partition_spec g n cap a' b' p us3 hul (by omega) (by omega) q1 q2 w S hS hd) ?_
            rintro _ _ ⟨mid, bo, vs, pv, rfl, hPv, hpt, rfl⟩
            have hvl : vs.length = n := hPv.len.trans hul
            have hPz : PermR a' b' zs vs := hPu.trans hPv
            have hLv : LoR a' b' vs := hL.perm hPz
            have hGv : Glue a b a' b' vs := hG.perm hPz h1 h3
            have hdv : Dst vs := (hdst.perm hP).perm hPz
            have hPx : PermR a b xs vs := hP.trans (hPz.wide h1 h3)
            obtain ⟨p1, p2, _, _, _⟩ := id hpt
            refine ⟨((mid - a' : Nat) : Int), by show _ = IntKind.i64.wrap ((mid : Int) - (a' : Int)); rw [show ((mid : Int) - a') = ((mid - a' : Nat) : Int) by omega]; exact wrap_i64 (by omega) (by omega), ?_⟩
            refine ⟨((b' - mid : Nat) : Int), by show _ = IntKind.i64.wrap ((b' : Int) - (mid : Int)); rw [show ((b' : Int) - mid) = ((b' - mid : Nat) : Int) by omega]; exact wrap_i64 (by omega) (by omega), ?_⟩
            refine ⟨by decide, (((b' - a') / 8 : Nat) : Int), by rw [show (((b' - a' : Nat)) : Int).tdiv 8 = (((b' - a') / 8 : Nat) : Int) from rfl]; exact wrap_i64 (by omega) (by omega), ?_⟩
            refine ⟨fun _ => ?_, fun _ => ?_⟩
            · refine callP [0] (fun w S hR hB hS hd => ih (mid - a') (by omega) a' mid lm vs w S rfl hvl p1 (by omega) (by omega) (hao' hvl) hdv (hLv.left (by omega)) hS hd) ?_
              rintro _ _ ⟨ws, rfl, hPw, hSw, rfl⟩
              have hpw := hpt.left hPw
              refine ⟨((mid + 1 : Nat) : Int), by rw [show ((mid : Int) + 1) = ((mid + 1 : Nat) : Int) by omega]; exact wrap_i64 (by omega) (by omega), ?_⟩
              exact backI (mid + 1, b', lm, ws, _, _) (by show b' - (mid + 1) < b' - a'; omega) ⟨by show a ≤ mid + 1; omega, by show mid + 1 ≤ b'; omega, h3, by show lm ≤ 1000; omega, hPx.trans (hPw.wide h1 (by omega)), (hLv.perm (hPw.wide (Nat.le_refl _) (by omega))).right hpw (hdv.perm hPw), (hGv.perm (hPw.wide (Nat.le_refl _) (by omega)) h1 h3).left hpw hSw⟩ ⟨rfl, rfl, rfl, rfl, rfl, rfl, rfl, trivial⟩ (.refl _)
            · refine ⟨((mid + 1 : Nat) : Int), by rw [show ((mid : Int) + 1) = ((mid + 1 : Nat) : Int) by omega]; exact wrap_i64 (by omega) (by omega), ?_⟩
              refine callP [0] (fun w S hR hB hS hd => ih (b' - (mid + 1)) (by omega) (mid + 1) b' lm vs w S rfl hvl (by omega) (by omega) (by omega) (hao' hvl) hdv (hLv.right hpt hdv) hS hd) ?_
              rintro _ _ ⟨ws, rfl, hPw, hSw, rfl⟩
              have hpw := hpt.right hPw
              have hLw : LoR a' mid ws := (hLv.perm (hPw.wide (show a' ≤ mid + 1 by omega) (Nat.le_refl b'))).left (show mid ≤ b' by omega)
              exact backI (a', mid, lm, ws, _, _) (by show mid - a' < b' - a'; omega) ⟨h1, p1, by show mid ≤ b; omega, by show lm ≤ 1000; omega, hPx.trans (hPw.wide (by omega) h3), hLw, (hGv.perm (hPw.wide (by omega) (Nat.le_refl _)) h1 h3).right hpw hSw⟩ ⟨rfl, rfl, rfl, rfl, rfl, rfl, rfl, trivial⟩ (.refl _)
          · clear h
            refine ⟨nofun, fun _ => ?_⟩
            refine callP [0] (fun w S hR hB hS hd => partition_spec g n cap a' b' p us3 hul (by omega) (by omega) q1 q2 w S hS hd) ?_
            rintro _ _ ⟨mid, bo, vs, pv, rfl, hPv, hpt, rfl⟩
            have hvl : vs.length = n := hPv.len.trans hul
            have hPz : PermR a' b' zs vs := hPu.trans hPv
            have hLv : LoR a' b' vs := hL.perm hPz
            have hGv : Glue a b a' b' vs := hG.perm hPz h1 h3
            have hdv : Dst vs := (hdst.perm hP).perm hPz
            have hPx : PermR a b xs vs := hP.trans (hPz.wide h1 h3)
            obtain ⟨p1, p2, _, _, _⟩ := id hpt
            refine ⟨((mid - a' : Nat) : Int), by show _ = IntKind.i64.wrap ((mid : Int) - (a' : Int)); rw [show ((mid : Int) - a') = ((mid - a' : Nat) : Int) by omega]; exact wrap_i64 (by omega) (by omega), ?_⟩
            refine ⟨((b' - mid : Nat) : Int), by show _ = IntKind.i64.wrap ((b' : Int) - (mid : Int)); rw [show ((b' : Int) - mid) = ((b' - mid : Nat) : Int) by omega]; exact wrap_i64 (by omega) (by omega), ?_⟩
            refine ⟨by decide, (((b' - a') / 8 : Nat) : Int), by rw [show (((b' - a' : Nat)) : Int).tdiv 8 = (((b' - a') / 8 : Nat) : Int) from rfl]; exact wrap_i64 (by omega) (by omega), ?_⟩
            refine ⟨fun _ => ?_, fun _ => ?_⟩
            · refine callP [0] (fun w S hR hB hS hd => ih (mid - a') (by omega) a' mid lm vs w S rfl hvl p1 (by omega) (by omega) (hao' hvl) hdv (hLv.left (by omega)) hS hd) ?_
              rintro _ _ ⟨ws, rfl, hPw, hSw, rfl⟩
              have hpw := hpt.left hPw
              refine ⟨((mid + 1 : Nat) : Int), by rw [show ((mid : Int) + 1) = ((mid + 1 : Nat) : Int) by omega]; exact wrap_i64 (by omega) (by omega), ?_⟩
              exact backI (mid + 1, b', lm, ws, _, _) (by show b' - (mid + 1) < b' - a'; omega) ⟨by show a ≤ mid + 1; omega, by show mid + 1 ≤ b'; omega, h3, by show lm ≤ 1000; omega, hPx.trans (hPw.wide h1 (by omega)), (hLv.perm (hPw.wide (Nat.le_refl _) (by omega))).right hpw (hdv.perm hPw), (hGv.perm (hPw.wide (Nat.le_refl _) (by omega)) h1 h3).left hpw hSw⟩ ⟨rfl, rfl, rfl, rfl, rfl, rfl, rfl, trivial⟩ (.refl _)
            · refine ⟨((mid + 1 : Nat) : Int), by rw [show ((mid : Int) + 1) = ((mid + 1 : Nat) : Int) by omega]; exact wrap_i64 (by omega) (by omega), ?_⟩
              refine callP [0] (fun w S hR hB hS hd => ih (b' - (mid + 1)) (by omega) (mid + 1) b' lm vs w S rfl hvl (by omega) (by omega) (by omega) (hao' hvl) hdv (hLv.right hpt hdv) hS hd) ?_
              rintro _ _ ⟨ws, rfl, hPw, hSw, rfl⟩
              have hpw := hpt.right hPw
              have hLw : LoR a' mid ws := (hLv.perm (hPw.wide (show a' ≤ mid + 1 by omega) (Nat.le_refl b'))).left (show mid ≤ b' by omega)
              exact backI (a', mid, lm, ws, _, _) (by show mid - a' < b' - a'; omega) ⟨h1, p1, by show mid ≤ b; omega, by show lm ≤ 1000; omega, hPx.trans (hPw.wide (by omega) h3), hLw, (hGv.perm (hPw.wide (by omega) (Nat.le_refl _)) h1 h3).right hpw hSw⟩ ⟨rfl, rfl, rfl, rfl, rfl, rfl, rfl, trivial⟩ (.refl _)
        · refine Or.inl ⟨by kernel_rfl, ?_⟩
          refine ⟨fun h => ?_, fun h => ?_⟩
          · have ha0 : 0 < a' := by
              have : (a' : Int) > 0 := of_decide_eq_true h
              omega
            clear h
            obtain ⟨x, hx⟩ : ∃ x, zs[a' - 1]? = some x := ⟨zs[a' - 1]'(by omega), by simp [show a' - 1 < zs.length by omega]⟩
            obtain ⟨y, hy⟩ : ∃ x, zs[p]? = some x := ⟨zs[p]'(by omega), by simp [show p < zs.length by omega]⟩
            have hlt : x.bg < y.bg := (hL.perm hPu) (a' - 1) p x y (by omega) q1 q2 hx hy
            refine ⟨((a' - 1 : Nat) : Int), by show _ = IntKind.i64.wrap ((a' : Int) - 1); rw [show ((a' : Int) - 1) = ((a' - 1 : Nat) : Int) by omega]; exact wrap_i64 (by omega) (by omega), ?_⟩
            refine ⟨a' - 1, rfl, by omega, ?_⟩
            refine ⟨_, ldOA 0 (a' - 1) rfl (fun _ _ => rfl) hx rfl rfl rfl (by show 0 + (a' - 1) * 9 = (a' - 1) * 9; omega), ?_⟩
            refine ⟨p, rfl, by omega, ?_⟩
            refine ⟨_, ldOA 0 (p) rfl (fun _ _ => rfl) hy rfl rfl rfl (by show 0 + (p) * 9 = (p) * 9; omega), ?_⟩
            refine callQ [] (fun w S hR hB hS hd => cmpBg_spec x y w S hd) ?_
            have hcmp : cmpZ x.bg y.bg < 0 := cmpZ_lt.2 hlt
            refine ⟨fun hc => ?_, fun _ => ?_⟩
            · have hc : (!decide (cmpZ x.bg y.bg < 0)) = true := hc
              rw [decide_eq_true hcmp] at hc; cases hc
            refine callP [0] (fun w S hR hB hS hd => partition_spec g n cap a' b' p zs hul (by omega) (by omega) q1 q2 w S hS hd) ?_
            rintro _ _ ⟨mid, bo, vs, pv, rfl, hPv, hpt, rfl⟩
            have hvl : vs.length = n := hPv.len.trans hul
            have hPz : PermR a' b' zs vs := hPu.trans hPv
            have hLv : LoR a' b' vs := hL.perm hPz
            have hGv : Glue a b a' b' vs := hG.perm hPz h1 h3
            have hdv : Dst vs := (hdst.perm hP).perm hPz
            have hPx : PermR a b xs vs := hP.trans (hPz.wide h1 h3)
            obtain ⟨p1, p2, _, _, _⟩ := id hpt
            refine ⟨((mid - a' : Nat) : Int), by show _ = IntKind.i64.wrap ((mid : Int) - (a' : Int)); rw [show ((mid : Int) - a') = ((mid - a' : Nat) : Int) by omega]; exact wrap_i64 (by omega) (by omega), ?_⟩
            refine ⟨((b' - mid : Nat) : Int), by show _ = IntKind.i64.wrap ((b' : Int) - (mid : Int)); rw [show ((b' : Int) - mid) = ((b' - mid : Nat) : Int) by omega]; exact wrap_i64 (by omega) (by omega), ?_⟩
            refine ⟨by decide, (((b' - a') / 8 : Nat) : Int), by rw [show (((b' - a' : Nat)) : Int).tdiv 8 = (((b' - a') / 8 : Nat) : Int) from rfl]; exact wrap_i64 (by omega) (by omega), ?_⟩
            refine ⟨fun _ => ?_, fun _ => ?_⟩
            · refine callP [0] (fun w S hR hB hS hd => ih (mid - a') (by omega) a' mid lm vs w S rfl hvl p1 (by omega) (by omega) (hao' hvl) hdv (hLv.left (by omega)) hS hd) ?_
              rintro _ _ ⟨ws, rfl, hPw, hSw, rfl⟩
              have hpw := hpt.left hPw
              refine ⟨((mid + 1 : Nat) : Int), by rw [show ((mid : Int) + 1) = ((mid + 1 : Nat) : Int) by omega]; exact wrap_i64 (by omega) (by omega), ?_⟩
              exact backI (mid + 1, b', lm, ws, _, _) (by show b' - (mid + 1) < b' - a'; omega) ⟨by show a ≤ mid + 1; omega, by show mid + 1 ≤ b'; omega, h3, by show lm ≤ 1000; omega, hPx.trans (hPw.wide h1 (by omega)), (hLv.perm (hPw.wide (Nat.le_refl _) (by omega))).right hpw (hdv.perm hPw), (hGv.perm (hPw.wide (Nat.le_refl _) (by omega)) h1 h3).left hpw hSw⟩ ⟨rfl, rfl, rfl, rfl, rfl, rfl, rfl, trivial⟩ (.refl _)
            · refine ⟨((mid + 1 : Nat) : Int), by rw [show ((mid : Int) + 1) = ((mid + 1 : Nat) : Int) by omega]; exact wrap_i64 (by omega) (by omega), ?_⟩
              refine callP [0] (fun w S hR hB hS hd => ih (b' - (mid + 1)) (by omega) (mid + 1) b' lm vs w S rfl hvl (by omega) (by omega) (by omega) (hao' hvl) hdv (hLv.right hpt hdv) hS hd) ?_
              rintro _ _ ⟨ws, rfl, hPw, hSw, rfl⟩
              have hpw := hpt.right hPw
              have hLw : LoR a' mid ws := (hLv.perm (hPw.wide (show a' ≤ mid + 1 by omega) (Nat.le_refl b'))).left (show mid ≤ b' by omega)
              exact backI (a', mid, lm, ws, _, _) (by show mid - a' < b' - a'; omega) ⟨h1, p1, by show mid ≤ b; omega, by show lm ≤ 1000; omega, hPx.trans (hPw.wide (by omega) h3), hLw, (hGv.perm (hPw.wide (by omega) (Nat.le_refl _)) h1 h3).right hpw hSw⟩ ⟨rfl, rfl, rfl, rfl, rfl, rfl, rfl, trivial⟩ (.refl _)
          · clear h
            refine ⟨nofun, fun _ => ?_⟩
            refine callP [0] (fun w S hR hB hS hd => partition_spec g n cap a' b' p zs hul (by omega) (by omega) q1 q2 w S hS hd) ?_
            rintro _ _ ⟨mid, bo, vs, pv, rfl, hPv, hpt, rfl⟩
            have hvl : vs.length = n := hPv.len.trans hul
            have hPz : PermR a' b' zs vs := hPu.trans hPv
            have hLv : LoR a' b' vs := hL.perm hPz
            have hGv : Glue a b a' b' vs := hG.perm hPz h1 h3
            have hdv : Dst vs := (hdst.perm hP).perm hPz
            have hPx : PermR a b xs vs := hP.trans (hPz.wide h1 h3)
            obtain ⟨p1, p2, _, _, _⟩ := id hpt
            refine ⟨((mid - a' : Nat) : Int), by show _ = IntKind.i64.wrap ((mid : Int) - (a' : Int)); rw [show ((mid : Int) - a') = ((mid - a' : Nat) : Int) by omega]; exact wrap_i64 (by omega) (by omega), ?_⟩
            refine ⟨((b' - mid : Nat) : Int), by show _ = IntKind.i64.wrap ((b' : Int) - (mid : Int)); rw [show ((b' : Int) - mid) = ((b' - mid : Nat) : Int) by omega]; exact wrap_i64 (by omega) (by omega), ?_⟩
            refine ⟨by decide, (((b' - a') / 8 : Nat) : Int), by rw [show (((b' - a' : Nat)) : Int).tdiv 8 = (((b' - a') / 8 : Nat) : Int) from rfl]; exact wrap_i64 (by omega) (by omega), ?_⟩
            refine ⟨fun _ => ?_, fun _ => ?_⟩
            · refine callP [0] (fun w S hR hB hS hd => ih (mid - a') (by omega) a' mid lm vs w S rfl hvl p1 (by omega) (by omega) (hao' hvl) hdv (hLv.left (by omega)) hS hd) ?_
              rintro _ _ ⟨ws, rfl, hPw, hSw, rfl⟩
              have hpw := hpt.left hPw
              refine ⟨((mid + 1 : Nat) : Int), by rw [show ((mid : Int) + 1) = ((mid + 1 : Nat) : Int) by omega]; exact wrap_i64 (by omega) (by omega), ?_⟩
              exact backI (mid + 1, b', lm, ws, _, _) (by show b' - (mid + 1) < b' - a'; omega) ⟨by show a ≤ mid + 1; omega, by show mid + 1 ≤ b'; omega, h3, by show lm ≤ 1000; omega, hPx.trans (hPw.wide h1 (by omega)), (hLv.perm (hPw.wide (Nat.le_refl _) (by omega))).right hpw (hdv.perm hPw), (hGv.perm (hPw.wide (Nat.le_refl _) (by omega)) h1 h3).left hpw hSw⟩ ⟨rfl, rfl, rfl, rfl, rfl, rfl, rfl, trivial⟩ (.refl _)
            · refine ⟨((mid + 1 : Nat) : Int), by rw [show ((mid : Int) + 1) = ((mid + 1 : Nat) : Int) by omega]; exact wrap_i64 (by omega) (by omega), ?_⟩
              refine callP [0] (fun w S hR hB hS hd => ih (b' - (mid + 1)) (by omega) (mid + 1) b' lm vs w S rfl hvl (by omega) (by omega) (by omega) (hao' hvl) hdv (hLv.right hpt hdv) hS hd) ?_
              rintro _ _ ⟨ws, rfl, hPw, hSw, rfl⟩
              have hpw := hpt.right hPw
              have hLw : LoR a' mid ws := (hLv.perm (hPw.wide (show a' ≤ mid + 1 by omega) (Nat.le_refl b'))).left (show mid ≤ b' by omega)
              exact backI (a', mid, lm, ws, _, _) (by show mid - a' < b' - a'; omega) ⟨h1, p1, by show mid ≤ b; omega, by show lm ≤ 1000; omega, hPx.trans (hPw.wide (by omega) h3), hLw, (hGv.perm (hPw.wide (by omega) (Nat.le_refl _)) h1 h3).right hpw hSw⟩ ⟨rfl, rfl, rfl, rfl, rfl, rfl, rfl, trivial⟩ (.refl _)
end Go.Proofs.YtfebaopjfmpfkaaDoor
