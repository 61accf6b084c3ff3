/- The laws on package linear: what their arguments are. -/
import Derived.Test.YtfebaopjfmpfkaaDoorL7
import Derived.Deep.Slices
import Derived.Deep.Fields
import Derived.ChangeSame
import Derived.ProofKit
namespace Go.Proofs.YtfebaopjfmpfkaaDoor
open Go.X Go.ChangeShapes Go.WideShapes Go.Deep
set_option maxRecDepth 10000
set_option linter.unusedVariables false
set_option linter.unusedSimpArgs false

theorem list_of {α : Type} {p : Nat → α → Prop} : ∀ (n : Nat), (∀ i, i < n → ∃ c, p i c) → ∃ xs : List α, xs.length = n ∧ ∀ (i : Nat) (c : α), xs[i]? = some c → p i c
  | 0, _ => ⟨[], rfl, fun i c h => by simp at h⟩
  | n + 1, h => by
    obtain ⟨xs, h1, h2⟩ := list_of (p := p) n fun i hi => h i (by omega)
    obtain ⟨c, hc⟩ := h n (by omega)
    refine ⟨xs ++ [c], by simp [h1], fun i d hi => ?_⟩
    rcases Nat.lt_or_ge i n with h' | h'
    · rw [List.getElem?_append_left (by omega)] at hi; exact h2 i d hi
    · rw [List.getElem?_append_right (by omega), h1] at hi
      have : i = n := by
        rcases Nat.eq_or_lt_of_le h' with h | h
        · exact h.symm
        · rw [List.getElem?_eq_none (by simp; omega)] at hi; cases hi
      subst this
      simp at hi; subst hi; exact hc

def I64 (n : Int) : Prop := -9223372036854775808 ≤ n ∧ n ≤ 9223372036854775807
/-- All numbers of a call are numbers of the machine. -/
structure InI (c : Cl) : Prop where
  th : I64 c.th
  bg : I64 c.bg
  en : I64 c.en
  kind : I64 c.kind
  size : I64 c.size
  align : I64 c.align
  addr : I64 c.addr
  ra : I64 c.ra
  re : I64 c.re
theorem InR.of {xs : List Cl} (h : ∀ c ∈ xs, InI c) : InR xs := fun c hc => (h c hc).ra.2

section
variable {H : Type} {enc : TypeId × Value → H} {W : World} {base : Nat} {spare : Nat → Bool} {held : Bool} {fuel : Nat} {cs : List Value} {x : DataW H × List MemPlace}

theorem open_i {t : TypeId} (ht : Tryd.prog.underlying t = some (.int .i64)) (h : DataW.trod enc Tryd.prog W base spare held fuel t cs = some x) : ∃ n, cs = [.int .i64 n] ∧ -9223372036854775808 ≤ n ∧ n ≤ 9223372036854775807 := by
  obtain ⟨n, h1, _, h2⟩ := DataW.trod_int ht h
  have e1 : IntKind.i64.min = -9223372036854775808 := rfl
  have e2 : IntKind.i64.max = 9223372036854775807 := rfl
  simp only [Lit.wf, e1, e2, Bool.and_eq_true, decide_eq_true_eq] at h2
  exact ⟨n, h1, h2⟩

theorem open_cl (h : DataW.trod enc Tryd.prog W base spare held fuel 41 cs = some x) : ∃ c : Cl, cs = encCl c ∧ InI c := by
  obtain ⟨xs, n, _, _, hlen, hxl, hf⟩ := DataW.trod_struct Tryd.underlying41 h
  have c41 : Tryd.prog.cellsOf 41 = 9 := by kernel_rfl
  have c3 : Tryd.prog.cellsOf 3 = 1 := by kernel_rfl
  have c37 : Tryd.prog.cellsOf 37 = 4 := by kernel_rfl
  have c39 : Tryd.prog.cellsOf 39 = 2 := by kernel_rfl
  have c26 : Tryd.prog.cellsOf 26 = 1 := by kernel_rfl
  rw [c41] at hlen
  match cs, hlen with
  | [v0, v1, v2, v3, v4, v5, v6, v7, v8], _ =>
    have g0 : DataW.trod enc Tryd.prog W base spare held n 3 [v0] = xs[0]? := by
      have this : DataW.trod enc Tryd.prog W base spare held n 3 (([v0, v1, v2, v3, v4, v5, v6, v7, v8].drop 0).take (Tryd.prog.cellsOf 3)) = xs[0]? := hf 0 _ rfl
      rw [c3] at this
      exact this
    have g1 : DataW.trod enc Tryd.prog W base spare held n 3 [v1] = xs[1]? := by
      have this : DataW.trod enc Tryd.prog W base spare held n 3 (([v0, v1, v2, v3, v4, v5, v6, v7, v8].drop 1).take (Tryd.prog.cellsOf 3)) = xs[1]? := hf 1 _ rfl
      rw [c3] at this
      exact this
    have g2 : DataW.trod enc Tryd.prog W base spare held n 3 [v2] = xs[2]? := by
      have this : DataW.trod enc Tryd.prog W base spare held n 3 (([v0, v1, v2, v3, v4, v5, v6, v7, v8].drop 2).take (Tryd.prog.cellsOf 3)) = xs[2]? := hf 2 _ rfl
      rw [c3] at this
      exact this
    have g3 : DataW.trod enc Tryd.prog W base spare held n 37 [v3, v4, v5, v6] = xs[3]? := by
      have this : DataW.trod enc Tryd.prog W base spare held n 37 (([v0, v1, v2, v3, v4, v5, v6, v7, v8].drop 3).take (Tryd.prog.cellsOf 37)) = xs[3]? := hf 3 _ rfl
      rw [c37] at this
      exact this
    have g4 : DataW.trod enc Tryd.prog W base spare held n 39 [v7, v8] = xs[4]? := by
      have this : DataW.trod enc Tryd.prog W base spare held n 39 (([v0, v1, v2, v3, v4, v5, v6, v7, v8].drop 7).take (Tryd.prog.cellsOf 39)) = xs[4]? := hf 4 _ rfl
      rw [c39] at this
      exact this
    have get : ∀ i, i < 5 → ∃ y, xs[i]? = some y := fun i hi => ⟨xs[i]'(by rw [hxl]; exact hi), List.getElem?_eq_getElem _⟩
    obtain ⟨y0, e0⟩ := get 0 (by decide)
    obtain ⟨y1, e1⟩ := get 1 (by decide)
    obtain ⟨y2, e2⟩ := get 2 (by decide)
    obtain ⟨y3, e3⟩ := get 3 (by decide)
    obtain ⟨y4, e4⟩ := get 4 (by decide)
    obtain ⟨n0, h0, rn0⟩ := open_i Tryd.underlying3 (g0.trans e0)
    obtain ⟨n1, h1, rn1⟩ := open_i Tryd.underlying3 (g1.trans e1)
    obtain ⟨n2, h2, rn2⟩ := open_i Tryd.underlying3 (g2.trans e2)
    obtain ⟨ys, m, _, _, _, hyl, hg⟩ := DataW.trod_struct Tryd.underlying37 (g3.trans e3)
    have k0 : DataW.trod enc Tryd.prog W base spare held m 3 [v3] = ys[0]? := by
      have this : DataW.trod enc Tryd.prog W base spare held m 3 (([v3, v4, v5, v6].drop 0).take (Tryd.prog.cellsOf 3)) = ys[0]? := hg 0 _ rfl
      rw [c3] at this
      exact this
    have k1 : DataW.trod enc Tryd.prog W base spare held m 3 [v4] = ys[1]? := by
      have this : DataW.trod enc Tryd.prog W base spare held m 3 (([v3, v4, v5, v6].drop 1).take (Tryd.prog.cellsOf 3)) = ys[1]? := hg 1 _ rfl
      rw [c3] at this
      exact this
    have k2 : DataW.trod enc Tryd.prog W base spare held m 3 [v5] = ys[2]? := by
      have this : DataW.trod enc Tryd.prog W base spare held m 3 (([v3, v4, v5, v6].drop 2).take (Tryd.prog.cellsOf 3)) = ys[2]? := hg 2 _ rfl
      rw [c3] at this
      exact this
    have k3 : DataW.trod enc Tryd.prog W base spare held m 3 [v6] = ys[3]? := by
      have this : DataW.trod enc Tryd.prog W base spare held m 3 (([v3, v4, v5, v6].drop 3).take (Tryd.prog.cellsOf 3)) = ys[3]? := hg 3 _ rfl
      rw [c3] at this
      exact this
    have get : ∀ i, i < 4 → ∃ y, ys[i]? = some y := fun i hi => ⟨ys[i]'(by rw [hyl]; exact hi), List.getElem?_eq_getElem _⟩
    obtain ⟨z0, u0⟩ := get 0 (by decide)
    obtain ⟨z1, u1⟩ := get 1 (by decide)
    obtain ⟨z2, u2⟩ := get 2 (by decide)
    obtain ⟨z3, u3⟩ := get 3 (by decide)
    obtain ⟨m0, p0, rm0⟩ := open_i Tryd.underlying3 (k0.trans u0)
    obtain ⟨m1, p1, rm1⟩ := open_i Tryd.underlying3 (k1.trans u1)
    obtain ⟨m2, p2, rm2⟩ := open_i Tryd.underlying3 (k2.trans u2)
    obtain ⟨m3, p3, rm3⟩ := open_i Tryd.underlying3 (k3.trans u3)
    obtain ⟨ws, q, _, _, _, hwl, hq⟩ := DataW.trod_struct Tryd.underlying39 (g4.trans e4)
    have r0 : DataW.trod enc Tryd.prog W base spare held q 3 [v7] = ws[0]? := by
      have this : DataW.trod enc Tryd.prog W base spare held q 3 (([v7, v8].drop 0).take (Tryd.prog.cellsOf 3)) = ws[0]? := hq 0 _ rfl
      rw [c3] at this
      exact this
    have r1 : DataW.trod enc Tryd.prog W base spare held q 26 [v8] = ws[1]? := by
      have this : DataW.trod enc Tryd.prog W base spare held q 26 (([v7, v8].drop 1).take (Tryd.prog.cellsOf 26)) = ws[1]? := hq 1 _ rfl
      rw [c26] at this
      exact this
    have get : ∀ i, i < 2 → ∃ y, ws[i]? = some y := fun i hi => ⟨ws[i]'(by rw [hwl]; exact hi), List.getElem?_eq_getElem _⟩
    obtain ⟨t0, s0⟩ := get 0 (by decide)
    obtain ⟨t1, s1⟩ := get 1 (by decide)
    obtain ⟨o0, w0, ro0⟩ := open_i Tryd.underlying3 (r0.trans s0)
    obtain ⟨o1, w1, ro1⟩ := open_i Tryd.underlying26 (r1.trans s1)
    cases h0; cases h1; cases h2; cases p0; cases p1; cases p2; cases p3; cases w0; cases w1
    exact ⟨⟨n0, n1, n2, m0, m1, m2, m3, o0, o1⟩, rfl, rn0, rn1, rn2, rm0, rm1, rm2, rm3, ro0, ro1⟩

/-- A slice of calls. -/
theorem open_calls (h : DataW.trod enc Tryd.prog W base spare held fuel 22 cs = some x) : ∃ la n cap, ∃ xs : List Cl, cs = [.slice la n cap] ∧ xs.length = n ∧ n ≤ cap ∧ cap ≤ maxLen ∧ (∀ c ∈ xs, InI c) ∧ RO W (fun _ => False) (roS la 9 encCl xs) := by
  have c41 : Tryd.prog.cellsOf 41 = 9 := by kernel_rfl
  rcases open_slice Tryd.underlying22 h with ⟨rfl, _⟩ | ⟨a, len, cap, m, n, D, Pl, rfl, hb, hl, hc, hm, hx, hi⟩
  · exact ⟨none, 0, 0, [], rfl, rfl, Nat.le_refl _, Nat.zero_le _, (fun c hc => nomatch hc), roS_nil⟩
  · have hlm : len ≤ m := by rw [hm]; split <;> omega
    rw [c41] at hi
    obtain ⟨xs, hxl, hxs⟩ := list_of (p := fun i (c : Cl) => InI c ∧ ∀ j, j < 9 → W.cell? ((a.add (i * 9)).add j) = (encCl c)[j]?) len fun i him => by
      obtain ⟨cs', hc', ht⟩ := hi i (by omega)
      obtain ⟨_, hcl, hat⟩ := World.cells?_some hc'
      obtain ⟨c, rfl, hra⟩ := open_cl ht
      exact ⟨c, hra, hat⟩
    have hspot : xs ≠ [] → a.spot = none := fun hne => by
      obtain ⟨c, hc0⟩ : ∃ c, xs[0]? = some c := by cases xs with | nil => exact absurd rfl hne | cons c xs => exact ⟨c, rfl⟩
      have := (hxs 0 c hc0).2 0 (by decide)
      simp only [Nat.zero_mul, Addr.add, if_true] at this
      exact World.cell?_spot (w := W) (v := .int .i64 c.th) this
    refine ⟨some a, len, cap, xs, rfl, hxl, hl, hc, fun c hc => ?_, ⟨fun k => ∃ a', some a = some a' ∧ k = a'.block ∧ xs ≠ [], ⟨fun k => Iff.rfl, fun _ => by decide, fun _ _ => rfl, fun hne => ?_⟩, fun _ _ h => h⟩⟩
    · obtain ⟨i, hi⟩ := List.mem_iff_getElem?.1 hc
      exact (hxs i c hi).1
    · obtain ⟨b, o, sp⟩ := a
      have hs := hspot hne
      simp only at hs
      subst hs
      refine ⟨b, o, rfl, fun i c hi j v hj => ?_⟩
      have hj9 : j < 9 := by
        rcases Nat.lt_or_ge j 9 with h | h
        · exact h
        · rw [List.getElem?_eq_none (by simpa [encCl] using h)] at hj; cases hj
      have := (hxs i c hi).2 j hj9
      rw [Addr.add_none, Addr.add_none, hj] at this
      rw [← this]
      congr 2
      omega
/-- A slice of ints. -/
theorem open_ord (h : DataW.trod enc Tryd.prog W base spare held fuel 25 cs = some x) : ∃ la n cap, ∃ xs : List Int, cs = [.slice la n cap] ∧ xs.length = n ∧ n ≤ cap ∧ cap ≤ maxLen ∧ RO W (fun _ => False) (roS la 1 encZ1 xs) := by
  have c3 : Tryd.prog.cellsOf 3 = 1 := by kernel_rfl
  rcases open_ints Tryd.underlying25 Tryd.underlying3 c3 h with ⟨rfl, _⟩ | ⟨a, len, cap, zs, rfl, hb, hl, hc, hzl, hx, hcell, _⟩
  · exact ⟨none, 0, 0, [], rfl, rfl, Nat.le_refl _, Nat.zero_le _, roS_nil⟩
  · have hlm : len ≤ zs.length := by rw [hzl]; split <;> omega
    have hspot : zs.take len ≠ [] → a.spot = none := fun hne => by
      have hpos : 0 < zs.length := by
        cases zs with
        | nil => simp at hne
        | cons z zs => simp
      have := hcell 0 hpos
      simp only [Addr.add, if_true] at this
      exact World.cell?_spot (w := W) this
    refine ⟨some a, len, cap, zs.take len, rfl, by simp; omega, hl, hc, ⟨fun k => ∃ a', some a = some a' ∧ k = a'.block ∧ zs.take len ≠ [], ⟨fun k => Iff.rfl, fun _ => by decide, fun _ _ => rfl, fun hne => ?_⟩, fun _ _ h => h⟩⟩
    obtain ⟨b, o, sp⟩ := a
    have hs := hspot hne
    simp only at hs
    subst hs
    refine ⟨b, o, rfl, fun i z hi j v hj => ?_⟩
    cases j with
    | succ j => simp [encZ1] at hj
    | zero =>
      simp [encZ1] at hj
      subst hj
      rw [List.getElem?_take] at hi
      split at hi
      · obtain ⟨hlt, he⟩ := List.getElem?_eq_some_iff.1 hi
        have := hcell i hlt
        rw [Addr.add_none] at this
        simp only [Nat.mul_one, Nat.add_zero]
        rw [this, List.getD_eq_getElem?_getD, hi]; rfl
      · cases hi
end
end Go.Proofs.YtfebaopjfmpfkaaDoor
