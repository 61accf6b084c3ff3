/- Package linear: masks, and which call can be the next one. -/
import Derived.Test.YtfebaopjfmpfkaaDoorTab
import Derived.Test.YtfebaopjfmpfkaaDoorX8
namespace Go.Proofs.YtfebaopjfmpfkaaDoor
open Go.X
set_option maxRecDepth 10000
set_option linter.unusedVariables false
set_option linter.unusedSimpArgs false

/-- A call of a history. -/
structure Cl where
  th : Int
  bg : Int
  en : Int
  kind : Int
  size : Int
  align : Int
  addr : Int
  ra : Int
  re : Int
def encCl (c : Cl) : List Value := [.int .i64 c.th, .int .i64 c.bg, .int .i64 c.en, .int .i64 c.kind, .int .i64 c.size, .int .i64 c.align, .int .i64 c.addr, .int .i64 c.ra, .int .i64 c.re]
def hasB (m i : Int) : Bool := decide (IntKind.u64.wrap (BitVec.ofInt 64 (m.fdiv (2 ^ min i.toNat 64)) &&& BitVec.ofInt 64 1).toNat = 1)
/-- No other call that is left ends before it begins. -/
def canB (xs : List Cl) (done : Int) (i : Nat) (bg : Int) : Bool := !hasB done i && xs.zipIdx.all fun x => hasB done x.2 || !decide (x.1.en < bg)

theorem all_zipIdx {α : Type} {xs : List α} {f : α × Nat → Bool} : xs.zipIdx.all f = true ↔ ∀ (j : Nat) (d : α), xs[j]? = some d → f (d, j) = true := by
  rw [List.all_eq_true]
  constructor
  · intro h j d hd
    exact h (d, j) (List.mem_zipIdx_iff_getElem?.2 hd)
  · rintro h ⟨d, j⟩ hm
    exact h j d (List.mem_zipIdx_iff_getElem?.1 hm)

theorem canB_no {xs : List Cl} {done : Int} {i k : Nat} {bg : Int} {d : Cl} (hd : xs[k]? = some d) (h1 : hasB done k = false) (h2 : d.en < bg) : canB xs done i bg = false := by
  have : xs.zipIdx.all (fun x => hasB done x.2 || !decide (x.1.en < bg)) = false := by
    rw [← Bool.not_eq_true, all_zipIdx]
    intro h
    have := h k d hd
    simp [h1, h2] at this
  simp [canB, this]

theorem has_spec (m i : Int) (w : World) (S : FP) (hi : 0 ≤ i) (hd : ∀ b, S b → b < w.heap.size) :
    Trip Tryd.prog 33 #[.int .u64 m, .int .i64 i] w S fun v L => v = .bool (hasB m i) ∧ L = [] := by
  refine Trip.of_x (L := []) Tryd.func33 (by kernel_rfl) rfl Tryd.ntmps33 Tryd.results33 rfl (ctx_ok _) trivial hd ?_
  refine ⟨hi, _, rfl, _, rfl, ?_⟩
  exact ⟨_, .refl _, rfl, rfl⟩

theorem can_spec (sb b o n c : Nat) (rest : List Value) (xs : List Cl) (done : Int) (i : Nat) (x : Cl) (w : World) (S : FP)
    (hs : RO w S (pt sb (.slice (some ⟨b, o, none⟩) n c :: rest) 70)) (hl : RO w S (roS (some ⟨b, o, none⟩) 9 encCl xs)) (hn : xs.length = n) (hn2 : n ≤ 4611686018427387904) (hx : xs[i]? = some x) (hd : ∀ b, S b → b < w.heap.size) :
    Trip Tryd.prog 34 #[.pointer (some ⟨sb, 0, none⟩), .int .u64 done, .int .i64 i] w S fun v L => v = .bool (canB xs done i x.bg) ∧ L = [] := by
  refine Trip.of_x (L := []) Tryd.func34 (by kernel_rfl) rfl Tryd.ntmps34 Tryd.results34 rfl (ctx_ok _) trivial hd ?_
  refine callP [] (fun w S _ _ _ hd => has_spec done i w S (by omega) hd) ?_
  rintro _ _ ⟨rfl, rfl⟩
  refine ⟨fun h => ?_, fun h => ?_⟩
  · exact ⟨_, .refl _, by simp [canB, h], rfl⟩
  refine ⟨_, .load1 rfl (.roPt hs rfl), ?_⟩
  refine loopI (σ := Nat) (fun k => [(0, .pointer (some ⟨sb, 0, none⟩)), (1, .int .u64 done), (2, .int .i64 i), (15, .slice (some ⟨b, o, none⟩) n c), (16, .int .i64 n), (17, .int .i64 k)]) (fun _ => [])
    (fun k => k ≤ n ∧ ∀ j d, j < k → xs[j]? = some d → (hasB done j || !decide (d.en < x.bg)) = true) (fun k => n - k) 0 ⟨rfl, rfl, rfl, rfl, rfl, rfl, trivial⟩ (.refl _) ⟨Nat.zero_le _, fun j d hj => by omega⟩ ?_
  rintro k ⟨hk, hinv⟩
  refine ⟨fun hlt => ?_, fun hge => ?_⟩
  · have hkn : k < n := by have := of_decide_eq_true hlt; omega
    obtain ⟨d, hd⟩ : ∃ d, xs[k]? = some d := ⟨xs[k]'(by omega), by simp [show k < xs.length by omega]⟩
    have next : (hasB done k || !decide (d.en < x.bg)) = true → k + 1 ≤ n ∧ ∀ j d', j < k + 1 → xs[j]? = some d' → (hasB done j || !decide (d'.en < x.bg)) = true := fun hok => ⟨hkn, fun j d' hj hd' => by
      rcases Nat.lt_or_ge j k with h | h
      · exact hinv j d' h hd'
      · obtain rfl : j = k := by omega
        rw [hd] at hd'; cases hd'; exact hok⟩
    refine ⟨k, rfl, hkn, ?_⟩
    refine ⟨_, ldRA hl k hd rfl rfl rfl rfl, ?_⟩
    intro db
    refine st 0 rfl rfl rfl rfl rfl ?_
    refine Or.inl ⟨by kernel_rfl, ?_⟩
    refine callQ [] (fun w S _ _ _ hd => has_spec done k w S (by omega) hd) ?_
    refine ⟨fun hh => ?_, fun hh => ?_⟩
    · have hh1 : hasB done k = false := by simpa using hh
      refine ⟨_, ld 0 rfl rfl rfl, ?_⟩
      refine ⟨_, .load1 rfl (.roPt hs rfl), ?_⟩
      have hin : i < n := by
        rcases Nat.lt_or_ge i n with h | h
        · exact h
        · rw [List.getElem?_eq_none (by omega)] at hx; cases hx
      refine ⟨i, rfl, hin, ?_⟩
      refine ⟨_, ldR hl i 1 hx rfl rfl rfl, ?_⟩
      refine ⟨fun hlt2 => ?_, fun hge2 => ?_⟩
      · exact ⟨[], .pick [], by simpa using (canB_no hd hh1 (of_decide_eq_true hlt2)).symm, rfl⟩
      · refine ⟨_, wrap_i64 (by omega) (by omega), ?_⟩
        exact backI (k + 1) (by omega) (next (by simp at hge2 ⊢; exact .inr hge2)) ⟨rfl, rfl, rfl, rfl, rfl, rfl, trivial⟩ (.pick [])
    · have hh1 : hasB done k = true := by simpa using hh
      refine ⟨nofun, fun hge2 => ?_⟩
      refine ⟨_, wrap_i64 (by omega) (by omega), ?_⟩
      exact backI (k + 1) (by omega) (next (by simp [hh1])) ⟨rfl, rfl, rfl, rfl, rfl, rfl, trivial⟩ (.pick [])
  · refine ⟨[], .pick [], ?_, rfl⟩
    have hkn : k = n := by have := of_decide_eq_false hge; omega
    have : xs.zipIdx.all (fun x' => hasB done x'.2 || !decide (x'.1.en < x.bg)) = true := all_zipIdx.2 fun j d hd => hinv j d (by
      rcases Nat.lt_or_ge j k with h | h
      · exact h
      · rw [List.getElem?_eq_none (by omega)] at hd; cases hd) hd
    simp [canB, h, this]

end Go.Proofs.YtfebaopjfmpfkaaDoor
