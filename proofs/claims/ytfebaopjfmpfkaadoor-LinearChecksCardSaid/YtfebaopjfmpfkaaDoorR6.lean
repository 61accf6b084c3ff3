/- The specification's search: which call may come next, equal states, masks as lists. -/
import Derived.Test.YtfebaopjfmpfkaaDoorR4
import Derived.Test.YtfebaopjfmpfkaaDoorX25
namespace Go.Proofs.YtfebaopjfmpfkaaDoor
open Go.X
set_option maxRecDepth 10000
set_option linter.unusedVariables false
set_option linter.unusedSimpArgs false

def encBl (b : Bool) : List Value := [.bool b]

/-! ### masks as lists -/
def dn : List Bool → Nat
  | [] => 0
  | b :: r => (if b then 1 else 0) + 2 * dn r
theorem dn_bit : ∀ {ds : List Bool} {i : Nat}, (dn ds).testBit i = ds.getD i false
  | [], i => by simp [dn]
  | b :: r, 0 => by
    simp only [dn, Nat.testBit_zero, List.getD_cons_zero]
    cases b <;> simp <;> omega
  | b :: r, i + 1 => by
    simp only [dn, List.getD_cons_succ]
    rw [Nat.testBit_succ, ← dn_bit (ds := r)]
    congr 1
    cases b <;> simp <;> omega
theorem dn_lt : ∀ {ds : List Bool}, dn ds < 2 ^ ds.length
  | [] => by simp [dn]
  | b :: r => by
    have := dn_lt (ds := r)
    simp only [dn, List.length_cons, Nat.pow_succ]
    split <;> omega
theorem dn_set {ds : List Bool} {i : Nat} (hi : i < ds.length) : dn (ds.set i true) = dn ds ||| 2 ^ i := by
  apply Nat.eq_of_testBit_eq
  intro j
  rw [bit_set, dn_bit, dn_bit, List.getD_eq_getElem?_getD, List.getD_eq_getElem?_getD, List.getElem?_set]
  by_cases h : i = j
  · subst h; simp [hi]
  · simp [h]
theorem dn_zero (n : Nat) : dn (List.replicate n false) = 0 := by
  induction n with
  | zero => rfl
  | succ n ih => simp [List.replicate_succ, dn, ih]

theorem next_spec (la da : Option Addr) (n cap m dc : Nat) (xs : List Cl) (ds : List Bool) (i : Nat) (x : Cl) (hx : xs[i]? = some x) (hle : ∀ c ∈ xs, ¬ c.en < c.bg) (hs64 : xs.length ≤ 64) (w : World) (S : FP) (hl : RO w S (roS la 9 encCl xs)) (hdn : RO w S (roS da 1 encBl ds)) (hn : xs.length = n) (hm : ds.length = m) (hmn : m = n)
    (hd : ∀ b, S b → b < w.heap.size) :
    Trip Tryd.prog 44 #[.slice la n cap, .slice da m dc, .int .i64 i] w S fun v L => v = .bool (canB xs (dn ds : Nat) i x.bg) ∧ L = [] := by
  have hi : i < n := by have := (List.getElem?_eq_some_iff.1 hx).1; omega
  have hD : dn ds < 2 ^ 64 := Nat.lt_of_lt_of_le dn_lt (Nat.pow_le_pow_right (by omega) (by omega))
  have hcan := canB_iff hs64 hD (show i < 64 by omega) (bg := x.bg)
  obtain ⟨b1, o1, rfl⟩ := roS_at hl (by omega)
  obtain ⟨b2, o2, rfl⟩ := roS_at hdn (by omega)
  refine Trip.of_x (L := []) Tryd.func44 (by kernel_rfl) rfl Tryd.ntmps44 Tryd.results44 rfl (ctx_ok _) trivial hd ?_
  obtain ⟨b, hb⟩ : ∃ b, ds[i]? = some b := ⟨ds[i]'(by omega), by simp [show i < ds.length by omega]⟩
  have hbit : ∀ (j : Nat) (c : Bool), ds[j]? = some c → (dn ds).testBit j = c := fun j c hj => by rw [dn_bit, List.getD_eq_getElem?_getD, hj]; rfl
  have no : ∀ (j : Nat) (d : Cl), xs[j]? = some d → (dn ds).testBit j = false → d.en < x.bg → Value.bool false = .bool (canB xs (dn ds : Nat) i x.bg) := fun j d h1 h2 h3 => by
    cases hc : canB xs (dn ds : Nat) i x.bg with
    | false => rfl
    | true => exact absurd h3 ((hcan.1 hc).2 j d h1 h2)
  refine ⟨i, rfl, by omega, ?_⟩
  refine ⟨_, ldR hdn i 0 hb rfl rfl (by show o2 + i = o2 + (i * 1 + 0); omega), ?_⟩
  refine ⟨fun h => ?_, fun h => ?_⟩
  · subst h
    refine ⟨_, .pick [], ?_, rfl⟩
    cases hc : canB xs (dn ds : Nat) i x.bg with
    | false => rfl
    | true =>
      have := (hcan.1 hc).1
      rw [hbit i _ hb] at this; cases this
  subst h
  refine loopI (σ := Nat) (fun k => [(0, .slice (some ⟨b1, o1, none⟩) n cap), (1, .slice (some ⟨b2, o2, none⟩) m dc), (2, .int .i64 i), (7, .int .i64 k)]) (fun _ => [])
    (fun k => k ≤ n ∧ ∀ (j : Nat) (d : Cl), j < k → xs[j]? = some d → (dn ds).testBit j = false → ¬ d.en < x.bg) (fun k => n - k) 0 ⟨rfl, rfl, rfl, rfl, trivial⟩ (.refl _) ⟨Nat.zero_le _, fun j d h => absurd h (by omega)⟩ ?_
  rintro k ⟨hk, hin⟩
  refine ⟨fun hlt => ?_, fun hge => ?_⟩
  · have hkn : k < n := by have := of_decide_eq_true hlt; omega
    obtain ⟨y, hy⟩ : ∃ y, xs[k]? = some y := ⟨xs[k]'(by omega), by simp [show k < xs.length by omega]⟩
    obtain ⟨c, hc⟩ : ∃ c, ds[k]? = some c := ⟨ds[k]'(by omega), by simp [show k < ds.length by omega]⟩
    have next : ((dn ds).testBit k = false → ¬ y.en < x.bg) → k + 1 ≤ n ∧ ∀ (j : Nat) (d : Cl), j < k + 1 → xs[j]? = some d → (dn ds).testBit j = false → ¬ d.en < x.bg := fun h => ⟨hkn, fun j d hj hd' => by
      rcases Nat.lt_or_ge j k with h' | h'
      · exact hin j d h' hd'
      · obtain rfl : j = k := by omega
        rw [hy] at hd'; cases hd'; exact h⟩
    refine Or.inl ⟨by kernel_rfl, ?_⟩
    refine ⟨fun h => ?_, fun h => ?_⟩
    · have h : (k : Int) ≠ i := of_decide_eq_true h
      refine ⟨k, rfl, by omega, ?_⟩
      refine ⟨_, ldR hdn k 0 hc rfl rfl (by show o2 + k = o2 + (k * 1 + 0); omega), ?_⟩
      refine ⟨fun h' => ?_, fun h' => ?_⟩
      · have h' : c = false := by simpa using h'
        refine ⟨k, rfl, hkn, ?_⟩
        refine ⟨_, ldR hl k 2 hy rfl rfl rfl, ?_⟩
        refine ⟨i, rfl, hi, ?_⟩
        refine ⟨_, ldR hl i 1 hx rfl rfl rfl, ?_⟩
        refine ⟨fun h2 => ?_, fun h2 => ?_⟩
        · exact ⟨_, .pick [], no k y hy (by rw [hbit k c hc, h']) (of_decide_eq_true h2), rfl⟩
        · refine ⟨_, wrap_i64 (by omega) (by omega), ?_⟩
          exact backI (k + 1) (by omega) (next fun _ => of_decide_eq_false h2) ⟨rfl, rfl, rfl, rfl, trivial⟩ (.refl _)
      · have h' : c = true := by simpa using h'
        refine ⟨nofun, fun _ => ?_⟩
        refine ⟨_, wrap_i64 (by omega) (by omega), ?_⟩
        exact backI (k + 1) (by omega) (next fun hb' => by rw [hbit k c hc, h'] at hb'; cases hb') ⟨rfl, rfl, rfl, rfl, trivial⟩ (.refl _)
    · have h : ¬ (k : Int) ≠ i := of_decide_eq_false h
      obtain rfl : k = i := by omega
      rw [hx] at hy; cases hy
      repeat (refine ⟨nofun, fun _ => ?_⟩)
      refine ⟨_, wrap_i64 (by omega) (by omega), ?_⟩
      exact backI (k + 1) (by omega) (next fun _ => hle x (List.mem_of_getElem? hx)) ⟨rfl, rfl, rfl, rfl, trivial⟩ (.refl _)
  · have hkn : k = n := by have := of_decide_eq_false hge; omega
    subst hkn
    refine ⟨_, .pick [], ?_, rfl⟩
    rw [hcan.2 ⟨hbit i _ hb, fun j d hj hb' => hin j d (by have := (List.getElem?_eq_some_iff.1 hj).1; omega) hj hb'⟩]
    rfl

/-- A state of the specification's search: which calls are done, and what is live. -/
structure StR where
  da : Option Addr
  dl : Nat
  dc : Nat
  pa : Option Addr
  pl : Nat
  pc : Nat
def encR (r : StR) : List Value := [.slice r.da r.dl r.dc, .slice r.pa r.pl r.pc]

theorem fields90 : (Tryd.prog.fieldsOf 90).toList = [⟨"Addr", 3, 0, false, "", "", 0⟩, ⟨"Size", 3, 1, false, "", "", 8⟩] := by kernel_rfl
theorem neq90 (x y : Operand) (a b c d : Int) (w : World) : (do eqGuard .neq 90 x y (.agg ⟨[.int .i64 a, .int .i64 b]⟩) (.agg ⟨[.int .i64 c, .int .i64 d]⟩); binOp .neq 90 (.agg ⟨[.int .i64 a, .int .i64 b]⟩) (.agg ⟨[.int .i64 c, .int .i64 d]⟩) : Sem Value).run Tryd.prog w = .ok (.bool (!(decide (a = c) && decide (b = d)))) w := by
  refine (run_neq_agg (by kernel_rfl) (by kernel_rfl) (by kernel_rfl) fields90 (run_eqFields_int (by kernel_rfl) Tryd.underlying3 rfl rfl (run_eqFields_int (by kernel_rfl) Tryd.underlying3 rfl rfl run_eqFields_nil))).trans ?_
  congr 2
  simp only [Bool.and_true]
  rfl

theorem same_spec (a b : StR) (n : Nat) (ds ds' : List Bool) (ys ys' : List (Int × Int)) (w : World) (S : FP) (h1 : RO w S (roS a.da 1 encBl ds)) (h2 : RO w S (roS a.pa 2 encP ys)) (h3 : RO w S (roS b.da 1 encBl ds')) (h4 : RO w S (roS b.pa 2 encP ys'))
    (e1 : ds.length = n) (e2 : a.dl = n) (e3 : ds'.length = n) (e4 : b.dl = n) (e5 : ys.length = a.pl) (e6 : ys'.length = b.pl) (hn : n ≤ 1000000) (hp : a.pl ≤ 1000000) (hp' : b.pl ≤ 1000000) (hd : ∀ b, S b → b < w.heap.size) :
    Trip Tryd.prog 43 #[.agg ⟨encR a⟩, .agg ⟨encR b⟩] w S fun v L => ∃ r, v = .bool r ∧ (r = true ↔ ds = ds' ∧ ys = ys') ∧ L = [] := by
  obtain ⟨da, na, ca, pa, pn, pc⟩ := a
  obtain ⟨db, nb, cb, qa, qn, qc⟩ := b
  simp only at h1 h2 h3 h4 e2 e4 e5 e6 hp hp'
  subst e2
  refine Trip.of_x (L := []) Tryd.func43 (by kernel_rfl) rfl Tryd.ntmps43 Tryd.results43 rfl (ctx_ok _) trivial hd ?_
  intro ab
  intro bb
  refine ⟨_, ld 1 rfl rfl rfl, ?_⟩
  refine ⟨_, ld 0 rfl rfl rfl, ?_⟩
  refine ⟨fun h => ?_, fun h => ?_⟩
  · have h : (pn : Int) ≠ qn := of_decide_eq_true h
    refine ⟨_, .pick [], false, rfl, ?_, rfl⟩
    simp only [Bool.false_eq_true, false_iff]
    rintro ⟨_, rfl⟩
    omega
  have hpq : pn = qn := by
    have : (pn : Int) = qn := by simpa using h
    omega
  refine loopI (σ := Nat) (fun k => [(2, .pointer (some ⟨ab, 0, none⟩)), (3, .pointer (some ⟨bb, 0, none⟩)), (5, .int .i64 k)]) (fun _ => [pt bb [.slice db nb cb, .slice qa qn qc] 60, pt ab [.slice da na ca, .slice pa pn pc] 60])
    (fun k => k ≤ na ∧ ∀ i, i < k → ds[i]? = ds'[i]?) (fun k => na - k) 0 ⟨rfl, rfl, rfl, trivial⟩ (.refl _) ⟨Nat.zero_le _, fun i h => absurd h (by omega)⟩ ?_
  rintro k ⟨hk, hin⟩
  refine ⟨_, ld 1 rfl rfl rfl, ?_⟩
  refine ⟨fun hlt => ?_, fun hge => ?_⟩
  · have hkn : k < na := by have := of_decide_eq_true hlt; omega
    obtain ⟨x, hx⟩ : ∃ x, ds[k]? = some x := ⟨ds[k]'(by omega), by simp [show k < ds.length by omega]⟩
    obtain ⟨y, hy⟩ : ∃ y, ds'[k]? = some y := ⟨ds'[k]'(by omega), by simp [show k < ds'.length by omega]⟩
    obtain ⟨b1, o1, rfl⟩ := roS_at h1 (by omega)
    obtain ⟨b2, o2, rfl⟩ := roS_at h3 (by omega)
    refine Or.inl ⟨by kernel_rfl, ?_⟩
    refine ⟨_, ld 1 rfl rfl rfl, ?_⟩
    refine ⟨k, rfl, hkn, ?_⟩
    refine ⟨_, ldR h1 k 0 hx rfl rfl (by show o1 + k = o1 + (k * 1 + 0); omega), ?_⟩
    refine ⟨_, ld 0 rfl rfl rfl, ?_⟩
    refine ⟨k, rfl, by omega, ?_⟩
    refine ⟨_, ldR h3 k 0 hy rfl rfl (by show o2 + k = o2 + (k * 1 + 0); omega), ?_⟩
    refine ⟨fun h => ?_, fun h => ?_⟩
    · have h : x ≠ y := by simpa using h
      refine ⟨_, .pick [], false, rfl, ?_, rfl⟩
      simp only [Bool.false_eq_true, false_iff]
      rintro ⟨rfl, _⟩
      rw [hx] at hy; cases hy; exact h rfl
    · have h : x = y := by simpa using h
      refine ⟨_, wrap_i64 (by omega) (by omega), ?_⟩
      exact backI (k + 1) (by omega) ⟨hkn, fun i hi => by
        rcases Nat.lt_or_ge i k with h' | h'
        · exact hin i h'
        · obtain rfl : i = k := by omega
          rw [hx, hy, h]⟩ ⟨rfl, rfl, rfl, trivial⟩ (.refl _)
  have hkn : k = na := by have := of_decide_eq_false hge; omega
  have hds : ds = ds' := List.ext_getElem? fun i => by
    rcases Nat.lt_or_ge i k with h | h
    · exact hin i h
    · rw [List.getElem?_eq_none (by omega), List.getElem?_eq_none (by omega)]
  refine loopI (σ := Nat) (fun k => [(2, .pointer (some ⟨ab, 0, none⟩)), (3, .pointer (some ⟨bb, 0, none⟩)), (6, .int .i64 k)]) (fun _ => [pt bb [.slice db nb cb, .slice qa qn qc] 60, pt ab [.slice da na ca, .slice pa pn pc] 60])
    (fun k => k ≤ pn ∧ ∀ i, i < k → ys[i]? = ys'[i]?) (fun k => pn - k) 0 ⟨rfl, rfl, rfl, trivial⟩ (.refl _) ⟨Nat.zero_le _, fun i h => absurd h (by omega)⟩ ?_
  rintro k ⟨hk, hin⟩
  refine ⟨_, ld 1 rfl rfl rfl, ?_⟩
  refine ⟨fun hlt => ?_, fun hge => ?_⟩
  · have hkn : k < pn := by have := of_decide_eq_true hlt; omega
    obtain ⟨x, hx⟩ : ∃ x, ys[k]? = some x := ⟨ys[k]'(by omega), by simp [show k < ys.length by omega]⟩
    obtain ⟨y, hy⟩ : ∃ y, ys'[k]? = some y := ⟨ys'[k]'(by omega), by simp [show k < ys'.length by omega]⟩
    obtain ⟨b1, o1, rfl⟩ := roS_at h2 (by omega)
    obtain ⟨b2, o2, rfl⟩ := roS_at h4 (by omega)
    refine Or.inl ⟨by kernel_rfl, ?_⟩
    refine ⟨_, ld 1 rfl rfl rfl, ?_⟩
    refine ⟨k, rfl, hkn, ?_⟩
    refine ⟨_, ldRA h2 k hx rfl rfl rfl rfl, ?_⟩
    refine ⟨_, ld 0 rfl rfl rfl, ?_⟩
    refine ⟨k, rfl, by omega, ?_⟩
    refine ⟨_, ldRA h4 k hy rfl rfl rfl rfl, ?_⟩
    refine ⟨_, fun w _ => neq90 _ _ x.1 x.2 y.1 y.2 w, ?_⟩
    refine ⟨fun h => ?_, fun h => ?_⟩
    · have h : x ≠ y := by rintro rfl; simp at h
      refine ⟨_, .pick [], false, rfl, ?_, rfl⟩
      simp only [Bool.false_eq_true, false_iff]
      rintro ⟨_, rfl⟩
      rw [hx] at hy; cases hy; exact h rfl
    · have h : x = y := by
        simp only [Bool.not_eq_eq_eq_not, Bool.not_false, Bool.and_eq_true, decide_eq_true_iff] at h
        exact Prod.ext h.1 h.2
      refine ⟨_, wrap_i64 (by omega) (by omega), ?_⟩
      exact backI (k + 1) (by omega) ⟨hkn, fun i hi => by
        rcases Nat.lt_or_ge i k with h' | h'
        · exact hin i h'
        · obtain rfl : i = k := by omega
          rw [hx, hy, h]⟩ ⟨rfl, rfl, rfl, trivial⟩ (.refl _)
  · have hkn' : k = pn := by have := of_decide_eq_false hge; omega
    have hys : ys = ys' := List.ext_getElem? fun i => by
      rcases Nat.lt_or_ge i k with h | h
      · exact hin i h
      · rw [List.getElem?_eq_none (by omega), List.getElem?_eq_none (by omega)]
    exact ⟨_, .pick [], true, rfl, by simp only [true_iff]; exact ⟨hds, hys⟩, rfl⟩
end Go.Proofs.YtfebaopjfmpfkaaDoor
