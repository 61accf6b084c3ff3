/- Package linear: what a plain allocator accepts. -/
import Derived.Test.YtfebaopjfmpfkaaDoorL1
import Derived.Test.YtfebaopjfmpfkaaDoorX10
namespace Go.Proofs.YtfebaopjfmpfkaaDoor
open Go.X
set_option maxRecDepth 10000
set_option linter.unusedVariables false
set_option linter.unusedSimpArgs false

def encI (k : Int) : Value := .int .i64 k
theorem law_int : KeyLaw Tryd.prog 3 encI := .of_plain (d := .int .i64) Tryd.underlying3 (fun a b h => by simpa [encI] using h) (fun k => rfl)
theorem zero3 (w : World) : (zeroValue 3).run Tryd.prog w = .ok (.int .i64 0) w := by kernel_rfl

theorem fields39 : (Tryd.prog.fieldsOf 39).toList = [⟨"Addr", 3, 0, false, "", "", 0⟩, ⟨"Errno", 26, 1, false, "", "", 8⟩] := by kernel_rfl
theorem fields97 : (Tryd.prog.fieldsOf 97).toList = [⟨"done", 65, 0, false, "", "freehold/linear", 0⟩, ⟨"live", 9, 1, false, "", "freehold/linear", 8⟩] := by kernel_rfl
theorem eql39 (x y : Operand) (a b c d : Int) (w : World) : (do eqGuard .eql 39 x y (.agg ⟨[.int .i64 a, .int .i64 b]⟩) (.agg ⟨[.int .i64 c, .int .i64 d]⟩); binOp .eql 39 (.agg ⟨[.int .i64 a, .int .i64 b]⟩) (.agg ⟨[.int .i64 c, .int .i64 d]⟩) : Sem Value).run Tryd.prog w = .ok (.bool (decide (a = c) && decide (b = d))) w := by
  refine (run_eql_agg (by kernel_rfl) (by kernel_rfl) (by kernel_rfl) fields39 (run_eqFields_int (by kernel_rfl) Tryd.underlying3 rfl rfl (run_eqFields_int (by kernel_rfl) Tryd.underlying26 rfl rfl run_eqFields_nil))).trans ?_
  congr 2
  simp only [Bool.and_true]
  rfl

theorem beq_bytes (a b : ByteArray) : (a == b) = decide (a = b) := by
  rw [beq_toListBytes, ByteArray.toList_eq, ByteArray.toList_eq]
  obtain ⟨⟨x⟩⟩ := a
  obtain ⟨⟨y⟩⟩ := b
  by_cases h : x = y <;> simp [h]
/-- A state of the search, as a key: what is done, and what is live, told. -/
def encSt (s : Int × ByteArray) : Value := .agg ⟨[.int .u64 s.1, .string s.2]⟩
theorem encSt_inj (a b : Int × ByteArray) (h : encSt a = encSt b) : a = b := by
  obtain ⟨a1, a2⟩ := a; obtain ⟨b1, b2⟩ := b
  simp [encSt] at h
  simp [h]
theorem law_st : KeyLaw Tryd.prog 97 encSt := .of_wide (by kernel_rfl) encSt_inj
  (fun w a b => by
    show (Op.equalIn (9999 + 1) 97 (encSt a) (encSt b)).run Tryd.prog w = _
    unfold encSt
    rw [run_equalIn_agg _ _ _ _ _ (by kernel_rfl) (by kernel_rfl), fields97]
    refine (run_eqFields_int (by kernel_rfl) Tryd.underlying65 rfl rfl (run_eqFields_str (by kernel_rfl) Tryd.underlying9 rfl rfl run_eqFields_nil)).trans ?_
    congr 1
    obtain ⟨a1, a2⟩ := a; obtain ⟨b1, b2⟩ := b
    rw [← beq_toListBytes]
    by_cases h1 : a1 = b1 <;> by_cases h2 : a2 = b2 <;> simp [h1, h2, beq_bytes])
  (fun w e k => by unfold encSt; kernel_rfl)
  (fun w k => by
    have hs : Instr.sameBits 10000 (encSt k) (encSt k) = true := by
      show Instr.sameBits (9999 + 1) (encSt k) (encSt k) = true
      simp [encSt, Instr.sameBits, beq_bytes]
    simp [Instr.keyThatStays, hs])

def confl (ra sz : Int) (p : Int × Int) : Bool := (decide (p.1 < ra) && decide (ra - p.1 < p.2)) || (decide (p.1 ≥ ra) && decide (p.1 - ra < sz))
/-- A plain allocator does a call: does it accept it, and what is live then? -/
def accF (M : List (Int × Int)) (c : Cl) : Bool × List (Int × Int) :=
  if c.kind = 0 then
    if c.re = 6 then (decide (c.ra = 0), M)
    else if c.re ≠ 0 ∨ c.ra < 256 ∨ c.ra.tmod c.align ≠ 0 then (false, M)
    else if M.any (confl c.ra c.size) then (false, M) else (true, ins M c.ra c.size)
  else if c.kind = 1 then
    if c.ra ≠ 0 then (false, M)
    else if c.re = 0 ∧ (lk M c.addr).isSome then (true, del M c.addr)
    else ((lk M c.addr).isNone && (decide (c.re = 9) || decide (c.re = 8)), M)
  else (decide (c.ra = 0) && decide (c.re = 0), M)

theorem accept_spec (mb : Nat) (M : List (Int × Int)) (c : Cl) (w : World) (S : FP) (hS : Sep [mp mb encI encI M] w S) (hd : ∀ b, S b → b < w.heap.size)
    (hal : c.kind = 0 → c.align ≠ 0) (hra : c.ra ≤ 9223372036854775807) (hM : ∀ p ∈ M, 256 ≤ p.1 ∧ p.1 ≤ 9223372036854775807) :
    Trip Tryd.prog 35 #[.map (some mb), .agg ⟨encCl c⟩] w S fun v L => v = .bool (accF M c).1 ∧ L = [mp mb encI encI (accF M c).2] := by
  refine Trip.of_x (L := [mp mb encI encI M]) Tryd.func35 (by kernel_rfl) rfl Tryd.ntmps35 Tryd.results35 rfl (ctx_ok _) hS hd ?_
  intro cb
  refine ⟨_, ldA 0 rfl rfl rfl rfl rfl, ?_⟩
  intro xb
  refine st 0 rfl rfl rfl rfl rfl ?_
  refine ⟨_, ld 1 rfl rfl rfl, ?_⟩
  refine ⟨fun hk => ?_, fun hk => ?_⟩
  · have hk : c.kind = 0 := of_decide_eq_true hk
    refine ⟨_, ld 0 rfl rfl rfl, ?_⟩
    refine ⟨fun h6 => ?_, fun h6 => ?_⟩
    · have h6 : c.re = 6 := of_decide_eq_true h6
      refine ⟨_, ld 0 rfl rfl rfl, ?_⟩
      exact ⟨[mp mb encI encI M], .pick [2], by simp [accF, hk, h6], by simp [accF, hk, h6]⟩
    have h6 : ¬ c.re = 6 := of_decide_eq_false h6
    refine ⟨_, ld 0 rfl rfl rfl, ?_⟩
    refine ⟨fun hre => ?_, fun hre => ?_⟩
    · have hre : c.re ≠ 0 := of_decide_eq_true hre
      refine ⟨fun _ => ?_, nofun⟩
      refine ⟨fun _ => ?_, nofun⟩
      exact ⟨[mp mb encI encI M], .pick [2], by simp [accF, hk, h6, hre], by simp [accF, hk, h6, hre]⟩
    have hre : c.re = 0 := by simpa using hre
    refine ⟨_, ld 0 rfl rfl rfl, ?_⟩
    refine ⟨fun hpg => ?_, fun hpg => ?_⟩
    · have hpg : c.ra < 256 := of_decide_eq_true hpg
      refine ⟨fun _ => ?_, nofun⟩
      exact ⟨[mp mb encI encI M], .pick [2], by simp [accF, hk, hre, hpg], by simp [accF, hk, hre, hpg]⟩
    have hpg : ¬ c.ra < 256 := of_decide_eq_false hpg
    refine ⟨_, ld 0 rfl rfl rfl, ?_⟩
    refine ⟨_, ld 1 rfl rfl rfl, ?_⟩
    refine ⟨hal hk, _, rfl, ?_⟩
    refine ⟨fun hmo => ?_, fun hmo => ?_⟩
    · have hmo : c.ra.tmod c.align ≠ 0 := of_decide_eq_true hmo
      exact ⟨[mp mb encI encI M], .pick [2], by simp [accF, hk, hre, hmo], by simp [accF, hk, hre, hmo]⟩
    have hmo : c.ra.tmod c.align = 0 := by simpa using hmo
    refine rangeM 2 rfl rfl rfl fun r => ?_
    refine loopI (σ := Option (Int × Int) × List (Int × Int)) (fun _ => [(0, .map (some mb)), (3, .pointer (some ⟨cb, 0, none⟩)), (5, .pointer (some ⟨xb, 0, none⟩)), (41, .pointer (some ⟨r, 0, none⟩))])
      (fun s => [pt xb [.int .i64 c.ra, .int .i64 c.re] 39, pt cb (encCl c) 41, mpi r mb encI encI M s.1 s.2])
      (fun s => (∀ p ∈ s.2, p ∈ M) ∧ ∀ p ∈ M, confl c.ra c.size p = true → p ∈ s.2) (fun s => s.2.length) (none, M) ⟨rfl, rfl, rfl, rfl, trivial⟩ (.refl _) ⟨fun _ h => h, fun _ h _ => h⟩ ?_
    rintro ⟨cur, left⟩ ⟨hsub, hcon⟩
    refine nextM 2 rfl (fun hl => ?_) (fun j p hp => ?_)
    · have hl : left = [] := hl
      subst hl
      refine ⟨nofun, fun _ => ?_⟩
      have hany : M.any (confl c.ra c.size) = false := by
        rw [Bool.eq_false_iff]; intro h; obtain ⟨p, h1, h2⟩ := List.any_eq_true.1 h; exact absurd (hcon p h1 h2) (by simp)
      refine ⟨_, ld 0 rfl rfl rfl, ?_⟩
      refine ⟨_, ld 1 rfl rfl rfl, ?_⟩
      refine Does.ent ((Ent.both [2]).trans mpi_end) ?_
      refine updM 0 c.ra c.size law_int rfl rfl rfl ?_
      exact ⟨[mp mb encI encI (ins M c.ra c.size)], .pick [0], by simp [accF, hk, hre, hpg, hmo, hany], by simp [accF, hk, hre, hpg, hmo, hany]⟩
    · have hpl : p ∈ left := List.mem_of_getElem? hp
      obtain ⟨hp1, hp2⟩ := hM p (hsub p hpl)
      have hdone : confl c.ra c.size p = false → (∀ q ∈ left.eraseIdx j, q ∈ M) ∧ ∀ q ∈ M, confl c.ra c.size q = true → q ∈ left.eraseIdx j := fun hno => ⟨fun q hq => hsub q (List.mem_of_mem_eraseIdx hq), fun q hq hc => by
        have hql := hcon q hq hc
        obtain ⟨m, hm⟩ := List.mem_iff_getElem?.1 hql
        rw [List.mem_eraseIdx_iff_getElem?]
        refine ⟨m, fun h => ?_, hm⟩
        subst h; rw [hp] at hm; cases hm; rw [hno] at hc; cases hc⟩
      have hlen : (left.eraseIdx j).length < left.length := by
        have : j < left.length := by rcases Nat.lt_or_ge j left.length with h | h; exact h; rw [List.getElem?_eq_none h] at hp; cases hp
        rw [List.length_eraseIdx_of_lt this]; omega
      refine ⟨fun _ => ?_, nofun⟩
      refine ⟨_, entryM 2 rfl, ?_⟩
      refine ⟨_, ld 0 rfl rfl rfl, ?_⟩
      refine ⟨fun h1 => ?_, fun h1 => ?_⟩
      · have h1 : p.1 < c.ra := of_decide_eq_true h1
        refine ⟨_, ld 0 rfl rfl rfl, ?_⟩
        refine ⟨_, wrap_i64 (by omega) (by omega), ?_⟩
        refine ⟨fun h2 => ?_, fun h2 => ?_⟩
        · have h2 : c.ra - p.1 < p.2 := of_decide_eq_true h2
          refine ⟨fun _ => ?_, nofun⟩
          have hany : M.any (confl c.ra c.size) = true := List.any_eq_true.2 ⟨p, hsub p hpl, by simp [confl, h1, h2]⟩
          refine ⟨[mp mb encI encI M], (Ent.both [2]).trans (mpi_end.trans (.pick [0])), by simp [accF, hk, hre, hpg, hmo, hany], by simp [accF, hk, hre, hpg, hmo, hany]⟩
        · have h2 : ¬ c.ra - p.1 < p.2 := of_decide_eq_false h2
          refine ⟨_, ld 0 rfl rfl rfl, ?_⟩
          refine ⟨fun h3 => ?_, fun h3 => ?_⟩
          · have h3 : p.1 ≥ c.ra := of_decide_eq_true h3
            omega
          · refine ⟨nofun, fun _ => ?_⟩
            exact backI (some p, left.eraseIdx j) hlen (hdone (by simp [confl, h2]; omega)) ⟨rfl, rfl, rfl, rfl, trivial⟩ (.refl _)
      · have h1 : ¬ p.1 < c.ra := of_decide_eq_false h1
        refine ⟨nofun, fun _ => ?_⟩
        refine ⟨_, ld 0 rfl rfl rfl, ?_⟩
        refine ⟨fun h3 => ?_, fun h3 => ?_⟩
        · refine ⟨_, ld 0 rfl rfl rfl, ?_⟩
          refine ⟨_, wrap_i64 (by omega) (by omega), ?_⟩
          refine ⟨_, ld 1 rfl rfl rfl, ?_⟩
          refine ⟨fun h4 => ?_, fun h4 => ?_⟩
          · have h4 : p.1 - c.ra < c.size := of_decide_eq_true h4
            have hany : M.any (confl c.ra c.size) = true := List.any_eq_true.2 ⟨p, hsub p hpl, by simp [confl, h4]; omega⟩
            refine ⟨[mp mb encI encI M], (Ent.both [2]).trans (mpi_end.trans (.pick [0])), by simp [accF, hk, hre, hpg, hmo, hany], by simp [accF, hk, hre, hpg, hmo, hany]⟩
          · have h4 : ¬ p.1 - c.ra < c.size := of_decide_eq_false h4
            exact backI (some p, left.eraseIdx j) hlen (hdone (by simp [confl, h4]; omega)) ⟨rfl, rfl, rfl, rfl, trivial⟩ (.refl _)
        · have h3 : ¬ p.1 ≥ c.ra := of_decide_eq_false h3
          omega
  have hk : ¬ c.kind = 0 := of_decide_eq_false hk
  refine ⟨fun hk1 => ?_, fun hk1 => ?_⟩
  · have hk1 : c.kind = 1 := of_decide_eq_true hk1
    refine ⟨_, ld 1 rfl rfl rfl, ?_⟩
    rcases hlk : lk M c.addr with _ | sz
    · refine ⟨_, lookN 2 hlk law_int rfl rfl rfl zero3, ?_⟩
      refine ⟨_, ld 0 rfl rfl rfl, ?_⟩
      refine ⟨fun hra0 => ?_, fun hra0 => ?_⟩
      · have hra0 : c.ra ≠ 0 := of_decide_eq_true hra0
        exact ⟨[mp mb encI encI M], .pick [2], by simp [accF, hk1, hra0], by simp [accF, hk1, hra0]⟩
      have hra0 : c.ra = 0 := by simpa using hra0
      refine ⟨_, ld 0 rfl rfl rfl, ?_⟩
      refine ⟨fun h0 => ?_, fun h0 => ?_⟩
      · refine ⟨nofun, fun _ => ?_⟩
        refine ⟨fun _ => ?_, nofun⟩
        have h0 : c.re = 0 := of_decide_eq_true h0
        refine ⟨_, ld 0 rfl rfl rfl, ?_⟩
        refine ⟨fun h9 => ?_, fun h9 => ?_⟩
        · have h9 : c.re = 9 := of_decide_eq_true h9
          omega
        refine ⟨_, ld 0 rfl rfl rfl, ?_⟩
        exact ⟨[mp mb encI encI M], .pick [2], by simp [accF, hk1, hra0, h0, hlk], by simp [accF, hk1, hra0, h0, hlk]⟩
      · have h0 : ¬ c.re = 0 := of_decide_eq_false h0
        refine ⟨nofun, fun _ => ?_⟩
        refine ⟨fun _ => ?_, nofun⟩
        refine ⟨_, ld 0 rfl rfl rfl, ?_⟩
        refine ⟨fun h9 => ?_, fun h9 => ?_⟩
        · have h9 : c.re = 9 := of_decide_eq_true h9
          exact ⟨[mp mb encI encI M], .pick [2], by simp [accF, hk1, hra0, h9, hlk], by simp [accF, hk1, hra0, h9, hlk]⟩
        have h9 : ¬ c.re = 9 := of_decide_eq_false h9
        refine ⟨_, ld 0 rfl rfl rfl, ?_⟩
        exact ⟨[mp mb encI encI M], .pick [2], by simp [accF, hk1, hra0, h0, h9, hlk], by simp [accF, hk1, hra0, h0, h9, hlk]⟩
    · refine ⟨_, lookS (.int .i64 0) 2 hlk law_int rfl rfl rfl zero3, ?_⟩
      refine ⟨_, ld 0 rfl rfl rfl, ?_⟩
      refine ⟨fun hra0 => ?_, fun hra0 => ?_⟩
      · have hra0 : c.ra ≠ 0 := of_decide_eq_true hra0
        exact ⟨[mp mb encI encI M], .pick [2], by simp [accF, hk1, hra0], by simp [accF, hk1, hra0]⟩
      have hra0 : c.ra = 0 := by simpa using hra0
      refine ⟨_, ld 0 rfl rfl rfl, ?_⟩
      refine ⟨fun h0 => ?_, fun h0 => ?_⟩
      · have h0 : c.re = 0 := of_decide_eq_true h0
        refine ⟨fun _ => ?_, nofun⟩
        refine ⟨_, ld 1 rfl rfl rfl, ?_⟩
        refine delM 2 c.addr law_int rfl rfl rfl rfl ?_
        exact ⟨[mp mb encI encI (del M c.addr)], .pick [2], by simp [accF, hk1, hra0, h0, hlk], by simp [accF, hk1, hra0, h0, hlk]⟩
      · have h0 : ¬ c.re = 0 := of_decide_eq_false h0
        refine ⟨nofun, fun _ => ?_⟩
        refine ⟨nofun, fun _ => ?_⟩
        exact ⟨[mp mb encI encI M], .pick [2], by simp [accF, hk1, hra0, h0, hlk], by simp [accF, hk1, hra0, h0, hlk]⟩
  · have hk1 : ¬ c.kind = 1 := of_decide_eq_false hk1
    refine ⟨_, ldA 0 rfl rfl rfl rfl rfl, ?_⟩
    refine ⟨_, fun w _ => eql39 _ _ c.ra c.re 0 0 w, ?_⟩
    exact ⟨[mp mb encI encI M], .pick [2], by simp [accF, hk, hk1], by simp [accF, hk, hk1]⟩

end Go.Proofs.YtfebaopjfmpfkaaDoor
