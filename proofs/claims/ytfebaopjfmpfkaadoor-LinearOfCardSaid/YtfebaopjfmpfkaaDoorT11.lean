/- The law on Of. The law on Of: its arguments opened. -/
import Derived.Test.YtfebaopjfmpfkaaDoorT9
import Derived.Test.YtfebaopjfmpfkaaDoorL14
import Derived.Test.YtfebaopjfmpfkaaDoorL8
import Derived.Test.YtfebaopjfmpfkaaDoorT8
namespace Go.Proofs.YtfebaopjfmpfkaaDoor
open Go.X
set_option maxRecDepth 10000
set_option linter.unusedVariables false
set_option linter.unusedSimpArgs false

theorem fields41 : (Tryd.prog.fieldsOf 41).toList = [⟨"Thread", 3, 0, false, "", "", 0⟩, ⟨"Begin", 3, 1, false, "", "", 8⟩, ⟨"End", 3, 2, false, "", "", 16⟩, ⟨"Op", 37, 3, false, "", "", 24⟩, ⟨"Result", 39, 7, false, "", "", 56⟩] := by kernel_rfl
theorem fields37 : (Tryd.prog.fieldsOf 37).toList = [⟨"Kind", 3, 0, false, "", "", 0⟩, ⟨"Size", 3, 1, false, "", "", 8⟩, ⟨"Align", 3, 2, false, "", "", 16⟩, ⟨"Addr", 3, 3, false, "", "", 24⟩] := by kernel_rfl
theorem part37 (c : Cl) (w : World) : (part 37 ⟨encCl c⟩ 3).run Tryd.prog w = .ok (.agg ⟨[.int .i64 c.kind, .int .i64 c.size, .int .i64 c.align, .int .i64 c.addr]⟩) w := by kernel_rfl
theorem part39 (c : Cl) (w : World) : (part 39 ⟨encCl c⟩ 7).run Tryd.prog w = .ok (.agg ⟨[.int .i64 c.ra, .int .i64 c.re]⟩) w := by kernel_rfl
theorem eq37 (a b : Cl) (w : World) : (Op.equalIn 9999 37 (.agg ⟨[.int .i64 a.kind, .int .i64 a.size, .int .i64 a.align, .int .i64 a.addr]⟩) (.agg ⟨[.int .i64 b.kind, .int .i64 b.size, .int .i64 b.align, .int .i64 b.addr]⟩)).run Tryd.prog w = .ok (a.kind == b.kind && (a.size == b.size && (a.align == b.align && (a.addr == b.addr && true)))) w := by
  show (Op.equalIn (9998 + 1) 37 _ _).run Tryd.prog w = _
  rw [run_equalIn_agg _ _ _ _ _ (by kernel_rfl) (by kernel_rfl), fields37]
  exact run_eqFields_int (by kernel_rfl) Tryd.underlying3 rfl rfl (run_eqFields_int (by kernel_rfl) Tryd.underlying3 rfl rfl (run_eqFields_int (by kernel_rfl) Tryd.underlying3 rfl rfl (run_eqFields_int (by kernel_rfl) Tryd.underlying3 rfl rfl run_eqFields_nil)))
theorem eq39 (a b : Cl) (w : World) : (Op.equalIn 9999 39 (.agg ⟨[.int .i64 a.ra, .int .i64 a.re]⟩) (.agg ⟨[.int .i64 b.ra, .int .i64 b.re]⟩)).run Tryd.prog w = .ok (a.ra == b.ra && (a.re == b.re && true)) w := by
  show (Op.equalIn (9998 + 1) 39 _ _).run Tryd.prog w = _
  rw [run_equalIn_agg _ _ _ _ _ (by kernel_rfl) (by kernel_rfl), fields39]
  exact run_eqFields_int (by kernel_rfl) Tryd.underlying3 rfl rfl (run_eqFields_int (by kernel_rfl) Tryd.underlying26 rfl rfl run_eqFields_nil)
noncomputable def neB (a b : Cl) : Bool := by classical exact !decide (a = b)
theorem neq41 (x y : Operand) (a b : Cl) (w : World) : (do eqGuard .neq 41 x y (.agg ⟨encCl a⟩) (.agg ⟨encCl b⟩); binOp .neq 41 (.agg ⟨encCl a⟩) (.agg ⟨encCl b⟩) : Sem Value).run Tryd.prog w = .ok (.bool (neB a b)) w := by
  refine (run_neq_agg (by kernel_rfl) (by kernel_rfl) (by kernel_rfl) fields41 (run_eqFields_int (by kernel_rfl) Tryd.underlying3 rfl rfl (run_eqFields_int (by kernel_rfl) Tryd.underlying3 rfl rfl (run_eqFields_int (by kernel_rfl) Tryd.underlying3 rfl rfl (run_eqFields_one (by decide) (part37 a w) (part37 b w) (eq37 a b w) (run_eqFields_one (by decide) (part39 a w) (part39 b w) (eq39 a b w) run_eqFields_nil)))))).trans ?_
  congr 2
  unfold neB
  obtain ⟨a1, a2, a3, a4, a5, a6, a7, a8, a9⟩ := a
  obtain ⟨b1, b2, b3, b4, b5, b6, b7, b8, b9⟩ := b
  congr 1
  rw [Bool.eq_iff_iff]
  simp [and_assoc]
theorem sameR_spec (a b : Option Addr) (n m c d : Nat) (xs ys : List Cl) (w : World) (S : FP) (hx : RO w S (roS a 9 encCl xs)) (hy : RO w S (roS b 9 encCl ys)) (hn : xs.length = n) (hm : ys.length = m) (hn2 : n ≤ 1000000) (hm2 : m ≤ 1000000) (hxy : xs = ys) (hd : ∀ b, S b → b < w.heap.size) :
    Trip Tryd.prog 23 #[.slice a n c, .slice b m d] w S fun v L => v = .bool true ∧ L = [] := by
  subst hxy
  have hnm : n = m := by omega
  refine Trip.of_x (L := []) Tryd.func23 (by kernel_rfl) rfl Tryd.ntmps23 Tryd.results23 rfl (ctx_ok _) trivial hd ?_
  refine ⟨fun h => absurd (of_decide_eq_true h) (by rw [hnm]; simp), fun _ => ?_⟩
  refine loopI (σ := Nat) (fun i => [(0, .slice a n c), (1, .slice b m d), (5, .int .i64 i)]) (fun _ => []) (fun i => i ≤ n) (fun i => n - i) 0 ⟨rfl, rfl, rfl, trivial⟩ (.refl _) (Nat.zero_le _) ?_
  rintro i hi
  refine ⟨fun h => ?_, fun h => ?_⟩
  · have hin : i < n := by have := of_decide_eq_true h; omega
    clear h
    obtain ⟨x, hxi⟩ : ∃ x, xs[i]? = some x := ⟨xs[i]'(by omega), by simp [show i < xs.length by omega]⟩
    obtain ⟨b1, o1, rfl⟩ := roS_at hx (by omega)
    obtain ⟨b2, o2, rfl⟩ := roS_at hy (by omega)
    refine Or.inl ⟨by kernel_rfl, ?_⟩
    refine ⟨i, rfl, hin, ?_⟩
    refine ⟨_, ldRA hx i hxi rfl rfl rfl rfl, ?_⟩
    refine ⟨i, rfl, by omega, ?_⟩
    refine ⟨_, ldRA hy i hxi rfl rfl rfl rfl, ?_⟩
    refine ⟨_, fun w _ => neq41 _ _ x x w, ?_⟩
    refine ⟨fun h => ?_, fun _ => ?_⟩
    · unfold neB at h; simp at h
    · refine ⟨((i + 1 : Nat) : Int), by rw [show ((i : Int) + 1) = ((i + 1 : Nat) : Int) by omega]; exact wrap_i64 (by omega) (by omega), ?_⟩
      exact backI (i + 1) (by omega) (by omega) ⟨rfl, rfl, rfl, trivial⟩ (.refl _)
  · exact ⟨_, .refl _, rfl, rfl⟩

theorem oflaw_spec (la : Option Addr) (n cap : Nat) (xs : List Ev) (w : World) (S : FP) (hT : RO w S tabC) (hl : RO w S (roS la 9 encEv xs)) (hn : xs.length = n) (hc : n ≤ cap) (hd : ∀ b, S b → b < w.heap.size) :
    Trip Tryd.prog 11 #[.slice la n cap] w S fun v L => v = .bool true ∧ L = [] := by
  refine Trip.of_x (L := []) Tryd.func11 (by kernel_rfl) rfl Tryd.ntmps11 Tryd.results11 rfl (ctx_ok _) trivial hd ?_
  refine ⟨fun h => ?_, fun h => ?_⟩
  · refine callP [] (fun w S hR hB hS hd => awake_spec w S (hR _ hT) hd) ?_
    rintro _ _ ⟨rfl, rfl⟩
    exact ⟨_, .pick [], rfl, rfl⟩
  have hn200 : n ≤ 200 := by have := of_decide_eq_false h; omega
  refine callP [] (fun w S hR hB hS hd => Of_spec la n cap xs w S (hR _ hl) hn hc hn200 hd) ?_
  rintro _ _ ⟨e, a, c, zs, rfl, h1, rfl⟩
  refine callP [] (fun w S hR hB hS hd => OfR_spec la n cap xs w S (hR _ hl) hn hc hn200 hd) ?_
  rintro _ _ ⟨e', a', c', zs', rfl, h2, rfl⟩
  obtain ⟨rfl, rfl⟩ := h1.uniq h2
  have hzl : zs.length ≤ 1000000 := by
    rcases h1 with ⟨_, _, rfl⟩ | ⟨hnb, _, hs, hm⟩
    · simp
    · have hok : OkTo xs xs.length := fun j _ => by
        cases hb : badB xs j with
        | false => rfl
        | true => exact absurd ⟨j, hb⟩ hnb
      have := (calls_few hok (hs.imp fun hlt => by rintro rfl; omega) fun c hc => (hm c).1 hc).2
      omega
  refine callP [] (fun w S hR hB hS hd => sameR_spec a a' zs.length zs.length c c' zs zs w S ((hB _ (lget_mem (i := 1) rfl)).own (fun _ _ => rfl) (by decide)) ((hB _ (lget_mem (i := 0) rfl)).own (fun _ _ => rfl) (by decide)) rfl rfl hzl hzl rfl hd) ?_
  rintro _ _ ⟨rfl, rfl⟩
  refine ⟨fun _ => ?_, nofun⟩
  refine ⟨fun _ => ?_, fun h => absurd (of_decide_eq_false h) (by simp)⟩
  refine callP [] (fun w S hR hB hS hd => awake_spec w S (hR _ hT) hd) ?_
  rintro _ _ ⟨rfl, rfl⟩
  exact ⟨_, .pick [], rfl, rfl⟩
end Go.Proofs.YtfebaopjfmpfkaaDoor
namespace Go.Proofs.YtfebaopjfmpfkaaDoor
open Go.X Go.ChangeShapes Go.WideShapes Go.Deep
set_option maxRecDepth 10000
set_option linter.unusedVariables false
set_option linter.unusedSimpArgs false

section
variable {H : Type} {enc : TypeId × Value → H} {W : World} {base : Nat} {spare : Nat → Bool} {held : Bool} {fuel : Nat} {cs : List Value} {x : DataW H × List MemPlace}

theorem open_op (h : DataW.trod enc Tryd.prog W base spare held fuel 37 cs = some x) : ∃ a b c d, cs = [.int .i64 a, .int .i64 b, .int .i64 c, .int .i64 d] := by
  obtain ⟨xs, n, _, _, hlen, hxl, hf⟩ := DataW.trod_struct Tryd.underlying37 h
  have c81 : Tryd.prog.cellsOf 81 = 9 := by kernel_rfl
  have c3 : Tryd.prog.cellsOf 3 = 1 := by kernel_rfl
  have c4 : Tryd.prog.cellsOf 4 = 1 := by kernel_rfl
  have c37 : Tryd.prog.cellsOf 37 = 4 := by kernel_rfl
  have c39 : Tryd.prog.cellsOf 39 = 2 := by kernel_rfl
  have c26 : Tryd.prog.cellsOf 26 = 1 := by kernel_rfl
  rw [c37] at hlen
  match cs, hlen with
  | [v0, v1, v2, v3], _ =>
    have g0 : DataW.trod enc Tryd.prog W base spare held n 3 [v0] = xs[0]? := by
      have this : DataW.trod enc Tryd.prog W base spare held n 3 (([v0, v1, v2, v3].drop 0).take (Tryd.prog.cellsOf 3)) = xs[0]? := hf 0 _ rfl
      rw [c3] at this
      exact this
    have g1 : DataW.trod enc Tryd.prog W base spare held n 3 [v1] = xs[1]? := by
      have this : DataW.trod enc Tryd.prog W base spare held n 3 (([v0, v1, v2, v3].drop 1).take (Tryd.prog.cellsOf 3)) = xs[1]? := hf 1 _ rfl
      rw [c3] at this
      exact this
    have g2 : DataW.trod enc Tryd.prog W base spare held n 3 [v2] = xs[2]? := by
      have this : DataW.trod enc Tryd.prog W base spare held n 3 (([v0, v1, v2, v3].drop 2).take (Tryd.prog.cellsOf 3)) = xs[2]? := hf 2 _ rfl
      rw [c3] at this
      exact this
    have g3 : DataW.trod enc Tryd.prog W base spare held n 3 [v3] = xs[3]? := by
      have this : DataW.trod enc Tryd.prog W base spare held n 3 (([v0, v1, v2, v3].drop 3).take (Tryd.prog.cellsOf 3)) = xs[3]? := hf 3 _ rfl
      rw [c3] at this
      exact this
    have get : ∀ i, i < 4 → ∃ y, xs[i]? = some y := fun i hi => ⟨xs[i]'(by rw [hxl]; exact hi), List.getElem?_eq_getElem _⟩
    obtain ⟨y0, e0⟩ := get 0 (by decide)
    obtain ⟨y1, e1⟩ := get 1 (by decide)
    obtain ⟨y2, e2⟩ := get 2 (by decide)
    obtain ⟨y3, e3⟩ := get 3 (by decide)
    obtain ⟨n0, h0, _⟩ := open_i Tryd.underlying3 (g0.trans e0)
    obtain ⟨n1, h1, _⟩ := open_i Tryd.underlying3 (g1.trans e1)
    obtain ⟨n2, h2, _⟩ := open_i Tryd.underlying3 (g2.trans e2)
    obtain ⟨n3, h3, _⟩ := open_i Tryd.underlying3 (g3.trans e3)
    cases h0; cases h1; cases h2; cases h3
    exact ⟨n0, n1, n2, n3, rfl⟩
theorem open_res (h : DataW.trod enc Tryd.prog W base spare held fuel 39 cs = some x) : ∃ a b, cs = [.int .i64 a, .int .i64 b] := by
  obtain ⟨xs, n, _, _, hlen, hxl, hf⟩ := DataW.trod_struct Tryd.underlying39 h
  have c81 : Tryd.prog.cellsOf 81 = 9 := by kernel_rfl
  have c3 : Tryd.prog.cellsOf 3 = 1 := by kernel_rfl
  have c4 : Tryd.prog.cellsOf 4 = 1 := by kernel_rfl
  have c37 : Tryd.prog.cellsOf 37 = 4 := by kernel_rfl
  have c39 : Tryd.prog.cellsOf 39 = 2 := by kernel_rfl
  have c26 : Tryd.prog.cellsOf 26 = 1 := by kernel_rfl
  rw [c39] at hlen
  match cs, hlen with
  | [v0, v1], _ =>
    have g0 : DataW.trod enc Tryd.prog W base spare held n 3 [v0] = xs[0]? := by
      have this : DataW.trod enc Tryd.prog W base spare held n 3 (([v0, v1].drop 0).take (Tryd.prog.cellsOf 3)) = xs[0]? := hf 0 _ rfl
      rw [c3] at this
      exact this
    have g1 : DataW.trod enc Tryd.prog W base spare held n 26 [v1] = xs[1]? := by
      have this : DataW.trod enc Tryd.prog W base spare held n 26 (([v0, v1].drop 1).take (Tryd.prog.cellsOf 26)) = xs[1]? := hf 1 _ rfl
      rw [c26] at this
      exact this
    have get : ∀ i, i < 2 → ∃ y, xs[i]? = some y := fun i hi => ⟨xs[i]'(by rw [hxl]; exact hi), List.getElem?_eq_getElem _⟩
    obtain ⟨y0, e0⟩ := get 0 (by decide)
    obtain ⟨y1, e1⟩ := get 1 (by decide)
    obtain ⟨n0, h0, _⟩ := open_i Tryd.underlying3 (g0.trans e0)
    obtain ⟨n1, h1, _⟩ := open_i Tryd.underlying26 (g1.trans e1)
    cases h0; cases h1
    exact ⟨n0, n1, rfl⟩
theorem open_ev (h : DataW.trod enc Tryd.prog W base spare held fuel 81 cs = some x) : ∃ e : Ev, cs = encEv e := by
  obtain ⟨xs, n, _, _, hlen, hxl, hf⟩ := DataW.trod_struct Tryd.underlying81 h
  have c81 : Tryd.prog.cellsOf 81 = 9 := by kernel_rfl
  have c3 : Tryd.prog.cellsOf 3 = 1 := by kernel_rfl
  have c4 : Tryd.prog.cellsOf 4 = 1 := by kernel_rfl
  have c37 : Tryd.prog.cellsOf 37 = 4 := by kernel_rfl
  have c39 : Tryd.prog.cellsOf 39 = 2 := by kernel_rfl
  have c26 : Tryd.prog.cellsOf 26 = 1 := by kernel_rfl
  rw [c81] at hlen
  match cs, hlen with
  | [v0, v1, v2, v3, v4, v5, v6, v7, v8], _ =>
    have g0 : DataW.trod enc Tryd.prog W base spare held n 3 [v0] = xs[0]? := by
      have this : DataW.trod enc Tryd.prog W base spare held n 3 (([v0, v1, v2, v3, v4, v5, v6, v7, v8].drop 0).take (Tryd.prog.cellsOf 3)) = xs[0]? := hf 0 _ rfl
      rw [c3] at this
      exact this
    have g1 : DataW.trod enc Tryd.prog W base spare held n 3 [v1] = xs[1]? := by
      have this : DataW.trod enc Tryd.prog W base spare held n 3 (([v0, v1, v2, v3, v4, v5, v6, v7, v8].drop 1).take (Tryd.prog.cellsOf 3)) = xs[1]? := hf 1 _ rfl
      rw [c3] at this
      exact this
    have g2 : DataW.trod enc Tryd.prog W base spare held n 4 [v2] = xs[2]? := by
      have this : DataW.trod enc Tryd.prog W base spare held n 4 (([v0, v1, v2, v3, v4, v5, v6, v7, v8].drop 2).take (Tryd.prog.cellsOf 4)) = xs[2]? := hf 2 _ rfl
      rw [c4] at this
      exact this
    have g3 : DataW.trod enc Tryd.prog W base spare held n 37 [v3, v4, v5, v6] = xs[3]? := by
      have this : DataW.trod enc Tryd.prog W base spare held n 37 (([v0, v1, v2, v3, v4, v5, v6, v7, v8].drop 3).take (Tryd.prog.cellsOf 37)) = xs[3]? := hf 3 _ rfl
      rw [c37] at this
      exact this
    have g4 : DataW.trod enc Tryd.prog W base spare held n 39 [v7, v8] = xs[4]? := by
      have this : DataW.trod enc Tryd.prog W base spare held n 39 (([v0, v1, v2, v3, v4, v5, v6, v7, v8].drop 7).take (Tryd.prog.cellsOf 39)) = xs[4]? := hf 4 _ rfl
      rw [c39] at this
      exact this
    have get : ∀ i, i < 5 → ∃ y, xs[i]? = some y := fun i hi => ⟨xs[i]'(by rw [hxl]; exact hi), List.getElem?_eq_getElem _⟩
    obtain ⟨y0, e0⟩ := get 0 (by decide)
    obtain ⟨y1, e1⟩ := get 1 (by decide)
    obtain ⟨y2, e2⟩ := get 2 (by decide)
    obtain ⟨y3, e3⟩ := get 3 (by decide)
    obtain ⟨y4, e4⟩ := get 4 (by decide)
    obtain ⟨n0, h0, _⟩ := open_i Tryd.underlying3 (g0.trans e0)
    obtain ⟨n1, h1, _⟩ := open_i Tryd.underlying3 (g1.trans e1)
    obtain ⟨b, h2, _⟩ := DataW.trod_bool Tryd.underlying4 (g2.trans e2)
    obtain ⟨m0, m1, m2, m3, h3⟩ := open_op (g3.trans e3)
    obtain ⟨q0, q1, h4⟩ := open_res (g4.trans e4)
    cases h0; cases h1; cases h2; cases h3; cases h4
    exact ⟨⟨n0, n1, b, m0, m1, m2, m3, q0, q1⟩, rfl⟩
/-- A slice of events. -/
theorem open_events (h : DataW.trod enc Tryd.prog W base spare held fuel 45 cs = some x) : ∃ la n cap, ∃ xs : List Ev, cs = [.slice la n cap] ∧ xs.length = n ∧ n ≤ cap ∧ cap ≤ maxLen ∧ True ∧ RO W (fun _ => False) (roS la 9 encEv xs) := by
  have c81 : Tryd.prog.cellsOf 81 = 9 := by kernel_rfl
  rcases open_slice Tryd.underlying45 h with ⟨rfl, _⟩ | ⟨a, len, cap, m, n, D, Pl, rfl, hb, hl, hc, hm, hx, hi⟩
  · exact ⟨none, 0, 0, [], rfl, rfl, Nat.le_refl _, Nat.zero_le _, trivial, roS_nil⟩
  · have hlm : len ≤ m := by rw [hm]; split <;> omega
    rw [c81] at hi
    obtain ⟨xs, hxl, hxs⟩ := list_of (p := fun i (c : Ev) => ∀ j, j < 9 → W.cell? ((a.add (i * 9)).add j) = (encEv c)[j]?) len fun i him => by
      obtain ⟨cs', hc', ht⟩ := hi i (by omega)
      obtain ⟨_, hcl, hat⟩ := World.cells?_some hc'
      obtain ⟨c, rfl⟩ := open_ev ht
      exact ⟨c, hat⟩
    have hspot : xs ≠ [] → a.spot = none := fun hne => by
      obtain ⟨c, hc0⟩ : ∃ c, xs[0]? = some c := by cases xs with | nil => exact absurd rfl hne | cons c xs => exact ⟨c, rfl⟩
      have := hxs 0 c hc0 0 (by decide)
      simp only [Nat.zero_mul, Addr.add, if_true] at this
      exact World.cell?_spot (w := W) (v := .int .i64 c.th) this
    refine ⟨some a, len, cap, xs, rfl, hxl, hl, hc, trivial, ⟨fun k => ∃ a', some a = some a' ∧ k = a'.block ∧ xs ≠ [], ⟨fun k => Iff.rfl, fun _ => by decide, fun _ _ => rfl, fun hne => ?_⟩, fun _ _ h => h⟩⟩
    obtain ⟨b, o, sp⟩ := a
    have hs := hspot hne
    simp only at hs
    subst hs
    refine ⟨b, o, rfl, fun i c hi j v hj => ?_⟩
    have hj9 : j < 9 := by
      rcases Nat.lt_or_ge j 9 with h | h
      · exact h
      · rw [List.getElem?_eq_none (by simpa [encEv] using h)] at hj; cases hj
    have := hxs i c hi j hj9
    rw [Addr.add_none, Addr.add_none, hj] at this
    rw [← this]
    congr 2
    omega
end
end Go.Proofs.YtfebaopjfmpfkaaDoor
