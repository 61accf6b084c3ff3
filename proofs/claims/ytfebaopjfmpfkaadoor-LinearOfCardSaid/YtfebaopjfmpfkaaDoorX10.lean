/- Values of struct type: their equality, and maps whose keys they are. -/
import Derived.Test.YtfebaopjfmpfkaaDoorX9
import Derived.Laws.StructEq
import Derived.DeepKeys3
namespace Go.X
set_option linter.unusedVariables false
set_option linter.unusedSimpArgs false

theorem run_eqFields_one {P : Program} {w : World} {d : Nat} {xs ys : Array Value} {f : Field} {fs : List Field} {a b : Value} {r r' : Bool} (hn : (f.name ≠ "_")) (pa : (part f.type xs f.offset).run P w = .ok a w) (pb : (part f.type ys f.offset).run P w = .ok b w)
    (he : (Op.equalIn d f.type a b).run P w = .ok r w) (hr : (Op.eqFields d xs ys fs).run P w = .ok r' w) : (Op.eqFields d xs ys (f :: fs)).run P w = .ok (r && r') w := by
  simp only [Op.eqFields, hn, if_true, Sem.run_bind, pa, pb, he, Result.andThen_ok, ne_eq, not_false_eq_true]
  cases r with
  | true => simpa using hr
  | false => simp

/-- A field of a plain type. -/
theorem run_eqFields_int {P : Program} {w : World} {d : Nat} {xs ys : Array Value} {f : Field} {fs : List Field} {k k' : IntKind} {a b : Int} {r' : Bool} (hn : (f.name == "_") = false) (hu : P.underlying f.type = some (.int k')) (pa : xs[f.offset]? = some (.int k a)) (pb : ys[f.offset]? = some (.int k b))
    (hr : (Op.eqFields (d + 1) xs ys fs).run P w = .ok r' w) : (Op.eqFields (d + 1) xs ys (f :: fs)).run P w = .ok (a == b && r') w := by
  have hp : P.plainKey f.type = true := by simp [Program.plainKey, hu]
  exact run_eqFields_one (by simpa using hn) (run_part_plain w hp pa) (run_part_plain w hp pb) (run_equalIn_int w d f.type k k' a b hu) hr
theorem run_eqFields_str {P : Program} {w : World} {d : Nat} {xs ys : Array Value} {f : Field} {fs : List Field} {a b : ByteArray} {r' : Bool} (hn : (f.name == "_") = false) (hu : P.underlying f.type = some .string) (pa : xs[f.offset]? = some (.string a)) (pb : ys[f.offset]? = some (.string b))
    (hr : (Op.eqFields (d + 1) xs ys fs).run P w = .ok r' w) : (Op.eqFields (d + 1) xs ys (f :: fs)).run P w = .ok (a.toList == b.toList && r') w := by
  have hp : P.plainKey f.type = true := by simp [Program.plainKey, hu]
  exact run_eqFields_one (by simpa using hn) (run_part_plain w hp pa) (run_part_plain w hp pb) (run_equalIn_string w d f.type a b hu) hr
theorem run_eqFields_nil {P : Program} {w : World} {d : Nat} {xs ys : Array Value} : (Op.eqFields d xs ys []).run P w = .ok true w := by simp [Op.eqFields]

theorem run_eql_agg {P : Program} {w : World} {t : TypeId} {x y : Operand} {xs ys : Array Value} {fs : List Field} {r : Bool} (ht : P.underlying t = some (.struct (P.fieldsOf t))) (hp : P.stoodInHeld t = false) (hg : P.eqGuardType P.depth t = false) (hf : (P.fieldsOf t).toList = fs)
    (h : (Op.eqFields 9999 xs ys fs).run P w = .ok r w) : (do eqGuard .eql t x y (.agg xs) (.agg ys); binOp .eql t (.agg xs) (.agg ys) : Sem Value).run P w = .ok (.bool r) w := by
  rw [Sem.run_bind, run_eqGuard_agg _ _ _ _ _ _ _ hg, Result.andThen_ok, run_eql_struct, show (10000 : Nat) = 9999 + 1 from rfl, run_equalIn_agg _ _ _ _ _ ht hp, hf, h]
  rfl
theorem run_neq_agg {P : Program} {w : World} {t : TypeId} {x y : Operand} {xs ys : Array Value} {fs : List Field} {r : Bool} (ht : P.underlying t = some (.struct (P.fieldsOf t))) (hp : P.stoodInHeld t = false) (hg : P.eqGuardType P.depth t = false) (hf : (P.fieldsOf t).toList = fs)
    (h : (Op.eqFields 9999 xs ys fs).run P w = .ok r w) : (do eqGuard .neq t x y (.agg xs) (.agg ys); binOp .neq t (.agg xs) (.agg ys) : Sem Value).run P w = .ok (.bool (!r)) w := by
  rw [Sem.run_bind, run_eqGuard_agg _ _ _ _ _ _ _ hg, Result.andThen_ok, run_neq_struct, show (10000 : Nat) = 9999 + 1 from rfl, run_equalIn_agg _ _ _ _ _ ht hp, hf, h]
  rfl

section
variable {κ : Type} [DecidableEq κ] {P : Program} {kt : TypeId} {encK : κ → Value}

theorem findAsking_first (w : World) (heq : ∀ a b : κ, (Op.equal kt (encK a) (encK b)).run P w = .ok (decide (a = b)) w) (hinj : ∀ a b, encK a = encK b → a = b) (k : κ) :
    ∀ (l : List MapEntry) (i : Nat), (∀ x ∈ l, ∃ k', x.key = encK k') →
      (∃ j e, l[j]? = some e ∧ e.key = encK k ∧ (∀ j' e', j' < j → l[j']? = some e' → e'.key ≠ encK k) ∧ (Instr.findAsking kt (encK k) l i).run P w = .ok (some (i + j, e.val)) w) ∨
      ((∀ x ∈ l, x.key ≠ encK k) ∧ (Instr.findAsking kt (encK k) l i).run P w = .ok none w)
  | [], i, _ => .inr ⟨by simp, by simp [Instr.findAsking]⟩
  | e :: es, i, hall => by
    obtain ⟨k', hk'⟩ := hall e (by simp)
    have hr : (Op.equal kt (encK k) e.key).run P w = .ok (decide (k = k')) w := by rw [hk']; exact heq k k'
    by_cases hkk : k = k'
    · refine .inl ⟨0, e, rfl, by rw [hk', hkk], fun j' _ h => by omega, ?_⟩
      have hr' : (Op.equal kt (encK k) e.key).run P w = .ok true w := by rw [hr]; simp [hkk]
      simp [Instr.findAsking, hr']
    · have hne : e.key ≠ encK k := fun h => hkk (hinj _ _ (by rw [← h, hk']))
      have hstep : (Instr.findAsking kt (encK k) (e :: es) i).run P w = (Instr.findAsking kt (encK k) es (i + 1)).run P w := by simp [Instr.findAsking, hr, hkk]
      rw [hstep]
      rcases findAsking_first w heq hinj k es (i + 1) (fun y hy => hall y (by simp [hy])) with ⟨j, e', h1, h2, h3, h4⟩ | ⟨h1, h2⟩
      · refine .inl ⟨j + 1, e', by simpa using h1, h2, fun j' e'' hlt hj' => ?_, by rw [h4]; simp [Nat.add_assoc, Nat.add_comm 1 j]⟩
        cases j' with
        | zero => simp at hj'; subst hj'; exact hne
        | succ j' => exact h3 j' e'' (by omega) (by simpa using hj')
      · refine .inr ⟨fun y hy => ?_, h2⟩
        rcases List.mem_cons.1 hy with rfl | hy
        · exact hne
        · exact h1 y hy

theorem KeyLaw.of_wide (hwide : (match P.underlying kt with | some (.array _ _) | some (.struct _) => true | _ => false) = true) (hinj : ∀ a b, encK a = encK b → a = b)
    (heq : ∀ w (a b : κ), (Op.equal kt (encK a) (encK b)).run P w = .ok (decide (a = b)) w) (hcheck : ∀ w e k, (Instr.checkKey e 10000 kt (encK k)).run P w = .ok () w) (hstay : ∀ w k, (Instr.keyThatStays (encK k) (encK k)).run P w = .ok (encK k) w) : KeyLaw P kt encK where
  inj := hinj
  check := hcheck
  stay := hstay
  find w k l hl := by
    rw [run_findKey_eq w hwide]
    have := findAsking_first w (heq w) hinj k l 0 hl
    simpa using this
end
end Go.X
