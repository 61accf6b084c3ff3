/- The evaluator's operations that read no memory say what the model says. -/
import Derived.Test.YtkkeimpmafllpaaGreatDoorYA
import Derived.Test.YtkkeimpmafllpaaGreatDoorXC
namespace Go.Y
open Go.X (TK TyI Fr FP Tab TabOk CtxOk)
set_option linter.unusedVariables false
set_option linter.unusedSimpArgs false
set_option linter.constructorNameAsVariable false
set_option linter.unusedSectionVars false

theorem binI_ok {ρ : Rho} {op : BinOp} {k : IntKind} {a b : Int} {v : AV} (h : binI op k a b = some v) : Go.X.xbin op k a b (fun u => VR ρ v u) := by
  cases op <;> simp only [binI] at h <;> simp only [Go.X.xbin]
  case add => exact ⟨_, rfl, by rw [← wrapF_eq]; exact mkI_vr h⟩
  case sub => exact ⟨_, rfl, by rw [← wrapF_eq]; exact mkI_vr h⟩
  case mul => exact ⟨_, rfl, by rw [← wrapF_eq]; exact mkI_vr h⟩
  case quo =>
    obtain ⟨h1, h2⟩ := chk_some h
    exact ⟨by simpa [ibeq_eq] using h1, _, rfl, by rw [← wrapF_eq]; exact mkI_vr h2⟩
  case rem =>
    obtain ⟨h1, h2⟩ := chk_some h
    exact ⟨by simpa [ibeq_eq] using h1, _, rfl, mkI_vr h2⟩
  case and => exact ⟨_, rfl, mkI_vr h⟩
  case or => exact ⟨_, rfl, mkI_vr h⟩
  case xor => exact ⟨_, rfl, mkI_vr h⟩
  case andNot => exact ⟨_, rfl, mkI_vr h⟩
  case eql => cases h; rw [ibeq_eq]; exact .of_bool _
  case neq => cases h; rw [ibeq_eq]; simp only [ne_eq, decide_not]; exact .of_bool _
  case lss => cases h; rw [iblt_eq]; exact .of_bool _
  case leq => cases h; rw [iblt_eq, ← decide_not]; simp only [Int.not_lt]; exact .of_bool _
  case gtr => cases h; rw [iblt_eq]; exact .of_bool _
  case geq => cases h; rw [iblt_eq, ← decide_not]; simp only [Int.not_lt]; exact .of_bool _
  case shl =>
    obtain ⟨h1, h2⟩ := chk_some h
    exact ⟨by simpa [iblt_eq] using h1, _, rfl, by rw [← wrapF_eq]; exact mkI_vr h2⟩
  case shr =>
    obtain ⟨h1, h2⟩ := chk_some h
    exact ⟨by simpa [iblt_eq] using h1, _, rfl, mkI_vr h2⟩
theorem forceL_in : ∀ {l : List Value} {K : List Value → Prop}, K l → Go.X.forceL l K
  | [], _, h => h
  | _ :: l, K, h => forceL_in (l := l) (K := fun l' => K (_ :: l')) h
theorem VRL.append_inv : ∀ {a b : List AV} {u : List Value} {ρ : Rho}, VRL ρ (a ++ b) u → ∃ x y, u = x ++ y ∧ VRL ρ a x ∧ VRL ρ b y
  | [], b, u, ρ, h => ⟨[], u, rfl, .nil, h⟩
  | c :: a, b, u, ρ, h => by
    obtain ⟨v, l', rfl, h1, h2⟩ := h.cons_inv
    obtain ⟨x, y, rfl, h3, h4⟩ := VRL.append_inv h2
    exact ⟨v :: x, y, rfl, .cons h1 h3, h4⟩

section
variable {P : Program} {tab : Tab} {g : Gl} (hG : GOk P tab g) {ρ : Rho} {e : Env} {a : Act}
include hG
theorem elem_ok {t et : TypeId} {ei : Ty} (h : elem g t = some (et, ei)) : P.underlying t = some (.slice et) ∧ TyR P tab et ei ∧ ∃ ti, Go.X.tget tab t = some ti ∧ ti.k = .slice et := by
  obtain ⟨ti, h1, h⟩ := ob_some h
  obtain ⟨b, z, h2, _⟩ := (hG.get h1).ti
  obtain ⟨k, s, zz, c⟩ := ti
  cases k <;> simp only at h <;> try cases h
  obtain ⟨ei', h3, h4⟩ := ob_some h
  cases h4
  obtain ⟨d, hd, hk⟩ := (hG.tk.get h2).und
  exact ⟨by rw [hd, Go.X.kOk.slice hk], hG.get h3, _, h2, rfl⟩
theorem optN_ok (k : ER ρ e a) {x : Option Operand} {d n : Nat} (h : optN e x d = some n) : Go.X.optV (envOf a) x (fun r => (x = none ∧ r = none ∧ n = d) ∨ (x.isSome ∧ r = some (.int .i64 (n : Int)))) := by
  cases x with
  | none => cases h; exact .inl ⟨rfl, rfl, rfl⟩
  | some x =>
    obtain ⟨v, h1, h2⟩ := ob_some h
    obtain ⟨u, h3, h4⟩ := ev_vr k h1
    simp only [Go.X.optV, h3]
    exact .inr ⟨rfl, by rw [nat_vr h2 h4]⟩
theorem optV_mono {x : Option Operand} {K K' : Option Value → Prop} (h : Go.X.optV (envOf a) x K) (hk : ∀ r, K r → K' r) : Go.X.optV (envOf a) x K' := by
  cases x with
  | none => exact hk _ h
  | some x =>
    simp only [Go.X.optV] at h ⊢
    split at h
    · exact hk _ h
    · exact h
end

theorem addr_add (b o n : Nat) : (⟨b, o, none⟩ : Addr).add n = ⟨b, o + n, none⟩ := Go.X.Addr.add_none b o n
theorem bound_run {P : Program} {w : World} {n y : Nat} {code : BoundsCode} (h : n ≤ y) : (Instr.sliceBound (.int .i64 (n : Int)) y code).run P w = .ok n w := by
  have h1 : (0 : Int) ≤ n := by omega
  have h2 : (n : Int) ≤ y := by omega
  simp [Instr.sliceBound, asIntOf, h]
/-- A slice of a slice. -/
theorem slice_run {P : Program} {w : World} {t et : TypeId} {sz : Nat} {A : Option Addr} {n c l h m : Nat} {lo hi mx : Option Value} (ht : P.underlying t = some (.slice et)) (hs : ∀ w, (sizeOf et).run P w = .ok sz w)
    (hlo : (lo = none ∧ l = 0) ∨ lo = some (.int .i64 (l : Int))) (hhi : (hi = none ∧ h = n) ∨ hi = some (.int .i64 (h : Int))) (hmx : (mx = none ∧ m = c) ∨ (mx = some (.int .i64 (m : Int)) ∧ hi.isSome)) (h1 : l ≤ h) (h2 : h ≤ m) (h3 : m ≤ c) :
    (Instr.sliceAt t (.slice A n c) lo hi mx).run P w = .ok (.slice (if m = l then A else A.map (·.add (l * sz))) (h - l) (m - l)) w := by
  have key : (Instr.sliceBounds true n c lo hi mx).run P w = .ok (l, h, m) w := by
    rcases hmx with ⟨rfl, rfl⟩ | ⟨rfl, hs'⟩ <;> rcases hhi with ⟨rfl, rfl⟩ | rfl <;> rcases hlo with ⟨rfl, rfl⟩ | rfl <;> first
      | (simp [Instr.sliceBounds, bound_run h1, bound_run h2, bound_run h3]; done)
      | (simp at hs')
  unfold Instr.sliceAt Instr.slice
  simp only [Sem.run_bind, Go.X.run_underlying' ht, Result.andThen_ok, key, hs]
  rfl
section
variable {P : Program} {tab : Tab} {g : Gl} (hG : GOk P tab g) {ρ : Rho} {e : Env} {a : Act}
include hG
theorem sliceV_ok (k : ER ρ e a) {t : TypeId} {v r : AV} {u : Value} {lo hi mx : Option Operand} (h : sliceV g t v e lo hi mx = some r) (hv : VR ρ v u) {C : Go.X.Ctx} (hP : C.P = P) {L : List Go.X.Chunk} :
    Go.X.optV (envOf a) lo fun lo => Go.X.optV (envOf a) hi fun hi => Go.X.optV (envOf a) mx fun mx => ∃ q, Go.X.RunsTo C L (Instr.sliceAt t u lo hi mx) q ∧ VR ρ r q := by
  subst hP
  have map_some : ∀ (x : Bk) (o n : Nat), Option.map (fun y : Addr => y.add n) (some (⟨x.b, x.d + o, none⟩ : Addr)) = some ⟨x.b, x.d + (o + n), none⟩ := fun x o n => by simp [addr_add, Nat.add_assoc]
  cases v <;> simp only [sliceV] at h <;> try cases h
  case ptr b o =>
    obtain ⟨ti, h1, h⟩ := ob_some h
    have hy := hG.get h1
    simp only [VR] at hv
    obtain ⟨x, hx, rfl⟩ := hv
    cases hk : ti.k <;> rw [hk] at h <;> try cases h
    rename_i n et
    cases lo with
    | some _ => cases h
    | none =>
      cases hi with
      | some _ => cases h
      | none =>
        cases mx with
        | some _ => cases h
        | none =>
          simp only [mkSl, nat1_eq] at h
          cases h
          obtain ⟨by', z, e3, _⟩ := hy.ti
          obtain ⟨d, hd2, hk'⟩ := (hG.tk.get e3).und
          rw [show ({ k := ti.k, size := ti.size, bytes := by', zero := z } : TyI).k = .array n et from hk] at hk'
          obtain rfl := Go.X.kOk.array hk'
          obtain ⟨ei, he⟩ := hy.arr n et hk
          show ∃ q, _
          refine ⟨.slice (some ⟨x.b, x.d + o, none⟩) n n, fun w _ => ?_, by simp only [VR]; exact ⟨x, hx, rfl⟩⟩
          have hadd : (⟨x.b, x.d + o, none⟩ : Addr).add (0 * ei.size) = ⟨x.b, x.d + o, none⟩ := by simp [addr_add]
          have kb : (Instr.sliceBounds false n n none none none).run C.P w = .ok (0, n, n) w := by simp [Instr.sliceBounds]
          have ks : (Instr.sureAddr (.pointer (some ⟨x.b, x.d + o, none⟩))).run C.P w = .ok ⟨x.b, x.d + o, none⟩ w := by simp [Instr.sureAddr]
          unfold Instr.sliceAt
          simp only [Sem.run_bind, Go.X.run_underlying' hd2, Result.andThen_ok, ks, kb, Go.X.run_sizeOf' (hG.tk.get he), Sem.run_pure, hadd]
          simp
  case sl b o n c =>
    obtain ⟨⟨et, ei⟩, h1, h⟩ := ob_some h
    obtain ⟨l, h2, h⟩ := ob_some h
    obtain ⟨hh, h3, h⟩ := ob_some h
    obtain ⟨m, h4, h⟩ := ob_some h
    obtain ⟨h5, h⟩ := chk_some h
    obtain ⟨e1, e2, _⟩ := elem_ok hG h1
    obtain ⟨by', z, e3, _⟩ := e2.ti
    simp only [Bool.and_eq_true] at h5
    obtain ⟨⟨⟨c1, c2⟩, c3⟩, c4⟩ := h5
    have c1 := Nat.le_of_ble_eq_true c1
    have c2 := Nat.le_of_ble_eq_true c2
    have c3 := Nat.le_of_ble_eq_true c3
    simp only [VR] at hv
    obtain ⟨x, hx, rfl⟩ := hv
    refine optV_mono hG (optN_ok hG k h2) fun lo' hlo => optV_mono hG (optN_ok hG k h3) fun hi' hhi => optV_mono hG (optN_ok hG k h4) fun mx' hmx => ?_
    refine ⟨_, fun w _ => slice_run e1 (fun w => Go.X.run_sizeOf' (hG.tk.get e3)) (hlo.imp (fun q => ⟨q.2.1, q.2.2⟩) (·.2)) (hhi.imp (fun q => ⟨q.2.1, q.2.2⟩) (·.2)) ?_ c1 c2 c3, ?_⟩
    · rcases hmx with ⟨q1, q2, q3⟩ | ⟨q1, q2⟩
      · exact .inl ⟨q2, q3⟩
      · refine .inr ⟨q2, ?_⟩
        rcases hhi with ⟨r1, r2, r3⟩ | ⟨r1, r2⟩
        · subst r1
          cases mx with
          | none => cases q1
          | some _ => cases c4
        · rw [r2]; rfl
    · cases hml : Nat.beq m l with
      | true =>
        rw [hml] at h
        have := Nat.eq_of_beq_eq_true hml
        simp only [mkSl, nat1_eq] at h
        cases h
        rw [if_pos this]
        simp only [VR]; exact ⟨x, hx, rfl⟩
      | false =>
        rw [hml] at h
        have : m ≠ l := fun q => by subst q; simp at hml
        simp only [mkSl, nat1_eq] at h
        cases h
        rw [if_neg this, map_some]
        simp only [VR]; exact ⟨x, hx, rfl⟩
  case su b o n z =>
    obtain ⟨⟨et, ei⟩, h1, h⟩ := ob_some h
    obtain ⟨l, h2, h⟩ := ob_some h
    obtain ⟨hh, h3, h⟩ := ob_some h
    obtain ⟨hz, h⟩ := chk_some h
    have hz := Nat.eq_of_beq_eq_true hz
    obtain ⟨e1, e2, _⟩ := elem_ok hG h1
    obtain ⟨by', zz, e3, _⟩ := e2.ti
    simp only [VR] at hv
    obtain ⟨x, A, c, hx, rfl, hnc, hcz, hA⟩ := hv
    have hs : ∀ w, (sizeOf et).run C.P w = .ok z w := fun w => by rw [hz]; exact Go.X.run_sizeOf' (hG.tk.get e3)
    have map_A : 0 < c → ∀ q, Option.map (fun y : Addr => y.add q) (some A) = some ⟨x.b, x.d + (o + q), none⟩ := fun hc q => by rw [hA hc]; simp [addr_add, Nat.add_assoc]
    refine optV_mono hG (optN_ok hG k h2) fun lo' hlo => optV_mono hG (optN_ok hG k h3) fun hi' hhi => ?_
    cases mx with
    | none =>
      simp only at h
      obtain ⟨h5, h⟩ := chk_some h
      simp only [Bool.and_eq_true] at h5
      have c1 := Nat.le_of_ble_eq_true h5.1
      have c2 := Nat.le_of_ble_eq_true h5.2
      show ∃ q, _
      refine ⟨_, fun w _ => slice_run e1 hs (hlo.imp (fun q => ⟨q.2.1, q.2.2⟩) (·.2)) (hhi.imp (fun q => ⟨q.2.1, q.2.2⟩) (·.2)) (.inl ⟨rfl, rfl⟩) c1 (by omega) (Nat.le_refl _), ?_⟩
      simp only [mkSu, nat1_eq] at h
      cases h
      have hle : l * z + (c - l) * z = c * z := by rw [← Nat.add_mul]; congr 1; omega
      by_cases hcl : c = l
      · rw [if_pos hcl]
        simp only [VR]
        refine ⟨x, A, c - l, hx, rfl, by omega, by omega, fun h => by omega⟩
      · rw [if_neg hcl, map_A (by omega)]
        simp only [VR]
        exact ⟨x, _, c - l, hx, rfl, by omega, by omega, fun _ => rfl⟩
    | some mo =>
      simp only at h
      obtain ⟨m, h4, h⟩ := ob_some h
      obtain ⟨mv, m1, m2⟩ := ob_some h4
      obtain ⟨mu, m3, m4⟩ := ev_vr k m1
      have := nat_vr m2 m4
      subst this
      obtain ⟨h5, h⟩ := chk_some h
      simp only [Bool.and_eq_true] at h5
      obtain ⟨⟨⟨c1, c2⟩, c3⟩, c4⟩ := h5
      have c1 := Nat.le_of_ble_eq_true c1
      have c2 := Nat.le_of_ble_eq_true c2
      have c3 := Nat.le_of_ble_eq_true c3
      simp only [Go.X.optV, m3]
      refine ⟨_, fun w _ => slice_run e1 hs (hlo.imp (fun q => ⟨q.2.1, q.2.2⟩) (·.2)) (hhi.imp (fun q => ⟨q.2.1, q.2.2⟩) (·.2)) (.inr ⟨rfl, ?_⟩) c1 c2 (by omega), ?_⟩
      · rcases hhi with ⟨r1, r2, r3⟩ | ⟨r1, r2⟩
        · subst r1; cases c4
        · rw [r2]; rfl
      · cases hml : Nat.beq m l with
        | true =>
          rw [hml] at h
          have e0 := Nat.eq_of_beq_eq_true hml
          simp only at h
          split at h
          · rename_i hm0
            have hm0 := Nat.eq_of_beq_eq_true hm0
            cases h
            rw [if_pos e0]
            simp only [VR]
            exact ⟨A, by rw [show hh - l = 0 by omega, show m - l = 0 by omega]⟩
          · cases h
        | false =>
          rw [hml] at h
          have : m ≠ l := fun q => by subst q; simp at hml
          simp only [mkSl, nat1_eq] at h
          cases h
          rw [if_neg this, map_A (by omega)]
          simp only [VR]; exact ⟨x, hx, rfl⟩
  case snil =>
    obtain ⟨⟨et, ei⟩, h1, h⟩ := ob_some h
    obtain ⟨l, h2, h⟩ := ob_some h
    obtain ⟨hh, h3, h⟩ := ob_some h
    obtain ⟨m, h4, h⟩ := ob_some h
    obtain ⟨h5, h⟩ := chk_some h
    cases h
    obtain ⟨e1, e2, _⟩ := elem_ok hG h1
    obtain ⟨by', z, e3, _⟩ := e2.ti
    simp only [Bool.and_eq_true] at h5
    obtain ⟨⟨⟨c1, c2⟩, c3⟩, c4⟩ := h5
    have c1 := Nat.eq_of_beq_eq_true c1
    have c2 := Nat.eq_of_beq_eq_true c2
    have c3 := Nat.eq_of_beq_eq_true c3
    subst c1; subst c2; subst c3
    simp only [VR] at hv
    subst hv
    refine optV_mono hG (optN_ok hG k h2) fun lo' hlo => optV_mono hG (optN_ok hG k h3) fun hi' hhi => optV_mono hG (optN_ok hG k h4) fun mx' hmx => ?_
    refine ⟨_, fun w _ => slice_run e1 (fun w => Go.X.run_sizeOf' (hG.tk.get e3)) (hlo.imp (fun q => ⟨q.2.1, q.2.2⟩) (·.2)) (hhi.imp (fun q => ⟨q.2.1, q.2.2⟩) (·.2)) ?_ (Nat.le_refl _) (Nat.le_refl _) (Nat.le_refl _), by simp [VR]⟩
    rcases hmx with ⟨q1, q2, q3⟩ | ⟨q1, q2⟩
    · exact .inl ⟨q2, q3⟩
    · refine .inr ⟨q2, ?_⟩
      rcases hhi with ⟨r1, r2, r3⟩ | ⟨r1, r2⟩
      · subst r1
        cases mx with
        | none => cases q1
        | some _ => cases c4
      · rw [r2]; rfl
  case se =>
    obtain ⟨⟨et, ei⟩, h1, h⟩ := ob_some h
    obtain ⟨l, h2, h⟩ := ob_some h
    obtain ⟨hh, h3, h⟩ := ob_some h
    obtain ⟨m, h4, h⟩ := ob_some h
    obtain ⟨h5, h⟩ := chk_some h
    cases h
    obtain ⟨e1, e2, _⟩ := elem_ok hG h1
    obtain ⟨by', z, e3, _⟩ := e2.ti
    simp only [Bool.and_eq_true] at h5
    obtain ⟨⟨⟨c1, c2⟩, c3⟩, c4⟩ := h5
    have c1 := Nat.eq_of_beq_eq_true c1
    have c2 := Nat.eq_of_beq_eq_true c2
    have c3 := Nat.eq_of_beq_eq_true c3
    subst c1; subst c2; subst c3
    simp only [VR] at hv
    obtain ⟨A, rfl⟩ := hv
    refine optV_mono hG (optN_ok hG k h2) fun lo' hlo => optV_mono hG (optN_ok hG k h3) fun hi' hhi => optV_mono hG (optN_ok hG k h4) fun mx' hmx => ?_
    refine ⟨_, fun w _ => slice_run e1 (fun w => Go.X.run_sizeOf' (hG.tk.get e3)) (hlo.imp (fun q => ⟨q.2.1, q.2.2⟩) (·.2)) (hhi.imp (fun q => ⟨q.2.1, q.2.2⟩) (·.2)) ?_ (Nat.le_refl _) (Nat.le_refl _) (Nat.le_refl _), by simp [VR]⟩
    rcases hmx with ⟨q1, q2, q3⟩ | ⟨q1, q2⟩
    · exact .inl ⟨q2, q3⟩
    · refine .inr ⟨q2, ?_⟩
      rcases hhi with ⟨r1, r2, r3⟩ | ⟨r1, r2⟩
      · subst r1
        cases mx with
        | none => cases q1
        | some _ => cases c4
      · rw [r2]; rfl
end
end Go.Y

/- The evaluator's operations that read no memory say what the model says. -/
namespace Go.Y
open Go.X (TK TyI Fr FP Tab TabOk CtxOk)
set_option linter.unusedVariables false
set_option linter.unusedSimpArgs false
set_option linter.constructorNameAsVariable false
set_option linter.unusedSectionVars false

section
variable {P : Program} {tab : Tab} {g : Gl} (hG : GOk P tab g) {ρ : Rho} {e : Env} {a : Act}
include hG
theorem TyR.tg {t : TypeId} {y : Ty} (h : TyR P tab t y) : ∃ b z, Go.X.tget tab t = some ⟨y.k, y.size, b, z⟩ ∧ VRL ρ0 y.zero z := let ⟨b, z, h1, h2, _⟩ := h.ti; ⟨b, z, h1, h2⟩
theorem zeroArr {t : TypeId} {y : Ty} {n et : Nat} (hy : g.ty.get t = some y) (hk : y.k = .array n et) (w : World) : ∃ z, (Instr.build t #[]).run P w = .ok (.agg ⟨z⟩) w ∧ VRL ρ y.zero z := by
  obtain ⟨b, z, h1, h2, _⟩ := (hG.get hy).ti
  obtain ⟨d, hd, hkd⟩ := (hG.tk.get h1).und
  rw [hk] at hkd
  have hd' := Go.X.kOk.array hkd
  subst hd'
  obtain ⟨zv, hz, hzc⟩ := Go.X.run_zero' (w := w) (hG.tk.get h1)
  obtain ⟨b2, z2, e1, e2, _⟩ : ∃ b z, Go.X.tget tab et = some b ∧ z = b.size ∧ True := by
    obtain ⟨ei, he⟩ := (hG.get hy).arr n et hk
    exact ⟨ei, _, he, rfl, trivial⟩
  have hs := Go.X.run_sizeOf' (w := w) (hG.tk.get e1)
  refine ⟨z, ?_, h2.mono (le0 ρ)⟩
  unfold Instr.build
  simp only [Sem.run_bind, hz, Result.andThen_ok, Go.X.run_underlying' hd, hs, hzc, Instr.fill]
  rfl
theorem opV_ok (k : ER ρ e a) (hd : a.defers = []) {o : Oper} {v : AV} (h : opV g o.op e = some v) (w : World) : ∃ u, VR ρ v u ∧ (execOp a.eval o).run P w = .ok (.value u) w := by
  have fin : Go.X.XV ⟨P, tab, a.tmps.size, w, fun _ => False⟩ o (envOf a) [] (fun u => VR ρ v u) → ∃ u, VR ρ v u ∧ (execOp a.eval o).run P w = .ok (.value u) w := fun hx =>
    let ⟨u, h1, h2⟩ := Go.X.XV.sound (C := ⟨P, tab, a.tmps.size, w, fun _ => False⟩) hG.tk (envOf_es hd) hx
    ⟨u, h1, h2 w (holds0 P tab _ w)⟩
  unfold Go.X.XV at fin
  cases hop : o.op <;> rw [hop] at h <;> (try simp only [opV] at h) <;> (try simp only [hop] at fin) <;> try cases h
  case move x =>
    obtain ⟨u, h1, h2⟩ := ev_vr k h
    exact fin (by simp only [h1]; exact h2)
  case assign x =>
    obtain ⟨u, h1, h2⟩ := ev_vr k h
    exact fin (by simp only [h1]; exact h2)
  case pick c x y =>
    obtain ⟨cv, h1, h⟩ := ob_some h
    obtain ⟨cu, h2, h3⟩ := ev_vr k h1
    cases cv <;> (try simp only at h) <;> try cases h
    rename_i b
    have := h3.bool_inv; subst this
    cases b with
    | true => obtain ⟨u, h4, h5⟩ := ev_vr k h; exact fin (by simp only [h2, h4]; exact h5)
    | false => obtain ⟨u, h4, h5⟩ := ev_vr k h; exact fin (by simp only [h2, h4]; exact h5)
  case build t ps =>
    obtain ⟨ti, h1, h⟩ := ob_some h
    obtain ⟨l, h2, h⟩ := ob_some h
    have hy := hG.get h1
    obtain ⟨b, z, h3, h4, _⟩ := hy.ti
    obtain ⟨tk, s, zz, cm⟩ := ti
    cases tk with
    | struct fs =>
      simp only at h
      obtain ⟨cs, h5, h⟩ := ob_some h
      cases h
      refine fin ?_
      rw [h3]
      have hall : Go.X.allT tab fs = true := hy.fld fs rfl
      show (match Go.X.allT tab fs with | true => _ | false => False)
      rw [hall]
      refine parts_vr k h2 fun us h6 h7 => buildA_ok hG h5 h6 h7 (h4.mono (le0 ρ)) fun r' hr => ?_
      simp only [VR]; exact ⟨r', rfl, hr⟩
    | array n et =>
      simp only at h
      cases l with
      | cons => cases h
      | nil =>
        cases h
        obtain ⟨z, h5, h6⟩ := zeroArr hG (ρ := ρ) h1 rfl w
        have hps : ps = #[] := by
          cases hp : ps.toList with
          | nil => exact Array.toList_eq_nil_iff.1 hp
          | cons p r =>
            rw [hp] at h2
            obtain ⟨v, _, q⟩ := ob_some (show ob (ev e p.2) (fun v => ob (parts e r) fun vs => some ((p.1, v) :: vs)) = some [] from h2)
            obtain ⟨_, _, q⟩ := ob_some q
            cases q
        subst hps
        refine ⟨.agg ⟨z⟩, by simp only [VR]; exact ⟨z, rfl, h6⟩, ?_⟩
        simp only [execOp, hop, show (#[] : Array (Nat × Operand)).map (fun x => (x.1, a.eval x.2)) = #[] from by simp]
        show ((Instr.build t #[]).bind fun r => pure (Next.value r)).run P w = _
        rw [Sem.run_bind', h5]
        rfl
    | _ => cases h
  case nilCheck x =>
    obtain ⟨v', h1, h⟩ := ob_some h
    obtain ⟨u, h2, h3⟩ := ev_vr k h1
    cases v' <;> simp only at h <;> try cases h
    all_goals (have h4 := h3; simp only [VR] at h3)
    · obtain ⟨x, _, rfl⟩ := h3; exact fin (by simp only [h2]; exact h4)
    · obtain ⟨p', q', rfl, _⟩ := h3; exact fin (by simp only [h2]; exact h4)
    · obtain ⟨p', rfl, _⟩ := h3; exact fin (by simp only [h2]; exact h4)
  case binOp op t x y yt =>
    obtain ⟨u, h1, h⟩ := ob_some h
    obtain ⟨v', h2, h⟩ := ob_some h
    obtain ⟨u', h3, h4⟩ := ev_vr k h1
    obtain ⟨w', h5, h6⟩ := ev_vr k h2
    simp only [h3, h5] at fin
    have gen : (∀ c, u ≠ .bool c) → (∀ k n, u ≠ .int k n) → (∀ r, (op = .eql → ob (eqV g t x y u v') (fun b => some (.bool b)) = some v → r = true) → True) → True := fun _ _ _ => trivial
    have fin2 : (∀ c, u ≠ .bool c) → (∀ k n, u ≠ .int k n) → (match op with | .eql => ob (eqV g t x y u v') fun b => some (AV.bool b) | .neq => ob (eqV g t x y u v') fun b => some (AV.bool (!b)) | _ => none) = some v →
        ∃ r, VR ρ v r ∧ (do eqGuard op t x y u' w'; binOp op t u' w' : Sem Value).run P w = .ok r w := by
      intro n1 n2 hm
      cases op <;> try cases hm
      · obtain ⟨b, q1, q2⟩ := ob_some hm
        cases q2
        exact ⟨_, .of_bool b, (eqV_ok hG q1 h4 h6 n1 n2 w).1⟩
      · obtain ⟨b, q1, q2⟩ := ob_some hm
        cases q2
        exact ⟨_, .of_bool (!b), (eqV_ok hG q1 h4 h6 n1 n2 w).2⟩
    have fin3 : (∃ r, VR ρ v r ∧ (do eqGuard op t x y u' w'; binOp op t u' w' : Sem Value).run P w = .ok r w) → ∃ u, VR ρ v u ∧ (execOp a.eval o).run P w = .ok (.value u) w := by
      rintro ⟨r, r1, r2⟩
      refine ⟨r, r1, ?_⟩
      have ex := (envOf_es hd).eval h3
      have ey := (envOf_es hd).eval h5
      simp only [execOp, hop, ex, ey]
      show ((do eqGuard op t x y u' w'; binOp op t u' w' : Sem Value).bind fun r => pure (Next.value r)).run P w = _
      rw [Sem.run_bind', r2]
      rfl
    cases u with
    | int kk n =>
      have := h4.int_inv; subst this
      cases v' with
      | int k' n' =>
        have := h6.int_inv; subst this
        simp only at h fin
        refine fin ?_
        cases op <;> simp only at h ⊢ <;> first
          | exact binI_ok h
          | (split at h
             · rename_i hk; rw [hk]; exact binI_ok h
             · cases h)
      | _ => cases h
    | bool b =>
      have := h4.bool_inv; subst this
      simp only at h
      have hty : ∀ {b'}, eqV g t x y (.bool b) v' = some b' → ∃ c, v' = .bool c ∧ b' = (b == c) ∧ ∃ q1 q2 q3, Go.X.tget tab t = some ⟨.bool, q1, q2, q3⟩ := by
        intro b' hb
        obtain ⟨ti, q1, q2⟩ := ob_some hb
        obtain ⟨b1, z1, q3, _⟩ := (hG.get q1).ti
        obtain ⟨kk, s1, zz, cm⟩ := ti
        cases v' with
        | bool c => cases kk <;> first | (cases q2; exact ⟨c, rfl, beqB_eq b c, _, _, _, q3⟩) | cases q2
        | _ => cases kk <;> cases q2
      cases op <;> try cases h
      · obtain ⟨b', q1, q2⟩ := ob_some h
        cases q2
        obtain ⟨c, rfl, rfl, r1, r2, r3, r4⟩ := hty q1
        have := h6.bool_inv; subst this
        exact fin (by simp only [r4]; exact .of_bool _)
      · obtain ⟨b', q1, q2⟩ := ob_some h
        cases q2
        obtain ⟨c, rfl, rfl, r1, r2, r3, r4⟩ := hty q1
        have := h6.bool_inv; subst this
        exact fin (by simp only [r4]; exact .of_bool _)
    | _ => exact fin3 (fin2 (fun c hc => by cases hc) (fun k n hc => by cases hc) h)
  case unOp op t x =>
    obtain ⟨u, h1, h⟩ := ob_some h
    obtain ⟨u', h2, h3⟩ := ev_vr k h1
    cases op <;> cases u <;> simp only at h <;> try cases h
    have := h3.bool_inv; subst this
    exact fin (by simp only [h2]; exact .of_bool _)
  case convert s d x =>
    obtain ⟨u, h1, h⟩ := ob_some h
    obtain ⟨si, h2, h⟩ := ob_some h
    obtain ⟨di, h3, h⟩ := ob_some h
    obtain ⟨u', h4, h5⟩ := ev_vr k h1
    obtain ⟨b1, z1, e1, _⟩ := (hG.get h2).tg hG
    obtain ⟨b2, z2, e2, _⟩ := (hG.get h3).tg hG
    obtain ⟨dk, ds, dz, dc⟩ := di
    cases u with
    | int kk n =>
      have := h5.int_inv; subst this
      cases dk with
      | int k' =>
        simp only at h
        rw [wrapF_eq] at h
        exact fin (by simp only [h4, e2, e1]; exact ⟨_, rfl, mkI_vr h⟩)
      | _ => cases h
    | _ => cases h
  case makeInterface t x =>
    obtain ⟨u, h1, h⟩ := ob_some h
    obtain ⟨ti, h2, h⟩ := ob_some h
    obtain ⟨u', h4, h5⟩ := ev_vr k h1
    obtain ⟨b1, z1, e1, _⟩ := (hG.get h2).tg hG
    obtain ⟨tk, s1, zz, cm⟩ := ti
    have : VR ρ (.ifc t u) (.iface t u') := by simp only [VR]; exact ⟨u', rfl, h5⟩
    cases tk with
    | iface => cases h
    | _ => cases h; exact fin (by simp only [h4, e1]; exact this)
  case makeFunc fn p q =>
    cases fn <;> try cases h
    obtain ⟨us, h1, h⟩ := ob_some h
    obtain ⟨vs, h2, h⟩ := ob_some h
    cases h
    refine fin (evs_vr k h1 fun us' q1 => evs_vr k h2 fun vs' q2 => ?_)
    simp only [VR]; exact ⟨us', vs', rfl, q1, q2⟩
  case fieldAddr s x f =>
    obtain ⟨p, h1, h⟩ := ob_some h
    obtain ⟨ti, h2, h⟩ := ob_some h
    obtain ⟨u', h4, h5⟩ := ev_vr k h1
    obtain ⟨b1, z1, e1, _⟩ := (hG.get h2).tg hG
    obtain ⟨tk, s1, zz, cm⟩ := ti
    cases tk with
    | struct fs =>
      obtain ⟨q, h6, h⟩ := ob_some h
      cases p with
      | ptr i o =>
        obtain ⟨fi, h7, h⟩ := ob_some h
        obtain ⟨h8, h⟩ := chk_some h
        simp only [VR] at h5
        obtain ⟨xb, hx, rfl⟩ := h5
        obtain ⟨b2, z2, e2, _⟩ := (hG.get h7).tg hG
        have hq : Go.X.lget fs f = some (q.1, q.2) := by rw [Go.X.lget_eq, ← lget_eq]; exact h6
        have hv := mkP_vr h hx
        obtain ⟨off, ft⟩ := q
        obtain ⟨fk, fsz, fz, fc⟩ := fi
        simp only at h8 e2 hq hv h
        refine fin ?_
        simp only [h4, e1, hq, e2]
        cases fsz with
        | zero => simp at h8
        | succ n =>
          simp only
          cases off with
          | zero => simpa using hv
          | succ off => simp only; rw [Nat.add_assoc]; exact hv
      | _ => cases h
    | _ => cases h
  case field s x f =>
    obtain ⟨p, h1, h⟩ := ob_some h
    obtain ⟨ti, h2, h⟩ := ob_some h
    obtain ⟨u', h4, h5⟩ := ev_vr k h1
    obtain ⟨b1, z1, e1, _⟩ := (hG.get h2).tg hG
    obtain ⟨tk, s1, zz, cm⟩ := ti
    cases tk with
    | struct fs =>
      obtain ⟨q, h6, h⟩ := ob_some h
      cases p with
      | agg cs =>
        obtain ⟨fi, h7, h⟩ := ob_some h
        simp only [VR] at h5
        obtain ⟨l', rfl, hl⟩ := h5
        obtain ⟨b2, z2, e2, _⟩ := (hG.get h7).tg hG
        have hq : Go.X.lget fs f = some (q.1, q.2) := by rw [Go.X.lget_eq, ← lget_eq]; exact h6
        have hagg := agg_of hG h7
        obtain ⟨off, ft⟩ := q
        refine fin ?_
        simp only [h4, e1, hq]
        simp only at hagg e2 h
        rw [hagg]
        cases hb : agg fi with
        | true =>
          rw [hb] at h
          simp only at h ⊢
          obtain ⟨r, h8, h⟩ := ob_some h
          cases h
          rw [e2]
          refine forceL_in ?_
          obtain ⟨h9, _⟩ := takeA_some h8
          simp only [VR]
          refine ⟨_, rfl, ?_⟩
          rw [h9, dropA_eq, Go.X.takeL_eq, Go.X.dropL_eq]
          exact (hl.drop _).take _
        | false =>
          rw [hb] at h
          simp only at h ⊢
          rw [lget_eq] at h
          obtain ⟨r, h8, h9⟩ := hl.get h
          rw [Go.X.lget_eq, h8]
          exact h9
      | _ => cases h
    | _ => cases h
  case indexAddr t x i =>
    obtain ⟨p, h1, h⟩ := ob_some h
    obtain ⟨j, h2, h⟩ := ob_some h
    obtain ⟨jv, h2, h2'⟩ := ob_some h2
    obtain ⟨ti, h3, h⟩ := ob_some h
    obtain ⟨u', h4, h5⟩ := ev_vr k h1
    obtain ⟨j', h6, h7⟩ := ev_vr k h2
    have := nat_vr h2' h7; subst this
    obtain ⟨b1, z1, e1, _⟩ := (hG.get h3).tg hG
    obtain ⟨tk, s1, zz, cm⟩ := ti
    cases tk with
    | slice et =>
      obtain ⟨ei, h8, h⟩ := ob_some h
      obtain ⟨b2, z2, e2, _⟩ := (hG.get h8).tg hG
      cases p with
      | sl b o n c =>
        obtain ⟨h9, h⟩ := chk_some h
        have h9 : j < n := by simpa [nblt] using h9
        simp only [VR] at h5
        obtain ⟨xb, hx, rfl⟩ := h5
        have hv := mkP_vr h hx
        refine fin ?_
        simp only [h4, h6, e1, e2]
        exact ⟨j, rfl, h9, by rw [Go.X.scale_eq, Nat.add_assoc]; exact hv⟩
      | su b o n z =>
        obtain ⟨h9, h⟩ := chk_some h
        have h9 : j < n := by simpa [nblt] using h9
        simp only [VR] at h5
        obtain ⟨xb, A, c, hx, rfl, hnc, _, hA⟩ := h5
        have hv := mkP_vr h hx
        have hA := hA (by omega)
        subst hA
        refine fin ?_
        simp only [h4, h6, e1, e2]
        exact ⟨j, rfl, h9, by rw [Go.X.scale_eq, Nat.add_assoc]; exact hv⟩
      | _ => cases h
    | array n et =>
      obtain ⟨ei, h8, h⟩ := ob_some h
      obtain ⟨b2, z2, e2, _⟩ := (hG.get h8).tg hG
      cases p with
      | ptr b o =>
        obtain ⟨h9, h⟩ := chk_some h
        have h9 : j < n := by simpa [nblt] using h9
        simp only [VR] at h5
        obtain ⟨xb, hx, rfl⟩ := h5
        have hv := mkP_vr h hx
        refine fin ?_
        simp only [h4, h6, e1, e2]
        exact ⟨j, rfl, h9, by rw [Go.X.scale_eq, Nat.add_assoc]; exact hv⟩
      | _ => cases h
    | _ => cases h
  case index t x i =>
    obtain ⟨p, h1, h⟩ := ob_some h
    obtain ⟨jv, h2, h⟩ := ob_some h
    obtain ⟨ti, h3, h⟩ := ob_some h
    obtain ⟨u', h4, h5⟩ := ev_vr k h1
    obtain ⟨j', h6, h7⟩ := ev_vr k h2
    obtain ⟨b1, z1, e1, _⟩ := (hG.get h3).ti
    obtain ⟨tk, s1, zz, cm⟩ := ti
    cases tk with
    | string =>
      cases p with
      | str s =>
        cases jv with
        | int kk q =>
          cases q with
          | ofNat n =>
            obtain ⟨b, h8, h⟩ := ob_some h
            rw [lget_eq] at h8
            rw [mkI_eq] at h
            cases h
            simp only [VR] at h5 h7
            subst h5; subst h7
            obtain ⟨d, hd', hkd⟩ := (hG.tk.get e1).und
            have hd' : P.underlying t = some .string := by rw [hd']; cases d <;> simp_all [Go.X.kOk]
            have hb : s[n]? = some b := by
              have h9 : s.data[n]? = some b := by simpa using h8
              obtain ⟨hlt, hbe⟩ := Array.getElem?_eq_some_iff.1 h9
              have hlt' : n < s.size := hlt
              rw [getElem?_pos s n hlt']
              exact congrArg some hbe
            refine fin ?_
            simp only [h4, h6]
            refine ⟨.int .u8 b.toNat, fun w _ => ?_, by simp only [VR]; rfl⟩
            simp [Instr.index, asIntOf, Go.X.run_underlying' hd', hb]
          | negSucc n => cases h
        | _ => cases h
      | _ => cases h
    | _ => cases h
  case extract t i =>
    obtain ⟨p, h1, h⟩ := ob_some h
    obtain ⟨u', h4, h5⟩ := ev_vr k h1
    cases p with
    | tup l =>
      simp only [VR] at h5
      obtain ⟨l', rfl, hl⟩ := h5
      simp only at h
      rw [lget_eq] at h
      obtain ⟨r, h8, h9⟩ := hl.get h
      exact fin (by simp only [h4]; rw [Go.X.lget_eq, h8]; exact h9)
    | _ => cases h
  case slice t x lo hi mx =>
    obtain ⟨p, h1, h⟩ := ob_some h
    obtain ⟨u', h4, h5⟩ := ev_vr k h1
    refine fin ?_
    simp only [h4]
    exact sliceV_ok hG k h h5 rfl
  case typeAssert x xt u ok =>
    obtain ⟨p, h1, h⟩ := ob_some h
    obtain ⟨ti, h2, h⟩ := ob_some h
    obtain ⟨u', h4, h5⟩ := ev_vr k h1
    have hy := hG.get h2
    obtain ⟨b1, z1, e1, _⟩ := hy.tg hG
    obtain ⟨d, hd', hkd⟩ := (hG.tk.get e1).und
    have hzv := hy.zv
    obtain ⟨tk, s1, zz, cm⟩ := ti
    have nif : tk ≠ .iface → ∀ ms, d ≠ .interface ms := fun hn ms hm => by
      subst hm
      cases tk <;> first | exact hn rfl | (simp [Go.X.kOk] at hkd)
    have hni : tk ≠ .iface := fun q => by subst q; cases h
    have nif := nif hni
    obtain ⟨t0, v0, rfl⟩ : ∃ t0 v0, p = .ifc t0 v0 := by cases p <;> first | exact ⟨_, _, rfl⟩ | (exfalso; cases tk <;> cases h)
    have hm : (t0 = u ∧ ok = true ∧ v = .tup [v0, .bool true]) ∨ (t0 = u ∧ ok = false ∧ v = v0) ∨ (t0 ≠ u ∧ ok = true ∧ ∃ z, zeroV ⟨tk, s1, zz, cm⟩ = some z ∧ v = .tup [z, .bool false]) := by
      cases hb : Nat.beq t0 u with
      | true =>
        have := Nat.eq_of_beq_eq_true hb
        cases ok
        · right; left
          refine ⟨this, rfl, ?_⟩
          cases tk <;> first | exact absurd rfl hni | (simp only [hb] at h; cases h; rfl)
        · left
          refine ⟨this, rfl, ?_⟩
          cases tk <;> first | exact absurd rfl hni | (simp only [hb] at h; cases h; rfl)
      | false =>
        have : t0 ≠ u := fun q => by subst q; simp at hb
        cases ok
        · exfalso
          cases tk <;> first | exact absurd rfl hni | (simp only [hb] at h; cases h)
        · right; right
          refine ⟨this, rfl, ?_⟩
          cases tk <;> first
            | exact absurd rfl hni
            | (simp only [hb] at h
               obtain ⟨z, q1, q2⟩ := ob_some h
               cases q2
               exact ⟨z, q1, rfl⟩)
    refine fin ?_
    simp only [h4]
    simp only [VR] at h5
    obtain ⟨v1, rfl, h6⟩ := h5
    have key : ∀ w : World, (Instr.typeAssert (.iface t0 v1) xt u ok).run P w = (if t0 = u then (pure (if ok then .tuple #[v1, .bool true] else v1) : Sem Value) else (if ok then do pure (.tuple #[← zeroValue u, .bool false]) else runtimePanic (.typeAssertion (some xt) (some t0) u ""))).run P w := by
      intro w
      unfold Instr.typeAssert
      simp only [Sem.run_bind, Go.X.run_underlying' hd', Result.andThen_ok]
    rcases hm with ⟨htu, rfl, rfl⟩ | ⟨htu, rfl, rfl⟩ | ⟨htu, rfl, z, q1, rfl⟩
    · exact ⟨_, fun w _ => by rw [key w, if_pos htu]; rfl, by simp only [VR]; exact ⟨_, rfl, .cons h6 (.cons (.of_bool true) .nil)⟩⟩
    · exact ⟨_, fun w _ => by rw [key w, if_pos htu]; rfl, h6⟩
    · obtain ⟨zu, q3, q4⟩ := hzv z q1
      refine ⟨.tuple #[zu, .bool false], fun w _ => ?_, by simp only [VR]; exact ⟨_, rfl, .cons (q3.mono (le0 ρ)) (.cons (.of_bool false) .nil)⟩⟩
      rw [key w, if_neg htu]
      simp only [if_true, Sem.run_bind, q4 w, Result.andThen_ok]
      rfl
  case call c =>
    obtain ⟨callee, args, ts⟩ := c
    cases callee <;> try cases h
    rename_i b
    obtain ⟨vs, h1, h⟩ := ob_some h
    refine fin (evs_vr k h1 fun us q1 => ?_)
    cases b <;> try cases h
    case len =>
      rcases vs with _ | ⟨v0, _ | ⟨v1, r⟩⟩ <;> try cases h
      obtain ⟨t, h2, h⟩ := ob_some h
      obtain ⟨ti, h3, h⟩ := ob_some h
      obtain ⟨b1, z1, e1, _⟩ := (hG.get h3).tg hG
      obtain ⟨u0, us, rfl, q2, q3⟩ := q1.cons_inv
      have := q3.nil_inv; subst this
      obtain ⟨tk, s1, zz, cm⟩ := ti
      have ht : Go.X.lget ts.toList 0 = some t := by rw [Go.X.lget_eq, ← lget_eq]; exact h2
      cases tk with
      | slice et =>
        cases v0 with
        | snil => cases h; simp only [VR] at q2; subst q2; simp only [ht, e1]; exact .of_int _ _
        | se => cases h; simp only [VR] at q2; obtain ⟨A, rfl⟩ := q2; simp only [ht, e1]; exact .of_int _ _
        | sl i o n c => simp only [VR] at q2; obtain ⟨xb, _, rfl⟩ := q2; simp only [ht, e1]; exact mkN_vr h
        | su i o n z => simp only [VR] at q2; obtain ⟨xb, A, c, _, rfl, _⟩ := q2; simp only [ht, e1]; exact mkN_vr h
        | _ => cases h
      | _ => cases h
    case cap =>
      rcases vs with _ | ⟨v0, _ | ⟨v1, r⟩⟩ <;> try cases h
      obtain ⟨t, h2, h⟩ := ob_some h
      obtain ⟨ti, h3, h⟩ := ob_some h
      obtain ⟨bs, z, hti, _⟩ := (hG.get h3).ti
      obtain ⟨d, hd', hk⟩ := (hG.tk.get hti).und
      obtain ⟨u0, us, rfl, q2, q3⟩ := q1.cons_inv
      have := q3.nil_inv; subst this
      obtain ⟨tk, s1, zz, cm⟩ := ti
      have ht : ts[0]? = some t := by rw [lget_eq] at h2; simpa using h2
      cases tk with
      | slice et =>
        have := Go.X.kOk.slice hk; subst this
        cases v0 with
        | snil => cases h; simp only [VR] at q2; subst q2; exact ⟨_, fun w _ => (by simp [Builtin.cap_, ht, Go.X.run_underlying' hd', goInt]), .of_int _ _⟩
        | se => cases h; simp only [VR] at q2; obtain ⟨A, rfl⟩ := q2; exact ⟨_, fun w _ => (by simp [Builtin.cap_, ht, Go.X.run_underlying' hd', goInt]), .of_int _ _⟩
        | sl i o n c => simp only [VR] at q2; obtain ⟨xb, _, rfl⟩ := q2; exact ⟨_, fun w _ => (by simp [Builtin.cap_, ht, Go.X.run_underlying' hd', goInt]), mkN_vr h⟩
        | _ => cases h
      | _ => cases h
    case min =>
      rcases vs with _ | ⟨v0, _ | ⟨v1, _ | ⟨v2, r⟩⟩⟩ <;> first | cases h | skip
      · cases v0 <;> cases h
      · cases v0 <;> first | cases h | skip
        cases v1 <;> first | cases h | skip
        obtain ⟨u0, us, rfl, q2, q3⟩ := q1.cons_inv
        obtain ⟨u1, us1, rfl, q5, q4⟩ := q3.cons_inv
        have := q4.nil_inv; subst this
        have := q2.int_inv; subst this
        have := q5.int_inv; subst this
        exact ⟨_, rfl, mkI_vr h⟩
      · cases v0 <;> first | cases h | skip
        cases v1 <;> cases h
    case max =>
      rcases vs with _ | ⟨v0, _ | ⟨v1, _ | ⟨v2, r⟩⟩⟩ <;> first | cases h | skip
      · cases v0 <;> cases h
      · cases v0 <;> first | cases h | skip
        cases v1 <;> first | cases h | skip
        obtain ⟨u0, us, rfl, q2, q3⟩ := q1.cons_inv
        obtain ⟨u1, us1, rfl, q5, q4⟩ := q3.cons_inv
        have := q4.nil_inv; subst this
        have := q2.int_inv; subst this
        have := q5.int_inv; subst this
        exact ⟨_, rfl, mkI_vr h⟩
      · cases v0 <;> first | cases h | skip
        cases v1 <;> cases h
end
end Go.Y

/- The evaluator's operations that read memory say what the model says. -/
namespace Go.Y
open Go.X (TK TyI Fr FP Tab TabOk CtxOk)
open Go.ChangeMaps Go.MapKept
set_option linter.unusedVariables false
set_option linter.unusedSimpArgs false
set_option linter.constructorNameAsVariable false
set_option linter.unusedSectionVars false

/-- What the package-level variables hold. -/
def GlOk (g : Gl) (w0 : Base) : Prop := T.All (fun i l => ∃ cs t fr, w0.w.heap[i]? = some (.cells cs t fr) ∧ VRL ρ0 l cs.toList ∧ ¬ w0.S i) g.gl

theorem holds0_fr {P : Program} {tab : Tab} {n : Nat} {w w' : World} (h : Go.X.Holds ⟨P, tab, n, w, fun _ => False⟩ [] w') : Fr w (fun _ => False) w' := h.1
theorem rdb_of {P : Program} {tab : Tab} {n : Nat} {w : World} {b off : Nat} {v : Value} (h : w.cell? ⟨b, off, none⟩ = some v) : Go.X.Rdb ⟨P, tab, n, w, fun _ => False⟩ [] b off v := by
  intro w' hw'
  have hlt := World.block_lt_of_cell? w ⟨b, off, none⟩ h
  rw [World.cell?_of_block (w := w) (w' := w') ((holds0_fr hw').blk b hlt id)]
  exact h

section
variable {P : Program} {tab : Tab} {g : Gl} (hG : GOk P tab g) {ρ : Rho} {e : Env} {a : Act} {f : Nat → Option AObj} {w0 : Base} {w : World}
theorem cellsOf_some {i : Nat} {t : TypeId} {l : List AV} {b : Bool} (h : cellsOf f i = some (t, l, b)) : f i = some (.cells t l b) := by
  obtain ⟨o, h1, h2⟩ := ob_some h
  cases o <;> cases h2
  exact h1
theorem mapOf_some {i : Nat} {es : List (AV × AV × Nat)} {c : Nat} (h : mapOf f i = some (es, c)) : f i = some (.map es c) := by
  obtain ⟨o, h1, h2⟩ := ob_some h
  cases o <;> cases h2
  exact h1
/-- What a row holds. -/
theorem cells_at (hm : MR ρ f w0 w) {i : Nat} {q : TypeId × List AV × Bool} (h : cellsOf f i = some q) : ∃ (x : Bk) (cs : List Value), ρ i = some x ∧ w.heap[x.b]? = some (.cells cs.toArray q.1 (0, 0)) ∧ cs.length = x.N ∧ x.d + q.2.1.length ≤ x.N ∧ VRL ρ q.2.1 ((cs.drop x.d).take q.2.1.length) ∧ (q.2.2 = false → x.d = 0 ∧ x.N = q.2.1.length) ∧ w0.own x.b := by
  obtain ⟨t, l, b⟩ := q
  obtain ⟨x, h1, ⟨cs, h2, h3, h4, h5, h6⟩, h7⟩ := hm.at' i _ (cellsOf_some h) trivial
  exact ⟨x, cs, h1, h2, h3, h4, h5, h6, h7⟩
theorem row_get {cs : List Value} {l : List AV} {d o : Nat} {v : AV} (h : VRL ρ l ((cs.drop d).take l.length)) (hv : l[o]? = some v) : ∃ u, cs[d + o]? = some u ∧ VR ρ v u := by
  obtain ⟨u, h1, h2⟩ := h.get hv
  rw [List.getElem?_take] at h1
  split at h1
  · rw [List.getElem?_drop] at h1; exact ⟨u, h1, h2⟩
  · cases h1
theorem row_sub {cs : List Value} {l r : List AV} {d o n : Nat} (h : VRL ρ l ((cs.drop d).take l.length)) (hr : takeA (dropA l o) n = some r) : VRL ρ r ((cs.drop (d + o)).take n) ∧ o + n ≤ l.length ∨ n = 0 ∧ r = [] := by
  obtain ⟨h1, h2⟩ := takeA_some hr
  rw [dropA_eq] at h1
  by_cases hn : n = 0
  · right; subst hn; exact ⟨rfl, by simpa using h1⟩
  · left
    have hlen : o + n ≤ l.length := by
      have := congrArg List.length h1
      rw [h2, List.length_take, List.length_drop] at this
      omega
    refine ⟨?_, hlen⟩
    have := (h.drop o).take n
    rw [h1]
    have e : ((cs.drop (d + o)).take n) = ((((cs.drop d).take l.length).drop o).take n) := by
      rw [List.drop_take, List.drop_drop, List.take_take, Nat.min_eq_left (by omega)]
    rw [e]; exact this
include hG
theorem load_run {t : TypeId} {l : List AV} {o b d : Nat} {cs : List Value} {v : AV} {fr : Nat × Nat} {ty : TypeId} (h : loadF g t l o = some v) (hb : w.heap[b]? = some (.cells cs.toArray ty fr)) (hl : VRL ρ l ((cs.drop d).take l.length)) :
    ∃ u, VR ρ v u ∧ Go.X.RunsTo ⟨P, tab, a.tmps.size, w, fun _ => False⟩ [] (Instr.loadAt t (.pointer (some ⟨b, d + o, none⟩))) u ∧ (∀ q, Go.X.aggOf tab t = some true → u = .agg ⟨q⟩ → True) ∧ (Go.X.aggOf tab t = some true → ∃ q, u = .agg ⟨q⟩) := by
  haveI := hG.ctx a.tmps.size w (fun _ => False)
  have hcell : ∀ i, w.cell? ⟨b, i, none⟩ = cs[i]? := fun i => by simp [World.cell?, hb]
  obtain ⟨ti, h1, h⟩ := ob_some h
  have hagg := agg_of hG h1
  obtain ⟨bt, z, h2, _⟩ := (hG.get h1).ti
  cases hk : agg ti with
  | true =>
    rw [hk] at h hagg
    simp only at h
    obtain ⟨r, h3, h⟩ := ob_some h
    cases h
    obtain ⟨h4, h5⟩ := takeA_some h3
    have hr : ∃ us : List Value, VRL ρ r us ∧ us.length = ti.size ∧ ∀ j u, us[j]? = some u → cs[d + o + j]? = some u := by
      rcases row_sub hl h3 with ⟨h6, h7⟩ | ⟨h6, h7⟩
      · refine ⟨_, h6, h6.length.trans h5, fun j u hj => ?_⟩
        rw [List.getElem?_take] at hj
        split at hj
        · rwa [List.getElem?_drop] at hj
        · cases hj
      · exact ⟨[], by rw [h7]; exact .nil, by rw [h6]; rfl, fun j u hj => by simp at hj⟩
    obtain ⟨us, q1, q2, q3⟩ := hr
    refine ⟨.agg ⟨us⟩, by simp only [VR]; exact ⟨us, rfl, q1⟩, ?_, fun _ _ _ => trivial, fun _ => ⟨us, rfl⟩⟩
    exact .loadN (C := ⟨P, tab, a.tmps.size, w, fun _ => False⟩) hagg h2 q2 fun j u hj => rdb_of (by rw [hcell]; exact q3 j u hj)
  | false =>
    rw [hk] at h hagg
    simp only at h
    rw [lget_eq] at h
    obtain ⟨u, h3, h4⟩ := row_get hl h
    refine ⟨u, h4, ?_, fun _ _ _ => trivial, fun hq => by rw [hagg] at hq; cases hq⟩
    exact .load1 (C := ⟨P, tab, a.tmps.size, w, fun _ => False⟩) hagg (rdb_of (by rw [hcell]; exact h3))
theorem load_ok (k : ER ρ e a) (hd : a.defers = []) (hm : MR ρ f w0 w) (hg : GlOk g w0) {o : Oper} {t : TypeId} {x : Operand} {v : AV} (hop : o.op = .load t x) (h : opR g (.load t x) e f = some v) : ∃ u, VR ρ v u ∧ (execOp a.eval o).run P w = .ok (.value u) w := by
  have fin : Go.X.XV ⟨P, tab, a.tmps.size, w, fun _ => False⟩ o (envOf a) [] (fun u => VR ρ v u) → ∃ u, VR ρ v u ∧ (execOp a.eval o).run P w = .ok (.value u) w := fun hx =>
    let ⟨u, h1, h2⟩ := Go.X.XV.sound (C := ⟨P, tab, a.tmps.size, w, fun _ => False⟩) hG.tk (envOf_es hd) hx
    ⟨u, h1, h2 w (holds0 P tab _ w)⟩
  unfold Go.X.XV at fin
  simp only [hop] at fin
  simp only [opR] at h
  obtain ⟨p, h1, h⟩ := ob_some h
  obtain ⟨pu, h2, h3⟩ := ev_vr k h1
  have go : ∀ {b d o' : Nat} {cs : List Value} {fr : Nat × Nat} {ty : TypeId} {l : List AV}, pu = .pointer (some ⟨b, d + o', none⟩) → loadF g t l o' = some v → w.heap[b]? = some (.cells cs.toArray ty fr) → VRL ρ l ((cs.drop d).take l.length) → ∃ u, VR ρ v u ∧ (execOp a.eval o).run P w = .ok (.value u) w := by
    intro b d o' cs fr ty l hp hl hb hv
    obtain ⟨u, q1, q2, _, q3⟩ := load_run hG (a := a) hl hb hv
    subst hp
    refine fin ?_
    simp only [h2]
    refine ⟨u, q2, ?_⟩
    cases ha : Go.X.aggOf tab t with
    | none => exact q1
    | some c =>
      cases c with
      | true =>
        obtain ⟨us, rfl⟩ := q3 ha
        exact forceL_in q1
      | false => exact q1
  cases p <;> try cases h
  · rename_i i o'
    obtain ⟨q, h4, h⟩ := ob_some h
    obtain ⟨xb, cs, a1, a2, a3, a4, a5, a6, a7⟩ := cells_at hm h4
    simp only [VR] at h3
    obtain ⟨y, b1, rfl⟩ := h3
    rw [a1] at b1; cases b1
    exact go rfl h a2 a5
  · rename_i i o'
    obtain ⟨l, h4, h⟩ := ob_some h
    obtain ⟨cs, ty, fr, a1, a2, a3⟩ := T.get_all hg h4
    simp only [VR] at h3
    have hlt : i < w0.w.heap.size := (Array.getElem?_eq_some_iff.1 a1).1
    have hb := (hm.fr.blk i hlt a3).trans a1
    refine go (b := i) (d := 0) (o' := o') (cs := cs.toList) (by rw [h3, Nat.zero_add]) h (by simpa using hb) ?_
    have := a2.mono (le0 ρ)
    rw [List.drop_zero, List.take_of_length_le (by rw [this.length]; exact Nat.le_refl _)]
    exact this

/-! ### maps -/
theorem mapTy_ok {t kt et : TypeId} {k : AV} (h : mapTy g t k = some (kt, et)) : P.underlying t = some (.map kt et) ∧ (∃ ti, Go.X.tget tab t = some ti ∧ ti.k = .map kt et) ∧ keyFit g kt k = true := by
  obtain ⟨ti, h1, h⟩ := ob_some h
  obtain ⟨b, z, h2, _⟩ := (hG.get h1).ti
  obtain ⟨kk, s, zz, c⟩ := ti
  cases kk <;> simp only at h <;> try cases h
  obtain ⟨h3, h4⟩ := chk_some h
  cases h4
  obtain ⟨d, hd, hk⟩ := (hG.tk.get h2).und
  exact ⟨by rw [hd, Go.X.kOk.map hk], ⟨_, h2, rfl⟩, h3⟩
theorem key_ok {kt : TypeId} {k : AV} {ku : Value} (h : keyFit g kt k = true) (hk : VR ρ k ku) : ∃ d, P.underlying kt = some d ∧ (∀ w b, (Instr.checkKey b 10000 kt ku).run P w = .ok () w) ∧
    (∀ k2 ku2 b, VR ρ k2 ku2 → eqC k k2 = some b → Instr.sameNow d ku ku2 = some b) ∧ ∀ w, (Instr.keyThatStays ku ku).run P w = .ok ku w := by
  unfold keyFit at h
  split at h
  · rename_i ki h1
    obtain ⟨b, z, h2, _⟩ := (hG.get h1).ti
    obtain ⟨d, hd, hkd⟩ := (hG.tk.get h2).und
    obtain ⟨kk, s, zz, c⟩ := ki
    split at h
    · rename_i kd kind n hkk
      simp only at hkk hkd
      subst hkk
      obtain rfl := Go.X.kOk.int hkd
      have := Go.X.kEq_eq h; subst this
      clear h
      have := hk.int_inv; subst this
      have hkey : IsKey (.int kind) (.int kind n) := rfl
      refine ⟨_, hd, fun w b => ?_, fun k2 ku2 b h3 h4 => ?_, fun w => ?_⟩
      · exact run_checkKey hd hkey b 9999
      · cases k2 <;> simp only [eqC] at h4 <;> try cases h4
        have := h3.int_inv; subst this
        split at h4
        · rename_i hq
          have := Go.X.kEq_eq hq; subst this
          cases h4
          simp [Instr.sameNow, ibeq_eq]
          rw [Bool.eq_iff_iff]; simp
        · cases h4
      · exact run_keyThatStays hkey
    · cases h
      rename_i s' hkk
      simp only at hkk hkd
      subst hkk
      have hd' : d = .string := by cases d <;> simp_all [Go.X.kOk]
      subst hd'
      have hk' := hk; simp only [VR] at hk'; subst hk'
      have hkey : IsKey .string (.string s') := trivial
      refine ⟨_, hd, fun w b => ?_, fun k2 ku2 b h3 h4 => ?_, fun w => ?_⟩
      · exact run_checkKey hd hkey b 9999
      · cases k2 <;> simp only [eqC] at h4 <;> try cases h4
        simp only [VR] at h3; subst h3
        simp only [Instr.sameNow, beq_toListBytes, str_eq]
      · exact run_keyThatStays hkey
    · cases h
      rename_i b' hkk
      simp only at hkk hkd
      subst hkk
      obtain rfl := Go.X.kOk.bool hkd
      have := hk.bool_inv; subst this
      have hkey : IsKey .bool (.bool b') := trivial
      refine ⟨_, hd, fun w b => ?_, fun k2 ku2 b h3 h4 => ?_, fun w => ?_⟩
      · exact run_checkKey hd hkey b 9999
      · cases k2 <;> simp only [eqC] at h4 <;> try cases h4
        have := h3.bool_inv; subst this
        simp [Instr.sameNow, beqB_eq]
      · exact run_keyThatStays hkey
    · cases h
  · cases h
omit hG in
theorem find_ok {d : TypeDesc} {k : AV} {ku : Value} (hs : ∀ k2 ku2 b, VR ρ k2 ku2 → eqC k k2 = some b → Instr.sameNow d ku ku2 = some b) : ∀ {es : List (AV × AV × Nat)} {es' : List MapEntry} {i : Nat} {r : Option (Nat × AV × Nat)}, EsR ρ es es' → findA k es i = some r →
    (r = none ∧ Instr.findNow d ku es' i = some none) ∨ ∃ (j : Nat) (v : AV) (b : Nat) (ent : MapEntry), r = some (i + j, v, b) ∧ es'[j]? = some ent ∧ VR ρ v ent.val ∧ ent.born = b ∧ Instr.findNow d ku es' i = some (some (i + j, ent.val))
  | [], es', i, r, h1, h2 => by
    obtain rfl : es' = [] := h1
    cases h2
    exact .inl ⟨rfl, rfl⟩
  | x :: es, es', i, r, h1, h2 => by
    obtain ⟨ent, l', rfl, a1, a2, a3, a4⟩ := h1
    obtain ⟨b, b1, h2⟩ := ob_some (show ob (eqC k x.1) (fun b => match b with | true => some (some (i, x.2.1, x.2.2)) | false => findA k es (i + 1)) = some r from h2)
    have hsn := hs x.1 ent.key b a1 b1
    cases b with
    | true =>
      cases h2
      exact .inr ⟨0, x.2.1, x.2.2, ent, rfl, rfl, a2, a3, by simp [Instr.findNow, hsn]⟩
    | false =>
      rcases find_ok hs a4 h2 with ⟨c1, c2⟩ | ⟨j, v, b, en, c1, c2, c3, c4, c5⟩
      · exact .inl ⟨c1, by simp [Instr.findNow, hsn, c2]⟩
      · exact .inr ⟨j + 1, v, b, en, by rw [c1]; simp; omega, by simpa using c2, c3, c4, by simp [Instr.findNow, hsn, c5]; omega⟩
end
end Go.Y

/- The evaluator's operations that read memory say what the model says. -/
namespace Go.Y
open Go.X (TK TyI Fr FP Tab TabOk CtxOk)
open Go.ChangeMaps Go.MapKept
set_option linter.unusedVariables false
set_option linter.unusedSimpArgs false
set_option linter.constructorNameAsVariable false
set_option linter.unusedSectionVars false

section
variable {P : Program} {w : World}
theorem lookup_some {t kt et : TypeId} {b : Nat} {es : Array MapEntry} {c i : Nat} {k v : Value} {ok : Bool} (ht : P.underlying t = some (.map kt et)) (hb : w.heap[b]? = some (.map es c)) (hc : ∀ q, (Instr.checkKey q 10000 kt k).run P w = .ok () w)
    (hf : (Instr.findKey kt k es.toList).run P w = .ok (some (i, v)) w) : (Instr.lookup t (.map (some b)) k ok).run P w = .ok (if ok then .tuple #[v, .bool true] else v) w := by
  simp [Instr.lookup, Go.X.run_underlying' ht, Go.X.gobj hb, hc, hf]
theorem lookup_none {t kt et : TypeId} {b : Nat} {es : Array MapEntry} {c : Nat} {k z : Value} {ok : Bool} (ht : P.underlying t = some (.map kt et)) (hb : w.heap[b]? = some (.map es c)) (hc : ∀ q, (Instr.checkKey q 10000 kt k).run P w = .ok () w)
    (hf : (Instr.findKey kt k es.toList).run P w = .ok none w) (hz : (zeroValue et).run P w = .ok z w) : (Instr.lookup t (.map (some b)) k ok).run P w = .ok (if ok then .tuple #[z, .bool false] else z) w := by
  simp [Instr.lookup, Go.X.run_underlying' ht, Go.X.gobj hb, hc, hf, hz]
theorem lookup_nil {t kt et : TypeId} {k z : Value} {ok : Bool} (ht : P.underlying t = some (.map kt et)) (hc : ∀ q, (Instr.checkKey q 10000 kt k).run P w = .ok () w)
    (hf : (Instr.findKey kt k []).run P w = .ok none w) (hz : (zeroValue et).run P w = .ok z w) : (Instr.lookup t (.map none) k ok).run P w = .ok (if ok then .tuple #[z, .bool false] else z) w := by
  simp [Instr.lookup, Go.X.run_underlying' ht, hc, hf, hz]
theorem len_map {t kt et ty : TypeId} {ts : Array TypeId} {b : Nat} {es : Array MapEntry} {c : Nat} (h0 : ts[0]? = some t) (ht : P.underlying t = some (.map kt et)) (hb : w.heap[b]? = some (.map es c)) : (Builtin.len_ ts ty #[.map (some b)]).run P w = .ok (.int .i64 (es.size : Int)) w := by
  simp [Builtin.len_, h0, Go.X.run_underlying' ht, Go.X.gobj hb, goInt]
theorem len_nil {t kt et ty : TypeId} {ts : Array TypeId} (h0 : ts[0]? = some t) (ht : P.underlying t = some (.map kt et)) : (Builtin.len_ ts ty #[.map none]).run P w = .ok (.int .i64 0) w := by
  simp [Builtin.len_, h0, Go.X.run_underlying' ht, goInt]
end

section
variable {P : Program} {tab : Tab} {g : Gl} (hG : GOk P tab g) {ρ : Rho} {e : Env} {a : Act} {f : Nat → Option AObj} {w0 : Base} {w : World}
theorem map_at (hm : MR ρ f w0 w) {i : Nat} {q : List (AV × AV × Nat) × Nat} (h : mapOf f i = some q) : ∃ (x : Bk) (es' : List MapEntry), ρ i = some x ∧ w.heap[x.b]? = some (.map es'.toArray q.2) ∧ EsR ρ q.1 es' ∧ w0.own x.b ∧ f i = some (.map q.1 q.2) := by
  obtain ⟨es, c⟩ := q
  obtain ⟨x, h1, ⟨es', h2, h3⟩, h4⟩ := hm.at' i _ (mapOf_some h) trivial
  exact ⟨x, es', h1, h2, h3, h4, mapOf_some h⟩
theorem EsR.length : ∀ {es : List (AV × AV × Nat)} {es' : List MapEntry}, EsR ρ es es' → es'.length = es.length
  | [], es', h => by obtain rfl : es' = [] := h; rfl
  | x :: es, es', h => by obtain ⟨en, l', rfl, _, _, _, h⟩ := h; simp [EsR.length h]
include hG
theorem opR_ok (k : ER ρ e a) (hd : a.defers = []) (hm : MR ρ f w0 w) (hg : GlOk g w0) {o : Oper} {v : AV} (h : opR g o.op e f = some v) : ∃ u, VR ρ v u ∧ (execOp a.eval o).run P w = .ok (.value u) w := by
  have fin : Go.X.XV ⟨P, tab, a.tmps.size, w, fun _ => False⟩ o (envOf a) [] (fun u => VR ρ v u) → ∃ u, VR ρ v u ∧ (execOp a.eval o).run P w = .ok (.value u) w := fun hx =>
    let ⟨u, h1, h2⟩ := Go.X.XV.sound (C := ⟨P, tab, a.tmps.size, w, fun _ => False⟩) hG.tk (envOf_es hd) hx
    ⟨u, h1, h2 w (holds0 P tab _ w)⟩
  have same : ∀ {w' : World} {b : Nat} {ob : Obj}, Go.X.Holds ⟨P, tab, a.tmps.size, w, fun _ => False⟩ [] w' → w.heap[b]? = some ob → w'.heap[b]? = some ob := fun {w' b ob} hw' hb => by
    rw [(holds0_fr hw').blk b (Array.getElem?_eq_some_iff.1 hb).1 id]; exact hb
  cases hop : o.op <;> rw [hop] at h
  case load t x => exact load_ok hG k hd hm hg hop h
  case lookup t x i ok =>
    unfold Go.X.XV at fin
    simp only [hop] at fin
    simp only [opR] at h
    obtain ⟨mv, h1, h⟩ := ob_some h
    obtain ⟨kv, h2, h⟩ := ob_some h
    obtain ⟨⟨kt, et⟩, h3, h⟩ := ob_some h
    obtain ⟨ei, h4, h⟩ := ob_some h
    obtain ⟨z, h5, h⟩ := ob_some h
    obtain ⟨es, h6, h⟩ := ob_some h
    obtain ⟨r, h7, h⟩ := ob_some h
    obtain ⟨mu, a1, a2⟩ := ev_vr k h1
    obtain ⟨ku, a3, a4⟩ := ev_vr k h2
    obtain ⟨b1, _, b3⟩ := mapTy_ok hG h3
    obtain ⟨d, c1, c2, c3, c4⟩ := key_ok hG b3 a4
    obtain ⟨zu, z1, z2⟩ := (hG.get h4).zv z h5
    have z1 := z1.mono (le0 ρ)
    refine fin ?_
    simp only [a1, a3]
    cases mv <;> try cases h6
    · -- a map that is there
      rename_i i'
      obtain ⟨q, q1, q2⟩ := ob_some h6
      cases q2
      obtain ⟨x, es', x1, x2, x3, x4, _⟩ := map_at hm q1
      simp only [VR] at a2
      obtain ⟨y, y1, rfl⟩ := a2
      rw [x1] at y1; cases y1
      rcases find_ok c3 x3 h7 with ⟨rfl, f2⟩ | ⟨j, v', b, en, rfl, f2, f3, f4, f5⟩
      · refine ⟨_, fun w' hw' => lookup_none b1 (same hw' x2) (fun q => c2 w' q) (run_findKey c1 (by simpa using f2)) (z2 w'), ?_⟩
        cases ok <;> cases h
        · exact z1
        · simp only [VR]; exact ⟨_, rfl, .cons z1 (.cons (.of_bool _) .nil)⟩
      · refine ⟨_, fun w' hw' => lookup_some b1 (same hw' x2) (fun q => c2 w' q) (run_findKey c1 (by simpa using f5)), ?_⟩
        cases ok <;> cases h
        · exact f3
        · simp only [VR]; exact ⟨_, rfl, .cons f3 (.cons (.of_bool _) .nil)⟩
    · simp only [VR] at a2; subst a2
      cases h7
      refine ⟨_, fun w' hw' => lookup_nil b1 (fun q => c2 w' q) (run_findKey c1 rfl) (z2 w'), ?_⟩
      cases ok <;> cases h
      · exact z1
      · simp only [VR]; exact ⟨_, rfl, .cons z1 (.cons (.of_bool _) .nil)⟩
  case entry x =>
    unfold Go.X.XV at fin
    simp only [hop] at fin
    simp only [opR] at h
    obtain ⟨p, h1, h⟩ := ob_some h
    obtain ⟨pu, a1, a2⟩ := ev_vr k h1
    cases p <;> try cases h
    rename_i i' o'
    cases o' with
    | succ => cases h
    | zero =>
    obtain ⟨ob', h2, h⟩ := ob_some h
    obtain ⟨m, seen, st, since, rfl, h⟩ : ∃ m seen st since, ob' = .iter (some m) since seen st ∧ (match seen with | b :: _ => ob (mapOf f m) fun x => chk (Nat.beq x.2 st) (List.rec none (fun y _ r => match Nat.beq y.2.2 b with | true => some (.tup [y.1, y.2.1]) | false => r) x.1) | [] => none) = some v := by
      cases ob' <;> try cases h
      rename_i m since seen st
      cases m <;> try cases h
      cases seen <;> try cases h
      exact ⟨_, _, _, _, rfl, h⟩
    cases seen with
    | nil => cases h
    | cons b seen =>
    simp only at h
    obtain ⟨q, h3, h⟩ := ob_some h
    obtain ⟨h4, h⟩ := chk_some h
    have h4 := Nat.eq_of_beq_eq_true h4
    obtain ⟨x, x1, ⟨xd, m', x2, y, x3, rfl⟩, x4⟩ := hm.at' i' _ h2 trivial
    obtain ⟨z, es', z1, z2, z3, z4, _⟩ := map_at hm h3
    rw [x3] at z1; cases z1
    simp only [VR] at a2
    obtain ⟨x', a3, rfl⟩ := a2
    rw [x1] at a3; cases a3
    have hfind : ∀ {es : List (AV × AV × Nat)} {es' : List MapEntry}, EsR ρ es es' → List.rec (motive := fun _ => Option AV) none (fun y _ r => match Nat.beq y.2.2 b with | true => some (.tup [y.1, y.2.1]) | false => r) es = some v → ∃ en, es'.find? (fun e => e.born == b) = some en ∧ ∃ kv vv, v = .tup [kv, vv] ∧ VR ρ kv en.key ∧ VR ρ vv en.val := by
      intro es
      induction es with
      | nil => intro es' _ q; cases q
      | cons y es ih =>
        rintro es' ⟨en, l', rfl, c1, c2, c3, c4⟩ q
        cases hb : Nat.beq y.2.2 b with
        | true =>
          have hb' := Nat.eq_of_beq_eq_true hb
          have q' : (match Nat.beq y.2.2 b with | true => some (AV.tup [y.1, y.2.1]) | false => _) = some v := q
          rw [hb] at q'
          cases q'
          exact ⟨en, by simp [List.find?, c3, hb'], _, _, rfl, c1, c2⟩
        | false =>
          have hb' : y.2.2 ≠ b := fun e => by rw [e] at hb; simp at hb
          have q' : (match Nat.beq y.2.2 b with | true => some (AV.tup [y.1, y.2.1]) | false => List.rec (motive := fun _ => Option AV) none (fun y _ r => match Nat.beq y.2.2 b with | true => some (.tup [y.1, y.2.1]) | false => r) es) = some v := q
          rw [hb] at q'
          obtain ⟨en', d1, d2⟩ := ih c4 q'
          exact ⟨en', by simp only [List.find?, c3, show (y.2.2 == b) = false from by simpa using hb', d1], d2⟩
    obtain ⟨en, f1, kv, vv, rfl, f2, f3⟩ := hfind z3 h
    refine fin ?_
    simp only [a1]
    refine ⟨.tuple #[en.key, en.val], fun w' hw' => ?_, by simp only [VR]; exact ⟨_, rfl, .cons f2 (.cons f3 .nil)⟩⟩
    have b1 := same hw' x2
    have b2 := same hw' z2
    rw [xd]
    have g1 : (getObj x.b).run P w' = .ok (.mapIter (some y.b) since (b :: seen).reverse.toArray st) w' := by simp [getObj, Sem.run, b1]
    have g2 := Go.X.gobj (P := P) b2
    simp [Instr.entry, g1, g2, h4, f1]
  case call c =>
    unfold Go.X.XV at fin
    obtain ⟨callee, args, ts⟩ := c
    cases callee <;> try cases h
    rename_i b
    cases b <;> try cases h
    simp only [hop] at fin
    simp only [opR] at h
    obtain ⟨t, h0, h⟩ := ob_some h
    obtain ⟨ti, ht, h⟩ := ob_some h
    obtain ⟨bt, zt, hti, _⟩ := (hG.get ht).ti
    obtain ⟨tk, s1, zz, cm⟩ := ti
    cases tk <;> try cases h
    rename_i kt et
    obtain ⟨d, hd', hkd⟩ := (hG.tk.get hti).und
    obtain rfl := Go.X.kOk.map hkd
    obtain ⟨vs, h1, h⟩ := ob_some h
    refine fin (evs_vr k h1 fun us q1 => ?_)
    have h0' : ts[0]? = some t := by rw [lget_eq] at h0; simpa using h0
    rcases vs with _ | ⟨v0, _ | ⟨v1, r⟩⟩ <;> first | cases h | skip
    · obtain ⟨u0, us, rfl, q2, q3⟩ := q1.cons_inv
      have := q3.nil_inv; subst this
      cases v0 <;> try cases h
      · rename_i i'
        obtain ⟨q, h2, h⟩ := ob_some h
        obtain ⟨x, es', x1, x2, x3, x4, _⟩ := map_at hm h2
        simp only [VR] at q2
        obtain ⟨y, y1, rfl⟩ := q2
        rw [x1] at y1; cases y1
        refine ⟨_, fun w' hw' => len_map h0' hd' (same hw' x2), ?_⟩
        have := mkN_vr (ρ := ρ) h
        rw [len_eq] at this
        simpa [EsR.length x3] using this
      · simp only [VR] at q2; subst q2
        exact ⟨_, fun w' hw' => len_nil h0' hd', .of_int _ _⟩
    · cases v0 <;> cases h
  all_goals cases h
end
end Go.Y

/- The evaluator's operations that make something. -/
namespace Go.Y
open Go.X (TK TyI Fr FP Tab TabOk CtxOk)
open Go.ChangeMaps Go.MapKept
set_option linter.unusedVariables false
set_option linter.unusedSimpArgs false
set_option linter.constructorNameAsVariable false
set_option linter.unusedSectionVars false

/-- What is there behind an operation. -/
def applyF (f : Nat → Option AObj) (r : LR) (n : Nat) : Nat → Option AObj :=
  let f1 := match r.up with
    | none => f
    | some x => updF f x.1 x.2
  match r.new with
  | none => f1
  | some o => updF f1 n o
/-- The operation r says, from w on: what follows is to hold of every world that it may give. -/
def WOk (P : Program) (o : Oper) (a : Act) (w0 : Base) (w : World) (ρ : Rho) (f : Nat → Option AObj) (n : Nat) (r : LR) : Prop :=
  ∀ (next : Act → World → Prop) (Q : Exit → Act → World → Prop), (∀ u ρ' w', ρ.le ρ' → VR ρ' r.v u → MR ρ' (applyF f r n) w0 w' → (∀ i, ρ' i ≠ none → ρ i ≠ none ∨ (i = n ∧ r.new ≠ none)) → next (a.put o.dst u) w') → o.wp P a w next Q

theorem fr_alloc (w : World) (o : Obj) : Fr w (fun _ => False) (w.alloc o) :=
  ⟨rfl, rfl, rfl, by simp, fun b hb _ => RowKit.Below.heap_alloc w o b hb⟩
theorem alloc_at (w : World) (o : Obj) : (w.alloc o).heap[w.heap.size]? = some o := by show (w.heap.push _)[w.heap.size]? = _; simp
theorem dom_set {ρ : Rho} {n : Nat} {x : Bk} {c : Option AObj} (hc : c ≠ none) : ∀ i, ρ.set n x i ≠ none → ρ i ≠ none ∨ (i = n ∧ c ≠ none) := fun i h => by
  unfold Rho.set at h
  split at h
  · rename_i hi; exact .inr ⟨hi, hc⟩
  · exact .inl h
section
variable {ρ : Rho} {f : Nat → Option AObj} {w0 : Base} {w : World} {n : Nat}
/-- A new row. -/
theorem MR.newCells (hm : MR ρ f w0 w) (hn : ρ n = none) {cs : List Value} {l : List AV} {t : TypeId} {op : Bool} (hl : l.length ≤ cs.length) (hv : VRL ρ l (cs.take l.length)) (hop : op = false → cs.length = l.length) :
    MR (ρ.set n ⟨w.heap.size, 0, cs.length⟩) (updF f n (.cells t l op)) w0 (w.alloc (.cells cs.toArray t (0, 0))) := by
  refine hm.new hn (fr_alloc w _) (Nat.le_refl _) ⟨cs, ?_, rfl, by simpa using hl, ?_, fun h => ⟨rfl, hop h⟩⟩
  · exact alloc_at w _
  · rw [List.drop_zero]; exact hv.mono (Rho.le_set hn)
theorem MR.newMap (hm : MR ρ f w0 w) (hn : ρ n = none) : MR (ρ.set n ⟨w.heap.size, 0, 0⟩) (updF f n (.map [] 0)) w0 (w.alloc (.map #[] 0)) :=
  hm.new hn (fr_alloc w _) (Nat.le_refl _) ⟨[], alloc_at w _, rfl⟩
end

section
variable {P : Program} {tab : Tab} {g : Gl} (hG : GOk P tab g) {ρ : Rho} {e : Env} {a : Act} {f : Nat → Option AObj} {w0 : Base} {w : World} {n : Nat}
theorem wp_run {o : Oper} {s : Sem Value} {u : Value} {w' : World} {next : Act → World → Prop} {Q : Exit → Act → World → Prop} (hs : execOp a.eval o = (do Pure.pure (Next.value (← s)) : Sem Next)) (hr : s.run P w = .ok u w') (h : next (a.put o.dst u) w') : o.wp P a w next Q := by
  unfold Oper.wp
  rw [hs, Sem.run_bind, hr]
  exact h
theorem wp_unit {o : Oper} {s : Sem Unit} {w' : World} {next : Act → World → Prop} {Q : Exit → Act → World → Prop} (hs : execOp a.eval o = (do s; Pure.pure Next.skip : Sem Next)) (hr : s.run P w = .ok () w') (h : next (a.put o.dst undef) w') : o.wp P a w next Q := by
  unfold Oper.wp
  rw [hs, Sem.run_bind, hr]
  exact h
theorem one_cell {v : AV} {u : Value} (h : VR ρ v u) (h1 : one v = true) : u.oneCell' = true := by
  cases v <;> first
    | exact absurd h1 Bool.false_ne_true
    | (simp only [VR] at h; subst h; rfl)
    | (simp only [VR] at h; obtain ⟨_, _, rfl⟩ := h; rfl)
    | (simp only [VR] at h; obtain ⟨_, rfl⟩ := h; rfl)
    | (simp only [VR] at h; obtain ⟨_, _, _, _, rfl, _⟩ := h; rfl)
    | (simp only [VR] at h; obtain ⟨_, _, rfl, _⟩ := h; rfl)
    | (simp only [VR] at h; obtain ⟨_, rfl, _⟩ := h; rfl)
theorem ones_cells : ∀ {l : List AV} {us : List Value}, VRL ρ l us → ones l = true → ∀ u ∈ us, u.oneCell' = true
  | [], us, h, _ => by have := h.nil_inv; subst this; simp
  | x :: l, us, h, h1 => by
    obtain ⟨u, us', rfl, q1, q2⟩ := h.cons_inv
    have h1 : (match one x with | true => ones l | false => false) = true := h1
    cases hx : one x with
    | true =>
      rw [hx] at h1
      intro y hy
      rcases List.mem_cons.1 hy with rfl | hy
      · exact one_cell q1 hx
      · exact ones_cells q2 h1 y hy
    | false => rw [hx] at h1; cases h1
include hG
theorem rep_made {t : TypeId} {y : Ty} (hy : g.ty.get t = some y) (hp : 0 < y.size) {z : Value} {w : World} (hz : (zeroValue t).run P w = .ok z w) (hzc : ∃ zs, VRL ρ0 y.zero zs ∧ z.cells = zs.toArray) (k : Nat) : VRL ρ (rep y.zero k) (madeCells z.cells (k * y.size)).toList := by
  obtain ⟨zs, h1, h2⟩ := hzc
  have hlen : zs.length = y.size := by rw [h1.length]; exact (hG.get hy).zl
  rw [Go.X.made_flat (enc := fun _ : Unit => zs) (x := ()) (by rw [h2]) (by rw [h2]; simpa using hlen) hp]
  have : ∀ k, VRL ρ (rep y.zero k) ((List.replicate k ()).flatMap fun _ => zs) := by
    intro k
    induction k with
    | zero => exact .nil
    | succ k ih =>
      show VRL ρ (app y.zero (rep y.zero k)) _
      rw [app_eq, List.replicate_succ, List.flatMap_cons]
      exact .append (h1.mono (le0 ρ)) ih
  exact this k
theorem zero_cells {t : TypeId} {y : Ty} (hy : g.ty.get t = some y) (w : World) : ∃ z, (zeroValue t).run P w = .ok z w ∧ ∃ zs, VRL ρ0 y.zero zs ∧ z.cells = zs.toArray := by
  obtain ⟨b, zs, h1, h2, _⟩ := (hG.get hy).ti
  obtain ⟨z, h3, h4⟩ := Go.X.run_zero' (w := w) (hG.tk.get h1)
  exact ⟨z, h3, zs, h2, h4⟩
theorem buildR_ok {sz : Nat} : ∀ {l : List (Nat × AV)} {cs r : List AV} {us : List (Nat × Value)} {cs' : List Value}, buildR sz l cs = some r → us.map (·.1) = l.map (·.1) → VRL ρ (l.map (·.2)) (us.map (·.2)) → VRL ρ cs cs' → ∃ r', Go.X.bldL sz cs' us = some r' ∧ VRL ρ r r'
  | [], cs, r, us, cs', h, h1, h2, h3 => by
    cases us with
    | nil => cases h; exact ⟨cs', rfl, h3⟩
    | cons => simp at h1
  | (i, v) :: l, cs, r, us, cs', h, h1, h2, h3 => by
    cases us with
    | nil => simp at h1
    | cons u us =>
      obtain ⟨j, u⟩ := u
      simp at h1
      obtain ⟨rfl, h1⟩ := h1
      obtain ⟨a3, h⟩ := chk_some (show chk (Nat.beq (len (cellsA v)) sz) (ob (over (cellsA v) cs (j * sz)) fun cs => buildR sz l cs) = some r from h)
      obtain ⟨cs2, a4, h⟩ := ob_some h
      simp only [List.map_cons] at h2
      obtain ⟨u', us', e1, e2, e3⟩ := h2.cons_inv
      simp at e1
      obtain ⟨rfl, rfl⟩ := e1
      have hcl := e2.cells
      have hlen : (Go.X.cellsL u).length = sz := by rw [hcl.length, ← len_eq]; exact Nat.eq_of_beq_eq_true a3
      obtain ⟨hb, _⟩ := over_some a4
      have hle : j * sz + sz ≤ cs'.length := by
        have := h3.length
        have := len_eq (cellsA v)
        have := hcl.length
        omega
      obtain ⟨r', q1, q2⟩ := buildR_ok h h1 e3 (over_vr a4 hcl h3)
      refine ⟨r', ?_, q2⟩
      simp only [Go.X.bldL]
      rw [show (Nat.beq (Go.X.cellsL u).length sz && Nat.ble (j * sz + sz) cs'.length) = true from by simp [hlen, hle]]
      exact q1
end
end Go.Y

/- The evaluator's operations that write or make something: rows. -/
namespace Go.Y
open Go.X (TK TyI Fr FP Tab TabOk CtxOk)
open Go.ChangeMaps Go.MapKept
set_option linter.unusedVariables false
set_option linter.unusedSimpArgs false
set_option linter.constructorNameAsVariable false
set_option linter.unusedSectionVars false

theorem xover_eq : ∀ {l : List Value} {i : Nat} {vs : List Value}, i + vs.length ≤ l.length → Go.X.over l i vs = l.take i ++ vs ++ l.drop (i + vs.length)
  | [], i, [], h => by simp at h; subst h; rfl
  | [], i, _ :: _, h => by simp at h
  | a :: l, i, [], h => by simp [Go.X.over]
  | a :: l, 0, v :: vs, h => by simp only [Go.X.over]; rw [xover_eq (by simpa using h)]; simp
  | a :: l, i + 1, v :: vs, h => by simp only [Go.X.over]; rw [xover_eq (by simp at h ⊢; omega)]; simp [Nat.succ_add]
/-- Cells over a part of a row. -/
theorem row_over {ρ : Rho} {cs : List Value} {l vs r : List AV} {us : List Value} {d o : Nat} (hl : VRL ρ l ((cs.drop d).take l.length)) (hd : d + l.length ≤ cs.length) (h : over vs l o = some r) (hv : VRL ρ vs us) :
    (Go.X.over cs (d + o) us).length = cs.length ∧ r.length = l.length ∧ d + o + us.length ≤ cs.length ∧ VRL ρ r (((Go.X.over cs (d + o) us).drop d).take r.length) := by
  obtain ⟨h1, h2⟩ := over_some h
  have e1 := hv.length
  have hlen : r.length = l.length := by rw [h2]; simp; omega
  have hfit : d + o + us.length ≤ cs.length := by omega
  refine ⟨Go.X.over_length cs _ us, hlen, hfit, ?_⟩
  have key : ((Go.X.over cs (d + o) us).drop d).take r.length = Go.X.over ((cs.drop d).take l.length) o us := by
    rw [xover_eq hfit, xover_eq (by rw [List.length_take, List.length_drop]; omega), hlen]
    apply List.ext_getElem?
    intro i
    simp only [List.getElem?_take, List.getElem?_drop, List.getElem?_append, List.length_take, List.length_drop, List.length_append]
    by_cases c1 : i < l.length
    · rw [if_pos c1]
      by_cases c2 : i < o
      · rw [if_pos (by omega), if_pos (by omega), if_pos (by omega), if_pos (by omega)]
        rw [if_pos (by omega), if_pos (by omega), if_pos c1]
      · by_cases c3 : i < o + us.length
        · rw [if_pos (by omega), if_neg (by omega), if_pos (by omega), if_neg (by omega)]
          congr 1; omega
        · rw [if_neg (by omega), if_neg (by omega), if_pos (by omega)]
          congr 1; omega
    · rw [if_neg c1, if_neg (by omega), if_neg (by omega)]
  rw [key]
  exact over_vr h hv hl

section
variable {P : Program} {tab : Tab} {g : Gl} (hG : GOk P tab g) {ρ : Rho} {e : Env} {a : Act} {f : Nat → Option AObj} {w0 : Base} {w : World} {n : Nat}
theorem fr_of_store {w w' : World} {b : Nat} (h1 : w'.heap.size = w.heap.size) (h2 : ∀ k, k ≠ b → w'.heap[k]? = w.heap[k]?) (h3 : w'.os = w.os) (h4 : w'.tape = w.tape) (h5 : w'.output = w.output) : Fr w (fun k => k = b) w' :=
  ⟨h3, h4, h5, by omega, fun k _ hk => h2 k hk⟩
/-- Cells are stored over a part of a row. -/
theorem MR.store (hm : MR ρ f w0 w) {i : Nat} {q : TypeId × List AV × Bool} (hq : cellsOf f i = some q) {x : Bk} (hx : ρ i = some x) {vs r : List AV} {us : List Value} {o : Nat} (h : over vs q.2.1 o = some r) (hv : VRL ρ vs us) (h1 : ∀ u ∈ us, u.oneCell' = true) :
    ∃ w', (storeCells ⟨x.b, x.d + o, none⟩ us).run P w = .ok () w' ∧ MR ρ (updF f i (.cells q.1 r q.2.2)) w0 w' := by
  obtain ⟨t, l, op⟩ := q
  obtain ⟨y, cs, a1, a2, a3, a4, a5, a6, a7⟩ := cells_at hm hq
  rw [hx] at a1; cases a1
  replace a4 : x.d + l.length ≤ x.N := a4
  replace a5 : VRL ρ l ((cs.drop x.d).take l.length) := a5
  replace a6 : op = false → x.d = 0 ∧ x.N = l.length := a6
  replace h : over vs l o = some r := h
  obtain ⟨c1, c2, c3, c4⟩ := row_over a5 (by omega) h hv
  obtain ⟨w', r1, r2, r3, r4, r5, r6, r7⟩ := Go.X.run_storeCells (P := P) us w cs (x.d + o) 0 h1 (by omega) a2
  refine ⟨w', r1, hm.set (cellsOf_some hq) trivial hx (fr_of_store r3 r4 r5 r6 r7) ⟨Go.X.over cs (x.d + o) us, by rw [r2]; rfl, by omega, by omega, c4, fun hop => ?_⟩⟩
  have := a6 hop
  omega
include hG
theorem opW_rows (k : ER ρ e a) (hd : a.defers = []) (hm : MR ρ f w0 w) {o : Oper} {r : LR} (hn : r.new ≠ none → ρ n = none) (h : opW g o.op e f n = some r) (hc : ∀ c, o.op ≠ .call c) (hu : ∀ t m k x, o.op ≠ .mapUpdate t m k x) (hr : ∀ t x, o.op ≠ .range t x) (hx : ∀ x b, o.op ≠ .next x b) : WOk P o a w0 w ρ f n r := by
  intro next Q hnext
  cases hop : o.op <;> rw [hop] at h <;> simp only [opW] at h <;> try cases h
  case alloc t =>
    obtain ⟨ti, h1, h⟩ := ob_some h
    cases h
    obtain ⟨z, z1, zs, z2, z3⟩ := zero_cells hG h1 w
    have hz : zs.length = ti.zero.length := z2.length
    refine wp_run (s := Instr.alloc t true (.tuple #[])) (by simp [execOp, hop]) (u := .pointer (some ⟨w.heap.size, 0, none⟩)) (w' := w.alloc (.cells zs.toArray t (0, 0))) (by simp [Instr.alloc, z1, newVar, newRow, z3]) ?_
    exact hnext _ _ _ (Rho.le_set (hn (by simp))) (by simp only [VR]; exact ⟨_, Rho.set_at, by simp⟩) (hm.newCells (hn (by simp)) (by omega) (by rw [← hz, List.take_length]; exact z2.mono (le0 ρ)) (fun _ => hz)) (dom_set (by simp))
  case box t x =>
    obtain ⟨v, h1, h⟩ := ob_some h
    cases h
    obtain ⟨u, h2, h3⟩ := ev_vr k h1
    have hc := h3.cells
    have hz := hc.length
    have hx := (envOf_es hd).eval h2
    refine wp_run (s := Instr.box t u) (by simp [execOp, hop, hx]) (u := .pointer (some ⟨w.heap.size, 0, none⟩)) (w' := w.alloc (.cells (Go.X.cellsL u).toArray t (0, 0))) (by simp [Instr.box, newVar, newRow, Go.X.cellsL_eq]) ?_
    exact hnext _ _ _ (Rho.le_set (hn (by simp))) (by simp only [VR]; exact ⟨_, Rho.set_at, by simp⟩) (hm.newCells (hn (by simp)) (by omega) (by rw [← hz, List.take_length]; exact hc) (fun _ => hz)) (dom_set (by simp))
  case buildSlice t c ps =>
    cases hc0 : Nat.beq c 0 with
    | true =>
      rw [hc0] at h
      obtain ⟨⟨et, ei⟩, h1, h⟩ := ob_some h
      obtain ⟨l⟩ := ps
      cases l with
      | cons => cases h
      | nil =>
      cases h
      obtain rfl : c = 0 := Nat.eq_of_beq_eq_true hc0
      obtain ⟨e1, e2, ti, e3, e4⟩ := elem_ok hG h1
      obtain ⟨zb, zz, e5, e6, _⟩ := e2.ti
      have hs := Go.X.run_sizeOf' (w := w) (hG.tk.get e5)
      refine wp_run (s := Instr.buildSlice t 0 ⟨[]⟩) (by simp [execOp, hop]) (u := .slice (some ⟨w.heap.size, 0, none⟩) 0 0) (w' := w.alloc (.cells #[] et (0, 0))) ?_ ?_
      · simp [Instr.buildSlice, Go.X.run_underlying' e1, hs, Instr.fill, newRow]
        have h0 : ∀ f : Nat → Value, (Array.range 0).map f = #[] := fun f => Array.eq_empty_of_size_eq_zero (by simp)
        rw [h0]
      · exact hnext _ _ _ (Rho.le.refl ρ) (by simp only [VR]; exact ⟨_, rfl⟩) (hm.quiet (fr_alloc w _)) (fun _ hi => .inl hi)
    | false =>
    rw [hc0] at h
    obtain ⟨⟨et, ei⟩, h1, h⟩ := ob_some h
    obtain ⟨h2, h⟩ := chk_some h
    obtain ⟨l, h3, h⟩ := ob_some h
    obtain ⟨cs, h4, h⟩ := ob_some h
    cases h
    obtain ⟨e1, e2, ti, e3, e4⟩ := elem_ok hG h1
    obtain ⟨hty, q1, hgt⟩ : ∃ q, g.ty.get t = some q ∧ g.ty.get et = some ei := by
      obtain ⟨tt, q1, q2⟩ := ob_some h1
      obtain ⟨kk, s1, zz, cm⟩ := tt
      cases kk <;> simp only at q2 <;> try cases q2
      obtain ⟨ei', q3, q4⟩ := ob_some q2
      cases q4
      exact ⟨_, q1, q3⟩
    simp only [Bool.and_eq_true] at h2
    have h21 := Nat.le_of_ble_eq_true h2.1
    have h22 : c * ei.size ≠ 0 := by have := h2.2; rw [nbeq] at this; simpa using this
    have hpos : 0 < ei.size := Nat.pos_of_ne_zero fun q => h22 (by rw [q]; rfl)
    obtain ⟨zb, zz, e5, e6, _⟩ := e2.ti
    obtain ⟨z, z1, zs, z2, z3⟩ := zero_cells hG hgt w
    have hrep := rep_made hG (ρ := ρ) hgt hpos z1 ⟨zs, z2, z3⟩ c
    -- the parts
    have hparts : ∃ us : List (Nat × Value), (ps.map fun (i, x) => (i, a.eval x)).toList = us ∧ us.map (·.1) = l.map (·.1) ∧ VRL ρ (l.map (·.2)) (us.map (·.2)) := by
      have key := parts_vr k h3 (K := fun us => us.map (·.1) = l.map (·.1) ∧ VRL ρ (l.map (·.2)) (us.map (·.2))) fun us q1 q2 => ⟨q1, q2⟩
      refine ⟨_, rfl, ?_⟩
      have := (envOf_es hd).parts key
      simpa using this
    obtain ⟨us, p1, p2, p3⟩ := hparts
    obtain ⟨r', b1, b2⟩ := buildR_ok hG h4 p2 p3 hrep
    have hfill := Go.X.fill_bld us _ _ b1
    have hlen : r'.length = cs.length := b2.length
    have hs := Go.X.run_sizeOf' (w := w) (hG.tk.get e5)
    have hps : (ps.map fun (i, x) => (i, a.eval x)) = us.toArray := by rw [← p1]
    refine wp_run (s := Instr.buildSlice t c us.toArray) (by simp only [execOp, hop, hps]) (u := .slice (some ⟨w.heap.size, 0, none⟩) c c) (w' := w.alloc (.cells r'.toArray et (0, 0))) ?_ ?_
    · have n1 : ¬ c * ei.size > 2 ^ 24 := by omega
      have e0 : (Array.range (c * ei.size)).map (z.cells[· % z.cells.size]!) = (madeCells z.cells (c * ei.size)).toList.toArray := by rw [Array.toArray_toList]; rfl
      simp only [Instr.buildSlice, Sem.run_bind, Go.X.run_underlying' e1, Result.andThen_ok, hs, if_neg n1, if_neg h22, z1, Sem.run_pure, e0, hfill, newRow, run_newObj]
      rfl
    · exact hnext _ _ _ (Rho.le_set (hn (by simp))) (by simp only [VR]; exact ⟨_, Rho.set_at, by simp⟩) (hm.newCells (hn (by simp)) (by omega) (by rw [← hlen, List.take_length]; exact b2) (fun _ => hlen)) (dom_set (by simp))
  case makeMap t rs =>
    cases rs with
    | some => cases h
    | none =>
    cases h
    refine Go.X.XE.sound (C := ⟨P, tab, a.tmps.size, w, fun _ => False⟩) (L := []) (e := envOf a) (K := fun u L' => ∃ b, u = .map (some b) ∧ L' = [Go.X.ob b (.map #[] 0)]) hG.tk (envOf_es hd) ?_ next Q ?_ w (holds0 P tab _ w)
    · unfold Go.X.XE
      simp only [hop]
      exact fun b => ⟨b, rfl, rfl⟩
    · rintro u L' w' ⟨b, rfl, rfl⟩ hw'
      obtain ⟨hfr, S, ⟨S1, S2, h1, _, _, hs1, _⟩, hS⟩ := hw'
      have hb := hS b (hs1 b ((h1.1 b).2 rfl))
      have hbw : w.heap.size ≤ b := hb.2.resolve_left id
      exact hnext _ _ _ (Rho.le_set (x := ⟨b, 0, 0⟩) (hn (by simp))) (by simp only [VR]; exact ⟨_, Rho.set_at, rfl⟩) (hm.new (hn (by simp)) hfr hbw ⟨[], h1.2, rfl⟩) (dom_set (by simp))
  case makeSlice t x y =>
    obtain ⟨⟨et, ei⟩, h1, h⟩ := ob_some h
    obtain ⟨l, h2, h⟩ := ob_some h
    obtain ⟨c, h3, h⟩ := ob_some h
    obtain ⟨h4, h⟩ := chk_some h
    rw [nat1_eq, nat1_eq] at h
    cases h
    obtain ⟨lv, h2, h2'⟩ := ob_some h2
    obtain ⟨cv, h3, h3'⟩ := ob_some h3
    obtain ⟨lu, a1, a2⟩ := ev_vr k h2
    obtain ⟨cu, a3, a4⟩ := ev_vr k h3
    have := nat_vr h2' a2; subst this
    have := nat_vr h3' a4; subst this
    obtain ⟨e1, e2, ti, e3, e4⟩ := elem_ok hG h1
    have hgt : g.ty.get et = some ei := by
      obtain ⟨tt, q1, q2⟩ := ob_some h1
      obtain ⟨kk, s1, zz, cm⟩ := tt
      cases kk <;> simp only at q2 <;> try cases q2
      obtain ⟨ei', q3, q4⟩ := ob_some q2
      cases q4
      exact q3
    simp only [Bool.and_eq_true] at h4
    obtain ⟨⟨c1, c2⟩, c3⟩ := h4
    have c1 := Nat.le_of_ble_eq_true c1
    have c2 := Nat.le_of_ble_eq_true c2
    have hpos : 0 < ei.size := Nat.pos_of_ne_zero (by rw [nbeq] at c3; simpa using c3)
    obtain ⟨zb, zz, e5, e6, e7⟩ := e2.ti
    obtain ⟨z, z1, zs, z2, z3⟩ := zero_cells hG hgt w
    have hrep := rep_made hG (ρ := ρ) hgt hpos z1 ⟨zs, z2, z3⟩ c
    obtain ⟨d2, inf, z', u1, u2, u3, u4, u5, u6, _⟩ := hG.tk.get e5
    have hzz : z' = z := by
      have : (zeroValue et).run P w = .ok z' w := by simp [zeroValue, typeInfo, u2, u5]
      rw [this] at z1; cases z1; rfl
    subst hzz
    have hbytes : (inf.bytes : Int) * (c : Int) ≤ 281474976710656 := by
      have : inf.bytes * c ≤ 4096 * 4096 := Nat.mul_le_mul (by rw [u4]; exact e7) c2
      have h' : ((inf.bytes * c : Nat) : Int) ≤ 281474976710656 := by omega
      rwa [Int.natCast_mul] at h'
    have hr' := run_make (P := P) w t et inf z' e1 u2 u5 .i64 .i64 l c (by omega) (by omega) hbytes (by omega)
    simp only [Int.toNat_natCast] at hr'
    have hxx := (envOf_es hd).eval a1
    have hyy := (envOf_es hd).eval a3
    have hsz : inf.size = ei.size := u3
    rw [hsz] at hr'
    have hlen : (madeCells z'.cells (c * ei.size)).toList.length = (rep ei.zero c).length := hrep.length
    refine wp_run (s := Instr.makeSlice t (.int .i64 l) (.int .i64 c)) (by simp [execOp, hop, hxx, hyy]) hr' ?_
    have hnew := hm.newCells (hn (by simp)) (cs := (madeCells z'.cells (c * ei.size)).toList) (l := rep ei.zero c) (t := et) (op := false) (by omega) (by rw [← hlen, List.take_length]; exact hrep) (fun _ => hlen)
    exact hnext _ _ _ (Rho.le_set (hn (by simp))) (by simp only [VR]; exact ⟨_, Rho.set_at, by simp⟩) hnew (dom_set (by simp))
  case store t x y =>
    obtain ⟨p, h1, h⟩ := ob_some h
    obtain ⟨v, h2, h⟩ := ob_some h
    obtain ⟨pu, a1, a2⟩ := ev_vr k h1
    obtain ⟨vu, a3, a4⟩ := ev_vr k h2
    obtain ⟨i, o', rfl⟩ : ∃ i o', p = .ptr i o' := by cases p <;> first | exact ⟨_, _, rfl⟩ | cases h
    simp only at h
    obtain ⟨q, h3, h⟩ := ob_some h
    obtain ⟨ti, h4, h⟩ := ob_some h
    obtain ⟨h5, h⟩ := chk_some h
    obtain ⟨l, h6, h⟩ := ob_some h
    cases h
    simp only [Bool.and_eq_true] at h5
    obtain ⟨b, z, e1, _⟩ := (hG.get h4).ti
    simp only [VR] at a2
    obtain ⟨x', hx', rfl⟩ := a2
    have hcl := a4.cells
    obtain ⟨w', r1, r2⟩ := hm.store (P := P) h3 hx' h6 hcl (ones_cells hcl h5.2)
    have hsz := Go.X.run_sizeOf' (w := w) (hG.tk.get e1)
    have hxx := (envOf_es hd).eval a1
    have hyy := (envOf_es hd).eval a3
    have e2 : vu.cells.size = ti.size := by
      have := Nat.eq_of_beq_eq_true h5.1
      rw [Go.X.cellsL_eq]; simp; rw [hcl.length, ← len_eq]; exact this
    have e3 : vu.cells.toList = Go.X.cellsL vu := by rw [Go.X.cellsL_eq]
    refine wp_unit (s := Instr.storeAt t (.pointer (some ⟨x'.b, x'.d + o', none⟩)) vu) (by simp [execOp, hop, hxx, hyy]) (w' := w') ?_ (hnext _ ρ w' (Rho.le.refl ρ) ?_ r2 (fun i hi => .inl hi))
    · simp only [Instr.storeAt, Instr.sureAddr, Sem.run_bind, Sem.run_pure, Result.andThen_ok, storeVar, hsz, e2, ne_eq, not_true_eq_false, if_false, e3]
      exact r1
    · simp only [VR]; exact ⟨[], rfl, .nil⟩
  case mapUpdate t m q x => exact absurd hop (hu _ _ _ _)
  case range t x => exact absurd hop (hr _ _)
  case next x b => exact absurd hop (hx _ _)
  case call c => exact absurd hop (hc _)
end
end Go.Y

/- The evaluator's operations that write or make something: maps. -/
namespace Go.Y
open Go.X (TK TyI Fr FP Tab TabOk CtxOk)
open Go.ChangeMaps Go.MapKept
set_option linter.unusedVariables false
set_option linter.unusedSimpArgs false
set_option linter.constructorNameAsVariable false
set_option linter.unusedSectionVars false

section
variable {ρ : Rho} {f : Nat → Option AObj} {w0 : Base} {w : World} {n : Nat} {P : Program}
theorem EsR.setAt' : ∀ {es : List (AV × AV × Nat)} {es' : List MapEntry} {j : Nat} {ent : MapEntry} {k x : AV} {ku xu : Value}, EsR ρ es es' → es'[j]? = some ent → VR ρ k ku → VR ρ x xu → EsR ρ (Go.Y.setAt (k, x, ent.born) es j) (es'.set j { ent with key := ku, val := xu })
  | [], es', j, ent, k, x, ku, xu, h, hj, _, _ => by obtain rfl : es' = [] := h; simp at hj
  | y :: es, es', 0, ent, k, x, ku, xu, h, hj, h1, h2 => by
    obtain ⟨en, l', rfl, a1, a2, a3, a4⟩ := h
    simp at hj; subst hj
    exact ⟨_, l', rfl, h1, h2, rfl, a4⟩
  | y :: es, es', j + 1, ent, k, x, ku, xu, h, hj, h1, h2 => by
    obtain ⟨en, l', rfl, a1, a2, a3, a4⟩ := h
    exact ⟨en, _, rfl, a1, a2, a3, EsR.setAt' a4 (by simpa using hj) h1 h2⟩
theorem EsR.snoc : ∀ {es : List (AV × AV × Nat)} {es' : List MapEntry} {y : AV × AV × Nat} {en : MapEntry}, EsR ρ es es' → VR ρ y.1 en.key → VR ρ y.2.1 en.val → en.born = y.2.2 → EsR ρ (es ++ [y]) (es' ++ [en])
  | [], es', y, en, h, h1, h2, h3 => by obtain rfl : es' = [] := h; exact ⟨en, [], rfl, h1, h2, h3, rfl⟩
  | x :: es, es', y, en, h, h1, h2, h3 => by
    obtain ⟨e', l', rfl, a1, a2, a3, a4⟩ := h
    exact ⟨e', _, rfl, a1, a2, a3, EsR.snoc a4 h1 h2 h3⟩
theorem EsR.drop' : ∀ {es : List (AV × AV × Nat)} {es' : List MapEntry} (j : Nat), EsR ρ es es' → EsR ρ (dropAt es j) (es'.eraseIdx j)
  | [], es', j, h => by obtain rfl : es' = [] := h; simp [EsR, dropAt]
  | y :: es, es', 0, h => by obtain ⟨en, l', rfl, a1, a2, a3, a4⟩ := h; exact a4
  | y :: es, es', j + 1, h => by obtain ⟨en, l', rfl, a1, a2, a3, a4⟩ := h; exact ⟨en, _, rfl, a1, a2, a3, EsR.drop' j a4⟩
theorem eqC_true {k k2 : AV} {ku ku2 : Value} (h : eqC k k2 = some true) (h1 : VR ρ k ku) (h2 : VR ρ k2 ku2) : ku = ku2 := by
  cases k <;> cases k2 <;> simp only [eqC] at h <;> try cases h
  · have := h1.bool_inv; subst this
    have := h2.bool_inv; subst this
    rw [beqB_eq] at h
    simp at h
    rw [h]
  · have := h1.int_inv; subst this
    have := h2.int_inv; subst this
    split at h
    · rename_i hk
      have := Go.X.kEq_eq hk; subst this
      rw [ibeq_eq] at h
      simp at h
      rw [h]
    · cases h
  · simp only [VR] at h1 h2; subst h1; subst h2
    rw [str_eq] at h
    simp only [Option.some.injEq] at h
    rw [← beq_toListBytes] at h
    have := (bytes_beq _ _).1 h
    rw [this]
  · simp only [VR] at h1 h2; rw [h1, h2]
theorem find_key {k : AV} {ku : Value} (hk : VR ρ k ku) : ∀ {es : List (AV × AV × Nat)} {es' : List MapEntry} {i j : Nat} {v : AV} {b : Nat} {ent : MapEntry}, EsR ρ es es' → findA k es i = some (some (i + j, v, b)) → es'[j]? = some ent → ent.key = ku
  | [], es', i, j, v, b, ent, h1, h2, h3 => by cases h2
  | x :: es, es', i, j, v, b, ent, h1, h2, h3 => by
    obtain ⟨en, l', rfl, a1, a2, a3, a4⟩ := h1
    obtain ⟨c, b1, h2⟩ := ob_some (show ob (eqC k x.1) (fun b => match b with | true => some (some (i, x.2.1, x.2.2)) | false => findA k es (i + 1)) = some (some (i + j, v, b)) from h2)
    cases c with
    | true =>
      simp only [Option.some.injEq, Prod.mk.injEq] at h2
      obtain rfl : j = 0 := by omega
      simp at h3; subst h3
      exact (eqC_true b1 hk a1).symm
    | false =>
      simp only at h2
      cases j with
      | zero =>
        exfalso
        -- the number found is at least i + 1
        have ge : ∀ {es : List (AV × AV × Nat)} {i r : Nat} {v : AV} {b : Nat}, findA k es i = some (some (r, v, b)) → i ≤ r := by
          intro es
          induction es with
          | nil => intro i r v b q; cases q
          | cons y es ih =>
            intro i r v b q
            obtain ⟨c, _, q⟩ := ob_some (show ob (eqC k y.1) (fun b => match b with | true => some (some (i, y.2.1, y.2.2)) | false => findA k es (i + 1)) = some (some (r, v, b)) from q)
            cases c with
            | true => simp only [Option.some.injEq, Prod.mk.injEq] at q; exact Nat.le_of_eq q.1
            | false => have h9 : i + 1 ≤ r := ih q; exact Nat.le_of_succ_le h9
        have h9 : i + 1 ≤ i + 0 := ge h2
        exact absurd h9 (Nat.not_succ_le_self i)
      | succ j => exact find_key (i := i + 1) (j := j) (v := v) (b := b) hk a4 (by rw [h2, show i + (j + 1) = i + 1 + j by omega]) (by simpa using h3)
theorem fr_setObj (w : World) (b : Nat) (o : Obj) : Fr w (fun k => k = b) { w with heap := w.heap.setIfInBounds b o } :=
  ⟨rfl, rfl, rfl, by simp, fun k _ hk => by simp [Array.getElem?_setIfInBounds, Ne.symm hk]⟩
theorem setObj_at {w : World} {b : Nat} (o : Obj) (h : b < w.heap.size) : ({ w with heap := w.heap.setIfInBounds b o } : World).heap[b]? = some o := by simp [h]
theorem put_found {t kt et : TypeId} {b : Nat} {es : List MapEntry} {c i : Nat} {k x v : Value} {ent : MapEntry} (ht : P.underlying t = some (.map kt et)) (hb : w.heap[b]? = some (.map es.toArray c)) (hc : ∀ q, (Instr.checkKey q 10000 kt k).run P w = .ok () w)
    (hf : (Instr.findKey kt k es).run P w = .ok (some (i, v)) w) (hi : es[i]? = some ent) (hk : ent.key = k) (hs : (Instr.keyThatStays k k).run P w = .ok k w) :
    (Instr.mapUpdate t (.map (some b)) k x).run P w = .ok () { w with heap := w.heap.setIfInBounds b (.map (es.set i { ent with key := k, val := x }).toArray c) } := by
  have hmod : es.modify i (fun e => { e with key := k, val := x }) = es.set i { ent with key := k, val := x } := by
    apply List.ext_getElem?
    intro j
    simp only [List.getElem?_modify, List.getElem?_set]
    by_cases hij : i = j
    · subst hij
      have hlt := (List.getElem?_eq_some_iff.1 hi).1
      have hei : es[i] = ent := by have := List.getElem?_eq_getElem hlt; rw [hi] at this; exact (Option.some.inj this).symm
      simp [hi, hlt, hei]
    · simp [hij]
  simp [Instr.mapUpdate, Go.X.run_underlying' ht, Go.X.gobj hb, hc, hf, hi, hk, hs, hmod, Go.X.sobj (P := P) _ hb]
theorem put_new {t kt et : TypeId} {b : Nat} {es : List MapEntry} {c : Nat} {k x : Value} (ht : P.underlying t = some (.map kt et)) (hb : w.heap[b]? = some (.map es.toArray c)) (hc : ∀ q, (Instr.checkKey q 10000 kt k).run P w = .ok () w)
    (hf : (Instr.findKey kt k es).run P w = .ok none w) : (Instr.mapUpdate t (.map (some b)) k x).run P w = .ok () { w with heap := w.heap.setIfInBounds b (.map (es ++ [({ key := k, val := x, born := c } : MapEntry)]).toArray (c + 1)) } := by
  simp [Instr.mapUpdate, Go.X.run_underlying' ht, Go.X.gobj hb, hc, hf, Go.X.sobj (P := P) _ hb]
end
section
variable {P : Program} {tab : Tab} {g : Gl} (hG : GOk P tab g) {ρ : Rho} {e : Env} {a : Act} {f : Nat → Option AObj} {w0 : Base} {w : World} {n : Nat}
include hG
theorem put_ok (k : ER ρ e a) (hd : a.defers = []) (hm : MR ρ f w0 w) {o : Oper} {t : TypeId} {m q x : Operand} {r : LR} (hop : o.op = .mapUpdate t m q x) (h : opW g (.mapUpdate t m q x) e f n = some r) : WOk P o a w0 w ρ f n r := by
  intro next Q hnext
  simp only [opW] at h
  obtain ⟨mv, h1, h⟩ := ob_some h
  obtain ⟨kv, h2, h⟩ := ob_some h
  obtain ⟨xv, h3, h⟩ := ob_some h
  obtain ⟨⟨kt, et⟩, h4, h⟩ := ob_some h
  obtain ⟨mu, a1, a2⟩ := ev_vr k h1
  obtain ⟨ku, a3, a4⟩ := ev_vr k h2
  obtain ⟨xu, a5, a6⟩ := ev_vr k h3
  obtain ⟨b1, _, b3⟩ := mapTy_ok hG h4
  obtain ⟨d, c1, c2, c3, c4⟩ := key_ok hG b3 a4
  obtain ⟨i, rfl⟩ : ∃ i, mv = .map i := by cases mv <;> first | exact ⟨_, rfl⟩ | cases h
  simp only at h
  obtain ⟨qq, h5, h⟩ := ob_some h
  obtain ⟨fr, h6, h⟩ := ob_some h
  obtain ⟨y, es', y1, y2, y3, y4, y5⟩ := map_at hm h5
  simp only [VR] at a2
  obtain ⟨y', z1, rfl⟩ := a2
  rw [y1] at z1; cases z1
  have hlt : y.b < w.heap.size := (Array.getElem?_eq_some_iff.1 y2).1
  have hmm := (envOf_es hd).eval a1
  have hkk := (envOf_es hd).eval a3
  have hxx := (envOf_es hd).eval a5
  have undef_vr : VR ρ (.tup []) undef := by simp only [VR]; exact ⟨[], rfl, .nil⟩
  rcases find_ok c3 y3 h6 with ⟨rfl, f2⟩ | ⟨j, v, b, en, rfl, f2, f3, f4, f5⟩
  · rw [nat1_eq] at h
    cases h
    have hr := put_new (P := P) (x := xu) b1 y2 (fun q => c2 w q) (run_findKey c1 f2)
    refine wp_unit (s := Instr.mapUpdate t (.map (some y.b)) ku xu) (by simp [execOp, hop, hmm, hkk, hxx]) hr ?_
    refine hnext _ ρ _ (Rho.le.refl ρ) undef_vr ?_ (fun i hi => .inl hi)
    refine hm.set y5 trivial y1 (fr_setObj w _ _) ⟨_, setObj_at _ hlt, ?_⟩
    rw [app_eq]
    exact y3.snoc a4 a6 rfl
  · cases h
    rw [Nat.zero_add] at h6 f5
    have hkey := find_key (i := 0) a4 y3 (by rw [Nat.zero_add]; exact h6) f2
    have hr := put_found (P := P) (x := xu) b1 y2 (fun q => c2 w q) (run_findKey c1 f5) f2 hkey (c4 w)
    refine wp_unit (s := Instr.mapUpdate t (.map (some y.b)) ku xu) (by simp [execOp, hop, hmm, hkk, hxx]) hr ?_
    refine hnext _ ρ _ (Rho.le.refl ρ) undef_vr ?_ (fun i hi => .inl hi)
    refine hm.set y5 trivial y1 (fr_setObj w _ _) ⟨_, setObj_at _ hlt, ?_⟩
    rw [← f4, Nat.zero_add]
    exact y3.setAt' f2 a4 a6
theorem range_ok (k : ER ρ e a) (hd : a.defers = []) (hm : MR ρ f w0 w) {o : Oper} {t : TypeId} {x : Operand} {r : LR} (hn : r.new ≠ none → ρ n = none) (hop : o.op = .range t x) (h : opW g (.range t x) e f n = some r) : WOk P o a w0 w ρ f n r := by
  intro next Q hnext
  simp only [opW] at h
  obtain ⟨ti, h0, h⟩ := ob_some h
  obtain ⟨mv, h1, h⟩ := ob_some h
  obtain ⟨mu, a1, a2⟩ := ev_vr k h1
  have hmm := (envOf_es hd).eval a1
  obtain ⟨bt, zt, hti, _⟩ := (hG.get h0).ti
  obtain ⟨tk, s1, zz, cm⟩ := ti
  obtain ⟨kt, et, rfl⟩ : ∃ kt et, tk = .map kt et := by cases tk <;> first | exact ⟨_, _, rfl⟩ | (cases mv <;> cases h)
  obtain ⟨d, hd', hkd⟩ := (hG.tk.get hti).und
  obtain rfl := Go.X.kOk.map hkd
  cases mv <;> try cases h
  · rename_i i
    obtain ⟨q, h2, h⟩ := ob_some h
    cases h
    obtain ⟨y, es', y1, y2, y3, y4, y5⟩ := map_at hm h2
    simp only [VR] at a2
    obtain ⟨y', z1, rfl⟩ := a2
    rw [y1] at z1; cases z1
    refine wp_run (s := Instr.range t (.map (some y.b))) (by simp [execOp, hop, hmm]) (u := .pointer (some ⟨w.heap.size, 0, none⟩)) (w' := w.alloc (.mapIter (some y.b) q.2 #[] q.2)) (by simp [Instr.range, Go.X.run_underlying' hd', Go.X.gobj y2, newObj]; rfl) ?_
    refine hnext _ _ _ (Rho.le_set (x := ⟨w.heap.size, 0, 0⟩) (hn (by simp))) (by simp only [VR]; exact ⟨_, Rho.set_at, by simp⟩) (hm.new (hn (by simp)) (fr_alloc w _) (Nat.le_refl _) ⟨rfl, some y.b, alloc_at w _, y, Rho.le_set (hn (by simp)) i y y1, rfl⟩) (dom_set (by simp))
  · simp only [VR] at a2; subst a2
    refine wp_run (s := Instr.range t (.map none)) (by simp [execOp, hop, hmm]) (u := .pointer (some ⟨w.heap.size, 0, none⟩)) (w' := w.alloc (.mapIter none 0 #[] 0)) (by simp [Instr.range, Go.X.run_underlying' hd', newObj]; rfl) ?_
    refine hnext _ _ _ (Rho.le_set (x := ⟨w.heap.size, 0, 0⟩) (hn (by simp))) (by simp only [VR]; exact ⟨_, Rho.set_at, by simp⟩) (hm.new (hn (by simp)) (fr_alloc w _) (Nat.le_refl _) ⟨rfl, none, alloc_at w _, rfl⟩) (dom_set (by simp))
end
end Go.Y
