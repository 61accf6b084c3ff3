/- Package threads: a step of a run, by a law of its own (its range over slices.Backward leaves in its first round). -/
import Derived.Test.YtkkeimpmafllpaaGreatDoorK3
import Derived.Test.YtkkeimpmafllpaaGreatDoorYH
namespace Go.Proofs.YtkkeimpmafllpaaGreatDoor
open Go.Y Go.X
set_option maxRecDepth 100000
noncomputable def bS : Code := Go.X.bodyOf Tryz.f41
noncomputable def bB : Code := Go.X.bodyOf Tryz.f80
noncomputable def sN : Code := sr (sr (sr (sr (sr (sr bS)))))
noncomputable def sD : Code := bk (sr (sl sN))
noncomputable def sH : Code := cT (sr (cF (sr sD)))
noncomputable def sF : Code := bk (sr sH)
noncomputable def stC : StC where
  cs := [sl bS, sl (sr bS), sl (sr (sr bS)), sl (sr (sr (sr bS))), sl (sr (sr (sr (sr bS)))), sl (sr (sr (sr (sr (sr bS)))))]
  c6 := sl (sl sN)
  b0 := rI (sr (sl sN))
  c7 := sl sD
  t60 := cO (sr sD)
  c8 := cT (sr sD)
  c9 := sl (cF (sr sD))
  t71 := cO (sr (cF (sr sD)))
  c10 := sl sH
  tg := 77
  i14 := rI (sr sN)
  os14 := rO (sr sN)
noncomputable def bL : Code := lo (bk (sr bB))
noncomputable def bQ : Code := bk (sl (sr bL))
noncomputable def o3 : List Oper := rO (sl bQ)
def opAt (l : List Oper) : Oper := match l with
  | a :: _ => a
  | [] => default
noncomputable def rfK : Code := bk (rfB sF)
noncomputable def rgC : RgC where
  i0 := rI (sl bB)
  i1 := rI (sl (sl bL))
  i3 := rI (sl bQ)
  b0 := rI (sr bB)
  b1 := rI (sl (sr bL))
  x0 := rI (cF (sr (sl bL)))
  ops0 := rO (sl bB)
  ops1 := rO (sl (sl bL))
  os12 := (o3.drop 1).take 5
  o11 := opAt o3
  o17 := opAt (o3.drop 6)
  o18 := opAt (o3.drop 7)
  r2 := sr (sr bL)
  c8 := cO (sr (sl bL))
  c18 := cO (sr bQ)
  t11 := 11
  t12 := 12
  t16 := 16
  t17 := 17
  iA := rI (rfA sF)
  iB := rI (sl rfK)
  iC := rI (sl (cT (sr rfK)))
  bB := rI (rfB sF)
  x1 := rI (sr sH)
  p0 := 78
  p1 := 79
  osA := rO (rfA sF)
  osB := rO (sl rfK)
  osC := rO (sl (cT (sr rfK)))
  cB := cO (sr rfK)
theorem rg_ok : RgOk rgC 19 96 := RgC.ok_of (by kernel_rfl)
noncomputable def lawS : List AV → Mem → Option (AV × Mem) := stepQ gg (evalQ gg 10000) stC rgC 41 80 96
theorem self_ok : SelfOk Tryz.prog gg 10000 (evalQ gg 10000) := by rw [evalQ_eq]; exact eval_ok gg_ok gg_inv fnT_ok gg_sp 10000
theorem lawS_ok : SpR Tryz.prog gg 41 lawS :=
  step_sp (FB := Tryz.f80) (FS := Tryz.f41) (ts := #[3, 80]) gg_ok gg_inv fnT_ok gg_sp self_ok (S := stC) rg_ok Tryz.func80 ⟨_, Tryz.func80, by kernel_rfl, rfl⟩ (by kernel_rfl) (by kernel_rfl) (by kernel_rfl) (by kernel_rfl) (by kernel_rfl) (by kernel_rfl) (by kernel_rfl) (by kernel_rfl) (by kernel_rfl) (by kernel_rfl)
    Tryz.func41 ⟨_, Tryz.func41, by kernel_rfl, rfl⟩ (by kernel_rfl) (by kernel_rfl) (by kernel_rfl) (by kernel_rfl) (by kernel_rfl) (by kernel_rfl) (by kernel_rfl)
noncomputable def g2 : Gl := gg.law 41 lawS
theorem calls2_ok : CallOk Tryz.prog g2 (callF g2 (evalQ g2 10000)) := calls_q (callY_ok (law_ok gg_ok) (law_inv gg_inv) fnT_ok (law_sp gg_sp lawS_ok) 10000)
end Go.Proofs.YtkkeimpmafllpaaGreatDoor
