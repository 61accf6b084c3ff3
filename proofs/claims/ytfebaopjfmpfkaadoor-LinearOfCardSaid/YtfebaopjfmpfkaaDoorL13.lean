/- The examples of the chapter: they hold. -/
import Derived.Test.YtfebaopjfmpfkaaDoorL12
namespace Go.Proofs.YtfebaopjfmpfkaaDoor
open Go.X
set_option maxRecDepth 10000
set_option linter.unusedVariables false
set_option linter.unusedSimpArgs false

theorem srchF_spec {xs : List Cl} (hs : xs.length ≤ 64) : ∀ (f D : Nat) (M : List (Int × Int)) (out : List Nat), Done xs D out → xs.length - out.length ≤ f →
    (∀ o, srchF xs f D M = some o → Least xs D M o) ∧ (srchF xs f D M = none → ∀ o, ¬ Good xs D M o)
  | 0, D, M, out, hD, hf => by
    have hle := hD.le
    have hfull := hD.full (by omega)
    simp only [srchF]
    rw [if_pos (full_iff.1 hfull)]
    exact ⟨fun o h => by cases h; exact ⟨⟨trivial, hfull⟩, fun _ _ => trivial⟩, fun h => by cases h⟩
  | f + 1, D, M, out, hD, hf => by
    simp only [srchF]
    split
    · rename_i hfull
      exact ⟨fun o h => by cases h; exact ⟨⟨trivial, full_iff.2 hfull⟩, fun _ _ => trivial⟩, fun h => by cases h⟩
    · rename_i hnf
      have hnf : ¬ Full xs D [] := fun h => hnf (full_iff.1 h)
      -- what a call that can be the next one gives
      have each : ∀ i c, xs[i]? = some c → canB xs D i c.bg = true → (∀ o, srchF xs f (D ||| 2 ^ i) (accF M c).2 = some o → Least xs (D ||| 2 ^ i) (accF M c).2 o) ∧ (srchF xs f (D ||| 2 ^ i) (accF M c).2 = none → ∀ o, ¬ Good xs (D ||| 2 ^ i) (accF M c).2 o) := fun i c hi hcan => by
        have hlt := (List.getElem?_eq_some_iff.1 hi).1
        exact srchF_spec hs f _ _ (out ++ [i]) (hD.push hs hlt (canB_has hD.lt (by omega) hcan)) (by simp; omega)
      -- a call that gives nothing
      have no : ∀ i, i < xs.length → (match xs[i]? with | some c => if canB xs D i c.bg && (accF M c).1 then (srchF xs f (D ||| 2 ^ i) (accF M c).2).map (i :: ·) else none | none => none) = none → ∀ r, ¬ Good xs D M (i :: r) := fun i hi hn r hg => by
        obtain ⟨c, h1, h2, h3, h4⟩ := hg.tail
        rw [h1] at hn
        simp only [h2, h3, Bool.and_self, if_true] at hn
        cases hsr : srchF xs f (D ||| 2 ^ i) (accF M c).2 with
        | none => exact (each i c h1 h2).2 hsr r h4
        | some o => rw [hsr] at hn; cases hn
      constructor
      · intro o ho
        have key : ∀ (l : List Nat), (∃ k, l = List.range' k (xs.length - k) ∧ k ≤ xs.length ∧ ∀ j, j < k → ∀ r, ¬ Good xs D M (j :: r)) → l.findSome? (fun i => match xs[i]? with | some c => if canB xs D i c.bg && (accF M c).1 then (srchF xs f (D ||| 2 ^ i) (accF M c).2).map (i :: ·) else none | none => none) = some o → Least xs D M o := by
          intro l
          induction l with
          | nil => intro _ h; cases h
          | cons i l ih =>
            rintro ⟨k, hl, hk, hno⟩ h
            have hkl : k < xs.length := by
              rcases Nat.lt_or_ge k xs.length with h | h
              · exact h
              · rw [show xs.length - k = 0 by omega] at hl; cases hl
            rw [show xs.length - k = (xs.length - (k + 1)) + 1 by omega, List.range'_succ] at hl
            obtain ⟨rfl, rfl⟩ := List.cons.inj hl
            rw [List.findSome?_cons] at h
            split at h
            · rename_i o' hi
              cases h
              cases hx : xs[i]? with
              | none => rw [hx] at hi; cases hi
              | some c =>
                rw [hx] at hi
                simp only at hi
                split at hi
                · rename_i hb
                  rw [Bool.and_eq_true] at hb
                  obtain ⟨r, hr, rfl⟩ := Option.map_eq_some_iff.1 hi
                  exact Least.cons hnf hx hb.1 hb.2 ((each i c hx hb.1).1 r hr) hno
                · cases hi
            · rename_i hi
              exact ih ⟨i + 1, rfl, hkl, fun j hj r => by
                rcases Nat.lt_or_ge j i with h' | h'
                · exact hno j h' r
                · obtain rfl : j = i := by omega
                  exact no j hkl hi r⟩ h
        refine key (List.range xs.length) ⟨0, ?_, Nat.zero_le _, fun j hj => by omega⟩ ho
        rw [List.range_eq_range']; simp
      · intro hn o hg
        cases o with
        | nil => exact hnf hg.2
        | cons i r =>
          obtain ⟨c, h1, _⟩ := hg.tail
          have hlt := (List.getElem?_eq_some_iff.1 h1).1
          have := List.findSome?_eq_none_iff.1 hn i (List.mem_range.2 hlt)
          exact no i hlt this r hg

theorem lexLe_antisymm : ∀ {a b : List Nat}, lexLe a b → lexLe b a → a = b
  | [], [], _, _ => rfl
  | [], _ :: _, _, h => h.elim
  | _ :: _, [], h, _ => h.elim
  | a :: l, b :: m, h, k => by
    simp only [lexLe] at h k
    have hab : a = b := by omega
    subst hab
    rw [lexLe_antisymm (h.resolve_left (by omega)).2 (k.resolve_left (by omega)).2]
theorem Least.uniq {xs : List Cl} {D : Nat} {M : List (Int × Int)} {o o' : List Nat} (h : Least xs D M o) (h' : Least xs D M o') : o = o' := lexLe_antisymm (h.2 o' h'.1) (h'.2 o h.1)

/-! ### the examples -/
def exC : Cl := ⟨1, 1, 2, 0, 24, 8, 0, 4096, 0⟩
def his1 : List Cl := [exA, exB 1]
def his3 : List Cl := [exA, exC, exB 4]
theorem okA : OkCl exA := ⟨by decide, by decide, by decide, by decide, by decide, fun _ => ⟨by decide, by decide, by decide, by decide, by decide⟩⟩
theorem okC : OkCl exC := ⟨by decide, by decide, by decide, by decide, by decide, fun _ => ⟨by decide, by decide, by decide, by decide, by decide⟩⟩
theorem okB1 : OkCl (exB 1) := ⟨by decide, by decide, by decide, by decide, by decide, fun h => absurd h (by decide)⟩
theorem okB4 : OkCl (exB 4) := ⟨by decide, by decide, by decide, by decide, by decide, fun h => absurd h (by decide)⟩
theorem val1 : Valid his1 := valid_iff.2 ⟨by
  intro c hc
  simp only [his1, List.mem_cons, List.not_mem_nil, or_false] at hc
  rcases hc with rfl | rfl
  · exact okA
  · exact okB1, by simp [his1, Clash, exA, exB]⟩
theorem val3 : Valid his3 := valid_iff.2 ⟨by
  intro c hc
  simp only [his3, List.mem_cons, List.not_mem_nil, or_false] at hc
  rcases hc with rfl | rfl | rfl
  · exact okA
  · exact okC
  · exact okB4, by simp [his3, Clash, exA, exB, exC]⟩
theorem chk1 : chk his1 = 0 := by unfold chk; rw [if_neg (by decide), if_pos val1]
theorem chk3 : chk his3 = 0 := by unfold chk; rw [if_neg (by decide), if_pos val3]
theorem srch1 : srchF his1 2 0 [] = some [0, 1] := by decide +kernel
theorem srch3 : srchF his3 3 0 [] = none := by decide +kernel
theorem sorted3 : sorted his3 = [exC, exA, exB 4] := by rfl
theorem srch3b : srchF [exC, exA, exB 4] 3 0 [] = none := by decide +kernel
theorem srch3c : srchF [exC, exA] 2 0 [] = none := by decide +kernel
theorem srch3d : srchF [exC] 1 0 [] = some [0] := by decide +kernel
theorem inR1 : InR his1 := by intro c hc; simp only [his1, List.mem_cons, List.not_mem_nil, or_false] at hc; rcases hc with rfl | rfl <;> decide
theorem inR3 : InR his3 := by intro c hc; simp only [his3, List.mem_cons, List.not_mem_nil, or_false] at hc; rcases hc with rfl | rfl | rfl <;> decide

theorem check1 {e : Int} {o : List Nat} (h : ChkR his1 e o) : e = 0 ∧ o = [0, 1] := by
  rcases h with ⟨h, _⟩ | ⟨_, he, hl⟩ | ⟨_, _, _, hn⟩
  · exact absurd chk1 h
  · exact ⟨he, hl.uniq ((srchF_spec (by decide) 2 0 [] [] (Done.nil _) (by decide)).1 _ srch1)⟩
  · exact absurd ((srchF_spec (by decide) 2 0 [] [] (Done.nil _) (by decide)).1 _ srch1).1 (hn _)
theorem check3 {e : Int} {o : List Nat} (h : ChkR his3 e o) : e = 4 ∧ o = [] := by
  rcases h with ⟨h, _⟩ | ⟨_, he, hl⟩ | ⟨_, he, ho, _⟩
  · exact absurd chk3 h
  · exact absurd hl.1 ((srchF_spec (by decide) 3 0 [] [] (Done.nil _) (by decide)).2 srch3 o)
  · exact ⟨he, ho⟩
theorem prefix3 {p : Nat} {e : Int} (h : PrefR his3 (sorted his3) p e) : p = 1 ∧ e = 0 := by
  rcases h with ⟨h, _⟩ | ⟨_, he, hp, hno, hyes⟩
  · exact absurd chk3 h
  · refine ⟨?_, he⟩
    rw [sorted3] at hno hyes
    have hp : p ≤ 3 := hp
    have n3 := (srchF_spec (xs := [exC, exA, exB 4]) (by decide) 3 0 [] [] (Done.nil _) (by decide)).2 srch3b
    have n2 := (srchF_spec (xs := [exC, exA]) (by decide) 2 0 [] [] (Done.nil _) (by decide)).2 srch3c
    have n1 := ((srchF_spec (xs := [exC]) (by decide) 1 0 [] [] (Done.nil _) (by decide)).1 _ srch3d).1
    match p, hp, hno, hyes with
    | 0, _, hno, _ => exact absurd n1 (hno 1 (by decide) (by decide) _)
    | 1, _, _, _ => rfl
    | 2, _, _, hyes => obtain ⟨o, ho⟩ := hyes.resolve_left (by decide); exact absurd ho (n2 o)
    | 3, _, _, hyes => obtain ⟨o, ho⟩ := hyes.resolve_left (by decide); exact absurd ho (n3 o)
theorem right1 {b : Bool} {e : Int} (h : RightR his1 [1, 0] b e) : b = false ∧ e = 0 := by
  rcases h with ⟨h, _⟩ | ⟨_, h, _⟩ | ⟨_, o, ho, he, hb⟩
  · exact absurd chk1 h
  · exact absurd ⟨[1, 0], rfl, rfl, by decide, by decide⟩ h
  · refine ⟨?_, he⟩
    have ho' : o = [1, 0] := by
      have h1 := ho.eq
      match o, h1 with
      | [a, b], h1 => simp at h1; rw [show a = 1 by omega, show b = 0 by omega]
    subst ho'
    cases b with
    | false => rfl
    | true =>
      obtain ⟨⟨c, h1, _, h3, _⟩, _⟩ := hb.1 rfl
      have : c = exB 1 := (Option.some.inj h1).symm
      subst this
      exact absurd h3 (by decide)
end Go.Proofs.YtfebaopjfmpfkaaDoor
