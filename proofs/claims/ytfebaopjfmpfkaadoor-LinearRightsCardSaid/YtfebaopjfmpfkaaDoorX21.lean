/- What the chunks of a contract's end say of its value. -/
import Derived.Test.YtfebaopjfmpfkaaDoorX20
namespace Go.X
set_option linter.unusedVariables false
set_option linter.unusedSimpArgs false

/-- What holds of the chunks holds behind the call. -/
theorem Trip.fact {P : Program} {f : FuncId} {args : Array Value} {w : World} {S : FP} {Post Post' : Value → List Chunk → Prop} (h : Trip P f args w S Post)
    (hp : ∀ v L w', Post v L → Inv w S L w' → Post' v L) : Trip P f args w S Post' :=
  ⟨h.1, h.2.mono fun _ w' ⟨v, L, he, hP, hI⟩ => ⟨v, L, he, hp _ _ w' hP hI, hI⟩⟩
theorem Inv.ownAt {α : Type} {w0 w : World} {S0 : FP} {L : List Chunk} {a : Option Addr} {cap : Nat} {e : TypeId} {sz : Nat} {enc : α → List Value} {xs : List α} (h : Inv w0 S0 L w) (hm : X.own a cap e sz enc xs ∈ L) (hne : xs ≠ []) : ∃ g, a = some ⟨g, 0, none⟩ := by
  obtain ⟨_, S, hS, _⟩ := h
  obtain ⟨T, hT, _⟩ := hS.mem hm
  obtain ⟨x, hx⟩ : ∃ x, xs[0]? = some x := by cases xs with | nil => exact absurd rfl hne | cons x xs => exact ⟨x, rfl⟩
  obtain ⟨g, cur, rfl, _⟩ := own_at hT hx
  exact ⟨g, rfl⟩
/-- The capacity is at least the length. -/
theorem Inv.ownCap {α : Type} {w0 w : World} {S0 : FP} {L : List Chunk} {a : Option Addr} {cap : Nat} {e : TypeId} {sz : Nat} {enc : α → List Value} {xs : List α} (h : Inv w0 S0 L w) (hm : X.own a cap e sz enc xs ∈ L) : xs.length ≤ cap := by
  obtain ⟨_, S, hS, _⟩ := h
  obtain ⟨T, ⟨_, _, h⟩, _⟩ := hS.mem hm
  rcases h with ⟨_, h0⟩ | ⟨g, c, cur, he, _, _, hn, _⟩
  · have h0 : xs.length = 0 := h0
    omega
  · cases he; exact hn
end Go.X
