/- Sorting calls: two blocks change places; what it is to be sorted, with equals in their order. -/
import Derived.Test.YtfebaopjfmpfkaaDoorS1
namespace Go.Proofs.YtfebaopjfmpfkaaDoor
open Go.X
set_option maxRecDepth 10000
set_option linter.unusedVariables false
set_option linter.unusedSimpArgs false

theorem rotate_spec (f : Value) (g n cap a m b : Nat) (P U V Q : List Cl) (hn : (P ++ U ++ V ++ Q).length = n) (ha : P.length = a) (hm : a + U.length = m) (hb : m + V.length = b) (hU : 0 < U.length) (hV : 0 < V.length) (hn2 : n ≤ 1000000) (w : World) (S : FP)
    (hS : Sep [own (some ⟨g, 0, none⟩) cap 41 9 encCl (P ++ U ++ V ++ Q)] w S) (hd : ∀ b, S b → b < w.heap.size) :
    Trip Tryd.prog 69 #[.slice (some ⟨g, 0, none⟩) n cap, .int .i64 a, .int .i64 m, .int .i64 b, f] w S fun v L => v = .tuple #[] ∧ L = [own (some ⟨g, 0, none⟩) cap 41 9 encCl (P ++ V ++ U ++ Q)] := by
  have hnn : P.length + U.length + V.length + Q.length = n := by simpa [Nat.add_assoc] using hn
  refine Trip.of_x (L := [own (some ⟨g, 0, none⟩) cap 41 9 encCl (P ++ U ++ V ++ Q)]) Tryd.func69 (by kernel_rfl) rfl Tryd.ntmps69 Tryd.results69 rfl (ctx_ok _) hS hd ?_
  refine ⟨(U.length : Int), by rw [show ((m : Int) - a) = (U.length : Int) by omega]; exact wrap_i64 (by omega) (by omega), ?_⟩
  refine ⟨(V.length : Int), by rw [show ((b : Int) - m) = (V.length : Int) by omega]; exact wrap_i64 (by omega) (by omega), ?_⟩
  refine loopI (σ := List Cl × List Cl × List Cl × List Cl) (fun s => [(0, .slice (some ⟨g, 0, none⟩) n cap), (2, .int .i64 m), (4, f), (10, .int .i64 s.2.1.length), (11, .int .i64 s.2.2.1.length)]) (fun s => [own (some ⟨g, 0, none⟩) cap 41 9 encCl (s.1 ++ s.2.1 ++ s.2.2.1 ++ s.2.2.2)])
    (fun s => s.1.length + s.2.1.length = m ∧ 0 < s.2.1.length ∧ 0 < s.2.2.1.length ∧ s.1.length + s.2.1.length + s.2.2.1.length + s.2.2.2.length = n ∧ s.1 ++ s.2.2.1 ++ s.2.1 ++ s.2.2.2 = P ++ V ++ U ++ Q) (fun s => s.2.1.length + s.2.2.1.length) (P, U, V, Q)
    ⟨rfl, rfl, rfl, rfl, rfl, trivial⟩ (.refl _) ⟨by show P.length + U.length = m; omega, hU, hV, hnn, rfl⟩ ?_
  rintro ⟨P', U', V', Q'⟩ ⟨h1, h2, h3, h4, h5⟩
  have h1 : P'.length + U'.length = m := h1
  have h2 : 0 < U'.length := h2
  have h3 : 0 < V'.length := h3
  have h4 : P'.length + U'.length + V'.length + Q'.length = n := h4
  have h5 : P' ++ V' ++ U' ++ Q' = P ++ V ++ U ++ Q := h5
  have hlen : (P' ++ U' ++ V' ++ Q').length = n := by simp; omega
  refine ⟨fun hne => ?_, fun heq => ?_⟩
  · have hne : (U'.length : Int) ≠ V'.length := of_decide_eq_true hne
    refine ⟨fun hgt => ?_, fun hle => ?_⟩
    · have hgt : V'.length < U'.length := by
        have : (U'.length : Int) > V'.length := of_decide_eq_true hgt
        omega
      refine ⟨(P'.length : Int), by show _ = IntKind.i64.wrap ((m : Int) - (U'.length : Int)); rw [show ((m : Int) - (U'.length : Int)) = (P'.length : Int) by omega]; exact wrap_i64 (by omega) (by omega), ?_⟩
      refine callP [0] (fun w S hR hB hS hd => swapRange_spec f g n cap P'.length m V'.length (P' ++ U' ++ V' ++ Q') hlen (by omega) (by omega) hn2 w S hS hd) ?_
      rintro _ _ ⟨rfl, rfl⟩
      refine ⟨((U'.length - V'.length : Nat) : Int), by show _ = IntKind.i64.wrap ((U'.length : Int) - (V'.length : Int)); rw [show ((U'.length : Int) - (V'.length : Int)) = ((U'.length - V'.length : Nat) : Int) by omega]; exact wrap_i64 (by omega) (by omega), ?_⟩
      have hl1 : (U'.take V'.length).length = V'.length := by simp; omega
      have hl2 : (U'.drop V'.length).length = U'.length - V'.length := by simp
      have hsw : swR (P' ++ U' ++ V' ++ Q') P'.length m V'.length = P' ++ V' ++ U'.drop V'.length ++ U'.take V'.length ++ Q' := by
        have := swR_blocks P' (U'.take V'.length) (U'.drop V'.length) V' Q' hl1
        rw [hl1, List.append_assoc P', List.take_append_drop, hl2, show P'.length + V'.length + (U'.length - V'.length) = m by omega] at this
        exact this
      exact backI (P' ++ V', U'.drop V'.length, U'.take V'.length, Q') (by show (U'.drop V'.length).length + (U'.take V'.length).length < U'.length + V'.length; omega) ⟨by show (P' ++ V').length + (U'.drop V'.length).length = m; simp; omega, by show 0 < (U'.drop V'.length).length; omega, by show 0 < (U'.take V'.length).length; omega, by show (P' ++ V').length + (U'.drop V'.length).length + (U'.take V'.length).length + Q'.length = n; simp; omega, by
        show P' ++ V' ++ U'.take V'.length ++ U'.drop V'.length ++ Q' = _
        rw [List.append_assoc (P' ++ V'), List.take_append_drop]; exact h5⟩ ⟨rfl, rfl, rfl, by show _ = some (Value.int .i64 ((U'.drop V'.length).length : Nat)); rw [hl2]; rfl, by show _ = some (Value.int .i64 ((U'.take V'.length).length : Nat)); rw [hl1]; rfl, trivial⟩ (by rw [hsw]; exact .refl _)
    · have hlt : U'.length < V'.length := by
        have : ¬ (U'.length : Int) > V'.length := of_decide_eq_false hle
        omega
      have hl1 : (V'.take (V'.length - U'.length)).length = V'.length - U'.length := by simp
      have hl2 : (V'.drop (V'.length - U'.length)).length = U'.length := by simp; omega
      refine ⟨(P'.length : Int), by show _ = IntKind.i64.wrap ((m : Int) - (U'.length : Int)); rw [show ((m : Int) - (U'.length : Int)) = (P'.length : Int) by omega]; exact wrap_i64 (by omega) (by omega), ?_⟩
      refine ⟨((m + V'.length : Nat) : Int), by show _ = IntKind.i64.wrap ((m : Int) + (V'.length : Int)); rw [show ((m : Int) + (V'.length : Int)) = ((m + V'.length : Nat) : Int) by omega]; exact wrap_i64 (by omega) (by omega), ?_⟩
      refine ⟨((m + (V'.length - U'.length) : Nat) : Int), by show _ = IntKind.i64.wrap (((m + V'.length : Nat) : Int) - (U'.length : Int)); rw [show (((m + V'.length : Nat) : Int) - (U'.length : Int)) = ((m + (V'.length - U'.length) : Nat) : Int) by omega]; exact wrap_i64 (by omega) (by omega), ?_⟩
      refine callP [0] (fun w S hR hB hS hd => swapRange_spec f g n cap P'.length (m + (V'.length - U'.length)) U'.length (P' ++ U' ++ V' ++ Q') hlen (by omega) (by omega) hn2 w S hS hd) ?_
      rintro _ _ ⟨rfl, rfl⟩
      refine ⟨((V'.length - U'.length : Nat) : Int), by show _ = IntKind.i64.wrap ((V'.length : Int) - (U'.length : Int)); rw [show ((V'.length : Int) - (U'.length : Int)) = ((V'.length - U'.length : Nat) : Int) by omega]; exact wrap_i64 (by omega) (by omega), ?_⟩
      have hsw : swR (P' ++ U' ++ V' ++ Q') P'.length (m + (V'.length - U'.length)) U'.length = P' ++ V'.drop (V'.length - U'.length) ++ V'.take (V'.length - U'.length) ++ U' ++ Q' := by
        have := swR_blocks P' U' (V'.take (V'.length - U'.length)) (V'.drop (V'.length - U'.length)) Q' hl2.symm
        rw [hl1, List.append_assoc (P' ++ U'), List.take_append_drop, show P'.length + U'.length + (V'.length - U'.length) = m + (V'.length - U'.length) by omega] at this
        exact this
      exact backI (P', V'.drop (V'.length - U'.length), V'.take (V'.length - U'.length), U' ++ Q') (by show (V'.drop (V'.length - U'.length)).length + (V'.take (V'.length - U'.length)).length < U'.length + V'.length; omega) ⟨by show P'.length + (V'.drop (V'.length - U'.length)).length = m; omega, by show 0 < (V'.drop (V'.length - U'.length)).length; omega, by show 0 < (V'.take (V'.length - U'.length)).length; omega, by show P'.length + (V'.drop (V'.length - U'.length)).length + (V'.take (V'.length - U'.length)).length + (U' ++ Q').length = n; simp only [List.length_append]; omega, by
        show P' ++ V'.take (V'.length - U'.length) ++ V'.drop (V'.length - U'.length) ++ (U' ++ Q') = _
        rw [List.append_assoc P', List.take_append_drop, ← List.append_assoc]; exact h5⟩ ⟨rfl, rfl, rfl, by show _ = some (Value.int .i64 ((V'.drop (V'.length - U'.length)).length : Nat)); rw [hl2]; rfl, by show _ = some (Value.int .i64 ((V'.take (V'.length - U'.length)).length : Nat)); rw [hl1]; rfl, trivial⟩ (by
        show Ent _ [own _ _ _ _ _ (P' ++ V'.drop (V'.length - U'.length) ++ V'.take (V'.length - U'.length) ++ (U' ++ Q'))]
        rw [hsw, ← List.append_assoc _ U' Q']; exact .refl _)
  · have heq : U'.length = V'.length := by
      have : ¬ (U'.length : Int) ≠ V'.length := of_decide_eq_false heq
      omega
    refine ⟨(P'.length : Int), by show _ = IntKind.i64.wrap ((m : Int) - (U'.length : Int)); rw [show ((m : Int) - (U'.length : Int)) = (P'.length : Int) by omega]; exact wrap_i64 (by omega) (by omega), ?_⟩
    refine callP [0] (fun w S hR hB hS hd => swapRange_spec f g n cap P'.length m U'.length (P' ++ U' ++ V' ++ Q') hlen (by omega) (by omega) hn2 w S hS hd) ?_
    rintro _ _ ⟨rfl, rfl⟩
    have hsw : swR (P' ++ U' ++ V' ++ Q') P'.length m U'.length = P ++ V ++ U ++ Q := by
      have := swR_blocks P' U' [] V' Q' heq
      simp only [List.append_nil, List.length_nil, Nat.add_zero] at this
      rw [h1] at this
      rw [this, h5]
    exact ⟨_, .refl _, rfl, by rw [hsw]; rfl⟩

/-! ### sorted, with equals in their order -/
def keyL (k : Int) (L : List Cl) : List Cl := L.filter fun c => decide (c.en = k)
def Srt (L : List Cl) : Prop := L.Pairwise fun a b => a.en ≤ b.en
structure Stab (R L : List Cl) : Prop where
  len : R.length = L.length
  srt : Srt R
  key : ∀ k, keyL k R = keyL k L
theorem Stab.refl {L : List Cl} (h : Srt L) : Stab L L := ⟨rfl, h, fun _ => rfl⟩
theorem keyL_app (k : Int) (A B : List Cl) : keyL k (A ++ B) = keyL k A ++ keyL k B := List.filter_append ..
theorem mem_keyL {k : Int} {L : List Cl} {c : Cl} : c ∈ keyL k L ↔ c ∈ L ∧ c.en = k := by
  unfold keyL; rw [List.mem_filter]; simp
theorem Stab.mem {R L : List Cl} (h : Stab R L) {c : Cl} : c ∈ R ↔ c ∈ L := by
  have := h.key c.en
  constructor
  · intro hc
    have : c ∈ keyL c.en L := this ▸ mem_keyL.2 ⟨hc, rfl⟩
    exact (mem_keyL.1 this).1
  · intro hc
    have : c ∈ keyL c.en R := this ▸ mem_keyL.2 ⟨hc, rfl⟩
    exact (mem_keyL.1 this).1
theorem Stab.trans {R L M : List Cl} (h : Stab R L) (h' : ∀ k, keyL k L = keyL k M) (hl : L.length = M.length) : Stab R M := ⟨h.len.trans hl, h.srt, fun k => (h.key k).trans (h' k)⟩
/-- Such a list is the only one. -/
theorem Stab.uniq : ∀ {R R' L : List Cl}, Stab R L → Stab R' L → R = R'
  | [], R', L, h, h' => by
    have := h'.len.trans h.len.symm
    cases R' with
    | nil => rfl
    | cons _ _ => simp at this
  | x :: r, R', L, h, h' => by
    cases R' with
    | nil => have := h'.len.trans h.len.symm; simp at this
    | cons y r' =>
      have hk : ∀ k, keyL k (x :: r) = keyL k (y :: r') := fun k => (h.key k).trans (h'.key k).symm
      have hx : x ∈ y :: r' := h'.mem.2 (h.mem.1 (by simp))
      have hy : y ∈ x :: r := h.mem.2 (h'.mem.1 (by simp))
      have e1 : y.en ≤ x.en := by
        rcases List.mem_cons.1 hx with rfl | hx
        · omega
        · exact (List.pairwise_cons.1 h'.srt).1 x hx
      have e2 : x.en ≤ y.en := by
        rcases List.mem_cons.1 hy with rfl | hy
        · omega
        · exact (List.pairwise_cons.1 h.srt).1 y hy
      have he : x.en = y.en := by omega
      have hxy : x = y := by
        have := hk x.en
        unfold keyL at this
        rw [List.filter_cons_of_pos (by simp), List.filter_cons_of_pos (by simp [he])] at this
        exact (List.cons.inj this).1
      subst hxy
      have hr : ∀ k, keyL k r = keyL k r' := fun k => by
        have := hk k
        unfold keyL at this ⊢
        by_cases hkx : x.en = k
        · rw [List.filter_cons_of_pos (by simpa using hkx), List.filter_cons_of_pos (by simpa using hkx)] at this
          exact (List.cons.inj this).2
        · rw [List.filter_cons_of_neg (by simpa using hkx), List.filter_cons_of_neg (by simpa using hkx)] at this
          exact this
      have hl : r.length = r'.length := by have := h.len.trans h'.len.symm; simpa using this
      rw [Stab.uniq (R := r) (R' := r') (L := r') ⟨hl, (List.pairwise_cons.1 h.srt).2, hr⟩ (Stab.refl (List.pairwise_cons.1 h'.srt).2)]

/-- Two sorted halves, cut so that the lower parts lie below the upper ones. -/
theorem Stab.merge {A1 A2 B1 B2 R1 R2 : List Cl} (hA : Srt (A1 ++ A2)) (hB : Srt (B1 ++ B2)) (h1 : ∀ x ∈ A1, ∀ y ∈ B2, x.en ≤ y.en) (h2 : ∀ y ∈ B1, ∀ x ∈ A2, y.en < x.en) (hR1 : Stab R1 (A1 ++ B1)) (hR2 : Stab R2 (A2 ++ B2)) : Stab (R1 ++ R2) (A1 ++ A2 ++ (B1 ++ B2)) := by
  have hA' := (List.pairwise_append.1 hA).2.2
  have hB' := (List.pairwise_append.1 hB).2.2
  refine ⟨?_, List.pairwise_append.2 ⟨hR1.srt, hR2.srt, fun x hx y hy => ?_⟩, fun k => ?_⟩
  · have := hR1.len; have := hR2.len; simp at *; omega
  · have hx := hR1.mem.1 hx
    have hy := hR2.mem.1 hy
    rcases List.mem_append.1 hx with hx | hx <;> rcases List.mem_append.1 hy with hy | hy
    · exact hA' x hx y hy
    · exact h1 x hx y hy
    · exact Int.le_of_lt (h2 x hx y hy)
    · exact hB' x hx y hy
  · rw [keyL_app, hR1.key, hR2.key, keyL_app, keyL_app, keyL_app, keyL_app, keyL_app]
    have hmid : keyL k B1 ++ keyL k A2 = keyL k A2 ++ keyL k B1 := by
      cases hb : keyL k B1 with
      | nil => simp
      | cons y l =>
        have hy : y ∈ B1 ∧ y.en = k := mem_keyL.1 (by rw [hb]; simp)
        cases ha : keyL k A2 with
        | nil => simp
        | cons x l' =>
          have hx : x ∈ A2 ∧ x.en = k := mem_keyL.1 (by rw [ha]; simp)
          have := h2 y hy.1 x hx.1
          omega
    simp only [List.append_assoc]
    rw [← List.append_assoc (keyL k B1), hmid]
    simp only [List.append_assoc]
end Go.Proofs.YtfebaopjfmpfkaaDoor
