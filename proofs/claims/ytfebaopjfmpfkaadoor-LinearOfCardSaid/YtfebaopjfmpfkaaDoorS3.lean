/- Sorting calls: two sorted neighbours are merged in place. -/
import Derived.Test.YtfebaopjfmpfkaaDoorS2
namespace Go.Proofs.YtfebaopjfmpfkaaDoor
open Go.X
set_option maxRecDepth 10000
set_option linter.unusedVariables false
set_option linter.unusedSimpArgs false

theorem half_eq (s : Nat) : ((s / 2 : Nat) : Int) = (s : Int).fdiv (2 ^ min (1 : Int).toNat 64) := by
  rw [show (2 : Int) ^ min (1 : Int).toNat 64 = 2 from rfl, Int.fdiv_eq_ediv_of_nonneg _ (by decide)]
  omega
theorem srt_get {L : List Cl} (h : Srt L) {i j : Nat} {x y : Cl} (hij : i ≤ j) (hx : L[i]? = some x) (hy : L[j]? = some y) : x.en ≤ y.en := by
  obtain ⟨a1, a2⟩ := List.getElem?_eq_some_iff.1 hx
  obtain ⟨b1, b2⟩ := List.getElem?_eq_some_iff.1 hy
  rcases Nat.eq_or_lt_of_le hij with rfl | hlt
  · rw [a2] at b2; subst b2; omega
  · have : L[i].en ≤ L[j].en := List.pairwise_iff_getElem.1 h i j a1 b1 hlt
    rwa [a2, b2] at this
theorem srt_lo {L : List Cl} (h : Srt L) {u : Nat} {k : Int} (hu : u = 0 ∨ ∃ y, L[u - 1]? = some y ∧ y.en < k) : ∀ z ∈ L.take u, z.en < k := fun z hz => by
  obtain ⟨i, hi⟩ := List.mem_iff_getElem?.1 hz
  rw [List.getElem?_take] at hi
  split at hi
  · rcases hu with rfl | ⟨y, hy, hk⟩
    · omega
    · have := srt_get h (show i ≤ u - 1 by omega) hi hy
      omega
  · cases hi
theorem srt_hi {L : List Cl} (h : Srt L) {u : Nat} {k : Int} (hu : L.length ≤ u ∨ ∃ y, L[u]? = some y ∧ k ≤ y.en) : ∀ z ∈ L.drop u, k ≤ z.en := fun z hz => by
  obtain ⟨i, hi⟩ := List.mem_iff_getElem?.1 hz
  rw [List.getElem?_drop] at hi
  rcases hu with hu | ⟨y, hy, hk⟩
  · rw [List.getElem?_eq_none (by omega)] at hi; cases hi
  · have := srt_get h (show u ≤ u + i by omega) hy hi
    omega
theorem Srt.take {L : List Cl} (h : Srt L) (k : Nat) : Srt (L.take k) := h.sublist (List.take_sublist _ _)
theorem Srt.drop {L : List Cl} (h : Srt L) (k : Nat) : Srt (L.drop k) := h.sublist (List.drop_sublist _ _)
theorem sw_adj (P Q : List Cl) (x y : Cl) : ((P ++ x :: y :: Q).set P.length y).set (P.length + 1) x = P ++ y :: x :: Q := by
  rw [List.set_append_right _ _ (Nat.le_refl _), Nat.sub_self, List.set_append_right _ _ (by omega), show P.length + 1 - P.length = 1 by omega]
  rfl
theorem sw_adj' (P Q : List Cl) (x y : Cl) : ((P ++ x :: y :: Q).set (P.length + 1) x).set P.length y = P ++ y :: x :: Q := by
  rw [List.set_append_right _ _ (by omega), show P.length + 1 - P.length = 1 by omega, List.set_append_right _ _ (Nat.le_refl _), Nat.sub_self]
  rfl
theorem get_at (P Q : List Cl) (x y : Cl) : (P ++ x :: y :: Q)[P.length]? = some x ∧ (P ++ x :: y :: Q)[P.length + 1]? = some y := by
  constructor
  · rw [List.getElem?_append_right (Nat.le_refl _), Nat.sub_self]; rfl
  · rw [List.getElem?_append_right (by omega), show P.length + 1 - P.length = 1 by omega]; rfl
/-- One x goes over the first u elements behind it. -/
theorem over_take {B : List Cl} {t : Nat} {y : Cl} (hy : B[t]? = some y) : B.drop t = y :: B.drop (t + 1) ∧ B.take (t + 1) = B.take t ++ [y] := by
  obtain ⟨h1, h2⟩ := List.getElem?_eq_some_iff.1 hy
  exact ⟨by rw [List.drop_eq_getElem_cons h1, h2], by rw [List.take_add_one, hy]; rfl⟩
theorem both {p A B : Prop} (h : p) (f : p → A ∧ B) : A ∧ B := f h

set_option maxHeartbeats 4000000 in
theorem symMerge_spec (g n cap : Nat) (hn2 : n ≤ 1000000) : ∀ (μ a m b : Nat) (P A B Q : List Cl) (w : World) (S : FP), μ = b - a → (P ++ A ++ B ++ Q).length = n → P.length = a → a + A.length = m → m + B.length = b → 0 < A.length → 0 < B.length → Srt A → Srt B → Sep [own (some ⟨g, 0, none⟩) cap 41 9 encCl (P ++ A ++ B ++ Q)] w S → (∀ b, S b → b < w.heap.size) →
    Trip Tryd.prog 53 #[.slice (some ⟨g, 0, none⟩) n cap, .int .i64 a, .int .i64 m, .int .i64 b, .func (.func 31) #[] #[]] w S fun v L => v = .tuple #[] ∧ ∃ R, Stab R (A ++ B) ∧ L = [own (some ⟨g, 0, none⟩) cap 41 9 encCl (P ++ R ++ Q)] := by
  intro μ
  induction μ using Nat.strongRecOn with
  | _ μ ih =>
  intro a m b P A B Q w S hμ hn ha hm hb hA hB hsA hsB hS hd
  have hnn : P.length + A.length + B.length + Q.length = n := by simpa [Nat.add_assoc] using hn
  have getA : ∀ i, i < A.length → (P ++ A ++ B ++ Q)[a + i]? = A[i]? := fun i hi => by
    rw [List.append_assoc, List.append_assoc, List.getElem?_append_right (by omega), List.getElem?_append_left (by omega), ha]
    congr 1; omega
  have getB : ∀ i, i < B.length → (P ++ A ++ B ++ Q)[m + i]? = B[i]? := fun i hi => by
    rw [List.append_assoc, List.append_assoc, List.getElem?_append_right (by omega), List.getElem?_append_right (by omega), List.getElem?_append_left (by omega)]
    congr 1; omega
  have half : ∀ s : Nat, s ≤ 2000000 → (IntKind.u64.wrap (s : Int) = s) ∧ ((s : Int) = IntKind.i64.wrap s) := fun s hs => ⟨wrap_u64 (by omega), wrap_i64 (by omega) (by omega)⟩
  refine Trip.of_x (L := [own (some ⟨g, 0, none⟩) cap 41 9 encCl (P ++ A ++ B ++ Q)]) Tryd.func53 (by kernel_rfl) rfl Tryd.ntmps53 Tryd.results53 rfl (ctx_ok _) hS hd ?_
  refine ⟨(A.length : Int), by rw [show ((m : Int) - a) = (A.length : Int) by omega]; exact wrap_i64 (by omega) (by omega), ?_⟩
  refine ⟨fun h => ?_, fun h => ?_⟩
  · have hA1 : A.length = 1 := by
      have : (A.length : Int) = 1 := of_decide_eq_true h
      omega
    obtain ⟨x, rfl⟩ : ∃ x, A = [x] := by
      cases A with
      | nil => simp at hA
      | cons x A => cases A with
        | nil => exact ⟨x, rfl⟩
        | cons _ _ => simp at hA1
    have hm1 : m = a + 1 := by simp at hm; omega
    refine loopI (σ := Nat × Nat) (fun s => [(0, .slice (some ⟨g, 0, none⟩) n cap), (1, .int .i64 a), (4, .func (.func 31) #[] #[]), (10, .int .i64 ((m + s.1 : Nat) : Int)), (11, .int .i64 ((m + s.2 : Nat) : Int))]) (fun _ => [own (some ⟨g, 0, none⟩) cap 41 9 encCl (P ++ [x] ++ B ++ Q)])
      (fun s => s.1 ≤ s.2 ∧ s.2 ≤ B.length ∧ (s.1 = 0 ∨ ∃ y, B[s.1 - 1]? = some y ∧ y.en < x.en) ∧ (B.length ≤ s.2 ∨ ∃ y, B[s.2]? = some y ∧ x.en ≤ y.en)) (fun s => s.2 - s.1) (0, B.length)
      ⟨rfl, rfl, rfl, rfl, by show _ = some (Value.int .i64 ((m + B.length : Nat) : Int)); rw [hb]; rfl, trivial⟩ (.refl _) ⟨Nat.zero_le _, Nat.le_refl _, .inl rfl, .inl (Nat.le_refl _)⟩ ?_
    rintro ⟨u, v⟩ ⟨huv, hv, hlo, hhi⟩
    have huv : u ≤ v := huv
    have hv : v ≤ B.length := hv
    have hlo : u = 0 ∨ ∃ y, B[u - 1]? = some y ∧ y.en < x.en := hlo
    have hhi : B.length ≤ v ∨ ∃ y, B[v]? = some y ∧ x.en ≤ y.en := hhi
    refine ⟨fun hlt => ?_, fun hge => ?_⟩
    · have hlt : u < v := by
        have : ((m + u : Nat) : Int) < ((m + v : Nat) : Int) := of_decide_eq_true hlt
        omega
      have hh : (m + u + (m + v)) / 2 = m + (u + v) / 2 := by omega
      obtain ⟨y, hy⟩ : ∃ y, B[(u + v) / 2]? = some y := ⟨B[(u + v) / 2]'(by omega), by simp [show (u + v) / 2 < B.length by omega]⟩
      refine ⟨((m + u + (m + v) : Nat) : Int), by rw [show (((m + u : Nat) : Int) + ((m + v : Nat) : Int)) = ((m + u + (m + v) : Nat) : Int) by omega]; exact (half _ (by omega)).2, ?_⟩
      refine ⟨((m + u + (m + v) : Nat) : Int), (half _ (by omega)).1.symm, ?_⟩
      refine ⟨by decide, (((m + u + (m + v)) / 2 : Nat) : Int), half_eq _, ?_⟩
      refine ⟨((m + (u + v) / 2 : Nat) : Int), by rw [hh]; exact (half _ (by omega)).2, ?_⟩
      refine Or.inl ⟨by kernel_rfl, ?_⟩
      refine ⟨m + (u + v) / 2, rfl, by omega, ?_⟩
      refine ⟨_, ldOA 0 (m + (u + v) / 2) rfl (fun _ _ => rfl) ((getB _ (by omega)).trans hy) rfl rfl rfl (by show 0 + (m + (u + v) / 2) * 9 = _; omega), ?_⟩
      refine ⟨a, rfl, by omega, ?_⟩
      refine ⟨_, ldOA 0 a rfl (fun _ _ => rfl) (getA 0 (by simp)) rfl rfl rfl (by show 0 + a * 9 = _; omega), ?_⟩
      refine callQ [] (fun w S hR hB hS hd => cmpEnd_spec y x w S hd) ?_
      have hcmp : cmpZ y.en x.en < 0 ↔ y.en < x.en := cmpZ_lt
      refine ⟨fun hc => ?_, fun hc => ?_⟩
      · have hc : y.en < x.en := hcmp.1 (of_decide_eq_true hc)
        refine ⟨((m + ((u + v) / 2 + 1) : Nat) : Int), by rw [show (((m + (u + v) / 2 : Nat) : Int) + 1) = ((m + ((u + v) / 2 + 1) : Nat) : Int) by omega]; exact (half _ (by omega)).2, ?_⟩
        exact backI ((u + v) / 2 + 1, v) (by show v - ((u + v) / 2 + 1) < v - u; omega) ⟨by show (u + v) / 2 + 1 ≤ v; omega, hv, .inr ⟨y, by show B[(u + v) / 2 + 1 - 1]? = _; rw [Nat.add_sub_cancel]; exact hy, hc⟩, hhi⟩ ⟨rfl, rfl, rfl, rfl, rfl, trivial⟩ (.refl _)
      · have hc : ¬ y.en < x.en := fun h => of_decide_eq_false hc (hcmp.2 h)
        exact backI (u, (u + v) / 2) (by show (u + v) / 2 - u < v - u; omega) ⟨by show u ≤ (u + v) / 2; omega, by show (u + v) / 2 ≤ B.length; omega, hlo, .inr ⟨y, hy, by omega⟩⟩ ⟨rfl, rfl, rfl, rfl, rfl, trivial⟩ (.refl _)
    · have huv' : u = v := by
        have : ¬ ((m + u : Nat) : Int) < ((m + v : Nat) : Int) := of_decide_eq_false hge
        omega
      subst huv'
      clear hge
      have hl1 : ∀ t, t ≤ u → (P ++ B.take t).length = a + t := fun t ht => by simp; omega
      refine loopI (σ := Nat) (fun t => [(0, .slice (some ⟨g, 0, none⟩) n cap), (10, .int .i64 ((m + u : Nat) : Int)), (13, .int .i64 ((a + t : Nat) : Int))]) (fun t => [own (some ⟨g, 0, none⟩) cap 41 9 encCl (P ++ B.take t ++ x :: (B.drop t ++ Q))]) (fun t => t ≤ u) (fun t => u - t) 0
        ⟨rfl, rfl, rfl, trivial⟩ (by simp only [List.take_zero, List.append_nil, List.drop_zero, List.append_assoc]; exact .refl _) (Nat.zero_le _) ?_
      rintro t ht
      have ht : t ≤ u := ht
      refine ⟨((a + u : Nat) : Int), by rw [show (((m + u : Nat) : Int) - 1) = ((a + u : Nat) : Int) by omega]; exact (half _ (by omega)).2, ?_⟩
      refine ⟨fun hlt => ?_, fun hge => ?_⟩
      · have htu : t < u := by
          have : ((a + t : Nat) : Int) < ((a + u : Nat) : Int) := of_decide_eq_true hlt
          omega
        obtain ⟨y, hy⟩ : ∃ y, B[t]? = some y := ⟨B[t]'(by omega), by simp [show t < B.length by omega]⟩
        obtain ⟨e1, e2⟩ := over_take hy
        have hz : P ++ B.take t ++ x :: (B.drop t ++ Q) = (P ++ B.take t) ++ x :: y :: (B.drop (t + 1) ++ Q) := by rw [e1]; rfl
        have hz' : P ++ B.take (t + 1) ++ x :: (B.drop (t + 1) ++ Q) = (P ++ B.take t) ++ y :: x :: (B.drop (t + 1) ++ Q) := by rw [e2]; simp
        have hlt' := hl1 t (by omega)
        obtain ⟨q1, q2⟩ := get_at (P ++ B.take t) (B.drop (t + 1) ++ Q) x y
        have q3 := sw_adj (P ++ B.take t) (B.drop (t + 1) ++ Q) x y
        have hzl : ((P ++ B.take t) ++ x :: y :: (B.drop (t + 1) ++ Q)).length = n := by simp; omega
        rw [hlt'] at q1 q2 q3
        rw [← hz', ← hz] at q3
        rw [← hz] at q1 q2 hzl
        have hK : ((a + t + 1 : Nat) : Int) = IntKind.i64.wrap (((a + t : Nat) : Int) + 1) := by rw [show (((a + t : Nat) : Int) + 1) = ((a + t + 1 : Nat) : Int) by omega]; exact (half _ (by omega)).2
        refine Or.inr (Or.inr (drawT [[],[],[],[],[3],[],[],[6],[5,7],[8],[],[],[10,11],[12],[0,1,0,1,5,6,7,8,9,13],[14,9,0,1,5,6,7,8,9,13],[2,4,0,1,2,3,4,5,6,7,8,9,10,11,12,13,14,15],[16,13,15,0,1,2,3,4,5,6,7,8,9,10,11,12,13,14,15]] [0,1,2,3,4,5,6,7,8,10,11,12,14,16] (by kernel_rfl) ?_))
        refine ⟨_, hK, ?_⟩
        refine ⟨_, hK, ?_⟩
        refine ⟨a + t + 1, rfl, by omega, ?_⟩
        refine ⟨a + t, rfl, by omega, ?_⟩
        refine ⟨?_, ?_, trivial⟩
        · refine ⟨_, ldOA 0 (a + t + 1) rfl (fun _ _ => rfl) q2 rfl rfl rfl (by show 0 + (a + t + 1) * 9 = _; omega), ?_⟩
          refine ⟨_, ldOA 0 (a + t) rfl (fun _ _ => rfl) q1 rfl rfl rfl (by show 0 + (a + t) * 9 = _; omega), ?_⟩
          refine ⟨a + t, rfl, by omega, ?_⟩
          refine stO 0 (a + t) y rfl (fun _ _ => rfl) rfl (by rw [hzl]; omega) rfl rfl rfl rfl (by show 0 + (a + t) * 9 = _; omega) ?_
          refine ⟨a + t + 1, rfl, by omega, ?_⟩
          refine stO 0 (a + t + 1) x rfl (fun _ _ => rfl) rfl (by rw [List.length_set, hzl]; omega) rfl rfl rfl rfl (by show 0 + (a + t + 1) * 9 = _; omega) ?_
          refine ⟨((a + (t + 1) : Nat) : Int), by rw [show (((a + t : Nat) : Int) + 1) = ((a + (t + 1) : Nat) : Int) by omega]; exact (half _ (by omega)).2, ?_⟩
          exact backI (t + 1) (by omega) (by show t + 1 ≤ u; omega) ⟨rfl, rfl, rfl, trivial⟩ (by rw [← q3]; exact .refl _)
        · refine ⟨_, ldOA 0 (a + t) rfl (fun _ _ => rfl) q1 rfl rfl rfl (by show 0 + (a + t) * 9 = _; omega), ?_⟩
          refine ⟨_, ldOA 0 (a + t + 1) rfl (fun _ _ => rfl) q2 rfl rfl rfl (by show 0 + (a + t + 1) * 9 = _; omega), ?_⟩
          refine ⟨a + t, rfl, by omega, ?_⟩
          refine stO 0 (a + t) y rfl (fun _ _ => rfl) rfl (by rw [hzl]; omega) rfl rfl rfl rfl (by show 0 + (a + t) * 9 = _; omega) ?_
          refine ⟨a + t + 1, rfl, by omega, ?_⟩
          refine stO 0 (a + t + 1) x rfl (fun _ _ => rfl) rfl (by rw [List.length_set, hzl]; omega) rfl rfl rfl rfl (by show 0 + (a + t + 1) * 9 = _; omega) ?_
          refine ⟨((a + (t + 1) : Nat) : Int), by rw [show (((a + t : Nat) : Int) + 1) = ((a + (t + 1) : Nat) : Int) by omega]; exact (half _ (by omega)).2, ?_⟩
          exact backI (t + 1) (by omega) (by show t + 1 ≤ u; omega) ⟨rfl, rfl, rfl, trivial⟩ (by rw [← q3]; exact .refl _)
      · have htu : t = u := by
          have : ¬ ((a + t : Nat) : Int) < ((a + u : Nat) : Int) := of_decide_eq_false hge
          omega
        subst htu
        refine ⟨_, .refl _, rfl, B.take t ++ x :: B.drop t, ?_, by simp⟩
        have hlo' := srt_lo hsB hlo
        have hhi' := srt_hi hsB hhi
        have := Stab.merge (A1 := []) (A2 := [x]) (B1 := B.take t) (B2 := B.drop t) (R1 := B.take t) (R2 := x :: B.drop t) (by simpa using hsA) (by rw [List.take_append_drop]; exact hsB) (fun _ h => by cases h) (fun y hy z hz => by rw [List.mem_singleton] at hz; subst hz; exact hlo' y hy) (Stab.refl (hsB.take t)) (Stab.refl (List.pairwise_cons.2 ⟨hhi', hsB.drop t⟩))
        rwa [List.take_append_drop, List.nil_append] at this
  have hA2 : 2 ≤ A.length := by
    have : ¬ (A.length : Int) = 1 := of_decide_eq_false h
    omega
  refine ⟨(B.length : Int), by rw [show ((b : Int) - m) = (B.length : Int) by omega]; exact wrap_i64 (by omega) (by omega), ?_⟩
  refine ⟨fun h => ?_, fun h => ?_⟩
  · have hB1 : B.length = 1 := by
      have : (B.length : Int) = 1 := of_decide_eq_true h
      omega
    obtain ⟨y, rfl⟩ : ∃ y, B = [y] := by
      cases B with
      | nil => simp at hB
      | cons y B => cases B with
        | nil => exact ⟨y, rfl⟩
        | cons _ _ => simp at hB1
    refine loopI (σ := Nat × Nat) (fun s => [(0, .slice (some ⟨g, 0, none⟩) n cap), (2, .int .i64 m), (4, .func (.func 31) #[] #[]), (14, .int .i64 ((a + s.1 : Nat) : Int)), (15, .int .i64 ((a + s.2 : Nat) : Int))]) (fun _ => [own (some ⟨g, 0, none⟩) cap 41 9 encCl (P ++ A ++ [y] ++ Q)])
      (fun s => s.1 ≤ s.2 ∧ s.2 ≤ A.length ∧ (s.1 = 0 ∨ ∃ x, A[s.1 - 1]? = some x ∧ x.en < y.en + 1) ∧ (A.length ≤ s.2 ∨ ∃ x, A[s.2]? = some x ∧ y.en + 1 ≤ x.en)) (fun s => s.2 - s.1) (0, A.length)
      ⟨rfl, rfl, rfl, rfl, by show _ = some (Value.int .i64 ((a + A.length : Nat) : Int)); rw [hm]; rfl, trivial⟩ (.refl _) ⟨Nat.zero_le _, Nat.le_refl _, .inl rfl, .inl (Nat.le_refl _)⟩ ?_
    rintro ⟨u, v⟩ ⟨huv, hv, hlo, hhi⟩
    have huv : u ≤ v := huv
    have hv : v ≤ A.length := hv
    have hlo : u = 0 ∨ ∃ x, A[u - 1]? = some x ∧ x.en < y.en + 1 := hlo
    have hhi : A.length ≤ v ∨ ∃ x, A[v]? = some x ∧ y.en + 1 ≤ x.en := hhi
    refine ⟨fun hlt => ?_, fun hge => ?_⟩
    · have hlt : u < v := by
        have : ((a + u : Nat) : Int) < ((a + v : Nat) : Int) := of_decide_eq_true hlt
        omega
      have hh : (a + u + (a + v)) / 2 = a + (u + v) / 2 := by omega
      obtain ⟨x, hx⟩ : ∃ x, A[(u + v) / 2]? = some x := ⟨A[(u + v) / 2]'(by omega), by simp [show (u + v) / 2 < A.length by omega]⟩
      refine ⟨((a + u + (a + v) : Nat) : Int), by rw [show (((a + u : Nat) : Int) + ((a + v : Nat) : Int)) = ((a + u + (a + v) : Nat) : Int) by omega]; exact (half _ (by omega)).2, ?_⟩
      refine ⟨((a + u + (a + v) : Nat) : Int), (half _ (by omega)).1.symm, ?_⟩
      refine ⟨by decide, (((a + u + (a + v)) / 2 : Nat) : Int), half_eq _, ?_⟩
      refine ⟨((a + (u + v) / 2 : Nat) : Int), by rw [hh]; exact (half _ (by omega)).2, ?_⟩
      refine Or.inl ⟨by kernel_rfl, ?_⟩
      refine ⟨m, rfl, by omega, ?_⟩
      refine ⟨_, ldOA 0 m rfl (fun _ _ => rfl) (getB 0 (by simp)) rfl rfl rfl (by show 0 + m * 9 = _; omega), ?_⟩
      refine ⟨a + (u + v) / 2, rfl, by omega, ?_⟩
      refine ⟨_, ldOA 0 (a + (u + v) / 2) rfl (fun _ _ => rfl) ((getA _ (by omega)).trans hx) rfl rfl rfl (by show 0 + (a + (u + v) / 2) * 9 = _; omega), ?_⟩
      refine callQ [] (fun w S hR hB hS hd => cmpEnd_spec y x w S hd) ?_
      have hcmp : cmpZ y.en x.en < 0 ↔ y.en < x.en := cmpZ_lt
      refine ⟨fun hc => ?_, fun hc => ?_⟩
      · have hc : ¬ y.en < x.en := fun h => by rw [decide_eq_true (hcmp.2 h)] at hc; cases hc
        refine ⟨((a + ((u + v) / 2 + 1) : Nat) : Int), by rw [show (((a + (u + v) / 2 : Nat) : Int) + 1) = ((a + ((u + v) / 2 + 1) : Nat) : Int) by omega]; exact (half _ (by omega)).2, ?_⟩
        exact backI ((u + v) / 2 + 1, v) (by show v - ((u + v) / 2 + 1) < v - u; omega) ⟨by show (u + v) / 2 + 1 ≤ v; omega, hv, .inr ⟨x, by show A[(u + v) / 2 + 1 - 1]? = _; rw [Nat.add_sub_cancel]; exact hx, by omega⟩, hhi⟩ ⟨rfl, rfl, rfl, rfl, rfl, trivial⟩ (.refl _)
      · have hc : y.en < x.en := by
          by_cases h : y.en < x.en
          · exact h
          · rw [decide_eq_false fun h' => h (hcmp.1 h')] at hc; cases hc
        exact backI (u, (u + v) / 2) (by show (u + v) / 2 - u < v - u; omega) ⟨by show u ≤ (u + v) / 2; omega, by show (u + v) / 2 ≤ A.length; omega, hlo, .inr ⟨x, hx, by omega⟩⟩ ⟨rfl, rfl, rfl, rfl, rfl, trivial⟩ (.refl _)
    · have huv' : u = v := by
        have : ¬ ((a + u : Nat) : Int) < ((a + v : Nat) : Int) := of_decide_eq_false hge
        omega
      subst huv'
      clear hge
      refine loopI (σ := Nat) (fun t => [(0, .slice (some ⟨g, 0, none⟩) n cap), (14, .int .i64 ((a + u : Nat) : Int)), (17, .int .i64 ((a + t : Nat) : Int))]) (fun t => [own (some ⟨g, 0, none⟩) cap 41 9 encCl (P ++ A.take t ++ y :: (A.drop t ++ Q))]) (fun t => u ≤ t ∧ t ≤ A.length) (fun t => t) A.length
        ⟨rfl, rfl, by show _ = some (Value.int .i64 ((a + A.length : Nat) : Int)); rw [hm]; rfl, trivial⟩ (by rw [List.take_of_length_le (Nat.le_refl _), List.drop_of_length_le (Nat.le_refl _)]; simp only [List.append_assoc, List.nil_append, List.singleton_append]; exact .refl _) ⟨hv, Nat.le_refl _⟩ ?_
      rintro t ⟨ht, ht2⟩
      refine ⟨fun hgt => ?_, fun hle => ?_⟩
      · have htu : u < t := by
          have : ((a + t : Nat) : Int) > ((a + u : Nat) : Int) := of_decide_eq_true hgt
          omega
        obtain ⟨t, rfl⟩ : ∃ t', t = t' + 1 := ⟨t - 1, by omega⟩
        obtain ⟨x, hx⟩ : ∃ x, A[t]? = some x := ⟨A[t]'(by omega), by simp [show t < A.length by omega]⟩
        obtain ⟨e1, e2⟩ := over_take hx
        have hz : P ++ A.take (t + 1) ++ y :: (A.drop (t + 1) ++ Q) = (P ++ A.take t) ++ x :: y :: (A.drop (t + 1) ++ Q) := by rw [e2]; simp
        have hz' : P ++ A.take t ++ y :: (A.drop t ++ Q) = (P ++ A.take t) ++ y :: x :: (A.drop (t + 1) ++ Q) := by rw [e1]; rfl
        have hlt' : (P ++ A.take t).length = a + t := by simp; omega
        obtain ⟨q1, q2⟩ := get_at (P ++ A.take t) (A.drop (t + 1) ++ Q) x y
        have q3 := sw_adj' (P ++ A.take t) (A.drop (t + 1) ++ Q) x y
        have hzl : ((P ++ A.take t) ++ x :: y :: (A.drop (t + 1) ++ Q)).length = n := by simp at hnn ⊢; omega
        rw [hlt'] at q1 q2 q3
        rw [← hz', ← hz] at q3
        rw [← hz] at q1 q2 hzl
        have hK : ((a + t : Nat) : Int) = IntKind.i64.wrap (((a + (t + 1) : Nat) : Int) - 1) := by rw [show (((a + (t + 1) : Nat) : Int) - 1) = ((a + t : Nat) : Int) by omega]; exact (half _ (by omega)).2
        refine Or.inr (Or.inr (drawT [[],[],[],[],[3],[],[],[6],[5,7],[8],[],[],[10,11],[12],[0,1,0,1,5,6,7,8,9,13],[14,9,0,1,5,6,7,8,9,13],[2,4,0,1,2,3,4,5,6,7,8,9,10,11,12,13,14,15],[16,13,15,0,1,2,3,4,5,6,7,8,9,10,11,12,13,14,15]] [0,1,2,3,4,5,6,7,8,10,11,12,14,16] (by kernel_rfl) ?_))
        refine ⟨_, hK, ?_⟩
        refine ⟨_, hK, ?_⟩
        refine ⟨a + t, rfl, by omega, ?_⟩
        refine ⟨a + t + 1, rfl, by omega, ?_⟩
        refine ⟨?_, ?_, trivial⟩
        · refine ⟨_, ldOA 0 (a + t) rfl (fun _ _ => rfl) q1 rfl rfl rfl (by show 0 + (a + t) * 9 = _; omega), ?_⟩
          refine ⟨_, ldOA 0 (a + t + 1) rfl (fun _ _ => rfl) q2 rfl rfl rfl (by show 0 + (a + t + 1) * 9 = _; omega), ?_⟩
          refine ⟨a + t + 1, rfl, by omega, ?_⟩
          refine stO 0 (a + t + 1) x rfl (fun _ _ => rfl) rfl (by rw [hzl]; omega) rfl rfl rfl rfl (by show 0 + (a + t + 1) * 9 = _; omega) ?_
          refine ⟨a + t, rfl, by omega, ?_⟩
          refine stO 0 (a + t) y rfl (fun _ _ => rfl) rfl (by rw [List.length_set, hzl]; omega) rfl rfl rfl rfl (by show 0 + (a + t) * 9 = _; omega) ?_
          refine ⟨_, hK, ?_⟩
          exact backI t (by omega) ⟨by omega, by omega⟩ ⟨rfl, rfl, rfl, trivial⟩ (by rw [← q3]; exact .refl _)
        · refine ⟨_, ldOA 0 (a + t + 1) rfl (fun _ _ => rfl) q2 rfl rfl rfl (by show 0 + (a + t + 1) * 9 = _; omega), ?_⟩
          refine ⟨_, ldOA 0 (a + t) rfl (fun _ _ => rfl) q1 rfl rfl rfl (by show 0 + (a + t) * 9 = _; omega), ?_⟩
          refine ⟨a + t + 1, rfl, by omega, ?_⟩
          refine stO 0 (a + t + 1) x rfl (fun _ _ => rfl) rfl (by rw [hzl]; omega) rfl rfl rfl rfl (by show 0 + (a + t + 1) * 9 = _; omega) ?_
          refine ⟨a + t, rfl, by omega, ?_⟩
          refine stO 0 (a + t) y rfl (fun _ _ => rfl) rfl (by rw [List.length_set, hzl]; omega) rfl rfl rfl rfl (by show 0 + (a + t) * 9 = _; omega) ?_
          refine ⟨_, hK, ?_⟩
          exact backI t (by omega) ⟨by omega, by omega⟩ ⟨rfl, rfl, rfl, trivial⟩ (by rw [← q3]; exact .refl _)
      · have htu : t = u := by
          have : ¬ ((a + t : Nat) : Int) > ((a + u : Nat) : Int) := of_decide_eq_false hle
          omega
        subst htu
        refine ⟨_, .refl _, rfl, (A.take t ++ [y]) ++ A.drop t, ?_, by simp⟩
        have hlo' := srt_lo hsA hlo
        have hhi' := srt_hi hsA hhi
        have := Stab.merge (A1 := A.take t) (A2 := A.drop t) (B1 := [y]) (B2 := []) (R1 := A.take t ++ [y]) (R2 := A.drop t) (by rw [List.take_append_drop]; exact hsA) (by simpa using hsB) (fun _ _ _ h => by cases h) (fun z hz x hx => by rw [List.mem_singleton] at hz; subst hz; have := hhi' x hx; omega) (Stab.refl (List.pairwise_append.2 ⟨hsA.take t, by simp, fun z hz q hq => by rw [List.mem_singleton] at hq; subst hq; have := hlo' z hz; omega⟩)) (by rw [List.append_nil]; exact Stab.refl (hsA.drop t))
        rwa [List.take_append_drop, List.append_nil] at this
  have hB2 : 2 ≤ B.length := by
    have : ¬ (B.length : Int) = 1 := of_decide_eq_false h
    omega
  clear h
  have hmidb : (a + b) / 2 < b := by omega
  have hmida : a < (a + b) / 2 := by omega
  generalize hmid : (a + b) / 2 = mid at hmidb hmida
  have hmid2 : 2 * mid ≤ a + b ∧ a + b ≤ 2 * mid + 1 := by omega
  refine ⟨((a + b : Nat) : Int), by rw [show ((a : Int) + (b : Int)) = ((a + b : Nat) : Int) by omega]; exact (half _ (by omega)).2, ?_⟩
  refine ⟨((a + b : Nat) : Int), (half _ (by omega)).1.symm, ?_⟩
  refine ⟨by decide, (((a + b) / 2 : Nat) : Int), half_eq _, ?_⟩
  refine ⟨(mid : Int), by rw [hmid]; exact (half _ (by omega)).2, ?_⟩
  refine ⟨((mid + m : Nat) : Int), by rw [show ((mid : Int) + (m : Int)) = ((mid + m : Nat) : Int) by omega]; exact (half _ (by omega)).2, ?_⟩
  -- what the search for the cut goes round with
  let lo : Nat → Prop := fun t => t = a ∨ mid + m = t + b ∨ ∃ x y, A[t - 1 - a]? = some x ∧ B[mid + m - t - m]? = some y ∧ x.en ≤ y.en
  let hi : Nat → Prop := fun t => t = m ∨ t = mid ∨ ∃ x y, A[t - a]? = some x ∧ B[mid + m - 1 - t - m]? = some y ∧ y.en < x.en
  -- what follows from a cut
  have cut : ∀ s, a ≤ s → mid + m ≤ s + b → s ≤ m → s ≤ mid → lo s → hi s → (∀ x ∈ A.take (s - a), ∀ y ∈ B.drop (mid - s), x.en ≤ y.en) ∧ (∀ y ∈ B.take (mid - s), ∀ x ∈ A.drop (s - a), y.en < x.en) := fun s h1 h2 h3 h4 hlo hhi => by
    constructor
    · intro x hx y hy
      by_cases e1 : s = a
      · subst e1; rw [Nat.sub_self] at hx; simp at hx
      by_cases e2 : mid + m = s + b
      · rw [List.drop_of_length_le (by omega)] at hy; cases hy
      rcases hlo with h | h | ⟨x0, y0, hx0, hy0, hxy⟩
      · exact absurd h e1
      · exact absurd h e2
      · have hx1 := srt_lo hsA (u := s - a) (k := x0.en + 1) (.inr ⟨x0, by rw [show s - a - 1 = s - 1 - a by omega]; exact hx0, by omega⟩) x hx
        have hy1 := srt_hi hsB (u := mid - s) (k := y0.en) (.inr ⟨y0, by rw [show mid - s = mid + m - s - m by omega]; exact hy0, by omega⟩) y hy
        omega
    · intro y hy x hx
      by_cases e1 : s = m
      · rw [List.drop_of_length_le (by omega)] at hx; cases hx
      by_cases e2 : s = mid
      · subst e2; rw [Nat.sub_self] at hy; simp at hy
      rcases hhi with h | h | ⟨x0, y0, hx0, hy0, hxy⟩
      · exact absurd h e1
      · exact absurd h e2
      · have hx1 := srt_hi hsA (u := s - a) (k := x0.en) (.inr ⟨x0, hx0, by omega⟩) x hx
        have hy1 := srt_lo hsB (u := mid - s) (k := x0.en) (.inr ⟨y0, by rw [show mid - s - 1 = mid + m - 1 - s - m by omega]; exact hy0, hxy⟩) y hy
        omega
  have fin : ∀ s, a ≤ s → mid + m ≤ s + b → s ≤ m → s ≤ mid → lo s → hi s → ∀ R1 R2, Stab R1 (A.take (s - a) ++ B.take (mid - s)) → Stab R2 (A.drop (s - a) ++ B.drop (mid - s)) → Stab (R1 ++ R2) (A ++ B) := fun s h1 h2 h3 h4 hlo hhi R1 R2 hR1 hR2 => by
    obtain ⟨c1, c2⟩ := cut s h1 h2 h3 h4 hlo hhi
    have := Stab.merge (A1 := A.take (s - a)) (A2 := A.drop (s - a)) (B1 := B.take (mid - s)) (B2 := B.drop (mid - s)) (by rw [List.take_append_drop]; exact hsA) (by rw [List.take_append_drop]; exact hsB) c1 c2 hR1 hR2
    rwa [List.take_append_drop, List.take_append_drop] at this
  refine ⟨fun h => ?_, fun h => ?_⟩
  · have h : mid < m := by
      have : (m : Int) > (mid : Int) := of_decide_eq_true h
      omega
    refine ⟨((mid + m - b : Nat) : Int), by rw [show (((mid + m : Nat) : Int) - (b : Int)) = ((mid + m - b : Nat) : Int) by omega]; exact (half _ (by omega)).2, ?_⟩
    refine ⟨((mid + m - 1 : Nat) : Int), by rw [show (((mid + m : Nat) : Int) - 1) = ((mid + m - 1 : Nat) : Int) by omega]; exact (half _ (by omega)).2, ?_⟩
    refine loopI (σ := Nat × Nat) (fun s => [(0, .slice (some ⟨g, 0, none⟩) n cap), (1, .int .i64 a), (2, .int .i64 m), (3, .int .i64 b), (4, .func (.func 31) #[] #[]), (18, .int .i64 mid), (19, .int .i64 ((mid + m : Nat) : Int)), (20, .int .i64 s.1), (21, .int .i64 s.2), (22, .int .i64 ((mid + m - 1 : Nat) : Int))]) (fun _ => [own (some ⟨g, 0, none⟩) cap 41 9 encCl (P ++ A ++ B ++ Q)])
      (fun s => a ≤ s.1 ∧ mid + m ≤ s.1 + b ∧ s.1 ≤ s.2 ∧ s.2 ≤ m ∧ s.2 ≤ mid ∧ lo s.1 ∧ hi s.2) (fun s => s.2 - s.1) (mid + m - b, mid)
      ⟨rfl, rfl, rfl, rfl, rfl, rfl, rfl, rfl, rfl, rfl, trivial⟩ (.refl _) ⟨by show a ≤ mid + m - b; omega, by show mid + m ≤ mid + m - b + b; omega, by show mid + m - b ≤ mid; omega, by show mid ≤ m; omega, Nat.le_refl _, .inr (.inl (by show mid + m = mid + m - b + b; omega)), .inr (.inl rfl)⟩ ?_
    rintro ⟨s, r⟩ hinv
    change (a ≤ s ∧ mid + m ≤ s + b ∧ s ≤ r ∧ r ≤ m ∧ r ≤ mid ∧ lo s ∧ hi r) at hinv
    obtain ⟨i1, i2, i3, i4, i5, i6, i7⟩ := hinv
    refine ⟨fun hlt => ?_, fun hge => ?_⟩
    · have hsr : s < r := by
        have : (s : Int) < (r : Int) := of_decide_eq_true hlt
        omega
      generalize hc : (s + r) / 2 = c
      have hc1 : s ≤ c ∧ c < r := by omega
      obtain ⟨x, hx⟩ : ∃ x, A[c - a]? = some x := ⟨A[c - a]'(by omega), by simp [show c - a < A.length by omega]⟩
      obtain ⟨y, hy⟩ : ∃ y, B[mid + m - 1 - c - m]? = some y := ⟨B[mid + m - 1 - c - m]'(by omega), by simp [show mid + m - 1 - c - m < B.length by omega]⟩
      have hxc := getA (c - a) (by omega)
      rw [show a + (c - a) = c by omega, hx] at hxc
      have hyc := getB (mid + m - 1 - c - m) (by omega)
      rw [show m + (mid + m - 1 - c - m) = mid + m - 1 - c by omega, hy] at hyc
      refine ⟨((s + r : Nat) : Int), by rw [show ((s : Int) + (r : Int)) = ((s + r : Nat) : Int) by omega]; exact (half _ (by omega)).2, ?_⟩
      refine ⟨((s + r : Nat) : Int), (half _ (by omega)).1.symm, ?_⟩
      refine ⟨by decide, (((s + r) / 2 : Nat) : Int), half_eq _, ?_⟩
      refine ⟨(c : Int), by rw [hc]; exact (half _ (by omega)).2, ?_⟩
      refine Or.inl ⟨by kernel_rfl, ?_⟩
      refine ⟨((mid + m - 1 - c : Nat) : Int), by rw [show (((mid + m - 1 : Nat) : Int) - (c : Int)) = ((mid + m - 1 - c : Nat) : Int) by omega]; exact (half _ (by omega)).2, ?_⟩
      refine ⟨mid + m - 1 - c, rfl, by omega, ?_⟩
      refine ⟨_, ldOA 0 (mid + m - 1 - c) rfl (fun _ _ => rfl) hyc rfl rfl rfl (by show 0 + (mid + m - 1 - c) * 9 = _; omega), ?_⟩
      refine ⟨c, rfl, by omega, ?_⟩
      refine ⟨_, ldOA 0 c rfl (fun _ _ => rfl) hxc rfl rfl rfl (by show 0 + c * 9 = _; omega), ?_⟩
      refine callQ [] (fun w S hR hB hS hd => cmpEnd_spec y x w S hd) ?_
      have hcmp : cmpZ y.en x.en < 0 ↔ y.en < x.en := cmpZ_lt
      refine ⟨fun hq => ?_, fun hq => ?_⟩
      · have hq : ¬ y.en < x.en := fun h => by rw [decide_eq_true (hcmp.2 h)] at hq; cases hq
        refine ⟨((c + 1 : Nat) : Int), by rw [show ((c : Int) + 1) = ((c + 1 : Nat) : Int) by omega]; exact (half _ (by omega)).2, ?_⟩
        exact backI (c + 1, r) (by show r - (c + 1) < r - s; omega) ⟨by show a ≤ c + 1; omega, by show mid + m ≤ c + 1 + b; omega, by show c + 1 ≤ r; omega, i4, i5, .inr (.inr ⟨x, y, by show A[c + 1 - 1 - a]? = _; rw [Nat.add_sub_cancel]; exact hx, by show B[mid + m - (c + 1) - m]? = _; rw [show mid + m - (c + 1) - m = mid + m - 1 - c - m by omega]; exact hy, by omega⟩), i7⟩ ⟨rfl, rfl, rfl, rfl, rfl, rfl, rfl, rfl, rfl, rfl, trivial⟩ (.refl _)
      · have hq : y.en < x.en := by
          by_cases h : y.en < x.en
          · exact h
          · rw [decide_eq_false fun h' => h (hcmp.1 h')] at hq; cases hq
        exact backI (s, c) (by show c - s < r - s; omega) ⟨i1, i2, by show s ≤ c; omega, by show c ≤ m; omega, by show c ≤ mid; omega, i6, .inr (.inr ⟨x, y, hx, hy, hq⟩)⟩ ⟨rfl, rfl, rfl, rfl, rfl, rfl, rfl, rfl, rfl, rfl, trivial⟩ (.refl _)
    have hsr : s = r := by
      have : ¬ (s : Int) < (r : Int) := of_decide_eq_false hge
      omega
    subst hsr
    clear hge
    have fin' := fin s i1 i2 i4 i5 i6 i7
    clear i6 i7 fin cut
    have l1 : (A.take (s - a)).length = s - a := by simp; omega
    have l2 : (A.drop (s - a)).length = m - s := by simp; omega
    have l3 : (B.take (mid - s)).length = mid - s := by simp; omega
    have l4 : (B.drop (mid - s)).length = b - (mid + m - s) := by simp; omega
    have sA1 : Srt (A.take (s - a)) := hsA.take _
    have sA2 : Srt (A.drop (s - a)) := hsA.drop _
    have sB1 : Srt (B.take (mid - s)) := hsB.take _
    have sB2 : Srt (B.drop (mid - s)) := hsB.drop _
    have eA : A = A.take (s - a) ++ A.drop (s - a) := (List.take_append_drop _ _).symm
    have eB : B = B.take (mid - s) ++ B.drop (mid - s) := (List.take_append_drop _ _).symm
    generalize A.take (s - a) = A1 at *
    generalize A.drop (s - a) = A2 at *
    generalize B.take (mid - s) = B1 at *
    generalize B.drop (mid - s) = B2 at *
    refine ⟨((mid + m - s : Nat) : Int), by rw [show (((mid + m : Nat) : Int) - (s : Int)) = ((mid + m - s : Nat) : Int) by omega]; exact (half _ (by omega)).2, ?_⟩
    have e0 : P ++ A ++ B ++ Q = (P ++ A1) ++ A2 ++ B1 ++ (B2 ++ Q) := by rw [eA, eB]; simp only [List.append_assoc]
    have hNlen : (P ++ A1 ++ A2 ++ B1 ++ (B2 ++ Q)).length = n := by rw [← e0]; exact hn
    rw [e0]
    have e1 : P ++ A1 ++ B1 ++ A2 ++ (B2 ++ Q) = P ++ A1 ++ B1 ++ (A2 ++ B2 ++ Q) := by simp only [List.append_assoc]
    refine ⟨fun h1 => ?_, fun h1 => ?_⟩
    · have h1 : (s : Int) < (m : Int) := of_decide_eq_true h1
      refine ⟨fun h1' => ?_, fun h1' => ?_⟩
      · have h1' : (m : Int) < ((mid + m - s : Nat) : Int) := of_decide_eq_true h1'
        refine callP [0] (fun w S hR hB hS hd => rotate_spec (.func (.func 31) #[] #[]) g n cap s m (mid + m - s) (P ++ A1) A2 B1 (B2 ++ Q) hNlen (by simp; omega) (by omega) (by omega) (by omega) (by omega) hn2 w S hS hd) ?_
        rintro _ _ ⟨rfl, rfl⟩
        rw [e1]
        refine ⟨fun h2 => ?_, fun h2 => ?_⟩
        · have h2 : (a : Int) < (s : Int) := of_decide_eq_true h2
          refine ⟨fun h3 => ?_, fun h3 => ?_⟩
          · have h3 : (s : Int) < (mid : Int) := of_decide_eq_true h3
            refine callP [0] (fun w S hR hB hS hd => ih (mid - a) (by omega) a s mid P A1 B1 (A2 ++ B2 ++ Q) w S rfl (by simp at hNlen ⊢; omega) ha (by omega) (by omega) (by omega) (by omega) sA1 sB1 hS hd) ?_
            rintro _ _ ⟨rfl, R1, hR1, rfl⟩
            refine ⟨fun h2 => ?_, fun h2 => ?_⟩
            · have h2 : (mid : Int) < ((mid + m - s : Nat) : Int) := of_decide_eq_true h2
              refine ⟨fun h3 => ?_, fun h3 => ?_⟩
              · have h3 : ((mid + m - s : Nat) : Int) < (b : Int) := of_decide_eq_true h3
                have hl1 := (hR1).len
                have hch : P ++ R1 ++ (A2 ++ B2 ++ Q) = (P ++ R1) ++ A2 ++ B2 ++ Q := by simp only [List.append_assoc]
                rw [hch]
                refine callP [0] (fun w S hR hB hS hd => ih (b - mid) (by omega) mid (mid + m - s) b (P ++ R1) A2 B2 Q w S rfl (by simp at hl1 hNlen ⊢; omega) (by simp at hl1 ⊢; omega) (by omega) (by omega) (by omega) (by omega) sA2 sB2 hS hd) ?_
                rintro _ _ ⟨rfl, R2, hR2, rfl⟩
                exact ⟨_, .refl _, rfl, R1 ++ R2, fin' _ _ (hR1) hR2, by (simp only [List.append_assoc]) <;> rfl⟩
              · have h3 : ¬ ((mid + m - s : Nat) : Int) < (b : Int) := of_decide_eq_false h3
                have hB2 : B2 = [] := List.eq_nil_of_length_eq_zero (by omega)
                exact ⟨_, .refl _, rfl, R1 ++ (A2 ++ B2), fin' _ _ (hR1) (by rw [hB2, List.append_nil]; exact Stab.refl sA2), by (simp only [List.append_assoc]) <;> rfl⟩
            · have h2 : ¬ (mid : Int) < ((mid + m - s : Nat) : Int) := of_decide_eq_false h2
              have hA2 : A2 = [] := List.eq_nil_of_length_eq_zero (by omega)
              refine ⟨nofun, fun _ => ?_⟩
              exact ⟨_, .refl _, rfl, R1 ++ (A2 ++ B2), fin' _ _ (hR1) (by rw [hA2, List.nil_append]; exact Stab.refl sB2), by (simp only [List.append_assoc]) <;> rfl⟩
          · have h3 : ¬ (s : Int) < (mid : Int) := of_decide_eq_false h3
            have hB1 : B1 = [] := List.eq_nil_of_length_eq_zero (by omega)
            have hR1 : Stab (A1 ++ B1) (A1 ++ B1) := by rw [hB1, List.append_nil]; exact Stab.refl sA1
            rw [show P ++ A1 ++ B1 ++ (A2 ++ B2 ++ Q) = P ++ (A1 ++ B1) ++ (A2 ++ B2 ++ Q) by simp only [List.append_assoc]]
            refine ⟨fun h2 => ?_, fun h2 => ?_⟩
            · have h2 : (mid : Int) < ((mid + m - s : Nat) : Int) := of_decide_eq_true h2
              refine ⟨fun h3 => ?_, fun h3 => ?_⟩
              · have h3 : ((mid + m - s : Nat) : Int) < (b : Int) := of_decide_eq_true h3
                have hl1 := (hR1).len
                have hch : P ++ (A1 ++ B1) ++ (A2 ++ B2 ++ Q) = (P ++ (A1 ++ B1)) ++ A2 ++ B2 ++ Q := by simp only [List.append_assoc]
                rw [hch]
                refine callP [0] (fun w S hR hB hS hd => ih (b - mid) (by omega) mid (mid + m - s) b (P ++ (A1 ++ B1)) A2 B2 Q w S rfl (by simp at hl1 hNlen ⊢; omega) (by simp at hl1 ⊢; omega) (by omega) (by omega) (by omega) (by omega) sA2 sB2 hS hd) ?_
                rintro _ _ ⟨rfl, R2, hR2, rfl⟩
                exact ⟨_, .refl _, rfl, (A1 ++ B1) ++ R2, fin' _ _ (hR1) hR2, by (simp only [List.append_assoc]) <;> rfl⟩
              · have h3 : ¬ ((mid + m - s : Nat) : Int) < (b : Int) := of_decide_eq_false h3
                have hB2 : B2 = [] := List.eq_nil_of_length_eq_zero (by omega)
                exact ⟨_, .refl _, rfl, (A1 ++ B1) ++ (A2 ++ B2), fin' _ _ (hR1) (by rw [hB2, List.append_nil]; exact Stab.refl sA2), by (simp only [List.append_assoc]) <;> rfl⟩
            · have h2 : ¬ (mid : Int) < ((mid + m - s : Nat) : Int) := of_decide_eq_false h2
              have hA2 : A2 = [] := List.eq_nil_of_length_eq_zero (by omega)
              refine ⟨nofun, fun _ => ?_⟩
              exact ⟨_, .refl _, rfl, (A1 ++ B1) ++ (A2 ++ B2), fin' _ _ (hR1) (by rw [hA2, List.nil_append]; exact Stab.refl sB2), by (simp only [List.append_assoc]) <;> rfl⟩
        · have h2 : ¬ (a : Int) < (s : Int) := of_decide_eq_false h2
          have hA1 : A1 = [] := List.eq_nil_of_length_eq_zero (by omega)
          have hR1 : Stab (A1 ++ B1) (A1 ++ B1) := by rw [hA1, List.nil_append]; exact Stab.refl sB1
          rw [show P ++ A1 ++ B1 ++ (A2 ++ B2 ++ Q) = P ++ (A1 ++ B1) ++ (A2 ++ B2 ++ Q) by simp only [List.append_assoc]]
          refine ⟨nofun, fun _ => ?_⟩
          refine ⟨fun h2 => ?_, fun h2 => ?_⟩
          · have h2 : (mid : Int) < ((mid + m - s : Nat) : Int) := of_decide_eq_true h2
            refine ⟨fun h3 => ?_, fun h3 => ?_⟩
            · have h3 : ((mid + m - s : Nat) : Int) < (b : Int) := of_decide_eq_true h3
              have hl1 := (hR1).len
              have hch : P ++ (A1 ++ B1) ++ (A2 ++ B2 ++ Q) = (P ++ (A1 ++ B1)) ++ A2 ++ B2 ++ Q := by simp only [List.append_assoc]
              rw [hch]
              refine callP [0] (fun w S hR hB hS hd => ih (b - mid) (by omega) mid (mid + m - s) b (P ++ (A1 ++ B1)) A2 B2 Q w S rfl (by simp at hl1 hNlen ⊢; omega) (by simp at hl1 ⊢; omega) (by omega) (by omega) (by omega) (by omega) sA2 sB2 hS hd) ?_
              rintro _ _ ⟨rfl, R2, hR2, rfl⟩
              exact ⟨_, .refl _, rfl, (A1 ++ B1) ++ R2, fin' _ _ (hR1) hR2, by (simp only [List.append_assoc]) <;> rfl⟩
            · have h3 : ¬ ((mid + m - s : Nat) : Int) < (b : Int) := of_decide_eq_false h3
              have hB2 : B2 = [] := List.eq_nil_of_length_eq_zero (by omega)
              exact ⟨_, .refl _, rfl, (A1 ++ B1) ++ (A2 ++ B2), fin' _ _ (hR1) (by rw [hB2, List.append_nil]; exact Stab.refl sA2), by (simp only [List.append_assoc]) <;> rfl⟩
          · have h2 : ¬ (mid : Int) < ((mid + m - s : Nat) : Int) := of_decide_eq_false h2
            have hA2 : A2 = [] := List.eq_nil_of_length_eq_zero (by omega)
            refine ⟨nofun, fun _ => ?_⟩
            exact ⟨_, .refl _, rfl, (A1 ++ B1) ++ (A2 ++ B2), fin' _ _ (hR1) (by rw [hA2, List.nil_append]; exact Stab.refl sB2), by (simp only [List.append_assoc]) <;> rfl⟩
      · have h1' : ¬ (m : Int) < ((mid + m - s : Nat) : Int) := of_decide_eq_false h1'
        have hB1 : B1 = [] := List.eq_nil_of_length_eq_zero (by omega)
        rw [show P ++ A1 ++ A2 ++ B1 ++ (B2 ++ Q) = P ++ A1 ++ B1 ++ (A2 ++ B2 ++ Q) by rw [hB1]; simp only [List.append_assoc, List.append_nil, List.nil_append]]
        refine ⟨fun h2 => ?_, fun h2 => ?_⟩
        · have h2 : (a : Int) < (s : Int) := of_decide_eq_true h2
          refine ⟨fun h3 => ?_, fun h3 => ?_⟩
          · have h3 : (s : Int) < (mid : Int) := of_decide_eq_true h3
            refine callP [0] (fun w S hR hB hS hd => ih (mid - a) (by omega) a s mid P A1 B1 (A2 ++ B2 ++ Q) w S rfl (by simp at hNlen ⊢; omega) ha (by omega) (by omega) (by omega) (by omega) sA1 sB1 hS hd) ?_
            rintro _ _ ⟨rfl, R1, hR1, rfl⟩
            refine ⟨fun h2 => ?_, fun h2 => ?_⟩
            · have h2 : (mid : Int) < ((mid + m - s : Nat) : Int) := of_decide_eq_true h2
              refine ⟨fun h3 => ?_, fun h3 => ?_⟩
              · have h3 : ((mid + m - s : Nat) : Int) < (b : Int) := of_decide_eq_true h3
                have hl1 := (hR1).len
                have hch : P ++ R1 ++ (A2 ++ B2 ++ Q) = (P ++ R1) ++ A2 ++ B2 ++ Q := by simp only [List.append_assoc]
                rw [hch]
                refine callP [0] (fun w S hR hB hS hd => ih (b - mid) (by omega) mid (mid + m - s) b (P ++ R1) A2 B2 Q w S rfl (by simp at hl1 hNlen ⊢; omega) (by simp at hl1 ⊢; omega) (by omega) (by omega) (by omega) (by omega) sA2 sB2 hS hd) ?_
                rintro _ _ ⟨rfl, R2, hR2, rfl⟩
                exact ⟨_, .refl _, rfl, R1 ++ R2, fin' _ _ (hR1) hR2, by (simp only [List.append_assoc]) <;> rfl⟩
              · have h3 : ¬ ((mid + m - s : Nat) : Int) < (b : Int) := of_decide_eq_false h3
                have hB2 : B2 = [] := List.eq_nil_of_length_eq_zero (by omega)
                exact ⟨_, .refl _, rfl, R1 ++ (A2 ++ B2), fin' _ _ (hR1) (by rw [hB2, List.append_nil]; exact Stab.refl sA2), by (simp only [List.append_assoc]) <;> rfl⟩
            · have h2 : ¬ (mid : Int) < ((mid + m - s : Nat) : Int) := of_decide_eq_false h2
              have hA2 : A2 = [] := List.eq_nil_of_length_eq_zero (by omega)
              refine ⟨nofun, fun _ => ?_⟩
              exact ⟨_, .refl _, rfl, R1 ++ (A2 ++ B2), fin' _ _ (hR1) (by rw [hA2, List.nil_append]; exact Stab.refl sB2), by (simp only [List.append_assoc]) <;> rfl⟩
          · have h3 : ¬ (s : Int) < (mid : Int) := of_decide_eq_false h3
            have hB1 : B1 = [] := List.eq_nil_of_length_eq_zero (by omega)
            have hR1 : Stab (A1 ++ B1) (A1 ++ B1) := by rw [hB1, List.append_nil]; exact Stab.refl sA1
            rw [show P ++ A1 ++ B1 ++ (A2 ++ B2 ++ Q) = P ++ (A1 ++ B1) ++ (A2 ++ B2 ++ Q) by simp only [List.append_assoc]]
            refine ⟨fun h2 => ?_, fun h2 => ?_⟩
            · have h2 : (mid : Int) < ((mid + m - s : Nat) : Int) := of_decide_eq_true h2
              refine ⟨fun h3 => ?_, fun h3 => ?_⟩
              · have h3 : ((mid + m - s : Nat) : Int) < (b : Int) := of_decide_eq_true h3
                have hl1 := (hR1).len
                have hch : P ++ (A1 ++ B1) ++ (A2 ++ B2 ++ Q) = (P ++ (A1 ++ B1)) ++ A2 ++ B2 ++ Q := by simp only [List.append_assoc]
                rw [hch]
                refine callP [0] (fun w S hR hB hS hd => ih (b - mid) (by omega) mid (mid + m - s) b (P ++ (A1 ++ B1)) A2 B2 Q w S rfl (by simp at hl1 hNlen ⊢; omega) (by simp at hl1 ⊢; omega) (by omega) (by omega) (by omega) (by omega) sA2 sB2 hS hd) ?_
                rintro _ _ ⟨rfl, R2, hR2, rfl⟩
                exact ⟨_, .refl _, rfl, (A1 ++ B1) ++ R2, fin' _ _ (hR1) hR2, by (simp only [List.append_assoc]) <;> rfl⟩
              · have h3 : ¬ ((mid + m - s : Nat) : Int) < (b : Int) := of_decide_eq_false h3
                have hB2 : B2 = [] := List.eq_nil_of_length_eq_zero (by omega)
                exact ⟨_, .refl _, rfl, (A1 ++ B1) ++ (A2 ++ B2), fin' _ _ (hR1) (by rw [hB2, List.append_nil]; exact Stab.refl sA2), by (simp only [List.append_assoc]) <;> rfl⟩
            · have h2 : ¬ (mid : Int) < ((mid + m - s : Nat) : Int) := of_decide_eq_false h2
              have hA2 : A2 = [] := List.eq_nil_of_length_eq_zero (by omega)
              refine ⟨nofun, fun _ => ?_⟩
              exact ⟨_, .refl _, rfl, (A1 ++ B1) ++ (A2 ++ B2), fin' _ _ (hR1) (by rw [hA2, List.nil_append]; exact Stab.refl sB2), by (simp only [List.append_assoc]) <;> rfl⟩
        · have h2 : ¬ (a : Int) < (s : Int) := of_decide_eq_false h2
          have hA1 : A1 = [] := List.eq_nil_of_length_eq_zero (by omega)
          have hR1 : Stab (A1 ++ B1) (A1 ++ B1) := by rw [hA1, List.nil_append]; exact Stab.refl sB1
          rw [show P ++ A1 ++ B1 ++ (A2 ++ B2 ++ Q) = P ++ (A1 ++ B1) ++ (A2 ++ B2 ++ Q) by simp only [List.append_assoc]]
          refine ⟨nofun, fun _ => ?_⟩
          refine ⟨fun h2 => ?_, fun h2 => ?_⟩
          · have h2 : (mid : Int) < ((mid + m - s : Nat) : Int) := of_decide_eq_true h2
            refine ⟨fun h3 => ?_, fun h3 => ?_⟩
            · have h3 : ((mid + m - s : Nat) : Int) < (b : Int) := of_decide_eq_true h3
              have hl1 := (hR1).len
              have hch : P ++ (A1 ++ B1) ++ (A2 ++ B2 ++ Q) = (P ++ (A1 ++ B1)) ++ A2 ++ B2 ++ Q := by simp only [List.append_assoc]
              rw [hch]
              refine callP [0] (fun w S hR hB hS hd => ih (b - mid) (by omega) mid (mid + m - s) b (P ++ (A1 ++ B1)) A2 B2 Q w S rfl (by simp at hl1 hNlen ⊢; omega) (by simp at hl1 ⊢; omega) (by omega) (by omega) (by omega) (by omega) sA2 sB2 hS hd) ?_
              rintro _ _ ⟨rfl, R2, hR2, rfl⟩
              exact ⟨_, .refl _, rfl, (A1 ++ B1) ++ R2, fin' _ _ (hR1) hR2, by (simp only [List.append_assoc]) <;> rfl⟩
            · have h3 : ¬ ((mid + m - s : Nat) : Int) < (b : Int) := of_decide_eq_false h3
              have hB2 : B2 = [] := List.eq_nil_of_length_eq_zero (by omega)
              exact ⟨_, .refl _, rfl, (A1 ++ B1) ++ (A2 ++ B2), fin' _ _ (hR1) (by rw [hB2, List.append_nil]; exact Stab.refl sA2), by (simp only [List.append_assoc]) <;> rfl⟩
          · have h2 : ¬ (mid : Int) < ((mid + m - s : Nat) : Int) := of_decide_eq_false h2
            have hA2 : A2 = [] := List.eq_nil_of_length_eq_zero (by omega)
            refine ⟨nofun, fun _ => ?_⟩
            exact ⟨_, .refl _, rfl, (A1 ++ B1) ++ (A2 ++ B2), fin' _ _ (hR1) (by rw [hA2, List.nil_append]; exact Stab.refl sB2), by (simp only [List.append_assoc]) <;> rfl⟩
    · have h1 : ¬ (s : Int) < (m : Int) := of_decide_eq_false h1
      have hA2 : A2 = [] := List.eq_nil_of_length_eq_zero (by omega)
      rw [show P ++ A1 ++ A2 ++ B1 ++ (B2 ++ Q) = P ++ A1 ++ B1 ++ (A2 ++ B2 ++ Q) by rw [hA2]; simp only [List.append_assoc, List.append_nil, List.nil_append]]
      refine ⟨nofun, fun _ => ?_⟩
      refine ⟨fun h2 => ?_, fun h2 => ?_⟩
      · have h2 : (a : Int) < (s : Int) := of_decide_eq_true h2
        refine ⟨fun h3 => ?_, fun h3 => ?_⟩
        · have h3 : (s : Int) < (mid : Int) := of_decide_eq_true h3
          refine callP [0] (fun w S hR hB hS hd => ih (mid - a) (by omega) a s mid P A1 B1 (A2 ++ B2 ++ Q) w S rfl (by simp at hNlen ⊢; omega) ha (by omega) (by omega) (by omega) (by omega) sA1 sB1 hS hd) ?_
          rintro _ _ ⟨rfl, R1, hR1, rfl⟩
          refine ⟨fun h2 => ?_, fun h2 => ?_⟩
          · have h2 : (mid : Int) < ((mid + m - s : Nat) : Int) := of_decide_eq_true h2
            refine ⟨fun h3 => ?_, fun h3 => ?_⟩
            · have h3 : ((mid + m - s : Nat) : Int) < (b : Int) := of_decide_eq_true h3
              have hl1 := (hR1).len
              have hch : P ++ R1 ++ (A2 ++ B2 ++ Q) = (P ++ R1) ++ A2 ++ B2 ++ Q := by simp only [List.append_assoc]
              rw [hch]
              refine callP [0] (fun w S hR hB hS hd => ih (b - mid) (by omega) mid (mid + m - s) b (P ++ R1) A2 B2 Q w S rfl (by simp at hl1 hNlen ⊢; omega) (by simp at hl1 ⊢; omega) (by omega) (by omega) (by omega) (by omega) sA2 sB2 hS hd) ?_
              rintro _ _ ⟨rfl, R2, hR2, rfl⟩
              exact ⟨_, .refl _, rfl, R1 ++ R2, fin' _ _ (hR1) hR2, by (simp only [List.append_assoc]) <;> rfl⟩
            · have h3 : ¬ ((mid + m - s : Nat) : Int) < (b : Int) := of_decide_eq_false h3
              have hB2 : B2 = [] := List.eq_nil_of_length_eq_zero (by omega)
              exact ⟨_, .refl _, rfl, R1 ++ (A2 ++ B2), fin' _ _ (hR1) (by rw [hB2, List.append_nil]; exact Stab.refl sA2), by (simp only [List.append_assoc]) <;> rfl⟩
          · have h2 : ¬ (mid : Int) < ((mid + m - s : Nat) : Int) := of_decide_eq_false h2
            have hA2 : A2 = [] := List.eq_nil_of_length_eq_zero (by omega)
            refine ⟨nofun, fun _ => ?_⟩
            exact ⟨_, .refl _, rfl, R1 ++ (A2 ++ B2), fin' _ _ (hR1) (by rw [hA2, List.nil_append]; exact Stab.refl sB2), by (simp only [List.append_assoc]) <;> rfl⟩
        · have h3 : ¬ (s : Int) < (mid : Int) := of_decide_eq_false h3
          have hB1 : B1 = [] := List.eq_nil_of_length_eq_zero (by omega)
          have hR1 : Stab (A1 ++ B1) (A1 ++ B1) := by rw [hB1, List.append_nil]; exact Stab.refl sA1
          rw [show P ++ A1 ++ B1 ++ (A2 ++ B2 ++ Q) = P ++ (A1 ++ B1) ++ (A2 ++ B2 ++ Q) by simp only [List.append_assoc]]
          refine ⟨fun h2 => ?_, fun h2 => ?_⟩
          · have h2 : (mid : Int) < ((mid + m - s : Nat) : Int) := of_decide_eq_true h2
            refine ⟨fun h3 => ?_, fun h3 => ?_⟩
            · have h3 : ((mid + m - s : Nat) : Int) < (b : Int) := of_decide_eq_true h3
              have hl1 := (hR1).len
              have hch : P ++ (A1 ++ B1) ++ (A2 ++ B2 ++ Q) = (P ++ (A1 ++ B1)) ++ A2 ++ B2 ++ Q := by simp only [List.append_assoc]
              rw [hch]
              refine callP [0] (fun w S hR hB hS hd => ih (b - mid) (by omega) mid (mid + m - s) b (P ++ (A1 ++ B1)) A2 B2 Q w S rfl (by simp at hl1 hNlen ⊢; omega) (by simp at hl1 ⊢; omega) (by omega) (by omega) (by omega) (by omega) sA2 sB2 hS hd) ?_
              rintro _ _ ⟨rfl, R2, hR2, rfl⟩
              exact ⟨_, .refl _, rfl, (A1 ++ B1) ++ R2, fin' _ _ (hR1) hR2, by (simp only [List.append_assoc]) <;> rfl⟩
            · have h3 : ¬ ((mid + m - s : Nat) : Int) < (b : Int) := of_decide_eq_false h3
              have hB2 : B2 = [] := List.eq_nil_of_length_eq_zero (by omega)
              exact ⟨_, .refl _, rfl, (A1 ++ B1) ++ (A2 ++ B2), fin' _ _ (hR1) (by rw [hB2, List.append_nil]; exact Stab.refl sA2), by (simp only [List.append_assoc]) <;> rfl⟩
          · have h2 : ¬ (mid : Int) < ((mid + m - s : Nat) : Int) := of_decide_eq_false h2
            have hA2 : A2 = [] := List.eq_nil_of_length_eq_zero (by omega)
            refine ⟨nofun, fun _ => ?_⟩
            exact ⟨_, .refl _, rfl, (A1 ++ B1) ++ (A2 ++ B2), fin' _ _ (hR1) (by rw [hA2, List.nil_append]; exact Stab.refl sB2), by (simp only [List.append_assoc]) <;> rfl⟩
      · have h2 : ¬ (a : Int) < (s : Int) := of_decide_eq_false h2
        have hA1 : A1 = [] := List.eq_nil_of_length_eq_zero (by omega)
        have hR1 : Stab (A1 ++ B1) (A1 ++ B1) := by rw [hA1, List.nil_append]; exact Stab.refl sB1
        rw [show P ++ A1 ++ B1 ++ (A2 ++ B2 ++ Q) = P ++ (A1 ++ B1) ++ (A2 ++ B2 ++ Q) by simp only [List.append_assoc]]
        refine ⟨nofun, fun _ => ?_⟩
        refine ⟨fun h2 => ?_, fun h2 => ?_⟩
        · have h2 : (mid : Int) < ((mid + m - s : Nat) : Int) := of_decide_eq_true h2
          refine ⟨fun h3 => ?_, fun h3 => ?_⟩
          · have h3 : ((mid + m - s : Nat) : Int) < (b : Int) := of_decide_eq_true h3
            have hl1 := (hR1).len
            have hch : P ++ (A1 ++ B1) ++ (A2 ++ B2 ++ Q) = (P ++ (A1 ++ B1)) ++ A2 ++ B2 ++ Q := by simp only [List.append_assoc]
            rw [hch]
            refine callP [0] (fun w S hR hB hS hd => ih (b - mid) (by omega) mid (mid + m - s) b (P ++ (A1 ++ B1)) A2 B2 Q w S rfl (by simp at hl1 hNlen ⊢; omega) (by simp at hl1 ⊢; omega) (by omega) (by omega) (by omega) (by omega) sA2 sB2 hS hd) ?_
            rintro _ _ ⟨rfl, R2, hR2, rfl⟩
            exact ⟨_, .refl _, rfl, (A1 ++ B1) ++ R2, fin' _ _ (hR1) hR2, by (simp only [List.append_assoc]) <;> rfl⟩
          · have h3 : ¬ ((mid + m - s : Nat) : Int) < (b : Int) := of_decide_eq_false h3
            have hB2 : B2 = [] := List.eq_nil_of_length_eq_zero (by omega)
            exact ⟨_, .refl _, rfl, (A1 ++ B1) ++ (A2 ++ B2), fin' _ _ (hR1) (by rw [hB2, List.append_nil]; exact Stab.refl sA2), by (simp only [List.append_assoc]) <;> rfl⟩
        · have h2 : ¬ (mid : Int) < ((mid + m - s : Nat) : Int) := of_decide_eq_false h2
          have hA2 : A2 = [] := List.eq_nil_of_length_eq_zero (by omega)
          refine ⟨nofun, fun _ => ?_⟩
          exact ⟨_, .refl _, rfl, (A1 ++ B1) ++ (A2 ++ B2), fin' _ _ (hR1) (by rw [hA2, List.nil_append]; exact Stab.refl sB2), by (simp only [List.append_assoc]) <;> rfl⟩
  · have h : ¬ mid < m := by
      have : ¬ (m : Int) > (mid : Int) := of_decide_eq_false h
      omega
    refine ⟨((mid + m - 1 : Nat) : Int), by rw [show (((mid + m : Nat) : Int) - 1) = ((mid + m - 1 : Nat) : Int) by omega]; exact (half _ (by omega)).2, ?_⟩
    refine loopI (σ := Nat × Nat) (fun s => [(0, .slice (some ⟨g, 0, none⟩) n cap), (1, .int .i64 a), (2, .int .i64 m), (3, .int .i64 b), (4, .func (.func 31) #[] #[]), (18, .int .i64 mid), (19, .int .i64 ((mid + m : Nat) : Int)), (20, .int .i64 s.1), (21, .int .i64 s.2), (22, .int .i64 ((mid + m - 1 : Nat) : Int))]) (fun _ => [own (some ⟨g, 0, none⟩) cap 41 9 encCl (P ++ A ++ B ++ Q)])
      (fun s => a ≤ s.1 ∧ mid + m ≤ s.1 + b ∧ s.1 ≤ s.2 ∧ s.2 ≤ m ∧ s.2 ≤ mid ∧ lo s.1 ∧ hi s.2) (fun s => s.2 - s.1) (a, m)
      ⟨rfl, rfl, rfl, rfl, rfl, rfl, rfl, rfl, rfl, rfl, trivial⟩ (.refl _) ⟨Nat.le_refl _, by show mid + m ≤ a + b; omega, by show a ≤ m; omega, Nat.le_refl _, by show m ≤ mid; omega, .inl rfl, .inl rfl⟩ ?_
    rintro ⟨s, r⟩ hinv
    change (a ≤ s ∧ mid + m ≤ s + b ∧ s ≤ r ∧ r ≤ m ∧ r ≤ mid ∧ lo s ∧ hi r) at hinv
    obtain ⟨i1, i2, i3, i4, i5, i6, i7⟩ := hinv
    refine ⟨fun hlt => ?_, fun hge => ?_⟩
    · have hsr : s < r := by
        have : (s : Int) < (r : Int) := of_decide_eq_true hlt
        omega
      generalize hc : (s + r) / 2 = c
      have hc1 : s ≤ c ∧ c < r := by omega
      obtain ⟨x, hx⟩ : ∃ x, A[c - a]? = some x := ⟨A[c - a]'(by omega), by simp [show c - a < A.length by omega]⟩
      obtain ⟨y, hy⟩ : ∃ y, B[mid + m - 1 - c - m]? = some y := ⟨B[mid + m - 1 - c - m]'(by omega), by simp [show mid + m - 1 - c - m < B.length by omega]⟩
      have hxc := getA (c - a) (by omega)
      rw [show a + (c - a) = c by omega, hx] at hxc
      have hyc := getB (mid + m - 1 - c - m) (by omega)
      rw [show m + (mid + m - 1 - c - m) = mid + m - 1 - c by omega, hy] at hyc
      refine ⟨((s + r : Nat) : Int), by rw [show ((s : Int) + (r : Int)) = ((s + r : Nat) : Int) by omega]; exact (half _ (by omega)).2, ?_⟩
      refine ⟨((s + r : Nat) : Int), (half _ (by omega)).1.symm, ?_⟩
      refine ⟨by decide, (((s + r) / 2 : Nat) : Int), half_eq _, ?_⟩
      refine ⟨(c : Int), by rw [hc]; exact (half _ (by omega)).2, ?_⟩
      refine Or.inl ⟨by kernel_rfl, ?_⟩
      refine ⟨((mid + m - 1 - c : Nat) : Int), by rw [show (((mid + m - 1 : Nat) : Int) - (c : Int)) = ((mid + m - 1 - c : Nat) : Int) by omega]; exact (half _ (by omega)).2, ?_⟩
      refine ⟨mid + m - 1 - c, rfl, by omega, ?_⟩
      refine ⟨_, ldOA 0 (mid + m - 1 - c) rfl (fun _ _ => rfl) hyc rfl rfl rfl (by show 0 + (mid + m - 1 - c) * 9 = _; omega), ?_⟩
      refine ⟨c, rfl, by omega, ?_⟩
      refine ⟨_, ldOA 0 c rfl (fun _ _ => rfl) hxc rfl rfl rfl (by show 0 + c * 9 = _; omega), ?_⟩
      refine callQ [] (fun w S hR hB hS hd => cmpEnd_spec y x w S hd) ?_
      have hcmp : cmpZ y.en x.en < 0 ↔ y.en < x.en := cmpZ_lt
      refine ⟨fun hq => ?_, fun hq => ?_⟩
      · have hq : ¬ y.en < x.en := fun h => by rw [decide_eq_true (hcmp.2 h)] at hq; cases hq
        refine ⟨((c + 1 : Nat) : Int), by rw [show ((c : Int) + 1) = ((c + 1 : Nat) : Int) by omega]; exact (half _ (by omega)).2, ?_⟩
        exact backI (c + 1, r) (by show r - (c + 1) < r - s; omega) ⟨by show a ≤ c + 1; omega, by show mid + m ≤ c + 1 + b; omega, by show c + 1 ≤ r; omega, i4, i5, .inr (.inr ⟨x, y, by show A[c + 1 - 1 - a]? = _; rw [Nat.add_sub_cancel]; exact hx, by show B[mid + m - (c + 1) - m]? = _; rw [show mid + m - (c + 1) - m = mid + m - 1 - c - m by omega]; exact hy, by omega⟩), i7⟩ ⟨rfl, rfl, rfl, rfl, rfl, rfl, rfl, rfl, rfl, rfl, trivial⟩ (.refl _)
      · have hq : y.en < x.en := by
          by_cases h : y.en < x.en
          · exact h
          · rw [decide_eq_false fun h' => h (hcmp.1 h')] at hq; cases hq
        exact backI (s, c) (by show c - s < r - s; omega) ⟨i1, i2, by show s ≤ c; omega, by show c ≤ m; omega, by show c ≤ mid; omega, i6, .inr (.inr ⟨x, y, hx, hy, hq⟩)⟩ ⟨rfl, rfl, rfl, rfl, rfl, rfl, rfl, rfl, rfl, rfl, trivial⟩ (.refl _)
    have hsr : s = r := by
      have : ¬ (s : Int) < (r : Int) := of_decide_eq_false hge
      omega
    subst hsr
    clear hge
    have fin' := fin s i1 i2 i4 i5 i6 i7
    clear i6 i7 fin cut
    have l1 : (A.take (s - a)).length = s - a := by simp; omega
    have l2 : (A.drop (s - a)).length = m - s := by simp; omega
    have l3 : (B.take (mid - s)).length = mid - s := by simp; omega
    have l4 : (B.drop (mid - s)).length = b - (mid + m - s) := by simp; omega
    have sA1 : Srt (A.take (s - a)) := hsA.take _
    have sA2 : Srt (A.drop (s - a)) := hsA.drop _
    have sB1 : Srt (B.take (mid - s)) := hsB.take _
    have sB2 : Srt (B.drop (mid - s)) := hsB.drop _
    have eA : A = A.take (s - a) ++ A.drop (s - a) := (List.take_append_drop _ _).symm
    have eB : B = B.take (mid - s) ++ B.drop (mid - s) := (List.take_append_drop _ _).symm
    generalize A.take (s - a) = A1 at *
    generalize A.drop (s - a) = A2 at *
    generalize B.take (mid - s) = B1 at *
    generalize B.drop (mid - s) = B2 at *
    refine ⟨((mid + m - s : Nat) : Int), by rw [show (((mid + m : Nat) : Int) - (s : Int)) = ((mid + m - s : Nat) : Int) by omega]; exact (half _ (by omega)).2, ?_⟩
    have e0 : P ++ A ++ B ++ Q = (P ++ A1) ++ A2 ++ B1 ++ (B2 ++ Q) := by rw [eA, eB]; simp only [List.append_assoc]
    have hNlen : (P ++ A1 ++ A2 ++ B1 ++ (B2 ++ Q)).length = n := by rw [← e0]; exact hn
    rw [e0]
    have e1 : P ++ A1 ++ B1 ++ A2 ++ (B2 ++ Q) = P ++ A1 ++ B1 ++ (A2 ++ B2 ++ Q) := by simp only [List.append_assoc]
    refine ⟨fun h1 => ?_, fun h1 => ?_⟩
    · have h1 : (s : Int) < (m : Int) := of_decide_eq_true h1
      refine ⟨fun h1' => ?_, fun h1' => ?_⟩
      · have h1' : (m : Int) < ((mid + m - s : Nat) : Int) := of_decide_eq_true h1'
        refine callP [0] (fun w S hR hB hS hd => rotate_spec (.func (.func 31) #[] #[]) g n cap s m (mid + m - s) (P ++ A1) A2 B1 (B2 ++ Q) hNlen (by simp; omega) (by omega) (by omega) (by omega) (by omega) hn2 w S hS hd) ?_
        rintro _ _ ⟨rfl, rfl⟩
        rw [e1]
        refine ⟨fun h2 => ?_, fun h2 => ?_⟩
        · have h2 : (a : Int) < (s : Int) := of_decide_eq_true h2
          refine ⟨fun h3 => ?_, fun h3 => ?_⟩
          · have h3 : (s : Int) < (mid : Int) := of_decide_eq_true h3
            refine callP [0] (fun w S hR hB hS hd => ih (mid - a) (by omega) a s mid P A1 B1 (A2 ++ B2 ++ Q) w S rfl (by simp at hNlen ⊢; omega) ha (by omega) (by omega) (by omega) (by omega) sA1 sB1 hS hd) ?_
            rintro _ _ ⟨rfl, R1, hR1, rfl⟩
            refine ⟨fun h2 => ?_, fun h2 => ?_⟩
            · have h2 : (mid : Int) < ((mid + m - s : Nat) : Int) := of_decide_eq_true h2
              refine ⟨fun h3 => ?_, fun h3 => ?_⟩
              · have h3 : ((mid + m - s : Nat) : Int) < (b : Int) := of_decide_eq_true h3
                have hl1 := (hR1).len
                have hch : P ++ R1 ++ (A2 ++ B2 ++ Q) = (P ++ R1) ++ A2 ++ B2 ++ Q := by simp only [List.append_assoc]
                rw [hch]
                refine callP [0] (fun w S hR hB hS hd => ih (b - mid) (by omega) mid (mid + m - s) b (P ++ R1) A2 B2 Q w S rfl (by simp at hl1 hNlen ⊢; omega) (by simp at hl1 ⊢; omega) (by omega) (by omega) (by omega) (by omega) sA2 sB2 hS hd) ?_
                rintro _ _ ⟨rfl, R2, hR2, rfl⟩
                exact ⟨_, .refl _, rfl, R1 ++ R2, fin' _ _ (hR1) hR2, by (simp only [List.append_assoc]) <;> rfl⟩
              · have h3 : ¬ ((mid + m - s : Nat) : Int) < (b : Int) := of_decide_eq_false h3
                have hB2 : B2 = [] := List.eq_nil_of_length_eq_zero (by omega)
                exact ⟨_, .refl _, rfl, R1 ++ (A2 ++ B2), fin' _ _ (hR1) (by rw [hB2, List.append_nil]; exact Stab.refl sA2), by (simp only [List.append_assoc]) <;> rfl⟩
            · have h2 : ¬ (mid : Int) < ((mid + m - s : Nat) : Int) := of_decide_eq_false h2
              have hA2 : A2 = [] := List.eq_nil_of_length_eq_zero (by omega)
              refine ⟨nofun, fun _ => ?_⟩
              exact ⟨_, .refl _, rfl, R1 ++ (A2 ++ B2), fin' _ _ (hR1) (by rw [hA2, List.nil_append]; exact Stab.refl sB2), by (simp only [List.append_assoc]) <;> rfl⟩
          · have h3 : ¬ (s : Int) < (mid : Int) := of_decide_eq_false h3
            have hB1 : B1 = [] := List.eq_nil_of_length_eq_zero (by omega)
            have hR1 : Stab (A1 ++ B1) (A1 ++ B1) := by rw [hB1, List.append_nil]; exact Stab.refl sA1
            rw [show P ++ A1 ++ B1 ++ (A2 ++ B2 ++ Q) = P ++ (A1 ++ B1) ++ (A2 ++ B2 ++ Q) by simp only [List.append_assoc]]
            refine ⟨fun h2 => ?_, fun h2 => ?_⟩
            · have h2 : (mid : Int) < ((mid + m - s : Nat) : Int) := of_decide_eq_true h2
              refine ⟨fun h3 => ?_, fun h3 => ?_⟩
              · have h3 : ((mid + m - s : Nat) : Int) < (b : Int) := of_decide_eq_true h3
                have hl1 := (hR1).len
                have hch : P ++ (A1 ++ B1) ++ (A2 ++ B2 ++ Q) = (P ++ (A1 ++ B1)) ++ A2 ++ B2 ++ Q := by simp only [List.append_assoc]
                rw [hch]
                refine callP [0] (fun w S hR hB hS hd => ih (b - mid) (by omega) mid (mid + m - s) b (P ++ (A1 ++ B1)) A2 B2 Q w S rfl (by simp at hl1 hNlen ⊢; omega) (by simp at hl1 ⊢; omega) (by omega) (by omega) (by omega) (by omega) sA2 sB2 hS hd) ?_
                rintro _ _ ⟨rfl, R2, hR2, rfl⟩
                exact ⟨_, .refl _, rfl, (A1 ++ B1) ++ R2, fin' _ _ (hR1) hR2, by (simp only [List.append_assoc]) <;> rfl⟩
              · have h3 : ¬ ((mid + m - s : Nat) : Int) < (b : Int) := of_decide_eq_false h3
                have hB2 : B2 = [] := List.eq_nil_of_length_eq_zero (by omega)
                exact ⟨_, .refl _, rfl, (A1 ++ B1) ++ (A2 ++ B2), fin' _ _ (hR1) (by rw [hB2, List.append_nil]; exact Stab.refl sA2), by (simp only [List.append_assoc]) <;> rfl⟩
            · have h2 : ¬ (mid : Int) < ((mid + m - s : Nat) : Int) := of_decide_eq_false h2
              have hA2 : A2 = [] := List.eq_nil_of_length_eq_zero (by omega)
              refine ⟨nofun, fun _ => ?_⟩
              exact ⟨_, .refl _, rfl, (A1 ++ B1) ++ (A2 ++ B2), fin' _ _ (hR1) (by rw [hA2, List.nil_append]; exact Stab.refl sB2), by (simp only [List.append_assoc]) <;> rfl⟩
        · have h2 : ¬ (a : Int) < (s : Int) := of_decide_eq_false h2
          have hA1 : A1 = [] := List.eq_nil_of_length_eq_zero (by omega)
          have hR1 : Stab (A1 ++ B1) (A1 ++ B1) := by rw [hA1, List.nil_append]; exact Stab.refl sB1
          rw [show P ++ A1 ++ B1 ++ (A2 ++ B2 ++ Q) = P ++ (A1 ++ B1) ++ (A2 ++ B2 ++ Q) by simp only [List.append_assoc]]
          refine ⟨nofun, fun _ => ?_⟩
          refine ⟨fun h2 => ?_, fun h2 => ?_⟩
          · have h2 : (mid : Int) < ((mid + m - s : Nat) : Int) := of_decide_eq_true h2
            refine ⟨fun h3 => ?_, fun h3 => ?_⟩
            · have h3 : ((mid + m - s : Nat) : Int) < (b : Int) := of_decide_eq_true h3
              have hl1 := (hR1).len
              have hch : P ++ (A1 ++ B1) ++ (A2 ++ B2 ++ Q) = (P ++ (A1 ++ B1)) ++ A2 ++ B2 ++ Q := by simp only [List.append_assoc]
              rw [hch]
              refine callP [0] (fun w S hR hB hS hd => ih (b - mid) (by omega) mid (mid + m - s) b (P ++ (A1 ++ B1)) A2 B2 Q w S rfl (by simp at hl1 hNlen ⊢; omega) (by simp at hl1 ⊢; omega) (by omega) (by omega) (by omega) (by omega) sA2 sB2 hS hd) ?_
              rintro _ _ ⟨rfl, R2, hR2, rfl⟩
              exact ⟨_, .refl _, rfl, (A1 ++ B1) ++ R2, fin' _ _ (hR1) hR2, by (simp only [List.append_assoc]) <;> rfl⟩
            · have h3 : ¬ ((mid + m - s : Nat) : Int) < (b : Int) := of_decide_eq_false h3
              have hB2 : B2 = [] := List.eq_nil_of_length_eq_zero (by omega)
              exact ⟨_, .refl _, rfl, (A1 ++ B1) ++ (A2 ++ B2), fin' _ _ (hR1) (by rw [hB2, List.append_nil]; exact Stab.refl sA2), by (simp only [List.append_assoc]) <;> rfl⟩
          · have h2 : ¬ (mid : Int) < ((mid + m - s : Nat) : Int) := of_decide_eq_false h2
            have hA2 : A2 = [] := List.eq_nil_of_length_eq_zero (by omega)
            refine ⟨nofun, fun _ => ?_⟩
            exact ⟨_, .refl _, rfl, (A1 ++ B1) ++ (A2 ++ B2), fin' _ _ (hR1) (by rw [hA2, List.nil_append]; exact Stab.refl sB2), by (simp only [List.append_assoc]) <;> rfl⟩
      · have h1' : ¬ (m : Int) < ((mid + m - s : Nat) : Int) := of_decide_eq_false h1'
        have hB1 : B1 = [] := List.eq_nil_of_length_eq_zero (by omega)
        rw [show P ++ A1 ++ A2 ++ B1 ++ (B2 ++ Q) = P ++ A1 ++ B1 ++ (A2 ++ B2 ++ Q) by rw [hB1]; simp only [List.append_assoc, List.append_nil, List.nil_append]]
        refine ⟨fun h2 => ?_, fun h2 => ?_⟩
        · have h2 : (a : Int) < (s : Int) := of_decide_eq_true h2
          refine ⟨fun h3 => ?_, fun h3 => ?_⟩
          · have h3 : (s : Int) < (mid : Int) := of_decide_eq_true h3
            refine callP [0] (fun w S hR hB hS hd => ih (mid - a) (by omega) a s mid P A1 B1 (A2 ++ B2 ++ Q) w S rfl (by simp at hNlen ⊢; omega) ha (by omega) (by omega) (by omega) (by omega) sA1 sB1 hS hd) ?_
            rintro _ _ ⟨rfl, R1, hR1, rfl⟩
            refine ⟨fun h2 => ?_, fun h2 => ?_⟩
            · have h2 : (mid : Int) < ((mid + m - s : Nat) : Int) := of_decide_eq_true h2
              refine ⟨fun h3 => ?_, fun h3 => ?_⟩
              · have h3 : ((mid + m - s : Nat) : Int) < (b : Int) := of_decide_eq_true h3
                have hl1 := (hR1).len
                have hch : P ++ R1 ++ (A2 ++ B2 ++ Q) = (P ++ R1) ++ A2 ++ B2 ++ Q := by simp only [List.append_assoc]
                rw [hch]
                refine callP [0] (fun w S hR hB hS hd => ih (b - mid) (by omega) mid (mid + m - s) b (P ++ R1) A2 B2 Q w S rfl (by simp at hl1 hNlen ⊢; omega) (by simp at hl1 ⊢; omega) (by omega) (by omega) (by omega) (by omega) sA2 sB2 hS hd) ?_
                rintro _ _ ⟨rfl, R2, hR2, rfl⟩
                exact ⟨_, .refl _, rfl, R1 ++ R2, fin' _ _ (hR1) hR2, by (simp only [List.append_assoc]) <;> rfl⟩
              · have h3 : ¬ ((mid + m - s : Nat) : Int) < (b : Int) := of_decide_eq_false h3
                have hB2 : B2 = [] := List.eq_nil_of_length_eq_zero (by omega)
                exact ⟨_, .refl _, rfl, R1 ++ (A2 ++ B2), fin' _ _ (hR1) (by rw [hB2, List.append_nil]; exact Stab.refl sA2), by (simp only [List.append_assoc]) <;> rfl⟩
            · have h2 : ¬ (mid : Int) < ((mid + m - s : Nat) : Int) := of_decide_eq_false h2
              have hA2 : A2 = [] := List.eq_nil_of_length_eq_zero (by omega)
              refine ⟨nofun, fun _ => ?_⟩
              exact ⟨_, .refl _, rfl, R1 ++ (A2 ++ B2), fin' _ _ (hR1) (by rw [hA2, List.nil_append]; exact Stab.refl sB2), by (simp only [List.append_assoc]) <;> rfl⟩
          · have h3 : ¬ (s : Int) < (mid : Int) := of_decide_eq_false h3
            have hB1 : B1 = [] := List.eq_nil_of_length_eq_zero (by omega)
            have hR1 : Stab (A1 ++ B1) (A1 ++ B1) := by rw [hB1, List.append_nil]; exact Stab.refl sA1
            rw [show P ++ A1 ++ B1 ++ (A2 ++ B2 ++ Q) = P ++ (A1 ++ B1) ++ (A2 ++ B2 ++ Q) by simp only [List.append_assoc]]
            refine ⟨fun h2 => ?_, fun h2 => ?_⟩
            · have h2 : (mid : Int) < ((mid + m - s : Nat) : Int) := of_decide_eq_true h2
              refine ⟨fun h3 => ?_, fun h3 => ?_⟩
              · have h3 : ((mid + m - s : Nat) : Int) < (b : Int) := of_decide_eq_true h3
                have hl1 := (hR1).len
                have hch : P ++ (A1 ++ B1) ++ (A2 ++ B2 ++ Q) = (P ++ (A1 ++ B1)) ++ A2 ++ B2 ++ Q := by simp only [List.append_assoc]
                rw [hch]
                refine callP [0] (fun w S hR hB hS hd => ih (b - mid) (by omega) mid (mid + m - s) b (P ++ (A1 ++ B1)) A2 B2 Q w S rfl (by simp at hl1 hNlen ⊢; omega) (by simp at hl1 ⊢; omega) (by omega) (by omega) (by omega) (by omega) sA2 sB2 hS hd) ?_
                rintro _ _ ⟨rfl, R2, hR2, rfl⟩
                exact ⟨_, .refl _, rfl, (A1 ++ B1) ++ R2, fin' _ _ (hR1) hR2, by (simp only [List.append_assoc]) <;> rfl⟩
              · have h3 : ¬ ((mid + m - s : Nat) : Int) < (b : Int) := of_decide_eq_false h3
                have hB2 : B2 = [] := List.eq_nil_of_length_eq_zero (by omega)
                exact ⟨_, .refl _, rfl, (A1 ++ B1) ++ (A2 ++ B2), fin' _ _ (hR1) (by rw [hB2, List.append_nil]; exact Stab.refl sA2), by (simp only [List.append_assoc]) <;> rfl⟩
            · have h2 : ¬ (mid : Int) < ((mid + m - s : Nat) : Int) := of_decide_eq_false h2
              have hA2 : A2 = [] := List.eq_nil_of_length_eq_zero (by omega)
              refine ⟨nofun, fun _ => ?_⟩
              exact ⟨_, .refl _, rfl, (A1 ++ B1) ++ (A2 ++ B2), fin' _ _ (hR1) (by rw [hA2, List.nil_append]; exact Stab.refl sB2), by (simp only [List.append_assoc]) <;> rfl⟩
        · have h2 : ¬ (a : Int) < (s : Int) := of_decide_eq_false h2
          have hA1 : A1 = [] := List.eq_nil_of_length_eq_zero (by omega)
          have hR1 : Stab (A1 ++ B1) (A1 ++ B1) := by rw [hA1, List.nil_append]; exact Stab.refl sB1
          rw [show P ++ A1 ++ B1 ++ (A2 ++ B2 ++ Q) = P ++ (A1 ++ B1) ++ (A2 ++ B2 ++ Q) by simp only [List.append_assoc]]
          refine ⟨nofun, fun _ => ?_⟩
          refine ⟨fun h2 => ?_, fun h2 => ?_⟩
          · have h2 : (mid : Int) < ((mid + m - s : Nat) : Int) := of_decide_eq_true h2
            refine ⟨fun h3 => ?_, fun h3 => ?_⟩
            · have h3 : ((mid + m - s : Nat) : Int) < (b : Int) := of_decide_eq_true h3
              have hl1 := (hR1).len
              have hch : P ++ (A1 ++ B1) ++ (A2 ++ B2 ++ Q) = (P ++ (A1 ++ B1)) ++ A2 ++ B2 ++ Q := by simp only [List.append_assoc]
              rw [hch]
              refine callP [0] (fun w S hR hB hS hd => ih (b - mid) (by omega) mid (mid + m - s) b (P ++ (A1 ++ B1)) A2 B2 Q w S rfl (by simp at hl1 hNlen ⊢; omega) (by simp at hl1 ⊢; omega) (by omega) (by omega) (by omega) (by omega) sA2 sB2 hS hd) ?_
              rintro _ _ ⟨rfl, R2, hR2, rfl⟩
              exact ⟨_, .refl _, rfl, (A1 ++ B1) ++ R2, fin' _ _ (hR1) hR2, by (simp only [List.append_assoc]) <;> rfl⟩
            · have h3 : ¬ ((mid + m - s : Nat) : Int) < (b : Int) := of_decide_eq_false h3
              have hB2 : B2 = [] := List.eq_nil_of_length_eq_zero (by omega)
              exact ⟨_, .refl _, rfl, (A1 ++ B1) ++ (A2 ++ B2), fin' _ _ (hR1) (by rw [hB2, List.append_nil]; exact Stab.refl sA2), by (simp only [List.append_assoc]) <;> rfl⟩
          · have h2 : ¬ (mid : Int) < ((mid + m - s : Nat) : Int) := of_decide_eq_false h2
            have hA2 : A2 = [] := List.eq_nil_of_length_eq_zero (by omega)
            refine ⟨nofun, fun _ => ?_⟩
            exact ⟨_, .refl _, rfl, (A1 ++ B1) ++ (A2 ++ B2), fin' _ _ (hR1) (by rw [hA2, List.nil_append]; exact Stab.refl sB2), by (simp only [List.append_assoc]) <;> rfl⟩
    · have h1 : ¬ (s : Int) < (m : Int) := of_decide_eq_false h1
      have hA2 : A2 = [] := List.eq_nil_of_length_eq_zero (by omega)
      rw [show P ++ A1 ++ A2 ++ B1 ++ (B2 ++ Q) = P ++ A1 ++ B1 ++ (A2 ++ B2 ++ Q) by rw [hA2]; simp only [List.append_assoc, List.append_nil, List.nil_append]]
      refine ⟨nofun, fun _ => ?_⟩
      refine ⟨fun h2 => ?_, fun h2 => ?_⟩
      · have h2 : (a : Int) < (s : Int) := of_decide_eq_true h2
        refine ⟨fun h3 => ?_, fun h3 => ?_⟩
        · have h3 : (s : Int) < (mid : Int) := of_decide_eq_true h3
          refine callP [0] (fun w S hR hB hS hd => ih (mid - a) (by omega) a s mid P A1 B1 (A2 ++ B2 ++ Q) w S rfl (by simp at hNlen ⊢; omega) ha (by omega) (by omega) (by omega) (by omega) sA1 sB1 hS hd) ?_
          rintro _ _ ⟨rfl, R1, hR1, rfl⟩
          refine ⟨fun h2 => ?_, fun h2 => ?_⟩
          · have h2 : (mid : Int) < ((mid + m - s : Nat) : Int) := of_decide_eq_true h2
            refine ⟨fun h3 => ?_, fun h3 => ?_⟩
            · have h3 : ((mid + m - s : Nat) : Int) < (b : Int) := of_decide_eq_true h3
              have hl1 := (hR1).len
              have hch : P ++ R1 ++ (A2 ++ B2 ++ Q) = (P ++ R1) ++ A2 ++ B2 ++ Q := by simp only [List.append_assoc]
              rw [hch]
              refine callP [0] (fun w S hR hB hS hd => ih (b - mid) (by omega) mid (mid + m - s) b (P ++ R1) A2 B2 Q w S rfl (by simp at hl1 hNlen ⊢; omega) (by simp at hl1 ⊢; omega) (by omega) (by omega) (by omega) (by omega) sA2 sB2 hS hd) ?_
              rintro _ _ ⟨rfl, R2, hR2, rfl⟩
              exact ⟨_, .refl _, rfl, R1 ++ R2, fin' _ _ (hR1) hR2, by (simp only [List.append_assoc]) <;> rfl⟩
            · have h3 : ¬ ((mid + m - s : Nat) : Int) < (b : Int) := of_decide_eq_false h3
              have hB2 : B2 = [] := List.eq_nil_of_length_eq_zero (by omega)
              exact ⟨_, .refl _, rfl, R1 ++ (A2 ++ B2), fin' _ _ (hR1) (by rw [hB2, List.append_nil]; exact Stab.refl sA2), by (simp only [List.append_assoc]) <;> rfl⟩
          · have h2 : ¬ (mid : Int) < ((mid + m - s : Nat) : Int) := of_decide_eq_false h2
            have hA2 : A2 = [] := List.eq_nil_of_length_eq_zero (by omega)
            refine ⟨nofun, fun _ => ?_⟩
            exact ⟨_, .refl _, rfl, R1 ++ (A2 ++ B2), fin' _ _ (hR1) (by rw [hA2, List.nil_append]; exact Stab.refl sB2), by (simp only [List.append_assoc]) <;> rfl⟩
        · have h3 : ¬ (s : Int) < (mid : Int) := of_decide_eq_false h3
          have hB1 : B1 = [] := List.eq_nil_of_length_eq_zero (by omega)
          have hR1 : Stab (A1 ++ B1) (A1 ++ B1) := by rw [hB1, List.append_nil]; exact Stab.refl sA1
          rw [show P ++ A1 ++ B1 ++ (A2 ++ B2 ++ Q) = P ++ (A1 ++ B1) ++ (A2 ++ B2 ++ Q) by simp only [List.append_assoc]]
          refine ⟨fun h2 => ?_, fun h2 => ?_⟩
          · have h2 : (mid : Int) < ((mid + m - s : Nat) : Int) := of_decide_eq_true h2
            refine ⟨fun h3 => ?_, fun h3 => ?_⟩
            · have h3 : ((mid + m - s : Nat) : Int) < (b : Int) := of_decide_eq_true h3
              have hl1 := (hR1).len
              have hch : P ++ (A1 ++ B1) ++ (A2 ++ B2 ++ Q) = (P ++ (A1 ++ B1)) ++ A2 ++ B2 ++ Q := by simp only [List.append_assoc]
              rw [hch]
              refine callP [0] (fun w S hR hB hS hd => ih (b - mid) (by omega) mid (mid + m - s) b (P ++ (A1 ++ B1)) A2 B2 Q w S rfl (by simp at hl1 hNlen ⊢; omega) (by simp at hl1 ⊢; omega) (by omega) (by omega) (by omega) (by omega) sA2 sB2 hS hd) ?_
              rintro _ _ ⟨rfl, R2, hR2, rfl⟩
              exact ⟨_, .refl _, rfl, (A1 ++ B1) ++ R2, fin' _ _ (hR1) hR2, by (simp only [List.append_assoc]) <;> rfl⟩
            · have h3 : ¬ ((mid + m - s : Nat) : Int) < (b : Int) := of_decide_eq_false h3
              have hB2 : B2 = [] := List.eq_nil_of_length_eq_zero (by omega)
              exact ⟨_, .refl _, rfl, (A1 ++ B1) ++ (A2 ++ B2), fin' _ _ (hR1) (by rw [hB2, List.append_nil]; exact Stab.refl sA2), by (simp only [List.append_assoc]) <;> rfl⟩
          · have h2 : ¬ (mid : Int) < ((mid + m - s : Nat) : Int) := of_decide_eq_false h2
            have hA2 : A2 = [] := List.eq_nil_of_length_eq_zero (by omega)
            refine ⟨nofun, fun _ => ?_⟩
            exact ⟨_, .refl _, rfl, (A1 ++ B1) ++ (A2 ++ B2), fin' _ _ (hR1) (by rw [hA2, List.nil_append]; exact Stab.refl sB2), by (simp only [List.append_assoc]) <;> rfl⟩
      · have h2 : ¬ (a : Int) < (s : Int) := of_decide_eq_false h2
        have hA1 : A1 = [] := List.eq_nil_of_length_eq_zero (by omega)
        have hR1 : Stab (A1 ++ B1) (A1 ++ B1) := by rw [hA1, List.nil_append]; exact Stab.refl sB1
        rw [show P ++ A1 ++ B1 ++ (A2 ++ B2 ++ Q) = P ++ (A1 ++ B1) ++ (A2 ++ B2 ++ Q) by simp only [List.append_assoc]]
        refine ⟨nofun, fun _ => ?_⟩
        refine ⟨fun h2 => ?_, fun h2 => ?_⟩
        · have h2 : (mid : Int) < ((mid + m - s : Nat) : Int) := of_decide_eq_true h2
          refine ⟨fun h3 => ?_, fun h3 => ?_⟩
          · have h3 : ((mid + m - s : Nat) : Int) < (b : Int) := of_decide_eq_true h3
            have hl1 := (hR1).len
            have hch : P ++ (A1 ++ B1) ++ (A2 ++ B2 ++ Q) = (P ++ (A1 ++ B1)) ++ A2 ++ B2 ++ Q := by simp only [List.append_assoc]
            rw [hch]
            refine callP [0] (fun w S hR hB hS hd => ih (b - mid) (by omega) mid (mid + m - s) b (P ++ (A1 ++ B1)) A2 B2 Q w S rfl (by simp at hl1 hNlen ⊢; omega) (by simp at hl1 ⊢; omega) (by omega) (by omega) (by omega) (by omega) sA2 sB2 hS hd) ?_
            rintro _ _ ⟨rfl, R2, hR2, rfl⟩
            exact ⟨_, .refl _, rfl, (A1 ++ B1) ++ R2, fin' _ _ (hR1) hR2, by (simp only [List.append_assoc]) <;> rfl⟩
          · have h3 : ¬ ((mid + m - s : Nat) : Int) < (b : Int) := of_decide_eq_false h3
            have hB2 : B2 = [] := List.eq_nil_of_length_eq_zero (by omega)
            exact ⟨_, .refl _, rfl, (A1 ++ B1) ++ (A2 ++ B2), fin' _ _ (hR1) (by rw [hB2, List.append_nil]; exact Stab.refl sA2), by (simp only [List.append_assoc]) <;> rfl⟩
        · have h2 : ¬ (mid : Int) < ((mid + m - s : Nat) : Int) := of_decide_eq_false h2
          have hA2 : A2 = [] := List.eq_nil_of_length_eq_zero (by omega)
          refine ⟨nofun, fun _ => ?_⟩
          exact ⟨_, .refl _, rfl, (A1 ++ B1) ++ (A2 ++ B2), fin' _ _ (hR1) (by rw [hA2, List.nil_append]; exact Stab.refl sB2), by (simp only [List.append_assoc]) <;> rfl⟩
end Go.Proofs.YtfebaopjfmpfkaaDoor
