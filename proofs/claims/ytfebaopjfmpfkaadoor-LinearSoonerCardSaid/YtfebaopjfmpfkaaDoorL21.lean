/- LinearSooner: the walk; slices of bytes that are handed in. -/
import Derived.Test.YtfebaopjfmpfkaaDoorL17
import Derived.Test.YtfebaopjfmpfkaaDoorL8
namespace Go.Proofs.YtfebaopjfmpfkaaDoor
open Go.X Go.ChangeShapes Go.WideShapes Go.Deep
set_option maxRecDepth 10000
set_option linter.unusedVariables false
set_option linter.unusedSimpArgs false

def encU8 (k : Int) : List Value := [.int .u8 k]
theorem open_u8s {H : Type} {enc : TypeId × Value → H} {W : World} {base : Nat} {spare : Nat → Bool} {held : Bool} {fuel : Nat} {cs : List Value} {x : DataW H × List MemPlace} (h : DataW.trod enc Tryd.prog W base spare held fuel 35 cs = some x) :
    ∃ la n cap, ∃ xs : List Int, cs = [.slice la n cap] ∧ xs.length = n ∧ n ≤ cap ∧ cap ≤ maxLen ∧ (∀ k ∈ xs, 0 ≤ k ∧ k ≤ 255) ∧ RO W (fun _ => False) (roS la 1 encU8 xs) := by
  have c5 : Tryd.prog.cellsOf 5 = 1 := by kernel_rfl
  rcases open_ints (k := .u8) Tryd.underlying35 Tryd.underlying5 c5 h with ⟨rfl, _⟩ | ⟨a, len, cap, zs, rfl, hb, hl, hc, hzl, hx, hcell, hwf⟩
  · exact ⟨none, 0, 0, [], rfl, rfl, Nat.le_refl _, Nat.zero_le _, by simp, roS_nil⟩
  · have hlm : len ≤ zs.length := by rw [hzl]; split <;> omega
    have hspot : zs.take len ≠ [] → a.spot = none := fun hne => by
      have hpos : 0 < zs.length := by
        cases zs with
        | nil => simp at hne
        | cons z zs => simp
      have := hcell 0 hpos
      simp only [Addr.add, if_true] at this
      exact World.cell?_spot (w := W) this
    refine ⟨some a, len, cap, zs.take len, rfl, by simp; omega, hl, hc, fun k hk => ?_, ⟨fun k => ∃ a', some a = some a' ∧ k = a'.block ∧ zs.take len ≠ [], ⟨fun k => Iff.rfl, fun _ => by decide, fun _ _ => rfl, fun hne => ?_⟩, fun _ _ h => h⟩⟩
    · have := hwf k (List.mem_of_mem_take hk)
      have e1 : IntKind.u8.min = 0 := rfl
      have e2 : IntKind.u8.max = 255 := rfl
      simp only [Lit.wf, e1, e2, Bool.and_eq_true, decide_eq_true_eq] at this
      exact this
    obtain ⟨b, o, sp⟩ := a
    have hs := hspot hne
    simp only at hs
    subst hs
    refine ⟨b, o, rfl, fun i z hi j v hj => ?_⟩
    cases j with
    | succ j => simp [encU8] at hj
    | zero =>
      simp [encU8] at hj
      subst hj
      rw [List.getElem?_take] at hi
      split at hi
      · obtain ⟨hlt, he⟩ := List.getElem?_eq_some_iff.1 hi
        have := hcell i hlt
        rw [Addr.add_none] at this
        simp only [Nat.mul_one, Nat.add_zero]
        rw [this, List.getD_eq_getElem?_getD, hi]; rfl
      · cases hi

def wid (c : Cl) (e l : Int) : Cl := { c with bg := max c.bg 0 - min (max c.bg 0) e, en := min (min c.en 1000000 + l) 1000000 }
theorem wid_wider {c : Cl} (hc : OkCl c) {e l : Int} (he : 0 ≤ e) (hl : 0 ≤ l) : Wider c (wid c e l) := by
  have := hc.bg
  have := hc.en
  refine ⟨rfl, ?_, ?_, rfl, rfl, rfl, rfl, rfl, rfl⟩ <;> simp only [wid] <;> omega

theorem sooner_spec (la ea ta : Option Addr) (n cap m1 c1 m2 c2 : Nat) (xs : List Cl) (es ts : List Int) (w : World) (S : FP) (hi64 : ∀ c ∈ xs, InI c) (hT : RO w S tabC) (hl : RO w S (roS la 9 encCl xs)) (hn : xs.length = n)
    (hE : RO w S (roS ea 1 encU8 es)) (hes : es.length = m1) (hEr : ∀ k ∈ es, 0 ≤ k ∧ k ≤ 255) (hF : RO w S (roS ta 1 encU8 ts)) (hts : ts.length = m2) (hFr : ∀ k ∈ ts, 0 ≤ k ∧ k ≤ 255)
    (hc : n ≤ cap) (hc2 : cap ≤ maxLen) (hd : ∀ b, S b → b < w.heap.size) :
    Trip Tryd.prog 7 #[.slice la n cap, .slice ea m1 c1, .slice ta m2 c2] w S fun v L => v = .bool true ∧ L = [] := by
  have hr : InR xs := .of hi64
  refine Trip.of_x (L := []) Tryd.func7 (by kernel_rfl) rfl Tryd.ntmps7 Tryd.results7 rfl (ctx_ok _) trivial hd ?_
  refine ⟨fun h => ?_, fun h => ?_⟩
  · repeat (refine ⟨fun _ => ?_, nofun⟩)
    refine callP [] (fun w S hR hB hS hd => awake_spec w S (hR _ hT) hd) ?_
    rintro _ _ ⟨rfl, rfl⟩
    exact ⟨_, .pick [], rfl, rfl⟩
  have hn30 : n ≤ 30 := by have := of_decide_eq_false h; omega
  refine ⟨fun h => ?_, fun h => ?_⟩
  · repeat (refine ⟨fun _ => ?_, nofun⟩)
    refine callP [] (fun w S hR hB hS hd => awake_spec w S (hR _ hT) hd) ?_
    rintro _ _ ⟨rfl, rfl⟩
    exact ⟨_, .pick [], rfl, rfl⟩
  have hm1 : n ≤ m1 := by have := of_decide_eq_false h; omega
  refine ⟨fun h => ?_, fun h => ?_⟩
  · refine callP [] (fun w S hR hB hS hd => awake_spec w S (hR _ hT) hd) ?_
    rintro _ _ ⟨rfl, rfl⟩
    exact ⟨_, .pick [], rfl, rfl⟩
  have hm2 : n ≤ m2 := by have := of_decide_eq_false h; omega
  refine loopI (σ := Nat × List Cl × Option Addr × Nat) (fun s => [(0, .slice la n cap), (1, .slice ea m1 c1), (2, .slice ta m2 c2), (7, .slice s.2.2.1 s.2.1.length s.2.2.2), (8, .int .i64 s.1)]) (fun s => [own s.2.2.1 s.2.2.2 41 9 encCl s.2.1])
    (fun s => s.1 ≤ n ∧ s.2.1.length ≤ s.2.2.2 ∧ s.2.1.length = s.1 ∧ ∀ (i : Nat) (c : Cl), i < s.1 → xs[i]? = some c → ∃ e l, 0 ≤ e ∧ 0 ≤ l ∧ s.2.1[i]? = some (wid c e l)) (fun s => n - s.1) (0, [], none, 0) ⟨rfl, rfl, rfl, rfl, rfl, trivial⟩ own_nil ⟨Nat.zero_le _, Nat.le_refl _, rfl, fun i c h => absurd h (by simp)⟩ ?_
  rintro ⟨k, ys, ya, yc⟩ ⟨hk, hyc, hyl, hys⟩
  have hk : k ≤ n := hk
  have hyc : ys.length ≤ yc := hyc
  have hyl : ys.length = k := hyl
  have hys : ∀ (i : Nat) (c : Cl), i < k → xs[i]? = some c → ∃ e l, 0 ≤ e ∧ 0 ≤ l ∧ ys[i]? = some (wid c e l) := hys
  refine ⟨fun hlt => ?_, fun hge => ?_⟩
  · have hkn : k < n := by have := of_decide_eq_true hlt; simp at this; omega
    obtain ⟨x, hx⟩ : ∃ x, xs[k]? = some x := ⟨xs[k]'(by omega), by simp [show k < xs.length by omega]⟩
    obtain ⟨e, he⟩ : ∃ e, es[k]? = some e := ⟨es[k]'(by omega), by simp [show k < es.length by omega]⟩
    obtain ⟨l, ht⟩ : ∃ l, ts[k]? = some l := ⟨ts[k]'(by omega), by simp [show k < ts.length by omega]⟩
    obtain ⟨he0, he1⟩ := hEr e (List.mem_of_getElem? he)
    obtain ⟨hl0, hl1⟩ := hFr l (List.mem_of_getElem? ht)
    have hxi := hi64 x (List.mem_of_getElem? hx)
    obtain ⟨hb1, hb2⟩ := hxi.bg
    obtain ⟨hf1, hf2⟩ := hxi.en
    obtain ⟨b, o, rfl⟩ := roS_at hl (by omega)
    obtain ⟨b1, o1, rfl⟩ := roS_at hE (by omega)
    obtain ⟨b2, o2, rfl⟩ := roS_at hF (by omega)
    refine ⟨k, rfl, by omega, ?_⟩
    refine ⟨_, ldRA hl k hx rfl rfl rfl rfl, ?_⟩
    intro cb
    refine st 0 rfl rfl rfl rfl rfl ?_
    refine Or.inr (Or.inl ⟨⟨by kernel_rfl, by kernel_rfl, rfl⟩, ?_⟩)
    refine ⟨_, ld 0 rfl rfl rfl, ?_⟩
    refine ⟨_, rfl, ?_⟩
    refine ⟨_, ld 0 rfl rfl rfl, ?_⟩
    refine ⟨_, rfl, ?_⟩
    refine ⟨k, rfl, by omega, ?_⟩
    refine ⟨_, ldR hE k 0 he rfl rfl (by show o1 + k = o1 + (k * 1 + 0); omega), ?_⟩
    refine ⟨e, wrap_i64 (by omega) (by omega), ?_⟩
    refine ⟨_, rfl, ?_⟩
    refine ⟨max x.bg 0 - min (max x.bg 0) e, wrap_i64 (by omega) (by omega), ?_⟩
    refine st 0 rfl rfl rfl rfl rfl ?_
    refine Or.inr (Or.inl ⟨⟨by kernel_rfl, by kernel_rfl, rfl⟩, ?_⟩)
    refine ⟨_, ld 0 rfl rfl rfl, ?_⟩
    refine ⟨_, rfl, ?_⟩
    refine ⟨k, rfl, by omega, ?_⟩
    refine ⟨_, ldR hF k 0 ht rfl rfl (by show o2 + k = o2 + (k * 1 + 0); omega), ?_⟩
    refine ⟨l, wrap_i64 (by omega) (by omega), ?_⟩
    refine ⟨min x.en 1000000 + l, wrap_i64 (by omega) (by omega), ?_⟩
    refine st 0 rfl rfl rfl rfl rfl ?_
    refine ⟨_, ld 0 rfl rfl rfl, ?_⟩
    refine ⟨_, rfl, ?_⟩
    refine st 0 rfl rfl rfl rfl rfl ?_
    refine ⟨_, ldA 0 rfl rfl rfl rfl rfl, ?_⟩
    refine bldS (encCl ⟨0, 0, 0, 0, 0, 0, 0, 0, 0⟩) rfl rfl rfl rfl rfl (by kernel_rfl) rfl fun vb => ?_
    refine appO 2 0 (wid x e l) rfl rfl rfl rfl rfl (by decide) rfl rfl rfl rfl rfl rfl (by show ys.length + 1 ≤ 2 ^ 31; omega) (by decide) fun g' cap' hcap' => ?_
    refine ⟨_, wrap_i64 (by omega) (by omega), ?_⟩
    exact backI (k + 1, ys ++ [wid x e l], some ⟨g', 0, none⟩, cap') (by show n - (k + 1) < n - k; omega) ⟨by show k + 1 ≤ n; omega, by show (ys ++ [_]).length ≤ cap'; simpa using hcap', by show (ys ++ [_]).length = k + 1; simp [hyl], fun i c hi hxc => by
      show ∃ e' l', 0 ≤ e' ∧ 0 ≤ l' ∧ (ys ++ [wid x e l])[i]? = some (wid c e' l')
      have hi : i < k + 1 := hi
      rcases Nat.lt_or_ge i k with h | h
      · obtain ⟨e', l', q1, q2, q3⟩ := hys i c h hxc
        exact ⟨e', l', q1, q2, by rw [List.getElem?_append_left (by omega)]; exact q3⟩
      · obtain rfl : i = k := by omega
        rw [hx] at hxc; cases hxc
        exact ⟨e, l, he0, hl0, by rw [List.getElem?_append_right (by omega), hyl]; simp⟩⟩ ⟨rfl, rfl, rfl, by show _ = some (Value.slice _ (ys ++ [wid x e l]).length _); rw [List.length_append]; rfl, rfl, trivial⟩ (Ent.pick [2])
  · have hkn : k = n := by have := of_decide_eq_false hge; simp at this; omega
    subst hkn
    have hry : InR ys := fun c hcy => by
      obtain ⟨i, hi⟩ := List.mem_iff_getElem?.1 hcy
      have hil := (List.getElem?_eq_some_iff.1 hi).1
      obtain ⟨x, hx⟩ : ∃ x, xs[i]? = some x := ⟨xs[i]'(by omega), by simp [show i < xs.length by omega]⟩
      obtain ⟨e, l, _, _, h⟩ := hys i x (by omega) hx
      rw [hi] at h; cases h
      exact hr x (List.mem_of_getElem? hx)
    refine callP [] (fun w S hR hB hS hd => Check_at la _ cap xs w S hr (hR _ hT) (hR _ hl) hn hc (by omega) hd) ?_
    rintro _ _ ⟨e1, o1, a1, c1, rfl, hchk1, _, rfl⟩
    refine callP [] (fun w S hR hB hS hd => Check_at ya ys.length yc ys w S hry (hR _ hT) ((hB _ (lget_mem (i := 1) rfl)).own (fun _ _ => rfl) (by decide)) rfl hyc (by omega) hd) ?_
    rintro _ _ ⟨e2, o2, a2, c2, rfl, hchk2, _, rfl⟩
    have hlaw : e1 = 0 → e2 = 0 ∨ e2 = 2 := fun h0 => by
      subst h0
      obtain ⟨hc0, hle⟩ : chk xs = 0 ∧ Least xs 0 [] o1 := by
        rcases hchk1 with ⟨h1, h2, _⟩ | ⟨h1, _, h2⟩ | ⟨_, h2, _⟩
        · exact absurd h2.symm h1
        · exact ⟨h1, h2⟩
        · omega
      obtain ⟨hs64, hval⟩ := chk_ok hc0
      have hw : ∀ (i : Nat) (c : Cl), xs[i]? = some c → ∃ d, ys[i]? = some d ∧ Wider c d := fun i c hi => by
        obtain ⟨e, l, q1, q2, q3⟩ := hys i c (by have := (List.getElem?_eq_some_iff.1 hi).1; omega) hi
        exact ⟨_, q3, wid_wider (hval i c hi).1 q1 q2⟩
      rcases hchk2 with ⟨h1, h2, _⟩ | ⟨_, h, _⟩ | ⟨_, _, _, h⟩
      · right
        rw [h2]
        unfold chk at h1 ⊢
        rw [if_neg (by omega)] at h1 ⊢
        split at h1
        · exact absurd rfl h1
        · rename_i hv; rw [if_neg hv]
      · exact .inl h
      · exact absurd (hle.1.wider hs64 (by omega) hw) (h o1)
    have done : ∀ {C : Ctx} {L : List Chunk} {K : Value → List Chunk → Prop}, C.P = Tryd.prog → RO C.w0 C.S0 tabC → K (.bool true) L → CallX C L 13 [] K := fun {C L K} hP hT hk => by
      obtain ⟨P, tab, n, w0, S0⟩ := C
      simp only at hP hT
      subst hP
      refine callP [] (fun w S hR hB hS hd => awake_spec w S (hR _ hT) hd) ?_
      rintro _ _ ⟨rfl, rfl⟩
      exact hk
    refine ⟨fun h => ?_, fun h => ?_⟩
    · repeat (refine ⟨fun _ => ?_, nofun⟩)
      refine done rfl hT ?_
      exact ⟨_, .pick [], rfl, rfl⟩
    · have h0 : e1 = 0 := by simpa using h
      rcases hlaw h0 with rfl | rfl
      · refine ⟨fun _ => ?_, fun h => absurd h (by decide)⟩
        repeat (refine ⟨fun _ => ?_, nofun⟩)
        refine done rfl hT ?_
        exact ⟨_, .pick [], rfl, rfl⟩
      · refine ⟨fun h => absurd h (by decide), fun _ => ?_⟩
        refine ⟨fun _ => ?_, fun h => absurd h (by decide)⟩
        refine done rfl hT ?_
        exact ⟨_, .pick [], rfl, rfl⟩
end Go.Proofs.YtfebaopjfmpfkaaDoor
