/- Package linear: the search. -/
import Derived.Test.YtfebaopjfmpfkaaDoorL5
namespace Go.Proofs.YtfebaopjfmpfkaaDoor
open Go.X
set_option maxRecDepth 10000
set_option linter.unusedVariables false
set_option linter.unusedSimpArgs false

def encB (b : Bool) : Value := .bool b
def encN (i : Nat) : List Value := [.int .i64 i]
theorem zero4 (w : World) : (zeroValue 4).run Tryd.prog w = .ok (.bool false) w := by kernel_rfl
abbrev Dead := List ((Int × ByteArray) × Bool)
/-- From the states that are dead no right order leads on. -/
def DeadOk (xs : List Cl) (dead : Dead) : Prop := ∀ (D : Nat) (t : ByteArray), D < 2 ^ 64 → lk dead ((D : Int), t) = some true → ∀ M, LiveOk M → txt M = t → ∀ o, ¬ Good xs D M o
theorem lk_ins {κ α : Type} [DecidableEq κ] {M : List (κ × α)} {k k' : κ} {v : α} : lk (ins M k v) k' = if k = k' then some v else lk M k' := by
  induction M with
  | nil => simp only [ins, lk]
  | cons p M ih =>
    obtain ⟨q, u⟩ := p
    simp only [ins]
    by_cases h : q = k
    · subst h
      rw [if_pos rfl]
      simp only [lk]
      by_cases h' : q = k' <;> simp [h']
    · rw [if_neg h]
      simp only [lk, ih]
      by_cases h1 : q = k' <;> by_cases h2 : k = k' <;> simp_all
theorem accF_no {M : List (Int × Int)} {c : Cl} (h : (accF M c).1 = false) : (accF M c).2 = M := by
  unfold accF at h ⊢
  split
  · rename_i hk
    rw [if_pos hk] at h
    split
    · rfl
    · rename_i h6; rw [if_neg h6] at h
      split
      · rfl
      · rename_i h7; rw [if_neg h7] at h
        split
        · rfl
        · rename_i h8; rw [if_neg h8] at h; cases h
  · rename_i hk
    rw [if_neg hk] at h
    split
    · rename_i h1; rw [if_pos h1] at h
      split
      · rfl
      · rename_i h2; rw [if_neg h2] at h
        split
        · rename_i h3; rw [if_pos h3] at h; cases h
        · rfl
    · rfl

/-- The search's own struct. -/
def srch (sb : Nat) (la : Option Addr) (n cap : Nat) (db : Option Nat) (oa : Option Addr) (m oc : Nat) : Chunk := pt sb [.slice la n cap, .map db, .slice oa m oc] 70
def OutOk (xs : List Cl) (out : List Nat) : Prop := out.length ≤ 64

theorem goOn_spec (xs : List Cl) (hx : HistOk xs) (la : Option Addr) (n cap sb mb db : Nat) (hn : xs.length = n) : ∀ (μ : Nat) (D : Nat) (M : List (Int × Int)) (out : List Nat) (dead : Dead) (oa : Option Addr) (oc : Nat) (w : World) (S : FP),
    μ = n - out.length → Done xs D out → LiveOk M → M.length ≤ out.length → DeadOk xs dead → RO w S tabC → RO w S (roS la 9 encCl xs) → out.length ≤ oc → Sep [srch sb la n cap (some db) oa out.length oc, mp mb encI encI M, mp db encSt encB dead, own oa oc 3 1 encN out] w S → (∀ b, S b → b < w.heap.size) →
    Trip Tryd.prog 41 #[.pointer (some ⟨sb, 0, none⟩), .int .u64 (D : Int), .map (some mb)] w S fun v L =>
      (∃ o oa' oc', v = .bool true ∧ Least xs D M o ∧ L = [srch sb la n cap (some db) oa' (out ++ o).length oc', own oa' oc' 3 1 encN (out ++ o)]) ∨
      (∃ M' dead' oa' oc', v = .bool false ∧ (∀ o, ¬ Good xs D M o) ∧ M.Perm M' ∧ DeadOk xs dead' ∧ out.length ≤ oc' ∧ L = [srch sb la n cap (some db) oa' out.length oc', mp mb encI encI M', mp db encSt encB dead', own oa' oc' 3 1 encN out]) := by
  intro μ
  induction μ using Nat.strongRecOn with
  | _ μ ih =>
  intro D M out dead oa oc w S hμ hDn hL hMl hdead hT hl hoc hS hd
  refine Trip.of_x (L := [srch sb la n cap (some db) oa out.length oc, mp mb encI encI M, mp db encSt encB dead, own oa oc 3 1 encN out]) Tryd.func41 (by kernel_rfl) rfl Tryd.ntmps41 Tryd.results41 rfl (ctx_ok _) hS hd ?_
  refine Or.inl ⟨by kernel_rfl, ?_⟩
  refine ⟨_, ld 0 rfl rfl rfl, ?_⟩
  refine ⟨_, ld 0 rfl rfl rfl, ?_⟩
  refine ⟨fun h => ?_, fun h => ?_⟩
  · have h : out.length = n := by have := of_decide_eq_true h; omega
    refine ⟨_, (Ent.pick [0, 2] : Ent _ [srch sb la n cap (some db) oa out.length oc, own oa oc 3 1 encN out]), .inl ⟨[], oa, oc, rfl, ⟨⟨trivial, hDn.full (by omega)⟩, fun _ _ => trivial⟩, by simp⟩⟩
  have h : out.length ≠ n := by have := of_decide_eq_false h; omega
  have hnf : ¬ Full xs D [] := hDn.notFull (by omega)
  have hle := hDn.le
  have hsm := hx.small
  refine callP [1] (fun w S hR hB hS hd => text_spec mb M w S (hR _ hT) hS hd hL (by omega)) ?_
  rintro _ _ ⟨rfl, rfl⟩
  refine ⟨rfl, Nat.le_of_ble_eq_true rfl, rfl, Nat.le_of_ble_eq_true rfl, ?_⟩
  intro hb
  refine st 0 rfl rfl rfl rfl rfl ?_
  refine Or.inl ⟨by kernel_rfl, ?_⟩
  refine ⟨_, ld 2 rfl rfl rfl, ?_⟩
  refine ⟨_, ldA 0 rfl rfl rfl rfl rfl, ?_⟩
  by_cases hde : lk dead ((D : Int), txt M) = some true
  · refine ⟨_, lookS' (encK := encSt) (encV := encB) (k := ((D : Int), txt M)) (a := true) (.bool false) 3 hde law_st rfl rfl rfl zero4, ?_⟩
    refine ⟨fun _ => ?_, nofun⟩
    exact ⟨_, (Ent.pick [2, 1, 1, 1] : Ent _ [srch sb la n cap (some db) oa out.length oc, mp mb encI encI M, mp db encSt encB dead, own oa oc 3 1 encN out]), .inr ⟨M, dead, oa, oc, rfl, hdead D _ hDn.lt hde M hL rfl, .refl _, hdead, hoc, rfl⟩⟩
  have hlook : RunsTo ⟨Tryd.prog, tab, 134, w, S⟩ [pt hb [.int .u64 D, .string (txt M)] 97, mp mb encI encI M, srch sb la n cap (some db) oa out.length oc, mp db encSt encB dead, own oa oc 3 1 encN out]
      (Instr.lookup 68 (.map (some db)) (encSt ((D : Int), txt M)) false) (.bool false) := by
    have := ctx_ok 134 w S
    cases hq : lk dead ((D : Int), txt M) with
    | none => exact lookN' 3 hq law_st rfl rfl rfl zero4
    | some b =>
      cases b with
      | true => exact absurd hq hde
      | false => exact lookS' (.bool false) 3 hq law_st rfl rfl rfl zero4
  refine ⟨_, hlook, ?_⟩
  refine ⟨nofun, fun _ => ?_⟩
  refine ⟨_, ld 2 rfl rfl rfl, ?_⟩
  refine loopI (σ := Nat × List (Int × Int) × Dead × Option Addr × Nat) (fun s => [(0, .pointer (some ⟨sb, 0, none⟩)), (1, .int .u64 D), (2, .map (some mb)), (7, .pointer (some ⟨hb, 0, none⟩)), (36, .slice la n cap), (37, .int .i64 n), (38, .int .i64 s.1)])
    (fun s => [pt hb [.int .u64 D, .string (txt M)] 97, srch sb la n cap (some db) s.2.2.2.1 out.length s.2.2.2.2, mp mb encI encI s.2.1, mp db encSt encB s.2.2.1, own s.2.2.2.1 s.2.2.2.2 3 1 encN out])
    (fun s => s.1 ≤ n ∧ M.Perm s.2.1 ∧ DeadOk xs s.2.2.1 ∧ out.length ≤ s.2.2.2.2 ∧ ∀ j, j < s.1 → ∀ r, ¬ Good xs D M (j :: r)) (fun s => n - s.1) (0, M, dead, oa, oc) ⟨rfl, rfl, rfl, rfl, rfl, rfl, rfl, trivial⟩ (Ent.pick [0, 1, 0, 0, 0]) ⟨Nat.zero_le _, .refl _, hdead, hoc, fun j hj => by omega⟩ ?_
  rintro ⟨i, Mi, dd, oa, oc⟩ ⟨hi, hMi, hdd, hoc, hno⟩
  have hMi : M.Perm Mi := hMi
  have hoc : out.length ≤ oc := hoc
  have hLi := hL.perm hMi
  refine ⟨fun hlt => ?_, fun hge => ?_⟩
  · have hin : i < n := by have := of_decide_eq_true hlt; simp at this; omega
    obtain ⟨c, hcx⟩ : ∃ c, xs[i]? = some c := ⟨xs[i]'(by omega), by simp [show i < xs.length by omega]⟩
    have hco := hx.cl hcx
    obtain ⟨b, o, rfl⟩ := roS_at hl (by omega)
    refine ⟨i, rfl, hin, ?_⟩
    refine ⟨_, ldRA hl i hcx rfl rfl rfl rfl, ?_⟩
    intro cb
    refine st 0 rfl rfl rfl rfl rfl ?_
    refine callP [] (fun w S hR hB _ hd => can_spec sb b o n cap _ xs (D : Int) i c w S (hB _ (lget_mem (i := 2) rfl)) (hR _ hl) hn (by omega) hcx hd) ?_
    rintro _ _ ⟨rfl, rfl⟩
    -- a call that does not lead on
    have step : (∀ r, ¬ Good xs D M (i :: r)) → ∀ j, j < i + 1 → ∀ r, ¬ Good xs D M (j :: r) := fun h j hj => by
      rcases Nat.lt_or_ge j i with h' | h'
      · exact hno j h'
      · obtain rfl : j = i := by omega
        exact h
    refine ⟨fun hcan => ?_, fun hcan => ?_⟩
    · have hcan : canB xs D i c.bg = false := by simpa using hcan
      refine ⟨_, wrap_i64 (by omega) (by omega), ?_⟩
      exact backI (i + 1, Mi, dd, oa, oc) (by show n - (i + 1) < n - i; omega) ⟨hin, hMi, hdd, hoc, step fun r hg => by
        obtain ⟨c', h1, h2, _⟩ := hg.tail
        rw [hcx] at h1; cases h1
        rw [hcan] at h2; cases h2⟩ ⟨rfl, rfl, rfl, rfl, rfl, rfl, rfl, trivial⟩ (.pick [1, 1, 1, 1, 1])
    have hcan : canB xs D i c.bg = true := by simpa using hcan
    refine ⟨_, ld 0 rfl rfl rfl, ?_⟩
    refine ⟨_, lookI rfl rfl 3 c.addr rfl, ?_⟩
    refine ⟨_, ld 0 rfl rfl rfl, ?_⟩
    refine ⟨fun hk => ?_, fun hk => ?_⟩
    · have hk : c.kind = 1 := of_decide_eq_true hk
      refine ⟨_, ld 0 rfl rfl rfl, ?_⟩
      refine ⟨_, lookI2 rfl rfl 3 c.addr rfl, ?_⟩
      refine ⟨_, ldA 0 rfl rfl rfl rfl rfl, ?_⟩
      refine callP [3] (fun w S hR hB hS hd => accept_spec mb Mi c w S hS hd (fun hk => by have := (hco.ok.mal hk).2.2.1; omega) hco.ra hLi.key) ?_
      rintro _ _ ⟨rfl, rfl⟩
      obtain ⟨eacc, pacc⟩ := accF_perm hMi hL c hco
      refine ⟨fun hacc => ?_, fun hacc => ?_⟩
      · have hacc : (accF Mi c).1 = false := by simpa using hacc
        refine ⟨_, wrap_i64 (by omega) (by omega), ?_⟩
        exact backI (i + 1, (accF Mi c).2, dd, oa, oc) (by show n - (i + 1) < n - i; omega) ⟨hin, by show M.Perm (accF Mi c).2; rw [accF_no hacc]; exact hMi, hdd, hoc, step fun r hg => by
          obtain ⟨c', h1, _, h3, _⟩ := hg.tail
          rw [hcx] at h1; cases h1
          rw [eacc, hacc] at h3; cases h3⟩ ⟨rfl, rfl, rfl, rfl, rfl, rfl, rfl, trivial⟩ (Ent.pick [2, 2, 0, 1, 1])
      have hacc : (accF Mi c).1 = true := by simpa using hacc
      refine ⟨_, ld 3 rfl rfl rfl, ?_⟩
      refine bldS [.int .i64 0] rfl rfl rfl rfl rfl (by kernel_rfl) rfl fun vb => ?_
      refine appO 6 0 i rfl rfl rfl rfl rfl (by decide) rfl rfl rfl rfl rfl rfl (by omega) (by decide) fun g cap' hcap' => ?_
      refine st 4 rfl rfl rfl rfl rfl ?_
      refine ⟨by omega, _, rfl, ?_⟩
      refine ⟨((D ||| 2 ^ i : Nat) : Int), (setB_nat hDn.lt (by omega)).symm, ?_⟩
      have hlen : (out ++ [i]).length = out.length + 1 := by simp
      have ih' := ih (n - (out ++ [i]).length) (by omega) (D ||| 2 ^ i) (accF Mi c).2 (out ++ [i]) dd (some ⟨g, 0, none⟩) cap'
      rw [hlen] at ih'
      have hMl' : (accF Mi c).2.length ≤ out.length + 1 := by have := accF_len (M := Mi) c; have := hMi.length_eq; omega
      refine callP [4, 1, 3, 3] (fun w S hR hB hS hd => ih' w S rfl (hDn.push hx.small (by omega) (canB_has hDn.lt (by omega) hcan)) (accF_ok hLi c hco) hMl' hdd (hR _ hT) (hR _ hl) hcap' hS hd) ?_
      rintro _ _ (⟨o', oa', oc', rfl, hle', rfl⟩ | ⟨M', dead', oa', oc', rfl, hnone, hpM, hdd', hoc', rfl⟩)
      · refine ⟨fun _ => ?_, nofun⟩
        exact ⟨_, (Ent.pick [0, 0] : Ent _ [srch sb (some ⟨b, o, none⟩) n cap (some db) oa' (out ++ [i] ++ o').length oc', own oa' oc' 3 1 encN (out ++ [i] ++ o')]), .inl ⟨i :: o', oa', oc', rfl, Least.cons hnf hcx hcan (eacc ▸ hacc) (hle'.perm hx pacc.symm (accF_ok hLi c hco)) hno, by simp⟩⟩
      refine ⟨nofun, fun _ => ?_⟩
      have hno' : ∀ r, ¬ Good xs D M (i :: r) := fun r hg => by
        obtain ⟨c', h1, _, h3, h4⟩ := hg.tail
        rw [hcx] at h1; cases h1
        exact hnone r (h4.perm hx pacc (accF_ok hL c hco))
      refine Or.inr (Or.inl ⟨⟨by kernel_rfl, by kernel_rfl, rfl⟩, ?_⟩)
      refine ⟨_, ld 0 rfl rfl rfl, ?_⟩
      refine ⟨_, ld 0 rfl rfl rfl, ?_⟩
      refine ⟨(out.length : Int), by rw [show (((out.length + 1 : Nat) : Int) - 1) = out.length by omega]; exact wrap_i64 (by omega) (by omega), ?_⟩
      refine ⟨_, slHi out.length rfl (by omega) rfl rfl rfl, ?_⟩
      refine st 0 rfl rfl rfl rfl rfl ?_
      have hown : ∀ L, Ent (own oa' oc' 3 1 encN (out ++ [i]) :: L) (own oa' oc' 3 1 encN out :: L) := fun L => by
        have := own_take (L := L) (a := oa') (cap := oc') (e := 3) (sz := 1) (enc := encN) (xs := out ++ [i]) out.length (by simp) (fun _ _ => rfl)
        rwa [List.take_left'] at this
        rfl
      refine ⟨_, ld 5 rfl rfl rfl, ?_⟩
      refine ⟨fun hk0 => absurd (of_decide_eq_true hk0) (by omega), fun _ => ?_⟩
      refine ⟨nofun, fun _ => ?_⟩
      refine ⟨fun hw => ?_, fun hw => ?_⟩
      · have hw : (lk Mi c.addr).isSome = true := hw
        refine ⟨_, ld 5 rfl rfl rfl, ?_⟩
        refine ⟨fun hr => ?_, fun hr => ?_⟩
        · have hr : c.re = 0 := of_decide_eq_true hr
          refine ⟨_, ld 5 rfl rfl rfl, ?_⟩
          refine updM (encK := encI) (encV := encI) 1 c.addr ((lk Mi c.addr).getD 0) law_int rfl rfl rfl ?_
          refine ⟨_, wrap_i64 (by omega) (by omega), ?_⟩
          exact backI (i + 1, ins M' c.addr ((lk Mi c.addr).getD 0), dead', oa', oc') (by show n - (i + 1) < n - i; omega) ⟨hin, hMi.trans (back1 hLi hk hr hacc hpM).symm, hdd', by show out.length ≤ oc'; omega, step hno'⟩ ⟨rfl, rfl, rfl, rfl, rfl, rfl, rfl, trivial⟩ ((Ent.both [3]).trans ((hown _).trans (Ent.pick [6, 1, 1, 1, 0])))
        · have hr : ¬ c.re = 0 := of_decide_eq_false hr
          have hsame := backN hacc (fun h => absurd h (by omega)) (fun _ h => absurd h hr)
          refine ⟨_, wrap_i64 (by omega) (by omega), ?_⟩
          exact backI (i + 1, M', dead', oa', oc') (by show n - (i + 1) < n - i; omega) ⟨hin, hMi.trans (by rw [hsame] at hpM; exact hpM), hdd', by show out.length ≤ oc'; omega, step hno'⟩ ⟨rfl, rfl, rfl, rfl, rfl, rfl, rfl, trivial⟩ ((Ent.both [3]).trans ((hown _).trans (Ent.pick [6, 1, 1, 1, 0])))
      · have hw : (lk Mi c.addr).isSome = false := hw
        refine ⟨nofun, fun _ => ?_⟩
        have hsame := backN hacc (fun h => absurd h (by omega)) (fun _ _ => by simpa using hw)
        refine ⟨_, wrap_i64 (by omega) (by omega), ?_⟩
        exact backI (i + 1, M', dead', oa', oc') (by show n - (i + 1) < n - i; omega) ⟨hin, hMi.trans (by rw [hsame] at hpM; exact hpM), hdd', by show out.length ≤ oc'; omega, step hno'⟩ ⟨rfl, rfl, rfl, rfl, rfl, rfl, rfl, trivial⟩ ((Ent.both [3]).trans ((hown _).trans (Ent.pick [6, 1, 1, 1, 0])))
    · have hk : ¬ c.kind = 1 := of_decide_eq_false hk
      refine ⟨_, ldA 0 rfl rfl rfl rfl rfl, ?_⟩
      refine callP [3] (fun w S hR hB hS hd => accept_spec mb Mi c w S hS hd (fun hk => by have := (hco.ok.mal hk).2.2.1; omega) hco.ra hLi.key) ?_
      rintro _ _ ⟨rfl, rfl⟩
      obtain ⟨eacc, pacc⟩ := accF_perm hMi hL c hco
      refine ⟨fun hacc => ?_, fun hacc => ?_⟩
      · have hacc : (accF Mi c).1 = false := by simpa using hacc
        refine ⟨_, wrap_i64 (by omega) (by omega), ?_⟩
        exact backI (i + 1, (accF Mi c).2, dd, oa, oc) (by show n - (i + 1) < n - i; omega) ⟨hin, by show M.Perm (accF Mi c).2; rw [accF_no hacc]; exact hMi, hdd, hoc, step fun r hg => by
          obtain ⟨c', h1, _, h3, _⟩ := hg.tail
          rw [hcx] at h1; cases h1
          rw [eacc, hacc] at h3; cases h3⟩ ⟨rfl, rfl, rfl, rfl, rfl, rfl, rfl, trivial⟩ (Ent.pick [2, 2, 0, 1, 1])
      have hacc : (accF Mi c).1 = true := by simpa using hacc
      refine ⟨_, ld 3 rfl rfl rfl, ?_⟩
      refine bldS [.int .i64 0] rfl rfl rfl rfl rfl (by kernel_rfl) rfl fun vb => ?_
      refine appO 6 0 i rfl rfl rfl rfl rfl (by decide) rfl rfl rfl rfl rfl rfl (by omega) (by decide) fun g cap' hcap' => ?_
      refine st 4 rfl rfl rfl rfl rfl ?_
      refine ⟨by omega, _, rfl, ?_⟩
      refine ⟨((D ||| 2 ^ i : Nat) : Int), (setB_nat hDn.lt (by omega)).symm, ?_⟩
      have hlen : (out ++ [i]).length = out.length + 1 := by simp
      have ih' := ih (n - (out ++ [i]).length) (by omega) (D ||| 2 ^ i) (accF Mi c).2 (out ++ [i]) dd (some ⟨g, 0, none⟩) cap'
      rw [hlen] at ih'
      have hMl' : (accF Mi c).2.length ≤ out.length + 1 := by have := accF_len (M := Mi) c; have := hMi.length_eq; omega
      refine callP [4, 1, 3, 3] (fun w S hR hB hS hd => ih' w S rfl (hDn.push hx.small (by omega) (canB_has hDn.lt (by omega) hcan)) (accF_ok hLi c hco) hMl' hdd (hR _ hT) (hR _ hl) hcap' hS hd) ?_
      rintro _ _ (⟨o', oa', oc', rfl, hle', rfl⟩ | ⟨M', dead', oa', oc', rfl, hnone, hpM, hdd', hoc', rfl⟩)
      · refine ⟨fun _ => ?_, nofun⟩
        exact ⟨_, (Ent.pick [0, 0] : Ent _ [srch sb (some ⟨b, o, none⟩) n cap (some db) oa' (out ++ [i] ++ o').length oc', own oa' oc' 3 1 encN (out ++ [i] ++ o')]), .inl ⟨i :: o', oa', oc', rfl, Least.cons hnf hcx hcan (eacc ▸ hacc) (hle'.perm hx pacc.symm (accF_ok hLi c hco)) hno, by simp⟩⟩
      refine ⟨nofun, fun _ => ?_⟩
      have hno' : ∀ r, ¬ Good xs D M (i :: r) := fun r hg => by
        obtain ⟨c', h1, _, h3, h4⟩ := hg.tail
        rw [hcx] at h1; cases h1
        exact hnone r (h4.perm hx pacc (accF_ok hL c hco))
      refine Or.inr (Or.inl ⟨⟨by kernel_rfl, by kernel_rfl, rfl⟩, ?_⟩)
      refine ⟨_, ld 0 rfl rfl rfl, ?_⟩
      refine ⟨_, ld 0 rfl rfl rfl, ?_⟩
      refine ⟨(out.length : Int), by rw [show (((out.length + 1 : Nat) : Int) - 1) = out.length by omega]; exact wrap_i64 (by omega) (by omega), ?_⟩
      refine ⟨_, slHi out.length rfl (by omega) rfl rfl rfl, ?_⟩
      refine st 0 rfl rfl rfl rfl rfl ?_
      have hown : ∀ L, Ent (own oa' oc' 3 1 encN (out ++ [i]) :: L) (own oa' oc' 3 1 encN out :: L) := fun L => by
        have := own_take (L := L) (a := oa') (cap := oc') (e := 3) (sz := 1) (enc := encN) (xs := out ++ [i]) out.length (by simp) (fun _ _ => rfl)
        rwa [List.take_left'] at this
        rfl
      refine ⟨_, ld 5 rfl rfl rfl, ?_⟩
      refine ⟨fun hk0 => ?_, fun hk0 => ?_⟩
      · have hk0 : c.kind = 0 := of_decide_eq_true hk0
        refine ⟨_, ld 5 rfl rfl rfl, ?_⟩
        refine ⟨fun hr => ?_, fun hr => ?_⟩
        · have hr : c.re = 0 := of_decide_eq_true hr
          refine ⟨_, ld 5 rfl rfl rfl, ?_⟩
          refine delM (encK := encI) (encV := encI) 1 c.ra law_int rfl rfl rfl rfl ?_
          refine ⟨_, wrap_i64 (by omega) (by omega), ?_⟩
          exact backI (i + 1, del M' c.ra, dead', oa', oc') (by show n - (i + 1) < n - i; omega) ⟨hin, hMi.trans (back0 hLi hco hk0 hr hacc hpM).symm, hdd', by show out.length ≤ oc'; omega, step hno'⟩ ⟨rfl, rfl, rfl, rfl, rfl, rfl, rfl, trivial⟩ ((Ent.both [3]).trans ((hown _).trans (Ent.pick [6, 1, 1, 1, 0])))
        · have hr : ¬ c.re = 0 := of_decide_eq_false hr
          have hsame := backN hacc (fun _ => hr) (fun h => absurd h (by omega))
          refine ⟨nofun, fun _ => ?_⟩
          refine ⟨nofun, fun _ => ?_⟩
          refine ⟨_, wrap_i64 (by omega) (by omega), ?_⟩
          exact backI (i + 1, M', dead', oa', oc') (by show n - (i + 1) < n - i; omega) ⟨hin, hMi.trans (by rw [hsame] at hpM; exact hpM), hdd', by show out.length ≤ oc'; omega, step hno'⟩ ⟨rfl, rfl, rfl, rfl, rfl, rfl, rfl, trivial⟩ ((Ent.both [3]).trans ((hown _).trans (Ent.pick [6, 1, 1, 1, 0])))
      · have hk0 : ¬ c.kind = 0 := of_decide_eq_false hk0
        have hsame := backN hacc (fun h => absurd h hk0) (fun h => absurd h hk)
        refine ⟨nofun, fun _ => ?_⟩
        refine ⟨nofun, fun _ => ?_⟩
        refine ⟨nofun, fun _ => ?_⟩
        refine ⟨_, wrap_i64 (by omega) (by omega), ?_⟩
        exact backI (i + 1, M', dead', oa', oc') (by show n - (i + 1) < n - i; omega) ⟨hin, hMi.trans (by rw [hsame] at hpM; exact hpM), hdd', by show out.length ≤ oc'; omega, step hno'⟩ ⟨rfl, rfl, rfl, rfl, rfl, rfl, rfl, trivial⟩ ((Ent.both [3]).trans ((hown _).trans (Ent.pick [6, 1, 1, 1, 0])))
  · have hin : i = n := by have := of_decide_eq_false hge; simp at this; omega
    subst hin
    have hnone : ∀ o, ¬ Good xs D M o := fun o hg => by
      cases o with
      | nil => exact hnf hg.2
      | cons j r =>
        obtain ⟨c, h1, _⟩ := hg.tail
        have hlt : j < xs.length := by
          rcases Nat.lt_or_ge j xs.length with h | h
          · exact h
          · rw [List.getElem?_eq_none h] at h1; cases h1
        exact hno j (by show j < i; omega) r hg
    refine Or.inr (Or.inl ⟨⟨by kernel_rfl, by kernel_rfl, rfl⟩, ?_⟩)
    refine ⟨_, ld 1 rfl rfl rfl, ?_⟩
    refine ⟨_, ldA 0 rfl rfl rfl rfl rfl, ?_⟩
    refine updM (encK := encSt) (encV := encB) 3 ((D : Int), txt M) true law_st rfl rfl rfl ?_
    exact ⟨_, (Ent.pick [1, 1, 1, 1] : Ent _ [srch sb la i cap (some db) oa out.length oc, mp mb encI encI Mi, mp db encSt encB (ins dd ((D : Int), txt M) true), own oa oc 3 1 encN out]), .inr ⟨Mi, ins dd ((D : Int), txt M) true, oa, oc, rfl, hnone, hMi, fun D' t hD' hlk M' hL' ht o hg => by
      rw [lk_ins] at hlk
      split at hlk
      · rename_i he
        obtain ⟨h1, h2⟩ := Prod.mk.inj he
        have h1 : D = D' := by omega
        subst h1
        exact hnone o (hg.perm hx (txt_inj hL' hL (ht.trans h2.symm)) hL')
      · exact hdd D' t hD' hlk M' hL' ht o hg, hoc, rfl⟩⟩
end Go.Proofs.YtfebaopjfmpfkaaDoor
