/- Slices written out empty; many elements appended. -/
import Derived.Test.YtfebaopjfmpfkaaDoorX18
import Derived.Maps.AppendAt
namespace Go.X
set_option linter.unusedVariables false
set_option linter.unusedSimpArgs false
section
variable {α : Type} {C : Ctx} {L : List Chunk} {e : TypeId} {sz cap : Nat} {enc : α → List Value} {xs ys : List α}

theorem bld0 [hC : CtxOk C] {t : TypeId} {R : Value → List Chunk → Prop} {ti te : TyI} (sz : Nat) (enc : α → List Value) (hti : tget C.tab t = some ti) (hk : ti.k = .slice e) (hte : tget C.tab e = some te)
    (hR : ∀ g, R (.slice (some ⟨g, 0, none⟩) 0 0) (own (some ⟨g, 0, none⟩) 0 e sz enc ([] : List α) :: L)) : Does C L (Instr.buildSlice t 0 ⟨[]⟩) R := by
  intro w hw
  obtain ⟨d, hd, hkd⟩ := (hC.tab.get hti).und
  rw [hk] at hkd
  obtain rfl := kOk.slice hkd
  have hs := run_sizeOf' (w := w) (hC.tab.get hte)
  refine ⟨_, w.alloc (.cells #[] e (0, 0)), _, ?_, hw.alloc _ (c := own (some ⟨w.heap.size, 0, none⟩) 0 e sz enc ([] : List α)) ⟨fun k => by simp [Value.ownBlock, eq_comm], ?_⟩, hR w.heap.size⟩
  · simp [Instr.buildSlice, run_underlying' hd, hs, Instr.fill, newRow]
    have h0 : ∀ f : Nat → Value, (Array.range 0).map f = #[] := fun f => Array.eq_empty_of_size_eq_zero (by simp)
    rw [h0]
  · exact ⟨by simp, .inr ⟨w.heap.size, 0, #[], rfl, Nat.zero_le _, heap_alloc_new w _, Nat.le_refl _, Nat.zero_le _, by simp, by simp⟩⟩

/-- Elements that lie somewhere are appended. -/
theorem appC2 [hC : CtxOk C] {t ty : TypeId} {g n m c : Nat} {ad : Addr} {R : Value → List Chunk → Prop} {ti te : TyI} (k : Nat) (hk : lget L k = some (own (some ⟨g, 0, none⟩) cap e sz enc xs)) (hcell : ∀ w, Holds C L w → ∀ (i : Nat) (u : Value), (ys.flatMap enc)[i]? = some u → w.cell? (ad.add i) = some u) (hn : n = xs.length) (hm : m = ys.length)
    (hlx : ∀ x ∈ xs, (enc x).length = sz) (hly : ∀ x ∈ ys, (enc x).length = sz) (hsz : 0 < sz) (h1 : ∀ x, (enc x).all Value.oneCell' = true) (hti : tget C.tab t = some ti) (hkk : ti.k = .slice e) (hte : tget C.tab e = some te) (hs : te.size = sz) (hz0 : te.zero.length = sz)
    (hml : xs.length + ys.length ≤ maxLen) (hbb : (xs.length + ys.length) * te.bytes ≤ 140737488355328) (hR : ∀ g' cap', (xs ++ ys).length ≤ cap' → R (.slice (some ⟨g', 0, none⟩) (xs ++ ys).length cap') (setL L k (own (some ⟨g', 0, none⟩) cap' e sz enc (xs ++ ys)))) :
    Does C L (Builtin.append_ ⟨[t, t]⟩ ty ⟨[.slice (some ⟨g, 0, none⟩) n cap, .slice (some ad) m c]⟩) R := by
  intro w hw
  subst hn
  subst hm
  obtain ⟨T, hT1, hT2⟩ := hw.mem hk
  obtain ⟨d, hd, hkd⟩ := (hC.tab.get hti).und
  rw [hkk] at hkd
  obtain rfl := kOk.slice hkd
  obtain ⟨d2, inf, z, hu, hinf, hisz, hiby, hz, hzc, _⟩ := hC.tab.get hte
  have hfl := flat_len hly
  obtain ⟨v', w', hr, ho, hg, hnil, hlie⟩ := run_append_own_at (P := C.P) w 0 t ty e inf z sz te.bytes hd hinf hz (hisz.trans hs) hiby (by rw [← hz0, ← hzc]; simp) hsz (.slice (some ⟨g, 0, none⟩) xs.length cap) xs.length (xs.flatMap enc) hT2
    ad ys.length c (ys.flatMap enc) hfl (hcell w hw) (fun u hu => by
      obtain ⟨y, hy, huy⟩ := List.mem_flatMap.1 hu
      exact List.all_eq_true.1 (h1 y) u huy) hml hbb (Nat.zero_le _)
  obtain ⟨g', cap', rfl, hcap⟩ : ∃ g' cap', v' = .slice (some ⟨g', 0, none⟩) (xs ++ ys).length cap' ∧ (xs ++ ys).length ≤ cap' := by
    rw [List.length_append]
    rcases ho.2 with ⟨hv, h0⟩ | ⟨g', cap', cur, hv, _, _, hnc, _⟩
    · have := (hnil.1 hv).1; cases this
    · exact ⟨g', cap', hv, hnc⟩
  refine ⟨_, w', _, hr, hw.turnAt (d := own (some ⟨g', 0, none⟩) cap' e sz enc (xs ++ ys)) hk (fun S1 hS1 hd1 => ?_), hR g' cap' hcap⟩
  refine Inv.one (T := fun k => k = g') ⟨hg.os, hg.tape, hg.output, hg.size, fun b hb hn => hg.block b hb fun he => hn ((hS1.1 b).2 he.symm)⟩ ⟨fun k => by simp [Value.ownBlock, eq_comm], ?_⟩ fun b hb => ?_
  · rw [List.flatMap_append]
    rw [List.length_append] at ho ⊢
    exact ho
  · subst hb
    rcases hlie with h | h
    · exact .inl ((hS1.1 _).2 h.symm)
    · simp [Value.ownBlock] at h; exact .inr (by omega)
theorem appC [hC : CtxOk C] {t ty : TypeId} {g n m c : Nat} {ad : Addr} {R : Value → List Chunk → Prop} {ti te : TyI} (k : Nat) (hk : lget L k = some (own (some ⟨g, 0, none⟩) cap e sz enc xs)) (hcell : ∀ w, Holds C L w → ∀ (i : Nat) (u : Value), (ys.flatMap enc)[i]? = some u → w.cell? (ad.add i) = some u) (hn : n = xs.length) (hm : m = ys.length)
    (hlx : ∀ x ∈ xs, (enc x).length = sz) (hly : ∀ x ∈ ys, (enc x).length = sz) (hsz : 0 < sz) (h1 : ∀ x, (enc x).all Value.oneCell' = true) (hti : tget C.tab t = some ti) (hkk : ti.k = .slice e) (hte : tget C.tab e = some te) (hs : te.size = sz) (hz0 : te.zero.length = sz)
    (hbound : xs.length + ys.length ≤ 2 ^ 31) (hby : te.bytes ≤ 2 ^ 12) (hR : ∀ g' cap', (xs ++ ys).length ≤ cap' → R (.slice (some ⟨g', 0, none⟩) (xs ++ ys).length cap') (setL L k (own (some ⟨g', 0, none⟩) cap' e sz enc (xs ++ ys)))) :
    Does C L (Builtin.append_ ⟨[t, t]⟩ ty ⟨[.slice (some ⟨g, 0, none⟩) n cap, .slice (some ad) m c]⟩) R :=
  appC2 k hk hcell hn hm hlx hly hsz h1 hti hkk hte hs hz0 (by simp [maxLen]; omega) (Nat.le_trans (Nat.mul_le_mul hbound hby) (by decide)) hR
/-- All elements of a slice that is only read are appended. -/
theorem appR [hC : CtxOk C] {t ty : TypeId} {g n m c : Nat} {ad : Addr} {R : Value → List Chunk → Prop} {ti te : TyI} (k : Nat) (hk : lget L k = some (own (some ⟨g, 0, none⟩) cap e sz enc xs)) (hro : RO C.w0 C.S0 (roS (some ad) sz enc ys)) (hn : n = xs.length) (hm : m = ys.length)
    (hlx : ∀ x ∈ xs, (enc x).length = sz) (hly : ∀ x ∈ ys, (enc x).length = sz) (hsz : 0 < sz) (h1 : ∀ x, (enc x).all Value.oneCell' = true) (hti : tget C.tab t = some ti) (hkk : ti.k = .slice e) (hte : tget C.tab e = some te) (hs : te.size = sz) (hz0 : te.zero.length = sz)
    (hbound : xs.length + ys.length ≤ 2 ^ 31) (hby : te.bytes ≤ 2 ^ 12) (hR : ∀ g' cap', (xs ++ ys).length ≤ cap' → R (.slice (some ⟨g', 0, none⟩) (xs ++ ys).length cap') (setL L k (own (some ⟨g', 0, none⟩) cap' e sz enc (xs ++ ys)))) :
    Does C L (Builtin.append_ ⟨[t, t]⟩ ty ⟨[.slice (some ⟨g, 0, none⟩) n cap, .slice (some ad) m c]⟩) R := by
  refine appC k hk (fun w hw i u hu => ?_) hn hm hlx hly hsz h1 hti hkk hte hs hz0 hbound hby hR
  obtain ⟨T', ⟨_, _, _, hcell⟩, _⟩ := hro.now hw.1
  have hfl := flat_len hly
  have hlt : i < ys.length * sz := by
    rcases Nat.lt_or_ge i (ys.length * sz) with h | h
    · exact h
    · rw [List.getElem?_eq_none (by omega)] at hu; cases hu
  have hdiv : i / sz < ys.length := (Nat.div_lt_iff_lt_mul hsz).2 hlt
  obtain ⟨y, hy⟩ : ∃ y, ys[i / sz]? = some y := ⟨ys[i / sz], by simp [hdiv]⟩
  have hmod := Nat.mod_lt i hsz
  have hi : i / sz * sz + i % sz = i := by rw [Nat.mul_comm]; exact Nat.div_add_mod i sz
  have hf := flat_get hly hy hmod
  rw [hi, hu] at hf
  obtain ⟨b, o, he, hc⟩ := hcell (by rintro rfl; simp at hy)
  cases he
  rw [Addr.add_none]
  have := hc _ y hy _ u hf.symm
  rwa [hi] at this

/-- All of a block that lies among the chunks is appended. -/
theorem appP [hC : CtxOk C] {t ty : TypeId} {g n m c vb : Nat} {cs : List Value} {ty' : TypeId} {R : Value → List Chunk → Prop} {ti te : TyI} (k j : Nat) (hk : lget L k = some (own (some ⟨g, 0, none⟩) cap e sz enc xs)) (hj : lget L j = some (pt vb cs ty')) (hcs : cs = ys.flatMap enc) (hn : n = xs.length) (hm : m = ys.length)
    (hlx : ∀ x ∈ xs, (enc x).length = sz) (hly : ∀ x ∈ ys, (enc x).length = sz) (hsz : 0 < sz) (h1 : ∀ x, (enc x).all Value.oneCell' = true) (hti : tget C.tab t = some ti) (hkk : ti.k = .slice e) (hte : tget C.tab e = some te) (hs : te.size = sz) (hz0 : te.zero.length = sz)
    (hbound : xs.length + ys.length ≤ 2 ^ 31) (hby : te.bytes ≤ 2 ^ 12) (hR : ∀ g' cap', (xs ++ ys).length ≤ cap' → R (.slice (some ⟨g', 0, none⟩) (xs ++ ys).length cap') (setL L k (own (some ⟨g', 0, none⟩) cap' e sz enc (xs ++ ys)))) :
    Does C L (Builtin.append_ ⟨[t, t]⟩ ty ⟨[.slice (some ⟨g, 0, none⟩) n cap, .slice (some ⟨vb, 0, none⟩) m c]⟩) R := by
  refine appC k hk (fun w hw i u hu => ?_) hn hm hlx hly hsz h1 hti hkk hte hs hz0 hbound hby hR
  obtain ⟨T', _, hb⟩ := hw.mem hj
  rw [Addr.add_none, Nat.zero_add, cell_of_block hb, hcs]
  exact hu

/-- A whole block is seen as a slice's own one. -/
theorem ptOwn {b : Nat} {cs : List Value} (hsz : cs.length = cap * sz) (hle : xs.length ≤ cap) (hc : cap ≤ maxLen) (hl : ∀ x ∈ xs, (enc x).length = sz) (ht : cs.take (xs.length * sz) = xs.flatMap enc) : Ent (pt b cs e :: L) (own (some ⟨b, 0, none⟩) cap e sz enc xs :: L) :=
  .conv fun w T ⟨h1, h2⟩ => ⟨T, ⟨fun k => (h1 k).trans (by simp [Value.ownBlock, eq_comm]), flat_len hl, .inr ⟨b, cap, cs.toArray, rfl, Nat.zero_le _, h2, hle, hc, by simpa using hsz, by simpa using ht⟩⟩, fun _ h => h⟩
end
end Go.X
