/- The library's contracts that package linear leans on, at this program: the sorted keys of a map. -/
import Derived.Test.YtfebaopjfmpfkaaDoorL5p
import Derived.Test.YtfebaopjfmpfkaaDoorX15
import Derived.Test.YtfebaopjfmpfkaaDoorL5l
import Derived.Shelf.Strconv.Itoa3
import Derived.Shelf.SlIterI.Nil
import Derived.Shelf.SortM.Plain
import Derived.Shelf.SortM.SortNone
namespace Go.Proofs.YtfebaopjfmpfkaaDoor
open Go.Shelf Go.Proofs Go.RowKit
open Go.X
set_option maxRecDepth 10000
set_option linter.unusedVariables false
set_option linter.unusedSimpArgs false

instance ctx_at (n : Nat) (w : World) (S : FP) (w' : World) (S' : FP) : CtxOk (at' ⟨Tryd.prog, tab, n, w, S⟩ w' S') := ctx_ok n w' S'
def encZ1 (k : Int) : List Value := [.int .i64 k]
theorem keys_spec (mb : Nat) (w : World) (S : FP) (hd : ∀ b, S b → b < w.heap.size) :
    Trip Tryd.prog 64 #[.map (some mb)] w S fun v L => ∃ r, v = .func (.func 77) #[] #[.pointer (some ⟨r, 0, none⟩)] ∧ L = [pt r [.map (some mb)] 72] := by
  refine Trip.of_x (L := []) Tryd.func64 (by kernel_rfl) rfl Tryd.ntmps64 Tryd.results64 rfl (ctx_ok _) trivial hd ?_
  intro r
  exact ⟨_, .pick [0], r, rfl, rfl⟩

theorem sorts (m : Nat) : AnyZI.SortsIn Tryd.prog Tryd.laySorted_ren Fence.wide m :=
  ⟨fun blk off cap ss W hH hblk hsz => callsIn_wide.2 (AnyM.slices_Sort_int Tryd.laySort blk off cap ss W hH hblk hsz),
   fun p cap W => callsIn_wide.2 (AnyM.slices_Sort_int_none Tryd.laySort p cap W)⟩

def rAny (_ : Value) : Option (DataW Unit × List MemPlace) := some (.lit (.bool false), [])
theorem key3 {k : Int} (h : 256 ≤ k ∧ k ≤ 9223372036854775807) : keyOf Tryd.prog 3 (.int .i64 k) = some (.int .i64 k) := by
  have hwf : (Lit.int .i64 k).wf = true := by
    have h1 : IntKind.i64.min = -9223372036854775808 := rfl
    have h2 : IntKind.i64.max = 9223372036854775807 := rfl
    simp only [Lit.wf, h1, h2, Bool.and_eq_true, decide_eq_true_eq]
    omega
  simp [keyOf, Tryd.underlying3, mapKey, hwf]

theorem ownsMap_of {w : World} {mb : Nat} {M : List (Int × Int)} {T : FP} (h : (mp mb encI encI M).sat w T) (hL : LiveOk M) (hlen : M.length ≤ 64) : ∃ D : DataW Unit, w.ownsMap Tryd.prog 3 rAny mb M.length D ∧ (Go.intKeys D).Perm (M.map (·.1)) ∧ Maps.size D = M.length := by
  obtain ⟨_, es, clock, hb, hs, he⟩ := h
  have he' : es.toList.map (fun e => (e.key, e.val)) = M.map fun p => (encI p.1, encI p.2) := he
  have hsz : es.size = M.length := by have := congrArg List.length he'; simpa using this
  have hkey : ∀ x ∈ es.toList, ∃ p ∈ M, x.key = encI p.1 := fun x hx => by
    have : (x.key, x.val) ∈ es.toList.map (fun e => (e.key, e.val)) := List.mem_map.2 ⟨x, hx, rfl⟩
    rw [he'] at this
    obtain ⟨p, hp, hpe⟩ := List.mem_map.1 this
    exact ⟨p, hp, (congrArg Prod.fst hpe).symm⟩
  have hrd : ∀ (x : MapEntry) (k : Int), 256 ≤ k ∧ k ≤ 9223372036854775807 → x.key = encI k → WideElems.rd (H := Unit) Tryd.prog 3 rAny x = some (.int .i64 k, .lit (.bool false)) := fun x k hk hx => by
    unfold WideElems.rd
    rw [hx]
    have : keyOf Tryd.prog 3 (encI k) = some (.int .i64 k) := key3 hk
    rw [this]; rfl
  refine ⟨_, ⟨es, clock, hb, ⟨by unfold maxLen; omega, hs, fun x hx => ?_⟩, by omega, rfl⟩, ?_, ?_⟩
  · obtain ⟨p, hp, hk⟩ := hkey x hx
    exact ⟨_, hrd x p.1 (hL.key p hp) hk⟩
  · show (((es.toList.map (WideElems.rg Tryd.prog 3 rAny)).foldr DataW.insert []).map fun p => Go.intOf p.1).Perm _
    refine ((WideShapes.sorted_perm _).map _).trans ?_
    rw [List.map_map]
    have key : ∀ (l : List MapEntry) (N : List (Int × Int)), (∀ p ∈ N, 256 ≤ p.1 ∧ p.1 ≤ 9223372036854775807) → l.map (fun e => (e.key, e.val)) = N.map (fun p => (encI p.1, encI p.2)) → l.map ((fun p : Lit × DataW Unit => Go.intOf p.1) ∘ WideElems.rg Tryd.prog 3 rAny) = N.map (·.1) := by
      intro l
      induction l with
      | nil => intro N _ h; cases N with | nil => rfl | cons => simp at h
      | cons x l ih =>
        intro N hN h
        cases N with
        | nil => simp at h
        | cons p N =>
          simp only [List.map_cons, List.cons.injEq, Prod.mk.injEq] at h ⊢
          refine ⟨?_, ih N (fun q hq => hN q (by simp [hq])) h.2⟩
          simp only [Function.comp, WideElems.rg, hrd x p.1 (hN p (by simp)) h.1.1]
          rfl
    rw [key es.toList M hL.key he']
  · show ((es.toList.map (WideElems.rg Tryd.prog 3 rAny)).foldr DataW.insert []).length = _
    rw [length_sorted]
    simp [hsz]

theorem sorted_spec (mb r : Nat) (M : List (Int × Int)) (w : World) (S : FP) (hS : Sep [pt r [.map (some mb)] 72, mp mb encI encI M] w S) (hd : ∀ b, S b → b < w.heap.size) (hL : LiveOk M) (hlen : M.length ≤ 64) :
    Trip Tryd.prog 63 #[.func (.func 77) #[] #[.pointer (some ⟨r, 0, none⟩)]] w S fun v L => ∃ a c, v = .slice a M.length c ∧ (M ≠ [] → ∃ g, a = some ⟨g, 0, none⟩) ∧ L = [mp mb encI encI M, own a c 3 1 encZ1 (sortZ (M.map (·.1)))] := by
  refine ⟨⟨_, Tryd.func63, by kernel_rfl, rfl⟩, ?_⟩
  obtain ⟨T1, T2, ⟨hr1, hr⟩, ⟨T3, T4, hm, _, _, hs3, _⟩, hdis, hs1, hs2⟩ := hS
  obtain ⟨D, hown, hperm, hsize⟩ := ownsMap_of hm hL hlen
  have hlt : r < w.heap.size := (Array.getElem?_eq_some_iff.1 hr).1
  have hseq : SeqGives Fence.wide 2 Tryd.prog 77 #[.pointer (some ⟨r, 0, none⟩)] encZ (fun ss => ss.Perm (Go.intKeys D)) (Maps.size D) w :=
    AnyZI.keys_gives (ρ := Tryd.layKeys_ren) { Tryd.layKeys with } Fence.wide _ trivial rfl (by omega) r mb M.length D w hlt (by rw [cell_of_block hr]; rfl) hown
  have cS := AnyZI.sorted_in Tryd.laySorted Fence.wide 5 trivial trivial trivial trivial rfl (by omega) (sorts _) (enters_of Tryd.func76 (by kernel_rfl) rfl) 77 #[.pointer (some ⟨r, 0, none⟩)] trivial (enters_of Tryd.func77 (by kernel_rfl) rfl) _ _ (by rw [hsize]; unfold maxLen; omega) (by rw [hsize]; omega) _ hseq
  change CallsIn _ _ Tryd.prog 63 _ _ _ at cS
  refine (callsIn_wide.1 cS).mono ?_
  rintro _ w' ⟨v, ss, rfl, hp, hrow, hnil, hb⟩
  have hss : ss.Perm (M.map (·.1)) := hp.trans hperm
  have hsl : ss.length = M.length := by have := hss.length_eq; simpa using this
  have hsort : ss.mergeSort (fun x y => decide (x ≤ y)) = sortZ (M.map (·.1)) := sorted_eq (sortZ_sorted ss) (sortZ_sorted _) ((sortZ_perm ss).trans (hss.trans (sortZ_perm _).symm))
  rw [hsort, hsl] at hrow
  have hkl : (sortZ (M.map (·.1))).length = M.length := by have := (sortZ_perm (M.map (·.1))).length_eq; simpa using this
  obtain ⟨a, c, rfl⟩ : ∃ a c, v = .slice a M.length c := by
    rcases hrow.2 with ⟨hv, h0⟩ | ⟨g, cap, cur, hv, _⟩
    · exact ⟨none, 0, by rw [hv, h0]⟩
    · exact ⟨_, _, hv⟩
  refine ⟨_, _, rfl, ⟨a, c, rfl, fun hne => ?_, rfl⟩, ?_⟩
  · rcases hrow.2 with ⟨hv, h0⟩ | ⟨g, cap, cur, hv, _⟩
    · exact absurd (List.eq_nil_of_length_eq_zero h0) hne
    · cases hv; exact ⟨g, rfl⟩
  · have hm' : (mp mb encI encI M).sat w' T3 := (mp mb encI encI M).stab hm fun b hb' => hb.block b ((mp mb encI encI M).dom hm hb')
    have hown' : (own a c 3 1 encZ1 (sortZ (M.map (·.1)))).sat w' fun k => (Value.slice a M.length c).ownBlock = some k := by
      refine ⟨fun k => by rw [hkl], ?_⟩
      rw [hkl]
      have e1 : (sortZ (M.map (·.1))).flatMap encZ1 = (sortZ (M.map (·.1))).map encZ := by
        generalize sortZ (M.map (·.1)) = l
        induction l with
        | nil => rfl
        | cons x l ih => simp [encZ1, encZ, ih]
      rw [e1]
      exact ⟨hrow.1, hrow.2.imp_right fun ⟨g, cp, cur, h1, _, h3⟩ => ⟨g, cp, cur, h1, Nat.zero_le _, h3⟩⟩
    have hnew : ∀ k, (Value.slice a M.length c).ownBlock = some k → w.heap.size ≤ k ∧ k < w'.heap.size := fun k hk => hrow.lt k hk
    refine ⟨⟨hb.os, hb.tape, hb.output, hb.size, fun b hb' _ => hb.block b hb'⟩, fun k => T3 k ∨ (Value.slice a M.length c).ownBlock = some k, ⟨T3, _, hm', ⟨_, fun _ => False, hown', trivial, fun _ _ h => h, fun _ h => h, fun _ h => h.elim⟩, fun b h1 h2 => ?_, fun b h => .inl h, fun b h => .inr h⟩, ?_⟩
    · have := (mp mb encI encI M).dom hm h1
      have := (hnew b h2).1
      omega
    · rintro b (h | h)
      · exact ⟨(mp mb encI encI M).dom hm' h, .inl (hs2 b (hs3 b h))⟩
      · exact ⟨(hnew b h).2, .inr (hnew b h).1⟩
end Go.Proofs.YtfebaopjfmpfkaaDoor
