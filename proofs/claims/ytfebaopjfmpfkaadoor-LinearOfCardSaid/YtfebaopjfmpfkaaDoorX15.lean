/- Bytes that one owns: a string is appended; they are read as a string. Pointers that go through unsafe.Pointer. -/
import Derived.Test.YtfebaopjfmpfkaaDoorX14
import Derived.Lib.AppendStr
import Derived.Lib.Builder
import Derived.Lib.UnsafeStr
namespace Go.X
set_option linter.unusedVariables false
set_option linter.unusedSimpArgs false

def encU (b : UInt8) : List Value := [.int .u8 b.toNat]
theorem flat_encU (l : List UInt8) : l.flatMap encU = l.map fun b => .int .u8 b.toNat := by
  induction l with
  | nil => rfl
  | cons b l ih => simp [encU, ih]
theorem strCells_encU (s : ByteArray) : Lib.strCells s = s.data.toList.flatMap encU := by
  rw [flat_encU]; rfl

section
variable {C : Ctx} {L : List Chunk}

theorem run_append_str_lies {P : Program} (w : World) (t u ty e : TypeId) (i : TypeInfo) (ht : P.underlying t = some (.slice e)) (hu : P.underlying u = some .string) (hi : P.info? e = some i) (hz : i.zero = some (.int .u8 0)) (hsize : i.size = 1) (hby : i.bytes = 1)
    (v : Value) (n : Nat) (xs : List Value) (hown : w.ownsRow 0 e 1 v n xs) (s : ByteArray) (hb : n + s.size ≤ 140737488355328) :
    ∃ v' w', (Builtin.append_ #[t, u] ty #[v, .string s]).run P w = .ok v' w' ∧ w'.ownsRow 0 e 1 v' (n + s.size) (xs ++ Lib.strCells s) ∧ w.grownBy w' v.ownBlock ∧ (v'.ownBlock = v.ownBlock ∨ v'.ownBlock = some w.heap.size) := by
  obtain ⟨v', w', hr, h2, h3, h4⟩ := Lib.run_append_own_string (P := P) w 0 t u ty e i ht hu hi hz hsize hby v n xs hown s (by unfold maxLen; omega) hb (Nat.zero_le _)
  refine ⟨v', w', hr, h2, h3, ?_⟩
  rcases hown.2 with ⟨rfl, rfl⟩ | ⟨g, cap, cur, rfl, hbg, hg, hnc, hcm, hcs, htake⟩
  · by_cases hm : s.size = 0
    · left; rw [(h4.2 ⟨rfl, hm⟩)]
    · have hr' := run_append_nil_string (P := P) w t u ty e i (.int .u8 0) ht hu hi hz s (by omega) (by omega) (by rw [hby]; omega)
      rw [hr] at hr'
      simp only [Result.ok.injEq] at hr'
      right; rw [hr'.1]; rfl
  · by_cases hroom : n + s.size ≤ cap
    · have hr' := Lib.run_append_room_string (P := P) w t u ty e i ht hu hi hsize g n cap cur hg s hroom (by simp at hcs; omega)
      rw [hr] at hr'
      simp only [Result.ok.injEq] at hr'
      left; rw [hr'.1]; rfl
    · have holds : ∀ j u, xs[j]? = some u → w.cell? ((⟨g, 0, none⟩ : Addr).add j) = some u := hown.cells (g := g) rfl
      have hxl : xs.length = n := by simpa using hown.1
      have hr' := Lib.run_append_grow_string (P := P) w t u ty e i (.int .u8 0) ht hu hi hz ⟨g, 0, none⟩ n cap xs (by rw [hsize]; simpa using hxl) holds s (by omega) (by omega) (by rw [hby]; exact growslice_fits (by omega) (by omega))
      rw [hr] at hr'
      simp only [Result.ok.injEq] at hr'
      right; rw [hr'.1]; rfl

/-- A string is appended to bytes that one owns. -/
theorem appStr [hC : CtxOk C] {t u ty e : TypeId} {a : Option Addr} {n cap : Nat} {bs : List UInt8} {R : Value → List Chunk → Prop} {ti tu te : TyI} (k : Nat) (s : ByteArray) (hk : lget L k = some (own a cap e 1 encU bs))
    (hn : n = bs.length) (hti : tget C.tab t = some ti) (hkk : ti.k = .slice e) (htu : tget C.tab u = some tu) (hku : tu.k = .string) (hte : tget C.tab e = some te) (hs : te.size = 1) (hby : te.bytes = 1) (hz : ∀ w, (zeroValue e).run C.P w = .ok (.int .u8 0) w)
    (hb : bs.length + s.size ≤ 140737488355328) (hR : ∀ a' cap', (0 < s.size → ∃ g, a' = some ⟨g, 0, none⟩ ∧ (bs ++ s.data.toList).length ≤ cap') → R (.slice a' (bs ++ s.data.toList).length cap') (setL L k (own a' cap' e 1 encU (bs ++ s.data.toList)))) :
    Does C L (Builtin.append_ ⟨[t, u]⟩ ty ⟨[.slice a n cap, .string s]⟩) R := by
  intro w hw
  subst hn
  obtain ⟨T, hT1, hT2⟩ := hw.mem hk
  obtain ⟨d, hd, hkd⟩ := (hC.tab.get hti).und
  rw [hkk] at hkd
  obtain rfl := kOk.slice hkd
  obtain ⟨d', hd', hkd'⟩ := (hC.tab.get htu).und
  rw [hku] at hkd'
  have hd' : C.P.underlying u = some .string := by
    cases d' <;> simp [kOk] at hkd'
    exact hd'
  obtain ⟨d2, inf, z, hu, hinf, hisz, hiby, hz', hzc, hkz⟩ := hC.tab.get hte
  have hzz : inf.zero = some (.int .u8 0) := by
    have h := hz w
    simp [zeroValue, typeInfo, hinf, hz'] at h
    rw [hz', h]
  obtain ⟨v', w', hr, ho, hg, hlie⟩ := run_append_str_lies (P := C.P) w t u ty e inf hd hd' hinf hzz (hisz.trans hs) (hiby.trans hby) (.slice a bs.length cap) bs.length (bs.flatMap encU) hT2 s hb
  have hlen : (bs ++ s.data.toList).length = bs.length + s.size := by simp
  rw [strCells_encU, ← List.flatMap_append] at ho
  obtain ⟨a', cap', rfl⟩ : ∃ a' cap', v' = .slice a' (bs ++ s.data.toList).length cap' := by
    rw [hlen]
    rcases ho.2 with ⟨hv, h0⟩ | ⟨g, cap, cur, hv, _⟩
    · exact ⟨none, 0, by rw [hv, h0]⟩
    · exact ⟨_, _, hv⟩
  refine ⟨_, w', _, hr, hw.turnAt (d := own a' cap' e 1 encU (bs ++ s.data.toList)) hk (fun S1 hS1 hd1 => ?_), hR a' cap' fun hp => ?_⟩
  rotate_left
  · rw [hlen] at ho ⊢
    rcases ho.2 with ⟨_, h0⟩ | ⟨g, cap, cur, hv, _, _, hnc, _⟩
    · omega
    · cases hv; exact ⟨g, rfl, hnc⟩
  refine Inv.one (T := fun k => (Value.slice a' (bs ++ s.data.toList).length cap').ownBlock = some k) ⟨hg.os, hg.tape, hg.output, hg.size, fun b hb hn => hg.block b hb fun he => hn ((hS1.1 b).2 he.symm)⟩ ⟨fun k => Iff.rfl, by rw [hlen]; rw [hlen] at ho; exact ho⟩ fun b hb => ?_
  rcases hlie with h | h
  · exact .inl ((hS1.1 b).2 (h ▸ hb))
  · rw [h] at hb; cases hb; exact .inr (Nat.le_refl _)
/-- Nothing is known. -/
def jk : Chunk where
  sat _ S := ∀ b, ¬ S b
  stab h _ := h
  dom h hb := (h _ hb).elim

theorem sliceDataO {ts : Array TypeId} {ty : TypeId} {g n cap : Nat} (hc : cap ≠ 0) : RunsTo C L (Builtin.unsafeSliceData_ ts ty ⟨[.slice (some ⟨g, 0, none⟩) n cap]⟩) (.pointer (some ⟨g, 0, none⟩)) := fun w _ => Lib.run_unsafeSliceData_row (P := C.P) w ts ty ⟨g, 0, none⟩ n cap hc
theorem sliceDataN {ts : Array TypeId} {ty : TypeId} {n cap : Nat} : RunsTo C L (Builtin.unsafeSliceData_ ts ty ⟨[.slice none n cap]⟩) (.pointer none) := fun w _ => Lib.run_unsafeSliceData_nil (P := C.P) w ts ty n cap
theorem unsafeStrN {pt it ty : TypeId} {R : Value → List Chunk → Prop} (hR : R (.string .empty) L) : Does C L (Builtin.unsafeString_ ⟨[pt, it]⟩ ty ⟨[.pointer none, .int .i64 0]⟩) R := fun w hw => ⟨_, w, L, Lib.run_unsafeString_none (P := C.P) w pt it ty none, hw, hR⟩
theorem unsafeStrO [hC : CtxOk C] {pt it ty e : TypeId} {g n cap : Nat} {bs : List UInt8} {R : Value → List Chunk → Prop} (k : Nat) (hk : lget L k = some (own (some ⟨g, 0, none⟩) cap e 1 encU bs)) (hp : C.P.underlying pt = some (.pointer e)) (hce : C.P.cellsOf e = 1) (hn : n = bs.length) (h0 : bs ≠ []) (h63 : bs.length ≤ 140737488355328)
    (hR : R (.string ⟨bs.toArray⟩) (setL L k jk)) : Does C L (Builtin.unsafeString_ ⟨[pt, it]⟩ ty ⟨[.pointer (some ⟨g, 0, none⟩), .int .i64 n]⟩) R := by
  intro w hw
  subst hn
  obtain ⟨T, hT⟩ := hw.mem hk
  obtain ⟨x, hx⟩ : ∃ x, bs[0]? = some x := by cases bs with | nil => exact absurd rfl h0 | cons x xs => exact ⟨x, rfl⟩
  obtain ⟨g', cur, he, hg, ht⟩ := own_at hT hx
  cases he
  have hcur : bs.length ≤ cur.size := by
    have := congrArg List.length ht
    rw [flat_len (sz := 1) (fun _ _ => rfl)] at this
    simp at this
    omega
  have hr := Lib.run_unsafeString_row (P := C.P) w pt it ty e hp hce g cur.size (by simp [World.shape?, hg]) bs h0 hcur (by omega) fun j y hj => by
    have := own_cell hT (fun _ _ => rfl) hj (j := 0) (v := .int .u8 y.toNat) rfl
    simpa [Addr.add_none] using this
  refine ⟨_, _, _, hr, hw.turnAt (d := jk) hk (fun S1 hS1 hd1 => ?_), hR⟩
  have hS1g : S1 g := (hS1.1 g).2 rfl
  refine Inv.one (T := fun _ => False) ?_ (fun _ h => h) fun b hb => hb.elim
  refine ⟨by simp [World.freeze, h0], by simp [World.freeze, h0], by simp [World.freeze, h0], by simp [World.freeze, h0], fun b hb hn => ?_⟩
  have hne : g ≠ b := fun h => hn (h ▸ hS1g)
  simp [World.freeze, h0, Array.getElem?_modify, hne]
end
end Go.X
