/- Package linear: numerals, and strings built piece by piece. -/
import Derived.Test.YtfebaopjfmpfkaaDoorL5a
namespace Go.Proofs.YtfebaopjfmpfkaaDoor
open Go.X
set_option maxRecDepth 10000
set_option linter.unusedVariables false
set_option linter.unusedSimpArgs false

/-- The library's table of the powers of ten, which nobody writes to. -/
def tabC : Chunk where
  sat w T := Lib.TabIs Tryd.prog w "internal/strconv.uint64pow10" .u64 Lib.pow10Tab ∧ ∀ k, T k ↔ some k = Tryd.prog.globalNamed "internal/strconv.uint64pow10"
  stab {w w' S} h hk := by
    refine ⟨?_, h.2⟩
    have h1 := h.1
    unfold Lib.TabIs World.var? at h1 ⊢
    cases hg : Tryd.prog.globalNamed "internal/strconv.uint64pow10" with
    | none => rw [hg] at h1; cases h1
    | some g =>
      rw [hg] at h1
      simp only [Option.bind_some] at h1 ⊢
      rw [hk g ((h.2 g).2 hg.symm)]
      exact h1
  dom {w S b} h hb := by
    have h1 := h.1
    have hg := (h.2 b).1 hb
    unfold Lib.TabIs World.var? at h1
    rw [← hg] at h1
    simp only [Option.bind_some] at h1
    rcases Nat.lt_or_ge b w.heap.size with h' | h'
    · exact h'
    · rw [Array.getElem?_eq_none h'] at h1; cases h1

theorem itoa_spec (n : Int) (w : World) (S : FP) (hT : RO w S tabC) (h0 : -9223372036854775808 ≤ n) (h1 : n ≤ 9223372036854775807) :
    Trip Tryd.prog 66 #[.int .i64 n] w S fun v L => v = .string ⟨(Lib.itoa n).toArray⟩ ∧ L = [] := by
  obtain ⟨T, ⟨htab, _⟩, _⟩ := hT
  refine ⟨⟨_, Tryd.func66, by kernel_rfl, rfl⟩, (Any.strconv_Itoa Tryd.layItoa n h0 h1 w htab).mono ?_⟩
  rintro _ w' ⟨rfl, k, os, rfl⟩
  refine ⟨_, _, rfl, ⟨rfl, rfl⟩, Inv.below ⟨rfl, rfl, rfl, ?_, fun b hb => ?_⟩⟩
  · show w.heap.size ≤ (w.heap ++ os).size
    simp
  · show (w.heap ++ os)[b]? = w.heap[b]?
    rw [Array.getElem?_append_left hb]

/-! ### the builder -/
def bldC (bb : Nat) (p : Option Addr) (a : Option Addr) (n c : Nat) : Chunk := pt bb [.pointer p, .slice a n c] 111
def self (bb : Nat) : Option Addr := some ⟨bb, 0, none⟩

theorem run_eq_nil (bb : Nat) (x y : Operand) (w : World) : (do eqGuard .eql 109 x y (.pointer none) (.pointer none); binOp .eql 109 (.pointer none) (.pointer none) : Sem Value).run Tryd.prog w = .ok (.bool true) w := by kernel_rfl
theorem run_eq_self (bb : Nat) (x y : Operand) (w : World) : (do eqGuard .eql 109 x y (.pointer (self bb)) (.pointer none); binOp .eql 109 (.pointer (self bb)) (.pointer none) : Sem Value).run Tryd.prog w = .ok (.bool false) w := by unfold self; kernel_rfl

theorem info111 : ∃ j, Tryd.prog.info? 111 = some j ∧ j.size = 2 := by
  have h : (Tryd.prog.info? 111).map (·.size) = some 2 := by kernel_rfl
  exact Option.map_eq_some_iff.1 h
theorem shape_of {w : World} {b : Nat} {cs : List Value} {t : TypeId} {T : FP} (h : (pt b cs t).sat w T) : w.shape? b = some (t, cs.length) := by simp [World.shape?, h.2]
theorem run_ne_self (bb : Nat) (x y : Operand) (w : World) : (do eqGuard .neq 109 x y (.pointer (self bb)) (.pointer (self bb)); binOp .neq 109 (.pointer (self bb)) (.pointer (self bb)) : Sem Value).run Tryd.prog w = .ok (.bool false) w := by
  obtain ⟨j, hj, _⟩ := info111
  rw [Sem.run_bind, show (eqGuard .neq 109 x y (.pointer (self bb)) (.pointer (self bb))).run Tryd.prog w = .ok () w from rfl, Result.andThen_ok]
  exact Lib.run_neq_ptr_same w _ Tryd.underlying109 hj
theorem noEsc (v : Value) (w : World) : (callFunc 84 ⟨[v]⟩).run Tryd.prog w = .ok (.value v) w := by
  rw [run_callFunc_extern Tryd.func84 (by kernel_rfl) (by kernel_rfl) (by kernel_rfl) (e := Extern.AbiNoEscape.same) (by kernel_rfl), Lib.run_noEscape]
  rfl

theorem copy_spec (bb : Nat) (p : Option Addr) (hp : p = none ∨ p = self bb) (a : Option Addr) (n c : Nat) (w : World) (S : FP) (hS : Sep [bldC bb p a n c] w S) (hd : ∀ b, S b → b < w.heap.size) :
    Trip Tryd.prog 78 #[.pointer (some ⟨bb, 0, none⟩)] w S fun v L => v = .tuple #[] ∧ L = [bldC bb (self bb) a n c] := by
  refine Trip.of_x (L := [bldC bb p a n c]) Tryd.func78 (by kernel_rfl) rfl Tryd.ntmps78 Tryd.results78 rfl (ctx_ok _) hS hd ?_
  obtain ⟨j, hj, hjs⟩ := info111
  refine ⟨_, ld 0 rfl rfl rfl, ?_⟩
  rcases hp with rfl | rfl
  · refine ⟨_, fun w _ => run_eq_nil bb _ _ w, ?_⟩
    refine ⟨fun _ => ?_, nofun⟩
    refine ⟨.pointer (some ⟨bb, 0, none⟩), fun w hw => ?_, ?_⟩
    · obtain ⟨T, hT⟩ := hw.mem (i := 0) rfl
      exact Lib.run_to_unsafe (P := Tryd.prog) w ⟨bb, 0, none⟩ Tryd.underlying109 Tryd.underlying135 hj (by omega) (shape_of hT) (Nat.zero_lt_succ 1)
    refine callV (noEsc _) ?_
    refine ⟨.pointer (some ⟨bb, 0, none⟩), fun w hw => ?_, ?_⟩
    · obtain ⟨T, hT⟩ := hw.mem (i := 0) rfl
      exact Lib.run_from_unsafe (P := Tryd.prog) w ⟨bb, 0, none⟩ Tryd.underlying135 Tryd.underlying109 hj (shape_of hT) (by kernel_rfl)
    refine st 0 rfl rfl rfl rfl rfl ?_
    exact ⟨_, .pick [0], rfl, rfl⟩
  · refine ⟨_, fun w _ => run_eq_self bb _ _ w, ?_⟩
    refine ⟨nofun, fun _ => ?_⟩
    refine ⟨_, ld 0 rfl rfl rfl, ?_⟩
    refine ⟨_, fun w _ => run_ne_self bb _ _ w, ?_⟩
    refine ⟨nofun, fun _ => ?_⟩
    exact ⟨_, .pick [0], rfl, rfl⟩

theorem len_str (s : ByteArray) (ty : TypeId) (w : World) : (Builtin.len_ #[9] ty ⟨[.string s]⟩).run Tryd.prog w = .ok (.int .i64 s.size) w := by
  simp [Builtin.len_, run_underlying' Tryd.underlying9, goInt]
theorem zero5 (w : World) : (zeroValue 5).run Tryd.prog w = .ok (.int .u8 0) w := by kernel_rfl

theorem write_spec (bb : Nat) (p : Option Addr) (hp : p = none ∨ p = self bb) (a : Option Addr) (c : Nat) (bs : List UInt8) (s : ByteArray) (hlen : bs.length + s.size ≤ 140737488355328) (w : World) (S : FP) (hS : Sep [bldC bb p a bs.length c, own a c 5 1 encU bs] w S) (hd : ∀ b, S b → b < w.heap.size) :
    Trip Tryd.prog 65 #[.pointer (some ⟨bb, 0, none⟩), .string s] w S fun v L => v = .tuple #[.int .i64 s.size, .nilIface] ∧ ∃ a' c', (0 < s.size → ∃ g, a' = some ⟨g, 0, none⟩ ∧ (bs ++ s.data.toList).length ≤ c') ∧ L = [bldC bb (self bb) a' (bs ++ s.data.toList).length c', own a' c' 5 1 encU (bs ++ s.data.toList)] := by
  refine Trip.of_x (L := [bldC bb p a bs.length c, own a c 5 1 encU bs]) Tryd.func65 (by kernel_rfl) rfl Tryd.ntmps65 Tryd.results65 rfl (ctx_ok _) hS hd ?_
  refine callP [0] (fun w S hR hB hS hd => copy_spec bb p hp a bs.length c w S hS hd) ?_
  rintro _ _ ⟨rfl, rfl⟩
  refine ⟨_, ld 0 rfl rfl rfl, ?_⟩
  refine appStr 1 s rfl rfl rfl rfl rfl rfl rfl rfl rfl zero5 hlen fun a' c' hac => ?_
  refine st 0 rfl rfl rfl rfl rfl ?_
  refine ⟨_, fun w _ => len_str s _ w, ?_⟩
  exact ⟨_, .refl _, rfl, a', c', hac, rfl⟩

/-- What String's operations leave, in whatever order they come. -/
def strRel (bb : Nat) (sl pv : Value) (n : Nat) : RelT := fun i _ v N => N = [] ∧ v = match i with
  | 2 | 7 => .pointer (some ⟨bb, 1, none⟩)
  | 3 | 8 => sl
  | 4 => pv
  | 9 => .int .i64 n
  | _ => .pointer (some ⟨bb, 0, none⟩)
def strU (i : Nat) : List Nat := match i with
  | 1 => [0]
  | 2 => [0, 1]
  | 3 => [0, 1, 2]
  | 4 => [0, 1, 2, 3]
  | 6 => [5]
  | 7 => [5, 6]
  | 8 => [5, 6, 7]
  | 9 => [5, 6, 7, 8]
  | _ => []
theorem string_spec (bb : Nat) (p : Option Addr) (a : Option Addr) (c : Nat) (bs : List UInt8) (hb : (a = none ∧ bs = []) ∨ ∃ g, a = some ⟨g, 0, none⟩ ∧ bs ≠ [] ∧ bs.length ≤ c) (hlen : bs.length ≤ 140737488355328) (w : World) (S : FP) (hS : Sep [bldC bb p a bs.length c, own a c 5 1 encU bs] w S) (hd : ∀ b, S b → b < w.heap.size) :
    Trip Tryd.prog 67 #[.pointer (some ⟨bb, 0, none⟩)] w S fun v L => v = .string ⟨bs.toArray⟩ ∧ L = [] := by
  refine Trip.of_x (L := [bldC bb p a bs.length c, own a c 5 1 encU bs]) Tryd.func67 (by kernel_rfl) rfl Tryd.ntmps67 Tryd.results67 rfl (ctx_ok _) hS hd ?_
  rcases hb with ⟨rfl, rfl⟩ | ⟨g, rfl, hne, hnc⟩
  · refine Or.inr (Or.inr (drawF 10 strU (strRel bb (.slice none 0 c) (.pointer none) 0) (by kernel_rfl) ?_ ?_))
    · refine ⟨fun w S hR => ?_, fun w S hR => ?_, fun w S hR => ?_, fun w S hR => ?_, fun w S hR => ?_, fun w S hR => ?_, fun w S hR => ?_, fun w S hR => ?_, fun w S hR => ?_, fun w S hR => ?_, trivial⟩
      · exact ⟨[], ⟨rfl, rfl⟩, .refl _⟩
      · rintro _ _ ⟨rfl, rfl⟩; exact ⟨[], ⟨rfl, rfl⟩, .refl _⟩
      · rintro _ _ ⟨rfl, rfl⟩; rintro _ _ ⟨rfl, rfl⟩; exact ⟨[], ⟨rfl, rfl⟩, .refl _⟩
      · rintro _ _ ⟨rfl, rfl⟩; rintro _ _ ⟨rfl, rfl⟩; rintro _ _ ⟨rfl, rfl⟩; exact ⟨_, ld 0 rfl rfl rfl, [], ⟨rfl, rfl⟩, .refl _⟩
      · rintro _ _ ⟨rfl, rfl⟩; rintro _ _ ⟨rfl, rfl⟩; rintro _ _ ⟨rfl, rfl⟩; rintro _ _ ⟨rfl, rfl⟩; exact ⟨_, sliceDataN, [], ⟨rfl, rfl⟩, .refl _⟩
      · exact ⟨[], ⟨rfl, rfl⟩, .refl _⟩
      · rintro _ _ ⟨rfl, rfl⟩; exact ⟨[], ⟨rfl, rfl⟩, .refl _⟩
      · rintro _ _ ⟨rfl, rfl⟩; rintro _ _ ⟨rfl, rfl⟩; exact ⟨[], ⟨rfl, rfl⟩, .refl _⟩
      · rintro _ _ ⟨rfl, rfl⟩; rintro _ _ ⟨rfl, rfl⟩; rintro _ _ ⟨rfl, rfl⟩; exact ⟨_, ld 0 rfl rfl rfl, [], ⟨rfl, rfl⟩, .refl _⟩
      · rintro _ _ ⟨rfl, rfl⟩; rintro _ _ ⟨rfl, rfl⟩; rintro _ _ ⟨rfl, rfl⟩; rintro _ _ ⟨rfl, rfl⟩; exact ⟨[], ⟨rfl, rfl⟩, .refl _⟩
    · rintro _ _ ⟨rfl, rfl⟩; rintro _ _ ⟨rfl, rfl⟩; rintro _ _ ⟨rfl, rfl⟩; rintro _ _ ⟨rfl, rfl⟩; rintro _ _ ⟨rfl, rfl⟩; rintro _ _ ⟨rfl, rfl⟩; rintro _ _ ⟨rfl, rfl⟩; rintro _ _ ⟨rfl, rfl⟩; rintro _ _ ⟨rfl, rfl⟩; rintro _ _ ⟨rfl, rfl⟩
      refine unsafeStrN ?_
      exact ⟨[], .pick [], rfl, rfl⟩
  · refine Or.inr (Or.inr (drawF 10 strU (strRel bb (.slice (some ⟨g, 0, none⟩) bs.length c) (.pointer (some ⟨g, 0, none⟩)) bs.length) (by kernel_rfl) ?_ ?_))
    · refine ⟨fun w S hR => ?_, fun w S hR => ?_, fun w S hR => ?_, fun w S hR => ?_, fun w S hR => ?_, fun w S hR => ?_, fun w S hR => ?_, fun w S hR => ?_, fun w S hR => ?_, fun w S hR => ?_, trivial⟩
      · exact ⟨[], ⟨rfl, rfl⟩, .refl _⟩
      · rintro _ _ ⟨rfl, rfl⟩; exact ⟨[], ⟨rfl, rfl⟩, .refl _⟩
      · rintro _ _ ⟨rfl, rfl⟩; rintro _ _ ⟨rfl, rfl⟩; exact ⟨[], ⟨rfl, rfl⟩, .refl _⟩
      · rintro _ _ ⟨rfl, rfl⟩; rintro _ _ ⟨rfl, rfl⟩; rintro _ _ ⟨rfl, rfl⟩; exact ⟨_, ld 0 rfl rfl rfl, [], ⟨rfl, rfl⟩, .refl _⟩
      · rintro _ _ ⟨rfl, rfl⟩; rintro _ _ ⟨rfl, rfl⟩; rintro _ _ ⟨rfl, rfl⟩; rintro _ _ ⟨rfl, rfl⟩; exact ⟨_, sliceDataO (by have := List.length_pos_iff.2 hne; omega), [], ⟨rfl, rfl⟩, .refl _⟩
      · exact ⟨[], ⟨rfl, rfl⟩, .refl _⟩
      · rintro _ _ ⟨rfl, rfl⟩; exact ⟨[], ⟨rfl, rfl⟩, .refl _⟩
      · rintro _ _ ⟨rfl, rfl⟩; rintro _ _ ⟨rfl, rfl⟩; exact ⟨[], ⟨rfl, rfl⟩, .refl _⟩
      · rintro _ _ ⟨rfl, rfl⟩; rintro _ _ ⟨rfl, rfl⟩; rintro _ _ ⟨rfl, rfl⟩; exact ⟨_, ld 0 rfl rfl rfl, [], ⟨rfl, rfl⟩, .refl _⟩
      · rintro _ _ ⟨rfl, rfl⟩; rintro _ _ ⟨rfl, rfl⟩; rintro _ _ ⟨rfl, rfl⟩; rintro _ _ ⟨rfl, rfl⟩; exact ⟨[], ⟨rfl, rfl⟩, .refl _⟩
    · rintro _ _ ⟨rfl, rfl⟩; rintro _ _ ⟨rfl, rfl⟩; rintro _ _ ⟨rfl, rfl⟩; rintro _ _ ⟨rfl, rfl⟩; rintro _ _ ⟨rfl, rfl⟩; rintro _ _ ⟨rfl, rfl⟩; rintro _ _ ⟨rfl, rfl⟩; rintro _ _ ⟨rfl, rfl⟩; rintro _ _ ⟨rfl, rfl⟩; rintro _ _ ⟨rfl, rfl⟩
      refine unsafeStrO 1 rfl Tryd.underlying129 (by kernel_rfl) rfl hne hlen ?_
      exact ⟨[], .pick [], rfl, rfl⟩
end Go.Proofs.YtfebaopjfmpfkaaDoor
