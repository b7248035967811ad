/- What the arguments of the statements about package mac are, as values in memory. -/
import Derived.Test.YtkfkegalflnepaaMacWalk
import Derived.OpenShut
import Derived.ChangeSlices
import Derived.ProofKit
namespace Go.Proofs.Ytkfkegalflnepaa
open Go.ChangeShapes Go.WideShapes Go.ChangeAt Go.RowKit
set_option linter.unusedVariables false
set_option linter.unusedSimpArgs false

def IsKey (w : World) (v : Value) : Prop := ∃ a b : Int, v = .agg #[.int .u64 a, .int .u64 b] ∧ U64 a ∧ U64 b
def IsInts (k : IntKind) (w : World) (v : Value) : Prop := ∃ (x : Option Addr) (n c : Nat) (ys : List Int), v = .slice x n c ∧ Ints k w w.heap.size x ys ∧ (∀ y ∈ ys, (Lit.int k y).wf = true) ∧ ys.length = n ∧ n ≤ c ∧ c ≤ 9223372036854775807 ∧ (x = none → n = 0 ∧ c = 0)
def IsInt (k : IntKind) (w : World) (v : Value) : Prop := ∃ a : Int, v = .int k a ∧ (Lit.int k a).wf = true

theorem wf_u64 {a : Int} (h : (Lit.int .u64 a).wf = true) : U64 a := by
  simp [Lit.wf, IntKind.min, IntKind.max, IntKind.bits, IntKind.signed] at h
  unfold U64
  omega
theorem wf_u8 {a : Int} (h : (Lit.int .u8 a).wf = true) : 0 ≤ a ∧ a < 256 := by
  simp [Lit.wf, IntKind.min, IntKind.max, IntKind.bits, IntKind.signed] at h
  omega

section
variable {H : Type} {enc : TypeId × Value → H} {W : World} {base : Nat} {v : Value} {d : DataW H} {p : List MemPlace} {T : TypeId} {e : TypeId} {k : IntKind}

theorem open_isint (ht : Try.prog.underlying T = some (.int k)) (hv : Value.okWide Try.prog W .any base T v) (h : DataW.Trod enc Try.prog W 0 (fun _ => true) true T v d p) : IsInt k W v := by
  obtain ⟨a, rfl, rfl, rfl, w1⟩ := open_int ht hv h
  exact ⟨a, rfl, w1⟩

theorem cells_lt {w : World} {a : Addr} {u : Value} (h : w.cell? a = some u) : a.block < w.heap.size := by
  unfold World.cell? at h
  by_cases hb : a.block < w.heap.size
  · exact hb
  · rw [Array.getElem?_eq_none (by omega)] at h
    simp at h

theorem open_isints (ht : Try.prog.underlying T = some (.slice e)) (he : Try.prog.underlying e = some (.int k)) (hc : Try.prog.cellsOf e = 1) (hv : Value.okWide Try.prog W .any base T v) (h : DataW.Trod enc Try.prog W 0 (fun _ => true) true T v d p) : IsInts k W v := by
  obtain ⟨a, len, cap, rfl⟩ := okWide_slice ht hv
  obtain ⟨fuel, hf⟩ := h
  rcases open_ints ht he hc hf with ⟨hcs, _⟩ | ⟨x, l, c, zs, hcs, _, hl, hm, hz, _, hcell, hwz⟩
  · simp [Value.cells] at hcs
    obtain ⟨rfl, rfl, rfl⟩ := hcs
    exact ⟨none, 0, 0, [], rfl, Ints.nil _ _ _ _, by simp, rfl, Nat.le_refl _, by omega, fun _ => ⟨rfl, rfl⟩⟩
  · simp [Value.cells] at hcs
    obtain ⟨rfl, rfl, rfl⟩ := hcs
    have hz' : zs.length = cap := by simpa using hz
    refine ⟨some x, len, cap, zs.take len, rfl, ?_, fun y hy => hwz y (List.mem_of_mem_take hy), by rw [List.length_take]; omega, hl, by unfold maxLen at hm; exact hm, fun h => by cases h⟩
    intro i hi
    rw [List.length_take] at hi
    have h1 := hcell i (by omega)
    refine ⟨x, rfl, ?_, ?_⟩
    · have := cells_lt h1
      unfold Addr.add at this
      split at this <;> exact this
    · rw [h1, List.getD_eq_getElem?_getD, List.getD_eq_getElem?_getD, List.getElem?_take, if_pos (by omega)]

theorem open_key (hv : Value.okWide Try.prog W .any base 24 v) (h : DataW.Trod enc Try.prog W 0 (fun _ => true) true 24 v d p) : IsKey W v := by
  simp only [Value.okWide, underKey] at hv
  obtain ⟨cs, rfl, h2, _⟩ := hv
  obtain ⟨fuel, hf⟩ := h
  obtain ⟨xs, m, _, _, hl, hx, hi⟩ := DataW.trod_array underKey hf
  have hC : Try.prog.cellsOf 24 = 2 := by kernel_rfl
  rw [hC] at h2 hl
  obtain ⟨c0, c1, rfl⟩ : ∃ a b, cs = #[a, b] := by
    obtain ⟨l⟩ := cs
    match l, h2 with
    | [a, b], _ => exact ⟨a, b, rfl⟩
  have hu : Try.prog.underlying 22 = some (.int .u64) := Try.underlying22
  have g0 := hi 0 (by omega)
  have g1 := hi 1 (by omega)
  simp only [cellsU64, Value.cells] at g0 g1
  obtain ⟨x0, hx0⟩ : ∃ y, xs[0]? = some y := ⟨xs[0], List.getElem?_eq_getElem (by omega)⟩
  obtain ⟨x1, hx1⟩ : ∃ y, xs[1]? = some y := ⟨xs[1], List.getElem?_eq_getElem (by omega)⟩
  rw [hx0] at g0
  rw [hx1] at g1
  obtain ⟨a, ha, _, wa⟩ := DataW.trod_int hu g0
  obtain ⟨b, hb, _, wb⟩ := DataW.trod_int hu g1
  simp at ha hb
  subst ha
  subst hb
  exact ⟨a, b, rfl, wf_u64 wa, wf_u64 wb⟩

theorem open_u64 (hv : Value.okWide Try.prog W .any base 22 v) (h : DataW.Trod enc Try.prog W 0 (fun _ => true) true 22 v d p) : IsInt .u64 W v := open_isint Try.underlying22 hv h
theorem open_bytes (hv : Value.okWide Try.prog W .any base 25 v) (h : DataW.Trod enc Try.prog W 0 (fun _ => true) true 25 v d p) : IsInts .u8 W v := open_isints Try.underlying25 Try.underlying5 (by kernel_rfl) hv h
theorem open_u64s (hv : Value.okWide Try.prog W .any base 31 v) (h : DataW.Trod enc Try.prog W 0 (fun _ => true) true 31 v d p) : IsInts .u64 W v := open_isints Try.underlying31 Try.underlying22 (by kernel_rfl) hv h
end
end Go.Proofs.Ytkfkegalflnepaa
