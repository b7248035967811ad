/- What the arguments of the statements about package port are, as values in memory. -/
import Derived.Test.YthegjpkbgdkplaaPortRun
import Derived.OpenShut
import Derived.ProofKit
import Derived.RowKit
import Derived.Deep.SlicePairs
namespace Go.Proofs.Ythegjpkbgdkplaa
open Go.ChangeShapes Go.WideShapes Go.ChangeAt Go.RowKit
set_option linter.unusedVariables false
set_option linter.unusedSimpArgs false

def IsEvs (w : World) (v : Value) : Prop := ∃ (x : Option Addr) (n c : Nat) (zs : List (Int × Bool)), v = .slice x n c ∧ Evs w w.heap.size x zs ∧ (∀ z ∈ zs, (Lit.int .i64 z.1).wf = true) ∧ zs.length = n ∧ n ≤ c ∧ c ≤ 9223372036854775807 ∧ (x = none → n = 0 ∧ c = 0)
def IsInt (k : IntKind) (w : World) (v : Value) : Prop := ∃ a : Int, v = .int k a ∧ (Lit.int k a).wf = true
def IsBool (w : World) (v : Value) : Prop := ∃ b : Bool, v = .bool b

theorem wf_i64 {a : Int} (h : (Lit.int .i64 a).wf = true) : -9223372036854775808 ≤ a ∧ a ≤ 9223372036854775807 := by
  simp [Lit.wf, IntKind.min, IntKind.max, IntKind.bits, IntKind.signed] at h
  omega
theorem wf_u8 {a : Int} (h : (Lit.int .u8 a).wf = true) : 0 ≤ a ∧ a < 256 := by
  simp [Lit.wf, IntKind.min, IntKind.max, IntKind.bits, IntKind.signed] at h
  omega

theorem cells_lt {w : World} {a : Addr} {u : Value} (h : w.cell? a = some u) : a.block < w.heap.size := by
  unfold World.cell? at h
  by_cases hb : a.block < w.heap.size
  · exact hb
  · rw [Array.getElem?_eq_none (by omega)] at h
    simp at h

section
variable {H : Type} {enc : TypeId × Value → H} {W : World} {base : Nat} {v : Value} {d : DataW H} {p : List MemPlace} {T : TypeId} {e : TypeId} {k : IntKind}

theorem open_isint (ht : Try.prog.underlying T = some (.int k)) (hv : Value.okWide Try.prog W .any base T v) (h : DataW.Trod enc Try.prog W 0 (fun _ => true) true T v d p) : IsInt k W v := by
  obtain ⟨a, rfl, rfl, rfl, w1⟩ := open_int ht hv h
  exact ⟨a, rfl, w1⟩
theorem open_i64 (hv : Value.okWide Try.prog W .any base 3 v) (h : DataW.Trod enc Try.prog W 0 (fun _ => true) true 3 v d p) : IsInt .i64 W v := open_isint Try.underlying3 hv h
theorem open_u8 (hv : Value.okWide Try.prog W .any base 5 v) (h : DataW.Trod enc Try.prog W 0 (fun _ => true) true 5 v d p) : IsInt .u8 W v := open_isint Try.underlying5 hv h
theorem open_isbool (hv : Value.okWide Try.prog W .any base 4 v) (h : DataW.Trod enc Try.prog W 0 (fun _ => true) true 4 v d p) : IsBool W v := by
  obtain ⟨b, rfl, _⟩ := open_bool Try.underlying4 hv h
  exact ⟨b, rfl⟩

theorem open_evs (hv : Value.okWide Try.prog W .any base 27 v) (h : DataW.Trod enc Try.prog W 0 (fun _ => true) true 27 v d p) : IsEvs W v := by
  obtain ⟨a, len, cap, rfl⟩ := okWide_slice Try.underlying27 hv
  obtain ⟨fuel, hf⟩ := h
  rcases Go.Deep.open_slice_pairs Try.underlying27 Try.underlying32 (by kernel_rfl) rfl rfl (by kernel_rfl) (by kernel_rfl) hf with ⟨hcs, _⟩ | ⟨x, l, c, m, n, V0, V1, D0, D1, P0, P1, hcs, _, hl, hm, hmm, _, hx⟩
  · simp [Value.cells] at hcs
    obtain ⟨rfl, rfl, rfl⟩ := hcs
    exact ⟨none, 0, 0, [], rfl, Evs.nil _ _ _, by simp, rfl, Nat.le_refl _, by omega, fun _ => ⟨rfl, rfl⟩⟩
  · simp [Value.cells] at hcs
    obtain ⟨rfl, rfl, rfl⟩ := hcs
    have hm' : m = cap := by simpa using hmm
    subst hm'
    have key : ∀ i, i < len → ∃ (q : Int) (b : Bool), V0 i = .int .i64 q ∧ V1 i = .bool b ∧ (Lit.int .i64 q).wf = true := by
      intro i hi
      obtain ⟨_, _, g0, g1⟩ := hx i (by omega)
      obtain ⟨q, hq, _, wq⟩ := DataW.trod_int (Try.underlying3) g0
      obtain ⟨b, hb, _⟩ := DataW.trod_bool (Try.underlying4) g1
      exact ⟨q, b, by simpa using hq, by simpa using hb, wq⟩
    let f : Nat → Int × Bool := fun i => (match V0 i with | .int _ q => q | _ => 0, match V1 i with | .bool b => b | _ => false)
    have hlen : ((List.range len).map f).length = len := by simp
    refine ⟨some x, len, m, (List.range len).map f, rfl, ?_, ?_, hlen, hl, by unfold maxLen at hm; exact hm, fun h => by cases h⟩
    · intro i hi
      rw [hlen] at hi
      obtain ⟨c0, c1, _, _⟩ := hx i (by omega)
      obtain ⟨q, b, e0, e1, _⟩ := key i hi
      have eg : ((List.range len).map f).getD i (0, false) = (q, b) := by
        rw [List.getD_eq_getElem?_getD, List.getElem?_map, List.getElem?_range hi]
        simp [f, e0, e1]
      rw [eg]
      rw [e0] at c0
      rw [e1] at c1
      refine ⟨x, rfl, ?_, c0, ?_⟩
      · have := cells_lt c0
        rw [add_block] at this
        exact this
      · rw [← c1]
        congr 1
        unfold Addr.add
        by_cases h0 : i * 2 = 0
        · rw [if_pos h0, if_neg (by omega), h0]
        · rw [if_neg h0, if_neg (by omega)]; simp [Nat.add_assoc]
    · intro z hz
      obtain ⟨i, hi, rfl⟩ := List.mem_map.1 hz
      obtain ⟨q, b, e0, e1, wq⟩ := key i (List.mem_range.1 hi)
      simp [f, e0]
      exact wq
end
end Go.Proofs.Ythegjpkbgdkplaa
