/- The law of TopBroadcast, for all arguments. -/
import Derived.Test.YtmhgoknbmbicmaaTopF
namespace Go.Proofs.Ytmhgoknbmbicmaa
open Go.ChangeShapes Go.WideShapes Go.ChangeAt Go.RowKit
set_option linter.unusedVariables false
set_option linter.unusedSimpArgs false

def IsInt (k : IntKind) (w : World) (v : Value) : Prop := ∃ a : Int, v = .int k a ∧ (Lit.int k a).wf = true
def IsConf (w : World) (v : Value) : Prop := ∃ a b c d : Int, v = .agg #[.int .i64 a, .int .i64 b, .int .i64 c, .int .i64 d] ∧ (Lit.int .i64 a).wf = true ∧ (Lit.int .i64 b).wf = true ∧ (Lit.int .i64 c).wf = true ∧ (Lit.int .i64 d).wf = true

section
variable {H : Type} {enc : TypeId × Value → H} {W : World} {base : Nat} {v : Value} {d : DataW H} {p : List MemPlace}
theorem open_u64 (hv : Value.okWide Try.prog W .any base 22 v) (h : DataW.Trod enc Try.prog W 0 (fun _ => true) true 22 v d p) : IsInt .u64 W v := by
  obtain ⟨a, rfl, rfl, rfl, w1⟩ := open_int Try.underlying22 hv h
  exact ⟨a, rfl, w1⟩
theorem open_conf (hv : Value.okWide Try.prog W .any base 24 v) (h : DataW.Trod enc Try.prog W 0 (fun _ => true) true 24 v d p) : IsConf W v := by
  have h4 : Try.prog.cellsOf 24 = 4 := by kernel_rfl
  have e3 : Try.prog.cellsOf 3 = 1 := by kernel_rfl
  have hu := Try.underlying24
  simp only [Value.okWide, hu] at hv
  obtain ⟨cs, rfl, h2, _⟩ := hv
  obtain ⟨fuel, hf⟩ := h
  obtain ⟨xs, m, hn, hx, hl, hxl, hf⟩ := DataW.trod_struct hu hf
  rw [h4] at hl
  obtain ⟨cs⟩ := cs
  match cs, hl with
  | [a0, a1, a2, a3], _ =>
    have g4 : xs.length = 4 := hxl
    have f0 : DataW.trod enc Try.prog W 0 (fun _ => true) true m 3 (([a0, a1, a2, a3].drop 0).take (Try.prog.cellsOf 3)) = xs[0]? := hf 0 _ rfl
    rw [e3, List.getElem?_eq_getElem (by omega)] at f0
    replace f0 : DataW.trod enc Try.prog W 0 (fun _ => true) true m 3 [a0] = some (xs[0]'(by omega)) := f0
    have f1 : DataW.trod enc Try.prog W 0 (fun _ => true) true m 3 (([a0, a1, a2, a3].drop 1).take (Try.prog.cellsOf 3)) = xs[1]? := hf 1 _ rfl
    rw [e3, List.getElem?_eq_getElem (by omega)] at f1
    replace f1 : DataW.trod enc Try.prog W 0 (fun _ => true) true m 3 [a1] = some (xs[1]'(by omega)) := f1
    have f2 : DataW.trod enc Try.prog W 0 (fun _ => true) true m 3 (([a0, a1, a2, a3].drop 2).take (Try.prog.cellsOf 3)) = xs[2]? := hf 2 _ rfl
    rw [e3, List.getElem?_eq_getElem (by omega)] at f2
    replace f2 : DataW.trod enc Try.prog W 0 (fun _ => true) true m 3 [a2] = some (xs[2]'(by omega)) := f2
    have f3 : DataW.trod enc Try.prog W 0 (fun _ => true) true m 3 (([a0, a1, a2, a3].drop 3).take (Try.prog.cellsOf 3)) = xs[3]? := hf 3 _ rfl
    rw [e3, List.getElem?_eq_getElem (by omega)] at f3
    replace f3 : DataW.trod enc Try.prog W 0 (fun _ => true) true m 3 [a3] = some (xs[3]'(by omega)) := f3
    obtain ⟨q0, hq0, _, wq0⟩ := DataW.trod_int Try.underlying3 f0
    obtain rfl : a0 = .int .i64 q0 := by simpa using hq0
    obtain ⟨q1, hq1, _, wq1⟩ := DataW.trod_int Try.underlying3 f1
    obtain rfl : a1 = .int .i64 q1 := by simpa using hq1
    obtain ⟨q2, hq2, _, wq2⟩ := DataW.trod_int Try.underlying3 f2
    obtain rfl : a2 = .int .i64 q2 := by simpa using hq2
    obtain ⟨q3, hq3, _, wq3⟩ := DataW.trod_int Try.underlying3 f3
    obtain rfl : a3 = .int .i64 q3 := by simpa using hq3
    exact ⟨q0, q1, q2, q3, rfl, wq0, wq1, wq2, wq3⟩
end

theorem TopBroadcast_walk (v0 v1 v2 : Value) (w : World) (h0 : IsInt .u64 w v0) (h1 : IsConf w v1) (h2 : IsPkts w v2) :
    Calls Try.prog 3 #[v0, v1, v2] w fun e w' => e = .returned (.bool true) ∧ Below w.heap.size w w' := by
  obtain ⟨seed, rfl, -⟩ := h0
  obtain ⟨st, sp, de, co, rfl, -, -, -, -⟩ := h1
  have h2' := h2
  obtain ⟨x, n, c, qs, rfl, hl, hnc, hcl, hnil, hq⟩ := h2'
  cases hok : okC st sp de co with
  | false => exact top_early seed st sp de co _ w h2 (.inl hok)
  | true =>
    by_cases hn : 64 < n
    · exact top_early seed st sp de co _ w h2 (.inr ⟨x, n, c, rfl, hn⟩)
    · exact top_main seed st sp de co x n c qs w hl hnc hcl hnil hq hok (by omega)
end Go.Proofs.Ytmhgoknbmbicmaa
