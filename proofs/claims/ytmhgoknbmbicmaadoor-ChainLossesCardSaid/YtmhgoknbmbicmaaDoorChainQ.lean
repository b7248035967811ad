/- What the listed variable gives a walk; the door's heap meets the condition; what the arguments of the chain laws are. -/
import Derived.Test.YtmhgoknbmbicmaaDoorRows
import Derived.Test.YtmhgoknbmbicmaaDoorChainP
import Derived.ProofKit
import Derived.LaidMore
import Derived.OpenShut
import Derived.ChangeSlices
namespace Go.Proofs.YtmhgoknbmbicmaaDoor
open Go.ChangeShapes Go.WideShapes Go.ChangeAt Go.WideMaps Go.WideElems Go.RowKit
set_option linter.unusedVariables false
set_option linter.unusedSimpArgs false

theorem cells_lt' {w : World} {a : Addr} {u : Value} (h : w.cell? a = some u) : a.block < w.heap.size := by
  unfold World.cell? at h
  by_cases hb : a.block < w.heap.size
  · exact hb
  · rw [Array.getElem?_eq_none (by omega)] at h
    simp at h
def laidC : List (String × DataW Unit) := [("timesync/timesynclaw46.conf", Rows.laid_timesync_timesynclaw46_conf)]
theorem gConf : Tryd.prog.globalNamed "timesync/timesynclaw46.conf" = some 0 := by kernel_rfl
theorem tConf : (Tryd.prog.globals[0]?).map (·.type) = some 23 := by kernel_rfl
theorem door_met (os : Os) (args : Array Value) : laidMetH Tryd.prog laidC ((World.doorLaid Tryd.prog 400 os).forCall (fun _ _ => 0) ⟨#[], args, []⟩).memory :=
  laidMetH_of_parts3 (fuel := 8) (laidMet_of_run' 8 (by kernel_rfl) (by kernel_rfl)) (by kernel_rfl) (by kernel_rfl)

theorem conf_of_laid {W : World} (h : laidMetH Tryd.prog laidC W) : ConfAt W := by
  rw [MakeChecks.laidMetH_plain _ _ _ (by kernel_rfl)] at h
  obtain ⟨ps, ⟨g0, t0, cs0, f0, p0, q0, hg0, ht0, hv0, hd0, _, _⟩, _, _⟩ := h
  obtain rfl := Option.some.inj (gConf.symm.trans hg0)
  obtain rfl := Option.some.inj (tConf.symm.trans ht0)
  have hu := Tryd.underlying23
  obtain ⟨xs, m, hn, hx, hl, hxl, hf⟩ := DataW.trod_struct hu hd0
  have h4 : Tryd.prog.cellsOf 23 = 4 := by kernel_rfl
  have e3 : Tryd.prog.cellsOf 3 = 1 := by kernel_rfl
  rw [h4] at hl
  obtain ⟨cs⟩ := cs0
  match cs, hl with
  | [a0, a1, a2, a3], _ =>
    have g4 : xs.length = 4 := hxl
    match xs, g4 with
    | [x0, x1, x2, x3], _ =>
      have f0 : DataW.trod _ Tryd.prog W 0 _ false m 3 (([a0, a1, a2, a3].drop 0).take (Tryd.prog.cellsOf 3)) = some x0 := hf 0 _ rfl
      have f1 : DataW.trod _ Tryd.prog W 0 _ false m 3 (([a0, a1, a2, a3].drop 1).take (Tryd.prog.cellsOf 3)) = some x1 := hf 1 _ rfl
      have f2 : DataW.trod _ Tryd.prog W 0 _ false m 3 (([a0, a1, a2, a3].drop 2).take (Tryd.prog.cellsOf 3)) = some x2 := hf 2 _ rfl
      have f3 : DataW.trod _ Tryd.prog W 0 _ false m 3 (([a0, a1, a2, a3].drop 3).take (Tryd.prog.cellsOf 3)) = some x3 := hf 3 _ rfl
      rw [e3] at f0 f1 f2 f3
      obtain ⟨q0, hq0, r0, _⟩ := DataW.trod_int Tryd.underlying3 f0
      obtain ⟨q1, hq1, r1, _⟩ := DataW.trod_int Tryd.underlying3 f1
      obtain ⟨q2, hq2, r2, _⟩ := DataW.trod_int Tryd.underlying3 f2
      obtain ⟨q3, hq3, r3, _⟩ := DataW.trod_int Tryd.underlying3 f3
      subst r0 r1 r2 r3
      simp [Rows.laid_timesync_timesynclaw46_conf] at hx
      simp at hq0 hq1 hq2 hq3
      obtain ⟨⟨rfl, rfl, rfl, rfl⟩, -⟩ := hx
      subst hq0 hq1 hq2 hq3
      have c0 := World.var?_cell hg0 hv0 0
      have c1 := World.var?_cell hg0 hv0 1
      have c2 := World.var?_cell hg0 hv0 2
      have c3 := World.var?_cell hg0 hv0 3
      refine ⟨by simpa using c0, by simpa using c1, by simpa using c2, by simpa using c3, ?_⟩
      have c1' : W.cell? ⟨0, 1, none⟩ = some (.int .i64 100) := by simpa using c1
      exact cells_lt' c1'

def IsInt (k : IntKind) (w : World) (v : Value) : Prop := ∃ a : Int, v = .int k a ∧ (Lit.int k a).wf = true
def IsConf (w : World) (v : Value) : Prop := ∃ a b c d : Int, v = .agg #[.int .i64 a, .int .i64 b, .int .i64 c, .int .i64 d] ∧ (Lit.int .i64 a).wf = true ∧ (Lit.int .i64 b).wf = true ∧ (Lit.int .i64 c).wf = true ∧ (Lit.int .i64 d).wf = true
def IsKey (w : World) (v : Value) : Prop := ∃ a b : Int, v = .agg #[.int .u64 a, .int .u64 b] ∧ U64 a ∧ U64 b
def IsInts (k : IntKind) (w : World) (v : Value) : Prop := ∃ (x : Option Addr) (n c : Nat) (ys : List Int), v = .slice x n c ∧ Ints k w w.heap.size x ys ∧ (∀ y ∈ ys, (Lit.int k y).wf = true) ∧ ys.length = n ∧ n ≤ c ∧ c ≤ 9223372036854775807 ∧ (x = none → n = 0 ∧ c = 0)

theorem wf_i64 {a : Int} (h : (Lit.int .i64 a).wf = true) : -9223372036854775808 ≤ a ∧ a ≤ 9223372036854775807 := by
  simp [Lit.wf, IntKind.min, IntKind.max, IntKind.bits, IntKind.signed] at h
  omega
theorem wf_u64 {a : Int} (h : (Lit.int .u64 a).wf = true) : U64 a := by
  simp [Lit.wf, IntKind.min, IntKind.max, IntKind.bits, IntKind.signed] at h
  unfold U64
  omega
theorem wf_u8 {a : Int} (h : (Lit.int .u8 a).wf = true) : 0 ≤ a ∧ a < 256 := by
  simp [Lit.wf, IntKind.min, IntKind.max, IntKind.bits, IntKind.signed] at h
  omega
section
variable {H : Type} {enc : TypeId × Value → H} {W : World} {base : Nat} {v : Value} {d : DataW H} {p : List MemPlace} {T : TypeId} {e : TypeId} {k : IntKind}
theorem open_isint (ht : Tryd.prog.underlying T = some (.int k)) (hv : Value.okWide Tryd.prog W .any base T v) (h : DataW.Trod enc Tryd.prog W 0 (fun _ => true) true T v d p) : IsInt k W v := by
  obtain ⟨a, rfl, rfl, rfl, w1⟩ := open_int ht hv h
  exact ⟨a, rfl, w1⟩
theorem open_u64 (hv : Value.okWide Tryd.prog W .any base 24 v) (h : DataW.Trod enc Tryd.prog W 0 (fun _ => true) true 24 v d p) : IsInt .u64 W v := open_isint Tryd.underlying24 hv h
theorem open_i64 (hv : Value.okWide Tryd.prog W .any base 3 v) (h : DataW.Trod enc Tryd.prog W 0 (fun _ => true) true 3 v d p) : IsInt .i64 W v := open_isint Tryd.underlying3 hv h
theorem open_isints (ht : Tryd.prog.underlying T = some (.slice e)) (he : Tryd.prog.underlying e = some (.int k)) (hc : Tryd.prog.cellsOf e = 1) (hv : Value.okWide Tryd.prog W .any base T v) (h : DataW.Trod enc Tryd.prog W 0 (fun _ => true) true T v d p) : IsInts k W v := by
  obtain ⟨a, len, cap, rfl⟩ := okWide_slice ht hv
  obtain ⟨fuel, hf⟩ := h
  rcases open_ints ht he hc hf with ⟨hcs, _⟩ | ⟨x, l, c, zs, hcs, _, hl, hm, hz, _, hcell, hwz⟩
  · simp [Value.cells] at hcs
    obtain ⟨rfl, rfl, rfl⟩ := hcs
    exact ⟨none, 0, 0, [], rfl, Ints.nil _ _ _ _, by simp, rfl, Nat.le_refl _, by omega, fun _ => ⟨rfl, rfl⟩⟩
  · simp [Value.cells] at hcs
    obtain ⟨rfl, rfl, rfl⟩ := hcs
    have hz' : zs.length = cap := by simpa using hz
    refine ⟨some x, len, cap, zs.take len, rfl, ?_, fun y hy => hwz y (List.mem_of_mem_take hy), by rw [List.length_take]; omega, hl, by unfold maxLen at hm; exact hm, fun h => by cases h⟩
    intro i hi
    rw [List.length_take] at hi
    have h1 := hcell i (by omega)
    refine ⟨x, rfl, ?_, ?_⟩
    · have := cells_lt' h1
      unfold Addr.add at this
      split at this <;> exact this
    · rw [h1, List.getD_eq_getElem?_getD, List.getD_eq_getElem?_getD, List.getElem?_take, if_pos (by omega)]


theorem open_bytes (hv : Value.okWide Tryd.prog W .any base 36 v) (h : DataW.Trod enc Tryd.prog W 0 (fun _ => true) true 36 v d p) : IsInts .u8 W v := open_isints Tryd.underlying36 Tryd.underlying5 (by kernel_rfl) hv h
theorem open_i64s (hv : Value.okWide Tryd.prog W .any base 39 v) (h : DataW.Trod enc Tryd.prog W 0 (fun _ => true) true 39 v d p) : IsInts .i64 W v := open_isints Tryd.underlying39 Tryd.underlying3 (by kernel_rfl) hv h
theorem open_key (hv : Value.okWide Tryd.prog W .any base 34 v) (h : DataW.Trod enc Tryd.prog W 0 (fun _ => true) true 34 v d p) : IsKey W v := by
  simp only [Value.okWide, Tryd.underlying34] at hv
  obtain ⟨cs, rfl, h2, _⟩ := hv
  obtain ⟨fuel, hf⟩ := h
  obtain ⟨xs, m, _, _, hl, hx, hi⟩ := DataW.trod_array Tryd.underlying34 hf
  have hC : Tryd.prog.cellsOf 34 = 2 := by kernel_rfl
  rw [hC] at h2 hl
  obtain ⟨c0, c1, rfl⟩ : ∃ a b, cs = #[a, b] := by
    obtain ⟨l⟩ := cs
    match l, h2 with
    | [a, b], _ => exact ⟨a, b, rfl⟩
  have hu : Tryd.prog.underlying 24 = some (.int .u64) := Tryd.underlying24
  have g0 := hi 0 (by omega)
  have g1 := hi 1 (by omega)
  simp only [show Tryd.prog.cellsOf 24 = 1 by kernel_rfl, Value.cells] at g0 g1
  obtain ⟨x0, hx0⟩ : ∃ y, xs[0]? = some y := ⟨xs[0], List.getElem?_eq_getElem (by omega)⟩
  obtain ⟨x1, hx1⟩ : ∃ y, xs[1]? = some y := ⟨xs[1], List.getElem?_eq_getElem (by omega)⟩
  rw [hx0] at g0
  rw [hx1] at g1
  obtain ⟨a, ha, _, wa⟩ := DataW.trod_int hu g0
  obtain ⟨b, hb, _, wb⟩ := DataW.trod_int hu g1
  simp at ha hb
  subst ha
  subst hb
  exact ⟨a, b, rfl, wf_u64 wa, wf_u64 wb⟩


theorem open_conf (hv : Value.okWide Tryd.prog W .any base 23 v) (h : DataW.Trod enc Tryd.prog W 0 (fun _ => true) true 23 v d p) : IsConf W v := by
  have h4 : Tryd.prog.cellsOf 23 = 4 := by kernel_rfl
  have e3 : Tryd.prog.cellsOf 3 = 1 := by kernel_rfl
  have hu := Tryd.underlying23
  simp only [Value.okWide, hu] at hv
  obtain ⟨cs, rfl, h2, _⟩ := hv
  obtain ⟨fuel, hf⟩ := h
  obtain ⟨xs, m, hn, hx, hl, hxl, hf⟩ := DataW.trod_struct hu hf
  rw [h4] at hl
  obtain ⟨cs⟩ := cs
  match cs, hl with
  | [a0, a1, a2, a3], _ =>
    have g4 : xs.length = 4 := hxl
    have f0 : DataW.trod enc Tryd.prog W 0 (fun _ => true) true m 3 (([a0, a1, a2, a3].drop 0).take (Tryd.prog.cellsOf 3)) = xs[0]? := hf 0 _ rfl
    rw [e3, List.getElem?_eq_getElem (by omega)] at f0
    replace f0 : DataW.trod enc Tryd.prog W 0 (fun _ => true) true m 3 [a0] = some (xs[0]'(by omega)) := f0
    have f1 : DataW.trod enc Tryd.prog W 0 (fun _ => true) true m 3 (([a0, a1, a2, a3].drop 1).take (Tryd.prog.cellsOf 3)) = xs[1]? := hf 1 _ rfl
    rw [e3, List.getElem?_eq_getElem (by omega)] at f1
    replace f1 : DataW.trod enc Tryd.prog W 0 (fun _ => true) true m 3 [a1] = some (xs[1]'(by omega)) := f1
    have f2 : DataW.trod enc Tryd.prog W 0 (fun _ => true) true m 3 (([a0, a1, a2, a3].drop 2).take (Tryd.prog.cellsOf 3)) = xs[2]? := hf 2 _ rfl
    rw [e3, List.getElem?_eq_getElem (by omega)] at f2
    replace f2 : DataW.trod enc Tryd.prog W 0 (fun _ => true) true m 3 [a2] = some (xs[2]'(by omega)) := f2
    have f3 : DataW.trod enc Tryd.prog W 0 (fun _ => true) true m 3 (([a0, a1, a2, a3].drop 3).take (Tryd.prog.cellsOf 3)) = xs[3]? := hf 3 _ rfl
    rw [e3, List.getElem?_eq_getElem (by omega)] at f3
    replace f3 : DataW.trod enc Tryd.prog W 0 (fun _ => true) true m 3 [a3] = some (xs[3]'(by omega)) := f3
    obtain ⟨q0, hq0, _, wq0⟩ := DataW.trod_int Tryd.underlying3 f0
    obtain rfl : a0 = .int .i64 q0 := by simpa using hq0
    obtain ⟨q1, hq1, _, wq1⟩ := DataW.trod_int Tryd.underlying3 f1
    obtain rfl : a1 = .int .i64 q1 := by simpa using hq1
    obtain ⟨q2, hq2, _, wq2⟩ := DataW.trod_int Tryd.underlying3 f2
    obtain rfl : a2 = .int .i64 q2 := by simpa using hq2
    obtain ⟨q3, hq3, _, wq3⟩ := DataW.trod_int Tryd.underlying3 f3
    obtain rfl : a3 = .int .i64 q3 := by simpa using hq3
    exact ⟨q0, q1, q2, q3, rfl, wq0, wq1, wq2, wq3⟩

end
end Go.Proofs.YtmhgoknbmbicmaaDoor
