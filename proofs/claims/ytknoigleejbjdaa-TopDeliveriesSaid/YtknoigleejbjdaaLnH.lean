/- What a link is, as a value in memory. -/
import Derived.Test.YtknoigleejbjdaaLnG
namespace Go.Proofs.Ytknoigleejbjdaa
open Go.ChangeShapes Go.WideShapes Go.ChangeAt Go.RowKit
set_option linter.unusedVariables false
set_option linter.unusedSimpArgs false

def IsLnk (w : World) (v : Value) : Prop := ∃ (k : Lnk) (x : Option Addr) (n c : Nat), v = .agg (lnkVals k x n c) ∧ Deeds w x k.cs ∧ k.cs.length = n ∧ n ≤ c ∧ c ≤ 9223372036854775807
section
variable {H : Type} {enc : TypeId × Value → H} {W : World} {base : Nat} {v : Value} {d : DataW H} {p : List MemPlace}
theorem open_change {n : Nat} {cs : List Value} {spare : Nat → Bool} {held : Bool} {x : DataW H × List MemPlace} (h : DataW.trod enc Try.prog W base spare held n 77 cs = some x) :
    ∃ (a b c : Int), cs = [.int .i64 a, .int .i64 b, .int .i64 c] ∧ wfI a ∧ wfI b ∧ wfI c := by
  obtain ⟨xs, m, hn, hx, hl, hxl, hf⟩ := DataW.trod_struct Try.underlying77 h
  have h6 : Try.prog.cellsOf 77 = 3 := by kernel_rfl
  rw [h6] at hl
  have e3 : Try.prog.cellsOf 3 = 1 := by kernel_rfl
  match cs, hl with
  | [a0, a1, a2], _ =>
    have g6 : xs.length = 3 := hxl
    have f0 : DataW.trod enc Try.prog W base spare held m 3 (([a0, a1, a2].drop 0).take (Try.prog.cellsOf 3)) = xs[0]? := hf 0 _ rfl
    rw [e3, List.getElem?_eq_getElem (by omega)] at f0
    replace f0 : DataW.trod enc Try.prog W base spare held m 3 [a0] = some (xs[0]'(by omega)) := f0
    have f1 : DataW.trod enc Try.prog W base spare held m 3 (([a0, a1, a2].drop 1).take (Try.prog.cellsOf 3)) = xs[1]? := hf 1 _ rfl
    rw [e3, List.getElem?_eq_getElem (by omega)] at f1
    replace f1 : DataW.trod enc Try.prog W base spare held m 3 [a1] = some (xs[1]'(by omega)) := f1
    have f2 : DataW.trod enc Try.prog W base spare held m 3 (([a0, a1, a2].drop 2).take (Try.prog.cellsOf 3)) = xs[2]? := hf 2 _ rfl
    rw [e3, List.getElem?_eq_getElem (by omega)] at f2
    replace f2 : DataW.trod enc Try.prog W base spare held m 3 [a2] = some (xs[2]'(by omega)) := f2
    obtain ⟨q0, hq0, _, wq0⟩ := DataW.trod_int Try.underlying3 f0
    obtain rfl : a0 = .int .i64 q0 := by simpa using hq0
    obtain ⟨q1, hq1, _, wq1⟩ := DataW.trod_int Try.underlying3 f1
    obtain rfl : a1 = .int .i64 q1 := by simpa using hq1
    obtain ⟨q2, hq2, _, wq2⟩ := DataW.trod_int Try.underlying3 f2
    obtain rfl : a2 = .int .i64 q2 := by simpa using hq2
    exact ⟨q0, q1, q2, rfl, wq0, wq1, wq2⟩
theorem open_changes {m : Nat} {a6 : Value} {y : DataW H × List MemPlace} (hf : DataW.trod enc Try.prog W 0 (fun _ => true) true m 57 [a6] = some y) : ∃ (x : Option Addr) (n c : Nat) (ds : List Deed), a6 = .slice x n c ∧ Deeds W x ds ∧ ds.length = n ∧ n ≤ c ∧ c ≤ 9223372036854775807 := by
  have hc3 : Try.prog.cellsOf 77 = 3 := by kernel_rfl
  rcases Go.Deep.open_slice Try.underlying57 hf with ⟨hcs, _⟩ | ⟨x, l, c, m, n, D, Pl, hcs, _, hl, hm, hmm, _, hi⟩
  · obtain rfl : a6 = .slice none 0 0 := by simpa using hcs
    exact ⟨none, 0, 0, [], rfl, fun i q hi => by simp at hi, rfl, Nat.le_refl _, by omega⟩
  · obtain rfl : a6 = .slice (some x) l c := by simpa using hcs
    have hml : l ≤ m := by rw [hmm]; split <;> omega
    have key : ∀ k, ∃ q : Deed, k < l → DeedAt W (some x) k q ∧ wfI q.k ∧ wfI q.a ∧ wfI q.b := by
      intro k
      by_cases hk : k < l
      · obtain ⟨cs', hc, ht⟩ := hi k (by omega)
        rw [hc3] at hc
        obtain ⟨q0, q1, q2, rfl, wq0, wq1, wq2⟩ := open_change ht
        obtain ⟨_, _, hat⟩ := World.cells?_some hc
        have t0 := hat 0 (by omega)
        have t1 := hat 1 (by omega)
        have t2 := hat 2 (by omega)
        refine ⟨⟨q0, q1, q2⟩, fun _ => ⟨⟨x, rfl, ?_, by simpa [Addr.add] using t0, by simpa [Addr.add] using t1, by simpa [Addr.add] using t2⟩, wq0, wq1, wq2⟩⟩
        have := cells_lt t1
        rw [add_block, add_block] at this
        exact this
      · exact ⟨⟨0, 0, 0⟩, fun e => absurd e hk⟩
    obtain ⟨f, hf⟩ := Classical.skolem.1 key
    refine ⟨some x, l, c, (List.range l).map f, rfl, fun i q hi => ?_, by simp, hl, by unfold maxLen at hm; exact hm⟩
    have hi' : i < l := by
      have := List.getElem?_eq_some_iff.1 hi
      obtain ⟨h, _⟩ := this
      simpa using h
    have : q = f i := by
      rw [List.getElem?_map, List.getElem?_range hi'] at hi
      simpa using hi.symm
    rw [this]
    exact hf i hi'
theorem open_pair2 {m : Nat} {a0 a1 : Value} {y : DataW H × List MemPlace} (hf : DataW.trod enc Try.prog W 0 (fun _ => true) true m 55 [a0, a1] = some y) : ∃ p q : Int, a0 = .int .i64 p ∧ a1 = .int .i64 q := by
  obtain ⟨xs, m, _, _, hl, hx, hi⟩ := DataW.trod_array Try.underlying55 hf
  have g0 := hi 0 (by omega)
  have g1 := hi 1 (by omega)
  simp only [show Try.prog.cellsOf 3 = 1 by kernel_rfl] at g0 g1
  obtain ⟨x0, hx0⟩ : ∃ y, xs[0]? = some y := ⟨xs[0], List.getElem?_eq_getElem (by omega)⟩
  obtain ⟨x1, hx1⟩ : ∃ y, xs[1]? = some y := ⟨xs[1], List.getElem?_eq_getElem (by omega)⟩
  rw [hx0] at g0
  rw [hx1] at g1
  obtain ⟨a, ha, _, wa⟩ := DataW.trod_int Try.underlying3 g0
  obtain ⟨b, hb, _, wb⟩ := DataW.trod_int Try.underlying3 g1
  exact ⟨a, b, by simpa using ha, by simpa using hb⟩
theorem open_lnk (hv : Value.okWide Try.prog W .any base 59 v) (h : DataW.Trod enc Try.prog W 0 (fun _ => true) true 59 v d p) : IsLnk W v := by
  have h7 : Try.prog.cellsOf 59 = 7 := by kernel_rfl
  have e1 : Try.prog.cellsOf 3 = 1 := by kernel_rfl
  have e2 : Try.prog.cellsOf 55 = 2 := by kernel_rfl
  have e3 : Try.prog.cellsOf 56 = 1 := by kernel_rfl
  have e4 : Try.prog.cellsOf 57 = 1 := by kernel_rfl
  have hu := Try.underlying59
  simp only [Value.okWide, hu] at hv
  obtain ⟨cs, rfl, h2, _⟩ := hv
  obtain ⟨fuel, hf⟩ := h
  obtain ⟨xs, m, hn, hx, hl, hxl, hf⟩ := DataW.trod_struct hu hf
  rw [h7] at hl
  obtain ⟨cs⟩ := cs
  match cs, hl with
  | [a0, a1, a2, a3, a4, a5, a6], _ =>
    have g4 : xs.length = 5 := hxl
    have f0 : DataW.trod enc Try.prog W 0 (fun _ => true) true m 55 (([a0, a1, a2, a3, a4, a5, a6].drop 0).take (Try.prog.cellsOf 55)) = xs[0]? := hf 0 _ rfl
    rw [e2, List.getElem?_eq_getElem (by omega)] at f0
    replace f0 : DataW.trod enc Try.prog W 0 (fun _ => true) true m 55 [a0, a1] = some (xs[0]'(by omega)) := f0
    have f1 : DataW.trod enc Try.prog W 0 (fun _ => true) true m 55 (([a0, a1, a2, a3, a4, a5, a6].drop 2).take (Try.prog.cellsOf 55)) = xs[1]? := hf 1 _ rfl
    rw [e2, List.getElem?_eq_getElem (by omega)] at f1
    replace f1 : DataW.trod enc Try.prog W 0 (fun _ => true) true m 55 [a2, a3] = some (xs[1]'(by omega)) := f1
    have f2 : DataW.trod enc Try.prog W 0 (fun _ => true) true m 3 (([a0, a1, a2, a3, a4, a5, a6].drop 4).take (Try.prog.cellsOf 3)) = xs[2]? := hf 2 _ rfl
    rw [e1, List.getElem?_eq_getElem (by omega)] at f2
    replace f2 : DataW.trod enc Try.prog W 0 (fun _ => true) true m 3 [a4] = some (xs[2]'(by omega)) := f2
    have f3 : DataW.trod enc Try.prog W 0 (fun _ => true) true m 56 (([a0, a1, a2, a3, a4, a5, a6].drop 5).take (Try.prog.cellsOf 56)) = xs[3]? := hf 3 _ rfl
    rw [e3, List.getElem?_eq_getElem (by omega)] at f3
    replace f3 : DataW.trod enc Try.prog W 0 (fun _ => true) true m 56 [a5] = some (xs[3]'(by omega)) := f3
    have f4 : DataW.trod enc Try.prog W 0 (fun _ => true) true m 57 (([a0, a1, a2, a3, a4, a5, a6].drop 6).take (Try.prog.cellsOf 57)) = xs[4]? := hf 4 _ rfl
    rw [e4, List.getElem?_eq_getElem (by omega)] at f4
    replace f4 : DataW.trod enc Try.prog W 0 (fun _ => true) true m 57 [a6] = some (xs[4]'(by omega)) := f4
    obtain ⟨d0, d1, rfl, rfl⟩ := open_pair2 f0
    obtain ⟨v0, v1, rfl, rfl⟩ := open_pair2 f1
    obtain ⟨q2, hq2, _, wq2⟩ := DataW.trod_int Try.underlying3 f2
    obtain rfl : a4 = .int .i64 q2 := by simpa using hq2
    obtain ⟨q3, hq3, _, wq3⟩ := DataW.trod_int Try.underlying56 f3
    obtain rfl : a5 = .int .u64 q3 := by simpa using hq3
    obtain ⟨x, n, c, ds, rfl, h1, h2, h3, h4⟩ := open_changes f4
    exact ⟨⟨d0, d1, v0, v1, q2, q3, ds⟩, x, n, c, rfl, h1, h2, h3, h4⟩
end
end Go.Proofs.Ytknoigleejbjdaa
