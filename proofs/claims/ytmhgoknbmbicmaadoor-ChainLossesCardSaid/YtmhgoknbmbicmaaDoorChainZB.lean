/- The law ChainLosses, for all arguments. -/
import Derived.Test.YtmhgoknbmbicmaaDoorChainZA
namespace Go.Proofs.YtmhgoknbmbicmaaDoor
open Go.ChangeShapes Go.WideShapes Go.ChangeAt Go.RowKit
set_option linter.unusedVariables false
set_option linter.unusedSimpArgs false

def IsBools (w : World) (v : Value) : Prop := ∃ (x : Option Addr) (n c : Nat) (bs : List Bool), v = .slice x n c ∧ Bools w x bs ∧ bs.length = n
section
variable {H : Type} {enc : TypeId × Value → H} {W : World} {base : Nat} {v : Value} {d : DataW H} {p : List MemPlace}
theorem open_bools (hv : Value.okWide Tryd.prog W .any base 52 v) (h : DataW.Trod enc Tryd.prog W 0 (fun _ => true) true 52 v d p) : IsBools W v := by
  obtain ⟨a, len, cap, rfl⟩ := okWide_slice Tryd.underlying52 hv
  obtain ⟨fuel, hf⟩ := h
  have hc1 : Tryd.prog.cellsOf 4 = 1 := by kernel_rfl
  rcases Go.Deep.open_slice Tryd.underlying52 hf with ⟨hcs, _⟩ | ⟨x, l, c, m, n, D, Pl, hcs, _, hl, hm, hmm, _, hi⟩
  · simp [Value.cells] at hcs
    obtain ⟨rfl, rfl, rfl⟩ := hcs
    exact ⟨none, 0, 0, [], rfl, fun i hi => by simp at hi, rfl⟩
  · simp [Value.cells] at hcs
    obtain ⟨rfl, rfl, rfl⟩ := hcs
    have hml : len ≤ m := by rw [hmm]; split <;> omega
    have key : ∀ k, ∃ b : Bool, k < len → W.cell? (x.add k) = some (.bool b) := by
      intro k
      by_cases hk : k < len
      · obtain ⟨cs', hc, ht⟩ := hi k (by omega)
        rw [hc1, Nat.mul_one] at hc
        obtain ⟨b, hb, _⟩ := DataW.trod_bool Tryd.underlying4 ht
        obtain ⟨_, _, hat⟩ := World.cells?_some hc
        have t0 := hat 0 (by omega)
        refine ⟨b, fun _ => ?_⟩
        subst hb
        simpa [Addr.add] using t0
      · exact ⟨false, fun e => absurd e hk⟩
    obtain ⟨f, hf⟩ := Classical.skolem.1 key
    refine ⟨some x, len, cap, (List.range len).map f, rfl, fun i hi => ?_, by simp⟩
    have hi' : i < len := by simpa using hi
    have hc := hf i hi'
    refine ⟨x, rfl, ?_, ?_⟩
    · have := cells_lt' hc
      unfold Addr.add at this
      split at this <;> exact this
    · rw [hc]
      simp [List.getD_eq_getElem?_getD, hi']
end

set_option maxRecDepth 100000 in
theorem ChainLosses_walk (v0 v1 v2 : Value) (w : World) (h0 : IsInt .u64 w v0) (h1 : IsInts .i64 w v1) (h2 : IsBools w v2) (hc : ConfAt w) :
    Calls Tryd.prog 7 #[v0, v1, v2] w fun e w' => e = .returned (.bool true) ∧ Below w.heap.size w w' := by
  obtain ⟨seed, rfl, -⟩ := h0
  obtain ⟨x, n, c, zs, rfl, i1, -, i3, -, -, -⟩ := h1
  obtain ⟨xb, nb, cb, b, rfl, j1, j3⟩ := h2
  by_cases hn : 30 < n
  · have hn' : (30 : Int) < n := by omega
    have HA := Lib.hid (awake_any w hc)
    clear hc
    go_enter Tryd.func7, Tryd.ntmps7
    go_wp2_with (fail)
    refine HA.out.mono ?_
    rintro e w1 ⟨rfl, hb1⟩
    go_wp2_with (fail)
    go_ret
    exact ⟨rfl, hb1⟩
  · by_cases h0 : 30 < nb
    · have hn' : ¬ (30 : Int) < n := by omega
      have hn2 : (30 : Int) < nb := by omega
      have HA := Lib.hid (awake_any w hc)
      clear hc
      go_enter Tryd.func7, Tryd.ntmps7
      go_wp2_with (fail)
      refine HA.out.mono ?_
      rintro e w1 ⟨rfl, hb1⟩
      go_wp2_with (fail)
      go_ret
      exact ⟨rfl, hb1⟩
    · exact losses_main seed x n c zs xb nb cb b w i1 i3 (by omega) j1 j3 (by omega) hc
end Go.Proofs.YtmhgoknbmbicmaaDoor
