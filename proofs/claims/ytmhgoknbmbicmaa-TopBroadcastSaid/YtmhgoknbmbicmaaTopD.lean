/- The walk of TopBroadcast: the early ways out. -/
import Derived.Test.YtmhgoknbmbicmaaTopC
namespace Go.Proofs.Ytmhgoknbmbicmaa
open Go.RowKit
set_option linter.unusedVariables false
set_option linter.unusedSimpArgs false

theorem goodconf (w : World) : Calls Try.prog 4 #[.agg #[.int .i64 0, .int .i64 1, .int .i64 1, .int .i64 1]] w fun e w' => e = .returned (.int .i64 0) ∧ Below w.heap.size w w' :=
  (pcheck_any 0 1 1 1 w).mono fun e w' h => ⟨by rw [h.1]; rfl, h.2⟩

set_option maxHeartbeats 4000000 in
set_option maxRecDepth 100000 in
theorem top_early (seed : Int) (st sp de co : Int) (v2 : Value) (w : World) (h2 : IsPkts w v2) (hbad : okC st sp de co = false ∨ ∃ x n c, v2 = .slice x n c ∧ 64 < n) :
    Calls Try.prog 3 #[.int .u64 seed, .agg #[.int .i64 st, .int .i64 sp, .int .i64 de, .int .i64 co], v2] w fun e w' => e = .returned (.bool true) ∧ Below w.heap.size w w' := by
  obtain ⟨x, n, c, qs, rfl, hl, hnc, hcl, hnil, hq⟩ := h2
  clear hq hl
  have hb0 : Below w.heap.size w (w.alloc (.cells #[.int .i64 st, .int .i64 sp, .int .i64 de, .int .i64 co] 24)) := (Below.refl _ _).alloc (Nat.le_refl _) _
  have C := pcheck_any st sp de co (w.alloc (.cells #[.int .i64 st, .int .i64 sp, .int .i64 de, .int .i64 co] 24))
  cases hok : okC st sp de co with
  | false =>
    rw [show errC st sp de co = 3 from by unfold errC; rw [hok]; rfl] at C
    have HC := Lib.hid C
    clear C hbad hok
    go_enter Try.func3, Try.ntmps3
    go_wp2_with (fail)
    refine HC.out.mono ?_
    rintro e w1 ⟨rfl, hb1⟩
    go_wp2_with (fail)
    refine (goodconf _).mono ?_
    rintro e w2 ⟨rfl, hb2⟩
    go_wp2_with (fail)
    go_ret
    have hb01 := hb0.trans (hb1.mono hb0.size)
    exact ⟨rfl, hb01.trans (hb2.mono hb01.size)⟩
  | true =>
    rw [show errC st sp de co = 0 from by unfold errC; rw [hok]; rfl] at C
    have hn : 64 < n := by
      rcases hbad with h | ⟨x', n', c', e, h⟩
      · rw [hok] at h; cases h
      · obtain ⟨rfl, rfl, rfl⟩ : x = x' ∧ n = n' ∧ c = c' := by simpa using e
        exact h
    have hni : (64 : Int) < n := by omega
    have HC := Lib.hid C
    clear C hbad hok
    go_enter Try.func3, Try.ntmps3
    go_wp2_with (fail)
    refine HC.out.mono ?_
    rintro e w1 ⟨rfl, hb1⟩
    go_wp2_with (fail)
    refine (goodconf _).mono ?_
    rintro e w2 ⟨rfl, hb2⟩
    go_wp2_with (fail)
    go_ret
    have hb01 := hb0.trans (hb1.mono hb0.size)
    exact ⟨rfl, hb01.trans (hb2.mono hb01.size)⟩
end Go.Proofs.Ytmhgoknbmbicmaa
