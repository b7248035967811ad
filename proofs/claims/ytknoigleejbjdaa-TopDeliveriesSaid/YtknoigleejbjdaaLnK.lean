/- The law TopDeliveries, for all arguments. -/
import Derived.Test.YtknoigleejbjdaaLnJ
namespace Go.Proofs.Ytknoigleejbjdaa
open Go.RowKit
set_option linter.unusedVariables false
set_option linter.unusedSimpArgs false

set_option maxHeartbeats 4000000 in
set_option maxRecDepth 100000 in
theorem deliver_early (k : Lnk) (x : Option Addr) (nc cc : Nat) (dir : Int) (y : Option Addr) (n c : Nat) (w : World) (hD : Deeds w x k.cs) (hl : k.cs.length = nc) (hnc : nc ≤ cc) (hcc : cc ≤ 9223372036854775807) (h : 200 < n ∨ 100 < nc ∨ ¬ Good k ∨ dir < 0 ∨ 1 < dir) :
    Calls Try.prog 10 #[.agg (lnkVals k x nc cc), .int .i64 dir, .slice y n c] w fun e w' => e = .returned (.bool true) ∧ Below w.heap.size w w' := by
  obtain ⟨X0, hX0⟩ : ∃ X, X = w.alloc (lnkObj k x nc cc) := ⟨_, rfl⟩
  obtain ⟨hb0, hs0, ho0⟩ := lay_lnk hX0
  have HC := Lib.hid (check_any k x nc cc X0 (hD.below hb0) hl hnc hcc)
  have HB0 := Lib.hid hb0
  have HH := Lib.hid h
  obtain ⟨K, hK⟩ : ∃ K, k = K := ⟨_, rfl⟩
  have HK := Lib.hid hK
  obtain ⟨d0, d1, v0, v1, lo, se, cs⟩ := k
  have hx0' : Hid (X0 = w.alloc (.cells #[.int .i64 d0, .int .i64 d1, .int .i64 v0, .int .i64 v1, .int .i64 lo, .int .u64 se, .slice x nc cc] 59)) := Lib.hid hX0
  have HBW := Lib.hid (show Below w.heap.size w (w.alloc (.cells #[.int .i64 d0, .int .i64 d1, .int .i64 v0, .int .i64 v1, .int .i64 lo, .int .u64 se, .slice x nc cc] 59)) from (Below.refl _ _).alloc (Nat.le_refl _) _)
  clear hD hb0 ho0 hX0 hl h hK
  unfold lnkVals at HC ⊢
  simp only at HC ⊢
  by_cases c1 : 200 < n
  · have c1' : (200 : Int) < n := by omega
    go_enter Try.func10, Try.ntmps10
    go_wp2_with (fail)
    go_ret
    exact ⟨rfl, HBW.out⟩
  · have c1' : ¬ (200 : Int) < n := by omega
    by_cases c2 : 100 < nc
    · have c2' : (100 : Int) < nc := by omega
      go_enter Try.func10, Try.ntmps10
      go_wp2_with (fail)
      go_ret
      exact ⟨rfl, HBW.out⟩
    · have c2' : ¬ (100 : Int) < nc := by omega
      go_enter Try.func10, Try.ntmps10
      go_wp2_with (fail)
      rw [← hx0'.out]
      refine HC.out.mono ?_
      rintro e w1 ⟨⟨E, rfl, hE⟩, hb1⟩
      have HB1 := Lib.hid (HB0.out.trans (hb1.mono (by omega)))
      have HE := Lib.hid hE
      clear hb1 hE
      by_cases hE0 : E = 0
      · subst hE0
        by_cases c3 : dir < 0
        · go_wp2_with (fail)
          go_ret
          exact ⟨rfl, HB1.out⟩
        · by_cases c4 : 1 < dir
          · go_wp2_with (fail)
            go_ret
            exact ⟨rfl, HB1.out⟩
          · exfalso
            rcases HH.out with h | h | h | h | h
            · omega
            · omega
            · exact h (HE.out.1 rfl)
            · omega
            · omega
      · go_wp2_with (fail)
        go_ret
        exact ⟨rfl, HB1.out⟩
theorem TopDeliveries_walk (v0 v1 v2 : Value) (w : World) (h0 : IsLnk w v0) (h1 : IsInt .i64 w v1) (h2 : IsInts .i64 w v2) :
    Calls Try.prog 10 #[v0, v1, v2] w fun e w' => e = .returned (.bool true) ∧ Below w.heap.size w w' := by
  obtain ⟨k, x, nc, cc, rfl, hD, hl, hnc, hcc⟩ := h0
  obtain ⟨dir, rfl, -⟩ := h1
  obtain ⟨y, n, c, ss, rfl, hS, -, hsl, -, -, -⟩ := h2
  by_cases h : 200 < n ∨ 100 < nc ∨ ¬ Good k ∨ dir < 0 ∨ 1 < dir
  · exact deliver_early k x nc cc dir y n c w hD hl hnc hcc h
  · have hG : Good k := Classical.byContradiction (fun q => h (.inr (.inr (.inl q))))
    exact deliver_main k x nc cc dir y n c ss w hD hl hnc hcc hS hsl (by omega) (by omega) hG ⟨by omega, by omega⟩
end Go.Proofs.Ytknoigleejbjdaa
