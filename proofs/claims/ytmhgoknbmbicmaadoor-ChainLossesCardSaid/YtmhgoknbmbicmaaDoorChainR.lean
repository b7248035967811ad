/- The laws ChainNobody, ChainIntervals, ChainDerives. -/
import Derived.Test.YtmhgoknbmbicmaaDoorChainQ
namespace Go.Proofs.YtmhgoknbmbicmaaDoor
open Go.RowKit
set_option linter.unusedVariables false
set_option linter.unusedSimpArgs false

theorem disc_nil (i a b : Int) (w : World) : Calls Tryd.prog 24 #[.pointer none, .int .i64 i, .agg #[.int .u64 a, .int .u64 b]] w fun e w' => e = .returned (.tuple #[.slice none 0 0, .int .i64 1]) ∧ Below w.heap.size w w' := by
  go_enter Tryd.func24, Tryd.ntmps24
  go_wp2_with (fail)
  go_ret2
  exact ⟨rfl, (Below.refl _ _).alloc (Nat.le_refl _) _⟩
theorem hear_nil (i tag lo hi : Int) (x : Option Addr) (n c : Nat) (w : World) : Calls Tryd.prog 20 #[.pointer none, .int .i64 i, .slice x n c, .int .u64 tag, .agg #[.int .i64 lo, .int .i64 hi]] w fun e w' => e = .returned (.int .i64 1) ∧ Below w.heap.size w w' := by
  go_enter Tryd.func20, Tryd.ntmps20
  go_wp2_with (fail)
  go_ret
  exact ⟨rfl, (Below.refl _ _).alloc (Nat.le_refl _) _⟩
theorem known_nil (w : World) : Calls Tryd.prog 23 #[.pointer none] w fun e w' => e = .returned (.int .i64 0) ∧ w = w' := by
  go_enter Tryd.func23, Tryd.ntmps23
  go_wp2_with (fail)
  go_ret
  exact ⟨rfl, rfl⟩
theorem held_nil (w : World) : Calls Tryd.prog 22 #[.pointer none] w fun e w' => e = .returned (.int .i64 0) ∧ w = w' := by
  go_enter Tryd.func22, Tryd.ntmps22
  go_wp2_with (fail)
  go_ret
  exact ⟨rfl, rfl⟩

theorem ConfAt.below {w w' : World} (h : ConfAt w) (hb : Below w.heap.size w w') : ConfAt w' := h.same (hb.block 0 h.2.2.2.2) hb.size

set_option maxHeartbeats 2000000 in
theorem ChainNobody_walk (v0 v1 v2 : Value) (w : World) (h0 : IsInt .i64 w v0) (h1 : IsInts .u8 w v1) (h2 : IsKey w v2) (hc : ConfAt w) :
    Calls Tryd.prog 9 #[v0, v1, v2] w fun e w' => e = .returned (.bool true) ∧ Below w.heap.size w w' := by
  obtain ⟨i, rfl, -⟩ := h0
  obtain ⟨x, n, c, ys, rfl, -, -, -, -, -, -⟩ := h1
  obtain ⟨ka, kb, rfl, -, -⟩ := h2
  have hb0 : Below w.heap.size w (w.alloc (.cells #[.int .u64 ka, .int .u64 kb] 34)) := (Below.refl _ _).alloc (Nat.le_refl _) _
  by_cases hn : 1000 < n
  · have hn' : (1000 : Int) < n := by omega
    have HA := Lib.hid (awake_any _ (hc.below hb0))
    clear hc
    go_enter Tryd.func9, Tryd.ntmps9
    go_wp2_with (fail)
    refine HA.out.mono ?_
    rintro e w1 ⟨rfl, hb1⟩
    go_wp2_with (fail)
    go_ret
    exact ⟨rfl, hb0.trans (hb1.mono hb0.size)⟩
  · have hn' : ¬ (1000 : Int) < n := by omega
    have HC := Lib.hid hc
    clear hc
    go_enter Tryd.func9, Tryd.ntmps9
    go_wp2_with (fail)
    refine (disc_nil _ _ _ _).mono ?_
    rintro e w1 ⟨rfl, hb1⟩
    have c0 : w1.cell? ⟨w.heap.size, 0, none⟩ = some (.int .u64 ka) := by rw [hb1.cell (by simp)]; simp
    have hbw1 := hb0.trans (hb1.mono hb0.size)
    clear hb1
    go_wp2_with (fail)
    refine (hear_nil _ _ _ _ _ _ _ _).mono ?_
    rintro e w2 ⟨rfl, hb2⟩
    have hbw2 := hbw1.trans (hb2.mono hbw1.size)
    clear hb2 hbw1
    go_wp2_with (fail)
    refine (known_nil _).mono ?_
    rintro e w3 ⟨rfl, rfl⟩
    go_wp2_with (fail)
    refine (held_nil _).mono ?_
    rintro e w3 ⟨rfl, rfl⟩
    go_wp2_with (fail)
    refine (awake_any _ (HC.out.below hbw2)).mono ?_
    rintro e w3 ⟨rfl, hb3⟩
    go_wp2_with (fail)
    go_ret
    exact ⟨rfl, hbw2.trans (hb3.mono hbw2.size)⟩
end Go.Proofs.YtmhgoknbmbicmaaDoor
