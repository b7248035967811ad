/- Push. -/
import Derived.Test.YtknoigleejbjdaaAgM
namespace Go.Proofs.Ytknoigleejbjdaa
open Go.RowKit
set_option linter.unusedVariables false
set_option linter.unusedSimpArgs false

/-- why a push is refused, or 0 -/
def pushErr (lim now len at' : Int) : Int := if at' < 0 then 3 else if at' < now then 12 else if lim ≤ len then 13 else 0
set_option maxHeartbeats 2000000 in
theorem push_no {w : World} {Q : Nat} {lim now : Int} {p N : Nat} {l : List Ev} {own : Nat → Prop} (h : QS w Q lim now p N l own) (at' item : Int) (he : pushErr lim now l.length at' ≠ 0) : Calls Try.prog 13 #[.pointer (some ⟨Q, 0, none⟩), .int .i64 at', .int .i64 item] w fun r w' => r = .returned (.tuple #[.int .i64 0, .int .i64 (pushErr lim now l.length at')]) ∧ Below w.heap.size w w' := by
  have c0 := h.c0
  have c1 := h.c1
  obtain ⟨ps, c, q3⟩ := h.q3
  obtain ⟨E, hE⟩ : ∃ E, pushErr lim now l.length at' = E := ⟨_, rfl⟩
  rw [hE] at he ⊢
  obtain ⟨L, hL⟩ : ∃ L, l.length = L := ⟨_, rfl⟩
  rw [hL] at q3 hE
  unfold pushErr at hE
  have HH := Lib.hid h
  clear h hL
  by_cases h1 : at' < 0
  · rw [if_pos h1] at hE
    subst hE
    go_enter Try.func13, Try.ntmps13
    go_wp2_with (fail)
    go_ret2
    exact ⟨rfl, Below.refl _ _⟩
  · rw [if_neg h1] at hE
    by_cases h2 : at' < now
    · rw [if_pos h2] at hE
      subst hE
      go_enter Try.func13, Try.ntmps13
      go_wp2_with (fail)
      go_ret2
      exact ⟨rfl, Below.refl _ _⟩
    · rw [if_neg h2] at hE
      by_cases h3 : lim ≤ (L : Int)
      · rw [if_pos h3] at hE
        subst hE
        have d3 : World.cell? w.drew ⟨Q, 3, none⟩ = some (.slice ps L c) := q3
        have d0 : World.cell? w.drew ⟨Q, 0, none⟩ = some (.int .i64 lim) := c0
        go_enter Try.func13, Try.ntmps13
        go_wp2_with (fail)
        go_region
        all_goals
          go_wp2_with (fail)
          go_ret2
          exact ⟨rfl, (Below.refl _ _).drew⟩
      · rw [if_neg h3] at hE
        exact absurd hE.symm he
end Go.Proofs.Ytknoigleejbjdaa
