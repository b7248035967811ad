/- The example of TopDeliveries: awake08 returns true. -/
import Derived.Test.YtknoigleejbjdaaLnF
namespace Go.Proofs.Ytknoigleejbjdaa
open Go.RowKit
set_option linter.unusedVariables false
set_option linter.unusedSimpArgs false

def lnk8 : Lnk := ⟨5, 7, 0, 0, 0, 0, []⟩
theorem good8 : Good lnk8 := ⟨⟨by decide, by decide⟩, ⟨by decide, by decide⟩, by decide, fun q hq => absurd hq (by simp [lnk8]), by decide, fun i a b h => by simp [lnk8] at h⟩
set_option maxHeartbeats 4000000 in
set_option maxRecDepth 100000 in
theorem awake08_true (w : World) : Calls Try.prog 29 #[] w fun r w' => r = .returned (.bool true) ∧ Below w.heap.size w w' := by
  have HNEW := Lib.hid (new_QO w.heap.size (fun _ => False) 2 w (by omega) (by omega) (Nat.le_refl _) (fun _ h => h.elim))
  have HAR := Lib.hid (show ∀ W : World, Calls Try.prog 28 #[.agg #[.int .i64 5, .int .i64 7, .int .i64 0, .int .i64 0, .int .i64 0, .int .u64 0, .slice none 0 0], .int .i64 0, .int .i64 10, .int .i64 0] W fun e w' => e = .returned (.tuple #[.int .i64 15, .bool true]) ∧ Below W.heap.size W w' from fun W => by
    refine (arrive_any lnk8 none 0 0 0 10 0 W (fun i q h => by simp [lnk8] at h) rfl (Nat.le_refl _) (by omega) good8 (by decide) (by decide) (by decide)).mono ?_
    rintro e w' ⟨h, hb⟩
    refine ⟨?_, hb⟩
    rcases h with ⟨_, h⟩ | ⟨V, rfl, hV⟩
    · exact absurd h (by decide)
    · have h1 : varF lnk8 0 = 0 := rfl
      have h2 : delF lnk8 0 10 = 5 := rfl
      rw [h1] at hV
      obtain rfl : V = 0 := by have := hV.1; have := hV.2; omega
      rw [h2]
      rfl)
  go_enter Try.func29, Try.ntmps29
  go_wp2_with (fail)
  refine HNEW.out.mono ?_
  rintro e w1 ⟨rfl, hb1, hq1⟩
  have hs1 := hb1.size
  have HB1 := Lib.hid hb1
  have HQ1 := Lib.hid hq1
  clear hb1 hq1
  go_wp2_with (fail)
  refine (HAR.out _).mono ?_
  rintro e w2 ⟨rfl, hb2⟩
  have hs2 := hb2.size
  have HB2 := Lib.hid (HB1.out.trans (hb2.mono (by omega)))
  have HP2 := Lib.hid ((HQ1.out.below hb2).push' (fun _ h => h.elim) (by omega) (by omega) 15 3 1 0 1 [⟨15, 1, 3⟩] (by decide) (by decide) (by decide) (by decide))
  clear hb2
  go_wp2_with (fail)
  refine HP2.out.mono ?_
  rintro e w3 ⟨rfl, hq3, hk3⟩
  have hs3 := hk3.size
  have HB3 := Lib.hid (HB2.out.trans (hk3.low (by omega)))
  have HP3 := Lib.hid (hq3.pop' (by omega) 15 1 3 15 true [] (by decide) (by decide) (by decide) (by decide) (by decide) (by decide))
  clear hq3 hk3
  go_wp2_with (fail)
  refine HP3.out.mono ?_
  rintro e w4 ⟨rfl, hq4, hk4⟩
  have hs4 := hk4.size
  have HB4 := Lib.hid (HB3.out.trans (hk4.low (by omega)))
  have HB5 := Lib.hid (show Below w.heap.size w (w4.alloc (.cells #[.int .i64 15, .int .i64 1, .int .i64 3] 30)) from HB4.out.alloc (by omega) _)
  clear hq4 hk4
  go_wp2_with (fail)
  go_ret
  exact ⟨rfl, HB5.out⟩
end Go.Proofs.Ytknoigleejbjdaa
