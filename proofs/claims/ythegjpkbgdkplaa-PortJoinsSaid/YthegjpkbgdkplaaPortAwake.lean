/- The examples of the chapter port: awake returns true. -/
import Derived.Test.YthegjpkbgdkplaaPortRun
namespace Go.Proofs.Ythegjpkbgdkplaa
open Go.RowKit
set_option linter.unusedVariables false
set_option linter.unusedSimpArgs false

def evs3 : List (Int × Bool) := [(2, false), (26, false), (9, false)]

set_option maxHeartbeats 1000000 in
theorem awake_any (w : World) :
    Calls Try.prog 18 #[] w fun e w' => e = .returned (.bool true) ∧ Below w.heap.size w w' := by
  go_enter Try.func18, Try.ntmps18
  go_wp2_with (fail)
  have hz : Evs (w.alloc (.cells #[.int .i64 2, .bool false, .int .i64 26, .bool false, .int .i64 9, .bool false] 32)) (w.alloc (.cells #[.int .i64 2, .bool false, .int .i64 26, .bool false, .int .i64 9, .bool false] 32)).heap.size (some ⟨w.heap.size, 0, none⟩) evs3 := by
    intro i hi
    refine ⟨_, rfl, by simp, ?_⟩
    have hi' : i < 3 := hi
    rcases (show i = 0 ∨ i = 1 ∨ i = 2 by omega) with rfl | rfl | rfl <;> simp [Addr.add, evs3]
  have C1 := prun_any 1 (some ⟨w.heap.size, 0, none⟩) 3 3 evs3 _ hz rfl (Nat.le_refl _) (by omega)
  rw [show runAll 1 evs3 = 9 from by decide +kernel] at C1
  refine C1.mono ?_
  rintro e w1 ⟨rfl, hb1⟩
  have hb := ((Below.refl w.heap.size w).alloc (Nat.le_refl _) _).trans (hb1.mono (by simp))
  clear C1 hb1 hz
  go_wp2_with (fail)
  have C2 := pnext_any 9 26 false w1
  rw [show nextI 9 26 false = 8 from by decide +kernel] at C2
  refine C2.mono ?_
  rintro e w2 ⟨rfl, hb2⟩
  have hb := hb.trans (hb2.mono hb.size)
  clear C2 hb2
  go_wp2_with (fail)
  have C3 := pnext_any 9 26 true w2
  rw [show nextI 9 26 true = 9 from by decide +kernel] at C3
  refine C3.mono ?_
  rintro e w3 ⟨rfl, hb2⟩
  have hb := hb.trans (hb2.mono hb.size)
  clear C3 hb2
  go_wp2_with (fail)
  have C4 := pnext_any 0 1 false w3
  rw [show nextI 0 1 false = 0 from by decide +kernel] at C4
  refine C4.mono ?_
  rintro e w4 ⟨rfl, hb2⟩
  have hb := hb.trans (hb2.mono hb.size)
  clear C4 hb2
  go_wp2_with (fail)
  have C5 := pnext_any 6 11 false w4
  rw [show nextI 6 11 false = 0 from by decide +kernel] at C5
  refine C5.mono ?_
  rintro e w5 ⟨rfl, hb2⟩
  have hb := hb.trans (hb2.mono hb.size)
  clear C5 hb2
  go_wp2_with (fail)
  have C6 := pname_any 9 w5
  rw [show nameI 9 = ⟨#[115, 108, 97, 118, 101]⟩ from rfl] at C6
  refine C6.mono ?_
  rintro e w6 ⟨rfl, hb2⟩
  have hb := hb.trans (hb2.mono hb.size)
  clear C6 hb2
  go_wp2_with (fail)
  refine (sends_any 6 w6).mono ?_
  rintro e w7 ⟨rfl, rfl⟩
  go_wp2_with (fail)
  have C8 := uses_any 8 w6
  rw [show usesI 8 = true from rfl] at C8
  refine C8.mono ?_
  rintro e w8 ⟨rfl, rfl⟩
  go_wp2_with (fail)
  go_ret
  exact ⟨rfl, hb⟩
end Go.Proofs.Ythegjpkbgdkplaa
