/- What Disclose does. -/
import Derived.Test.YtmhgoknbmbicmaaDoorChainI
namespace Go.Proofs.YtmhgoknbmbicmaaDoor
open Go.RowKit
set_option linter.unusedVariables false
set_option linter.unusedSimpArgs false

set_option maxHeartbeats 4000000 in
theorem disc_range (R : Nat) (own : Nat → Prop) (s : RS) (i a b : Int) (w : World) (h : Recv w own R s) (hi0 : i < 1 ∨ s.co < i) :
    Calls Tryd.prog 24 #[.pointer (some ⟨R, 0, none⟩), .int .i64 i, .agg #[.int .u64 a, .int .u64 b]] w fun e w' => e = .returned (.tuple #[.slice none 0 0, .int .i64 3]) ∧ Below w.heap.size w w' := by
  have hRw := h.low R h.ownR
  obtain ⟨st, sp, de, co, kn, K, hv, l⟩ := s
  obtain ⟨-, -, -, c0, c1, c2, c3, c4, c5, -, -, -, -, -, -, -, -⟩ := id h
  simp only at c0 c1 c2 c3 c4 c5 hi0
  clear h
  have hb0 : Below w.heap.size w (w.alloc (.cells #[.int .u64 a, .int .u64 b] 34)) := (Below.refl _ _).alloc (Nat.le_refl _) _
  have hne : R ≠ w.heap.size := by omega
  by_cases q : i < 1
  · go_enter Tryd.func24, Tryd.ntmps24
    go_wp2_with (fail)
    go_ret2
    exact ⟨rfl, hb0⟩
  · have q2 : co < i := by omega
    go_enter Tryd.func24, Tryd.ntmps24
    go_wp2_with (fail)
    go_ret2
    exact ⟨rfl, hb0⟩

set_option maxHeartbeats 4000000 in
theorem disc_twice (R : Nat) (own : Nat → Prop) (s : RS) (i a b : Int) (w : World) (h : Recv w own R s) (hi0 : 1 ≤ i) (hi1 : i ≤ s.co) (hk : i ≤ s.kn) :
    Calls Tryd.prog 24 #[.pointer (some ⟨R, 0, none⟩), .int .i64 i, .agg #[.int .u64 a, .int .u64 b]] w fun e w' => e = .returned (.tuple #[.slice none 0 0, .int .i64 10]) ∧ Below w.heap.size w w' := by
  have hRw := h.low R h.ownR
  obtain ⟨st, sp, de, co, kn, K, hv, l⟩ := s
  obtain ⟨-, -, -, c0, c1, c2, c3, c4, c5, -, -, -, -, -, -, -, -⟩ := id h
  simp only at c0 c1 c2 c3 c4 c5 hi1 hk
  clear h
  have hb0 : Below w.heap.size w (w.alloc (.cells #[.int .u64 a, .int .u64 b] 34)) := (Below.refl _ _).alloc (Nat.le_refl _) _
  have hne : R ≠ w.heap.size := by omega
  go_enter Tryd.func24, Tryd.ntmps24
  go_wp2_with (fail)
  go_ret2
  exact ⟨rfl, hb0⟩

set_option maxHeartbeats 4000000 in
theorem disc_tag (R : Nat) (own : Nat → Prop) (s : RS) (i : Nat) (a b : Int) (w : World) (h : Recv w own R s) (hi0 : s.kn < i) (hi1 : (i : Int) ≤ s.co) (hk : downN (i - s.kn) (a, b) ≠ s.K s.kn) :
    Calls Tryd.prog 24 #[.pointer (some ⟨R, 0, none⟩), .int .i64 (i : Int), .agg #[.int .u64 a, .int .u64 b]] w fun e w' => e = .returned (.tuple #[.slice none 0 0, .int .i64 16]) ∧ Below w.heap.size w w' := by
  have hRw := h.low R h.ownR
  have hb0 : Below w.heap.size w (w.alloc (.cells #[.int .u64 a, .int .u64 b] 34)) := (Below.refl _ _).alloc (Nat.le_refl _) _
  have C := prove_any R own s i a b _ (h.below hb0 (Nat.le_refl _)) hi0 hi1
  have HC := Lib.hid (C.mono fun e w' q => q.2 hk)
  obtain ⟨st, sp, de, co, kn, K, hv, l⟩ := s
  obtain ⟨-, -, -, c0, c1, c2, c3, c4, c5, -, -, -, -, -, -, -, -⟩ := id h
  simp only at c0 c1 c2 c3 c4 c5 hi1 hi0
  clear h C hk
  have hne : R ≠ w.heap.size := by omega
  have hi2 : (1 : Int) ≤ i := by omega
  go_enter Tryd.func24, Tryd.ntmps24
  go_wp2_with (fail)
  refine HC.out.mono ?_
  rintro e w1 ⟨rfl, hb1⟩
  go_wp2_with (fail)
  go_ret2
  exact ⟨rfl, hb0.trans (hb1.mono (by simp))⟩
end Go.Proofs.YtmhgoknbmbicmaaDoor
