/- What prng.Mix and link's in return. -/
import Derived.Test.YtknoigleejbjdaaAgSb
import Derived.Laws.Entries
import Derived.Laws.Bits64
import Derived.Laws.Bits64b
import Derived.Laws.BitsLemmas
namespace Go.Proofs.Ytknoigleejbjdaa
open Go.RowKit
set_option linter.unusedVariables false
set_option linter.unusedSimpArgs false

/-- one step: '(x ^ x>>s) * f', d being 2^s -/
def mstep (x : Int) (d f : Int) : Int := IntKind.u64.wrap (bits BinOp.xor IntKind.u64 x (x / d) * f)
def mx0 (a b : Int) : Int := IntKind.u64.wrap (a + IntKind.u64.wrap (11400714819323198485 * IntKind.u64.wrap (b + 1)))
def mxk (a b : Int) : Nat → Int
  | 0 => mx0 a b
  | 1 => mstep (mx0 a b) 1073741824 13787848793156543929
  | _ => mstep (mstep (mx0 a b) 1073741824 13787848793156543929) 134217728 10723151780598845931
/-- Mix, laid open -/
def mxd (a b : Int) : Int := bits BinOp.xor IntKind.u64 (mxk a b 2) (mxk a b 2 / 2147483648)
/-- a number of the kind u64 -/
def U64 (x : Int) : Prop := 0 ≤ x ∧ x < 18446744073709551616
theorem u64_nat {x : Int} (h : U64 x) : ∃ n : Nat, n < 18446744073709551616 ∧ x = n := ⟨x.toNat, by unfold U64 at h; omega, by unfold U64 at h; omega⟩
theorem u64_wrap (x : Int) : U64 (IntKind.u64.wrap x) := by rw [IntKind.wrap_u64]; unfold U64; omega
theorem u64_wrap_eq {x : Int} (h : U64 x) : IntKind.u64.wrap x = x := by rw [IntKind.wrap_u64]; unfold U64 at h; omega
theorem mstep_u64 (x d f : Int) : U64 (mstep x d f) := u64_wrap _
theorem xs_u64 {x : Int} (h : U64 x) (s : Nat) : U64 (bits BinOp.xor IntKind.u64 x (x / (s : Int))) := by
  obtain ⟨n, hn, rfl⟩ := u64_nat h
  rw [xorShift_u64 n s hn]
  have := Nat.xor_lt_two_pow (n := 64) (x := n) (y := n / s) (by omega) (Nat.lt_of_le_of_lt (Nat.div_le_self _ _) (by omega))
  unfold U64; omega
theorem mxk_u64 (a b : Int) (k : Nat) : U64 (mxk a b k) := by
  unfold mxk
  split
  · exact u64_wrap _
  · exact u64_wrap _
  · exact u64_wrap _
theorem mxd_u64 (a b : Int) : U64 (mxd a b) := xs_u64 (mxk_u64 a b 2) 2147483648

set_option maxHeartbeats 2000000 in
theorem mix_some (a b : Int) (w : World) :
    Calls Try.prog 42 #[.int .u64 a, .int .u64 b] w fun e w' => (∃ M, e = .returned (.int .u64 M) ∧ U64 M) ∧ Below w.heap.size w w' := by
  have HU := Lib.hid (mxd_u64 a b)
  go_enter Try.func42, Try.ntmps42
  go_wp2
  go_loopw [6, 8, 18] (fun x p i wr => ∃ k : Nat, k ≤ 2 ∧ i = .int .i64 k ∧ x = .int .u64 (mxk a b k) ∧ Below w.heap.size w wr) (fun x p i wr => 2 - (intOf i).toNat)
  case atStart => exact ⟨0, by omega, rfl, rfl, (Below.refl _ _).alloc (Nat.le_refl _) _⟩
  case round =>
    obtain ⟨k, hk, rfl, rfl, hb⟩ := hrel
    have hz : w.heap.size ≤ wr.heap.size := hb.size
    have i0 : ∀ w, Sem.run Try.prog (Instr.index 86 (.agg #[.int .i64 30, .int .u64 13787848793156543929, .int .i64 27, .int .u64 10723151780598845931]) (.int .i64 0)) w = .ok (.agg #[.int .i64 30, .int .u64 13787848793156543929]) w := fun _ => by kernel_rfl
    have i1 : ∀ w, Sem.run Try.prog (Instr.index 86 (.agg #[.int .i64 30, .int .u64 13787848793156543929, .int .i64 27, .int .u64 10723151780598845931]) (.int .i64 1)) w = .ok (.agg #[.int .i64 27, .int .u64 10723151780598845931]) w := fun _ => by kernel_rfl
    rcases (show k = 0 ∨ k = 1 ∨ k = 2 by omega) with rfl | rfl | rfl
    · go_wp2
      go_quiet (fail)
      go_wp2
      go_roundw
      case rel => exact ⟨1, by omega, rfl, rfl, below_drewN (hb.alloc hz _) _⟩
      case measure => simp [intOf]
    · go_wp2
      go_quiet (fail)
      go_wp2
      go_roundw
      case rel => exact ⟨2, by omega, rfl, rfl, below_drewN (hb.alloc hz _) _⟩
      case measure => simp [intOf]
    · go_wp2
      go_ret
      exact ⟨⟨mxd a b, rfl, HU.out⟩, hb⟩

/-- both numbers are from 0 to hi -/
def InR (hi a : Int) : Prop := 0 ≤ a ∧ a ≤ hi
instance (hi a : Int) : Decidable (InR hi a) := inferInstanceAs (Decidable (_ ∧ _))
theorem idx2_0 (a b : Int) (w : World) : Sem.run Try.prog (Instr.index 55 (.agg #[.int .i64 a, .int .i64 b]) (.int .i64 0)) w = .ok (.int .i64 a) w := by kernel_rfl
theorem idx2_1 (a b : Int) (w : World) : Sem.run Try.prog (Instr.index 55 (.agg #[.int .i64 a, .int .i64 b]) (.int .i64 1)) w = .ok (.int .i64 b) w := by kernel_rfl
set_option maxHeartbeats 2000000 in
theorem in_any (hi a b : Int) (w : World) : Calls Try.prog 34 #[.int .i64 hi, .agg #[.int .i64 a, .int .i64 b]] w fun e w' => e = .returned (.bool (decide (InR hi a ∧ InR hi b))) ∧ Below w.heap.size w w' := by
  have i0 := idx2_0 a b
  have i1 := idx2_1 a b
  have hb1 : Below w.heap.size w (w.alloc (.cells #[.int .i64 a, .int .i64 b] 55)) := (Below.refl _ _).alloc (Nat.le_refl _) _
  have HB1 := Lib.hid hb1
  clear hb1
  go_enter Try.func34, Try.ntmps34
  go_wp2_with (fail)
  go_loopw [8] (fun ki wr => ∃ (k : Nat), k ≤ 2 ∧ ki = .int .i64 k ∧ Hid ((1 ≤ k → InR hi a) ∧ (2 ≤ k → InR hi b)) ∧ Hid (Below w.heap.size w wr)) (fun ki _ => 2 - (intOf ki).toNat)
  case atStart => exact ⟨0, by omega, rfl, Lib.hid ⟨fun h => by omega, fun h => by omega⟩, HB1⟩
  case round =>
    obtain ⟨k, hk, rfl, HF, HB⟩ := hrel
    rcases (show k = 0 ∨ k = 1 ∨ k = 2 by omega) with rfl | rfl | rfl
    · by_cases h1 : a < 0
      · have hn : decide (InR hi a ∧ InR hi b) = false := decide_eq_false (fun q => by have := q.1.1; omega)
        go_wp2_with (fail)
        go_ret
        exact ⟨by first | rfl | (rw [hn]; rfl), HB.out⟩
      · by_cases h2 : hi < a
        · have hn : decide (InR hi a ∧ InR hi b) = false := decide_eq_false (fun q => by have := q.1.2; omega)
          go_wp2_with (fail)
          go_ret
          exact ⟨by first | rfl | (rw [hn]; rfl), HB.out⟩
        · go_wp2_with (fail)
          go_roundw
          case rel => exact ⟨1, by omega, rfl, Lib.hid ⟨fun _ => ⟨by omega, by omega⟩, fun h => by omega⟩, HB⟩
          case measure => simp [intOf]
    · by_cases h1 : b < 0
      · have hn : decide (InR hi a ∧ InR hi b) = false := decide_eq_false (fun q => by have := q.2.1; omega)
        go_wp2_with (fail)
        go_ret
        exact ⟨by first | rfl | (rw [hn]; rfl), HB.out⟩
      · by_cases h2 : hi < b
        · have hn : decide (InR hi a ∧ InR hi b) = false := decide_eq_false (fun q => by have := q.2.2; omega)
          go_wp2_with (fail)
          go_ret
          exact ⟨by first | rfl | (rw [hn]; rfl), HB.out⟩
        · go_wp2_with (fail)
          go_roundw
          case rel => exact ⟨2, by omega, rfl, Lib.hid ⟨fun _ => HF.out.1 (by omega), fun _ => ⟨by omega, by omega⟩⟩, HB⟩
          case measure => simp [intOf]
    · have hn : decide (InR hi a ∧ InR hi b) = true := decide_eq_true ⟨HF.out.1 (by omega), HF.out.2 (by omega)⟩
      go_wp2_with (fail)
      go_ret
      exact ⟨by first | rfl | (rw [hn]; rfl), HB.out⟩
end Go.Proofs.Ytknoigleejbjdaa
