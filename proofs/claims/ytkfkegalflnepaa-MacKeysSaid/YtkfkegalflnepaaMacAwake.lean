/- The examples of the chapter mac: awake returns true. -/
import Derived.Test.YtkfkegalflnepaaMacWalk
namespace Go.Proofs.Ytkfkegalflnepaa
open Go.RowKit
set_option linter.unusedVariables false
set_option linter.unusedSimpArgs false

def ones : List Int := [1, 2, 3, 4, 5, 6, 7, 8, 9]
theorem ones_bytes : Bytes ones := by unfold Bytes ones; decide
theorem ones_words : wordsOf ones = [578437695752307201, 9] := by
  rw [wordsOf_cons (by decide), wordsOf_cons (by decide), show (ones.drop 8).drop 8 = [] from rfl, wordsOf_nil]; decide +kernel
theorem ones_tag : tagI 3 4 ones = mxi (mxi (mxi (mxi 3 4) 578437695752307201) 9) 9 := by unfold tagI; rw [ones_words]; rfl

theorem nil_tag : tagI 3 4 [] = mxi (mxi 3 4) 0 := by unfold tagI; rw [wordsOf_nil]; rfl
theorem fold_nil : foldI [] = 0 := rfl
theorem fold_five : foldI [5] = mxi 0 5 := rfl

/-- what is kept from call to call: the key and the nine bytes -/
def AwSt (w wr : World) : Prop :=
  Below w.heap.size w wr ∧ w.heap.size + 2 ≤ wr.heap.size ∧ wr.cell? ⟨w.heap.size, 0, none⟩ = some (.int .u64 3) ∧ wr.cell? ⟨w.heap.size, 1, none⟩ = some (.int .u64 4) ∧
    Ints .u8 wr (w.heap.size + 2) (some ⟨w.heap.size + 1, 0, none⟩) ones

theorem AwSt.step {w wr wr' : World} (h : AwSt w wr) (hb : Below wr.heap.size wr wr') : AwSt w wr' := by
  obtain ⟨h1, h2, h3, h4, h5⟩ := h
  exact ⟨h1.trans (hb.mono h1.size), Nat.le_trans h2 hb.size, by rw [hb.cell (by show w.heap.size < _; omega)]; exact h3, by rw [hb.cell (by show w.heap.size < _; omega)]; exact h4, h5.below h2 hb⟩

theorem AwSt.start (w : World) : AwSt w ((w.alloc (Obj.cells #[.int .u64 3, .int .u64 4] 24)).alloc (Obj.cells #[.int .u8 1, .int .u8 2, .int .u8 3, .int .u8 4, .int .u8 5, .int .u8 6, .int .u8 7, .int .u8 8, .int .u8 9] 5)) := by
  refine ⟨((Below.refl _ _).alloc (Nat.le_refl _) _).alloc (by simp) _, by simp, by simp, by simp, ?_⟩
  intro i hi
  refine ⟨_, rfl, by simp, ?_⟩
  have hi' : i < 9 := hi
  rcases (show i = 0 ∨ i = 1 ∨ i = 2 ∨ i = 3 ∨ i = 4 ∨ i = 5 ∨ i = 6 ∨ i = 7 ∨ i = 8 by omega) with rfl | rfl | rfl | rfl | rfl | rfl | rfl | rfl | rfl <;> simp [Addr.add, ones]

set_option maxHeartbeats 1000000 in
theorem awake_any (w : World) :
    Calls Try.prog 9 #[] w fun e w' => e = .returned (.bool true) ∧ Below w.heap.size w w' := by
  have hs := AwSt.start w
  go_enter Try.func9, Try.ntmps9
  go_wp2_with (fail)
  refine (rmix_any _ _ _).mono ?_
  rintro e w2 ⟨rfl, rfl⟩
  go_wp2_with (fail)
  refine (rmix_any _ _ _).mono ?_
  rintro e w2 ⟨rfl, rfl⟩
  go_wp2_with (fail)
  refine (rmix_any _ _ _).mono ?_
  rintro e w2 ⟨rfl, rfl⟩
  go_wp2_with (fail)
  refine (rmix_any _ _ _).mono ?_
  rintro e w2 ⟨rfl, rfl⟩
  go_wp2_with (fail)
  have C1 := ptag_any 3 4 none 0 0 [] ((w.alloc (Obj.cells #[.int .u64 3, .int .u64 4] 24)).alloc (Obj.cells #[.int .u8 1, .int .u8 2, .int .u8 3, .int .u8 4, .int .u8 5, .int .u8 6, .int .u8 7, .int .u8 8, .int .u8 9] 5)) (Ints.nil _ _ _ _) (fun _ h => by cases h) rfl (Nat.le_refl _) (by omega)
  rw [nil_tag] at C1
  refine C1.mono ?_
  rintro e w3 ⟨rfl, hb⟩
  have hs := hs.step hb
  clear hb C1
  have ht : ∃ t, mxi (mxi (mxi (mxi 3 4) 578437695752307201) 9) 9 = t ∧ U64 t ∧ tagI 3 4 ones = t := ⟨_, rfl, mxi_u64 _ _, ones_tag⟩
  obtain ⟨t, ht1, ht2, ht3⟩ := ht
  rw [ht1]
  have HT := Lib.hid ht3
  clear ht1 ht3
  obtain ⟨h1, h2, hk0, hk1, h5⟩ := id hs
  go_wp2_with (fail)
  refine (rmix_any _ _ _).mono ?_
  rintro e w2 ⟨rfl, rfl⟩
  go_wp2_with (fail)
  have C2 := ptag_any 3 4 _ 9 9 ones w3 (h5.mono h2) ones_bytes rfl (Nat.le_refl _) (by omega)
  rw [HT.out] at C2
  refine C2.mono ?_
  rintro e w4 ⟨rfl, hb⟩
  have hs := hs.step hb
  clear hb C2 h1 h2 hk0 hk1 h5
  obtain ⟨h1, h2, hk0, hk1, h5⟩ := id hs
  go_wp2_with (fail)
  have C3 := check_any 3 4 t _ 9 9 ones w4 (h5.mono h2) ones_bytes rfl (Nat.le_refl _) (by omega)
  rw [HT.out, beq_self_eq_true] at C3
  refine C3.mono ?_
  rintro e w5 ⟨rfl, hb⟩
  clear C3
  have hs := hs.step hb
  clear hb h1 h2 hk0 hk1 h5
  obtain ⟨h1, h2, hk0, hk1, h5⟩ := id hs
  have hne : (t == IntKind.u64.wrap (t + 1)) = false := by
    rw [IntKind.wrap_u64, beq_eq_false_iff_ne]; unfold U64 at ht2; omega
  go_wp2_with (fail)
  have C4 := check_any 3 4 (IntKind.u64.wrap (t + 1)) _ 9 9 ones w5 (h5.mono h2) ones_bytes rfl (Nat.le_refl _) (by omega)
  rw [HT.out, hne] at C4
  refine C4.mono ?_
  rintro e w6 ⟨rfl, hb⟩
  clear C4
  have hs := hs.step hb
  clear hb h1 h2 hk0 hk1 h5
  obtain ⟨h1, h2, hk0, hk1, h5⟩ := id hs
  go_wp2_with (fail)
  have C5 := pderive_any 3 4 _ 9 9 ones w6 (h5.mono h2) ones_bytes rfl (Nat.le_refl _) (by omega)
  rw [show der0 3 4 ones = mxi t 1 from by unfold der0; rw [HT.out], show der1 3 4 ones = mxi t 2 from by unfold der1; rw [HT.out]] at C5
  refine C5.mono ?_
  rintro e w7 ⟨rfl, hb⟩
  clear C5
  have hs := hs.step hb
  clear hb h1 h2 hk0 hk1 h5
  obtain ⟨h1, h2, hk0, hk1, h5⟩ := id hs
  go_wp2_with (fail)
  refine (rmix_any _ _ _).mono ?_
  rintro e w' ⟨rfl, rfl⟩
  go_wp2_with (fail)
  refine (rmix_any _ _ _).mono ?_
  rintro e w' ⟨rfl, rfl⟩
  go_wp2_with (fail)
  have C6 := pfold_any none 0 0 [] w7 (Ints.nil _ _ _ _) rfl (Nat.le_refl _) (by omega)
  rw [fold_nil] at C6
  refine C6.mono ?_
  rintro e w8 ⟨rfl, hb⟩
  clear C6
  have hs := hs.step hb
  clear hb h1 h2 hk0 hk1 h5
  obtain ⟨h1, h2, hk0, hk1, h5⟩ := id hs
  go_wp2_with (fail)
  have hf5 : Ints .u64 (w8.alloc (Obj.cells #[.int .u64 5] 22)) (w8.alloc (Obj.cells #[.int .u64 5] 22)).heap.size (some ⟨w8.heap.size, 0, none⟩) [5] := by
    intro i hi
    obtain rfl : i = 0 := by simpa using hi
    exact ⟨_, rfl, by simp, by simp [Addr.add]⟩
  have C7 := pfold_any (some ⟨w8.heap.size, 0, none⟩) 1 1 [5] _ hf5 rfl (Nat.le_refl _) (by omega)
  rw [fold_five] at C7
  refine C7.mono ?_
  rintro e w9 ⟨rfl, hb⟩
  clear C7
  have h1 := (h1.alloc h1.size _).trans (hb.mono (by simp; have := h1.size; omega))
  clear hb hf5
  go_wp2_with (fail)
  refine (rmix_any _ _ _).mono ?_
  rintro e w' ⟨rfl, rfl⟩
  go_wp2_with (fail)
  go_ret
  exact ⟨rfl, h1⟩
end Go.Proofs.Ytkfkegalflnepaa
