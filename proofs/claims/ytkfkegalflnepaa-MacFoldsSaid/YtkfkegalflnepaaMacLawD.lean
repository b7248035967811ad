/- The walk of the statement MacFolds. -/
import Derived.Test.YtkfkegalflnepaaMacLawA
import Derived.Test.YtkfkegalflnepaaMacOwn
namespace Go.Proofs.Ytkfkegalflnepaa
open Go.RowKit
set_option linter.unusedVariables false
set_option linter.unusedSimpArgs false

theorem infoU64s : (Try.prog.info? 22).map (fun i => (i.zero, i.size, i.bytes)) = some (some (.int .u64 0), 1, 8) := by kernel_rfl

set_option maxHeartbeats 1000000 in
theorem MacFolds_walk (v0 v1 : Value) (w : World) (h0 : IsInts .u64 w v0) (h1 : IsInt .u64 w v1) :
    Calls Try.prog 5 #[v0, v1] w fun e w' => e = .returned (.bool true) ∧ Below w.heap.size w w' := by
  obtain ⟨x, n, c, ys, rfl, hy, hwy, hl, hnc, hcl, hnl⟩ := h0
  obtain ⟨t, rfl, ht⟩ := h1
  have HL := Lib.hid hl
  clear hl
  by_cases hn : 500 < n
  · go_enter Try.func5, Try.ntmps5
    go_wp2_with (fail)
    refine (awake_any _).mono ?_
    rintro e w1 ⟨rfl, hb⟩
    go_wp2_with (fail)
    go_ret
    exact ⟨rfl, hb⟩
  · obtain ⟨f, hf⟩ : ∃ f, foldI ys = f := ⟨_, rfl⟩
    have HF := Lib.hid hf
    clear hf
    go_enter Try.func5, Try.ntmps5
    go_wp2_with (fail)
    refine (pfold_any x n c ys w hy HL.out hnc (by omega)).mono ?_
    rintro e w1 ⟨rfl, hb1⟩
    rw [HF.out]
    obtain ⟨i0, hi, hz0, hz1, hz2⟩ := info_parts infoU64s
    have hB : w.heap.size ≤ w1.heap.size := hb1.size
    have hy1 := hy.below (Nat.le_refl _) hb1
    go_wp2_with (first
      | (at_builtin; refine wpList_append_ints rfl (.tmp 13) (.tmp 14) 31 rfl w.heap.size 22 i0 (.int .u64 0) 8 Try.underlying31 hi hz0 hz1 hz2 rfl (.slice (some ⟨w1.heap.size, 0, none⟩) 0 0) 0 [] rfl (World.ownsRow_made w1 #[] 0 hB (by unfold maxLen; omega) rfl) .u64 w.heap.size x n c ys rfl hnl (hy1.below (Nat.le_refl _) ((Below.refl _ _).alloc hB _)) HL.out (by omega) (by omega) (by simp; omega) ?_; intro v' w2 hown hgrow; have hzz := hgrow.size; simp at hzz hown; have hlt := hown.lt; have hbb := (hb1.alloc hB _).grown hgrow (by simp; omega) (fun k hk => by cases hk; exact hB); clear hgrow)
      | (at_builtin; refine wpList_append_ints rfl (.tmp 15) (.tmp 17) 31 rfl w.heap.size 22 i0 (.int .u64 0) 8 Try.underlying31 hi hz0 hz1 hz2 rfl _ n (ys.map (Value.int .u64)) rfl (World.ownsRow.alloc (by assumption) _) .u64 _ _ 1 1 [t] rfl (fun h => by cases h) (Ints.one .u64 _ t _) rfl (by omega) (by omega) (by simp; omega) ?_; intro v'' w3 hown3 hgrow3))
    change (w2.alloc _).grownBy w3 v'.ownBlock at hgrow3
    have hz3 := hgrow3.size
    simp at hz3
    have hb3 : Below w.heap.size w w3 := (hbb.alloc (by omega) _).grown hgrow3 (by simp; omega) (fun k hk => (hlt k hk).1)
    clear hgrow3 hlt
    obtain ⟨x3, c3, rfl, hy3, hl3, hnc3, hcl3, _, _⟩ := owns_ints (k := .u64) (ys := ys ++ [t]) (by simpa using hown3)
    have HL3 := Lib.hid hl3
    clear hl3 hown hown3
    have C1 := rfold_any x n c ys w3 ((hy.below (Nat.le_refl _) hb3).mono (by omega)) HL.out hnc (by omega)
    rw [HF.out] at C1
    refine C1.mono ?_
    rintro e w4 ⟨rfl, rfl⟩
    clear C1
    go_wp2_with (fail)
    have C2 := pfold_any x3 (n + 1) c3 (ys ++ [t]) w3 hy3 HL3.out hnc3 (by omega)
    rw [foldI_snoc, HF.out] at C2
    refine C2.mono ?_
    rintro e w4 ⟨rfl, hb4⟩
    clear C2
    have hb4' := hb3.trans (hb4.mono (by omega))
    go_wp2_with (fail)
    refine (rmix_any _ _ _).mono ?_
    rintro e w5 ⟨rfl, rfl⟩
    go_wp2_with (fail)
    refine (awake_any _).mono ?_
    rintro e w5 ⟨rfl, hb⟩
    go_wp2_with (fail)
    go_ret
    exact ⟨rfl, hb4'.trans (hb.mono hb4'.size)⟩
end Go.Proofs.Ytkfkegalflnepaa
