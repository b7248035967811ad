/- The walk of the statement PortEnters. -/
import Derived.Test.YthegjpkbgdkplaaPortAwake
import Derived.Test.YthegjpkbgdkplaaPortOpen
namespace Go.Proofs.Ythegjpkbgdkplaa
open Go.RowKit
set_option linter.unusedVariables false
set_option linter.unusedSimpArgs false

theorem enters_fact (s e : Int) (b : Bool) (hs : knownI s = true) (he : happI e = true) :
    nextI s e b = s ∨ (nextI s e b = 9 ∧ e = 9 ∧ s = 8) ∨ (nextI s e b = 6 ∧ e = 7 ∧ s ≠ 5) ∨ (nextI s e b = 6 ∧ e = 8 ∧ s = 5) ∨ (nextI s e b = 8 ∧ e = 26) ∨ (nextI s e b = 8 ∧ e = 10 ∧ s = 9) ∨
      (nextI s e b = 7 ∧ e = 24) ∨ (nextI s e b = 7 ∧ e = 25) ∨ (nextI s e b = 5 ∧ 21 ≤ e ∧ e ≤ 23) ∨ (nextI s e b = 4 ∧ e = 2) ∨ nextI s e b = 1 ∨ nextI s e b = 2 ∨ nextI s e b = 3 :=
  by_table (fun s e b => nextI s e b = s ∨ (nextI s e b = 9 ∧ e = 9 ∧ s = 8) ∨ (nextI s e b = 6 ∧ e = 7 ∧ s ≠ 5) ∨ (nextI s e b = 6 ∧ e = 8 ∧ s = 5) ∨ (nextI s e b = 8 ∧ e = 26) ∨ (nextI s e b = 8 ∧ e = 10 ∧ s = 9) ∨
      (nextI s e b = 7 ∧ e = 24) ∨ (nextI s e b = 7 ∧ e = 25) ∨ (nextI s e b = 5 ∧ 21 ≤ e ∧ e ≤ 23) ∨ (nextI s e b = 4 ∧ e = 2) ∨ nextI s e b = 1 ∨ nextI s e b = 2 ∨ nextI s e b = 3) (by decide +kernel) s e b hs he

theorem next_zero (s e : Int) (b : Bool) (h : nextI s e b ≠ 0) : knownI s = true ∧ happI e = true := by
  by_cases h1 : knownI s = true ∧ happI e = true
  · exact h1
  · exfalso; apply h; unfold nextI; rw [if_neg h1]

set_option maxHeartbeats 4000000 in
set_option maxRecDepth 100000 in
theorem PortEnters_walk (v0 v1 : Value) (w : World) (h0 : IsInt .i64 w v0) (h1 : IsEvs w v1) :
    Calls Try.prog 5 #[v0, v1] w fun e w' => e = .returned (.bool true) ∧ Below w.heap.size w w' := by
  obtain ⟨s, rfl, _⟩ := h0
  obtain ⟨x, n, c, zs, rfl, hz, _, hl, hnc, hcl, _⟩ := h1
  have hl2 : (zs.take 300).length = min n 300 := by rw [List.length_take, hl]; omega
  have HL2 := Lib.hid hl2
  clear hl hl2
  go_enter Try.func5, Try.ntmps5
  go_wp2_with (fail)
  refine (first_any x n c w hnc hcl).mono ?_
  rintro en w1 ⟨rfl, rfl⟩
  obtain ⟨m, hm⟩ : ∃ m, min n 300 = m := ⟨_, rfl⟩
  rw [hm] at HL2 ⊢
  have hmc : m ≤ c := by omega
  have hm3 : m ≤ 300 := by omega
  clear hm
  go_wp2_with (fail)
  go_loopw [0, 6, 7, 8, 12] (fun st p nx ok i wr => ∃ (k : Nat) (q : Int), k ≤ m ∧ i = .int .i64 k ∧ st = .int .i64 q ∧ Below w.heap.size w wr) (fun _ _ _ _ i _ => m - (intOf i).toNat)
  case atStart => exact ⟨0, s, by omega, rfl, rfl, Below.refl _ _⟩
  case round =>
    obtain ⟨k, q, hk, rfl, rfl, hb⟩ := hrel
    have hsz := hb.size
    by_cases hlt : k < m
    · obtain ⟨a, ha, hab, c0, c1⟩ := ((hz.take 300).below (Nat.le_refl _) hb) k (by rw [HL2.out]; omega)
      subst ha
      obtain ⟨e, b, heb⟩ : ∃ e b, (zs.take 300).getD k (0, false) = (e, b) := ⟨_, _, rfl⟩
      rw [heb] at c0 c1
      clear heb
      go_wp2_with (fail)
      refine (pnext_any q e b _).mono ?_
      rintro en w1 ⟨rfl, hb1⟩
      have hb1' := (hb.alloc hsz _).trans (hb1.mono (by simp; omega))
      have d0 : w1.cell? ⟨wr.heap.size, 0, none⟩ = some (.int .i64 e) := by rw [hb1.cell (by simp)]; simp
      clear hb1 c0 c1
      by_cases h0 : nextI q e b = 0
      · rw [h0]
        clear h0
        go_wp2_with (fail)
        refine (awake_any _).mono ?_
        rintro en w4 ⟨rfl, hb2⟩
        go_wp2_with (fail)
        go_ret
        exact ⟨rfl, hb1'.trans (hb2.mono hb1'.size)⟩
      · obtain ⟨hs, he⟩ := next_zero q e b h0
        have hf := enters_fact q e b hs he
        have hs9 : 1 ≤ q ∧ q ≤ 9 := by simpa [knownI] using hs
        obtain ⟨hs1, hs9⟩ := hs9
        clear hs he h0
        obtain ⟨t, ht⟩ : ∃ t, nextI q e b = t := ⟨_, rfl⟩
        rw [ht] at hf ⊢
        clear ht
        by_cases hts : t = q
        · subst hts
          have d1 : (t == 0) = false := by simp; omega
          clear hf
          go_wp2_with (fail)
          go_roundw
          case rel => exact ⟨k + 1, t, by omega, by go_num, rfl, hb1'⟩
          case measure => simp [intOf]; omega
        · have dn : (t != q) = true := by rw [bne_iff_ne]; exact hts
          have HTS := Lib.hid hts
          clear hts
          rcases hf with hf | ⟨rfl, rfl, rfl⟩ | ⟨rfl, rfl, hf⟩ | ⟨rfl, rfl, rfl⟩ | ⟨rfl, rfl⟩ | ⟨rfl, rfl, rfl⟩ | ⟨rfl, rfl⟩ | ⟨rfl, rfl⟩ | ⟨rfl, hf1, hf2⟩ | ⟨rfl, rfl⟩ | rfl | rfl | rfl
          · exact absurd hf HTS.out
          · clear dn
            go_wp2_with (fail)
            go_roundw
            case rel => exact ⟨k + 1, _, by omega, by go_num, rfl, hb1'⟩
            case measure => simp [intOf]; omega
          · have d5 : (q != 5) = true := by rw [bne_iff_ne]; exact hf
            clear hf
            go_wp2_with (fail)
            go_roundw
            case rel => exact ⟨k + 1, _, by omega, by go_num, rfl, hb1'⟩
            case measure => simp [intOf]; omega
          all_goals
            go_wp2_with (fail)
            go_roundw
            case rel => exact ⟨k + 1, _, by omega, by go_num, rfl, hb1'⟩
            case measure => simp [intOf]; omega
    · obtain rfl : k = m := by omega
      go_wp2_with (fail)
      refine (awake_any _).mono ?_
      rintro en w4 ⟨rfl, hb2⟩
      go_wp2_with (fail)
      go_ret
      exact ⟨rfl, hb.trans (hb2.mono hb.size)⟩
end Go.Proofs.Ythegjpkbgdkplaa
