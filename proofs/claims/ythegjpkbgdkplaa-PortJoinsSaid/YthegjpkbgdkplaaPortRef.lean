/- What the functions of the reference of package port return: the same. -/
import Derived.Test.YthegjpkbgdkplaaPortWalk
namespace Go.Proofs.Ythegjpkbgdkplaa
open Go.RowKit
set_option linter.unusedVariables false
set_option linter.unusedSimpArgs false

theorem rknown_any (s : Int) (w : World) : Calls Try.prog 26 #[.int .i64 s] w fun e w' => e = .returned (.bool (knownI s)) ∧ w = w' := by
  by_cases h1 : 1 ≤ s
  all_goals
    go_enter Try.func26, Try.ntmps26
    go_wp2
    go_ret
    exact ⟨by simp [knownI, h1] <;> omega, rfl⟩
theorem ractive_any (s : Int) (w : World) (hs : s ≤ 9) : Calls Try.prog 28 #[.int .i64 s] w fun e w' => e = .returned (.bool (decide (4 ≤ s))) ∧ w = w' := by
  have hd : decide (s ≤ 9) = true := by simpa using hs
  by_cases h1 : 4 ≤ s
  all_goals
    go_enter Try.func28, Try.ntmps28
    go_wp2
    go_ret
    exact ⟨by simp [h1] <;> omega, rfl⟩
theorem risEvent_any (s : Int) (w : World) : Calls Try.prog 27 #[.int .i64 s] w fun e w' => e = .returned (.bool (happI s)) ∧ w = w' := by
  by_cases h1 : 1 ≤ s
  · by_cases h2 : s ≤ 10
    · have hd : decide (s ≤ 10) = true := by simpa using h2
      go_enter Try.func27, Try.ntmps27
      go_wp2
      go_ret
      exact ⟨by simp [happI, h1, h2] <;> omega, rfl⟩
    · have hd : decide (s ≤ 10) = false := by simpa using h2
      by_cases h3 : 20 ≤ s
      all_goals
        go_enter Try.func27, Try.ntmps27
        go_wp2
        go_ret
        exact ⟨by simp [happI, h1, h2, h3] <;> omega, rfl⟩
  · have h3 : ¬ 20 ≤ s := by omega
    go_enter Try.func27, Try.ntmps27
    go_wp2
    go_ret
    exact ⟨by simp [happI, h1, h3] <;> omega, rfl⟩
theorem ruses_any (s : Int) (w : World) : Calls Try.prog 15 #[.int .i64 s] w fun e w' => e = .returned (.bool (usesI s)) ∧ w = w' := by
  by_cases h1 : s = 8
  · subst h1
    go_enter Try.func15, Try.ntmps15
    go_wp2
    go_ret
    exact ⟨by simp [usesI], rfl⟩
  · have hd : (s == 8) = false := by simpa using h1
    go_enter Try.func15, Try.ntmps15
    go_wp2
    go_ret
    exact ⟨by simp [usesI, h1]; rfl, rfl⟩
theorem rsends_any (s : Int) (w : World) : Calls Try.prog 13 #[.int .i64 s] w fun e w' => e = .returned (.bool (decide (s = 6))) ∧ w = w' := by
  go_enter Try.func13, Try.ntmps13
  go_wp2
  go_ret
  exact ⟨rfl, rfl⟩

theorem decided_any (s c : Int) (b : Bool) (w : World) : Calls Try.prog 29 #[.int .i64 s, .int .i64 c, .bool b] w fun e w' => e = .returned (.int .i64 (decI s c b)) ∧ w = w' := by
  by_cases h1 : c = 1 ∨ c = 2 ∨ c = 3
  · by_cases h6 : s = 6
    · subst h6
      rcases h1 with rfl | rfl | rfl
      all_goals
        go_enter Try.func29, Try.ntmps29
        go_wp2
        go_ret
        exact ⟨rfl, rfl⟩
    · have hd : (s != 6) = true := by rw [bne_iff_ne]; exact h6
      have HR : ∀ c, (c = 1 ∨ c = 2 ∨ c = 3) → decI s c b = 5 := fun c h => by unfold decI; rw [if_pos h, if_neg h6]
      have HRR := Lib.hid HR
      clear HR h6
      rcases h1 with rfl | rfl | rfl
      all_goals
        go_enter Try.func29, Try.ntmps29
        go_wp2
        go_ret
        exact ⟨by rw [HRR.out _ (by omega)]; rfl, rfl⟩
  · have d1 : (c == 1) = false := by simp; omega
    have d2 : (c == 2) = false := by simp; omega
    have d3 : (c == 3) = false := by simp; omega
    by_cases h4 : c = 4 ∨ c = 5
    · rcases h4 with rfl | rfl
      all_goals
        go_enter Try.func29, Try.ntmps29
        go_wp2
        go_ret
        exact ⟨rfl, rfl⟩
    · have d4 : (c == 4) = false := by simp; omega
      have d5 : (c == 5) = false := by simp; omega
      by_cases h6 : c = 6
      · subst h6
        cases b with
        | false =>
          go_enter Try.func29, Try.ntmps29
          go_wp2
          go_ret
          exact ⟨rfl, rfl⟩
        | true =>
          have U := ruses_any s w
          have HR : Hid (decI s 6 true = if usesI s = true then s else 8) := by show _ = _; simp [decI]
          cases hu : usesI s with
          | false =>
            rw [hu] at U HR
            clear hu
            go_enter Try.func29, Try.ntmps29
            go_wp2_with (fail)
            refine U.mono ?_
            rintro en w2 ⟨rfl, rfl⟩
            go_wp2_with (fail)
            go_ret
            exact ⟨by rw [HR.out]; rfl, rfl⟩
          | true =>
            rw [hu] at U HR
            clear hu
            go_enter Try.func29, Try.ntmps29
            go_wp2_with (fail)
            refine U.mono ?_
            rintro en w2 ⟨rfl, rfl⟩
            go_wp2_with (fail)
            go_ret
            exact ⟨by rw [HR.out]; rfl, rfl⟩
      · have d6 : (c == 6) = false := by simp; omega
        have HR : Hid (decI s c b = s) := by show _ = _; unfold decI; rw [if_neg h1, if_neg h4, if_neg h6]
        clear h1 h4 h6
        go_enter Try.func29, Try.ntmps29
        go_wp2
        go_ret
        exact ⟨by rw [HR.out]; rfl, rfl⟩

set_option maxHeartbeats 2000000 in
theorem rnext_any (s e : Int) (b : Bool) (w : World) : Calls Try.prog 11 #[.int .i64 s, .int .i64 e, .bool b] w fun en w' => en = .returned (.int .i64 (rnextI s e b)) ∧ w = w' := by
  cases hk : knownI s with
  | false =>
    have HR : Hid (rnextI s e b = 0) := by show _ = _; simp [rnextI, hk]
    have C := rknown_any s w
    rw [hk] at C
    clear hk
    go_enter Try.func11, Try.ntmps11
    go_wp2_with (fail)
    refine C.mono ?_
    rintro en w1 ⟨rfl, rfl⟩
    go_wp2_with (fail)
    go_ret
    exact ⟨by rw [HR.out]; rfl, rfl⟩
  | true =>
    cases hh : happI e with
    | false =>
      have HR : Hid (rnextI s e b = 0) := by show _ = _; simp [rnextI, hh]
      have C := rknown_any s w
      rw [hk] at C
      have D := risEvent_any e w
      rw [hh] at D
      clear hk hh
      go_enter Try.func11, Try.ntmps11
      go_wp2_with (fail)
      refine C.mono ?_
      rintro en w1 ⟨rfl, rfl⟩
      go_wp2_with (fail)
      refine D.mono ?_
      rintro en w1 ⟨rfl, rfl⟩
      go_wp2_with (fail)
      go_ret
      exact ⟨by rw [HR.out]; rfl, rfl⟩
    | true =>
      have C := rknown_any s w
      rw [hk] at C
      have D := risEvent_any e w
      rw [hh] at D
      have h9 : s ≤ 9 := by simp [knownI] at hk; omega
      have HK := Lib.hid hk
      clear hk
      by_cases h20 : 20 ≤ e
      · have d1 : (e == 1) = false := by simp; omega
        have d2 : (e == 2) = false := by simp; omega
        have d3 : (e == 3) = false := by simp; omega
        have d4 : (e == 4) = false := by simp; omega
        have d5 : (e == 5) = false := by simp; omega
        have d6 : (e == 6) = false := by simp; omega
        have d7 : (e == 7) = false := by simp; omega
        have d8 : (e == 8) = false := by simp; omega
        have d9 : (e == 9) = false := by simp; omega
        have d10 : (e == 10) = false := by simp; omega
        have hle : e ≤ 26 := by simp [happI] at hh; omega
        by_cases h4 : 4 ≤ s
        · have HR : Hid (rnextI s e b = decI s (e - 20) b) := by
            show _ = _
            simp only [rnextI, HK.out, hh, h4]
            rw [if_pos ⟨trivial, trivial⟩, if_neg (by omega), if_neg (by omega), if_neg (by omega), if_neg (by omega), if_neg (by omega), if_neg (by omega), if_neg (by omega), if_neg (by omega), if_neg (by omega), if_neg (by omega)]; rfl
          have A := ractive_any s w h9
          rw [decide_eq_true h4] at A
          clear hh
          go_enter Try.func11, Try.ntmps11
          go_wp2_with (fail)
          refine C.mono ?_
          rintro en w1 ⟨rfl, rfl⟩
          go_wp2_with (fail)
          refine D.mono ?_
          rintro en w1 ⟨rfl, rfl⟩
          go_wp2_with (fail)
          refine A.mono ?_
          rintro en w1 ⟨rfl, rfl⟩
          go_wp2_with (fail)
          refine (decided_any _ _ _ _).mono ?_
          rintro en w1 ⟨rfl, rfl⟩
          go_wp2_with (fail)
          go_ret
          exact ⟨by rw [HR.out]; rfl, rfl⟩
        · have HR : Hid (rnextI s e b = s) := by
            show _ = _
            simp only [rnextI, HK.out, hh]
            rw [if_pos ⟨trivial, trivial⟩, if_neg (by omega), if_neg (by omega), if_neg (by omega), if_neg (by omega), if_neg (by omega), if_neg (by omega), if_neg (by omega), if_neg (by omega), if_neg (by omega), if_neg (by omega), if_neg h4]
          have A := ractive_any s w h9
          rw [decide_eq_false h4] at A
          clear hh
          go_enter Try.func11, Try.ntmps11
          go_wp2_with (fail)
          refine C.mono ?_
          rintro en w1 ⟨rfl, rfl⟩
          go_wp2_with (fail)
          refine D.mono ?_
          rintro en w1 ⟨rfl, rfl⟩
          go_wp2_with (fail)
          refine A.mono ?_
          rintro en w1 ⟨rfl, rfl⟩
          go_wp2_with (fail)
          go_ret
          exact ⟨by rw [HR.out]; rfl, rfl⟩
      · have he : e = 1 ∨ e = 5 ∨ e = 3 ∨ e = 2 ∨ e = 4 ∨ e = 6 ∨ e = 7 ∨ e = 8 ∨ e = 9 ∨ e = 10 := by simp [happI] at hh; omega
        clear hh h20
        rcases cases9 s HK.out with rfl | rfl | rfl | rfl | rfl | rfl | rfl | rfl | rfl
        all_goals
          rcases he with rfl | rfl | rfl | rfl | rfl | rfl | rfl | rfl | rfl | rfl
          all_goals
            go_enter Try.func11, Try.ntmps11
            go_wp2_with (fail)
            refine C.mono ?_
            rintro en w1 ⟨rfl, rfl⟩
            go_wp2_with (fail)
            refine D.mono ?_
            rintro en w1 ⟨rfl, rfl⟩
            go_wp2_with (fail)
            go_ret
            exact ⟨rfl, rfl⟩
end Go.Proofs.Ythegjpkbgdkplaa
