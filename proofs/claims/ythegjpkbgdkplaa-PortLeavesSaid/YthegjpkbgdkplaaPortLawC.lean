/- The walk of the statement PortLeaves. -/
import Derived.Test.YthegjpkbgdkplaaPortAwake
import Derived.Test.YthegjpkbgdkplaaPortOpen
namespace Go.Proofs.Ythegjpkbgdkplaa
open Go.RowKit
set_option linter.unusedVariables false
set_option linter.unusedSimpArgs false

/-- where an event leads a port from Disabled, Faulty and Initializing -/
def offI (e : Int) : Int := if e = 1 then 1 else if e = 6 then 1 else 3
def badI (e : Int) : Int := if e = 1 then 1 else if e = 4 then 1 else if e = 5 then 3 else 2
def begI (e : Int) : Int := if e = 5 then 3 else if e = 3 then 2 else if e = 2 then 4 else 1
theorem leaves_fact (e : Int) (b : Bool) (he : happI e = true) : nextI 3 e b = offI e ∧ nextI 2 e b = badI e ∧ nextI 1 e b = begI e ∧ ¬ nextI 6 e b = 0 :=
  by_table (fun _ e b => nextI 3 e b = offI e ∧ nextI 2 e b = badI e ∧ nextI 1 e b = begI e ∧ ¬ nextI 6 e b = 0) (by decide +kernel) 1 e b rfl he

set_option maxHeartbeats 4000000 in
theorem PortLeaves_walk (v0 v1 : Value) (w : World) (h0 : IsInt .i64 w v0) (h1 : IsBool w v1) :
    Calls Try.prog 6 #[v0, v1] w fun e w' => e = .returned (.bool true) ∧ Below w.heap.size w w' := by
  obtain ⟨e, rfl, _⟩ := h0
  obtain ⟨b, rfl⟩ := h1
  cases hh : happI e with
  | false =>
    have C1 := pnext_any 6 e b w
    rw [show nextI 6 e b = 0 from by unfold nextI; rw [if_neg (by simp [hh])]] at C1
    simp [happI] at hh
    have hc : e < 1 ∨ (10 < e ∧ e < 20) ∨ 26 < e := by omega
    clear hh
    rcases hc with hc | ⟨hc1, hc2⟩ | hc
    · go_enter Try.func6, Try.ntmps6
      go_wp2_with (fail)
      refine C1.mono ?_
      rintro en w1 ⟨rfl, hb⟩
      clear C1
      go_wp2_with (fail)
      refine (awake_any _).mono ?_
      rintro en w4 ⟨rfl, hb2⟩
      go_wp2_with (fail)
      go_ret
      exact ⟨rfl, hb.trans (hb2.mono hb.size)⟩
    · have h3 : ¬ e < 1 := by omega
      go_enter Try.func6, Try.ntmps6
      go_wp2_with (fail)
      refine C1.mono ?_
      rintro en w1 ⟨rfl, hb⟩
      clear C1
      go_wp2_with (fail)
      refine (awake_any _).mono ?_
      rintro en w4 ⟨rfl, hb2⟩
      go_wp2_with (fail)
      go_ret
      exact ⟨rfl, hb.trans (hb2.mono hb.size)⟩
    · have h3 : ¬ e < 1 := by omega
      have h4 : ¬ e < 20 := by omega
      have h5 : 10 < e := by omega
      go_enter Try.func6, Try.ntmps6
      go_wp2_with (fail)
      refine C1.mono ?_
      rintro en w1 ⟨rfl, hb⟩
      clear C1
      go_wp2_with (fail)
      refine (awake_any _).mono ?_
      rintro en w4 ⟨rfl, hb2⟩
      go_wp2_with (fail)
      go_ret
      exact ⟨rfl, hb.trans (hb2.mono hb.size)⟩
  | true =>
    obtain ⟨f1, f2, f3, f4⟩ := leaves_fact e b hh
    have C1 := pnext_any 6 e b w
    have C2 := pnext_any 3 e b
    have C3 := pnext_any 2 e b
    have C4 := pnext_any 1 e b
    obtain ⟨t, ht⟩ : ∃ t, nextI 6 e b = t := ⟨_, rfl⟩
    rw [ht] at f4 C1
    rw [f1] at C2
    rw [f2] at C3
    rw [f3] at C4
    have d4 : (t == 0) = false := by simpa using f4
    have HC2 := Lib.hid C2
    have HC3 := Lib.hid C3
    have HC4 := Lib.hid C4
    clear f1 f2 f3 f4 ht C2 C3 C4
    have d : e = 1 ∨ e = 2 ∨ e = 3 ∨ e = 4 ∨ e = 5 ∨ e = 6 ∨ ((e == 1) = false ∧ (e == 2) = false ∧ (e == 3) = false ∧ (e == 4) = false ∧ (e == 5) = false ∧ (e == 6) = false ∧ offI e = 3 ∧ badI e = 2 ∧ begI e = 1) := by
      by_cases h : e = 1 ∨ e = 2 ∨ e = 3 ∨ e = 4 ∨ e = 5 ∨ e = 6
      · omega
      · simp only [not_or] at h
        obtain ⟨h1, h2, h3, h4, h5, h6⟩ := h
        refine .inr (.inr (.inr (.inr (.inr (.inr ⟨by simpa using h1, by simpa using h2, by simpa using h3, by simpa using h4, by simpa using h5, by simpa using h6, ?_, ?_, ?_⟩)))))
        · simp [offI, h1, h6]
        · simp [badI, h1, h4, h5]
        · simp [begI, h5, h3, h2]
    clear hh
    rcases d with rfl | rfl | rfl | rfl | rfl | rfl | ⟨d1, d2, d3, e4, d5, d6, e1, e2, e3⟩
    case' inr.inr.inr.inr.inr.inr => rw [e1] at HC2; rw [e2] at HC3; rw [e3] at HC4; clear e1 e2 e3
    all_goals
      go_enter Try.func6, Try.ntmps6
      go_wp2_with (fail)
      refine C1.mono ?_
      rintro en w1 ⟨rfl, hb⟩
      clear C1
      go_wp2_with (fail)
      refine (HC2.out _).mono ?_
      rintro en w2 ⟨rfl, hb2⟩
      have hb := hb.trans (hb2.mono hb.size)
      clear hb2
      go_wp2_with (fail)
      refine (HC3.out _).mono ?_
      rintro en w3 ⟨rfl, hb2⟩
      have hb := hb.trans (hb2.mono hb.size)
      clear hb2
      go_wp2_with (fail)
      refine (HC4.out _).mono ?_
      rintro en w4 ⟨rfl, hb2⟩
      have hb := hb.trans (hb2.mono hb.size)
      clear hb2
      go_wp2_with (fail)
      refine (awake_any _).mono ?_
      rintro en w5 ⟨rfl, hb2⟩
      go_wp2_with (fail)
      go_ret
      exact ⟨rfl, hb.trans (hb2.mono hb.size)⟩
end Go.Proofs.Ythegjpkbgdkplaa
