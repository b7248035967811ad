/- The walk of the statement PortDecides. -/
import Derived.Test.YthegjpkbgdkplaaPortAwake
import Derived.Test.YthegjpkbgdkplaaPortOpen
namespace Go.Proofs.Ythegjpkbgdkplaa
open Go.RowKit
set_option linter.unusedVariables false
set_option linter.unusedSimpArgs false

/-- what a decision of the code c comes to in an active state -/
def fitI (s c n : Int) (b : Bool) : Prop :=
  (c = 0 ∧ n = s) ∨ ((c = 1 ∨ c = 2 ∨ c = 3) ∧ ((n = 6 ∧ s = 6) ∨ (n = 5 ∧ s ≠ 6))) ∨ ((c = 4 ∨ c = 5) ∧ n = 7) ∨ (c = 6 ∧ (n = 8 ∨ (n = 9 ∧ s = 9 ∧ b = true)))
instance (s c n : Int) (b : Bool) : Decidable (fitI s c n b) := by unfold fitI; infer_instance
theorem decides_fact : ∀ s ∈ [(4 : Int), 5, 6, 7, 8, 9], ∀ c ∈ [(0 : Int), 1, 2, 3, 4, 5, 6], ∀ b ∈ [false, true], fitI s c (nextI s (20 + c) b) b ∧ nextI (nextI s (20 + c) b) (20 + c) true = nextI s (20 + c) b := by decide +kernel

set_option maxHeartbeats 4000000 in
theorem PortDecides_walk (v0 v1 v2 : Value) (w : World) (h0 : IsInt .u8 w v0) (h1 : IsInt .u8 w v1) (h2 : IsBool w v2) :
    Calls Try.prog 7 #[v0, v1, v2] w fun e w' => e = .returned (.bool true) ∧ Below w.heap.size w w' := by
  obtain ⟨u, rfl, hu⟩ := h0
  obtain ⟨d, rfl, hd⟩ := h1
  obtain ⟨b, rfl⟩ := h2
  obtain ⟨hu0, hu1⟩ := wf_u8 hu
  obtain ⟨hd0, hd1⟩ := wf_u8 hd
  obtain ⟨s, hs⟩ : ∃ s, u % 6 + 4 = s := ⟨_, rfl⟩
  obtain ⟨c, hc⟩ : ∃ c, d % 7 = c := ⟨_, rfl⟩
  have hsm : s ∈ [(4 : Int), 5, 6, 7, 8, 9] := by
    rcases (show s = 4 ∨ s = 5 ∨ s = 6 ∨ s = 7 ∨ s = 8 ∨ s = 9 by omega) with rfl | rfl | rfl | rfl | rfl | rfl <;> simp
  have hcm : c ∈ [(0 : Int), 1, 2, 3, 4, 5, 6] := by
    rcases (show c = 0 ∨ c = 1 ∨ c = 2 ∨ c = 3 ∨ c = 4 ∨ c = 5 ∨ c = 6 by omega) with rfl | rfl | rfl | rfl | rfl | rfl | rfl <;> simp
  obtain ⟨f1, f2⟩ := decides_fact s hsm c hcm b (by cases b <;> simp)
  have hc6 : 0 ≤ c ∧ c ≤ 6 := by omega
  obtain ⟨hc0, hc6⟩ := hc6
  obtain ⟨n, hn⟩ : ∃ n, nextI s (20 + c) b = n := ⟨_, rfl⟩
  rw [hn] at f1 f2
  have C1 := pnext_any s (20 + c) b w
  rw [hn] at C1
  have C2 := pnext_any n (20 + c) true
  rw [f2] at C2
  have HC2 := Lib.hid C2
  have wu : (IntKind.u8.wrap u) = u := by rw [IntKind.wrap_u8]; omega
  clear C2 f2 hn hsm hcm hu hd
  go_enter Try.func7, Try.ntmps7
  go_wp2_with (fail)
  simp only [hc]
  refine C1.mono ?_
  rintro en w1 ⟨rfl, hb⟩
  clear C1 hs hc wu hu0 hu1 hd0 hd1
  unfold fitI at f1
  rcases f1 with ⟨rfl, rfl⟩ | ⟨rfl | rfl | rfl, ⟨rfl, rfl⟩ | ⟨rfl, f⟩⟩ | ⟨rfl | rfl, rfl⟩ | ⟨rfl, rfl | ⟨rfl, rfl, rfl⟩⟩
  case' inr.inl.inl.inr | inr.inl.inr.inl.inr | inr.inl.inr.inr.inr =>
    have f6 : (s != 6) = true := by rw [bne_iff_ne]; exact f
    clear f
  all_goals
    go_wp2_with (fail)
    refine (HC2.out _).mono ?_
    rintro en w2 ⟨rfl, hb2⟩
    have hb := hb.trans (hb2.mono hb.size)
    clear hb2
    go_wp2_with (fail)
    refine (awake_any _).mono ?_
    rintro en w5 ⟨rfl, hb2⟩
    go_wp2_with (fail)
    go_ret
    exact ⟨rfl, hb.trans (hb2.mono hb.size)⟩
end Go.Proofs.Ythegjpkbgdkplaa
