/- The walks of the statements PortNexts and PortRuns. -/
import Derived.Test.YthegjpkbgdkplaaPortAwake
import Derived.Test.YthegjpkbgdkplaaPortOpen
namespace Go.Proofs.Ythegjpkbgdkplaa
open Go.RowKit
set_option linter.unusedVariables false
set_option linter.unusedSimpArgs false

set_option maxHeartbeats 1000000 in
theorem PortNexts_walk (v0 v1 v2 : Value) (w : World) (h0 : IsInt .i64 w v0) (h1 : IsInt .i64 w v1) (h2 : IsBool w v2) :
    Calls Try.prog 3 #[v0, v1, v2] w fun e w' => e = .returned (.bool true) ∧ Below w.heap.size w w' := by
  obtain ⟨s, rfl, _⟩ := h0
  obtain ⟨e, rfl, _⟩ := h1
  obtain ⟨b, rfl⟩ := h2
  obtain ⟨n, hn⟩ : ∃ n, nextI s e b = n := ⟨_, rfl⟩
  obtain ⟨u, hu⟩ : ∃ u, usesI s = u := ⟨_, rfl⟩
  obtain ⟨m, hm⟩ : ∃ m, nameI s = m := ⟨_, rfl⟩
  have HN := Lib.hid hn
  have HU := Lib.hid hu
  have HM := Lib.hid hm
  clear hn hu hm
  go_enter Try.func3, Try.ntmps3
  go_wp2_with (fail)
  have C1 := pnext_any s e b w
  rw [HN.out] at C1
  refine C1.mono ?_
  rintro en w1 ⟨rfl, hb⟩
  clear C1
  go_wp2_with (fail)
  have C2 := rnext_any s e b w1
  rw [rnext_eq, HN.out] at C2
  refine C2.mono ?_
  rintro en w2 ⟨rfl, rfl⟩
  clear C2
  go_wp2_with (fail)
  refine (sends_any s w1).mono ?_
  rintro en w2 ⟨rfl, rfl⟩
  go_wp2_with (fail)
  refine (rsends_any s w1).mono ?_
  rintro en w2 ⟨rfl, rfl⟩
  go_wp2_with (fail)
  have C3 := uses_any s w1
  rw [HU.out] at C3
  refine C3.mono ?_
  rintro en w2 ⟨rfl, rfl⟩
  clear C3
  go_wp2_with (fail)
  have C4 := ruses_any s w1
  rw [HU.out] at C4
  refine C4.mono ?_
  rintro en w2 ⟨rfl, rfl⟩
  clear C4
  go_wp2_with (fail)
  have C5 := pname_any s w1
  rw [HM.out] at C5
  refine C5.mono ?_
  rintro en w2 ⟨rfl, hb2⟩
  have hb := hb.trans (hb2.mono hb.size)
  clear C5 hb2
  go_wp2_with (fail)
  have C6 := rname_any s w2
  rw [HM.out] at C6
  refine C6.mono ?_
  rintro en w3 ⟨rfl, rfl⟩
  clear C6
  go_wp2_with (fail)
  refine (awake_any _).mono ?_
  rintro en w4 ⟨rfl, hb2⟩
  go_wp2_with (fail)
  go_ret
  exact ⟨rfl, hb.trans (hb2.mono hb.size)⟩

set_option maxHeartbeats 1000000 in
theorem PortRuns_walk (v0 v1 : Value) (w : World) (h0 : IsInt .i64 w v0) (h1 : IsEvs w v1) :
    Calls Try.prog 4 #[v0, v1] w fun e w' => e = .returned (.bool true) ∧ Below w.heap.size w w' := by
  obtain ⟨s, rfl, _⟩ := h0
  obtain ⟨x, n, c, zs, rfl, hz, _, hl, hnc, hcl, _⟩ := h1
  have hl2 : (zs.take 300).length = min n 300 := by rw [List.length_take, hl]; omega
  have HL2 := Lib.hid hl2
  clear hl hl2
  obtain ⟨R, hR⟩ : ∃ R, runAll s (zs.take 300) = R := ⟨_, rfl⟩
  have HR := Lib.hid hR
  clear hR
  go_enter Try.func4, Try.ntmps4
  go_wp2_with (fail)
  refine (first_any x n c w hnc hcl).mono ?_
  rintro en w1 ⟨rfl, rfl⟩
  obtain ⟨m, hm⟩ : ∃ m, min n 300 = m := ⟨_, rfl⟩
  rw [hm] at HL2 ⊢
  have hmc : m ≤ c := by omega
  have hm3 : m ≤ 300 := by omega
  clear hm
  go_wp2_with (fail)
  have C1 := prun_any s x m c (zs.take 300) w (hz.take 300) HL2.out hmc (by omega)
  rw [HR.out] at C1
  refine C1.mono ?_
  rintro en w1 ⟨rfl, hb⟩
  clear C1
  go_wp2_with (fail)
  have C2 := rrun_any s x m c (zs.take 300) w1 (((hz.take 300).below (Nat.le_refl _) hb).mono hb.size) HL2.out hmc (by omega)
  rw [HR.out] at C2
  refine C2.mono ?_
  rintro en w2 ⟨rfl, hb2⟩
  have hb := hb.trans (hb2.mono hb.size)
  clear C2 hb2
  go_wp2_with (fail)
  refine (awake_any _).mono ?_
  rintro en w4 ⟨rfl, hb2⟩
  go_wp2_with (fail)
  go_ret
  exact ⟨rfl, hb.trans (hb2.mono hb.size)⟩
end Go.Proofs.Ythegjpkbgdkplaa
