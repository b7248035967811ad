/- The walk of the statement PortNames. -/
import Derived.Test.YthegjpkbgdkplaaPortAwake
import Derived.Test.YthegjpkbgdkplaaPortOpen
namespace Go.Proofs.Ythegjpkbgdkplaa
open Go.RowKit
set_option linter.unusedVariables false
set_option linter.unusedSimpArgs false

theorem names_differ : ∀ a ∈ [(1 : Int), 2, 3, 4, 5, 6, 7, 8, 9], ∀ b ∈ [(1 : Int), 2, 3, 4, 5, 6, 7, 8, 9], a ≠ b → (nameI a).toList ≠ (nameI b).toList := by decide +kernel
theorem names_some : ∀ a ∈ [(1 : Int), 2, 3, 4, 5, 6, 7, 8, 9], (nameI a).toList ≠ [] := by decide +kernel
theorem mem9 (s : Int) (h : knownI s = true) : s ∈ [(1 : Int), 2, 3, 4, 5, 6, 7, 8, 9] := by
  rcases cases9 s h with rfl | rfl | rfl | rfl | rfl | rfl | rfl | rfl | rfl <;> simp
theorem name_ne (a b : Int) (ha : knownI a = true) (hn : a ≠ b) : (nameI a).toList ≠ (nameI b).toList := by
  cases hb : knownI b with
  | true => exact names_differ a (mem9 a ha) b (mem9 b hb) hn
  | false => rw [nameI_none b hb]; exact fun h => names_some a (mem9 a ha) (h.trans (by decide +kernel))

set_option maxHeartbeats 4000000 in
theorem PortNames_walk (v0 v1 : Value) (w : World) (h0 : IsInt .i64 w v0) (h1 : IsInt .i64 w v1) :
    Calls Try.prog 8 #[v0, v1] w fun e w' => e = .returned (.bool true) ∧ Below w.heap.size w w' := by
  obtain ⟨a, rfl, _⟩ := h0
  obtain ⟨b, rfl, _⟩ := h1
  have C1 := pname_any a w
  have C2 := pname_any b
  cases ha : knownI a with
  | false =>
    rw [nameI_none a ha] at C1
    obtain ⟨m, hm⟩ : ∃ m, nameI b = m := ⟨_, rfl⟩
    rw [hm] at C2
    have HC2 := Lib.hid C2
    have C3 := pnext_any a 1 false
    rw [show nextI a 1 false = 0 from by unfold nextI; rw [if_neg (by simp [ha])]] at C3
    have HC3 := Lib.hid C3
    have C4 : ∀ w, Calls Try.prog 20 #[.int .i64 a, .slice none 0 0] w fun e w' => e = .returned (.int .i64 0) ∧ Below w.heap.size w w' := by
      intro w
      have := prun_any a none 0 0 [] w (Evs.nil _ _ _) rfl (Nat.le_refl _) (by omega)
      rwa [show runAll a [] = 0 from by simp [runAll, ha]] at this
    have HC4 := Lib.hid C4
    clear C2 C3 C4 hm
    have hsa : decide (a = 6) = false := by simp [knownI] at ha; simp; omega
    have hus : usesI a = false := by simp [knownI] at ha; simp [usesI]; omega
    simp [knownI] at ha
    have hc : ¬ 1 ≤ a ∨ (1 ≤ a ∧ ¬ a ≤ 9) := by omega
    have S1 := sends_any a
    rw [hsa] at S1
    have U1 := uses_any a
    rw [hus] at U1
    have HS1 := Lib.hid S1
    have HU1 := Lib.hid U1
    clear ha hsa hus S1 U1
    have h0 : (0 : Int) = a ∨ ((0 : Int) == a) = false := by
      by_cases h : (0 : Int) = a
      · exact .inl h
      · exact .inr (by simpa using h)
    rcases h0 with rfl | h0
    · have hc : (0 : Int) < 1 := by omega
      go_enter Try.func8, Try.ntmps8
      have hb := Below.refl w.heap.size w
      go_wp2_with (fail)
      refine (C1).mono ?_
      rintro en v1 ⟨rfl, hb2⟩
      have hb := hb.trans (hb2.mono hb.size)
      clear hb2
      go_wp2_with (fail)
      refine (HC2.out _).mono ?_
      rintro en v2 ⟨rfl, hb2⟩
      have hb := hb.trans (hb2.mono hb.size)
      clear hb2
      go_wp2_with (fail)
      refine (HS1.out _).mono ?_
      rintro en v3 ⟨rfl, rfl⟩
      go_wp2_with (fail)
      refine (HU1.out _).mono ?_
      rintro en v4 ⟨rfl, rfl⟩
      go_wp2_with (fail)
      refine (HC3.out _).mono ?_
      rintro en v5 ⟨rfl, hb2⟩
      have hb := hb.trans (hb2.mono hb.size)
      clear hb2
      go_wp2_with (fail)
      refine (HC4.out _).mono ?_
      rintro en v6 ⟨rfl, hb2⟩
      have hb := hb.trans (hb2.mono hb.size)
      clear hb2
      go_wp2_with (fail)
      refine (awake_any _).mono ?_
      rintro en v ⟨rfl, hb2⟩
      go_wp2_with (fail)
      go_ret
      exact ⟨rfl, hb.trans (hb2.mono hb.size)⟩
    · rcases hc with hc | ⟨hc, hc2⟩
      · have hc : a < 1 := by omega
        go_enter Try.func8, Try.ntmps8
        have hb := Below.refl w.heap.size w
        go_wp2_with (fail)
        refine (C1).mono ?_
        rintro en v7 ⟨rfl, hb2⟩
        have hb := hb.trans (hb2.mono hb.size)
        clear hb2
        go_wp2_with (fail)
        refine (HC2.out _).mono ?_
        rintro en v8 ⟨rfl, hb2⟩
        have hb := hb.trans (hb2.mono hb.size)
        clear hb2
        go_wp2_with (fail)
        refine (HS1.out _).mono ?_
        rintro en v9 ⟨rfl, rfl⟩
        go_wp2_with (fail)
        refine (HU1.out _).mono ?_
        rintro en v10 ⟨rfl, rfl⟩
        go_wp2_with (fail)
        refine (HC3.out _).mono ?_
        rintro en v11 ⟨rfl, hb2⟩
        have hb := hb.trans (hb2.mono hb.size)
        clear hb2
        go_wp2_with (fail)
        refine (HC4.out _).mono ?_
        rintro en v12 ⟨rfl, hb2⟩
        have hb := hb.trans (hb2.mono hb.size)
        clear hb2
        go_wp2_with (fail)
        refine (HC4.out _).mono ?_
        rintro en v13 ⟨rfl, hb2⟩
        have hb := hb.trans (hb2.mono hb.size)
        clear hb2
        go_wp2_with (fail)
        refine (awake_any _).mono ?_
        rintro en v ⟨rfl, hb2⟩
        go_wp2_with (fail)
        go_ret
        exact ⟨rfl, hb.trans (hb2.mono hb.size)⟩
      · have hc : 9 < a := by omega
        go_enter Try.func8, Try.ntmps8
        have hb := Below.refl w.heap.size w
        go_wp2_with (fail)
        refine (C1).mono ?_
        rintro en v14 ⟨rfl, hb2⟩
        have hb := hb.trans (hb2.mono hb.size)
        clear hb2
        go_wp2_with (fail)
        refine (HC2.out _).mono ?_
        rintro en v15 ⟨rfl, hb2⟩
        have hb := hb.trans (hb2.mono hb.size)
        clear hb2
        go_wp2_with (fail)
        refine (HS1.out _).mono ?_
        rintro en v16 ⟨rfl, rfl⟩
        go_wp2_with (fail)
        refine (HU1.out _).mono ?_
        rintro en v17 ⟨rfl, rfl⟩
        go_wp2_with (fail)
        refine (HC3.out _).mono ?_
        rintro en v18 ⟨rfl, hb2⟩
        have hb := hb.trans (hb2.mono hb.size)
        clear hb2
        go_wp2_with (fail)
        refine (HC4.out _).mono ?_
        rintro en v19 ⟨rfl, hb2⟩
        have hb := hb.trans (hb2.mono hb.size)
        clear hb2
        go_wp2_with (fail)
        refine (HC4.out _).mono ?_
        rintro en v20 ⟨rfl, hb2⟩
        have hb := hb.trans (hb2.mono hb.size)
        clear hb2
        go_wp2_with (fail)
        refine (awake_any _).mono ?_
        rintro en v ⟨rfl, hb2⟩
        go_wp2_with (fail)
        go_ret
        exact ⟨rfl, hb.trans (hb2.mono hb.size)⟩
  | true =>
    obtain ⟨m, hm⟩ : ∃ m, nameI b = m := ⟨_, rfl⟩
    obtain ⟨l, hl⟩ : ∃ l, nameI a = l := ⟨_, rfl⟩
    have hl0 : l.toList ≠ [] := by rw [← hl]; exact names_some a (mem9 a ha)
    have hlm : a ≠ b → l.toList ≠ m.toList := by rw [← hl, ← hm]; exact name_ne a b ha
    rw [hl] at C1
    rw [hm] at C2
    have HC2 := Lib.hid C2
    have C3 := pnext_any a 1 false
    have hn1 : nextI a 1 false = 1 := (by decide +kernel : ∀ a ∈ [(1 : Int), 2, 3, 4, 5, 6, 7, 8, 9], nextI a 1 false = 1) a (mem9 a ha)
    rw [hn1] at C3
    have HC3 := Lib.hid C3
    have C4 : ∀ w, Calls Try.prog 20 #[.int .i64 a, .slice none 0 0] w fun e w' => e = .returned (.int .i64 a) ∧ Below w.heap.size w w' := by
      intro w
      have := prun_any a none 0 0 [] w (Evs.nil _ _ _) rfl (Nat.le_refl _) (by omega)
      rwa [show runAll a [] = a from by simp [runAll, ha, runI]] at this
    have HC4 := Lib.hid C4
    have hk : 1 ≤ a ∧ a ≤ 9 := by simpa [knownI] using ha
    obtain ⟨k1, k2⟩ := hk
    have hus : decide (a = 6) = true → usesI a = false := by intro h; simp at h; subst h; rfl
    obtain ⟨sd, hsd⟩ : ∃ sd, decide (a = 6) = sd := ⟨_, rfl⟩
    obtain ⟨us, hus'⟩ : ∃ us, usesI a = us := ⟨_, rfl⟩
    have S1 := sends_any a
    rw [hsd] at S1 hus
    have U1 := uses_any a
    rw [hus'] at U1 hus
    have HS1 := Lib.hid S1
    have HU1 := Lib.hid U1
    clear C2 C3 C4 hm hl hn1 ha hsd hus' S1 U1
    have e1 : l.toList.isEmpty = false := by cases h : l.toList with | nil => exact absurd h hl0 | cons _ _ => rfl
    by_cases hab : a = b
    · subst hab
      clear hlm
      cases sd with
      | true =>
        obtain rfl : us = false := hus rfl
        clear hus
        go_enter Try.func8, Try.ntmps8
        have hb := Below.refl w.heap.size w
        go_wp2_with (fail)
        refine (C1).mono ?_
        rintro en v21 ⟨rfl, hb2⟩
        have hb := hb.trans (hb2.mono hb.size)
        clear hb2
        go_wp2_with (fail)
        refine (HC2.out _).mono ?_
        rintro en v22 ⟨rfl, hb2⟩
        have hb := hb.trans (hb2.mono hb.size)
        clear hb2
        go_wp2_with (fail)
        refine (HS1.out _).mono ?_
        rintro en v23 ⟨rfl, rfl⟩
        go_wp2_with (fail)
        refine (HU1.out _).mono ?_
        rintro en v24 ⟨rfl, rfl⟩
        go_wp2_with (fail)
        refine (HU1.out _).mono ?_
        rintro en v25 ⟨rfl, rfl⟩
        go_wp2_with (fail)
        refine (HC3.out _).mono ?_
        rintro en v26 ⟨rfl, hb2⟩
        have hb := hb.trans (hb2.mono hb.size)
        clear hb2
        go_wp2_with (fail)
        refine (HC4.out _).mono ?_
        rintro en v27 ⟨rfl, hb2⟩
        have hb := hb.trans (hb2.mono hb.size)
        clear hb2
        go_wp2_with (fail)
        refine (awake_any _).mono ?_
        rintro en v ⟨rfl, hb2⟩
        go_wp2_with (fail)
        go_ret
        exact ⟨rfl, hb.trans (hb2.mono hb.size)⟩
      | false =>
        clear hus
        cases us with
        | true =>
          go_enter Try.func8, Try.ntmps8
          have hb := Below.refl w.heap.size w
          go_wp2_with (fail)
          refine (C1).mono ?_
          rintro en v28 ⟨rfl, hb2⟩
          have hb := hb.trans (hb2.mono hb.size)
          clear hb2
          go_wp2_with (fail)
          refine (HC2.out _).mono ?_
          rintro en v29 ⟨rfl, hb2⟩
          have hb := hb.trans (hb2.mono hb.size)
          clear hb2
          go_wp2_with (fail)
          refine (HS1.out _).mono ?_
          rintro en v30 ⟨rfl, rfl⟩
          go_wp2_with (fail)
          refine (HU1.out _).mono ?_
          rintro en v31 ⟨rfl, rfl⟩
          go_wp2_with (fail)
          refine (HC3.out _).mono ?_
          rintro en v32 ⟨rfl, hb2⟩
          have hb := hb.trans (hb2.mono hb.size)
          clear hb2
          go_wp2_with (fail)
          refine (HC4.out _).mono ?_
          rintro en v33 ⟨rfl, hb2⟩
          have hb := hb.trans (hb2.mono hb.size)
          clear hb2
          go_wp2_with (fail)
          refine (awake_any _).mono ?_
          rintro en v ⟨rfl, hb2⟩
          go_wp2_with (fail)
          go_ret
          exact ⟨rfl, hb.trans (hb2.mono hb.size)⟩
        | false =>
          go_enter Try.func8, Try.ntmps8
          have hb := Below.refl w.heap.size w
          go_wp2_with (fail)
          refine (C1).mono ?_
          rintro en v34 ⟨rfl, hb2⟩
          have hb := hb.trans (hb2.mono hb.size)
          clear hb2
          go_wp2_with (fail)
          refine (HC2.out _).mono ?_
          rintro en v35 ⟨rfl, hb2⟩
          have hb := hb.trans (hb2.mono hb.size)
          clear hb2
          go_wp2_with (fail)
          refine (HS1.out _).mono ?_
          rintro en v36 ⟨rfl, rfl⟩
          go_wp2_with (fail)
          refine (HU1.out _).mono ?_
          rintro en v37 ⟨rfl, rfl⟩
          go_wp2_with (fail)
          refine (HC3.out _).mono ?_
          rintro en v38 ⟨rfl, hb2⟩
          have hb := hb.trans (hb2.mono hb.size)
          clear hb2
          go_wp2_with (fail)
          refine (HC4.out _).mono ?_
          rintro en v39 ⟨rfl, hb2⟩
          have hb := hb.trans (hb2.mono hb.size)
          clear hb2
          go_wp2_with (fail)
          refine (awake_any _).mono ?_
          rintro en v ⟨rfl, hb2⟩
          go_wp2_with (fail)
          go_ret
          exact ⟨rfl, hb.trans (hb2.mono hb.size)⟩
    · have dn : (a != b) = true := by rw [bne_iff_ne]; exact hab
      have dl : (l.toList == m.toList) = false := by rw [beq_eq_false_iff_ne]; exact hlm hab
      clear hab hlm hl0
      cases sd with
      | true =>
        obtain rfl : us = false := hus rfl
        clear hus
        go_enter Try.func8, Try.ntmps8
        have hb := Below.refl w.heap.size w
        go_wp2_with (fail)
        refine (C1).mono ?_
        rintro en v40 ⟨rfl, hb2⟩
        have hb := hb.trans (hb2.mono hb.size)
        clear hb2
        go_wp2_with (fail)
        refine (HC2.out _).mono ?_
        rintro en v41 ⟨rfl, hb2⟩
        have hb := hb.trans (hb2.mono hb.size)
        clear hb2
        go_wp2_with (fail)
        refine (HS1.out _).mono ?_
        rintro en v42 ⟨rfl, rfl⟩
        go_wp2_with (fail)
        refine (HU1.out _).mono ?_
        rintro en v43 ⟨rfl, rfl⟩
        go_wp2_with (fail)
        refine (HU1.out _).mono ?_
        rintro en v44 ⟨rfl, rfl⟩
        go_wp2_with (fail)
        refine (HC3.out _).mono ?_
        rintro en v45 ⟨rfl, hb2⟩
        have hb := hb.trans (hb2.mono hb.size)
        clear hb2
        go_wp2_with (fail)
        refine (HC4.out _).mono ?_
        rintro en v46 ⟨rfl, hb2⟩
        have hb := hb.trans (hb2.mono hb.size)
        clear hb2
        go_wp2_with (fail)
        refine (awake_any _).mono ?_
        rintro en v ⟨rfl, hb2⟩
        go_wp2_with (fail)
        go_ret
        exact ⟨rfl, hb.trans (hb2.mono hb.size)⟩
      | false =>
        clear hus
        cases us with
        | true =>
          go_enter Try.func8, Try.ntmps8
          have hb := Below.refl w.heap.size w
          go_wp2_with (fail)
          refine (C1).mono ?_
          rintro en v47 ⟨rfl, hb2⟩
          have hb := hb.trans (hb2.mono hb.size)
          clear hb2
          go_wp2_with (fail)
          refine (HC2.out _).mono ?_
          rintro en v48 ⟨rfl, hb2⟩
          have hb := hb.trans (hb2.mono hb.size)
          clear hb2
          go_wp2_with (fail)
          refine (HS1.out _).mono ?_
          rintro en v49 ⟨rfl, rfl⟩
          go_wp2_with (fail)
          refine (HU1.out _).mono ?_
          rintro en v50 ⟨rfl, rfl⟩
          go_wp2_with (fail)
          refine (HC3.out _).mono ?_
          rintro en v51 ⟨rfl, hb2⟩
          have hb := hb.trans (hb2.mono hb.size)
          clear hb2
          go_wp2_with (fail)
          refine (HC4.out _).mono ?_
          rintro en v52 ⟨rfl, hb2⟩
          have hb := hb.trans (hb2.mono hb.size)
          clear hb2
          go_wp2_with (fail)
          refine (awake_any _).mono ?_
          rintro en v ⟨rfl, hb2⟩
          go_wp2_with (fail)
          go_ret
          exact ⟨rfl, hb.trans (hb2.mono hb.size)⟩
        | false =>
          go_enter Try.func8, Try.ntmps8
          have hb := Below.refl w.heap.size w
          go_wp2_with (fail)
          refine (C1).mono ?_
          rintro en v53 ⟨rfl, hb2⟩
          have hb := hb.trans (hb2.mono hb.size)
          clear hb2
          go_wp2_with (fail)
          refine (HC2.out _).mono ?_
          rintro en v54 ⟨rfl, hb2⟩
          have hb := hb.trans (hb2.mono hb.size)
          clear hb2
          go_wp2_with (fail)
          refine (HS1.out _).mono ?_
          rintro en v55 ⟨rfl, rfl⟩
          go_wp2_with (fail)
          refine (HU1.out _).mono ?_
          rintro en v56 ⟨rfl, rfl⟩
          go_wp2_with (fail)
          refine (HC3.out _).mono ?_
          rintro en v57 ⟨rfl, hb2⟩
          have hb := hb.trans (hb2.mono hb.size)
          clear hb2
          go_wp2_with (fail)
          refine (HC4.out _).mono ?_
          rintro en v58 ⟨rfl, hb2⟩
          have hb := hb.trans (hb2.mono hb.size)
          clear hb2
          go_wp2_with (fail)
          refine (awake_any _).mono ?_
          rintro en v ⟨rfl, hb2⟩
          go_wp2_with (fail)
          go_ret
          exact ⟨rfl, hb.trans (hb2.mono hb.size)⟩
end Go.Proofs.Ythegjpkbgdkplaa
