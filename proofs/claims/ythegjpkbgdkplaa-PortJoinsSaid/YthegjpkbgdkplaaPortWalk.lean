/- What the functions of package port return, and that they write nothing that was there. -/
import Derived.Test.YthegjpkbgdkplaaProg
import Derived.WalkKit
import Derived.WalkSmall
import Derived.Lib.Hide
import Derived.Test.YthegjpkbgdkplaaPortPlain
namespace Go.Proofs.Ythegjpkbgdkplaa
open Go.RowKit
set_option linter.unusedVariables false
set_option linter.unusedSimpArgs false

theorem known_any (s : Int) (w : World) : Calls Try.prog 23 #[.int .i64 s] w fun e w' => e = .returned (.bool (knownI s)) ∧ w = w' := by
  by_cases h1 : 1 ≤ s
  all_goals
    go_enter Try.func23, Try.ntmps23
    go_wp2
    go_ret
    exact ⟨by simp [knownI, h1] <;> omega, rfl⟩

theorem happens_any (s : Int) (w : World) : Calls Try.prog 24 #[.int .i64 s] w fun e w' => e = .returned (.bool (happI s)) ∧ w = w' := by
  by_cases h1 : 1 ≤ s
  · by_cases h2 : s ≤ 10
    · have hd : decide (s ≤ 10) = true := by simpa using h2
      go_enter Try.func24, Try.ntmps24
      go_wp2
      go_ret
      exact ⟨by simp [happI, h1, h2] <;> omega, rfl⟩
    · have hd : decide (s ≤ 10) = false := by simpa using h2
      by_cases h3 : 20 ≤ s
      all_goals
        go_enter Try.func24, Try.ntmps24
        go_wp2
        go_ret
        exact ⟨by simp [happI, h1, h2, h3] <;> omega, rfl⟩
  · have h3 : ¬ 20 ≤ s := by omega
    go_enter Try.func24, Try.ntmps24
    go_wp2
    go_ret
    exact ⟨by simp [happI, h1, h3] <;> omega, rfl⟩

theorem uses_any (s : Int) (w : World) : Calls Try.prog 14 #[.int .i64 s] w fun e w' => e = .returned (.bool (usesI s)) ∧ w = w' := by
  by_cases h1 : s = 8
  · subst h1
    go_enter Try.func14, Try.ntmps14
    go_wp2
    go_ret
    exact ⟨by simp [usesI], rfl⟩
  · have hd : (s == 8) = false := by simpa using h1
    go_enter Try.func14, Try.ntmps14
    go_wp2
    go_ret
    exact ⟨by simp [usesI, h1]; rfl, rfl⟩

theorem sends_any (s : Int) (w : World) : Calls Try.prog 12 #[.int .i64 s] w fun e w' => e = .returned (.bool (decide (s = 6))) ∧ w = w' := by
  go_enter Try.func12, Try.ntmps12
  go_wp2
  go_ret
  exact ⟨rfl, rfl⟩

theorem applies_any (m0 m1 m2 s : Int) (w : World) : Calls Try.prog 25 #[.agg #[.int .i64 m0, .int .i64 m1, .int .i64 m2], .int .i64 s] w fun e w' => e = .returned (.bool (appl m1 s)) ∧ Below w.heap.size w w' := by
  have hb : Below w.heap.size w (w.alloc (.cells #[.int .i64 m0, .int .i64 m1, .int .i64 m2] 39)) := (Below.refl _ _).alloc (Nat.le_refl _) _
  by_cases h1 : m1 = 100
  · subst h1
    go_enter Try.func25, Try.ntmps25
    go_wp2
    go_ret
    exact ⟨by simp [appl], hb⟩
  · have d1 : (m1 == 100) = false := by simpa using h1
    by_cases h2 : m1 = 101
    · subst h2
      go_enter Try.func25, Try.ntmps25
      go_wp2
      go_ret
      exact ⟨by simp [appl]; rfl, hb⟩
    · have d2 : (m1 == 101) = false := by simpa using h2
      by_cases h3 : m1 = 102
      · subst h3
        go_enter Try.func25, Try.ntmps25
        go_wp2
        go_ret
        exact ⟨by simp [appl], hb⟩
      · have d3 : (m1 == 102) = false := by simpa using h3
        go_enter Try.func25, Try.ntmps25
        go_wp2
        go_ret
        exact ⟨by simp [appl, h1, h2, h3]; rfl, hb⟩

/-- the table in memory -/
def mtab : Array Value := (mvs.flatMap fun m => [Value.int .i64 m.1, .int .i64 m.2.1, .int .i64 m.2.2]).toArray
theorem mvs_cells (w : World) (k : Nat) (hk : k < 19) (m0 m1 m2 : Int) (hm : mvs.getD k (0, 0, 0) = (m0, m1, m2)) (t : TypeId) (cs : Array Value)
    (hcs : cs = (mvs.flatMap fun m => [Value.int .i64 m.1, .int .i64 m.2.1, .int .i64 m.2.2]).toArray) :
    (w.alloc (.cells cs t)).cell? ⟨w.heap.size, k * 3, none⟩ = some (.int .i64 m0) ∧ (w.alloc (.cells cs t)).cell? ⟨w.heap.size, k * 3 + 1, none⟩ = some (.int .i64 m1) ∧ (w.alloc (.cells cs t)).cell? ⟨w.heap.size, k * 3 + 2, none⟩ = some (.int .i64 m2) := by
  subst hcs
  have e : ∀ j, (w.alloc (.cells (mvs.flatMap fun m => [Value.int .i64 m.1, .int .i64 m.2.1, .int .i64 m.2.2]).toArray t)).cell? ⟨w.heap.size, j, none⟩ = (mvs.flatMap fun m => [Value.int .i64 m.1, .int .i64 m.2.1, .int .i64 m.2.2])[j]? := by
    intro j
    rw [World.cell?_alloc_new]
    simp
  rw [e, e, e]
  clear e
  rcases (show k = 0 ∨ k = 1 ∨ k = 2 ∨ k = 3 ∨ k = 4 ∨ k = 5 ∨ k = 6 ∨ k = 7 ∨ k = 8 ∨ k = 9 ∨ k = 10 ∨ k = 11 ∨ k = 12 ∨ k = 13 ∨ k = 14 ∨ k = 15 ∨ k = 16 ∨ k = 17 ∨ k = 18 by omega) with
    rfl | rfl | rfl | rfl | rfl | rfl | rfl | rfl | rfl | rfl | rfl | rfl | rfl | rfl | rfl | rfl | rfl | rfl | rfl <;>
  (simp only [mvs, List.getD_cons_zero, List.getD_cons_succ, Prod.mk.injEq] at hm; obtain ⟨rfl, rfl, rfl⟩ := hm; exact ⟨rfl, rfl, rfl⟩)

set_option maxHeartbeats 1000000 in
theorem pnext_any (s e : Int) (b : Bool) (w : World) : Calls Try.prog 10 #[.int .i64 s, .int .i64 e, .bool b] w fun en w' => en = .returned (.int .i64 (nextI s e b)) ∧ Below w.heap.size w w' := by
  cases hk : knownI s with
  | false =>
    have HR : Hid (nextI s e b = 0) := by show _ = _; simp [nextI, hk]
    have C := known_any s
    rw [hk] at C
    have HC := Lib.hid C
    clear hk C
    go_enter Try.func10, Try.ntmps10
    go_wp2_with (fail)
    refine (HC.out _).mono ?_
    rintro en w1 ⟨rfl, rfl⟩
    go_wp2_with (fail)
    go_ret
    exact ⟨by rw [HR.out]; rfl, Below.refl _ _⟩
  | true =>
    cases hh : happI e with
    | false =>
      have HR : Hid (nextI s e b = 0) := by show _ = _; simp [nextI, hh]
      have C := known_any s
      rw [hk] at C
      have HC := Lib.hid C
      have D := happens_any e
      rw [hh] at D
      have HD := Lib.hid D
      clear hk hh C D
      go_enter Try.func10, Try.ntmps10
      go_wp2_with (fail)
      refine (HC.out _).mono ?_
      rintro en w1 ⟨rfl, rfl⟩
      go_wp2_with (fail)
      refine (HD.out _).mono ?_
      rintro en w1 ⟨rfl, rfl⟩
      go_wp2_with (fail)
      go_ret
      exact ⟨by rw [HR.out]; rfl, Below.refl _ _⟩
    | true =>
      have HR : Hid (nextI s e b = goI s e b (mvs.drop 0)) := by show _ = _; simp [nextI, hh, hk]
      have C := known_any s
      rw [hk] at C
      have HC := Lib.hid C
      have D := happens_any e
      rw [hh] at D
      have HD := Lib.hid D
      clear hk hh C D
      go_enter Try.func10, Try.ntmps10
      go_wp2_with (fail)
      refine (HC.out _).mono ?_
      rintro en w1 ⟨rfl, rfl⟩
      go_wp2_with (fail)
      refine (HD.out _).mono ?_
      rintro en w1 ⟨rfl, rfl⟩
      go_wp2_with (fail)
      have hz0 : ∀ o, (w.alloc o).heap.size = w.heap.size + 1 := fun o => by simp
      go_loopw [9, 41] (fun p i wr => ∃ k : Nat, k ≤ 19 ∧ i = .int .i64 k ∧ nextI s e b = goI s e b (mvs.drop k) ∧ Below (w.heap.size + 1) (w.alloc (.cells mtab 39)) wr) (fun _ i _ => 19 - (intOf i).toNat)
      case atStart => exact ⟨0, by omega, rfl, HR.out, Below.refl _ _⟩
      case round =>
        obtain ⟨k, hk, rfl, hH, hb⟩ := hrel
        have HH := Lib.hid hH
        clear hH
        have hz := hb.size
        simp at hz
        have hbw : Below w.heap.size w wr := ((Below.refl _ _).alloc (Nat.le_refl _) _).trans (hb.mono (by omega))
        by_cases hlt : k < 19
        · obtain ⟨m0, m1, m2, hm⟩ : ∃ m0 m1 m2, mvs.getD k (0, 0, 0) = (m0, m1, m2) := ⟨_, _, _, rfl⟩
          obtain ⟨c0, c1, c2⟩ := mvs_cells w k hlt m0 m1 m2 hm 39 mtab rfl
          rw [← hb.cell (by show w.heap.size < _; omega)] at c0 c1 c2
          have HG := Lib.hid (goI_drop s e b k hlt _ hm)
          clear hm
          have hbn : ∀ o, Below w.heap.size w (wr.alloc o) := fun o => hbw.alloc (by omega) o
          have HBN := Lib.hid hbn
          clear hbn
          by_cases he : m0 = e
          · subst he
            have C := applies_any m0 m1 m2 s (wr.alloc (.cells #[.int .i64 m0, .int .i64 m1, .int .i64 m2] 39))
            cases happ : appl m1 s with
            | false =>
              rw [happ] at C
              have HP := Lib.hid happ
              clear happ
              go_wp2_with (fail)
              refine C.mono ?_
              rintro en w1 ⟨rfl, hb1⟩
              clear C
              go_wp2_with (fail)
              go_roundw
              case rel => exact ⟨k + 1, by omega, by go_num, by rw [HH.out, HG.out, HP.out]; simp, (hb.alloc (by omega) _).trans (hb1.mono (by simp; omega))⟩
              case measure => simp [intOf]; omega
            | true =>
              rw [happ] at C
              have HN : Hid (nextI s m0 b = if staysI s m0 m2 b = true then s else m2) := by
                show _ = _
                rw [HH.out, HG.out, happ]; simp
              clear happ
              go_wp2_with (fail)
              refine C.mono ?_
              rintro en w1 ⟨rfl, hb1⟩
              clear C
              have hb1' := (HBN.out _).trans (hb1.mono (by simp; omega))
              have d0 : w1.cell? ⟨wr.heap.size, 0, none⟩ = some (.int .i64 m0) := by rw [hb1.cell (by simp)]; simp
              have d1 : w1.cell? ⟨wr.heap.size, 1, none⟩ = some (.int .i64 m1) := by rw [hb1.cell (by simp)]; simp
              have d2 : w1.cell? ⟨wr.heap.size, 2, none⟩ = some (.int .i64 m2) := by rw [hb1.cell (by simp)]; simp
              clear hb1 c0 c1 c2
              have hA : (m2 = 5 ∧ s = 6) ∨ ((m2 == 5) = true ∧ (s == 6) = false ∧ ¬ (m2 = 5 ∧ s = 6)) ∨ ((m2 == 5) = false ∧ ¬ (m2 = 5 ∧ s = 6)) := by
                by_cases h5 : m2 = 5
                · by_cases h6 : s = 6
                  · exact .inl ⟨h5, h6⟩
                  · exact .inr (.inl ⟨by simpa using h5, by simpa using h6, fun h => h6 h.2⟩)
                · exact .inr (.inr ⟨by simpa using h5, fun h => h5 h.1⟩)
              rcases hA with ⟨rfl, rfl⟩ | ⟨e5, e6, hn⟩ | ⟨e5, hn⟩
              · have HR2 : Hid (nextI 6 m0 b = 6) := by show _ = _; rw [HN.out]; simp [staysI]
                go_wp2_with (fail)
                go_ret
                exact ⟨by rw [HR2.out]; rfl, hb1'⟩
              all_goals
                have HE5 := Lib.hid hn
                clear hn
                by_cases h26 : m0 = 26
                · subst h26
                  cases b with
                  | false =>
                    have HR2 : Hid (nextI s 26 false = m2) := by show _ = _; rw [HN.out, if_neg (by simp [staysI]; intro h; exact fun h' => HE5.out ⟨h, h'⟩)]
                    go_wp2_with (fail)
                    go_ret
                    exact ⟨by rw [HR2.out]; rfl, hb1'⟩
                  | true =>
                    have U := uses_any s w1
                    cases hu : usesI s with
                    | false =>
                      rw [hu] at U
                      have HR2 : Hid (nextI s 26 true = m2) := by show _ = _; rw [HN.out, if_neg (by simp [staysI, hu]; intro h; exact fun h' => HE5.out ⟨h, h'⟩)]
                      clear hu
                      go_wp2_with (fail)
                      refine U.mono ?_
                      rintro en w2 ⟨rfl, rfl⟩
                      go_wp2_with (fail)
                      go_ret
                      exact ⟨by rw [HR2.out]; rfl, hb1'⟩
                    | true =>
                      rw [hu] at U
                      have HR2 : Hid (nextI s 26 true = s) := by show _ = _; rw [HN.out, if_pos (by simp [staysI, hu])]
                      clear hu
                      go_wp2_with (fail)
                      refine U.mono ?_
                      rintro en w2 ⟨rfl, rfl⟩
                      go_wp2_with (fail)
                      go_ret
                      exact ⟨by rw [HR2.out]; rfl, hb1'⟩
                · have hd26 : (m0 == 26) = false := by simpa using h26
                  have HR2 : Hid (nextI s m0 b = m2) := by show _ = _; rw [HN.out, if_neg (by simp [staysI, h26]; intro h; exact fun h' => HE5.out ⟨h, h'⟩)]
                  clear h26
                  go_wp2_with (fail)
                  go_ret
                  exact ⟨by rw [HR2.out]; rfl, hb1'⟩
          · have hd : (m0 != e) = true := by rw [bne_iff_ne]; exact he
            have HE := Lib.hid he
            clear he
            go_wp2_with (fail)
            go_roundw
            case rel => exact ⟨k + 1, by omega, by go_num, by rw [HH.out, HG.out, if_neg (fun h => HE.out h.1)], hb.alloc (by omega) _⟩
            case measure => simp [intOf]; omega
        · obtain rfl : k = 19 := by omega
          have HR2 : Hid (nextI s e b = s) := by show _ = _; rw [HH.out]; rfl
          go_wp2_with (fail)
          go_ret
          exact ⟨by rw [HR2.out]; rfl, hbw⟩
end Go.Proofs.Ythegjpkbgdkplaa
