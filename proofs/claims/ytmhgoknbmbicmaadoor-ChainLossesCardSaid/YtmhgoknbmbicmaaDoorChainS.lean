/- The law ChainIntervals. -/
import Derived.Test.YtmhgoknbmbicmaaDoorChainR
namespace Go.Proofs.YtmhgoknbmbicmaaDoor
open Go.RowKit
set_option linter.unusedVariables false
set_option linter.unusedSimpArgs false

theorem iv_props {st sp de co t : Int} (hok : okC st sp de co = true) : 0 ≤ ivI st sp de co t ∧ ivI st sp de co t ≤ co + 1 ∧ (ivI st sp de co t = 0 → t < st) ∧ (1 ≤ ivI st sp de co t → st + (ivI st sp de co t - 1) * sp ≤ t) ∧ (ivI st sp de co t ≤ co → t < st + ivI st sp de co t * sp) := by
  obtain ⟨o1, o2, o3, o4, o5, o6, o7, o8⟩ := okC_iff.1 hok
  unfold ivI
  have hsp : 0 < sp := by omega
  by_cases h : st ≤ t
  · rw [if_pos ⟨hok, h⟩]
    have hq0 : 0 ≤ (t - st) / sp := Int.ediv_nonneg (by omega) (by omega)
    have hq1 : (t - st) / sp * sp ≤ t - st := Int.ediv_mul_le _ (by omega)
    have hq2 : t - st < ((t - st) / sp + 1) * sp := Int.lt_ediv_add_one_mul_self _ hsp
    obtain ⟨q, hq⟩ : ∃ q, (t - st) / sp = q := ⟨_, rfl⟩
    rw [hq] at hq0 hq1 hq2 ⊢
    by_cases h2 : q ≤ co
    · rw [if_pos h2]
      refine ⟨by omega, by omega, by omega, fun _ => ?_, fun _ => ?_⟩
      · rw [show q + 1 - 1 = q by omega]; omega
      · omega
    · rw [if_neg h2]
      refine ⟨by omega, by omega, by omega, fun _ => ?_, fun _ => by omega⟩
      rw [show co + 1 - 1 = co by omega]
      have := Int.mul_le_mul_of_nonneg_right (show co ≤ q by omega) (show 0 ≤ sp by omega)
      omega
  · rw [if_neg (fun q => h q.2)]
    refine ⟨by omega, by omega, fun _ => by omega, by omega, fun _ => by simp; omega⟩

set_option maxHeartbeats 4000000 in
theorem ChainIntervals_walk (v0 v1 : Value) (w : World) (h0 : IsConf w v0) (h1 : IsInt .i64 w v1) (hc : ConfAt w) :
    Calls Tryd.prog 5 #[v0, v1] w fun e w' => e = .returned (.bool true) ∧ Below w.heap.size w w' := by
  obtain ⟨st, sp, de, co, rfl, -, -, -, -⟩ := h0
  obtain ⟨t, rfl, ht⟩ := h1
  have ht' := (wf_i64 ht).2
  have htl := (wf_i64 ht).1
  have hb0 : Below w.heap.size w (w.alloc (.cells #[.int .i64 st, .int .i64 sp, .int .i64 de, .int .i64 co] 23)) := (Below.refl _ _).alloc (Nat.le_refl _) _
  have HC := Lib.hid hc
  clear hc ht
  have C := pcheck_any st sp de co (w.alloc (.cells #[.int .i64 st, .int .i64 sp, .int .i64 de, .int .i64 co] 23))
  have D : ∀ W, Calls Tryd.prog 15 #[.agg #[.int .i64 st, .int .i64 sp, .int .i64 de, .int .i64 co], .int .i64 t] W fun e w' => e = .returned (.int .i64 (ivI st sp de co t)) ∧ Below W.heap.size W w' := fun W => piv_any st sp de co t W ht'
  cases hok : okC st sp de co with
  | false =>
    rw [show errC st sp de co = 3 from by unfold errC; rw [hok]; rfl] at C
    rw [show ivI st sp de co t = 0 from by unfold ivI; rw [if_neg (by rw [hok]; simp)]] at D
    have HC1 := Lib.hid C
    have HD := Lib.hid D
    clear C D hok
    go_enter Tryd.func5, Tryd.ntmps5
    go_wp2_with (fail)
    refine HC1.out.mono ?_
    rintro e w1 ⟨rfl, hb1⟩
    have hbw1 := hb0.trans (hb1.mono hb0.size)
    have c0 : w1.cell? ⟨w.heap.size, 0, none⟩ = some (.int .i64 st) := by rw [hb1.cell (by simp)]; simp
    have c1 : w1.cell? ⟨w.heap.size, 1, none⟩ = some (.int .i64 sp) := by rw [hb1.cell (by simp)]; simp
    have c2 : w1.cell? ⟨w.heap.size, 2, none⟩ = some (.int .i64 de) := by rw [hb1.cell (by simp)]; simp
    have c3 : w1.cell? ⟨w.heap.size, 3, none⟩ = some (.int .i64 co) := by rw [hb1.cell (by simp)]; simp
    clear hb1
    go_wp2_with (fail)
    refine (HD.out _).mono ?_
    rintro e w2 ⟨rfl, hb2⟩
    have hbw2 := hbw1.trans (hb2.mono hbw1.size)
    clear hb2
    go_wp2_with (fail)
    refine (awake_any _ (HC.out.below hbw2)).mono ?_
    rintro e w3 ⟨rfl, hb3⟩
    go_wp2_with (fail)
    go_ret
    exact ⟨rfl, hbw2.trans (hb3.mono hbw2.size)⟩
  | true =>
    rw [show errC st sp de co = 0 from by unfold errC; rw [hok]; rfl] at C
    obtain ⟨o1, o2, o3, o4, o5, o6, o7, o8⟩ := okC_iff.1 hok
    obtain ⟨p1, p2, p3, p4, p5⟩ := iv_props (t := t) hok
    obtain ⟨n, hn⟩ : ∃ n, ivI st sp de co t = n := ⟨_, rfl⟩
    rw [hn] at D p1 p2 p3 p4 p5
    have HC1 := Lib.hid C
    have HD := Lib.hid D
    clear C D hok hn
    obtain ⟨M1, hM1⟩ : ∃ M1, co * sp = M1 := ⟨_, rfl⟩
    obtain ⟨M2, hM2⟩ : ∃ M2, (n - 1) * sp = M2 := ⟨_, rfl⟩
    obtain ⟨M3, hM3⟩ : ∃ M3, n * sp = M3 := ⟨_, rfl⟩
    have bd : ∀ k : Int, 0 ≤ k → k ≤ 65 → 0 ≤ k * sp ∧ k * sp ≤ 73183493944770560 := fun k h1 h2 => by
      obtain ⟨m, rfl⟩ : ∃ m : Nat, k = m := ⟨k.toNat, by omega⟩
      exact mul_bd o3 o4 (by omega)
    have b1 := bd co (by omega) (by omega)
    have b3 := bd n (by omega) (by omega)
    rw [hM1] at b1
    rw [hM3] at b3 p5
    rw [hM2] at p4
    have hw1 : IntKind.i64.wrap (co * sp) = M1 := by rw [hM1]; exact i64_wrap_eq ⟨by omega, by omega⟩
    have hw3 : IntKind.i64.wrap (n * sp) = M3 := by rw [hM3]; exact i64_wrap_eq ⟨by omega, by omega⟩
    have hcn : n = co + 1 → M2 = M1 := fun e => by rw [← hM2, ← hM1, e]; congr 1; omega
    have hw2 : 1 ≤ n → IntKind.i64.wrap ((n - 1) * sp) = M2 ∧ 0 ≤ M2 ∧ M2 ≤ 73183493944770560 := fun h => by
      have b2 := bd (n - 1) (by omega) (by omega)
      rw [hM2] at b2 ⊢
      exact ⟨i64_wrap_eq ⟨by omega, by omega⟩, b2.1, b2.2⟩
    clear hM1 hM2 hM3 bd
    go_enter Tryd.func5, Tryd.ntmps5
    go_wp2_with (fail)
    refine HC1.out.mono ?_
    rintro e w1 ⟨rfl, hb1⟩
    have hbw1 := hb0.trans (hb1.mono hb0.size)
    have c0 : w1.cell? ⟨w.heap.size, 0, none⟩ = some (.int .i64 st) := by rw [hb1.cell (by simp)]; simp
    have c1 : w1.cell? ⟨w.heap.size, 1, none⟩ = some (.int .i64 sp) := by rw [hb1.cell (by simp)]; simp
    have c2 : w1.cell? ⟨w.heap.size, 2, none⟩ = some (.int .i64 de) := by rw [hb1.cell (by simp)]; simp
    have c3 : w1.cell? ⟨w.heap.size, 3, none⟩ = some (.int .i64 co) := by rw [hb1.cell (by simp)]; simp
    have hs1 := hb1.size
    simp at hs1
    clear hb1
    go_wp2_with (fail)
    refine (HD.out _).mono ?_
    rintro e w2 ⟨rfl, hb2⟩
    have hbw2 := hbw1.trans (hb2.mono hbw1.size)
    have d0 : w2.cell? ⟨w.heap.size, 0, none⟩ = some (.int .i64 st) := by rw [hb2.cell (by show w.heap.size < _; omega)]; exact c0
    have d1 : w2.cell? ⟨w.heap.size, 1, none⟩ = some (.int .i64 sp) := by rw [hb2.cell (by show w.heap.size < _; omega)]; exact c1
    have d3 : w2.cell? ⟨w.heap.size, 3, none⟩ = some (.int .i64 co) := by rw [hb2.cell (by show w.heap.size < _; omega)]; exact c3
    have HAW := Lib.hid (awake_any _ (HC.out.below hbw2))
    clear hb2 c0 c1 c2 c3
    by_cases e0 : n = 0
    · subst e0
      have p3' := p3 rfl
      clear p3 p4 p5 hw1 hw2 hw3 hcn
      go_wp2_with (fail)
      refine HAW.out.mono ?_
      rintro e w3 ⟨rfl, hb3⟩
      go_wp2_with (fail)
      go_ret
      exact ⟨rfl, hbw2.trans (hb3.mono hbw2.size)⟩
    · obtain ⟨hw2a, hw2b, hw2c⟩ := hw2 (by omega)
      have p4' := p4 (by omega)
      by_cases e1 : n = co + 1
      · have e2 := hcn e1
        subst e1
        rw [e2] at p4'
        clear p3 p4 p5 hw2 hcn hw2a hw3
        go_wp2_with (fail)
        refine HAW.out.mono ?_
        rintro e w3 ⟨rfl, hb3⟩
        go_wp2_with (fail)
        go_ret
        exact ⟨rfl, hbw2.trans (hb3.mono hbw2.size)⟩
      · have p5' := p5 (by omega)
        clear p3 p4 p5 hw2 hcn hw1
        go_wp2_with (fail)
        refine HAW.out.mono ?_
        rintro e w3 ⟨rfl, hb3⟩
        go_wp2_with (fail)
        go_ret
        exact ⟨rfl, hbw2.trans (hb3.mono hbw2.size)⟩
end Go.Proofs.YtmhgoknbmbicmaaDoor
