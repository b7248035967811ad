/- The law ChainMakes. -/
import Derived.Test.YtmhgoknbmbicmaaDoorChainT
namespace Go.Proofs.YtmhgoknbmbicmaaDoor
open Go.RowKit
set_option linter.unusedVariables false
set_option linter.unusedSimpArgs false

theorem stepC {w W w' : World} {C : Nat} {x0 x1 x2 x3 : Value} (hb : Below W.heap.size W w')
    (h : W.cell? ⟨C, 0, none⟩ = some x0 ∧ W.cell? ⟨C, 1, none⟩ = some x1 ∧ W.cell? ⟨C, 2, none⟩ = some x2 ∧ W.cell? ⟨C, 3, none⟩ = some x3 ∧ ConfAt W ∧ Below w.heap.size w W) :
    w'.cell? ⟨C, 0, none⟩ = some x0 ∧ w'.cell? ⟨C, 1, none⟩ = some x1 ∧ w'.cell? ⟨C, 2, none⟩ = some x2 ∧ w'.cell? ⟨C, 3, none⟩ = some x3 ∧ ConfAt w' ∧ Below w.heap.size w w' := by
  obtain ⟨h0, h1, h2, h3, h4, h5⟩ := h
  have hC : C < W.heap.size := cells_lt' h0
  exact ⟨by rw [hb.cell (by exact hC)]; exact h0, by rw [hb.cell (by exact hC)]; exact h1, by rw [hb.cell (by exact hC)]; exact h2, by rw [hb.cell (by exact hC)]; exact h3, h4.below hb, h5.trans (hb.mono h5.size)⟩
theorem confS {w W : World} {C : Nat} {x0 x1 x2 x3 : Value}
    (h : W.cell? ⟨C, 0, none⟩ = some x0 ∧ W.cell? ⟨C, 1, none⟩ = some x1 ∧ W.cell? ⟨C, 2, none⟩ = some x2 ∧ W.cell? ⟨C, 3, none⟩ = some x3 ∧ ConfAt W ∧ Below w.heap.size w W) : ConfAt W := h.2.2.2.2.1
theorem Keys.upto {W w' : World} {a : Addr} {n : Nat} {K : Nat → Int × Int} (h : Keys W W.heap.size a n K) (hb : Below W.heap.size W w') : Keys w' w'.heap.size a n K :=
  ⟨Nat.lt_of_lt_of_le h.1 hb.size, (h.below (Nat.le_refl _) hb).2⟩

set_option maxHeartbeats 8000000 in
theorem ChainMakes_walk (v0 v1 v2 : Value) (w : World) (h0 : IsConf w v0) (h1 : IsInt .u64 w v1) (h2 : IsInt .i64 w v2) (hc : ConfAt w) :
    Calls Tryd.prog 3 #[v0, v1, v2] w fun e w' => e = .returned (.bool true) ∧ Below w.heap.size w w' := by
  obtain ⟨st, sp, de, co, rfl, -, -, -, hco⟩ := h0
  obtain ⟨seed, rfl, -⟩ := h1
  obtain ⟨t, rfl, ht⟩ := h2
  have ht' := (wf_i64 ht).2
  have hb0 : Below w.heap.size w (w.alloc (.cells #[.int .i64 st, .int .i64 sp, .int .i64 de, .int .i64 co] 23)) := (Below.refl _ _).alloc (Nat.le_refl _) _
  have hS : (w.alloc (.cells #[.int .i64 st, .int .i64 sp, .int .i64 de, .int .i64 co] 23)).drew.cell? ⟨w.heap.size, 0, none⟩ = some (.int .i64 st) ∧ (w.alloc (.cells #[.int .i64 st, .int .i64 sp, .int .i64 de, .int .i64 co] 23)).drew.cell? ⟨w.heap.size, 1, none⟩ = some (.int .i64 sp) ∧ (w.alloc (.cells #[.int .i64 st, .int .i64 sp, .int .i64 de, .int .i64 co] 23)).drew.cell? ⟨w.heap.size, 2, none⟩ = some (.int .i64 de) ∧ (w.alloc (.cells #[.int .i64 st, .int .i64 sp, .int .i64 de, .int .i64 co] 23)).drew.cell? ⟨w.heap.size, 3, none⟩ = some (.int .i64 co) ∧ ConfAt (w.alloc (.cells #[.int .i64 st, .int .i64 sp, .int .i64 de, .int .i64 co] 23)).drew ∧ Below w.heap.size w (w.alloc (.cells #[.int .i64 st, .int .i64 sp, .int .i64 de, .int .i64 co] 23)).drew :=
    ⟨by simp, by simp, by simp, by simp, hc.below hb0.drew, hb0.drew⟩
  clear hc ht hco hb0
  obtain ⟨E, hE⟩ : ∃ E, errC st sp de co = E := ⟨_, rfl⟩
  obtain ⟨V, hV⟩ : ∃ V, ivI st sp de co t = V := ⟨_, rfl⟩
  have C1 : ∀ W, Calls Tryd.prog 10 #[.agg #[.int .i64 st, .int .i64 sp, .int .i64 de, .int .i64 co]] W fun e w' => e = .returned (.int .i64 E) ∧ Below W.heap.size W w' := fun W => by rw [← hE]; exact pcheck_any st sp de co W
  have C2 : ∀ W, Calls Tryd.prog 11 #[.agg #[.int .i64 st, .int .i64 sp, .int .i64 de, .int .i64 co]] W fun e w' => e = .returned (.int .i64 E) ∧ Below W.heap.size W w' := fun W => by rw [← hE]; exact rcheck_any st sp de co W
  have C3 : ∀ W, Calls Tryd.prog 15 #[.agg #[.int .i64 st, .int .i64 sp, .int .i64 de, .int .i64 co], .int .i64 t] W fun e w' => e = .returned (.int .i64 V) ∧ Below W.heap.size W w' := fun W => by rw [← hV]; exact piv_any st sp de co t W ht'
  have C4 : ∀ W, Calls Tryd.prog 16 #[.agg #[.int .i64 st, .int .i64 sp, .int .i64 de, .int .i64 co], .int .i64 t] W fun e w' => e = .returned (.int .i64 V) ∧ Below W.heap.size W w' := fun W => by rw [← hV]; exact rint_any st sp de co t W
  have H1 := Lib.hid C1
  have H2 := Lib.hid C2
  have H3 := Lib.hid C3
  have H4 := Lib.hid C4
  clear C1 C2 C3 C4 hE hV
  by_cases hm : co < 1 ∨ 64 < co
  · have HM := Lib.hid hm
    clear hm
    go_enter Tryd.func3, Tryd.ntmps3
    go_wp2_with (fail)
    go_region_held_law (fun w' => w'.cell? ⟨w.heap.size, 0, none⟩ = some (.int .i64 st) ∧ w'.cell? ⟨w.heap.size, 1, none⟩ = some (.int .i64 sp) ∧ w'.cell? ⟨w.heap.size, 2, none⟩ = some (.int .i64 de) ∧ w'.cell? ⟨w.heap.size, 3, none⟩ = some (.int .i64 co) ∧ ConfAt w' ∧ Below w.heap.size w w')
      (first | exact hS | assumption)
      ((first
        | (go_at_call 10; refine (H1.out _).mono ?_; rintro e w1 ⟨rfl, hb1⟩; have s1 := stepC hb1 (by assumption))
        | (go_at_call 11; refine (H2.out _).mono ?_; rintro e w2 ⟨rfl, hb2⟩; have s2 := stepC hb2 (by assumption))
        | (go_at_call 13; refine (make_none seed co _ HM.out).mono ?_; rintro e w3 ⟨rfl, rfl⟩)
        | (go_at_call 14; refine (rmake_none seed co _ HM.out).mono ?_; rintro e w4 ⟨rfl, rfl⟩)
        | (go_at_call 12; refine (same_nil _).mono ?_; rintro e w5 ⟨rfl, rfl⟩)
        | (go_at_call 15; refine (H3.out _).mono ?_; rintro e w6 ⟨rfl, hb6⟩; have s6 := stepC hb6 (by assumption))
        | (go_at_call 16; refine (H4.out _).mono ?_; rintro e w7 ⟨rfl, hb7⟩; have s7 := stepC hb7 (by assumption))
        | (go_at_call 17; refine (awake_any _ (confS (by assumption))).mono ?_; rintro e w8 ⟨rfl, hb8⟩; have s8 := stepC hb8 (by assumption))))
    all_goals
      go_wp2_with (fail)
      go_ret
      exact ⟨rfl, s8.2.2.2.2.2⟩
  · obtain ⟨n, rfl⟩ : ∃ n : Nat, co = n := ⟨co.toNat, by omega⟩
    have hn1 : 1 ≤ n := by omega
    have hn2 : n ≤ 64 := by omega
    have hn3 : n + 1 ≤ 1000 := by omega
    clear hm
    go_enter Tryd.func3, Tryd.ntmps3
    go_wp2_with (fail)
    go_region_held_law (fun w' => w'.cell? ⟨w.heap.size, 0, none⟩ = some (.int .i64 st) ∧ w'.cell? ⟨w.heap.size, 1, none⟩ = some (.int .i64 sp) ∧ w'.cell? ⟨w.heap.size, 2, none⟩ = some (.int .i64 de) ∧ w'.cell? ⟨w.heap.size, 3, none⟩ = some (.int .i64 (n : Int)) ∧ ConfAt w' ∧ Below w.heap.size w w')
      (first | exact hS | assumption)
      ((first
        | (go_at_call 10; refine (H1.out _).mono ?_; rintro e w1 ⟨rfl, hb1⟩; have s1 := stepC hb1 (by assumption))
        | (go_at_call 11; refine (H2.out _).mono ?_; rintro e w2 ⟨rfl, hb2⟩; have s2 := stepC hb2 (by assumption))
        | (go_at_call 13; refine (make_some seed n _ hn1 hn2).mono ?_; rintro e w3 ⟨g1, rfl, q1, hk1, hb3⟩; have s3 := stepC hb3 (by assumption); have hk2 := Lib.hid hk1; clear hk1)
        | (go_at_call 14; refine (rmake_some seed n _ hn1 hn2).mono ?_; rintro e w4 ⟨g2, cap2, rfl, q2, q3, q4, hk3, hb4⟩; have s4 := stepC hb4 (by assumption); have hk5 := Lib.hid (Keys.upto (hk2.out) hb4); have hk4 := Lib.hid hk3; clear hk3)
        | (go_at_call 12; refine (same_true _ _ _ _ _ (keyI seed n) _ hk5.out hk4.out hn3).mono ?_; rintro e w5 ⟨rfl, hb5⟩; have s5 := stepC hb5 (by assumption))
        | (go_at_call 15; refine (H3.out _).mono ?_; rintro e w6 ⟨rfl, hb6⟩; have s6 := stepC hb6 (by assumption))
        | (go_at_call 16; refine (H4.out _).mono ?_; rintro e w7 ⟨rfl, hb7⟩; have s7 := stepC hb7 (by assumption))
        | (go_at_call 17; refine (awake_any _ (confS (by assumption))).mono ?_; rintro e w8 ⟨rfl, hb8⟩; have s8 := stepC hb8 (by assumption))))
    all_goals
      go_wp2_with (fail)
      go_ret
      exact ⟨rfl, s8.2.2.2.2.2⟩
end Go.Proofs.YtmhgoknbmbicmaaDoor
