/- The law AgendaNobody. -/
import Derived.Test.YtknoigleejbjdaaAgR
namespace Go.Proofs.Ytknoigleejbjdaa
open Go.RowKit
set_option linter.unusedVariables false
set_option linter.unusedSimpArgs false

def IsInt (k : IntKind) (w : World) (v : Value) : Prop := ∃ a : Int, v = .int k a ∧ (Lit.int k a).wf = true
theorem pe0 (at' : Int) : pushErr 0 0 (([] : List Ev).length) at' = if at' < 0 then 3 else 13 := by
  unfold pushErr
  by_cases h : at' < 0
  · rw [if_pos h, if_pos h]
  · rw [if_neg h, if_neg h, if_neg h, if_pos (by simp)]
set_option maxHeartbeats 4000000 in
theorem AgendaNobody_walk (v0 v1 : Value) (w : World) (h0 : IsInt .i64 w v0) (h1 : IsInt .i64 w v1) :
    Calls Try.prog 9 #[v0, v1] w fun e w' => e = .returned (.bool true) ∧ Below w.heap.size w w' := by
  obtain ⟨t, rfl, -⟩ := h0
  obtain ⟨item, rfl, hwf⟩ := h1
  obtain ⟨X0, hX0⟩ : ∃ X, X = w.alloc (.cells #[.int .i64 0, .int .i64 0, .int .i64 0, .slice none 0 0, .map none] 53) := ⟨_, rfl⟩
  have hb0 : Below w.heap.size w X0 := by rw [hX0]; exact (Below.refl _ _).alloc (Nat.le_refl _) _
  have hs0 : X0.heap.size = w.heap.size + 1 := by rw [hX0]; simp
  have hq0 : QS X0 w.heap.size 0 0 0 0 [] (fun b => b = w.heap.size) := by
    rw [hX0]
    exact QS.new (by omega) (by omega) (by simp) (by simp) (by simp) (by simp) (by simp) (by simp) (fun o => by simp)
  obtain ⟨E, hE⟩ : ∃ E : Int, (if t < 0 then (3 : Int) else 13) = E := ⟨_, rfl⟩
  have HQ0 := Lib.hid hq0
  have HB0 := Lib.hid hb0
  have HX0 := Lib.hid hX0
  clear hq0 hb0 hX0
  have HPN := Lib.hid (show ∀ W, QS W w.heap.size 0 0 0 0 [] (fun b => b = w.heap.size) → Calls Try.prog 13 #[.pointer (some ⟨w.heap.size, 0, none⟩), .int .i64 t, .int .i64 item] W fun r w' => r = .returned (.tuple #[.int .i64 0, .int .i64 E]) ∧ Below W.heap.size W w' from fun W hW => by
    have := push_no hW t item (by rw [pe0]; by_cases ht : t < 0 <;> simp [ht])
    rw [pe0, hE] at this
    exact this)
  by_cases ht : t < 0
  all_goals
    first | rw [if_pos ht] at hE | rw [if_neg ht] at hE
    subst hE
    go_enter Try.func9, Try.ntmps9
    go_wp2_with (fail)
    rw [← HX0.out]
    refine (push_nobody _ _ _).mono ?_
    rintro e w1 ⟨rfl, hb1⟩
    have hs1 := hb1.size
    have HB1 := Lib.hid (HB0.out.trans (hb1.mono (by omega)))
    have HQ1 := Lib.hid (HQ0.out.below hb1)
    clear hb1
    go_wp2_with (fail)
    refine (pop_nobody _).mono ?_
    rintro e w2 ⟨rfl, hb2⟩
    have hs2 := hb2.size
    have HB2 := Lib.hid (HB1.out.trans (hb2.mono (by omega)))
    have HQ2 := Lib.hid (HQ1.out.below hb2)
    clear hb2
    obtain ⟨X2, hX2⟩ : ∃ X, X = w2.alloc (.cells #[.int .i64 0, .int .i64 0, .int .i64 0] 30) := ⟨_, rfl⟩
    obtain ⟨b2, hb2⟩ : ∃ b, w2.heap.size = b := ⟨_, rfl⟩
    have hbx2 : Below w2.heap.size w2 X2 := by rw [hX2]; exact (Below.refl _ _).alloc (Nat.le_refl _) _
    have hx2 : X2.heap.size = b2 + 1 := by rw [hX2, ← hb2]; simp
    have HE2 := Lib.hid (show EvAt X2 b2 0 0 0 by rw [← hb2]; exact EvAt.lay hX2)
    have HBX2 := Lib.hid (HB2.out.trans (hbx2.mono (by omega)))
    have HQX2 := Lib.hid (HQ2.out.below hbx2)
    have HX2 := Lib.hid hX2
    clear hbx2 hX2
    go_wp2_with (fail)
    rw [← HX2.out]
    refine (peek_nobody _).mono ?_
    rintro e w3 ⟨rfl, hb3⟩
    have hs3 := hb3.size
    have HB3 := Lib.hid (HBX2.out.trans (hb3.mono (by omega)))
    have HQ3 := Lib.hid (HQX2.out.below hb3)
    have HE3 := Lib.hid (HE2.out.below hb3)
    clear hb3
    obtain ⟨X3, hX3⟩ : ∃ X, X = w3.alloc (.cells #[.int .i64 0, .int .i64 0, .int .i64 0] 30) := ⟨_, rfl⟩
    obtain ⟨b3, hb3⟩ : ∃ b, w3.heap.size = b := ⟨_, rfl⟩
    have hbx3 : Below w3.heap.size w3 X3 := by rw [hX3]; exact (Below.refl _ _).alloc (Nat.le_refl _) _
    have hx3 : X3.heap.size = b3 + 1 := by rw [hX3, ← hb3]; simp
    have HEX3 := Lib.hid (show EvAt X3 b3 0 0 0 by rw [← hb3]; exact EvAt.lay hX3)
    have HE23 := Lib.hid (HE3.out.below hbx3)
    have HBX3 := Lib.hid (HB3.out.trans (hbx3.mono (by omega)))
    have HQX3 := Lib.hid (HQ3.out.below hbx3)
    have HX3 := Lib.hid hX3
    clear hbx3 hX3
    go_wp2_with (fail)
    rw [← HX3.out]
    refine (HPN.out _ HQX3.out).mono ?_
    rintro e w4 ⟨rfl, hb4⟩
    have hs4 := hb4.size
    have HB4 := Lib.hid (HBX3.out.trans (hb4.mono (by omega)))
    have HQ4 := Lib.hid (HQX3.out.below hb4)
    have HE4 := Lib.hid (HEX3.out.below hb4)
    have HE24 := Lib.hid (HE23.out.below hb4)
    clear hb4
    go_wp2_with (fail)
    refine (pop_none HQ4.out).mono ?_
    rintro e w5 ⟨rfl, hb5⟩
    have hs5 := hb5.size
    obtain ⟨X5, hX5⟩ : ∃ X, X = w5.alloc (.cells #[.int .i64 0, .int .i64 0, .int .i64 0] 30) := ⟨_, rfl⟩
    have hbx5 : Below w5.heap.size w5 X5 := by rw [hX5]; exact (Below.refl _ _).alloc (Nat.le_refl _) _
    have hx5 : X5.heap.size = w5.heap.size + 1 := by rw [hX5]; simp
    have HBX5 := Lib.hid ((HB4.out.trans (hb5.mono (by omega))).trans (hbx5.mono (by omega)))
    have HQX5 := Lib.hid ((HQ4.out.below hb5).below hbx5)
    obtain ⟨e30, e31, e32⟩ := ((HE4.out.below hb5).below hbx5).cells
    obtain ⟨e20, e21, e22⟩ := ((HE24.out.below hb5).below hbx5).cells
    rw [hX5] at e30 e31 e32 e20 e21 e22
    have HX5 := Lib.hid hX5
    clear hb5 hX5 hbx5
    go_wp2_with (fail)
    rw [← HX5.out]
    refine (cancel_nobody _ _).mono ?_
    rintro e w6 ⟨rfl, hb6⟩
    have hs6 := hb6.size
    have HB6 := Lib.hid (HBX5.out.trans (hb6.mono (by omega)))
    have HQ6 := Lib.hid (HQX5.out.below hb6)
    clear hb6
    go_wp2_with (fail)
    refine (len_nobody _).mono ?_
    rintro e w7 ⟨rfl, hb7⟩
    have hs7 := hb7.size
    have HB7 := Lib.hid (HB6.out.trans (hb7.mono (by omega)))
    have HQ7 := Lib.hid (HQ6.out.below hb7)
    clear hb7
    go_wp2_with (fail)
    refine (cancel_none HQ7.out item hwf (by simp)).mono ?_
    rintro e w8 ⟨rfl, hb8⟩
    have hs8 := hb8.size
    have HB8 := Lib.hid (HB7.out.trans (hb8.mono (by omega)))
    have HQ8 := Lib.hid (HQ7.out.below hb8)
    clear hb8
    go_wp2_with (fail)
    refine (len_any HQ8.out).mono ?_
    rintro e w9 ⟨rfl, hb9⟩
    have hs9 := hb9.size
    have HB9 := Lib.hid (HB8.out.trans (hb9.mono (by omega)))
    clear hb9
    go_wp2_with (fail)
    refine (awake_true _).mono ?_
    rintro e w10 ⟨rfl, hb10⟩
    have HB10 := Lib.hid (HB9.out.trans (hb10.mono (by omega)))
    clear hb10
    go_wp2_with (fail)
    go_ret
    exact ⟨rfl, HB10.out⟩
end Go.Proofs.Ytknoigleejbjdaa
