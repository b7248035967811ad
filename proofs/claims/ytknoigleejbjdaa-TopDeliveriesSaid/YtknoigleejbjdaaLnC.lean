/- What link's right, mixed, Noise, Delay return for a good link. -/
import Derived.Test.YtknoigleejbjdaaLnB
namespace Go.Proofs.Ytknoigleejbjdaa
open Go.RowKit
set_option linter.unusedVariables false
set_option linter.unusedSimpArgs false

theorem Deeds.below {w w' : World} {x : Option Addr} {zs : List Deed} (h : Deeds w x zs) (hb : Below w.heap.size w w') : Deeds w' x zs := by
  intro i q hq
  obtain ⟨⟨a, hx, hl, c0, c1, c2⟩, hw⟩ := h i q hq
  exact ⟨⟨a, hx, Nat.lt_of_lt_of_le hl hb.size, by rw [hb.cell (by rw [add_block]; exact hl)]; exact c0, by rw [hb.cell (by rw [add_block]; exact hl)]; exact c1, by rw [hb.cell (by rw [add_block]; exact hl)]; exact c2⟩, hw⟩
theorem lay_lnk {k : Lnk} {x : Option Addr} {n c : Nat} {w X : World} (hX : X = w.alloc (lnkObj k x n c)) : Below w.heap.size w X ∧ X.heap.size = w.heap.size + 1 ∧ ObAt X w.heap.size (lnkObj k x n c) := by
  refine ⟨?_, ?_, ObAt.lay hX⟩
  · rw [hX]; exact (Below.refl _ _).alloc (Nat.le_refl _) _
  · rw [hX]; simp

set_option maxHeartbeats 4000000 in
set_option maxRecDepth 100000 in
theorem right_true (k : Lnk) (x : Option Addr) (n c : Nat) (dir at' nn : Int) (w : World) (hD : Deeds w x k.cs) (hl : k.cs.length = n) (hnc : n ≤ c) (hc : c ≤ 9223372036854775807) (hG : Good k) (h1 : InR 1 dir) (h2 : InR 1125899906842624 at') (h3 : InR 1099511627776 nn) : Calls Try.prog 35 #[.agg (lnkVals k x n c), .int .i64 dir, .int .i64 at', .int .i64 nn] w fun e w' => e = .returned (.bool true) ∧ Below w.heap.size w w' := by
  obtain ⟨X0, hX0⟩ : ∃ X, X = w.alloc (lnkObj k x n c) := ⟨_, rfl⟩
  obtain ⟨hb0, hs0, ho0⟩ := lay_lnk hX0
  have HC := Lib.hid (check_any k x n c X0 (hD.below hb0) hl hnc hc)
  have HG := Lib.hid hG
  have HB0 := Lib.hid hb0
  have H1 := Lib.hid h1
  have H2 := Lib.hid h2
  have H3 := Lib.hid h3
  obtain ⟨d0, d1, v0, v1, lo, se, cs⟩ := k
  have hx0' : Hid (X0 = w.alloc (.cells #[.int .i64 d0, .int .i64 d1, .int .i64 v0, .int .i64 v1, .int .i64 lo, .int .u64 se, .slice x n c] 59)) := Lib.hid hX0
  clear hD hb0 ho0 hX0 hl hG h1 h2 h3
  unfold lnkVals at HC ⊢
  simp only at HC ⊢
  go_enter Try.func35, Try.ntmps35
  go_wp2_with (fail)
  rw [← hx0'.out]
  refine HC.out.mono ?_
  rintro e w1 ⟨⟨E, rfl, hE⟩, hb1⟩
  obtain rfl : E = 0 := hE.2 HG.out
  have HB1 := Lib.hid (HB0.out.trans (hb1.mono (by omega)))
  have hs1 := hb1.size
  clear hb1 hE
  go_wp2_with (fail)
  refine (in_bool _ _ _ _).mono ?_
  rintro e w2 ⟨⟨r, rfl, hr⟩, hb2⟩
  obtain rfl : r = true := hr.2 ⟨H1.out, by omega, by omega⟩
  have HB2 := Lib.hid (HB1.out.trans (hb2.mono (by omega)))
  have hs2 := hb2.size
  clear hb2 hr
  go_wp2_with (fail)
  refine (in_bool _ _ _ _).mono ?_
  rintro e w3 ⟨⟨r, rfl, hr⟩, hb3⟩
  obtain rfl : r = true := hr.2 ⟨H2.out, by omega, by omega⟩
  have HB3 := Lib.hid (HB2.out.trans (hb3.mono (by omega)))
  have hs3 := hb3.size
  clear hb3 hr
  go_wp2_with (fail)
  refine (in_bool _ _ _ _).mono ?_
  rintro e w4 ⟨⟨r, rfl, hr⟩, hb4⟩
  obtain rfl : r = true := hr.2 ⟨H3.out, by omega, by omega⟩
  have HB4 := Lib.hid (HB3.out.trans (hb4.mono (by omega)))
  clear hb4 hr
  go_wp2_with (fail)
  go_ret
  exact ⟨rfl, HB4.out⟩

set_option maxHeartbeats 4000000 in
set_option maxRecDepth 100000 in
theorem mixed_some (k : Lnk) (x : Option Addr) (n c : Nat) (dir nn kind : Int) (w : World) : Calls Try.prog 36 #[.agg (lnkVals k x n c), .int .i64 dir, .int .i64 nn, .int .i64 kind] w fun e w' => (∃ M, e = .returned (.int .u64 M) ∧ U64 M) ∧ Below w.heap.size w w' := by
  have hb0 : Below w.heap.size w (w.alloc (lnkObj k x n c)) := (Below.refl _ _).alloc (Nat.le_refl _) _
  obtain ⟨d0, d1, v0, v1, lo, se, cs⟩ := k
  have HB0 := Lib.hid (show Below w.heap.size w (w.alloc (.cells #[.int .i64 d0, .int .i64 d1, .int .i64 v0, .int .i64 v1, .int .i64 lo, .int .u64 se, .slice x n c] 59)) from hb0)
  clear hb0
  unfold lnkVals
  simp only
  go_enter Try.func36, Try.ntmps36
  go_wp2_with (fail)
  refine (mix_some _ _ _).mono ?_
  rintro e w1 ⟨⟨M, rfl, hM⟩, hb1⟩
  have HB1 := Lib.hid (HB0.out.trans (hb1.mono (by simp)))
  have HM := Lib.hid hM
  clear hb1 hM
  go_wp2_with (fail)
  go_ret
  exact ⟨⟨M, rfl, HM.out⟩, HB1.out⟩
theorem mod_facts {M v : Int} (h0 : 0 ≤ M) (h1 : 0 < v) (h2 : v ≤ 100000000000) : 0 ≤ IntKind.i64.wrap (M.tmod v) ∧ IntKind.i64.wrap (M.tmod v) < v := by
  rw [Int.tmod_eq_emod_of_nonneg h0]
  have a := Int.emod_nonneg M (by omega : v ≠ 0)
  have b := Int.emod_lt_of_pos M h1
  rw [i64_wrap_eq ⟨by omega, by omega⟩]
  exact ⟨a, b⟩
theorem ob7d {w w' : World} {b : Nat} {k : Lnk} {x : Option Addr} {n c : Nat} (h : ObAt w b (lnkObj k x n c)) (hb : Below w.heap.size w.drew w') : w'.cell? ⟨b, 0, none⟩ = some (.int .i64 k.d0) ∧ w'.cell? ⟨b, 1, none⟩ = some (.int .i64 k.d1) ∧ w'.cell? ⟨b, 2, none⟩ = some (.int .i64 k.v0) ∧ w'.cell? ⟨b, 3, none⟩ = some (.int .i64 k.v1) ∧ w'.cell? ⟨b, 4, none⟩ = some (.int .i64 k.lo) ∧ w'.cell? ⟨b, 5, none⟩ = some (.int .u64 k.se) ∧ w'.cell? ⟨b, 6, none⟩ = some (.slice x n c) := ob7 ((show ObAt w.drew b (lnkObj k x n c) from h).below hb)
/-- the greatest additional delay of a direction -/
def varF (k : Lnk) (dir : Int) : Int := if dir = 0 then k.v0 else k.v1
set_option maxHeartbeats 4000000 in
set_option maxRecDepth 100000 in
theorem noise_some (k : Lnk) (x : Option Addr) (n c : Nat) (dir nn : Int) (w : World) (hD : Deeds w x k.cs) (hl : k.cs.length = n) (hnc : n ≤ c) (hc : c ≤ 9223372036854775807) (hG : Good k) (h1 : InR 1 dir) (h3 : InR 1099511627776 nn) : Calls Try.prog 38 #[.agg (lnkVals k x n c), .int .i64 dir, .int .i64 nn] w fun e w' => (∃ V, e = .returned (.int .i64 V) ∧ InR (varF k dir) V) ∧ Below w.heap.size w w' := by
  obtain ⟨X0, hX0⟩ : ∃ X, X = w.alloc (lnkObj k x n c) := ⟨_, rfl⟩
  obtain ⟨hb0, hs0, ho0⟩ := lay_lnk hX0
  have HC := Lib.hid (right_true k x n c dir 0 nn X0 (hD.below hb0) hl hnc hc hG h1 ⟨by omega, by omega⟩ h3)
  have HMX := Lib.hid (fun W => mixed_some k x n c dir nn 1 W)
  have HG := Lib.hid hG
  have HB0 := Lib.hid hb0
  have HO0 := Lib.hid ho0
  have hdir : dir = 0 ∨ dir = 1 := by unfold InR at h1; omega
  obtain ⟨d0, d1, v0, v1, lo, se, cs⟩ := k
  have hv0 := hG.2.1.1
  have hv1 := hG.2.1.2
  simp only at hv0 hv1
  unfold InR at hv0 hv1
  have hx0' : Hid (X0 = w.alloc (.cells #[.int .i64 d0, .int .i64 d1, .int .i64 v0, .int .i64 v1, .int .i64 lo, .int .u64 se, .slice x n c] 59)) := Lib.hid hX0
  have e0 : IntKind.i64.wrap (v0 + 1) = v0 + 1 := i64_wrap_eq ⟨by omega, by omega⟩
  have e1 : IntKind.i64.wrap (v1 + 1) = v1 + 1 := i64_wrap_eq ⟨by omega, by omega⟩
  have e2 : IntKind.u64.wrap (v0 + 1) = v0 + 1 := u64_wrap_eq ⟨by omega, by omega⟩
  have e3 : IntKind.u64.wrap (v1 + 1) = v1 + 1 := u64_wrap_eq ⟨by omega, by omega⟩
  have n0 : ¬ v0 + 1 = 0 := by omega
  have n1 : ¬ v1 + 1 = 0 := by omega
  clear hD hb0 ho0 hX0 hl hG h1 h3
  unfold lnkVals at HC HMX ⊢
  simp only at HC HMX ⊢
  rcases hdir with rfl | rfl
  all_goals
    go_enter Try.func38, Try.ntmps38
    go_wp2_with (fail)
    rw [← hx0'.out]
    refine HC.out.mono ?_
    rintro e w1 ⟨rfl, hb1⟩
    have HB1 := Lib.hid (HB0.out.trans (hb1.mono (by omega)))
    have hs1 := hb1.size
    have ho1 := HO0.out.below hb1
    obtain ⟨a10, a11, a12, a13, a14, a15, a16⟩ := ob7 ho1
    have HO1 := Lib.hid ho1
    clear hb1 ho1
    have hs1' : w.heap.size ≤ w1.heap.size := by omega
    go_wp2_with (fail)
    go_region_held_law (fun w' => w'.cell? ⟨w.heap.size, 0, none⟩ = some (.int .i64 d0) ∧ w'.cell? ⟨w.heap.size, 1, none⟩ = some (.int .i64 d1) ∧ w'.cell? ⟨w.heap.size, 2, none⟩ = some (.int .i64 v0) ∧ w'.cell? ⟨w.heap.size, 3, none⟩ = some (.int .i64 v1) ∧ w'.cell? ⟨w.heap.size, 4, none⟩ = some (.int .i64 lo) ∧ w'.cell? ⟨w.heap.size, 5, none⟩ = some (.int .u64 se) ∧ w'.cell? ⟨w.heap.size, 6, none⟩ = some (.slice x n c))
      (first | exact ⟨a10, a11, a12, a13, a14, a15, a16⟩ | assumption)
      ((first | (go_at_call 36; refine (HMX.out _).mono ?_; rintro e w2 ⟨⟨M, rfl, hM⟩, hb2⟩; have hS2 := ob7d HO1.out hb2; have hM0 := hM.1; have hm0 := mod_facts hM0 (show 0 < v0 + 1 by omega) (by omega); have hm1 := mod_facts hM0 (show 0 < v1 + 1 by omega) (by omega))))
    have HB2 := Lib.hid (HB1.out.drew.trans (hb2.mono hs1'))
    have HM0 := Lib.hid hm0
    have HM1 := Lib.hid hm1
    clear hS2 hb2 hM hm0 hm1
    go_wp2_with (fail)
    go_ret
  · exact ⟨⟨_, rfl, by unfold InR varF; rw [if_pos rfl]; exact ⟨HM0.out.1, by have := HM0.out.2; show _ ≤ v0; omega⟩⟩, HB2.out⟩
  · exact ⟨⟨_, rfl, by unfold InR varF; rw [if_neg (by omega)]; exact ⟨HM1.out.1, by have := HM1.out.2; show _ ≤ v1; omega⟩⟩, HB2.out⟩
end Go.Proofs.Ytknoigleejbjdaa
