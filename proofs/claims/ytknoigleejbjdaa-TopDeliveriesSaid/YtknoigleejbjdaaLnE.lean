/- What link's Arrive returns for a good link. -/
import Derived.Test.YtknoigleejbjdaaLnD
namespace Go.Proofs.Ytknoigleejbjdaa
open Go.RowKit
set_option linter.unusedVariables false
set_option linter.unusedSimpArgs false

theorem fold_in {dir at' : Int} {lo hi : Int} : ∀ (l : List Deed) (d : Int), (lo ≤ d ∧ d ≤ hi) → (∀ q ∈ l, q.a = dir → lo ≤ q.b ∧ q.b ≤ hi) → lo ≤ l.foldl (delS dir at') d ∧ l.foldl (delS dir at') d ≤ hi
  | [], d, h, _ => h
  | q :: r, d, h, hq => by
    rw [List.foldl_cons]
    refine fold_in r _ ?_ (fun x hx => hq x (List.mem_cons_of_mem _ hx))
    unfold delS
    by_cases c : q.k ≤ at' ∧ q.a = dir
    · rw [if_pos c]; exact hq q List.mem_cons_self c.2
    · rw [if_neg c]; exact h
theorem delF_in {k : Lnk} {dir at' : Int} (hG : Good k) : 0 ≤ delF k dir at' ∧ delF k dir at' ≤ 10000000000 := by
  unfold delF
  refine fold_in _ _ ?_ (fun q hq _ => (hG.2.2.2.1 q hq).2.2)
  unfold delB
  split
  · exact hG.1.1
  · exact hG.1.2
theorem varF_in {k : Lnk} {dir : Int} (hG : Good k) : 0 ≤ varF k dir ∧ varF k dir ≤ 10000000000 := by
  unfold varF
  split
  · exact hG.2.1.1
  · exact hG.2.1.2
set_option maxHeartbeats 8000000 in
set_option maxRecDepth 100000 in
theorem arrive_any (k : Lnk) (x : Option Addr) (n c : Nat) (dir at' nn : Int) (w : World) (hD : Deeds w x k.cs) (hl : k.cs.length = n) (hnc : n ≤ c) (hc : c ≤ 9223372036854775807) (hG : Good k) (h1 : InR 1 dir) (h2 : InR 1125899906842624 at') (h3 : InR 1099511627776 nn) : Calls Try.prog 28 #[.agg (lnkVals k x n c), .int .i64 dir, .int .i64 at', .int .i64 nn] w fun e w' => ((e = .returned (.tuple #[.int .i64 0, .bool false]) ∧ 0 < k.lo) ∨ ∃ V, e = .returned (.tuple #[.int .i64 (at' + delF k dir at' + V), .bool true]) ∧ InR (varF k dir) V) ∧ Below w.heap.size w w' := by
  obtain ⟨X0, hX0⟩ : ∃ X, X = w.alloc (lnkObj k x n c) := ⟨_, rfl⟩
  obtain ⟨hb0, hs0, ho0⟩ := lay_lnk hX0
  have HD0 := Lib.hid (hD.below hb0)
  have HCR := Lib.hid (fun (W : World) (hW : Below X0.heap.size X0 W) => right_true k x n c dir at' nn W (HD0.out.below hW) hl hnc hc hG h1 h2 h3)
  have HMX := Lib.hid (fun W => mixed_some k x n c dir nn 0 W)
  have HDL := Lib.hid (fun (W : World) (hW : Below X0.heap.size X0 W) => delay_any k x n c dir at' W (HD0.out.below hW) hl hnc hc hG h1 h2)
  have HNS := Lib.hid (fun (W : World) (hW : Below X0.heap.size X0 W) => noise_some k x n c dir nn W (HD0.out.below hW) hl hnc hc hG h1 h3)
  have HB0 := Lib.hid hb0
  have HO0 := Lib.hid ho0
  have hdF := delF_in (dir := dir) (at' := at') hG
  have hvF := varF_in (dir := dir) hG
  obtain ⟨DF, hDF⟩ : ∃ DF, delF k dir at' = DF := ⟨_, rfl⟩
  obtain ⟨VF, hVF⟩ : ∃ VF, varF k dir = VF := ⟨_, rfl⟩
  rw [hDF] at hdF HDL
  rw [hVF] at hvF HNS
  rw [hDF, hVF]
  obtain ⟨hat0, hat1⟩ := h2
  obtain ⟨d0, d1, v0, v1, lo, se, cs⟩ := k
  obtain ⟨hdF0, hdF1⟩ := hdF
  obtain ⟨hvF0, hvF1⟩ := hvF
  have hx0' : Hid (X0 = w.alloc (.cells #[.int .i64 d0, .int .i64 d1, .int .i64 v0, .int .i64 v1, .int .i64 lo, .int .u64 se, .slice x n c] 59)) := Lib.hid hX0
  have hwd : IntKind.i64.wrap (at' + DF) = at' + DF := i64_wrap_eq ⟨by omega, by omega⟩
  obtain ⟨a00, a01, a02, a03, a04, a05, a06⟩ := ob7 ho0
  clear hD hb0 ho0 hX0 hl hG h1 h3 hDF hVF
  unfold lnkVals at HCR HMX HDL HNS ⊢
  simp only at HCR HMX HDL HNS a00 a01 a02 a03 a04 a05 a06 ⊢
  go_enter Try.func28, Try.ntmps28
  go_wp2_with (fail)
  rw [← hx0'.out]
  go_region_held_law (fun w' => w'.cell? ⟨w.heap.size, 0, none⟩ = some (.int .i64 d0) ∧ w'.cell? ⟨w.heap.size, 1, none⟩ = some (.int .i64 d1) ∧ w'.cell? ⟨w.heap.size, 2, none⟩ = some (.int .i64 v0) ∧ w'.cell? ⟨w.heap.size, 3, none⟩ = some (.int .i64 v1) ∧ w'.cell? ⟨w.heap.size, 4, none⟩ = some (.int .i64 lo) ∧ w'.cell? ⟨w.heap.size, 5, none⟩ = some (.int .u64 se) ∧ w'.cell? ⟨w.heap.size, 6, none⟩ = some (.slice x n c))
    (first | exact ⟨a00, a01, a02, a03, a04, a05, a06⟩ | assumption)
    ((first
      | (go_at_call 35; refine (HCR.out _ (Below.refl _ _).drew).mono ?_; rintro e w1 ⟨rfl, hb1⟩; have hs1 : X0.heap.size ≤ w1.heap.size := hb1.size; have hS1 := ob7d HO0.out hb1; have ho1 : ObAt w1 w.heap.size (lnkObj ⟨d0, d1, v0, v1, lo, se, cs⟩ x n c) := (show ObAt X0.drew _ _ from HO0.out).below hb1; have hB1 : Below X0.heap.size X0 w1 := (Below.refl _ _).drew.trans hb1)
      | (go_at_call 36; refine (HMX.out _).mono ?_; rintro e w2 ⟨⟨M, rfl, hM⟩, hb2⟩; have hS2 := ob7 (ho1.below hb2); have hB2 : Below X0.heap.size X0 w2 := hB1.trans (hb2.mono hs1); have hM0 := hM.1)))
  all_goals
    obtain ⟨R, hR⟩ : ∃ R, IntKind.i64.wrap (M.tmod 1000) = R := ⟨_, rfl⟩
    have hR0 : 0 ≤ R := by rw [← hR]; exact (mod_facts hM0 (by omega) (by omega)).1
    rw [hR]
    have ho2 := ho1.below hb2
    have HB2 := Lib.hid (HB0.out.trans (hB2.mono (by omega)))
    have HO2 := Lib.hid ho2
    have hs2 := hB2.size
    have hB2' := hB2.drew
    clear hR hM hM0 hS1 ho1 hB1 hb2 ho2 hb1
    by_cases hlt : R < lo
    · go_wp2_with (fail)
      go_ret2
      exact ⟨.inl ⟨rfl, by show 0 < lo; omega⟩, HB2.out⟩
    · go_wp2_with (fail)
      go_region_held_law (fun w' => w'.cell? ⟨w.heap.size, 0, none⟩ = some (.int .i64 d0) ∧ w'.cell? ⟨w.heap.size, 1, none⟩ = some (.int .i64 d1) ∧ w'.cell? ⟨w.heap.size, 2, none⟩ = some (.int .i64 v0) ∧ w'.cell? ⟨w.heap.size, 3, none⟩ = some (.int .i64 v1) ∧ w'.cell? ⟨w.heap.size, 4, none⟩ = some (.int .i64 lo) ∧ w'.cell? ⟨w.heap.size, 5, none⟩ = some (.int .u64 se) ∧ w'.cell? ⟨w.heap.size, 6, none⟩ = some (.slice x n c))
        (first | exact hS2 | assumption)
        ((first
          | (go_at_call 37; refine (HDL.out _ hB2').mono ?_; rintro e w3 ⟨rfl, hb3⟩; have hs3 : w2.heap.size ≤ w3.heap.size := hb3.size; have hS3 := ob7d HO2.out hb3; have ho3 : ObAt w3 w.heap.size (lnkObj ⟨d0, d1, v0, v1, lo, se, cs⟩ x n c) := (show ObAt w2.drew _ _ from HO2.out).below hb3; have hB3 : Below X0.heap.size X0 w3 := hB2'.trans (hb3.mono (show X0.heap.size ≤ w2.drew.heap.size from hs2)))
          | (go_at_call 38; refine (HNS.out _ hB3).mono ?_; rintro e w4 ⟨⟨V, rfl, hV⟩, hb4⟩; have hS4 := ob7 (ho3.below hb4); have hB4 : Below X0.heap.size X0 w4 := hB3.trans (hb4.mono (Nat.le_trans hs2 hs3)); have hwv : IntKind.i64.wrap (at' + DF + V) = at' + DF + V := i64_wrap_eq ⟨by have := hV.1; omega, by have := hV.2; omega⟩)))
      all_goals
        have HB4 := Lib.hid (HB0.out.trans (hB4.mono (by omega)))
        have HV := Lib.hid hV
        clear hV hS3 hS4 ho3 hB3 hB4 hb3 hb4
        go_wp2_with (fail)
        go_ret2
        exact ⟨.inr ⟨V, rfl, HV.out⟩, HB4.out⟩
end Go.Proofs.Ytknoigleejbjdaa
