/- The law ChainDerives. -/
import Derived.Test.YtmhgoknbmbicmaaDoorChainS
namespace Go.Proofs.YtmhgoknbmbicmaaDoor
open Go.RowKit
set_option linter.unusedVariables false
set_option linter.unusedSimpArgs false

theorem four_step {w w' : World} {B G o0 o1 o2 o3 : Nat} {x0 x1 x2 x3 : Value} (hb : Below B w w') (hG : G < B)
    (h : w.cell? ⟨G, o0, none⟩ = some x0 ∧ w.cell? ⟨G, o1, none⟩ = some x1 ∧ w.cell? ⟨G, o2, none⟩ = some x2 ∧ w.cell? ⟨G, o3, none⟩ = some x3) :
    w'.cell? ⟨G, o0, none⟩ = some x0 ∧ w'.cell? ⟨G, o1, none⟩ = some x1 ∧ w'.cell? ⟨G, o2, none⟩ = some x2 ∧ w'.cell? ⟨G, o3, none⟩ = some x3 := by
  obtain ⟨h0, h1, h2, h3⟩ := h
  exact ⟨by rw [hb.cell (by exact hG)]; exact h0, by rw [hb.cell (by exact hG)]; exact h1, by rw [hb.cell (by exact hG)]; exact h2, by rw [hb.cell (by exact hG)]; exact h3⟩

set_option maxHeartbeats 4000000 in
theorem ChainDerives_walk (v0 v1 : Value) (w : World) (h0 : IsInt .u64 w v0) (h1 : IsInt .i64 w v1) (hc : ConfAt w) :
    Calls Tryd.prog 4 #[v0, v1] w fun e w' => e = .returned (.bool true) ∧ Below w.heap.size w w' := by
  obtain ⟨seed, rfl, -⟩ := h0
  obtain ⟨m, rfl, -⟩ := h1
  have HC := Lib.hid hc
  clear hc
  by_cases hm : m < 1 ∨ 64 < m
  · have HM := Lib.hid (make_none seed m w hm)
    have HA := Lib.hid (awake_any w HC.out)
    by_cases h1 : m < 1
    · clear hm
      go_enter Tryd.func4, Tryd.ntmps4
      go_wp2_with (fail)
      refine HM.out.mono ?_
      rintro e w1 ⟨rfl, rfl⟩
      go_wp2_with (fail)
      refine HA.out.mono ?_
      rintro e w1 ⟨rfl, hb1⟩
      go_wp2_with (fail)
      go_ret
      exact ⟨rfl, hb1⟩
    · have h2 : 64 < m := by omega
      clear hm
      go_enter Tryd.func4, Tryd.ntmps4
      go_wp2_with (fail)
      refine HM.out.mono ?_
      rintro e w1 ⟨rfl, rfl⟩
      go_wp2_with (fail)
      refine HA.out.mono ?_
      rintro e w1 ⟨rfl, hb1⟩
      go_wp2_with (fail)
      go_ret
      exact ⟨rfl, hb1⟩
  · obtain ⟨n, rfl⟩ : ∃ n : Nat, m = n := ⟨m.toNat, by omega⟩
    have hn1 : 1 ≤ n := by omega
    have hn2 : n ≤ 64 := by omega
    have h1 : ¬ (n : Int) < 1 := by omega
    have h2 : ¬ 64 < (n : Int) := by omega
    have HM := Lib.hid (make_some seed n w hn1 hn2)
    clear hm
    go_enter Tryd.func4, Tryd.ntmps4
    go_wp2_with (fail)
    refine HM.out.mono ?_
    rintro e w1 ⟨g, rfl, hg, hk, hb1⟩
    have HK := Lib.hid hk
    clear hk
    go_wp2_with (fail)
    go_loopw [6] (fun ki wr => Below w1.heap.size w1 wr ∧ ∃ k : Nat, k ≤ n ∧ ki = .int .i64 k) (fun ki _ => n - (intOf ki).toNat)
    case atStart => exact ⟨Below.refl _ _, 0, by omega, rfl⟩
    case round =>
      obtain ⟨hb, k, hkn, rfl⟩ := hrel
      have hbw := hb1.trans (hb.mono hb1.size)
      by_cases hlt : k < n
      · obtain ⟨x0, x1⟩ := (HK.out.below (Nat.le_refl _) hb).2 k (by omega)
        obtain ⟨y0, y1⟩ := (HK.out.below (Nat.le_refl _) hb).2 (k + 1) (by omega)
        simp only [Nat.zero_add] at x0 x1 y0 y1
        have hgr : g < wr.heap.size := Nat.lt_of_lt_of_le HK.out.1 hb.size
        have hbelow := keyI_below seed n k (by omega)
        obtain ⟨ka, kb, hkk⟩ := pair_ex (keyI seed n (k + 1))
        rw [hkk] at y0 y1 hbelow
        rw [hbelow] at x0 x1
        obtain ⟨ba, hba⟩ : ∃ ba, (belowI (ka, kb)).1 = ba := ⟨_, rfl⟩
        obtain ⟨bb, hbb⟩ : ∃ bb, (belowI (ka, kb)).2 = bb := ⟨_, rfl⟩
        rw [hba] at x0
        rw [hbb] at x1
        have kc : Sem.run Tryd.prog (convert 36 36 (.slice (some ⟨wr.heap.size, 0, none⟩) 4 4)) (wr.alloc (.cells #[.int .u8 100, .int .u8 111, .int .u8 119, .int .u8 110] 5)).drew = .ok (.slice (some ⟨wr.heap.size, 0, none⟩) 4 4) (wr.alloc (.cells #[.int .u8 100, .int .u8 111, .int .u8 119, .int .u8 110] 5 (4, 5))).drew := Lib.run_convert_bytes_const (P := Tryd.prog) wr.drew 36 5 #[.int .u8 100, .int .u8 111, .int .u8 119, .int .u8 110] 4 4 Tryd.underlying36 Tryd.underlying5
        have hd : Ints .u8 (wr.alloc (.cells #[.int .u8 100, .int .u8 111, .int .u8 119, .int .u8 110] 5 (4, 5))).drew (wr.heap.size + 1) (some ⟨wr.heap.size, 0, none⟩) down := Ints.lit .u8 wr.drew down 5 (4, 5)
        have hbY : Below wr.heap.size wr (wr.alloc (.cells #[.int .u8 100, .int .u8 111, .int .u8 119, .int .u8 110] 5 (4, 5))).drew := ((Below.refl _ _).alloc (Nat.le_refl _) _).drew
        have CD := pderive_any ka kb (some ⟨wr.heap.size, 0, none⟩) 4 4 down _ (hd.mono (by simp)) down_bytes rfl (Nat.le_refl _) (by omega)
        rw [show der0 ka kb down = ba from hba, show der1 ka kb down = bb from hbb] at CD
        have HCD := Lib.hid CD
        have h4 : wr.cell? ⟨g, k * 2, none⟩ = some (.int .u64 ba) ∧ wr.cell? ⟨g, k * 2 + 1, none⟩ = some (.int .u64 bb) ∧ wr.cell? ⟨g, (k + 1) * 2, none⟩ = some (.int .u64 ka) ∧ wr.cell? ⟨g, (k + 1) * 2 + 1, none⟩ = some (.int .u64 kb) := ⟨x0, x1, y0, y1⟩
        have h5 := four_step (Below.refl wr.heap.size wr).drew hgr h4
        have h6 := four_step ((Below.refl wr.heap.size wr).alloc (Nat.le_refl _) (.cells #[.int .u8 100, .int .u8 111, .int .u8 119, .int .u8 110] 5)).drew hgr h4
        have h7 := four_step hbY hgr h4
        have hYs : g < (wr.alloc (.cells #[.int .u8 100, .int .u8 111, .int .u8 119, .int .u8 110] 5 (4, 5))).drew.heap.size := by simp; omega
        have HBY := Lib.hid hbY
        have hi0 : (0 : Int) ≤ (k : Int) + 1 := by omega
        have hi1 : (k : Int) + 1 < (n : Int) + 1 := by omega
        have hi2 : (k : Int) < (n : Int) + 1 := by omega
        have hiw : IntKind.i64.wrap ((k : Int) + 1) = (k : Int) + 1 := i64_wrap_eq ⟨by omega, by omega⟩
        have hit : ((k : Int) + 1).toNat = k + 1 := by omega
        clear CD hd hba hbb hkk hbelow x0 x1 y0 y1 hbY
        go_wp2_with (fail)
        go_region_held_law (fun w' => w'.cell? ⟨g, k * 2, none⟩ = some (.int .u64 ba) ∧ w'.cell? ⟨g, k * 2 + 1, none⟩ = some (.int .u64 bb) ∧ w'.cell? ⟨g, (k + 1) * 2, none⟩ = some (.int .u64 ka) ∧ w'.cell? ⟨g, (k + 1) * 2 + 1, none⟩ = some (.int .u64 kb))
          (first | exact h5 | exact h6 | exact h7 | assumption)
          ((first | (go_at_call 18; refine HCD.out.mono ?_; rintro e w2 ⟨rfl, hb2⟩; have h8 := four_step hb2 hYs h7; have hbw2 := hb.trans ((HBY.out.trans (hb2.mono HBY.out.size)).mono hb.size))))
        all_goals
          go_wp2_with (fail)
          go_roundw
          case rel => exact ⟨hbw2, k + 1, by omega, by go_num⟩
          case measure => simp [intOf]; omega
      · obtain rfl : k = n := by omega
        go_wp2_with (fail)
        refine (awake_any _ (HC.out.below hbw)).mono ?_
        rintro e w3 ⟨rfl, hb3⟩
        go_wp2_with (fail)
        go_ret
        exact ⟨rfl, hbw.trans (hb3.mono hbw.size)⟩
end Go.Proofs.YtmhgoknbmbicmaaDoor
