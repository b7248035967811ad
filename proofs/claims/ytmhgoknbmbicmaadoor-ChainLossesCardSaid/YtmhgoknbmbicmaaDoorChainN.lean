/- What the laws' own helpers and the reference's Interval return. -/
import Derived.Test.YtmhgoknbmbicmaaDoorChainM
namespace Go.Proofs.YtmhgoknbmbicmaaDoor
open Go.RowKit
set_option linter.unusedVariables false
set_option linter.unusedSimpArgs false

theorem mul_bd {k : Nat} {sp : Int} (h1 : 1 ≤ sp) (h2 : sp ≤ 1125899906842624) (hk : k ≤ 65) : 0 ≤ (k : Int) * sp ∧ (k : Int) * sp ≤ 73183493944770560 := by
  constructor
  · exact Int.mul_nonneg (by omega) (by omega)
  · have := Int.mul_le_mul (show (k : Int) ≤ 65 by omega) h2 (by omega) (by omega)
    omega
theorem iv_end {st sp de co t : Int} {k : Nat} (hok : okC st sp de co = true) (hk : (k : Int) ≤ co + 1) (hlow : k = 0 ∨ st + ((k : Int) - 1) * sp ≤ t) (hend : co < k ∨ t < st + (k : Int) * sp) : ivI st sp de co t = k := by
  obtain ⟨o1, o2, o3, o4, o5, o6, o7, o8⟩ := okC_iff.1 hok
  unfold ivI
  by_cases h : st ≤ t
  · rw [if_pos ⟨hok, h⟩]
    have hsp : 0 < sp := by omega
    rcases hlow with rfl | hlow
    · rcases hend with e | e
      · omega
      · simp at e; omega
    · have hq : (k : Int) - 1 ≤ (t - st) / sp := (Int.le_ediv_iff_mul_le hsp).2 (by omega)
      rcases hend with e | e
      · have : (k : Int) = co + 1 := by omega
        by_cases h2 : (t - st) / sp ≤ co
        · rw [if_pos h2]; omega
        · rw [if_neg h2]; omega
      · have hq2 : (t - st) / sp < k := (Int.ediv_lt_iff_lt_mul hsp).2 (by omega)
        rw [if_pos (by omega)]; omega
  · rw [if_neg (fun q => h q.2)]
    rcases Nat.eq_zero_or_pos k with rfl | h0
    · rfl
    · exfalso
      have q : 0 ≤ ((k : Int) - 1) * sp := Int.mul_nonneg (by omega) (by omega)
      rcases hlow with rfl | hlow <;> omega

set_option maxHeartbeats 2000000 in
theorem rint_any (st sp de co t : Int) (w : World) :
    Calls Tryd.prog 16 #[.agg #[.int .i64 st, .int .i64 sp, .int .i64 de, .int .i64 co], .int .i64 t] w fun e w' => e = .returned (.int .i64 (ivI st sp de co t)) ∧ Below w.heap.size w w' := by
  have hb : Below w.heap.size w (w.alloc (.cells #[.int .i64 st, .int .i64 sp, .int .i64 de, .int .i64 co] 23)) := (Below.refl _ _).alloc (Nat.le_refl _) _
  have C := rcheck_any st sp de co (w.alloc (.cells #[.int .i64 st, .int .i64 sp, .int .i64 de, .int .i64 co] 23))
  by_cases hok : okC st sp de co = true
  · rw [show errC st sp de co = 0 from by unfold errC; rw [if_pos hok]] at C
    obtain ⟨o1, o2, o3, o4, o5, o6, o7, o8⟩ := okC_iff.1 hok
    have HOK := Lib.hid hok
    have HC := Lib.hid C
    clear hok C
    go_enter Tryd.func16, Tryd.ntmps16
    go_wp2_with (fail)
    refine HC.out.mono ?_
    rintro e w1 ⟨rfl, hb1⟩
    have c0 : w1.cell? ⟨w.heap.size, 0, none⟩ = some (.int .i64 st) := by rw [hb1.cell (by simp)]; simp
    have c1 : w1.cell? ⟨w.heap.size, 1, none⟩ = some (.int .i64 sp) := by rw [hb1.cell (by simp)]; simp
    have c3 : w1.cell? ⟨w.heap.size, 3, none⟩ = some (.int .i64 co) := by rw [hb1.cell (by simp)]; simp
    have hbw := hb.trans (hb1.mono (by simp))
    clear hb1
    go_wp2_with (fail)
    go_loopw [5] (fun ki wr => wr = w1 ∧ ∃ k : Nat, (k : Int) ≤ co + 1 ∧ ki = .int .i64 k ∧ (k = 0 ∨ st + ((k : Int) - 1) * sp ≤ t)) (fun ki _ => 66 - (intOf ki).toNat)
    case atStart => exact ⟨rfl, 0, by omega, rfl, .inl rfl⟩
    case round =>
      obtain ⟨rfl, k, hk, rfl, hlow⟩ := hrel
      obtain ⟨m1, m2⟩ := mul_bd (k := k) o3 o4 (by omega)
      obtain ⟨M, hM⟩ : ∃ M, (k : Int) * sp = M := ⟨_, rfl⟩
      have HLOW := Lib.hid hlow
      have HEND : Hid (co < k ∨ t < st + M → ivI st sp de co t = k) := fun h => iv_end HOK.out hk HLOW.out (by rw [hM]; exact h)
      rw [hM] at m1 m2
      have hw1 : IntKind.i64.wrap ((k : Int) * sp) = M := by rw [hM]; exact i64_wrap_eq ⟨by omega, by omega⟩
      have hw2 : IntKind.i64.wrap (st + M) = st + M := i64_wrap_eq ⟨by omega, by omega⟩
      clear hlow
      by_cases h1 : (k : Int) ≤ co
      · have d1 : decide ((k : Int) ≤ co) = true := decide_eq_true h1
        by_cases h2 : st + M ≤ t
        · have hnext : st + (((k + 1 : Nat) : Int) - 1) * sp ≤ t := by
            rw [show ((k + 1 : Nat) : Int) - 1 = k by omega, hM]; exact h2
          have HN := Lib.hid hnext
          clear hnext
          have hMM := Lib.hid hM
          clear hM
          go_wp2_with (fail)
          go_roundw
          case rel => exact ⟨trivial, k + 1, by omega, by go_num, .inr HN.out⟩
          case measure => simp [intOf]; omega
        · have he := HEND.out (.inr (by omega))
          have HE := Lib.hid he
          have hMM := Lib.hid hM
          clear hM he
          go_wp2_with (fail)
          go_ret
          exact ⟨by rw [HE.out]; rfl, hbw⟩
      · have d1 : decide ((k : Int) ≤ co) = false := decide_eq_false h1
        have he := HEND.out (.inl (by omega))
        have HE := Lib.hid he
        have hMM := Lib.hid hM
        clear hM he
        go_wp2_with (fail)
        go_ret
        exact ⟨by rw [HE.out]; rfl, hbw⟩
  · rw [show errC st sp de co = 3 from by unfold errC; rw [if_neg hok]] at C
    have HR : Hid (ivI st sp de co t = 0) := by show _ = _; unfold ivI; rw [if_neg (fun h => hok h.1)]
    clear hok
    go_enter Tryd.func16, Tryd.ntmps16
    go_wp2_with (fail)
    refine C.mono ?_
    rintro e w1 ⟨rfl, hb1⟩
    go_wp2_with (fail)
    go_ret
    exact ⟨by rw [HR.out]; rfl, hb.trans (hb1.mono (by simp))⟩

theorem same_nil (w : World) : Calls Tryd.prog 12 #[.slice none 0 0, .slice none 0 0] w fun e w' => e = .returned (.bool true) ∧ w = w' := by
  go_enter Tryd.func12, Tryd.ntmps12
  go_wp2_with (fail)
  go_loopw [5] (fun ki wr => wr = w ∧ ki = .int .i64 0) (fun ki _ => 0)
  case atStart => exact ⟨rfl, rfl⟩
  case round =>
    obtain ⟨rfl, rfl⟩ := hrel
    go_wp2_with (fail)
    go_ret
    exact ⟨rfl, rfl⟩

set_option maxHeartbeats 2000000 in
theorem same_true (g1 g2 n c1 c2 : Nat) (K : Nat → Int × Int) (w : World) (h1 : Keys w w.heap.size ⟨g1, 0, none⟩ n K) (h2 : Keys w w.heap.size ⟨g2, 0, none⟩ n K) (hn : n ≤ 1000) :
    Calls Tryd.prog 12 #[.slice (some ⟨g1, 0, none⟩) n c1, .slice (some ⟨g2, 0, none⟩) n c2] w fun e w' => e = .returned (.bool true) ∧ Below w.heap.size w w' := by
  have H1 := Lib.hid h1
  have H2 := Lib.hid h2
  clear h1 h2
  go_enter Tryd.func12, Tryd.ntmps12
  go_wp2_with (fail)
  go_loopw [5] (fun ki wr => Below w.heap.size w wr ∧ ∃ k : Nat, k ≤ n ∧ ki = .int .i64 k) (fun ki _ => n - (intOf ki).toNat)
  case atStart => exact ⟨Below.refl _ _, 0, by omega, rfl⟩
  case round =>
    obtain ⟨hb, k, hk, rfl⟩ := hrel
    by_cases hlt : k < n
    · obtain ⟨x0, x1⟩ := (H1.out.below (Nat.le_refl _) hb).2 k hlt
      obtain ⟨y0, y1⟩ := (H2.out.below (Nat.le_refl _) hb).2 k hlt
      simp only [Nat.zero_add] at x0 x1 y0 y1
      obtain ⟨ka, hka⟩ : ∃ ka, (K k).1 = ka := ⟨_, rfl⟩
      obtain ⟨kb, hkb⟩ : ∃ kb, (K k).2 = kb := ⟨_, rfl⟩
      rw [hka] at x0 y0
      rw [hkb] at x1 y1
      clear hka hkb
      go_wp2_with (fail)
      go_quiet (fail)
      go_wp2_with (fail)
      go_roundw
      case rel => exact ⟨below_drewN hb nq, k + 1, by omega, by go_num⟩
      case measure => simp [intOf]; omega
    · obtain rfl : k = n := by omega
      go_wp2_with (fail)
      go_ret
      exact ⟨rfl, hb⟩

set_option maxHeartbeats 2000000 in
theorem equal_true (x1 x2 : Option Addr) (n c1 c2 : Nat) (b : List Int) (w : World) (h1 : Ints .u8 w w.heap.size x1 b) (h2 : Ints .u8 w w.heap.size x2 b) (hl : b.length = n) (hn : n ≤ 1000000) :
    Calls Tryd.prog 32 #[.slice x1 n c1, .slice x2 n c2] w fun e w' => e = .returned (.bool true) ∧ Below w.heap.size w w' := by
  have H1 := Lib.hid h1
  have H2 := Lib.hid h2
  have HL := Lib.hid hl
  clear h1 h2 hl
  go_enter Tryd.func32, Tryd.ntmps32
  go_wp2_with (fail)
  go_loopw [5] (fun ki wr => Below w.heap.size w wr ∧ ∃ k : Nat, k ≤ n ∧ ki = .int .i64 k) (fun ki _ => n - (intOf ki).toNat)
  case atStart => exact ⟨Below.refl _ _, 0, by omega, rfl⟩
  case round =>
    obtain ⟨hb, k, hk, rfl⟩ := hrel
    by_cases hlt : k < n
    · obtain ⟨a1, rfl, hl1, hc1⟩ := H1.out k (by rw [HL.out]; exact hlt)
      obtain ⟨a2, rfl, hl2, hc2⟩ := H2.out k (by rw [HL.out]; exact hlt)
      have d1 : wr.cell? (a1.add k) = some (.int .u8 (b.getD k 0)) := by rw [hb.cell (by unfold Addr.add; split <;> exact hl1)]; exact hc1
      have d2 : wr.cell? (a2.add k) = some (.int .u8 (b.getD k 0)) := by rw [hb.cell (by unfold Addr.add; split <;> exact hl2)]; exact hc2
      obtain ⟨y, hy⟩ : ∃ y, b.getD k 0 = y := ⟨_, rfl⟩
      rw [hy] at d1 d2
      clear hc1 hc2 hy
      go_wp2_with (fail)
      go_quiet (fail)
      go_wp2_with (fail)
      go_roundw
      case rel => exact ⟨below_drewN hb nq, k + 1, by omega, by go_num⟩
      case measure => simp [intOf]; omega
    · obtain rfl : k = n := by omega
      go_wp2_with (fail)
      go_ret
      exact ⟨rfl, hb⟩
end Go.Proofs.YtmhgoknbmbicmaaDoor
