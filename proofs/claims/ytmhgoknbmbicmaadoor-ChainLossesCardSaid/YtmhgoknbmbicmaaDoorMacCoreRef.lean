/- What the reference of package mac returns. -/
import Derived.Test.YtmhgoknbmbicmaaDoorMacCore
namespace Go.Proofs.YtmhgoknbmbicmaaDoor
open Go.RowKit
set_option linter.unusedVariables false
set_option linter.unusedSimpArgs false

set_option maxHeartbeats 400000 in
theorem rmix_any (a b : Int) (w : World) :
    Calls Tryd.prog 29 #[.int .u64 a, .int .u64 b] w fun e w' => e = .returned (.int .u64 (mxi a b)) ∧ w = w' := by
  go_enter Tryd.func29, Tryd.ntmps29
  go_wp2
  go_ret
  exact ⟨by rw [mxi_eq]; rfl, rfl⟩

set_option maxHeartbeats 400000 in
theorem rtag_any (k0 k1 : Int) (x : Option Addr) (n c : Nat) (ys : List Int) (w : World) (hy : Ints .u8 w w.heap.size x ys) (hby : Bytes ys) (hl : ys.length = n) (hnc : n ≤ c) (hcl : n ≤ 4611686018427387904) :
    Calls Tryd.prog 30 #[.agg #[.int .u64 k0, .int .u64 k1], .slice x n c] w fun e w' => e = .returned (.int .u64 (tagI k0 k1 ys)) ∧ Below w.heap.size w w' := by
  have HL := Lib.hid hl
  clear hl
  have HT : Hid (tagI k0 k1 ys = mxi ((wordsOf ys).foldl mxi (mxi k0 k1)) n) := by rw [← HL.out]; exact rfl
  go_enter Tryd.func30, Tryd.ntmps30
  go_wp2_with (fail)
  refine (rmix_any _ _ _).mono ?_
  rintro e w1 ⟨rfl, rfl⟩
  go_wp2_with (fail)
  go_loopw [5, 6] (fun h i wr => ∃ (k : Nat) (hv : Int), k ≤ n + 7 ∧ i = .int .i64 k ∧ h = .int .u64 hv ∧ (wordsOf (ys.drop k)).foldl mxi hv = (wordsOf ys).foldl mxi (mxi k0 k1) ∧ Below w.heap.size w wr) (fun _ i wr => n + 7 - (intOf i).toNat)
  case atStart => exact ⟨0, mxi k0 k1, by omega, rfl, rfl, by simp, (Below.refl _ _).alloc (Nat.le_refl _) _⟩
  case round =>
    obtain ⟨k, hv, hk, rfl, rfl, hH, hb⟩ := hrel
    have HH := Lib.hid hH
    clear hH
    by_cases hlt : k < n
    · obtain ⟨wo, rfl⟩ : ∃ wo : World, wo = wr := ⟨_, rfl⟩
      have hby' := hby.drop k
      have hne : ys.drop k ≠ [] := by
        intro h0
        have := congrArg List.length h0
        rw [List.length_drop, HL.out] at this; simp at this; omega
      have HC := Lib.hid (wordsOf_cons hne)
      clear hne
      go_wp2_with (fail)
      go_loop [7, 8] (fun u i => ∃ j : Nat, j ≤ 8 ∧ k + j ≤ n ∧ i = .int .i64 j ∧ u = .int .u64 (wordOf ((ys.drop k).take j))) (fun _ i => 8 - (intOf i).toNat)
      case atStart => exact ⟨0, by omega, by omega, rfl, rfl⟩
      case round =>
        obtain ⟨j, hj, hjn, rfl, rfl⟩ := hrel
        by_cases h1 : j < 8
        · by_cases h2 : k + j < n
          · obtain ⟨a, ha, hab, hcell⟩ := hy (k + j) (by rw [HL.out]; omega)
            subst ha
            obtain ⟨v, hv'⟩ : ∃ v, ys.getD (k + j) 0 = v := ⟨_, rfl⟩
            rw [hv'] at hcell
            have hcell' : wo.cell? (a.add (k + j)) = some (.int .u8 v) := by
              rw [hb.cell (p := a.add (k + j)) (by unfold Addr.add; split <;> first | omega | (simp; omega))]; exact hcell
            clear hcell
            have HS := Lib.hid (add_step (ys.drop k) hby' j v (by rw [List.getD_eq_getElem?_getD, List.getElem?_drop, ← List.getD_eq_getElem?_getD]; exact hv') (by rw [List.length_drop, HL.out]; omega) h1)
            clear hv'
            go_wp2
            go_round
            case rel => exact ⟨j + 1, by omega, by omega, by go_num, by rw [HS.out]⟩
            case measure => simp [intOf]; omega
          · have e : (ys.drop k).take j = (ys.drop k).take 8 := by
              rw [List.take_of_length_le (by rw [List.length_drop, HL.out]; omega), List.take_of_length_le (by rw [List.length_drop, HL.out]; omega)]
            rw [e]
            clear e
            go_wp2_with (fail)
            refine (rmix_any _ _ _).mono ?_
            rintro e w1 ⟨rfl, rfl⟩
            go_wp2_with (fail)
            go_roundw
            case rel => exact ⟨k + 8, _, by omega, by go_num, rfl, by rw [← HH.out, HC.out, List.drop_drop]; rfl, hb⟩
            case measure => simp [intOf]; omega
        · obtain rfl : j = 8 := by omega
          go_wp2_with (fail)
          refine (rmix_any _ _ _).mono ?_
          rintro e w1 ⟨rfl, rfl⟩
          go_wp2_with (fail)
          go_roundw
          case rel => exact ⟨k + 8, _, by omega, by go_num, rfl, by rw [← HH.out, HC.out, List.drop_drop]; rfl, hb⟩
          case measure => simp [intOf]; omega
    · go_wp2_with (fail)
      refine (rmix_any _ _ _).mono ?_
      rintro e w1 ⟨rfl, rfl⟩
      go_wp2_with (fail)
      go_ret
      have e1 : hv = (wordsOf ys).foldl mxi (mxi k0 k1) := by
        rw [← HH.out, List.drop_of_length_le (by rw [HL.out]; omega), wordsOf_nil]; rfl
      have e2 : IntKind.u64.wrap (n : Int) = n := u64_wrap_eq ⟨by omega, by omega⟩
      refine ⟨?_, hb⟩
      rw [HT.out, ← e1]
      first | rfl | rw [e2]

set_option maxHeartbeats 400000 in
theorem rderive_any (k0 k1 : Int) (x : Option Addr) (n c : Nat) (ys : List Int) (w : World) (hy : Ints .u8 w w.heap.size x ys) (hby : Bytes ys) (hl : ys.length = n) (hnc : n ≤ c) (hcl : n ≤ 4611686018427387904) :
    Calls Tryd.prog 31 #[.agg #[.int .u64 k0, .int .u64 k1], .slice x n c] w fun e w' => e = .returned (.agg #[.int .u64 (der0 k0 k1 ys), .int .u64 (der1 k0 k1 ys)]) ∧ Below w.heap.size w w' := by
  have HL := Lib.hid hl
  clear hl
  go_enter Tryd.func31, Tryd.ntmps31
  go_wp2_with (fail)
  have hb0 : Below w.heap.size w ((w.alloc (Obj.cells #[.int .u64 k0, .int .u64 k1] 34)).alloc (Obj.cells #[.int .u64 0, .int .u64 0] 34)) := ((Below.refl _ _).alloc (Nat.le_refl _) _).alloc (by simp) _
  refine (rtag_any k0 k1 x n c ys _ ((hy.below (Nat.le_refl _) hb0).mono (by simp; omega)) hby HL.out hnc hcl).mono ?_
  rintro e w1 ⟨rfl, hb⟩
  go_wp2_with (fail)
  refine (rmix_any _ _ _).mono ?_
  rintro e w2 ⟨rfl, rfl⟩
  go_wp2_with (fail)
  refine (rmix_any _ _ _).mono ?_
  rintro e w2 ⟨rfl, rfl⟩
  have c0 : w1.cell? ⟨w.heap.size + 1, 0, none⟩ = some (.int .u64 0) := by rw [hb.cell (by simp)]; simp
  have c1 : w1.cell? ⟨w.heap.size + 1, 1, none⟩ = some (.int .u64 0) := by rw [hb.cell (by simp)]; simp
  have f0 : w1.frozen? ⟨w.heap.size + 1, 0, none⟩ = false := by rw [hb.frozen (by simp)]; simp
  have f1 : w1.frozen? ⟨w.heap.size + 1, 1, none⟩ = false := by rw [hb.frozen (by simp)]; simp
  go_wp2_with (fail)
  refine bodyPost_ret (v := .agg #[.int .u64 (der0 k0 k1 ys), .int .u64 (der1 k0 k1 ys)]) ?_ rfl ⟨rfl, ?_⟩
  · simp [results, Tryd.results31, go_sem, c0, c1]
    exact ⟨rfl, rfl⟩
  · exact ((hb0.trans (hb.mono (by simp; omega))).setCell (by simp) _).setCell (by simp) _
end Go.Proofs.YtmhgoknbmbicmaaDoor
