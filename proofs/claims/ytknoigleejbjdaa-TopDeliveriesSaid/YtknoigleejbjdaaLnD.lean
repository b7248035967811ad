/- What link's Delay and Arrive return for a good link. -/
import Derived.Test.YtknoigleejbjdaaLnC
namespace Go.Proofs.Ytknoigleejbjdaa
open Go.RowKit
set_option linter.unusedVariables false
set_option linter.unusedSimpArgs false

def delB (k : Lnk) (dir : Int) : Int := if dir = 0 then k.d0 else k.d1
def delS (dir at' d : Int) (q : Deed) : Int := if q.k ≤ at' ∧ q.a = dir then q.b else d
def delN (k : Lnk) (dir at' : Int) (i : Nat) : Int := (k.cs.take i).foldl (delS dir at') (delB k dir)
/-- the delay of a direction at a time -/
def delF (k : Lnk) (dir at' : Int) : Int := k.cs.foldl (delS dir at') (delB k dir)
theorem delN_succ (k : Lnk) (dir at' : Int) {i : Nat} {q : Deed} (h : k.cs[i]? = some q) : delN k dir at' (i + 1) = delS dir at' (delN k dir at' i) q := by
  unfold delN
  rw [List.take_add_one, h, List.foldl_append]
  rfl
theorem delN_end (k : Lnk) (dir at' : Int) : delN k dir at' k.cs.length = delF k dir at' := by
  unfold delN delF
  rw [List.take_length]
set_option maxHeartbeats 8000000 in
set_option maxRecDepth 100000 in
theorem delay_any (k : Lnk) (x : Option Addr) (n c : Nat) (dir at' : Int) (w : World) (hD : Deeds w x k.cs) (hl : k.cs.length = n) (hnc : n ≤ c) (hc : c ≤ 9223372036854775807) (hG : Good k) (h1 : InR 1 dir) (h2 : InR 1125899906842624 at') : Calls Try.prog 37 #[.agg (lnkVals k x n c), .int .i64 dir, .int .i64 at'] w fun e w' => e = .returned (.int .i64 (delF k dir at')) ∧ Below w.heap.size w w' := by
  obtain ⟨X0, hX0⟩ : ∃ X, X = w.alloc (lnkObj k x n c) := ⟨_, rfl⟩
  obtain ⟨hb0, hs0, ho0⟩ := lay_lnk hX0
  have HC := Lib.hid (right_true k x n c dir at' 0 X0 (hD.below hb0) hl hnc hc hG h1 h2 ⟨by omega, by omega⟩)
  have HB0 := Lib.hid hb0
  have HO0 := Lib.hid ho0
  have HD := Lib.hid hD
  have HLN := Lib.hid hl
  have hdir : dir = 0 ∨ dir = 1 := by unfold InR at h1; omega
  have HEND := Lib.hid (show delN k dir at' n = delF k dir at' by rw [← hl]; exact delN_end k dir at')
  have HS := Lib.hid (fun (i : Nat) (q : Deed) (h : k.cs[i]? = some q) => delN_succ k dir at' h)
  have HZ := Lib.hid (show delN k dir at' 0 = delB k dir from rfl)
  obtain ⟨DF, hDF⟩ : ∃ DF, delF k dir at' = DF := ⟨_, rfl⟩
  obtain ⟨DN, hDN⟩ : ∃ DN, delN k dir at' = DN := ⟨_, rfl⟩
  rw [hDN, hDF] at HEND
  rw [hDN] at HS HZ
  rw [hDF]
  have h16 : n ≤ 16 := by rw [← hl]; exact hG.2.2.2.2.1
  obtain ⟨d0, d1, v0, v1, lo, se, cs⟩ := k
  have hx0' : Hid (X0 = w.alloc (.cells #[.int .i64 d0, .int .i64 d1, .int .i64 v0, .int .i64 v1, .int .i64 lo, .int .u64 se, .slice x n c] 59)) := Lib.hid hX0
  clear hD hb0 ho0 hX0 hl hG h1 h2 hDN hDF
  unfold lnkVals at HC ⊢
  simp only at HC ⊢
  rcases hdir with rfl | rfl
  all_goals
    go_enter Try.func37, Try.ntmps37
    go_wp2_with (fail)
    rw [← hx0'.out]
    refine HC.out.mono ?_
    rintro e w1 ⟨rfl, hb1⟩
    have HB1 := Lib.hid (HB0.out.trans (hb1.mono (by omega)))
    have hs1 := hb1.size
    have ho1 := HO0.out.below hb1
    obtain ⟨a10, a11, a12, a13, a14, a15, a16⟩ := ob7 ho1
    clear hb1 ho1
    go_wp2_with (fail)
    go_loopw [7, 22] (fun dv ki wr => ∃ (i : Nat), i ≤ n ∧ ki = .int .i64 i ∧ dv = .int .i64 (DN i) ∧ Hid (Below w.heap.size w wr)) (fun _ ki _ => n - (intOf ki).toNat)
    case atStart => exact ⟨0, by omega, rfl, by rw [HZ.out]; rfl, HB1⟩
    case round =>
      obtain ⟨i, hi, rfl, rfl, HB⟩ := hrel
      have hiw : IntKind.i64.wrap ((i : Int) + 1) = (i : Int) + 1 := i64_wrap_eq ⟨by omega, by omega⟩
      by_cases hin : i < n
      · obtain ⟨a, q, hxa, hab, hzk, wk, wa, wb, hcells⟩ := HD.out.at' (show i < cs.length by have := (show cs.length = _ from HLN.out); omega)
        obtain ⟨z0, z1, z2⟩ := hcells _ HB.out
        have hst := HS.out i q hzk
        obtain ⟨qk, qa, qb⟩ := q
        unfold delS at hst
        simp only at z0 z1 z2 wk wa wb hst
        subst hxa
        rename_i wr
        have hwr : w.heap.size ≤ wr.heap.size := HB.out.size
        have HB4 := Lib.hid (show Below w.heap.size w (wr.alloc (.cells #[.int .i64 qk, .int .i64 qa, .int .i64 qb] 77)) from HB.out.alloc hwr _)
        have HST := Lib.hid hst
        clear hcells hst
        by_cases c1 : qk ≤ at'
        · first
            | (by_cases c2 : qa = 0
               · subst c2
                 go_wp2_with (fail)
                 go_roundw
                 case rel => exact ⟨i + 1, by omega, by go_num, by rw [HST.out, if_pos ⟨c1, rfl⟩], HB4⟩
                 case measure => simp [intOf]; omega
               · go_wp2_with (fail)
                 go_roundw
                 case rel => exact ⟨i + 1, by omega, by go_num, by rw [HST.out, if_neg (fun q => c2 q.2)], HB4⟩
                 case measure => simp [intOf]; omega)
            | (by_cases c2 : qa = 1
               · subst c2
                 go_wp2_with (fail)
                 go_roundw
                 case rel => exact ⟨i + 1, by omega, by go_num, by rw [HST.out, if_pos ⟨c1, rfl⟩], HB4⟩
                 case measure => simp [intOf]; omega
               · go_wp2_with (fail)
                 go_roundw
                 case rel => exact ⟨i + 1, by omega, by go_num, by rw [HST.out, if_neg (fun q => c2 q.2)], HB4⟩
                 case measure => simp [intOf]; omega)
        · go_wp2_with (fail)
          go_roundw
          case rel => exact ⟨i + 1, by omega, by go_num, by rw [HST.out, if_neg (fun q => c1 q.1)], HB4⟩
          case measure => simp [intOf]; omega
      · obtain rfl : i = n := by omega
        go_wp2_with (fail)
        go_ret
        exact ⟨by rw [← HEND.out]; rfl, HB.out⟩
end Go.Proofs.Ytknoigleejbjdaa
