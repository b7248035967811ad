/- The walk of TopBroadcast. -/
import Derived.Test.YtmhgoknbmbicmaaTopE
namespace Go.Proofs.Ytmhgoknbmbicmaa
open Go.RowKit
set_option linter.unusedVariables false
set_option linter.unusedSimpArgs false

set_option maxHeartbeats 16000000 in
set_option maxRecDepth 100000 in
theorem top_main (seed : Int) (st sp de co : Int) (x : Option Addr) (n c : Nat) (qs : List Pkt) (w : World) (hl : qs.length = n) (hnc : n ≤ c) (hcl : c ≤ 9223372036854775807) (hnil : x = none → n = 0 ∧ c = 0) (hq : ∀ k q, qs[k]? = some q → PktAt w x k q)
    (hok : okC st sp de co = true) (hn : n ≤ 64) :
    Calls Try.prog 3 #[.int .u64 seed, .agg #[.int .i64 st, .int .i64 sp, .int .i64 de, .int .i64 co], .slice x n c] w fun e w' => e = .returned (.bool true) ∧ Below w.heap.size w w' := by
  have hb0 : Below w.heap.size w (w.alloc (.cells #[.int .i64 st, .int .i64 sp, .int .i64 de, .int .i64 co] 24)) := (Below.refl _ _).alloc (Nat.le_refl _) _
  have C := pcheck_any st sp de co (w.alloc (.cells #[.int .i64 st, .int .i64 sp, .int .i64 de, .int .i64 co] 24))
  rw [show errC st sp de co = 0 from by unfold errC; rw [if_pos hok]] at C
  have HC := Lib.hid C
  have HOK := Lib.hid hok
  obtain ⟨o1, o2, o3, o4, o5, o6, o7, o8⟩ := okC_iff.1 hok
  obtain ⟨cn, rfl⟩ : ∃ cn : Nat, co = cn := ⟨co.toNat, by omega⟩
  have HL := Lib.hid hl
  have HQ := Lib.hid hq
  have hni : (n : Int) ≤ 64 := by omega
  clear C hok hl hq
  go_enter Try.func3, Try.ntmps3
  go_wp2_with (fail)
  refine HC.out.mono ?_
  rintro e w1 ⟨rfl, hb1⟩
  have c0 : w1.cell? ⟨w.heap.size, 0, none⟩ = some (.int .i64 st) := by rw [hb1.cell (by simp)]; simp
  have c1 : w1.cell? ⟨w.heap.size, 1, none⟩ = some (.int .i64 sp) := by rw [hb1.cell (by simp)]; simp
  have c2 : w1.cell? ⟨w.heap.size, 2, none⟩ = some (.int .i64 de) := by rw [hb1.cell (by simp)]; simp
  have c3 : w1.cell? ⟨w.heap.size, 3, none⟩ = some (.int .i64 (cn : Int)) := by rw [hb1.cell (by simp)]; simp
  go_wp2_with (fail)
  refine (make_some seed cn _ (by omega) (by omega)).mono ?_
  rintro e w2 ⟨G, rfl, hG, hK, hb2⟩
  have hbw1 := hb0.trans (hb1.mono hb0.size)
  have hbw2 := hbw1.trans (hb2.mono hbw1.size)
  have hs1 := hb1.size
  simp at hs1
  have d0 : w2.cell? ⟨w.heap.size, 0, none⟩ = some (.int .i64 st) := by rw [hb2.cell (by show w.heap.size < _; omega)]; exact c0
  have d1 : w2.cell? ⟨w.heap.size, 1, none⟩ = some (.int .i64 sp) := by rw [hb2.cell (by show w.heap.size < _; omega)]; exact c1
  have d2 : w2.cell? ⟨w.heap.size, 2, none⟩ = some (.int .i64 de) := by rw [hb2.cell (by show w.heap.size < _; omega)]; exact c2
  have d3 : w2.cell? ⟨w.heap.size, 3, none⟩ = some (.int .i64 (cn : Int)) := by rw [hb2.cell (by show w.heap.size < _; omega)]; exact c3
  obtain ⟨ka, hka⟩ : ∃ ka, (keyI seed cn 0).1 = ka := ⟨_, rfl⟩
  obtain ⟨kb, hkb⟩ : ∃ kb, (keyI seed cn 0).2 = kb := ⟨_, rfl⟩
  obtain ⟨k0, k1⟩ := hK.2 0 (by omega)
  rw [hka] at k0
  rw [hkb] at k1
  simp only [Nat.zero_mul, Nat.add_zero, Nat.zero_add] at k0 k1
  have HKEYS := Lib.hid hK
  have HKA := Lib.hid hka
  have HKB := Lib.hid hkb
  clear hK hka hkb c0 c1 c2 c3 hb1 HC
  have hGw : G < w2.heap.size := HKEYS.out.1
  have h6 : w2.drew.cell? ⟨w.heap.size, 0, none⟩ = some (.int .i64 st) ∧ w2.drew.cell? ⟨w.heap.size, 1, none⟩ = some (.int .i64 sp) ∧ w2.drew.cell? ⟨w.heap.size, 2, none⟩ = some (.int .i64 de) ∧ w2.drew.cell? ⟨w.heap.size, 3, none⟩ = some (.int .i64 (cn : Int)) ∧ w2.drew.cell? ⟨G, 0, none⟩ = some (.int .u64 ka) ∧ w2.drew.cell? ⟨G, 1, none⟩ = some (.int .u64 kb) := ⟨d0, d1, d2, d3, k0, k1⟩
  have hws : w.heap.size < w2.drew.heap.size := by have := hbw1.size; have := hb2.size; simp; omega
  have hGd : G < w2.drew.heap.size := by simpa using hGw
  go_wp2_with (fail)
  go_region_held_law (fun w' => w'.cell? ⟨w.heap.size, 0, none⟩ = some (.int .i64 st) ∧ w'.cell? ⟨w.heap.size, 1, none⟩ = some (.int .i64 sp) ∧ w'.cell? ⟨w.heap.size, 2, none⟩ = some (.int .i64 de) ∧ w'.cell? ⟨w.heap.size, 3, none⟩ = some (.int .i64 (cn : Int)) ∧ w'.cell? ⟨G, 0, none⟩ = some (.int .u64 ka) ∧ w'.cell? ⟨G, 1, none⟩ = some (.int .u64 kb))
    (first | exact h6 | assumption)
    ((first | (go_at_call 6; refine (new_any st sp de cn ka kb _ HOK.out).mono ?_; rintro e w3 ⟨R, rfl, hRge, hr3, hb3⟩; have h7 := six_step hb3 hws hGd h6)))
  have hb3w : Below w2.heap.size w2 w3 := (Below.refl _ _).drew.trans (hb3.mono (by simp))
  have HR3 := Lib.hid hr3
  clear h6 h7 hr3 hb3
  go_wp2_with (fail)
  go_loopw [9, 51] (fun wv ki wr => ∃ k : Nat, k ≤ n ∧ ki = .int .i64 k ∧ ∃ own hv l, LRel w2 w2.heap.size R (keyI seed cn) (fun i => if i = 0 then (ka, kb) else (0, 0)) st sp de cn (qs.take k) (qs.take k) wv own hv l wr) (fun _ ki _ => n - (intOf ki).toNat)
  case atStart =>
    exact ⟨0, by omega, rfl, _, _, _, HR3.out, fun g hg => by simpa using hg.1, rfl, World.ownsRow_nil _ _ _ _, (fun g hg => by simp [Value.ownBlock] at hg), hb3w, (fun q hq => by simp at hq), Nat.le_refl _, Nat.zero_le _⟩
  case round =>
    obtain ⟨k, hkn, rfl, own, hv, l, hL⟩ := hrel
    have hbwr : Below w.heap.size w wr := hbw2.trans (hL.below.mono hbw2.size)
    by_cases hlt : k < n
    · obtain ⟨q, hqk⟩ : ∃ q, qs[k]? = some q := ⟨_, List.getElem?_eq_getElem (by rw [HL.out]; exact hlt)⟩
      obtain ⟨⟨a, rfl, haw, p0, p1, p2, p3, p4, p5⟩, b1, b2, b3, b4, b5, b6⟩ := HQ.out k q hqk
      have HLL := Lib.hid hL
      have HTK : Hid (qs.take (k + 1) = qs.take k ++ [q]) := Lib.hid (by rw [List.take_add_one, hqk]; rfl)
      clear hL hqk
      obtain ⟨qi, qat, qerr, qp, qn, qc, qb, qbad, qtag⟩ := q
      simp only at p0 p1 p2 p3 p4 p5 b1 b2 b3 b4 b5 b6
      have hadd : ∀ j, (a.add j).block = a.block := fun j => by unfold Addr.add; split <;> rfl
      have r0 : wr.cell? (a.add (k * 6)) = some (.int .i64 qi) := by rw [hbwr.cell (by rw [hadd]; exact haw)]; exact p0
      have r1 : wr.cell? ((a.add (k * 6)).add 1) = some (.int .i64 qat) := by rw [hbwr.cell (by rw [show ((a.add (k * 6)).add 1).block = a.block by unfold Addr.add; split <;> split <;> rfl]; exact haw)]; exact p1
      have r2 : wr.cell? ((a.add (k * 6)).add 2) = some (.int .i64 qerr) := by rw [hbwr.cell (by rw [show ((a.add (k * 6)).add 2).block = a.block by unfold Addr.add; split <;> split <;> rfl]; exact haw)]; exact p2
      have r3 : wr.cell? ((a.add (k * 6)).add 3) = some (.slice qp qn qc) := by rw [hbwr.cell (by rw [show ((a.add (k * 6)).add 3).block = a.block by unfold Addr.add; split <;> split <;> rfl]; exact haw)]; exact p3
      have r4 : wr.cell? ((a.add (k * 6)).add 4) = some (.bool qbad) := by rw [hbwr.cell (by rw [show ((a.add (k * 6)).add 4).block = a.block by unfold Addr.add; split <;> split <;> rfl]; exact haw)]; exact p4
      have r5 : wr.cell? ((a.add (k * 6)).add 5) = some (.int .u64 qtag) := by rw [hbwr.cell (by rw [show ((a.add (k * 6)).add 5).block = a.block by unfold Addr.add; split <;> split <;> rfl]; exact haw)]; exact p5
      clear p0 p1 p2 p3 p4 p5 hadd
      rw [add_off _ 1 (by omega)] at r1
      rw [add_off _ 2 (by omega)] at r2
      rw [add_off _ 3 (by omega)] at r3
      rw [add_off _ 4 (by omega)] at r4
      rw [add_off _ 5 (by omega)] at r5
      have hlw := HLL.out.below
      have hwsB : w.heap.size < w2.heap.size := by simpa using hws
      have e0 : wr.cell? ⟨w.heap.size, 0, none⟩ = some (.int .i64 st) := by rw [hlw.cell (by exact hwsB)]; exact d0
      have e1 : wr.cell? ⟨w.heap.size, 1, none⟩ = some (.int .i64 sp) := by rw [hlw.cell (by exact hwsB)]; exact d1
      have e2 : wr.cell? ⟨w.heap.size, 2, none⟩ = some (.int .i64 de) := by rw [hlw.cell (by exact hwsB)]; exact d2
      have e3 : wr.cell? ⟨w.heap.size, 3, none⟩ = some (.int .i64 (cn : Int)) := by rw [hlw.cell (by exact hwsB)]; exact d3
      have hsz := hlw.size
      have hwr : w.heap.size ≠ wr.heap.size := by omega
      have hwl : w.heap.size < wr.heap.size := by omega
      have hGr : G < wr.heap.size := by omega
      have hb3 : Below wr.heap.size wr (wr.alloc (.cells #[.int .i64 qi, .int .i64 qat, .int .i64 qerr, .slice qp qn qc, .bool qbad, .int .u64 qtag] 37)) := (Below.refl _ _).alloc (Nat.le_refl _) _
      have f0 : (wr.alloc (.cells #[.int .i64 qi, .int .i64 qat, .int .i64 qerr, .slice qp qn qc, .bool qbad, .int .u64 qtag] 37)).cell? ⟨w.heap.size, 0, none⟩ = some (.int .i64 st) := by rw [hb3.cell (by exact hwl)]; exact e0
      have f1 : (wr.alloc (.cells #[.int .i64 qi, .int .i64 qat, .int .i64 qerr, .slice qp qn qc, .bool qbad, .int .u64 qtag] 37)).cell? ⟨w.heap.size, 1, none⟩ = some (.int .i64 sp) := by rw [hb3.cell (by exact hwl)]; exact e1
      have f2 : (wr.alloc (.cells #[.int .i64 qi, .int .i64 qat, .int .i64 qerr, .slice qp qn qc, .bool qbad, .int .u64 qtag] 37)).cell? ⟨w.heap.size, 2, none⟩ = some (.int .i64 de) := by rw [hb3.cell (by exact hwl)]; exact e2
      have f3 : (wr.alloc (.cells #[.int .i64 qi, .int .i64 qat, .int .i64 qerr, .slice qp qn qc, .bool qbad, .int .u64 qtag] 37)).cell? ⟨w.heap.size, 3, none⟩ = some (.int .i64 (cn : Int)) := by rw [hb3.cell (by exact hwl)]; exact e3
      have hwr3 := hbwr.trans (hb3.mono hbwr.size)
      clear d0 d1 d2 d3 hlw hb3w hbwr e0 e1 e2 e3
      by_cases u1 : qi < 1
      · go_wp2_with (fail)
        go_ret
        exact ⟨rfl, hwr3⟩
      by_cases u2 : (cn : Int) < qi
      · go_wp2_with (fail)
        go_ret
        exact ⟨rfl, hwr3⟩
      by_cases u3 : qat < 0
      · go_wp2_with (fail)
        go_ret
        exact ⟨rfl, hwr3⟩
      by_cases u4 : 1125899906842624 < qat
      · go_wp2_with (fail)
        go_ret
        exact ⟨rfl, hwr3⟩
      by_cases u5 : qerr < 0
      · go_wp2_with (fail)
        go_ret
        exact ⟨rfl, hwr3⟩
      by_cases u6 : 1125899906842624 < qerr
      · go_wp2_with (fail)
        go_ret
        exact ⟨rfl, hwr3⟩
      by_cases u7 : 100 < qn
      · have u7' : (100 : Int) < qn := by omega
        go_wp2_with (fail)
        go_ret
        exact ⟨rfl, hwr3⟩
      have u7' : ¬ (100 : Int) < qn := by omega
      obtain ⟨i, rfl⟩ : ∃ i : Nat, qi = i := ⟨qi.toNat, by omega⟩
      obtain ⟨RT, hRT⟩ : ∃ RT, rightTag (keyI seed cn i) qb = RT := ⟨_, rfl⟩
      have hInts : ∀ W, Below w2.heap.size w2 W → Ints .u8 W W.heap.size qp qb := fun W hW => b1.below' (hbw2.trans (hW.mono hbw2.size)) (hbw2.trans (hW.mono hbw2.size)).size
      have CR : ∀ W, Below w2.heap.size w2 W → Calls Try.prog 7 #[.slice (some ⟨G, 0, none⟩) (cn + 1) (cn + 1), .int .i64 (i : Int), .slice qp qn qc] W fun e w' => e = .returned (.int .u64 RT) ∧ Below W.heap.size W w' := by
        intro W hW
        have C := tright_any G (cn + 1) i (keyI seed cn) qp qc qb W ⟨Nat.lt_of_lt_of_le HKEYS.out.1 hW.size, (HKEYS.out.below (Nat.le_refl _) hW).2⟩ (by omega) (hInts W hW) b2 (by rw [b3]; exact b4) b5
        rw [b3, hRT] at C
        exact C
      have HINTS := Lib.hid hInts
      have HCR := Lib.hid CR
      have HRT := Lib.hid hRT
      have HB3 := Lib.hid b3
      have hbl3 : Below w2.heap.size w2 (wr.alloc (.cells #[.int .i64 (i : Int), .int .i64 qat, .int .i64 qerr, .slice qp qn qc, .bool qbad, .int .u64 qtag] 37)) := HLL.out.below.trans (hb3.mono HLL.out.below.size)
      clear CR hInts hRT b1 b3
      go_wp2_with (fail)
      refine (HCR.out _ hbl3).mono ?_
      rintro e w4 ⟨rfl, hb4⟩
      have hk4 : Below wr.heap.size wr w4 := hb3.trans (hb4.mono hb3.size)
      have hL4 := HLL.out.later hk4
      have hs4 := hb4.size
      have hwl3 : w.heap.size < (wr.alloc (.cells #[.int .i64 (i : Int), .int .i64 qat, .int .i64 qerr, .slice qp qn qc, .bool qbad, .int .u64 qtag] 37)).heap.size := by simp; omega
      have hbx3 : wr.heap.size < (wr.alloc (.cells #[.int .i64 (i : Int), .int .i64 qat, .int .i64 qerr, .slice qp qn qc, .bool qbad, .int .u64 qtag] 37)).heap.size := by simp
      have g0 : w4.cell? ⟨w.heap.size, 0, none⟩ = some (.int .i64 st) := by rw [hb4.cell (by exact hwl3)]; exact f0
      have g1 : w4.cell? ⟨w.heap.size, 1, none⟩ = some (.int .i64 sp) := by rw [hb4.cell (by exact hwl3)]; exact f1
      have g2 : w4.cell? ⟨w.heap.size, 2, none⟩ = some (.int .i64 de) := by rw [hb4.cell (by exact hwl3)]; exact f2
      have g3 : w4.cell? ⟨w.heap.size, 3, none⟩ = some (.int .i64 (cn : Int)) := by rw [hb4.cell (by exact hwl3)]; exact f3
      have g4 : w4.cell? ⟨wr.heap.size, 0, none⟩ = some (.int .i64 (i : Int)) := by rw [hb4.cell (by exact hbx3)]; simp
      have g5 : w4.cell? ⟨wr.heap.size, 1, none⟩ = some (.int .i64 qat) := by rw [hb4.cell (by exact hbx3)]; simp
      have g6 : w4.cell? ⟨wr.heap.size, 2, none⟩ = some (.int .i64 qerr) := by rw [hb4.cell (by exact hbx3)]; simp
      have g7 : w4.cell? ⟨wr.heap.size, 3, none⟩ = some (.slice qp qn qc) := by rw [hb4.cell (by exact hbx3)]; simp
      have g8 : w4.cell? ⟨wr.heap.size, 4, none⟩ = some (.bool qbad) := by rw [hb4.cell (by exact hbx3)]; simp
      have g9 : w4.cell? ⟨wr.heap.size, 5, none⟩ = some (.int .u64 qtag) := by rw [hb4.cell (by exact hbx3)]; simp
      have HL4 := Lib.hid hL4
      have hbl4 := hbl3.trans (hb4.mono hbl3.size)
      obtain ⟨IV, hIV⟩ : ∃ IV, ivI st sp de cn (qat + qerr) = IV := ⟨_, rfl⟩
      have hwq : IntKind.i64.wrap (qat + qerr) = qat + qerr := i64_wrap_eq ⟨by omega, by omega⟩
      have hwd : IntKind.i64.wrap ((i : Int) + de) = (i : Int) + de := i64_wrap_eq ⟨by omega, by omega⟩
      have hsf : safeP st sp de cn ⟨i, qat, qerr, qp, qn, qc, qb, qbad, qtag⟩ = decide (IV < i + de) := by unfold safeP; rw [← hIV]
      have hll := hL4.len
      have hlk : (qs.take k).length ≤ 63 := by rw [List.length_take]; omega
      have hEE : hearE ⟨st, sp, de, cn, 0, (fun i => if i = 0 then (ka, kb) else (0, 0)), hv, l⟩ i (qat - qerr) (qat + qerr) = if IV < i + de then 0 else 17 := by
        unfold hearE ivBad
        rw [if_neg (by simp only; omega), if_neg (by rw [decide_eq_true_eq]; omega)]
        simp only
        rw [hIV]
        by_cases hq : IV < i + de
        · rw [if_neg (by omega), if_neg (by omega), if_neg (by omega), if_pos hq]
        · rw [if_pos (by omega), if_neg hq]
      have HEE := Lib.hid hEE
      have HIV := Lib.hid hIV
      have HSF := Lib.hid hsf
      clear hEE hIV hsf hb4 hk4 hL4 f0 f1 f2 f3 hwl3 hbx3 hll hbl3
      have hPT : ptag (keyI seed cn) ⟨i, qat, qerr, qp, qn, qc, qb, qbad, qtag⟩ = if qbad = true then qtag else RT := by
        unfold ptag; rw [← HRT.out, Int.toNat_natCast]
      have HPT := Lib.hid hPT
      clear hPT
      have hwl4 : w.heap.size < w4.heap.size := by simp at hs4; omega
      have hbx4 : wr.heap.size < w4.heap.size := by simp at hs4; omega
      have hown1 : ¬ own w.heap.size := fun h => by have := HLL.out.ownB _ h; omega
      have hown2 : ¬ own wr.heap.size := fun h => by have := HLL.out.recv.low _ h; omega
      have CH0 : ∀ T : Int, Calls Try.prog 8 #[.pointer (some ⟨R, 0, none⟩), .int .i64 i, .slice qp qn qc, .int .u64 T, .agg #[.int .i64 (qat - qerr), .int .i64 (qat + qerr)]] w4 fun e w' =>
          e = .returned (.int .i64 (if IV < i + de then 0 else 17)) ∧ HearPost own R ⟨st, sp, de, cn, 0, (fun i => if i = 0 then (ka, kb) else (0, 0)), hv, l⟩ i qb T (if IV < i + de then 0 else 17) w4 w' := fun T => by
        have C := hear_any R own ⟨st, sp, de, cn, 0, (fun i => if i = 0 then (ka, kb) else (0, 0)), hv, l⟩ i T (qat - qerr) (qat + qerr) qp qn qc qb w4 HL4.out.recv (HINTS.out _ hbl4) b2 HB3.out (by omega) b6
        rw [HEE.out] at C
        exact C
      by_cases hsafe : IV < i + de
      · have CH : ∀ T : Int, Calls Try.prog 8 #[.pointer (some ⟨R, 0, none⟩), .int .i64 i, .slice qp qn qc, .int .u64 T, .agg #[.int .i64 (qat - qerr), .int .i64 (qat + qerr)]] w4 fun e w' =>
            e = .returned (.int .i64 0) ∧ Keeps own w4 w' ∧ ∃ p cap hv', Recv w' (grew own w4 w') R ⟨st, sp, de, cn, 0, (fun i => if i = 0 then (ka, kb) else (0, 0)), hv', l ++ [⟨i, p, cap, qb, T⟩]⟩ := fun T => (CH0 T).mono fun e w' q => by
          rw [if_pos hsafe] at q
          exact ⟨q.1, q.2.2 rfl⟩
        have HCH := Lib.hid CH
        clear CH CH0
        cases qbad
        · go_wp2_with (fail)
          refine (HCH.out _).mono ?_
          rintro e w5 ⟨rfl, hk5, hp, hcap, hv', hR5⟩
          have hs5 := hk5.size
          have h7 := seven_same (hk5.block _ hwl4 hown1) (hk5.block _ hbx4 hown2) ⟨g0, g1, g2, g3, g4, g5, g6⟩
          have h73 : w5.cell? ⟨wr.heap.size, 3, none⟩ = some (.slice qp qn qc) := by rw [World.cell?_of_block (hk5.block _ hbx4 hown2)]; exact g7
          have HPT' : Hid (ptag (keyI seed cn) ⟨i, qat, qerr, qp, qn, qc, qb, false, qtag⟩ = RT) := Lib.hid (by simpa using HPT.out)
          have hL5 := HL4.out.hear (HSF.out.trans (decide_eq_true hsafe)) ⟨u1, u2⟩ HPT'.out hk5 hR5
          have HL5 := Lib.hid hL5
          have h7D := seven_same (W := w5) (W' := w5.drew) rfl rfl h7
          have hwl5 : w.heap.size < w5.drew.heap.size := by simp; omega
          have hbx5 : wr.heap.size < w5.drew.heap.size := by simp; omega
          have HK5 := Lib.hid hk5
          have h73D : w5.drew.cell? ⟨wr.heap.size, 3, none⟩ = some (.slice qp qn qc) := h73
          clear g0 g1 g2 g3 g4 g5 g6 g7 g8 g9 hL5 hR5 hk5 h7 h73
          go_wp2_with (fail)
          go_region_held_law (fun w' => w'.cell? ⟨w.heap.size, 0, none⟩ = some (.int .i64 st) ∧ w'.cell? ⟨w.heap.size, 1, none⟩ = some (.int .i64 sp) ∧ w'.cell? ⟨w.heap.size, 2, none⟩ = some (.int .i64 de) ∧ w'.cell? ⟨w.heap.size, 3, none⟩ = some (.int .i64 (cn : Int)) ∧ w'.cell? ⟨wr.heap.size, 0, none⟩ = some (.int .i64 (i : Int)) ∧ w'.cell? ⟨wr.heap.size, 1, none⟩ = some (.int .i64 qat) ∧ w'.cell? ⟨wr.heap.size, 2, none⟩ = some (.int .i64 qerr))
            (first | exact h7D | assumption)
            ((first | (go_at_call 9; refine (piv_any st sp de cn (qat + qerr) _ (by omega)).mono ?_; rintro e w6 ⟨rfl, hb6⟩; rw [HIV.out]; have h8 := seven_step hb6 hwl5 hbx5 h7D)))
          try rw [hwd]
          have hb6w : Below w5.heap.size w5 w6 := (Below.refl _ _).drew.trans (hb6.mono (by simp))
          have hs6 := hb6w.size
          have h83 : w6.cell? ⟨wr.heap.size, 3, none⟩ = some (.slice qp qn qc) := by rw [hb6.cell (by exact hbx5)]; exact h73D
          obtain ⟨-, -, -, -, j4, -, -⟩ := h8
          have HL6 := Lib.hid (HL5.out.later hb6w)
          clear hb6 hb6w h73D h7D
          go_wp2_with (fail)
          refine (HCR.out _ HL6.out.below).mono ?_
          rintro e w7 ⟨rfl, hb7⟩
          have HL7 := Lib.hid (HL6.out.later hb7)
          have hs7 := hb7.size
          have h93 : w7.cell? ⟨wr.heap.size, 3, none⟩ = some (.slice qp qn qc) := by rw [hb7.cell (by show wr.heap.size < _; omega)]; exact h83
          have h94 : w7.cell? ⟨wr.heap.size, 0, none⟩ = some (.int .i64 (i : Int)) := by rw [hb7.cell (by show wr.heap.size < _; omega)]; exact j4
          clear hb7 h83 j4
          obtain ⟨ji, hj, hjz0, hjz1, hjz2⟩ := info_parts infoSl
          obtain ⟨on, hon⟩ : ∃ on, ((qs.take k).filter (wantP (keyI seed cn) st sp de cn)).length = on := ⟨_, rfl⟩
          have hol : on ≤ k := by rw [← hon]; exact Nat.le_trans (List.length_filter_le _ _) (by rw [List.length_take]; omega)
          have hrow := HL7.out.want
          rw [hon] at hrow
          have HROW := Lib.hid hrow
          have HON := Lib.hid hon
          clear hrow hon
          go_wp2_with (at_builtin; refine wpList_append_own_at _ rfl (.tmp 155) (.tmp 158) 34 rfl w2.heap.size 35 ji _ 1 24 Try.underlying34 hj hjz0 hjz1 hjz2 rfl (by omega) u9 on (pktCells ((qs.take k).filter (wantP (keyI seed cn) st sp de cn))) rfl (HROW.out.alloc _) _ 1 1 [.slice qp qn qc] rfl rfl (news_new _ #[.slice qp qn qc] _ _ rfl) (by intro u hu; simp at hu; subst hu; rfl) (by unfold maxLen; omega) (by omega) (by simp; omega) ?_; intro ov' w8 hown8 hg8 hnil8 hat8)
          go_roundw
          case rel => exact ⟨k + 1, by omega, by go_num, _, _, _, by rw [HTK.out]; exact (HL7.out.later (below_alloc' (Below.refl _ _) (.cells #[.slice qp qn qc] 35))).take (q := ⟨i, qat, qerr, qp, qn, qc, qb, _, qtag⟩) (by unfold wantP; rw [HSF.out, decide_eq_true hsafe, HPT'.out, Int.toNat_natCast, HRT.out]; simp) hg8 (by rw [HON.out]; exact hown8) hat8⟩
          case measure => simp [intOf]; omega
        · go_wp2_with (fail)
          refine (HCH.out _).mono ?_
          rintro e w5 ⟨rfl, hk5, hp, hcap, hv', hR5⟩
          have hs5 := hk5.size
          have h7 := seven_same (hk5.block _ hwl4 hown1) (hk5.block _ hbx4 hown2) ⟨g0, g1, g2, g3, g4, g5, g6⟩
          have h73 : w5.cell? ⟨wr.heap.size, 3, none⟩ = some (.slice qp qn qc) := by rw [World.cell?_of_block (hk5.block _ hbx4 hown2)]; exact g7
          have HPT' : Hid (ptag (keyI seed cn) ⟨i, qat, qerr, qp, qn, qc, qb, true, qtag⟩ = qtag) := Lib.hid (by simpa using HPT.out)
          have hL5 := HL4.out.hear (HSF.out.trans (decide_eq_true hsafe)) ⟨u1, u2⟩ HPT'.out hk5 hR5
          have HL5 := Lib.hid hL5
          have h7D := seven_same (W := w5) (W' := w5.drew) rfl rfl h7
          have hwl5 : w.heap.size < w5.drew.heap.size := by simp; omega
          have hbx5 : wr.heap.size < w5.drew.heap.size := by simp; omega
          have HK5 := Lib.hid hk5
          have h73D : w5.drew.cell? ⟨wr.heap.size, 3, none⟩ = some (.slice qp qn qc) := h73
          clear g0 g1 g2 g3 g4 g5 g6 g7 g8 g9 hL5 hR5 hk5 h7 h73
          go_wp2_with (fail)
          go_region_held_law (fun w' => w'.cell? ⟨w.heap.size, 0, none⟩ = some (.int .i64 st) ∧ w'.cell? ⟨w.heap.size, 1, none⟩ = some (.int .i64 sp) ∧ w'.cell? ⟨w.heap.size, 2, none⟩ = some (.int .i64 de) ∧ w'.cell? ⟨w.heap.size, 3, none⟩ = some (.int .i64 (cn : Int)) ∧ w'.cell? ⟨wr.heap.size, 0, none⟩ = some (.int .i64 (i : Int)) ∧ w'.cell? ⟨wr.heap.size, 1, none⟩ = some (.int .i64 qat) ∧ w'.cell? ⟨wr.heap.size, 2, none⟩ = some (.int .i64 qerr))
            (first | exact h7D | assumption)
            ((first | (go_at_call 9; refine (piv_any st sp de cn (qat + qerr) _ (by omega)).mono ?_; rintro e w6 ⟨rfl, hb6⟩; rw [HIV.out]; have h8 := seven_step hb6 hwl5 hbx5 h7D)))
          try rw [hwd]
          have hb6w : Below w5.heap.size w5 w6 := (Below.refl _ _).drew.trans (hb6.mono (by simp))
          have hs6 := hb6w.size
          have h83 : w6.cell? ⟨wr.heap.size, 3, none⟩ = some (.slice qp qn qc) := by rw [hb6.cell (by exact hbx5)]; exact h73D
          obtain ⟨-, -, -, -, j4, -, -⟩ := h8
          have HL6 := Lib.hid (HL5.out.later hb6w)
          clear hb6 hb6w h73D h7D
          go_wp2_with (fail)
          refine (HCR.out _ HL6.out.below).mono ?_
          rintro e w7 ⟨rfl, hb7⟩
          have HL7 := Lib.hid (HL6.out.later hb7)
          have hs7 := hb7.size
          have h93 : w7.cell? ⟨wr.heap.size, 3, none⟩ = some (.slice qp qn qc) := by rw [hb7.cell (by show wr.heap.size < _; omega)]; exact h83
          have h94 : w7.cell? ⟨wr.heap.size, 0, none⟩ = some (.int .i64 (i : Int)) := by rw [hb7.cell (by show wr.heap.size < _; omega)]; exact j4
          clear hb7 h83 j4
          by_cases hTR : qtag = RT
          · subst hTR
            obtain ⟨ji, hj, hjz0, hjz1, hjz2⟩ := info_parts infoSl
            obtain ⟨on, hon⟩ : ∃ on, ((qs.take k).filter (wantP (keyI seed cn) st sp de cn)).length = on := ⟨_, rfl⟩
            have hol : on ≤ k := by rw [← hon]; exact Nat.le_trans (List.length_filter_le _ _) (by rw [List.length_take]; omega)
            have hrow := HL7.out.want
            rw [hon] at hrow
            have HROW := Lib.hid hrow
            have HON := Lib.hid hon
            clear hrow hon
            go_wp2_with (at_builtin; refine wpList_append_own_at _ rfl (.tmp 155) (.tmp 158) 34 rfl w2.heap.size 35 ji _ 1 24 Try.underlying34 hj hjz0 hjz1 hjz2 rfl (by omega) u9 on (pktCells ((qs.take k).filter (wantP (keyI seed cn) st sp de cn))) rfl (HROW.out.alloc _) _ 1 1 [.slice qp qn qc] rfl rfl (news_new _ #[.slice qp qn qc] _ _ rfl) (by intro u hu; simp at hu; subst hu; rfl) (by unfold maxLen; omega) (by omega) (by simp; omega) ?_; intro ov' w8 hown8 hg8 hnil8 hat8)
            go_roundw
            case rel => exact ⟨k + 1, by omega, by go_num, _, _, _, by rw [HTK.out]; exact (HL7.out.later (below_alloc' (Below.refl _ _) (.cells #[.slice qp qn qc] 35))).take (q := ⟨i, qat, qerr, qp, qn, qc, qb, _, qtag⟩) (by unfold wantP; rw [HSF.out, decide_eq_true hsafe, HPT'.out, Int.toNat_natCast, HRT.out]; simp) hg8 (by rw [HON.out]; exact hown8) hat8⟩
            case measure => simp [intOf]; omega
          · go_wp2_with (fail)
            go_roundw
            case rel => exact ⟨k + 1, by omega, by go_num, _, _, _, by rw [HTK.out]; exact HL7.out.unwanted (by unfold wantP; rw [HSF.out, decide_eq_true hsafe, HPT'.out, Int.toNat_natCast, HRT.out]; simp; exact hTR)⟩
            case measure => simp [intOf]; omega
      · have CH : ∀ T : Int, Calls Try.prog 8 #[.pointer (some ⟨R, 0, none⟩), .int .i64 i, .slice qp qn qc, .int .u64 T, .agg #[.int .i64 (qat - qerr), .int .i64 (qat + qerr)]] w4 fun e w' =>
            e = .returned (.int .i64 17) ∧ Below w4.heap.size w4 w' := fun T => (CH0 T).mono fun e w' q => by
          rw [if_neg hsafe] at q
          exact ⟨q.1, q.2.1 (by omega)⟩
        have HCH := Lib.hid CH
        clear CH CH0
        cases qbad
        all_goals
          go_wp2_with (fail)
          refine (HCH.out _).mono ?_
          rintro e w5 ⟨rfl, hb5⟩
          have hs5 := hb5.size
          have h7 := seven_step hb5 hwl4 hbx4 ⟨g0, g1, g2, g3, g4, g5, g6⟩
          have hL5 := (HL4.out.stale (q := ⟨i, qat, qerr, qp, qn, qc, qb, _, qtag⟩) (HSF.out.trans (decide_eq_false (by omega))) ⟨u1, u2⟩).later hb5
          have HL5 := Lib.hid hL5
          have h7D := seven_same (W := w5) (W' := w5.drew) rfl rfl h7
          have hwl5 : w.heap.size < w5.drew.heap.size := by simp; omega
          have hbx5 : wr.heap.size < w5.drew.heap.size := by simp; omega
          clear g0 g1 g2 g3 g4 g5 g6 g7 g8 g9 hL5 hb5 h7
          go_wp2_with (fail)
          go_region_held_law (fun w' => w'.cell? ⟨w.heap.size, 0, none⟩ = some (.int .i64 st) ∧ w'.cell? ⟨w.heap.size, 1, none⟩ = some (.int .i64 sp) ∧ w'.cell? ⟨w.heap.size, 2, none⟩ = some (.int .i64 de) ∧ w'.cell? ⟨w.heap.size, 3, none⟩ = some (.int .i64 (cn : Int)) ∧ w'.cell? ⟨wr.heap.size, 0, none⟩ = some (.int .i64 (i : Int)) ∧ w'.cell? ⟨wr.heap.size, 1, none⟩ = some (.int .i64 qat) ∧ w'.cell? ⟨wr.heap.size, 2, none⟩ = some (.int .i64 qerr))
            (first | exact h7D | assumption)
            ((first | (go_at_call 9; refine (piv_any st sp de cn (qat + qerr) _ (by omega)).mono ?_; rintro e w6 ⟨rfl, hb6⟩; rw [HIV.out]; have h8 := seven_step hb6 hwl5 hbx5 h7D)))
          try rw [hwd]
          have hb6w : Below w5.heap.size w5 w6 := (Below.refl _ _).drew.trans (hb6.mono (by simp))
          have hs6 := hb6w.size
          have HL6 := Lib.hid (HL5.out.later hb6w)
          clear hb6 hb6w h7D h8
          go_wp2_with (fail)
          go_roundw
          case rel => exact ⟨k + 1, by omega, by go_num, _, _, _, by rw [HTK.out]; exact HL6.out.unwanted (by unfold wantP; rw [HSF.out, decide_eq_false (by omega)]; rfl)⟩
          case measure => simp [intOf]; omega
    · obtain rfl : k = n := by omega
      have hqt : qs.take k = qs := by rw [← HL.out, List.take_length]
      rw [hqt] at hL
      have hlw := hL.below
      have hsz := hlw.size
      have hwsB : w.heap.size < w2.heap.size := by simpa using hws
      have e3 : wr.cell? ⟨w.heap.size, 3, none⟩ = some (.int .i64 (cn : Int)) := by rw [hlw.cell (by exact hwsB)]; exact d3
      obtain ⟨kc, hkc⟩ : ∃ kc, (keyI seed cn cn).1 = kc := ⟨_, rfl⟩
      obtain ⟨kd, hkd⟩ : ∃ kd, (keyI seed cn cn).2 = kd := ⟨_, rfl⟩
      obtain ⟨y0, y1⟩ := (HKEYS.out.below (Nat.le_refl _) hlw).2 cn (by omega)
      rw [hkc] at y0
      rw [hkd] at y1
      simp only [Nat.zero_add] at y0 y1
      have hpk : keyI seed cn cn = (kc, kd) := Prod.ext hkc hkd
      have hdn : downN (cn - 0) (kc, kd) = (fun i => if i = 0 then (ka, kb) else ((0, 0) : Int × Int)) 0 := by
        show downN (cn - 0) (kc, kd) = (ka, kb)
        rw [← hpk, ← HKA.out, ← HKB.out]
        unfold keyI
        simp [downN]
      have hlen := hL.len
      have CD := disc_yes R own ⟨st, sp, de, cn, 0, (fun i => if i = 0 then (ka, kb) else (0, 0)), hv, l⟩ cn kc kd wr.drew (hL.recv.below ((Below.refl _ _).drew) (Nat.le_refl _)) (by show 0 < cn; omega) (by show (cn : Int) ≤ cn; omega) hdn (by show l.length ≤ 1000; rw [HL.out] at hlen; omega)
      have HCD := Lib.hid CD
      have HLL := Lib.hid hL
      have HPK := Lib.hid hpk
      clear CD hL hdn hpk hkc hkd hlen hqt
      have hwl : w.heap.size < wr.drew.heap.size := by simp; omega
      have hGr : G < wr.drew.heap.size := by simp; omega
      have h3 : wr.drew.cell? ⟨w.heap.size, 3, none⟩ = some (.int .i64 (cn : Int)) ∧ wr.drew.cell? ⟨G, cn * 2, none⟩ = some (.int .u64 kc) ∧ wr.drew.cell? ⟨G, cn * 2 + 1, none⟩ = some (.int .u64 kd) := ⟨e3, y0, y1⟩
      have hx1 : w.heap.size ≠ R := by omega
      clear e3 y0 y1 d0 d1 d2 d3
      go_wp2_with (fail)
      go_region_held_law (fun w' => w'.cell? ⟨w.heap.size, 3, none⟩ = some (.int .i64 (cn : Int)) ∧ w'.cell? ⟨G, cn * 2, none⟩ = some (.int .u64 kc) ∧ w'.cell? ⟨G, cn * 2 + 1, none⟩ = some (.int .u64 kd))
        (first | exact h3 | assumption)
        ((first | (go_at_call 10; refine HCD.out.mono ?_; rintro e w5 ⟨ov, hv', rfl, hrow5, hR5, hK5, hI5⟩; have h4 := three_keep hK5 HLL.out.ownB hwsB hGw hwl hGr h3)))
      have hK5w : Keeps own wr w5 := (Below.keeps (Below.refl _ wr).drew (Nat.le_refl _) own).trans hK5 (fun _ _ q => q)
      have hbl5 : Below w2.heap.size w2 w5 := HLL.out.below.trans (hK5w.toBelow HLL.out.ownB (by omega))
      have hbw5 : Below w.heap.size w w5 := hbw2.trans (hbl5.mono hbw2.size)
      have hs5 := hK5.size
      have hq5 : ∀ q ∈ qs, Ints .u8 w5 w5.heap.size q.p q.b ∧ q.b.length = q.n ∧ (q.p = none → q.n = 0) := by
        intro q hq
        obtain ⟨j, hj⟩ := List.mem_iff_getElem?.1 hq
        obtain ⟨-, b1, -, b3, -, -, b6⟩ := HQ.out j q hj
        exact ⟨b1.below' hbw5 hbw5.size, b3, fun e => (b6 e).1⟩
      have hrel := released (keyI seed cn) (putK 0 cn (kc, kd) (fun i => if i = 0 then (ka, kb) else (0, 0))) st sp de cn qs l HLL.out.heard (by
        intro q hq
        obtain ⟨q1, q2⟩ := HLL.out.bounds q hq
        obtain ⟨i, hi⟩ : ∃ i : Nat, q.i = i := ⟨q.i.toNat, by omega⟩
        rw [hi, Int.toNat_natCast]
        unfold putK
        rw [if_pos ⟨by omega, by omega⟩, ← HPK.out]
        unfold keyI
        simp [downN]) (fun q hq => (HLL.out.bounds q hq).2)
      obtain ⟨O, hO⟩ : ∃ O, outM (putK 0 cn (kc, kd) (fun i => if i = 0 then (ka, kb) else (0, 0))) cn l = O := ⟨_, rfl⟩
      obtain ⟨F, hF⟩ : ∃ F, qs.filter (wantP (keyI seed cn) st sp de cn) = F := ⟨_, rfl⟩
      have hwant := row_same HLL.out.want (fun g hg => hK5w.block g (HLL.out.want.lt g hg).2 (HLL.out.wfar g hg))
      rw [hO] at hrow5 hrel
      rw [hF] at hrel hwant
      have hOF : F.length = O.length := by simpa using (congrArg List.length hrel).symm
      have hkeep : keepM (cn : Int) l = [] := List.filter_eq_nil_iff.2 fun m hm => by
        have h2 : m.iv ≤ (cn : Int) := (HLL.out.recv.ivs m hm).2
        simp only [decide_eq_true_eq]; omega
      rw [hkeep] at hR5
      have CK := known_any R own _ w5.drew (hR5.below ((Below.refl _ _).drew) (Nat.le_refl _))
      have CH := held_any R own _ w5.drew (hR5.below ((Below.refl _ _).drew) (Nat.le_refl _))
      simp only [List.length_nil] at CK CH
      have HCK := Lib.hid CK
      have HCH := Lib.hid CH
      obtain ⟨mo, hmo⟩ : ∃ mo, O.length = mo := ⟨_, rfl⟩
      rw [hmo] at hrow5 hOF
      rw [hOF] at hwant
      have hO64 : mo ≤ 64 := by
        have := List.length_filter_le (wantP (keyI seed cn) st sp de cn) qs
        rw [hF, HL.out] at this
        omega
      have hq5F : ∀ q ∈ F, Ints .u8 w5 w5.heap.size q.p q.b ∧ q.b.length = q.n ∧ (q.p = none → q.n = 0) := fun q hq => hq5 q ((List.mem_filter.1 (by rw [hF]; exact hq)).1)
      have hI5O : ∀ m ∈ O, Ints .u8 w5 w5.heap.size m.p m.b := fun m hm => hI5 m ((List.mem_filter.1 (by unfold outM at hO; rw [hO]; exact hm)).1)
      obtain ⟨po, co', hov, -, -⟩ := row_form hrow5
      obtain ⟨pw, cw, hwv, -, -⟩ := row_form hwant
      subst hov
      subst hwv
      have HROW := Lib.hid hrow5
      have HWANT := Lib.hid hwant
      have HREL := Lib.hid hrel
      have HQF := Lib.hid hq5F
      have HIO := Lib.hid hI5O
      have HOL := Lib.hid hmo
      have HOFL := Lib.hid hOF
      have hc5 := h4.1
      have hc5d : w5.drew.cell? ⟨w.heap.size, 3, none⟩ = some (.int .i64 (cn : Int)) := hc5
      clear hrow5 hwant hrel hq5F hI5O hmo hOF hq5 hI5 hkeep hR5 CK CH h4 h3 hK5
      go_wp2_with (fail)
      go_region_held_law (fun w' => w'.cell? ⟨w.heap.size, 3, none⟩ = some (.int .i64 (cn : Int)))
        (first | exact hc5d | assumption)
        ((first | (go_at_call 11; refine HCK.out.mono ?_; rintro e w6 ⟨rfl, rfl⟩) | (go_at_call 12; refine HCH.out.mono ?_; rintro e w6 ⟨rfl, rfl⟩)))
      go_wp2_with (fail)
      go_loopw [17, 196] (fun _ ki wr' => ∃ j : Nat, j ≤ mo ∧ ki = .int .i64 j ∧ Below w5.heap.size w5 wr') (fun _ ki _ => mo - (intOf ki).toNat)
      case atStart => exact ⟨0, by omega, rfl, (Below.refl _ _).drew⟩
      case round =>
        obtain ⟨j, hjm, rfl, hbj⟩ := hrel
        by_cases hlt2 : j < mo
        · obtain ⟨m, hm⟩ : ∃ m, O[j]? = some m := ⟨_, List.getElem?_eq_getElem (by rw [HOL.out]; exact hlt2)⟩
          obtain ⟨q, hq⟩ : ∃ q, F[j]? = some q := ⟨_, List.getElem?_eq_getElem (by rw [HOFL.out]; exact hlt2)⟩
          have hbb : m.b = q.b := by
            have := congrArg (·[j]?) HREL.out
            simpa [hm, hq] using this
          obtain ⟨go, hgo1, rfl⟩ : ∃ go, go < w5.heap.size ∧ po = some ⟨go, 0, none⟩ := row_some HROW.out (by omega)
          obtain ⟨gw, hgw1, rfl⟩ : ∃ gw, gw < w5.heap.size ∧ pw = some ⟨gw, 0, none⟩ := row_some HWANT.out (by omega)
          have c1 := HROW.out.cells (g := go) rfl j (.slice m.p m.b.length m.cap) (by unfold outCells; rw [List.getElem?_map, hm]; rfl)
          have c2 := HWANT.out.cells (g := gw) rfl j (.slice q.p q.n q.c) (by unfold pktCells; rw [List.getElem?_map, hq]; rfl)
          obtain ⟨i2, l2, n2⟩ := HQF.out q (List.mem_of_getElem? hq)
          have i1 := HIO.out m (List.mem_of_getElem? hm)
          have hnil1 : m.p = none → m.b.length = 0 := fun e => by
            rcases Nat.eq_zero_or_pos m.b.length with h | h
            · exact h
            · obtain ⟨a, e1, _⟩ := i1 0 h
              rw [e] at e1; cases e1
          obtain ⟨S, hS⟩ : ∃ S, strOfNums m.b = S := ⟨_, rfl⟩
          have v1 : ∀ nq, (convert 35 9 (.slice m.p m.b.length m.cap)).run Try.prog (wr.drewN nq) = .ok (.string S) (wr.drewN nq) := fun nq => by rw [← hS]; exact conv_ints _ _ _ _ _ (i1.below' (below_drewN hbj nq) (below_drewN hbj nq).size) rfl hnil1
          have v2 : ∀ nq, (convert 35 9 (.slice q.p q.n q.c)).run Try.prog (wr.drewN nq) = .ok (.string S) (wr.drewN nq) := fun nq => by rw [← hS, hbb]; exact conv_ints _ _ _ _ _ (i2.below' (below_drewN hbj nq) (below_drewN hbj nq).size) l2 n2
          have hadd : ∀ g : Nat, (⟨g, 0, none⟩ : Addr).add j = ⟨g, j, none⟩ := fun g => by unfold Addr.add; split <;> simp_all
          rw [hadd] at c1 c2
          have x1 : wr.cell? ⟨go, j, none⟩ = some (.slice m.p m.b.length m.cap) := by rw [hbj.cell (by exact hgo1)]; exact c1
          have x2 : wr.cell? ⟨gw, j, none⟩ = some (.slice q.p q.n q.c) := by rw [hbj.cell (by exact hgw1)]; exact c2
          clear c1 c2 i1 i2 hS hbb hnil1 hm hq hadd
          go_wp2_with (fail)
          go_quiet (fail)
          go_wp2_with (fail)
          go_roundw
          case rel => exact ⟨j + 1, by omega, by go_num, below_drewN hbj nq⟩
          case measure => simp [intOf]; omega
        · obtain rfl : j = mo := by omega
          go_wp2_with (fail)
          go_ret
          exact ⟨rfl, hbw5.trans (hbj.mono hbw5.size)⟩
end Go.Proofs.Ytmhgoknbmbicmaa
