/- The plain mathematics of configurations and intervals, and what chain.Check, chain.Interval and below return. -/
import Derived.Test.YtmhgoknbmbicmaaDoorMacCore
import Derived.Lib.SlBytesConst
namespace Go.Proofs.YtmhgoknbmbicmaaDoor
open Go.RowKit
set_option linter.unusedVariables false
set_option linter.unusedSimpArgs false

def okC (st sp de co : Int) : Bool := decide (0 ≤ st ∧ st ≤ 1125899906842624 ∧ 1 ≤ sp ∧ sp ≤ 1125899906842624 ∧ 1 ≤ de ∧ de ≤ 8 ∧ 1 ≤ co ∧ co ≤ 64)
def errC (st sp de co : Int) : Int := if okC st sp de co = true then 0 else 3
/-- the interval of a time -/
def ivI (st sp de co t : Int) : Int := if okC st sp de co = true ∧ st ≤ t then (if (t - st) / sp ≤ co then (t - st) / sp else co) + 1 else 0
theorem okC_iff {st sp de co : Int} : okC st sp de co = true ↔ 0 ≤ st ∧ st ≤ 1125899906842624 ∧ 1 ≤ sp ∧ sp ≤ 1125899906842624 ∧ 1 ≤ de ∧ de ≤ 8 ∧ 1 ≤ co ∧ co ≤ 64 := by simp [okC]

set_option maxHeartbeats 2000000 in
theorem pcheck_any (st sp de co : Int) (w : World) :
    Calls Tryd.prog 10 #[.agg #[.int .i64 st, .int .i64 sp, .int .i64 de, .int .i64 co]] w fun e w' => e = .returned (.int .i64 (errC st sp de co)) ∧ Below w.heap.size w w' := by
  have hb : Below w.heap.size w (w.alloc (.cells #[.int .i64 st, .int .i64 sp, .int .i64 de, .int .i64 co] 23)) := (Below.refl _ _).alloc (Nat.le_refl _) _
  have h3 : ¬ okC st sp de co = true → errC st sp de co = 3 := fun h => by unfold errC; rw [if_neg h]
  have H3 := Lib.hid h3
  clear h3
  by_cases c0 : st < 0
  · have HR : Hid (errC st sp de co = 3) := H3.out (by rw [okC_iff]; omega)
    go_enter Tryd.func10, Tryd.ntmps10
    go_wp2_with (fail)
    go_ret
    exact ⟨by rw [HR.out]; rfl, hb⟩
  · have d0 : 0 ≤ st := by omega
    by_cases c1 : 1125899906842624 < st
    · have HR : Hid (errC st sp de co = 3) := H3.out (by rw [okC_iff]; omega)
      go_enter Tryd.func10, Tryd.ntmps10
      go_wp2_with (fail)
      go_ret
      exact ⟨by rw [HR.out]; rfl, hb⟩
    · have d1 : st ≤ 1125899906842624 := by omega
      by_cases c2 : sp < 1
      · have HR : Hid (errC st sp de co = 3) := H3.out (by rw [okC_iff]; omega)
        go_enter Tryd.func10, Tryd.ntmps10
        go_wp2_with (fail)
        go_ret
        exact ⟨by rw [HR.out]; rfl, hb⟩
      · have d2 : 1 ≤ sp := by omega
        by_cases c3 : 1125899906842624 < sp
        · have HR : Hid (errC st sp de co = 3) := H3.out (by rw [okC_iff]; omega)
          go_enter Tryd.func10, Tryd.ntmps10
          go_wp2_with (fail)
          go_ret
          exact ⟨by rw [HR.out]; rfl, hb⟩
        · have d3 : sp ≤ 1125899906842624 := by omega
          by_cases c4 : de < 1
          · have HR : Hid (errC st sp de co = 3) := H3.out (by rw [okC_iff]; omega)
            go_enter Tryd.func10, Tryd.ntmps10
            go_wp2_with (fail)
            go_ret
            exact ⟨by rw [HR.out]; rfl, hb⟩
          · have d4 : 1 ≤ de := by omega
            by_cases c5 : 8 < de
            · have HR : Hid (errC st sp de co = 3) := H3.out (by rw [okC_iff]; omega)
              go_enter Tryd.func10, Tryd.ntmps10
              go_wp2_with (fail)
              go_ret
              exact ⟨by rw [HR.out]; rfl, hb⟩
            · have d5 : de ≤ 8 := by omega
              by_cases c6 : co < 1
              · have HR : Hid (errC st sp de co = 3) := H3.out (by rw [okC_iff]; omega)
                go_enter Tryd.func10, Tryd.ntmps10
                go_wp2_with (fail)
                go_ret
                exact ⟨by rw [HR.out]; rfl, hb⟩
              · have d6 : 1 ≤ co := by omega
                by_cases c7 : 64 < co
                · have HR : Hid (errC st sp de co = 3) := H3.out (by rw [okC_iff]; omega)
                  go_enter Tryd.func10, Tryd.ntmps10
                  go_wp2_with (fail)
                  go_ret
                  exact ⟨by rw [HR.out]; rfl, hb⟩
                · have d7 : co ≤ 64 := by omega
                  have HR : Hid (errC st sp de co = 0) := by show _ = _; unfold errC; rw [if_pos (by rw [okC_iff]; omega)]
                  go_enter Tryd.func10, Tryd.ntmps10
                  go_wp2_with (fail)
                  go_ret
                  exact ⟨by rw [HR.out]; rfl, hb⟩

set_option maxHeartbeats 2000000 in
theorem piv_any (st sp de co t : Int) (w : World) (ht : t ≤ 9223372036854775807) :
    Calls Tryd.prog 15 #[.agg #[.int .i64 st, .int .i64 sp, .int .i64 de, .int .i64 co], .int .i64 t] w fun e w' => e = .returned (.int .i64 (ivI st sp de co t)) ∧ Below w.heap.size w w' := by
  have hb : Below w.heap.size w (w.alloc (.cells #[.int .i64 st, .int .i64 sp, .int .i64 de, .int .i64 co] 23)) := (Below.refl _ _).alloc (Nat.le_refl _) _
  have C := pcheck_any st sp de co (w.alloc (.cells #[.int .i64 st, .int .i64 sp, .int .i64 de, .int .i64 co] 23))
  by_cases hok : okC st sp de co = true
  · rw [show errC st sp de co = 0 from by unfold errC; rw [if_pos hok]] at C
    obtain ⟨o1, o2, o3, o4, o5, o6, o7, o8⟩ := okC_iff.1 hok
    by_cases h1 : t < st
    · have HR : Hid (ivI st sp de co t = 0) := by show _ = _; unfold ivI; rw [if_neg (by omega)]
      clear hok
      go_enter Tryd.func15, Tryd.ntmps15
      go_wp2_with (fail)
      refine C.mono ?_
      rintro e w1 ⟨rfl, hb1⟩
      have c0 : w1.cell? ⟨w.heap.size, 0, none⟩ = some (.int .i64 st) := by rw [hb1.cell (by simp)]; simp
      go_wp2_with (fail)
      go_ret
      exact ⟨by rw [HR.out]; rfl, hb.trans (hb1.mono (by simp))⟩
    · obtain ⟨q, hq⟩ : ∃ q, (t - st) / sp = q := ⟨_, rfl⟩
      have hq0 : 0 ≤ q := by rw [← hq]; exact Int.ediv_nonneg (by omega) (by omega)
      have hq1 : q ≤ t - st := by rw [← hq]; exact Int.ediv_le_self _ (by omega)
      have HR : Hid (ivI st sp de co t = (if q ≤ co then q else co) + 1) := by show _ = _; unfold ivI; rw [if_pos ⟨hok, by omega⟩, hq]
      clear hok
      by_cases h2 : q ≤ co
      all_goals
        go_enter Tryd.func15, Tryd.ntmps15
        go_wp2_with (fail)
        refine C.mono ?_
        rintro e w1 ⟨rfl, hb1⟩
        have c0 : w1.cell? ⟨w.heap.size, 0, none⟩ = some (.int .i64 st) := by rw [hb1.cell (by simp)]; simp
        have c1 : w1.cell? ⟨w.heap.size, 1, none⟩ = some (.int .i64 sp) := by rw [hb1.cell (by simp)]; simp
        have c3 : w1.cell? ⟨w.heap.size, 3, none⟩ = some (.int .i64 co) := by rw [hb1.cell (by simp)]; simp
        go_wp2_with (fail)
        go_ret
        exact ⟨by rw [HR.out]; simp [h2] <;> omega, hb.trans (hb1.mono (by simp))⟩
  · rw [show errC st sp de co = 3 from by unfold errC; rw [if_neg hok]] at C
    have HR : Hid (ivI st sp de co t = 0) := by show _ = _; unfold ivI; rw [if_neg (fun h => hok h.1)]
    clear hok
    go_enter Tryd.func15, Tryd.ntmps15
    go_wp2_with (fail)
    refine C.mono ?_
    rintro e w1 ⟨rfl, hb1⟩
    go_wp2_with (fail)
    go_ret
    exact ⟨by rw [HR.out]; rfl, hb.trans (hb1.mono (by simp))⟩

/-! ### keys -/
def down : List Int := [100, 111, 119, 110]
theorem down_bytes : Bytes down := by unfold Bytes down; decide
noncomputable def belowI (k : Int × Int) : Int × Int := (der0 k.1 k.2 down, der1 k.1 k.2 down)
def isU64 (k : Int × Int) : Prop := U64 k.1 ∧ U64 k.2
theorem der_u64 (a b : Int) (l : List Int) : U64 (der0 a b l) ∧ U64 (der1 a b l) := ⟨mxi_u64 _ _, mxi_u64 _ _⟩
theorem below_u64 (k : Int × Int) : isU64 (belowI k) := der_u64 _ _ _

/-- a literal byte string -/
theorem Ints.lit (k : IntKind) (X : World) (l : List Int) (t : TypeId) (fr : Nat × Nat) : Ints k (X.alloc (.cells (l.map (Value.int k)).toArray t fr)) (X.heap.size + 1) (some ⟨X.heap.size, 0, none⟩) l := by
  intro i hi
  refine ⟨_, rfl, by simp, ?_⟩
  have h : (X.alloc (.cells (l.map (Value.int k)).toArray t fr)).heap[X.heap.size]? = some (.cells (l.map (Value.int k)).toArray t fr) := by
    show (X.heap.push _)[X.heap.size]? = _
    simp
  rw [show (⟨X.heap.size, 0, none⟩ : Addr).add i = ⟨X.heap.size, i, none⟩ from by unfold Addr.add; split <;> simp_all, cell_of_row _ X.heap.size i _ t fr h]
  simp [List.getD_eq_getElem?_getD, List.getElem?_eq_getElem hi]

set_option maxHeartbeats 1000000 in
theorem below_any (a b : Int) (w : World) :
    Calls Tryd.prog 27 #[.agg #[.int .u64 a, .int .u64 b]] w fun e w' => e = .returned (.agg #[.int .u64 (belowI (a, b)).1, .int .u64 (belowI (a, b)).2]) ∧ Below w.heap.size w w' := by
  obtain ⟨X, hX⟩ : ∃ X, X = (w.alloc (.cells #[.int .u64 a, .int .u64 b] 34)).alloc (.cells #[.int .u64 0, .int .u64 0] 34) := ⟨_, rfl⟩
  have hXs : X.heap.size = w.heap.size + 1 + 1 := by rw [hX]; simp
  have kc := Lib.run_convert_bytes_const (P := Tryd.prog) X 36 5 #[.int .u8 100, .int .u8 111, .int .u8 119, .int .u8 110] 4 4 Tryd.underlying36 Tryd.underlying5
  have hd := Ints.lit .u8 X down 5 (4, 5)
  have hbX : Below w.heap.size w X := by rw [hX]; exact ((Below.refl _ _).alloc (Nat.le_refl _) _).alloc (by simp) _
  have hbY : Below w.heap.size w (X.alloc (.cells #[.int .u8 100, .int .u8 111, .int .u8 119, .int .u8 110] 5 (4, 5))) := hbX.alloc (by omega) _
  rw [hXs] at kc hd
  have C := pderive_any a b (some ⟨w.heap.size + 1 + 1, 0, none⟩) 4 4 down _ (hd.mono (by simp; omega)) down_bytes rfl (Nat.le_refl _) (by omega)
  obtain ⟨d0, hd0⟩ : ∃ d0, (belowI (a, b)).1 = d0 := ⟨_, rfl⟩
  obtain ⟨d1, hd1⟩ : ∃ d1, (belowI (a, b)).2 = d1 := ⟨_, rfl⟩
  rw [show der0 a b down = d0 from hd0, show der1 a b down = d1 from hd1] at C
  rw [hd0, hd1]
  have e0 : X.cell? ⟨w.heap.size + 1, 0, none⟩ = some (.int .u64 0) := by rw [hX]; simp
  have e1 : X.cell? ⟨w.heap.size + 1, 1, none⟩ = some (.int .u64 0) := by rw [hX]; simp
  have e2 : X.frozen? ⟨w.heap.size + 1, 0, none⟩ = false := by rw [hX]; simp
  have e3 : X.frozen? ⟨w.heap.size + 1, 1, none⟩ = false := by rw [hX]; simp
  have HC := Lib.hid C
  have hsz : (X.alloc (.cells #[.int .u8 100, .int .u8 111, .int .u8 119, .int .u8 110] 5 (4, 5))).heap.size = w.heap.size + 1 + 1 + 1 := by simp [hXs]
  have HSZ := Lib.hid hsz
  have hbXY : Below X.heap.size X (X.alloc (.cells #[.int .u8 100, .int .u8 111, .int .u8 119, .int .u8 110] 5 (4, 5))) := (Below.refl _ _).alloc (Nat.le_refl _) _
  have lt1 : (⟨w.heap.size + 1, 0, none⟩ : Addr).block < X.heap.size := by rw [hXs]; simp
  have HX := Lib.hid hX
  have HXS := Lib.hid hXs
  have HD0 := Lib.hid hd0
  have HD1 := Lib.hid hd1
  clear C hd hd0 hd1 hsz hXs
  rw [hX] at kc
  clear hX
  go_enter Tryd.func27, Tryd.ntmps27
  go_wp2_with (fail)
  rw [← HX.out]
  refine HC.out.mono ?_
  rintro e w1 ⟨rfl, hb⟩
  have hb2 := hbXY.trans (hb.mono hbXY.size)
  have c0 : w1.cell? ⟨w.heap.size + 1, 0, none⟩ = some (.int .u64 0) := by rw [hb2.cell lt1]; exact e0
  have c1 : w1.cell? ⟨w.heap.size + 1, 1, none⟩ = some (.int .u64 0) := by rw [hb2.cell lt1]; exact e1
  have f0 : w1.frozen? ⟨w.heap.size + 1, 0, none⟩ = false := by rw [hb2.frozen lt1]; exact e2
  have f1 : w1.frozen? ⟨w.heap.size + 1, 1, none⟩ = false := by rw [hb2.frozen lt1]; exact e3
  have hbw := hbY.trans (hb.mono hbY.size)
  clear hb hb2 kc hbXY e0 e1 e2 e3
  go_wp2_with (fail)
  refine bodyPost_ret (v := .agg #[.int .u64 d0, .int .u64 d1]) ?_ rfl ⟨rfl, ?_⟩
  · simp [results, Tryd.results27, go_sem, c0, c1]
  · exact (hbw.setCell (by simp) _).setCell (by simp) _
end Go.Proofs.YtmhgoknbmbicmaaDoor
