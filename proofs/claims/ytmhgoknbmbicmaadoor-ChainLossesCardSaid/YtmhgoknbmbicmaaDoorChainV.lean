/- The law ChainSound. -/
import Derived.Test.YtmhgoknbmbicmaaDoorChainU
namespace Go.Proofs.YtmhgoknbmbicmaaDoor
open Go.RowKit
set_option linter.unusedVariables false
set_option linter.unusedSimpArgs false

/-- what the loop of ChainSound keeps: y lies in block Y -/
structure SndL (X0 : World) (Y : Nat) (k : Int × Int) (j : Nat) (wr : World) : Prop where
  bel : Below Y X0 wr
  c0 : wr.cell? ⟨Y, 0, none⟩ = some (.int .u64 (downN j k).1)
  c1 : wr.cell? ⟨Y, 1, none⟩ = some (.int .u64 (downN j k).2)
  f0 : wr.frozen? ⟨Y, 0, none⟩ = false
  f1 : wr.frozen? ⟨Y, 1, none⟩ = false
  lt : Y < wr.heap.size

set_option maxHeartbeats 8000000 in
set_option maxRecDepth 100000 in
theorem sound_main (seed odd : Int) (x : Option Addr) (n c : Nat) (b : List Int) (w : World) (hi : Ints .u8 w w.heap.size x b) (hby : Bytes b) (hl : b.length = n) (hnc : n ≤ c) (hcl : c ≤ 9223372036854775807) (hnil : x = none → n = 0 ∧ c = 0)
    (hn : n ≤ 100) (ho0 : odd ≠ 0) (hou : U64 odd) (hc : ConfAt w) :
    Calls Tryd.prog 8 #[.int .u64 seed, .slice x n c, .int .u64 odd] w fun e w' => e = .returned (.bool true) ∧ Below w.heap.size w w' := by
  obtain ⟨K, hK⟩ : ∃ K, keyI seed 10 = K := ⟨_, rfl⟩
  have hdn : ∀ i m : Nat, i + m ≤ 10 → downN m (K (i + m)) = K i := by
    intro i m h
    rw [← hK]
    clear hK hc
    induction m generalizing i with
    | zero => rfl
    | succ m ih =>
      rw [downN_succ, show i + (m + 1) = (i + 1) + m by omega, ih (i + 1) (by omega)]
      exact (keyI_below seed 10 i (by omega)).symm
  have CM : Calls Tryd.prog 13 #[.int .u64 seed, .int .i64 10] w _ := make_some seed 10 w (by omega) (by omega)
  rw [hK] at CM
  have HCM := Lib.hid CM
  have HDN := Lib.hid hdn
  have HI := Lib.hid hi
  have HL := Lib.hid hl
  have hni : ¬ (100 : Int) < n := by omega
  obtain ⟨ou1, ou2⟩ := hou
  clear CM hdn hK hi hl
  go_enter Tryd.func8, Tryd.ntmps8
  go_wp2_with (fail)
  refine HCM.out.mono ?_
  rintro e w1 ⟨g, rfl, hgw, hk1, hb1⟩
  have A1 : AwSt w w1.heap.size g 11 K w1 := ⟨hb1, hc.same (hb1.block 0 hc.2.2.2.2) hb1.size, hk1, Nat.le_refl _, by have := hc.2.2.2.2; have := hb1.size; omega, hb1.size⟩
  have hA2 := A1.step (Below.refl _ _).drew
  obtain ⟨a0, b0, hk0⟩ := pair_ex (K 0)
  obtain ⟨a5, b5, hk5⟩ := pair_ex (K 5)
  have HK0 := Lib.hid hk0
  have HK5 := Lib.hid hk5
  have h6 := hA2.six 0 (by omega) a0 b0 HK0.out
  simp only [Nat.zero_mul, Nat.zero_add] at h6
  have HA2 := Lib.hid hA2
  have h0s : 0 < w1.drew.heap.size := hA2.conf.2.2.2.2
  have hgs : g < w1.drew.heap.size := Nat.lt_of_lt_of_le hA2.keys.1 hA2.size
  clear A1 hk1 hb1 hA2 hk0 hk5
  go_wp2_with (fail)
  go_region_held_law (fun w' => w'.cell? ⟨0, 0, none⟩ = some (.int .i64 1000) ∧ w'.cell? ⟨0, 1, none⟩ = some (.int .i64 100) ∧ w'.cell? ⟨0, 2, none⟩ = some (.int .i64 2) ∧ w'.cell? ⟨0, 3, none⟩ = some (.int .i64 10) ∧ w'.cell? ⟨g, 0, none⟩ = some (.int .u64 a0) ∧ w'.cell? ⟨g, 1, none⟩ = some (.int .u64 b0))
    (first | exact h6 | assumption)
    ((first | (go_at_call 19; refine (new_any 1000 100 2 10 a0 b0 _ (by decide)).mono ?_; rintro e w3 ⟨R, rfl, hR3, hr3, hb3⟩; have h7 := six_low hb3 h0s hgs h6)))
  have HA3 := Lib.hid (HA2.out.step hb3)
  have HR3 := Lib.hid hr3
  have y0 : w3.cell? ⟨g, 10, none⟩ = some (.int .u64 a5) := (HA3.out.key 5 (by omega) a5 b5 HK5.out).1
  have y1 : w3.cell? ⟨g, 11, none⟩ = some (.int .u64 b5) := (HA3.out.key 5 (by omega) a5 b5 HK5.out).2
  have hown : ∀ q, (w1.drew.heap.size ≤ q ∧ q < w3.heap.size) → w1.heap.size ≤ q := fun q h => Nat.le_trans HA2.out.size h.1
  have kc := Lib.run_convert_bytes_const (P := Tryd.prog) w3 36 5 #[.int .u8 109, .int .u8 97, .int .u8 99] 3 3 Tryd.underlying36 Tryd.underlying5
  have hd := Ints.lit .u8 w3 macL 5 (3, 4)
  have hbX : Below w3.heap.size w3 (w3.alloc (.cells #[.int .u8 109, .int .u8 97, .int .u8 99] 5 (3, 4))) := (Below.refl _ _).alloc (Nat.le_refl _) _
  have CD := pderive_any a5 b5 (some ⟨w3.heap.size, 0, none⟩) 3 3 macL _ (hd.mono (by simp)) macL_bytes rfl (Nat.le_refl _) (by omega)
  obtain ⟨d0, hd0⟩ : ∃ d0, der0 a5 b5 macL = d0 := ⟨_, rfl⟩
  obtain ⟨d1, hd1⟩ : ∃ d1, der1 a5 b5 macL = d1 := ⟨_, rfl⟩
  rw [hd0, hd1] at CD
  obtain ⟨T, hT⟩ : ∃ T, tagI d0 d1 b = T := ⟨_, rfl⟩
  have hTu : U64 T := by rw [← hT]; exact mxi_u64 _ _
  have HRT : Hid (rightTag (K 5) b = T) := by show _ = _; unfold rightTag; rw [HK5.out]; show tagI (der0 a5 b5 macL) (der1 a5 b5 macL) b = T; rw [hd0, hd1]; exact hT
  have HCD := Lib.hid CD
  have HT := Lib.hid hT
  have HBX := Lib.hid hbX
  clear hr3 hb3 h6 h7 hd CD hd0 hd1 hT hbX
  go_wp2_with (fail)
  refine HCD.out.mono ?_
  rintro e w4 ⟨rfl, hb4⟩
  have hX4 := HBX.out.trans (hb4.mono HBX.out.size)
  have HA4 := Lib.hid (HA3.out.step hX4)
  have HR4 := Lib.hid (HR3.out.below hX4 (Nat.le_refl _))
  have CT := ptag_any d0 d1 x n c b w4 (HI.out.below' HA4.out.bel HA4.out.bel.size) hby HL.out hnc hcl
  rw [HT.out] at CT
  have HCT := Lib.hid CT
  have hs4 := hX4.size
  clear hb4 kc y0 y1 hX4 CT
  go_wp2_with (fail)
  refine HCT.out.mono ?_
  rintro e w5 ⟨rfl, hb5⟩
  have HA5 := Lib.hid (HA4.out.step hb5)
  have HR5 := Lib.hid (HR4.out.below hb5 (Nat.le_refl _))
  have hs5 := hb5.size
  obtain ⟨TO, hTO⟩ : ∃ TO, IntKind.u64.wrap (T + odd) = TO := ⟨_, rfl⟩
  have hne : T ≠ TO := by
    rw [← hTO, IntKind.wrap_u64]; unfold U64 at hTu; omega
  have C1 := hear_any R _ (newRS 1000 100 2 10 a0 b0) 5 TO 0 1500 x n c b w5 HR5.out (HI.out.below' HA5.out.bel HA5.out.bel.size) hby HL.out (by omega) hnil
  rw [show hearE (newRS 1000 100 2 10 a0 b0) 5 0 1500 = 0 from rfl] at C1
  have HC1 := Lib.hid (C1.mono fun e w' q => (⟨q.1, q.2.2 rfl⟩ : _ ∧ _))
  have HNE := Lib.hid hne
  clear hb5 C1 hne
  go_wp2_with (fail)
  try rw [hTO]
  refine HC1.out.mono ?_
  rintro e w6 ⟨rfl, hk6, mp, mc, hv, hr6⟩
  have hs6 := hk6.size
  have HA6 := Lib.hid (HA5.out.keeps hk6 hown)
  have hown2 : ∀ q, grew (fun q => w1.drew.heap.size ≤ q ∧ q < w3.heap.size) w5 w6 q → w1.heap.size ≤ q := fun q h => by
    rcases h with h | h
    · exact hown q h
    · exact Nat.le_trans HA5.out.size h.1
  have hr6' : Recv w6 (grew (fun q => w1.drew.heap.size ≤ q ∧ q < w3.heap.size) w5 w6) R ⟨1000, 100, 2, 10, 0, fun i => if i = 0 then (a0, b0) else (0, 0), hv, [⟨5, mp, mc, b, TO⟩]⟩ := hr6
  obtain ⟨own, hown'⟩ : ∃ own, grew (fun q => w1.drew.heap.size ≤ q ∧ q < w3.heap.size) w5 w6 = own := ⟨_, rfl⟩
  rw [hown'] at hr6' hown2
  have HR6 := Lib.hid hr6'
  have HO := Lib.hid hown2
  have C2 := hear_any R _ ⟨1000, 100, 2, 10, 0, fun i => if i = 0 then (a0, b0) else (0, 0), hv, [⟨5, mp, mc, b, TO⟩]⟩ 5 T 0 1600 x n c b w6 HR6.out (HI.out.below' HA6.out.bel HA6.out.bel.size) hby HL.out (by omega) hnil
  rw [show hearE ⟨1000, 100, 2, 10, 0, fun i => if i = 0 then (a0, b0) else (0, 0), hv, [⟨5, mp, mc, b, TO⟩]⟩ 5 0 1600 = 17 from rfl] at C2
  have HC2 := Lib.hid (C2.mono fun e w' q => (⟨q.1, q.2.1 (by omega)⟩ : _ ∧ Below w6.heap.size w6 w'))
  clear hk6 hr6 hr6' hown hown2 hown' C2
  go_wp2_with (fail)
  refine HC2.out.mono ?_
  rintro e w7 ⟨rfl, hb7⟩
  have HA7 := Lib.hid (HA6.out.step hb7)
  have HR7 := Lib.hid (HR6.out.below hb7 (Nat.le_refl _))
  have y0 : w7.cell? ⟨g, 10, none⟩ = some (.int .u64 a5) := (HA7.out.key 5 (by omega) a5 b5 HK5.out).1
  have y1 : w7.cell? ⟨g, 11, none⟩ = some (.int .u64 b5) := (HA7.out.key 5 (by omega) a5 b5 HK5.out).2
  clear hb7
  obtain ⟨xa, hxa⟩ : ∃ xa, IntKind.u64.wrap (a5 + odd) = xa := ⟨_, rfl⟩
  go_wp2_with (fail)
  clear y0 y1
  go_loopw [12] (fun ki wr => ∃ j : Nat, j ≤ 5 ∧ ki = .int .i64 j ∧ SndL ((w7.alloc (.cells #[.int .u64 xa, .int .u64 b5] 34)).alloc (.cells #[.int .u64 xa, .int .u64 b5] 34)) (w7.heap.size + 1) (xa, b5) j wr) (fun ki _ => 5 - (intOf ki).toNat)
  case atStart => exact ⟨0, by omega, rfl, Below.refl _ _, by simp [downN], by simp [downN], by simp, by simp, by simp⟩
  case round =>
    obtain ⟨j, hj, rfl, hS⟩ := hrel
    obtain ⟨ya, yb, hyy⟩ := pair_ex (downN j (xa, b5))
    have HS := Lib.hid hS
    have HYY := Lib.hid hyy
    have z0 := hS.c0
    have z1 := hS.c1
    have z2 := hS.f0
    have z3 := hS.f1
    rw [hyy] at z0 z1
    have hlt' := hS.lt
    clear hS hyy
    have hb7 : Below w7.heap.size w7 ((w7.alloc (.cells #[.int .u64 xa, .int .u64 b5] 34)).alloc (.cells #[.int .u64 xa, .int .u64 b5] 34)) := ((Below.refl _ _).alloc (Nat.le_refl _) _).alloc (by simp) _
    have hb7r : Below w7.heap.size w7 wr := hb7.trans (HS.out.bel.mono (by omega))
    have HB7 := Lib.hid hb7r
    clear hb7 hb7r
    by_cases hlt : j < 5
    · have kc := Lib.run_convert_bytes_const (P := Tryd.prog) wr 36 5 #[.int .u8 100, .int .u8 111, .int .u8 119, .int .u8 110] 4 4 Tryd.underlying36 Tryd.underlying5
      have hd := Ints.lit .u8 wr down 5 (4, 5)
      have hbX : Below wr.heap.size wr (wr.alloc (.cells #[.int .u8 100, .int .u8 111, .int .u8 119, .int .u8 110] 5 (4, 5))) := (Below.refl _ _).alloc (Nat.le_refl _) _
      have CD := pderive_any ya yb (some ⟨wr.heap.size, 0, none⟩) 4 4 down _ (hd.mono (by simp)) down_bytes rfl (Nat.le_refl _) (by omega)
      obtain ⟨na, nb, hnn⟩ := pair_ex (downN (j + 1) (xa, b5))
      have hbel : belowI (ya, yb) = (na, nb) := by rw [← HYY.out, ← downN_succ]; exact hnn
      rw [show der0 ya yb down = na from congrArg Prod.fst hbel, show der1 ya yb down = nb from congrArg Prod.snd hbel] at CD
      have HCD := Lib.hid CD
      have HNN := Lib.hid hnn
      have HBX := Lib.hid hbX
      clear CD hd hnn hbel hbX
      go_wp2_with (fail)
      refine HCD.out.mono ?_
      rintro e w8 ⟨rfl, hb8⟩
      have hX8 := HBX.out.trans (hb8.mono HBX.out.size)
      have q0 : w8.cell? ⟨w7.heap.size + 1, 0, none⟩ = some (.int .u64 ya) := by rw [hX8.cell (by exact hlt')]; exact z0
      have q1 : w8.cell? ⟨w7.heap.size + 1, 1, none⟩ = some (.int .u64 yb) := by rw [hX8.cell (by exact hlt')]; exact z1
      have q2 : w8.frozen? ⟨w7.heap.size + 1, 0, none⟩ = false := by rw [hX8.frozen (by exact hlt')]; exact z2
      have q3 : w8.frozen? ⟨w7.heap.size + 1, 1, none⟩ = false := by rw [hX8.frozen (by exact hlt')]; exact z3
      have hs8 := hX8.size
      have HX8 := Lib.hid hX8
      clear hb8 hX8 kc z0 z1 z2 z3
      go_wp2_with (fail)
      go_roundw
      case rel =>
        refine ⟨j + 1, by omega, by go_num, ?_, ?_, ?_, ?_, ?_, ?_⟩
        · exact ((HS.out.bel.trans (HX8.out.mono (by omega))).setCell (by simp) _).setCell (by simp) _
        · rw [HNN.out, World.cell?_setCell_other _ _ _ _ (by simp)]; exact World.cell?_setCell_same _ _ _ q0
        · rw [HNN.out]; exact World.cell?_setCell_same _ _ _ (by rw [World.cell?_setCell_other _ _ _ _ (by simp)]; exact q1)
        · rw [World.frozen?_setCell, World.frozen?_setCell]; exact q2
        · rw [World.frozen?_setCell, World.frozen?_setCell]; exact q3
        · simp [World.setCell]; omega
      case measure => simp [intOf]; omega
    · obtain rfl : j = 5 := by omega
      have hxx : ∀ o v, ((w7.alloc (.cells #[.int .u64 xa, .int .u64 b5] 34)).alloc (.cells #[.int .u64 xa, .int .u64 b5] 34)).cell? ⟨w7.heap.size, o, none⟩ = some v → wr.cell? ⟨w7.heap.size, o, none⟩ = some v := fun o v h => by
        rw [HS.out.bel.cell (by show w7.heap.size < w7.heap.size + 1; omega)]; exact h
      have x0 := hxx 0 (.int .u64 xa) (by simp)
      have x1 := hxx 1 (.int .u64 b5) (by simp)
      have HA8 := Lib.hid (HA7.out.step HB7.out)
      have HR8 := Lib.hid (HR7.out.below HB7.out (Nat.le_refl _))
      have hnotY : ¬ own (w7.heap.size + 1) := fun h => by have := HR7.out.low _ h; omega
      clear hxx
      by_cases hD : downN 5 (xa, b5) = (a0, b0)
      · obtain ⟨rfl, rfl⟩ : ya = a0 ∧ yb = b0 := by have := HYY.out.symm.trans hD; simpa using this
        have C3 := disc_yes R own _ 5 xa b5 wr HR8.out (by show 0 < 5; omega) (by show (5 : Int) ≤ 10; omega) hD (by show 1 ≤ 1000; omega)
        have HC3 := Lib.hid C3
        clear C3 hD
        go_wp2_with (fail)
        refine HC3.out.mono ?_
        rintro e w9 ⟨ov, hv', rfl, -, hr9, hk9, -⟩
        have HA9 := Lib.hid (HA8.out.keeps hk9 HO.out)
        have q0 : w9.cell? ⟨w7.heap.size + 1, 0, none⟩ = some (.int .u64 ya) := by rw [World.cell?_of_block (hk9.block _ hlt' hnotY)]; exact z0
        have q1 : w9.cell? ⟨w7.heap.size + 1, 1, none⟩ = some (.int .u64 yb) := by rw [World.cell?_of_block (hk9.block _ hlt' hnotY)]; exact z1
        obtain ⟨q4, q5⟩ := HA9.out.key 0 (by omega) ya yb HK0.out
        simp only [Nat.zero_mul, Nat.zero_add] at q4 q5
        clear hr9 hk9 z0 z1 z2 z3 x0 x1
        go_wp2_with (fail)
        go_quiet (fail)
        go_wp2_with (fail)
        have hA10 := HA9.out.step (below_drewN (Below.refl _ _) nq)
        refine (awake_any _ hA10.conf).mono ?_
        rintro e w10 ⟨rfl, hb10⟩
        go_wp2_with (fail)
        go_ret
        exact ⟨rfl, (hA10.step hb10).bel⟩
      · have hDf : (ya == a0 && yb == b0) = false := by
          rw [Bool.eq_false_iff]
          intro e
          simp only [Bool.and_eq_true, beq_iff_eq] at e
          exact hD (by rw [HYY.out, e.1, e.2])
        have C3 := disc_tag R own _ 5 xa b5 wr HR8.out (by show 0 < 5; omega) (by show (5 : Int) ≤ 10; omega) hD
        have HC3 := Lib.hid C3
        clear C3 hD
        go_wp2_with (fail)
        refine HC3.out.mono ?_
        rintro e w9 ⟨rfl, hb9⟩
        have HA9 := Lib.hid (HA8.out.step hb9)
        have q0 : w9.cell? ⟨w7.heap.size + 1, 0, none⟩ = some (.int .u64 ya) := by rw [hb9.cell (by exact hlt')]; exact z0
        have q1 : w9.cell? ⟨w7.heap.size + 1, 1, none⟩ = some (.int .u64 yb) := by rw [hb9.cell (by exact hlt')]; exact z1
        obtain ⟨q4, q5⟩ := HA9.out.key 0 (by omega) a0 b0 HK0.out
        simp only [Nat.zero_mul, Nat.zero_add] at q4 q5
        have HR9 := Lib.hid (HR8.out.below hb9 (Nat.le_refl _))
        clear hb9 z0 z1 z2 z3 x0 x1
        go_wp2_with (fail)
        go_quiet (fail)
        have HA10 := Lib.hid (HA9.out.step (below_drewN (Below.refl _ _) nq))
        have HR10 := Lib.hid (HR9.out.below (below_drewN (Below.refl _ _) nq) (Nat.le_refl _))
        have HKN := Lib.hid (known_any R own _ _ HR10.out)
        have CH := held_any R own _ _ HR10.out
        simp only [List.length_cons, List.length_nil] at CH
        have HHE := Lib.hid CH
        clear CH q0 q1 q4 q5
        go_wp2_with (fail)
        refine HKN.out.mono ?_
        rintro e w11 ⟨rfl, rfl⟩
        go_wp2_with (fail)
        refine HHE.out.mono ?_
        rintro e w11 ⟨rfl, rfl⟩
        obtain ⟨q6, q7⟩ := HA10.out.key 5 (by omega) a5 b5 HK5.out
        have q6' : (w9.drewN nq).cell? ⟨g, 10, none⟩ = some (.int .u64 a5) := q6
        have q7' : (w9.drewN nq).cell? ⟨g, 11, none⟩ = some (.int .u64 b5) := q7
        have C4 := disc_yes R own _ 5 a5 b5 _ HR10.out (by show 0 < 5; omega) (by show (5 : Int) ≤ 10; omega) (by show downN 5 (a5, b5) = (a0, b0); rw [← HK5.out, ← HK0.out]; exact HDN.out 0 5 (by omega)) (by show 1 ≤ 1000; omega)
        simp only at C4
        have hput5 : putK 0 5 (a5, b5) (fun i => if i = 0 then (a0, b0) else (0, 0)) 5 = K 5 := by
          show (if 0 < 5 ∧ 5 ≤ 5 then downN (5 - 5) (a5, b5) else _) = _
          rw [if_pos ⟨by omega, by omega⟩, ← HK5.out]
          rfl
        obtain ⟨KP, hKP⟩ : ∃ KP, putK 0 5 (a5, b5) (fun i => if i = 0 then (a0, b0) else (0, 0)) = KP := ⟨_, rfl⟩
        rw [hKP] at C4 hput5
        have hO : outM KP ((5 : Nat) : Int) [⟨5, mp, mc, b, TO⟩] = [] := by
          unfold outM
          rw [List.filter_cons, if_neg]
          · rfl
          · show ¬ (decide ((5 : Int) ≤ 5) && (rightTag (KP 5) b == TO)) = true
            rw [hput5, HRT.out]
            have := HNE.out
            simp [this]
        have hkp : keepM ((5 : Nat) : Int) [⟨5, mp, mc, b, TO⟩] = [] := by
          unfold keepM; rw [List.filter_cons, if_neg]
          · rfl
          · show ¬ decide ((5 : Int) < 5) = true
            decide
        rw [hO, hkp] at C4
        have HC4 := Lib.hid C4
        clear C4 hO hkp hKP hput5 q6 q7
        go_wp2_with (fail)
        refine HC4.out.mono ?_
        rintro e w12 ⟨ov, hv', rfl, hrow, hr12, hk12, -⟩
        obtain ⟨po, pc, hov, -, -⟩ := row_form hrow
        subst hov
        have HA12 := Lib.hid (HA10.out.keeps hk12 HO.out)
        have CH2 := held_any R own _ _ hr12
        simp only [List.length_nil] at CH2
        have HH2 := Lib.hid CH2
        clear hrow hr12 hk12 CH2 q6' q7'
        go_wp2_with (fail)
        refine HH2.out.mono ?_
        rintro e w13 ⟨rfl, rfl⟩
        go_wp2_with (fail)
        refine (awake_any _ HA12.out.conf).mono ?_
        rintro e w14 ⟨rfl, hb14⟩
        go_wp2_with (fail)
        go_ret
        exact ⟨rfl, (HA12.out.step hb14).bel⟩

theorem ChainSound_walk (v0 v1 v2 : Value) (w : World) (h0 : IsInt .u64 w v0) (h1 : IsInts .u8 w v1) (h2 : IsInt .u64 w v2) (hc : ConfAt w) :
    Calls Tryd.prog 8 #[v0, v1, v2] w fun e w' => e = .returned (.bool true) ∧ Below w.heap.size w w' := by
  obtain ⟨seed, rfl, -⟩ := h0
  obtain ⟨x, n, c, ys, rfl, i1, i2, i3, i4, i5, i6⟩ := h1
  obtain ⟨odd, rfl, ho⟩ := h2
  by_cases hn : 100 < n
  · have hn' : (100 : Int) < n := by omega
    have HA := Lib.hid (awake_any w hc)
    clear hc
    go_enter Tryd.func8, Tryd.ntmps8
    go_wp2_with (fail)
    refine HA.out.mono ?_
    rintro e w1 ⟨rfl, hb1⟩
    go_wp2_with (fail)
    go_ret
    exact ⟨rfl, hb1⟩
  · by_cases h0 : odd = 0
    · subst h0
      have hn' : ¬ (100 : Int) < n := by omega
      have HA := Lib.hid (awake_any w hc)
      clear hc
      go_enter Tryd.func8, Tryd.ntmps8
      go_wp2_with (fail)
      refine HA.out.mono ?_
      rintro e w1 ⟨rfl, hb1⟩
      go_wp2_with (fail)
      go_ret
      exact ⟨rfl, hb1⟩
    · exact sound_main seed odd x n c ys w i1 (fun y hy => wf_u8 (i2 y hy)) i3 i4 i5 i6 (by omega) h0 (wf_u64 ho) hc
end Go.Proofs.YtmhgoknbmbicmaaDoor
