/- The law ChainLosses. -/
import Derived.Test.YtmhgoknbmbicmaaDoorChainZ
namespace Go.Proofs.YtmhgoknbmbicmaaDoor
open Go.RowKit
set_option linter.unusedVariables false
set_option linter.unusedSimpArgs false

def Bools (w : World) (x : Option Addr) (bs : List Bool) : Prop := ∀ i, i < bs.length → ∃ a, x = some a ∧ a.block < w.heap.size ∧ w.cell? (a.add i) = some (.bool (bs.getD i false))
theorem hear_zero {K0 : Nat → Int × Int} {hv : Value} {l : List Msg} {i : Nat} (h1 : 1 ≤ i) (h2 : i ≤ 10) (hl : l.length < 64) : hearE ⟨1000, 100, 2, 10, 0, K0, hv, l⟩ i 0 0 = 0 := by
  have e : ivI 1000 100 2 10 0 = 0 := by decide
  unfold hearE ivBad
  simp only
  rw [if_neg (by omega), if_neg (by decide), e, if_neg (by omega), if_neg (by omega), if_neg (by omega)]

set_option maxHeartbeats 16000000 in
set_option maxRecDepth 100000 in
theorem losses_main (seed : Int) (x : Option Addr) (n c : Nat) (zs : List Int) (xo : Option Addr) (no co : Nat) (bs : List Bool) (w : World) (hi : Ints .i64 w w.heap.size x zs) (hl : zs.length = n) (hn : n ≤ 30)
    (hio : Bools w xo bs) (hlo : bs.length = no) (hno : no ≤ 30) (hc : ConfAt w) :
    Calls Tryd.prog 7 #[.int .u64 seed, .slice x n c, .slice xo no co] w fun e w' => e = .returned (.bool true) ∧ Below w.heap.size w w' := by
  obtain ⟨K, hK⟩ : ∃ K, keyI seed 10 = K := ⟨_, rfl⟩
  have hdn : ∀ i m : Nat, i + m ≤ 10 → downN m (K (i + m)) = K i := by
    intro i m h
    rw [← hK]
    clear hK hc
    induction m generalizing i with
    | zero => rfl
    | succ m ih =>
      rw [downN_succ, show i + (m + 1) = (i + 1) + m by omega, ih (i + 1) (by omega)]
      exact (keyI_below seed 10 i (by omega)).symm
  have CM : Calls Tryd.prog 13 #[.int .u64 seed, .int .i64 10] w _ := make_some seed 10 w (by omega) (by omega)
  rw [hK] at CM
  have HCM := Lib.hid CM
  have HDN := Lib.hid hdn
  have HI := Lib.hid hi
  have HIO := Lib.hid hio
  have HL := Lib.hid hl
  have HLO := Lib.hid hlo
  have hni : ¬ (30 : Int) < n := by omega
  have hnbi : ¬ (30 : Int) < no := by omega
  clear CM hdn hK hi hl hio hlo
  go_enter Tryd.func7, Tryd.ntmps7
  go_wp2_with (fail)
  refine HCM.out.mono ?_
  rintro e w1 ⟨g, rfl, hgw, hk1, hb1⟩
  have A1 : AwSt w w1.heap.size g 11 K w1 := ⟨hb1, hc.same (hb1.block 0 hc.2.2.2.2) hb1.size, hk1, Nat.le_refl _, by have := hc.2.2.2.2; have := hb1.size; omega, hb1.size⟩
  have hA2 := A1.step (Below.refl _ _).drew
  obtain ⟨a0, b0, hk0⟩ := pair_ex (K 0)
  have HK0 := Lib.hid hk0
  have h6 := hA2.six 0 (by omega) a0 b0 HK0.out
  simp only [Nat.zero_mul, Nat.zero_add] at h6
  have HA2 := Lib.hid hA2
  have h0s : 0 < w1.drew.heap.size := hA2.conf.2.2.2.2
  have hgs : g < w1.drew.heap.size := Nat.lt_of_lt_of_le hA2.keys.1 hA2.size
  have hgB : g < w1.heap.size := hA2.keys.1
  have hww1 : w.heap.size ≤ w1.heap.size := hA2.wB
  clear A1 hk1 hb1 hA2 hk0
  go_wp2_with (fail)
  go_region_held_law (fun w' => w'.cell? ⟨0, 0, none⟩ = some (.int .i64 1000) ∧ w'.cell? ⟨0, 1, none⟩ = some (.int .i64 100) ∧ w'.cell? ⟨0, 2, none⟩ = some (.int .i64 2) ∧ w'.cell? ⟨0, 3, none⟩ = some (.int .i64 10) ∧ w'.cell? ⟨g, 0, none⟩ = some (.int .u64 a0) ∧ w'.cell? ⟨g, 1, none⟩ = some (.int .u64 b0))
    (first | exact h6 | assumption)
    ((first
      | (go_at_call 19; have _ := h6; refine (new_any 1000 100 2 10 a0 b0 w1.drew (by decide)).mono ?_; rintro e w3 ⟨RA, rfl, hR3, hr3, hb3⟩; have h7 := six_low hb3 h0s hgs h6; have h0t := Nat.lt_of_lt_of_le h0s hb3.size; have hgt := Nat.lt_of_lt_of_le hgs hb3.size)
      | (go_at_call 19; refine (new_any 1000 100 2 10 a0 b0 w3 (by decide)).mono ?_; rintro e w4 ⟨RB, rfl, hR4, hr4, hb4⟩; have h8 := six_low hb4 h0t hgt h7)))
  have HA4 := Lib.hid ((HA2.out.step hb3).step hb4)
  have HRA := Lib.hid ((show Recv w3 _ RA ⟨1000, 100, 2, 10, 0, fun i => if i = 0 then (a0, b0) else (0, 0), .slice none 0 0, []⟩ from hr3).below hb4 (Nat.le_refl _))
  have HRB := Lib.hid (show Recv w4 _ RB ⟨1000, 100, 2, 10, 0, fun i => if i = 0 then (a0, b0) else (0, 0), .slice none 0 0, []⟩ from hr4)
  have hs3 := hb3.size
  obtain ⟨KZ, hKZ⟩ : ∃ KZ : Nat → Int × Int, (fun i => if i = 0 then (a0, b0) else (0, 0)) = KZ := ⟨_, rfl⟩
  have hKZ0 : KZ 0 = K 0 := by rw [← hKZ, HK0.out]; rfl
  rw [hKZ] at HRA HRB
  have HKZ := Lib.hid hKZ0
  clear hr3 hr4 hb3 hb4 h6 h7 h8 hKZ hKZ0
  go_wp2_with (fail)
  go_loopw [10] (fun ki wr => ∃ k : Nat, k ≤ n ∧ ki = .int .i64 k ∧ ∃ ownA ownB hvA hvB lA lB, lA.length = k ∧ L1 w w1.heap.size g RA RB K KZ ownA ownB hvA hvB lA lB wr) (fun ki _ => n - (intOf ki).toNat)
  case atStart =>
    exact ⟨0, by omega, rfl, _, _, _, _, [], [], rfl, HA4.out, HRA.out, HRB.out, fun q h => Nat.le_trans HA2.out.size h.1, fun q h => Nat.le_trans HA2.out.size (Nat.le_trans hs3 h.1), fun q h h2 => by have := h.2; have := h2.1; omega, rfl, fun m hm => by cases hm⟩
  case round =>
    obtain ⟨k, hkn, rfl, ownA, ownB, hvA, hvB, lA, lB, hlen, hC⟩ := hrel
    have hBr : w1.heap.size ≤ wr.heap.size := hC.aw.size
    have hlenB : lB.length = k := by have := congrArg List.length hC.same; simp at this; omega
    by_cases hlt : k < n
    · obtain ⟨a, rfl, hab, hac⟩ := HI.out k (by rw [HL.out]; exact hlt)
      have hak : (a.add k).block < w.heap.size := by unfold Addr.add; split <;> exact hab
      have e0 : wr.cell? (a.add k) = some (.int .i64 (zs.getD k 0)) := by rw [hC.aw.bel.cell (by exact hak)]; exact hac
      obtain ⟨i, hiz⟩ : ∃ i, zs.getD k 0 = i := ⟨_, rfl⟩
      rw [hiz] at e0
      have HC := Lib.hid hC
      have hwr := hC.aw.bel.size
      clear hC hac hiz
      by_cases u1 : i < 1
      · go_wp2_with (fail)
        refine (awake_any _ HC.out.aw.conf).mono ?_
        rintro e w4 ⟨rfl, hb4⟩
        go_wp2_with (fail)
        go_ret
        exact ⟨rfl, (HC.out.aw.step hb4).bel⟩
      by_cases u2 : 10 < i
      · go_wp2_with (fail)
        refine (awake_any _ HC.out.aw.conf).mono ?_
        rintro e w4 ⟨rfl, hb4⟩
        go_wp2_with (fail)
        go_ret
        exact ⟨rfl, (HC.out.aw.step hb4).bel⟩
      obtain ⟨j, rfl⟩ : ∃ j : Nat, i = j := ⟨i.toNat, by omega⟩
      have hwk : IntKind.u8.wrap (k : Int) = k := by rw [IntKind.wrap_u8]; omega
      have hwj : IntKind.u8.wrap (j : Int) = j := by rw [IntKind.wrap_u8]; omega
      obtain ⟨ka, kb, hkk⟩ := pair_ex (K j)
      have hbm : Below wr.heap.size wr (wr.alloc (.cells #[.int .u8 (j : Int), .int .u8 (k : Int)] 5)) := (Below.refl _ _).alloc (Nat.le_refl _) _
      have HC5 := Lib.hid (HC.out.later hbm)
      obtain ⟨y0, y1⟩ := HC5.out.aw.key j (by omega) ka kb hkk
      have e5 : (wr.alloc (.cells #[.int .u8 (j : Int), .int .u8 (k : Int)] 5)).cell? (a.add k) = some (.int .i64 (j : Int)) := by rw [hbm.cell (by omega)]; exact e0
      have hbmy : Bytes [(j : Int), (k : Int)] := by
        intro y hy
        simp at hy
        rcases hy with rfl | rfl <;> omega
      have HM5 : Hid (Ints .u8 (wr.alloc (.cells #[.int .u8 (j : Int), .int .u8 (k : Int)] 5)) (wr.alloc (.cells #[.int .u8 (j : Int), .int .u8 (k : Int)] 5)).heap.size (some ⟨wr.heap.size, 0, none⟩) [(j : Int), (k : Int)]) := Lib.hid ((Ints.lit .u8 wr [(j : Int), (k : Int)] 5 (0, 0)).mono (by simp))
      have hsX : (wr.alloc (.cells #[.int .u8 (j : Int), .int .u8 (k : Int)] 5)).heap.size = wr.heap.size + 1 := by simp
      have kc := Lib.run_convert_bytes_const (P := Tryd.prog) (wr.alloc (.cells #[.int .u8 (j : Int), .int .u8 (k : Int)] 5)) 36 5 #[.int .u8 109, .int .u8 97, .int .u8 99] 3 3 Tryd.underlying36 Tryd.underlying5
      rw [hsX] at kc
      have hd := Ints.lit .u8 (wr.alloc (.cells #[.int .u8 (j : Int), .int .u8 (k : Int)] 5)) macL 5 (3, 4)
      have hbX : Below (wr.alloc (.cells #[.int .u8 (j : Int), .int .u8 (k : Int)] 5)).heap.size (wr.alloc (.cells #[.int .u8 (j : Int), .int .u8 (k : Int)] 5)) ((wr.alloc (.cells #[.int .u8 (j : Int), .int .u8 (k : Int)] 5)).alloc (.cells #[.int .u8 109, .int .u8 97, .int .u8 99] 5 (3, 4))) := (Below.refl _ _).alloc (Nat.le_refl _) _
      have CD := pderive_any ka kb (some ⟨wr.heap.size + 1, 0, none⟩) 3 3 macL ((wr.alloc (.cells #[.int .u8 (j : Int), .int .u8 (k : Int)] 5)).alloc (.cells #[.int .u8 109, .int .u8 97, .int .u8 99] 5 (3, 4))) (by rw [← hsX]; exact hd.mono (by simp)) macL_bytes rfl (Nat.le_refl _) (by omega)
      obtain ⟨d0, hd0⟩ : ∃ d0, der0 ka kb macL = d0 := ⟨_, rfl⟩
      obtain ⟨d1, hd1⟩ : ∃ d1, der1 ka kb macL = d1 := ⟨_, rfl⟩
      rw [hd0, hd1] at CD
      obtain ⟨T, hT⟩ : ∃ T, tagI d0 d1 [(j : Int), (k : Int)] = T := ⟨_, rfl⟩
      have HCD := Lib.hid CD
      have HT := Lib.hid hT
      have HBX := Lib.hid hbX
      have hj1 : (j : Int) < 11 := by omega
      have hj2 : j < 11 := by omega
      clear hkk hbm hd CD hd0 hd1 hT hbX
      go_wp2_with (fail)
      refine HCD.out.mono ?_
      rintro e w5 ⟨rfl, hb5⟩
      have hX5 := HBX.out.trans (hb5.mono HBX.out.size)
      have HM6 := Lib.hid (HM5.out.below' hX5 hX5.size)
      have HC6 := Lib.hid (HC5.out.later hX5)
      have e6 : w5.cell? (a.add k) = some (.int .i64 (j : Int)) := by rw [hX5.cell (by rw [hsX]; omega)]; exact e5
      have hs5 := hX5.size
      rw [hsX] at hs5
      have CT := ptag_any d0 d1 (some ⟨wr.heap.size, 0, none⟩) 2 2 [(j : Int), (k : Int)] w5 HM6.out hbmy rfl (Nat.le_refl _) (by omega)
      rw [HT.out] at CT
      have HCT := Lib.hid CT
      clear hb5 hX5 CT kc y0 y1 e0 e5
      go_wp2_with (fail)
      refine HCT.out.mono ?_
      rintro e w6 ⟨rfl, hb6⟩
      have HM7 := Lib.hid (HM6.out.below' hb6 hb6.size)
      have HC7 := Lib.hid (HC6.out.later hb6)
      have e7 : w6.cell? (a.add k) = some (.int .i64 (j : Int)) := by rw [hb6.cell (by omega)]; exact e6
      have hs6 := hb6.size
      clear hb6 e6
      have CA : ∀ TT : Int, Calls Tryd.prog 20 #[.pointer (some ⟨RA, 0, none⟩), .int .i64 (j : Int), .slice (some ⟨wr.heap.size, 0, none⟩) 2 2, .int .u64 TT, .agg #[.int .i64 0, .int .i64 0]] w6 fun e w' =>
          e = .returned (.int .i64 0) ∧ Keeps ownA w6 w' ∧ ∃ p cap hv', Recv w' (grew ownA w6 w') RA ⟨1000, 100, 2, 10, 0, KZ, hv', lA ++ [⟨j, p, cap, [(j : Int), (k : Int)], TT⟩]⟩ := fun TT => by
        have C := hear_any RA ownA ⟨1000, 100, 2, 10, 0, KZ, hvA, lA⟩ j TT 0 0 (some ⟨wr.heap.size, 0, none⟩) 2 2 [(j : Int), (k : Int)] w6 HC7.out.ra HM7.out hbmy rfl (by omega) (by simp)
        rw [hear_zero (by omega) (by omega) (by omega)] at C
        exact C.mono fun e w' q => ⟨q.1, q.2.2 rfl⟩
      have CB : ∀ (TT : Int) (W : World), Recv W ownB RB ⟨1000, 100, 2, 10, 0, KZ, hvB, lB⟩ → Ints .u8 W W.heap.size (some ⟨wr.heap.size, 0, none⟩) [(j : Int), (k : Int)] → Calls Tryd.prog 20 #[.pointer (some ⟨RB, 0, none⟩), .int .i64 (j : Int), .slice (some ⟨wr.heap.size, 0, none⟩) 2 2, .int .u64 TT, .agg #[.int .i64 0, .int .i64 0]] W fun e w' =>
          e = .returned (.int .i64 0) ∧ Keeps ownB W w' ∧ ∃ p cap hv', Recv w' (grew ownB W w') RB ⟨1000, 100, 2, 10, 0, KZ, hv', lB ++ [⟨j, p, cap, [(j : Int), (k : Int)], TT⟩]⟩ := fun TT W h1 h2 => by
        have C := hear_any RB ownB ⟨1000, 100, 2, 10, 0, KZ, hvB, lB⟩ j TT 0 0 (some ⟨wr.heap.size, 0, none⟩) 2 2 [(j : Int), (k : Int)] W h1 h2 hbmy rfl (by omega) (by simp)
        rw [hear_zero (by omega) (by omega) (by omega)] at C
        exact C.mono fun e w' q => ⟨q.1, q.2.2 rfl⟩
      have hmA : ¬ ownA wr.heap.size := fun h => by have := HC.out.ra.low _ h; omega
      have HCA := Lib.hid CA
      have HCB := Lib.hid CB
      clear CA CB
      have hways : (no ≤ k) ∨ ∃ (ao : Addr) (od : Bool), k < no ∧ xo = some ao ∧ w6.cell? (ao.add k) = some (.bool od) := by
        by_cases h : k < no
        · obtain ⟨ao, e1, e2, e3⟩ := HIO.out k (by rw [HLO.out]; exact h)
          refine .inr ⟨ao, bs.getD k false, h, e1, ?_⟩
          rw [HC7.out.aw.bel.cell (by unfold Addr.add; split <;> exact e2)]; exact e3
        · exact .inl (by omega)
      rcases hways with hw | ⟨ao, od, hw, rfl, e8⟩
      · have hwi : ¬ (k : Int) < no := by omega
        go_wp2_with (fail)
        refine (HCA.out _).mono ?_
        rintro e w7 ⟨rfl, hk7, p7, c7, hv7, hr7⟩
        have HRB7 := Lib.hid (HC7.out.rb.keeps hk7 (fun q hq hn => HC7.out.dis q hn hq))
        have HIM7 := Lib.hid (HM7.out.keep hk7 hmA)
        have e9 : w7.cell? (a.add k) = some (.int .i64 (j : Int)) := by rw [(hk7.toBelow HC7.out.oA HC7.out.aw.size).cell (by omega)]; exact e7
        have HK7 := Lib.hid hk7
        have HR7 := Lib.hid hr7
        clear e7 hk7 hr7
        go_wp2_with (fail)
        refine (HCB.out _ w7 HRB7.out HIM7.out).mono ?_
        rintro e w8 ⟨rfl, hk8, p8, c8, hv8, hr8⟩
        have hC8 := HC7.out.hear2 (y := (k : Int)) rfl HK7.out HR7.out hk8 hr8
        go_wp2_with (fail)
        go_roundw
        case rel => exact ⟨k + 1, by omega, by go_num, _, _, _, _, _, _, by rw [List.length_append, hlen]; rfl, hC8⟩
        case measure => simp [intOf]; omega
      · have hwi : (k : Int) < no := by omega
        cases od
        all_goals
          go_wp2_with (fail)
          refine (HCA.out _).mono ?_
          rintro e w7 ⟨rfl, hk7, p7, c7, hv7, hr7⟩
          have HRB7 := Lib.hid (HC7.out.rb.keeps hk7 (fun q hq hn => HC7.out.dis q hn hq))
          have HIM7 := Lib.hid (HM7.out.keep hk7 hmA)
          have e9 : w7.cell? (a.add k) = some (.int .i64 (j : Int)) := by rw [(hk7.toBelow HC7.out.oA HC7.out.aw.size).cell (by omega)]; exact e7
          have HK7 := Lib.hid hk7
          have HR7 := Lib.hid hr7
          clear e7 hk7 hr7
          go_wp2_with (fail)
          refine (HCB.out _ w7 HRB7.out HIM7.out).mono ?_
          rintro e w8 ⟨rfl, hk8, p8, c8, hv8, hr8⟩
          have hC8 := HC7.out.hear2 (y := (k : Int)) rfl HK7.out HR7.out hk8 hr8
          go_wp2_with (fail)
          go_roundw
          case rel => exact ⟨k + 1, by omega, by go_num, _, _, _, _, _, _, by rw [List.length_append, hlen]; rfl, hC8⟩
          case measure => simp [intOf]; omega
    · obtain rfl : k = n := by omega
      obtain ⟨O, hO⟩ : ∃ O, wr.heap.size = O := ⟨_, rfl⟩
      have HC := Lib.hid hC
      have hk0 : keepM (((1 : Nat) : Int) - 1) lA = lA := List.filter_eq_self.2 fun m hm => by
        have h2 : 1 ≤ m.iv := (hC.ra.ivs m hm).1
        simp only [decide_eq_true_eq]; omega
      have hbO : Below wr.heap.size wr (wr.alloc (.cells #[.int .i64 0, .int .i64 0, .int .i64 0, .int .i64 0, .int .i64 0, .int .i64 0, .int .i64 0, .int .i64 0, .int .i64 0, .int .i64 0, .int .i64 0] 53)) := (Below.refl _ _).alloc (Nat.le_refl _) _
      have h2 : L2 w w1.heap.size g RA RB O K KZ KZ ownA ownB hvA hvB lA lB 1 (fun _ => 0) (wr.alloc (.cells #[.int .i64 0, .int .i64 0, .int .i64 0, .int .i64 0, .int .i64 0, .int .i64 0, .int .i64 0, .int .i64 0, .int .i64 0, .int .i64 0, .int .i64 0] 53)) :=
        ⟨hC.aw.step hbO, by rw [hk0]; exact hC.ra.below hbO (Nat.le_refl _), HKZ.out, hC.rb.below hbO (Nat.le_refl _), hC.oA, hC.oB, hC.dis, by rw [← hO]; exact arel_new wr _, fun h => by have := hC.ra.low _ h; omega, fun h => by have := hC.rb.low _ h; omega, by omega⟩
      have H2 := Lib.hid h2
      have hbodyA := hC.body
      have HBA := Lib.hid hbodyA
      have HSM := Lib.hid hC.same
      clear hC hk0 hbO h2 hbodyA
      go_wp2_with (fail)
      try rw [hO]
      go_loopw [14] (fun ki wr2 => ∃ (i : Nat) (KA : Nat → Int × Int) (hvA' : Value) (f : Nat → Int), 1 ≤ i ∧ i ≤ 11 ∧ ki = .int .i64 i ∧ L2 w w1.heap.size g RA RB O K KZ KA ownA ownB hvA' hvB lA lB i f wr2 ∧ ∀ j, f j = if 1 ≤ j ∧ j < i then (cnt K (lA.map msgT) j : Int) else 0) (fun ki _ => 11 - (intOf ki).toNat)
      case atStart => exact ⟨1, KZ, hvA, _, by omega, by omega, rfl, H2.out, fun j => by rw [if_neg (by omega)]⟩
      case round =>
        obtain ⟨i, KA, hvA', f, hi1, hi2, rfl, hL, hf⟩ := hrel
        by_cases hi11 : i = 11
        · subst hi11
          obtain ⟨ka, kb, hkk⟩ := pair_ex (K 10)
          obtain ⟨y0, y1⟩ := hL.aw.key 10 (by omega) ka kb hkk
          have y0' : wr.cell? ⟨g, 20, none⟩ = some (.int .u64 ka) := y0
          have y1' : wr.cell? ⟨g, 21, none⟩ = some (.int .u64 kb) := y1
          have hk10 : keepM (((11 : Nat) : Int) - 1) lA = [] := List.filter_eq_nil_iff.2 fun m hm => by
            have h2 : m.iv ≤ 10 := (HC.out.ra.ivs m hm).2
            simp only [decide_eq_true_eq]; omega
          have C4 := disc_yes RB ownB _ 10 ka kb wr hL.rb (by show 0 < 10; omega) (by show (10 : Int) ≤ 10; omega) (by show downN 10 (ka, kb) = KZ 0; rw [← hkk, HKZ.out]; exact HDN.out 0 10 (by omega)) (by show lB.length ≤ 1000; omega)
          simp only at C4
          have hput : ∀ i : Nat, 1 ≤ i → i ≤ 10 → putK 0 10 (ka, kb) KZ i = K i := by
            intro i h1 h2
            show (if 0 < i ∧ i ≤ 10 then downN (10 - i) (ka, kb) else _) = _
            rw [if_pos ⟨by omega, by omega⟩, ← hkk]
            have := HDN.out i (10 - i) (by omega)
            rw [show i + (10 - i) = 10 by omega] at this
            exact this
          obtain ⟨KP, hKP⟩ : ∃ KP, putK 0 10 (ka, kb) KZ = KP := ⟨_, rfl⟩
          rw [hKP] at C4 hput
          obtain ⟨OB, hOB⟩ : ∃ OB, (lB.filter fun m => rightT K (msgT m)) = OB := ⟨_, rfl⟩
          have hO2 : outM KP ((10 : Nat) : Int) lB = OB := by rw [← hOB]; exact out_all K KP lB (fun m hm => HC.out.rb.ivs m hm) hput
          have hkp : keepM ((10 : Nat) : Int) lB = [] := List.filter_eq_nil_iff.2 fun m hm => by
            have h2 : m.iv ≤ 10 := (HC.out.rb.ivs m hm).2
            simp only [decide_eq_true_eq]; omega
          rw [hO2, hkp] at C4
          have HLB : Hid (OB.length ≤ lB.length) := Lib.hid (by rw [← hOB]; exact List.length_filter_le _ _)
          have hcnt : ∀ j : Int, (OB.filter fun m => decide (m.iv = j)).length = cnt K (lA.map msgT) j := fun j => by rw [← hOB, HSM.out]; exact out_cnt K lB j
          have hOBm : ∀ m ∈ OB, m ∈ lB ∧ ∃ (jn : Nat) (y : Int), m.iv = jn ∧ 1 ≤ jn ∧ jn ≤ 10 ∧ m.b = [(jn : Int), y] := by
            intro m hm
            rw [← hOB] at hm
            have h1 := (List.mem_filter.1 hm).1
            obtain ⟨i1, i2⟩ := HC.out.rb.ivs m h1
            simp only at i2
            have h3 : msgT m ∈ lA.map msgT := by rw [HSM.out]; exact List.mem_map_of_mem h1
            obtain ⟨m', h4, h5⟩ := List.mem_map.1 h3
            obtain ⟨y, hy⟩ := HBA.out m' h4
            simp only [msgT, Prod.mk.injEq] at h5
            exact ⟨h1, m.iv.toNat, y, by omega, by omega, by omega, by rw [← h5.2.1, hy, h5.1]; congr 1; omega⟩
          have HC4 := Lib.hid C4
          have HL2 := Lib.hid hL
          have HF := Lib.hid hf
          have HCNT := Lib.hid hcnt
          have HOBM := Lib.hid hOBm
          have HK10 := Lib.hid hk10
          have hOr : O < wr.heap.size := hL.arr.lt
          clear C4 hput hKP hO2 hkp hcnt hOBm hOB hL hf hkk y0 y1 hk10
          go_wp2_with (fail)
          refine HC4.out.mono ?_
          rintro e w6 ⟨ov, hv6, rfl, hrow, hr6, hk6, hi6⟩
          have hs6 := hk6.size
          obtain ⟨po, pc, hov, -, -⟩ := row_form hrow
          subst hov
          obtain ⟨mo, hmoo⟩ : ∃ mo, OB.length = mo := ⟨_, rfl⟩
          rw [hmoo] at hrow
          rw [hmoo]
          have HA6 := Lib.hid (HL2.out.aw.keeps hk6 HL2.out.oB)
          have hra := HL2.out.ra.keeps hk6 (fun q hq hn => HL2.out.dis q hq hn)
          have HAR6 := Lib.hid (HL2.out.arr.same (hk6.block O hOr HL2.out.nB) hk6.size)
          have HROW := Lib.hid hrow
          have HI6 := Lib.hid hi6
          have CHA := held_any RA ownA _ w6 hra
          rw [HK10.out] at CHA
          have CHB := held_any RB ownB _ w6 hr6
          simp only [List.length_nil] at CHA CHB
          have HHA := Lib.hid CHA
          have HHB := Lib.hid CHB
          have HMOO := Lib.hid hmoo
          clear hrow hr6 hk6 hi6 y0' y1' hmoo hra CHA CHB
          go_wp2_with (fail)
          refine HHA.out.mono ?_
          rintro e w7 ⟨rfl, rfl⟩
          go_wp2_with (fail)
          refine HHB.out.mono ?_
          rintro e w7 ⟨rfl, rfl⟩
          go_wp2_with (fail)
          go_loopw [20] (fun ki wr3 => ∃ q : Nat, q ≤ mo ∧ ki = .int .i64 q ∧ Keeps (fun z => z = O) w6 wr3 ∧ ARel O (fun j => f j - if 1 ≤ j ∧ j < 11 then (((OB.take q).filter fun m => decide (m.iv = (j : Int))).length : Int) else 0) wr3) (fun ki _ => mo - (intOf ki).toNat)
          case atStart => exact ⟨0, by omega, rfl, Keeps.refl _ _, HAR6.out.congr (fun j _ => by simp)⟩
          case round =>
            obtain ⟨q, hq, rfl, hk3, hA3⟩ := hrel
            by_cases hlt3 : q < mo
            · obtain ⟨m, hm⟩ : ∃ m, OB[q]? = some m := ⟨_, List.getElem?_eq_getElem (by rw [HMOO.out]; exact hlt3)⟩
              obtain ⟨hmk, jn, y, hiv, hj1, hj2, hmb⟩ := HOBM.out m (List.mem_of_getElem? hm)
              obtain ⟨go, hgo, rfl⟩ := row_some HROW.out (by omega)
              have hgoB := (HROW.out.lt go rfl).1
              have hadd : (⟨go, 0, none⟩ : Addr).add q = ⟨go, q, none⟩ := by unfold Addr.add; split <;> simp_all
              have c1 := HROW.out.cells (g := go) rfl q (.slice m.p m.b.length m.cap) (by unfold outCells; rw [List.getElem?_map, hm]; rfl)
              rw [hadd, hmb] at c1
              have hint := HI6.out m hmk
              obtain ⟨am, hmp, hamb, hamc⟩ := hint 0 (by rw [hmb]; simp)
              obtain ⟨hf1, -, -⟩ := HL2.out.rb.apart m hmk am hmp
              rw [hmb] at hamc
              have hamO : am.block ≠ O := fun e => HL2.out.nB (by rw [← e]; exact hf1)
              have hgoO : go ≠ O := by omega
              have c2 : wr.cell? ⟨go, q, none⟩ = some (.slice (some am) 2 m.cap) := by
                rw [World.cell?_of_block (hk3.block go hgo hgoO), c1, hmp]; rfl
              have c3 : wr.cell? (am.add 0) = some (.int .u8 (jn : Int)) := by
                rw [World.cell?_of_block (w := w6) (hk3.block _ (by unfold Addr.add; split <;> exact hamb) (by unfold Addr.add; split <;> exact hamO)), hamc]; rfl
              have c4 : wr.cell? am = some (.int .u8 (jn : Int)) := c3
              have hbd : 0 ≤ f jn ∧ f jn ≤ 30 := by
                rw [HF.out jn, if_pos ⟨hj1, by omega⟩]
                have := cnt_le K (lA.map msgT) jn
                simp at this
                omega
              obtain ⟨V, hV⟩ : ∃ V : Int, f jn - (if 1 ≤ jn ∧ jn < 11 then (((OB.take q).filter fun m => decide (m.iv = (jn : Int))).length : Int) else 0) = V := ⟨_, rfl⟩
              have hmo30 : mo ≤ 30 := by
                have h1 := HLB.out
                rw [HMOO.out] at h1
                omega
              have hV1 : -30 ≤ V ∧ V ≤ 30 := by
                rw [← hV, if_pos ⟨hj1, by omega⟩]
                have h1 : ((OB.take q).filter fun m => decide (m.iv = (jn : Int))).length ≤ q := Nat.le_trans (List.length_filter_le _ _) (by rw [List.length_take]; omega)
                omega
              have c5 := hA3.at' jn (by omega)
              rw [hV] at c5
              have c6 := (hA3.th jn (by omega)).2
              have htk : OB.take (q + 1) = OB.take q ++ [m] := by rw [List.take_add_one, hm]; rfl
              have HTK := Lib.hid htk
              have HIVN := Lib.hid hiv
              have HVV := Lib.hid hV
              have HK3 := Lib.hid hk3
              have HA3 := Lib.hid hA3
              have hj1i : ¬ (jn : Int) < 1 := by omega
              have hj2i : ¬ 10 < (jn : Int) := by omega
              have hj3i : (jn : Int) < 11 := by omega
              clear hk3 hA3 c1 hint hamc hm hmb hadd hV htk hiv
              go_wp2_with (fail)
              go_roundw
              case rel =>
                refine ⟨q + 1, by omega, by go_num, HK3.out.trans (keeps_set O jn _ _) (fun _ _ h => h), (HA3.out.set jn (by omega) _).congr (fun j hj => ?_)⟩
                have hfl : ([m].filter fun m => decide (m.iv = (j : Int))).length = if j = jn then 1 else 0 := by
                  by_cases e : j = jn
                  · subst e; rw [if_pos rfl, List.filter_cons, if_pos (by rw [HIVN.out]; simp)]; rfl
                  · rw [if_neg e, List.filter_cons, if_neg (by rw [HIVN.out, decide_eq_true_eq]; omega)]; rfl
                rw [HTK.out, List.filter_append, List.length_append, hfl]
                by_cases e : j = jn
                · subst e
                  rw [if_pos rfl, if_pos rfl, ← HVV.out, if_pos ⟨hj1, by omega⟩, if_pos ⟨hj1, by omega⟩]
                  omega
                · rw [if_neg e, if_neg e, Nat.add_zero]
              case measure => simp [intOf]; omega
            · obtain rfl : q = mo := by omega
              have hz : ∀ j, j < 11 → wr.cell? ⟨O, j, none⟩ = some (.int .i64 0) := by
                intro j hj
                rw [hA3.at' j hj]
                congr 2
                rw [HF.out j, ← HMOO.out, List.take_length]
                by_cases h : 1 ≤ j ∧ j < 11
                · rw [if_pos h, if_pos h, HCNT.out]; omega
                · rw [if_neg h, if_neg h]; rfl
              have z0 := hz 0 (by omega)
              have z1 := hz 1 (by omega)
              have z2 := hz 2 (by omega)
              have z3 := hz 3 (by omega)
              have z4 := hz 4 (by omega)
              have z5 := hz 5 (by omega)
              have z6 := hz 6 (by omega)
              have z7 := hz 7 (by omega)
              have z8 := hz 8 (by omega)
              have z9 := hz 9 (by omega)
              have z10 := hz 10 (by omega)
              have HA7 := Lib.hid (HA6.out.keeps hk3 (fun z h => by rw [h]; exact HL2.out.BO))
              clear hz hk3 hA3
              go_wp2_with (fail)
              refine (awake_any _ HA7.out.conf).mono ?_
              rintro e w8 ⟨rfl, hb8⟩
              go_wp2_with (fail)
              go_ret
              exact ⟨rfl, (HA7.out.step hb8).bel⟩
        · obtain ⟨ka, kb, hkk⟩ := pair_ex (K i)
          obtain ⟨y0, y1⟩ := hL.aw.key i (by omega) ka kb hkk
          have hlenk : (keepM ((i : Int) - 1) lA).length ≤ 1000 := Nat.le_trans (List.length_filter_le _ _) (by omega)
          have C4 := disc_yes RA ownA _ i ka kb wr hL.ra (by show i - 1 < i; omega) (by show (i : Int) ≤ 10; omega) (by show downN (i - (i - 1)) (ka, kb) = KA (i - 1); rw [← hkk, hL.hKA]; have := HDN.out (i - 1) (i - (i - 1)) (by omega); rw [show i - 1 + (i - (i - 1)) = i by omega] at this; exact this) hlenk
          simp only at C4
          have hputi : putK (i - 1) i (ka, kb) KA i = K i := by
            show (if i - 1 < i ∧ i ≤ i then downN (i - i) (ka, kb) else _) = _
            rw [if_pos ⟨by omega, by omega⟩, Nat.sub_self, hkk]; rfl
          obtain ⟨KP, hKP⟩ : ∃ KP, putK (i - 1) i (ka, kb) KA = KP := ⟨_, rfl⟩
          rw [hKP] at C4 hputi
          rw [out_one K KP lA i hi1 hputi, keep_keep] at C4
          have hmo := out_one_len K KP lA i hi1 hputi
          rw [out_one K KP lA i hi1 hputi] at hmo
          obtain ⟨OA, hOA⟩ : ∃ OA, (lA.filter fun m => decide (m.iv = (i : Int)) && rightT K (msgT m)) = OA := ⟨_, rfl⟩
          rw [hOA] at C4 hmo
          have hOAm : ∀ m ∈ OA, m ∈ keepM ((i : Int) - 1) lA ∧ ∃ y, m.b = [(i : Int), y] := by
            intro m hm
            rw [← hOA] at hm
            obtain ⟨h1, h2⟩ := List.mem_filter.1 hm
            simp only [Bool.and_eq_true, decide_eq_true_eq] at h2
            obtain ⟨y, hy⟩ := HBA.out m h1
            exact ⟨List.mem_filter.2 ⟨h1, by rw [decide_eq_true_eq]; omega⟩, y, by rw [hy, h2.1]⟩
          have HC4 := Lib.hid C4
          have HL2 := Lib.hid hL
          have HF := Lib.hid hf
          have HPI := Lib.hid hputi
          have HMO := Lib.hid hmo
          have HOAM := Lib.hid hOAm
          have hmo30 : OA.length ≤ 30 := by rw [hmo]; have := cnt_le K (lA.map msgT) i; simp at this; omega
          have hii : (i : Int) ≤ 10 := by omega
          have hij : (i : Int) < 11 := by omega
          have hi0 : (0 : Int) ≤ (i : Int) := by omega
          have hOr : O < wr.heap.size := hL.arr.lt
          clear C4 hlenk hputi hKP hmo hOA hOAm hL hf hkk
          go_wp2_with (fail)
          refine HC4.out.mono ?_
          rintro e w6 ⟨ov, hv6, rfl, hrow, hr6, hk6, hi6⟩
          have hs6 := hk6.size
          obtain ⟨po, pc, hov, -, -⟩ := row_form hrow
          subst hov
          obtain ⟨mo, hmoo⟩ : ∃ mo, OA.length = mo := ⟨_, rfl⟩
          rw [hmoo] at hrow hmo30
          rw [hmoo]
          have HA6 := Lib.hid (HL2.out.aw.keeps hk6 HL2.out.oA)
          have HRB6 := Lib.hid (HL2.out.rb.keeps hk6 (fun q hq hn => HL2.out.dis q hn hq))
          have HAR6 := Lib.hid (HL2.out.arr.same (hk6.block O hOr HL2.out.nA) hk6.size)
          have HR6 := Lib.hid hr6
          have HROW := Lib.hid hrow
          have HI6 := Lib.hid hi6
          have HKN := Lib.hid (known_any RA ownA _ w6 hr6)
          have HMOO := Lib.hid hmoo
          clear hrow hr6 hk6 hi6 y0 y1 hmoo
          go_wp2_with (fail)
          refine HKN.out.mono ?_
          rintro e w7 ⟨rfl, rfl⟩
          go_wp2_with (fail)
          have hfi : f i = 0 := by rw [HF.out, if_neg (by omega)]
          go_loopw [17] (fun ki wr3 => ∃ q : Nat, q ≤ mo ∧ ki = .int .i64 q ∧ Keeps (fun z => z = O) w6 wr3 ∧ ARel O (fun j => if j = i then (q : Int) else f j) wr3) (fun ki _ => mo - (intOf ki).toNat)
          case atStart => exact ⟨0, by omega, rfl, Keeps.refl _ _, HAR6.out.congr (fun j _ => by by_cases e : j = i <;> simp [e, hfi])⟩
          case round =>
            obtain ⟨q, hq, rfl, hk3, hA3⟩ := hrel
            by_cases hlt3 : q < mo
            · obtain ⟨m, hm⟩ : ∃ m, OA[q]? = some m := ⟨_, List.getElem?_eq_getElem (by rw [HMOO.out]; exact hlt3)⟩
              obtain ⟨hmk, y, hmb⟩ := HOAM.out m (List.mem_of_getElem? hm)
              obtain ⟨go, hgo, rfl⟩ := row_some HROW.out (by omega)
              have hgoB := (HROW.out.lt go rfl).1
              have hadd : (⟨go, 0, none⟩ : Addr).add q = ⟨go, q, none⟩ := by unfold Addr.add; split <;> simp_all
              have c1 := HROW.out.cells (g := go) rfl q (.slice m.p m.b.length m.cap) (by unfold outCells; rw [List.getElem?_map, hm]; rfl)
              rw [hadd, hmb] at c1
              have hint := HI6.out m hmk
              obtain ⟨am, hmp, hamb, hamc⟩ := hint 0 (by rw [hmb]; simp)
              obtain ⟨hf1, -, -⟩ := HL2.out.ra.apart m hmk am hmp
              rw [hmb] at hamc
              have hamO : am.block ≠ O := fun e => HL2.out.nA (by rw [← e]; exact hf1)
              have hgoO : go ≠ O := by omega
              have c2 : wr.cell? ⟨go, q, none⟩ = some (.slice (some am) 2 m.cap) := by
                rw [World.cell?_of_block (hk3.block go hgo hgoO), c1, hmp]; rfl
              have c3 : wr.cell? (am.add 0) = some (.int .u8 (i : Int)) := by
                rw [World.cell?_of_block (w := w6) (hk3.block _ (by unfold Addr.add; split <;> exact hamb) (by unfold Addr.add; split <;> exact hamO)), hamc]; rfl
              have c4 : wr.cell? am = some (.int .u8 (i : Int)) := c3
              have c5 := hA3.at' i (by omega)
              simp only [if_true] at c5
              have c6 := (hA3.th i (by omega)).2
              have hwi : IntKind.i64.wrap (i : Int) = i := i64_wrap_eq ⟨by omega, by omega⟩
              have HK3 := Lib.hid hk3
              have HA3 := Lib.hid hA3
              have hq30 : (q : Int) ≤ 30 := by omega
              clear hk3 hA3 c1 hint hamc hm hmb hadd
              go_wp2_with (fail)
              go_roundw
              case rel => exact ⟨q + 1, by omega, by go_num, HK3.out.trans (keeps_set O i _ _) (fun _ _ h => h), (HA3.out.set i (by omega) _).congr (fun j _ => by by_cases e : j = i <;> simp [e])⟩
              case measure => simp [intOf]; omega
            · obtain rfl : q = mo := by omega
              have hlast : L2 w w1.heap.size g RA RB O K KZ KP ownA ownB hv6 hvB lA lB (i + 1) (fun j => if j = i then (q : Int) else f j) wr :=
                ⟨HA6.out.keeps hk3 (fun z h => by rw [h]; exact HL2.out.BO), by rw [show ((i + 1 : Nat) : Int) - 1 = i by omega]; exact HR6.out.keeps hk3 (fun z hz e => HL2.out.nA (by rw [← e]; exact hz)), HPI.out, HRB6.out.keeps hk3 (fun z hz e => HL2.out.nB (by rw [← e]; exact hz)), HL2.out.oA, HL2.out.oB, HL2.out.dis, hA3, HL2.out.nA, HL2.out.nB, HL2.out.BO⟩
              have hspec : ∀ j, (if j = i then (q : Int) else f j) = if 1 ≤ j ∧ j < i + 1 then (cnt K (lA.map msgT) j : Int) else 0 := by
                intro j
                by_cases e : j = i
                · subst e
                  rw [if_pos rfl, if_pos ⟨hi1, by omega⟩, ← HMO.out, HMOO.out]
                · rw [if_neg e, HF.out j]
                  by_cases h : 1 ≤ j ∧ j < i
                  · rw [if_pos h, if_pos ⟨h.1, by omega⟩]
                  · rw [if_neg h, if_neg (by omega)]
              have HLAST := Lib.hid hlast
              have HSPEC := Lib.hid hspec
              clear hlast hspec hk3 hA3
              go_wp2_with (fail)
              go_roundw
              case rel => exact ⟨i + 1, KP, hv6, _, by omega, by omega, by go_num, HLAST.out, HSPEC.out⟩
              case measure => simp [intOf]; omega
end Go.Proofs.YtmhgoknbmbicmaaDoor
