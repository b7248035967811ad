/- The law ChainComplete. -/
import Derived.Test.YtmhgoknbmbicmaaDoorChainX
namespace Go.Proofs.YtmhgoknbmbicmaaDoor
open Go.RowKit
set_option linter.unusedVariables false
set_option linter.unusedSimpArgs false

theorem three_at {W W' : World} {B : Nat} {p1 p2 p3 : Addr} {v1 v2 v3 : Value} (hb : Below B W W') (h1 : p1.block < B) (h2 : p2.block < B) (h3 : p3.block < B)
    (h : W.cell? p1 = some v1 ∧ W.cell? p2 = some v2 ∧ W.cell? p3 = some v3) : W'.cell? p1 = some v1 ∧ W'.cell? p2 = some v2 ∧ W'.cell? p3 = some v3 :=
  ⟨by rw [hb.cell h1]; exact h.1, by rw [hb.cell h2]; exact h.2.1, by rw [hb.cell h3]; exact h.2.2⟩
theorem three_own {own : Nat → Prop} {W W' : World} {B : Nat} {p1 p2 p3 : Addr} {v1 v2 v3 : Value} (hk : Keeps own W W') (ho : ∀ q, own q → B ≤ q) (hB : B ≤ W.heap.size) (h1 : p1.block < B) (h2 : p2.block < B) (h3 : p3.block < B)
    (h : W.cell? p1 = some v1 ∧ W.cell? p2 = some v2 ∧ W.cell? p3 = some v3) : W'.cell? p1 = some v1 ∧ W'.cell? p2 = some v2 ∧ W'.cell? p3 = some v3 :=
  three_at (hk.toBelow ho hB) h1 h2 h3 h
theorem infoU8 : (Tryd.prog.info? 5).map (fun i => (i.zero, i.size, i.bytes)) = some (some (.int .u8 0), 1, 1) := by kernel_rfl
theorem hear_safe {K0 : Nat → Int × Int} {hv : Value} {l : List Msg} {i : Nat} (h1 : 1 ≤ i) (h2 : i ≤ 10) (hl : l.length < 64) : hearE ⟨1000, 100, 2, 10, 0, K0, hv, l⟩ i 0 (1000 + 100 * i) = 0 := by
  have e : ivI 1000 100 2 10 (1000 + 100 * (i : Int)) = i + 1 := by
    unfold ivI
    rw [if_pos ⟨by decide, by omega⟩, if_pos (by omega)]; omega
  unfold hearE ivBad
  simp only
  rw [if_neg (by omega), if_neg (by rw [decide_eq_true_eq]; omega), e, if_neg (by omega), if_neg (by omega), if_neg (by omega)]

set_option maxHeartbeats 16000000 in
set_option maxRecDepth 100000 in
theorem complete_main (seed : Int) (x : Option Addr) (n c : Nat) (zs : List Int) (xb : Option Addr) (nb cb : Nat) (b : List Int) (w : World) (hi : Ints .i64 w w.heap.size x zs) (hl : zs.length = n) (hn : n ≤ 30)
    (hib : Ints .u8 w w.heap.size xb b) (hby : Bytes b) (hlb : b.length = nb) (hnilb : xb = none → nb = 0 ∧ cb = 0) (hnb : nb ≤ 100) (hc : ConfAt w) :
    Calls Tryd.prog 6 #[.int .u64 seed, .slice x n c, .slice xb nb cb] w fun e w' => e = .returned (.bool true) ∧ Below w.heap.size w w' := by
  obtain ⟨K, hK⟩ : ∃ K, keyI seed 10 = K := ⟨_, rfl⟩
  have hdn : ∀ i m : Nat, i + m ≤ 10 → downN m (K (i + m)) = K i := by
    intro i m h
    rw [← hK]
    clear hK hc
    induction m generalizing i with
    | zero => rfl
    | succ m ih =>
      rw [downN_succ, show i + (m + 1) = (i + 1) + m by omega, ih (i + 1) (by omega)]
      exact (keyI_below seed 10 i (by omega)).symm
  have CM : Calls Tryd.prog 13 #[.int .u64 seed, .int .i64 10] w _ := make_some seed 10 w (by omega) (by omega)
  rw [hK] at CM
  have HCM := Lib.hid CM
  have HDN := Lib.hid hdn
  have HI := Lib.hid hi
  have HIB := Lib.hid hib
  have HL := Lib.hid hl
  have hni : ¬ (30 : Int) < n := by omega
  have hnbi : ¬ (100 : Int) < nb := by omega
  clear CM hdn hK hi hl hib
  go_enter Tryd.func6, Tryd.ntmps6
  go_wp2_with (fail)
  refine HCM.out.mono ?_
  rintro e w1 ⟨g, rfl, hgw, hk1, hb1⟩
  have A1 : AwSt w w1.heap.size g 11 K w1 := ⟨hb1, hc.same (hb1.block 0 hc.2.2.2.2) hb1.size, hk1, Nat.le_refl _, by have := hc.2.2.2.2; have := hb1.size; omega, hb1.size⟩
  have hA2 := A1.step (Below.refl _ _).drew
  obtain ⟨a0, b0, hk0⟩ := pair_ex (K 0)
  have HK0 := Lib.hid hk0
  have h6 := hA2.six 0 (by omega) a0 b0 HK0.out
  simp only [Nat.zero_mul, Nat.zero_add] at h6
  have HA2 := Lib.hid hA2
  have h0s : 0 < w1.drew.heap.size := hA2.conf.2.2.2.2
  have hgs : g < w1.drew.heap.size := Nat.lt_of_lt_of_le hA2.keys.1 hA2.size
  have hgB : g < w1.heap.size := hA2.keys.1
  have hww1 : w.heap.size ≤ w1.heap.size := hA2.wB
  clear A1 hk1 hb1 hA2 hk0
  go_wp2_with (fail)
  go_region_held_law (fun w' => w'.cell? ⟨0, 0, none⟩ = some (.int .i64 1000) ∧ w'.cell? ⟨0, 1, none⟩ = some (.int .i64 100) ∧ w'.cell? ⟨0, 2, none⟩ = some (.int .i64 2) ∧ w'.cell? ⟨0, 3, none⟩ = some (.int .i64 10) ∧ w'.cell? ⟨g, 0, none⟩ = some (.int .u64 a0) ∧ w'.cell? ⟨g, 1, none⟩ = some (.int .u64 b0))
    (first | exact h6 | assumption)
    ((first | (go_at_call 19; refine (new_any 1000 100 2 10 a0 b0 _ (by decide)).mono ?_; rintro e w3 ⟨R, rfl, hR3, hr3, hb3⟩; have h7 := six_low hb3 h0s hgs h6)))
  have HA3 := Lib.hid (HA2.out.step hb3)
  have HR3 := Lib.hid hr3
  clear hr3 hb3 h6 h7
  go_wp2_with (fail)
  go_loopw [9, 10] (fun sv ki wr => ∃ k : Nat, k ≤ n ∧ ki = .int .i64 k ∧ ∃ own hv l ms, ms.length = k ∧ CRel w w1.heap.size g R K (fun i => if i = 0 then (a0, b0) else (0, 0)) sv own hv l ms ms wr) (fun _ ki _ => n - (intOf ki).toNat)
  case atStart =>
    exact ⟨0, by omega, rfl, _, _, _, [], rfl, HA3.out, HR3.out, fun q h => Nat.le_trans HA2.out.size h.1, rfl, World.ownsRow_nil _ _ _ _, (fun q hq => by simp [Value.ownBlock] at hq), (fun m hm => by cases hm)⟩
  case round =>
    obtain ⟨k, hkn, rfl, own, hv, l, ms, hms, hC⟩ := hrel
    have hlen : l.length = k := by
      have := congrArg List.length hC.heard
      simpa [smMsgs, hms] using this
    have hBr : w1.heap.size ≤ wr.heap.size := hC.aw.size
    by_cases hlt : k < n
    · obtain ⟨a, rfl, hab, hac⟩ := HI.out k (by rw [HL.out]; exact hlt)
      have hak : (a.add k).block < w.heap.size := by unfold Addr.add; split <;> exact hab
      have e0 : wr.cell? (a.add k) = some (.int .i64 (zs.getD k 0)) := by rw [hC.aw.bel.cell (by exact hak)]; exact hac
      obtain ⟨i, hiz⟩ : ∃ i, zs.getD k 0 = i := ⟨_, rfl⟩
      rw [hiz] at e0
      have HC := Lib.hid hC
      have HMS := Lib.hid hms
      clear hC hac hiz hms
      by_cases u1 : i < 1
      · go_wp2_with (fail)
        refine (awake_any _ HC.out.aw.conf).mono ?_
        rintro e w4 ⟨rfl, hb4⟩
        go_wp2_with (fail)
        go_ret
        exact ⟨rfl, (HC.out.aw.step hb4).bel⟩
      by_cases u2 : 10 < i
      · go_wp2_with (fail)
        refine (awake_any _ HC.out.aw.conf).mono ?_
        rintro e w4 ⟨rfl, hb4⟩
        go_wp2_with (fail)
        go_ret
        exact ⟨rfl, (HC.out.aw.step hb4).bel⟩
      obtain ⟨j, rfl⟩ : ∃ j : Nat, i = j := ⟨i.toNat, by omega⟩
      obtain ⟨iu, hiu, hz0, hz1, hz2⟩ := info_parts infoU8
      have hwk : IntKind.u8.wrap (k : Int) = k := by rw [IntKind.wrap_u8]; omega
      have hO1 : (wr.alloc (.cells #[] 5)).ownsRow wr.heap.size 5 1 (.slice (some ⟨wr.heap.size, 0, none⟩) 0 0) 0 [] := own_new [] rfl (Nat.le_refl _) (by omega)
      have hI1 : Ints .u8 (wr.alloc (.cells #[] 5)) (wr.alloc (.cells #[] 5)).heap.size xb b := HIB.out.below' (HC.out.aw.bel.alloc (HC.out.aw.bel.size) _) (by have := HC.out.aw.bel.size; simp; omega)
      have HO1 := Lib.hid hO1
      have HI1 := Lib.hid hI1
      clear hO1 hI1
      go_wp2_with (first
        | (at_builtin; refine wpList_append_ints rfl (.tmp 54) (.tmp 55) 36 rfl wr.heap.size 5 iu _ 1 Tryd.underlying36 hiu hz0 hz1 hz2 rfl (.slice (some ⟨wr.heap.size, 0, none⟩) 0 0) 0 [] rfl HO1.out .u8 _ xb nb cb b rfl hnilb HI1.out hlb (by omega) (by omega) (by simp) ?_; intro v1 w4 hown4 hg4)
        | (at_builtin; refine wpList_append_ints rfl (.tmp 56) (.tmp 59) 36 rfl wr.heap.size 5 iu _ 1 Tryd.underlying36 hiu hz0 hz1 hz2 rfl v1 (0 + nb) _ rfl (hown4.alloc _) .u8 _ (some ⟨w4.heap.size, 0, none⟩) 1 1 [(k : Int)] rfl (by simp) (Ints.one .u8 w4 k 5) rfl (by omega) (by omega) (by have := hg4.size; simp at this ⊢; omega) ?_; intro v2 w5 hown5 hg5))
      have hb4 : Below wr.heap.size wr w4 := ((Below.refl wr.heap.size wr).alloc (Nat.le_refl _) _).grown hg4 (by simp) (fun q e => by obtain rfl : wr.heap.size = q := Option.some.inj e; omega)
      have hb5 : Below wr.heap.size wr w5 := (hb4.alloc hb4.size _).grown hg5 (by have := hb4.size; simp; omega) (fun q e => (hown4.lt q e).1)
      obtain ⟨bm, hbm⟩ : ∃ bm, b ++ [(k : Int)] = bm := ⟨_, rfl⟩
      have hbml : bm.length = nb + 1 := by rw [← hbm]; simp [hlb]
      have hbmy : Bytes bm := by
        rw [← hbm]; intro y hy
        rcases List.mem_append.1 hy with h | h
        · exact hby y h
        · obtain rfl : y = k := by simpa using h
          omega
      have hown5' : w5.ownsRow wr.heap.size 5 1 v2 bm.length (bm.map (Value.int .u8)) := by
        have e : [] ++ b.map (Value.int .u8) ++ [(k : Int)].map (Value.int .u8) = bm.map (Value.int .u8) := by rw [← hbm]; simp
        rw [e, show 0 + nb + 1 = bm.length by omega] at hown5
        exact hown5
      obtain ⟨xm, cm, hv2, him, -, hcm1, hcm2, -, -⟩ := owns_ints hown5'
      obtain ⟨gm, hgm, hxm⟩ : ∃ q, q < w5.heap.size ∧ xm = some ⟨q, 0, none⟩ := row_some (by rw [← hv2]; exact hown5') (by omega)
      subst hxm
      subst hv2
      have hgm0 : wr.heap.size ≤ gm := (hown5'.lt gm rfl).1
      have HM5 : Hid (SMAt own u9 ⟨j, gm, cm, bm⟩ w5) := Lib.hid ⟨him, fun h => by have h2 : gm < wr.heap.size := HC.out.recv.low _ h; omega, fun e => by have h2 : gm < wr.heap.size := (HC.out.row.lt gm e).2; omega, hgm, by show bm.length ≤ 101; omega, by show 1 ≤ j; omega, by show j ≤ 10; omega⟩
      have HC5 := Lib.hid (HC.out.later hb5)
      have hnm : bm.length = nb + 1 := hbml
      rw [hnm] at hcm1
      clear hbml
      try rw [hnm]
      obtain ⟨ka, kb, hkk⟩ := pair_ex (K j)
      obtain ⟨y0, y1⟩ := HC5.out.aw.key j (by omega) ka kb hkk
      have e5 : w5.cell? (a.add k) = some (.int .i64 (j : Int)) := by rw [hb5.cell (by have := HC.out.aw.bel.size; omega)]; exact e0
      have hs5 := hb5.size
      have hgw5 : g < w5.heap.size := by omega
      have hak5 : (a.add k).block < w5.heap.size := by have := HC.out.aw.bel.size; omega
      obtain ⟨d0, hd0⟩ : ∃ d0, der0 ka kb macL = d0 := ⟨_, rfl⟩
      obtain ⟨d1, hd1⟩ : ∃ d1, der1 ka kb macL = d1 := ⟨_, rfl⟩
      obtain ⟨T, hT⟩ : ∃ T, tagI d0 d1 bm = T := ⟨_, rfl⟩
      have HRT : Hid (rightTag (K j) bm = T) := by show _ = _; unfold rightTag; rw [hkk]; show tagI (der0 ka kb macL) (der1 ka kb macL) bm = T; rw [hd0, hd1]; exact hT
      have kc : Sem.run Tryd.prog (convert 36 36 (.slice (some ⟨w5.heap.size, 0, none⟩) 3 3)) (w5.alloc (.cells #[.int .u8 109, .int .u8 97, .int .u8 99] 5)).drew = .ok (.slice (some ⟨w5.heap.size, 0, none⟩) 3 3) (w5.alloc (.cells #[.int .u8 109, .int .u8 97, .int .u8 99] 5 (3, 4))).drew := Lib.run_convert_bytes_const (P := Tryd.prog) w5.drew 36 5 #[.int .u8 109, .int .u8 97, .int .u8 99] 3 3 Tryd.underlying36 Tryd.underlying5
      have hd : Ints .u8 (w5.alloc (.cells #[.int .u8 109, .int .u8 97, .int .u8 99] 5 (3, 4))).drew (w5.heap.size + 1) (some ⟨w5.heap.size, 0, none⟩) macL := Ints.lit .u8 w5.drew macL 5 (3, 4)
      have hbY : Below w5.heap.size w5 (w5.alloc (.cells #[.int .u8 109, .int .u8 97, .int .u8 99] 5 (3, 4))).drew := ((Below.refl _ _).alloc (Nat.le_refl _) _).drew
      have CD := pderive_any ka kb (some ⟨w5.heap.size, 0, none⟩) 3 3 macL _ (hd.mono (by simp)) macL_bytes rfl (Nat.le_refl _) (by omega)
      rw [hd0, hd1] at CD
      have HCD := Lib.hid CD
      have HBY := Lib.hid hbY
      have CT : ∀ W, Ints .u8 W W.heap.size (some ⟨gm, 0, none⟩) bm → Calls Tryd.prog 21 #[.agg #[.int .u64 d0, .int .u64 d1], .slice (some ⟨gm, 0, none⟩) (nb + 1) cm] W fun e w' => e = .returned (.int .u64 T) ∧ Below W.heap.size W w' := fun W hW => by
        have C := ptag_any d0 d1 (some ⟨gm, 0, none⟩) (nb + 1) cm bm W hW hbmy hnm hcm1 hcm2
        rw [hT] at C; exact C
      have CH : ∀ W, CRel w w1.heap.size g R K (fun i => if i = 0 then (a0, b0) else (0, 0)) u9 own hv l ms ms W → SMAt own u9 ⟨j, gm, cm, bm⟩ W → Calls Tryd.prog 20 #[.pointer (some ⟨R, 0, none⟩), .int .i64 (j : Int), .slice (some ⟨gm, 0, none⟩) (nb + 1) cm, .int .u64 T, .agg #[.int .i64 0, .int .i64 (1000 + 100 * (j : Int))]] W fun e w' =>
          e = .returned (.int .i64 0) ∧ Keeps own W w' ∧ ∃ p cap hv', Recv w' (grew own W w') R ⟨1000, 100, 2, 10, 0, (fun i => if i = 0 then (a0, b0) else (0, 0)), hv', l ++ [⟨j, p, cap, bm, T⟩]⟩ := fun W h1 h2 => by
        have C := hear_any R own ⟨1000, 100, 2, 10, 0, (fun i => if i = 0 then (a0, b0) else (0, 0)), hv, l⟩ j T 0 (1000 + 100 * (j : Int)) (some ⟨gm, 0, none⟩) (nb + 1) cm bm W h1.recv h2.ints hbmy hnm (by omega) (by simp)
        rw [hear_safe (by omega) (by omega) (by omega)] at C
        exact C.mono fun e w' q => ⟨q.1, q.2.2 rfl⟩
      have HCT := Lib.hid CT
      have HCH := Lib.hid CH
      have h5 : w5.drew.cell? (a.add k) = some (.int .i64 (j : Int)) ∧ w5.drew.cell? ⟨g, j * 2, none⟩ = some (.int .u64 ka) ∧ w5.drew.cell? ⟨g, j * 2 + 1, none⟩ = some (.int .u64 kb) := ⟨e5, y0, y1⟩
      have h6 := three_at ((Below.refl w5.heap.size w5).alloc (Nat.le_refl _) (.cells #[.int .u8 109, .int .u8 97, .int .u8 99] 5)).drew hak5 hgw5 hgw5 ⟨e5, y0, y1⟩
      have h7 := three_at hbY hak5 hgw5 hgw5 ⟨e5, y0, y1⟩
      have hwm : IntKind.i64.wrap (100 * (j : Int)) = 100 * (j : Int) := i64_wrap_eq ⟨by omega, by omega⟩
      have hwa : IntKind.i64.wrap (1000 + 100 * (j : Int)) = 1000 + 100 * (j : Int) := i64_wrap_eq ⟨by omega, by omega⟩
      have hj0 : (0 : Int) ≤ (j : Int) := by omega
      have hj1 : (j : Int) < 11 := by omega
      have hj2 : j < 11 := by omega
      have hki : (k : Int) < n := by omega
      have hBw5 : w1.heap.size ≤ w5.heap.size := by omega
      clear hb4 hb5 hown4 hown5 hown5' hg4 hg5 him hkk e5 y0 y1 hd0 hd1 hT hd hbY CD CT CH e0 hwk
      go_region_held_law (fun w' => w'.cell? (a.add k) = some (.int .i64 (j : Int)) ∧ w'.cell? ⟨g, j * 2, none⟩ = some (.int .u64 ka) ∧ w'.cell? ⟨g, j * 2 + 1, none⟩ = some (.int .u64 kb))
        (first | exact h5 | exact h6 | exact h7 | assumption)
        ((first
          | (go_at_call 18; refine HCD.out.mono ?_; rintro e w6 ⟨rfl, hb6⟩; have hbw6 := HBY.out.trans (hb6.mono HBY.out.size); have h8 := three_at hb6 (Nat.lt_of_lt_of_le hak5 HBY.out.size) (Nat.lt_of_lt_of_le hgw5 HBY.out.size) (Nat.lt_of_lt_of_le hgw5 HBY.out.size) h7; have HM6 := Lib.hid (HM5.out.later hbw6))
          | (go_at_call 21; refine (HCT.out _ HM6.out.ints).mono ?_; rintro e w7 ⟨rfl, hb7⟩; have hbw7 := hbw6.trans (hb7.mono hbw6.size); have h9 := three_at hbw7 hak5 hgw5 hgw5 ⟨h5.1, h5.2.1, h5.2.2⟩; have HC7 := Lib.hid (HC5.out.later hbw7); have HM7 := Lib.hid (HM5.out.later hbw7))
          | (go_at_call 20; refine (HCH.out _ HC7.out HM7.out).mono ?_; rintro e w8 ⟨rfl, hk8, mp, mc, hv8, hr8⟩; have h10 := three_own hk8 HC7.out.ownB HC7.out.aw.size (by have := HC7.out.aw.wB; omega) hgB hgB h9)))
      have hC8 := HC7.out.hear HM7.out HRT.out hk8 hr8
      have HC8 := Lib.hid hC8
      have hM8 := HC8.out.body ⟨j, gm, cm, bm⟩ (by simp)
      have hs8 := hk8.size
      have hBw8 : w1.heap.size ≤ w8.heap.size := hC8.aw.size
      obtain ⟨ji, hj, hjz0, hjz1, hjz2⟩ := info_parts infoSl
      have hrow := hC8.row
      rw [HMS.out] at hrow
      have HROW := Lib.hid hrow
      have HHNM := Lib.hid hnm
      clear hC8 hk8 hr8 hM8 hrow h5 h6 h7 h8 h9 h10 kc hb6 hb7 hbw6 hbw7 hnm
      go_wp2_with (at_builtin; refine wpList_append_own_at _ rfl (.tmp 88) (.tmp 90) 42 rfl w1.heap.size 36 ji _ 1 24 Tryd.underlying42 hj hjz0 hjz1 hjz2 rfl (by omega) u9 k (smCells ms) rfl (HROW.out.alloc _) _ 1 1 [.slice (some ⟨gm, 0, none⟩) (nb + 1) cm] rfl rfl (news_new _ #[.slice (some ⟨gm, 0, none⟩) (nb + 1) cm] _ _ rfl) (by intro u hu; simp at hu; subst hu; rfl) (by unfold maxLen; omega) (by omega) (by simp; omega) ?_; intro sv' w9 hown9 hg9 hnil9 hat9)
      go_roundw
      case rel =>
        have hfin := (HC8.out.later (below_alloc' (Below.refl _ _) (.cells #[.slice (some ⟨gm, 0, none⟩) (nb + 1) cm] 36))).take (m := ⟨j, gm, cm, bm⟩) (by simp; omega) hg9 (by rw [HMS.out, HHNM.out]; exact hown9) hat9
        exact ⟨k + 1, by omega, by go_num, _, _, _, ms ++ [⟨j, gm, cm, bm⟩], by rw [List.length_append, HMS.out]; rfl, hfin⟩
      case measure => simp [intOf]; omega
    · obtain rfl : k = n := by omega
      have HC := Lib.hid hC
      have hklen : (l.length : Int) = k := by rw [hlen]
      have CHE := held_any R own _ wr HC.out.recv
      simp only at CHE
      rw [hlen] at CHE
      have HCHE := Lib.hid CHE
      have HCKN := Lib.hid (known_any R own _ wr HC.out.recv)
      clear hC CHE hklen
      go_wp2_with (fail)
      refine HCHE.out.mono ?_
      rintro e w4 ⟨rfl, rfl⟩
      go_wp2_with (fail)
      refine HCKN.out.mono ?_
      rintro e w4 ⟨rfl, rfl⟩
      obtain ⟨ka, kb, hkk⟩ := pair_ex (K 10)
      obtain ⟨y0, y1⟩ := HC.out.aw.key 10 (by omega) ka kb hkk
      have y0' : wr.cell? ⟨g, 20, none⟩ = some (.int .u64 ka) := y0
      have y1' : wr.cell? ⟨g, 21, none⟩ = some (.int .u64 kb) := y1
      have C4 := disc_yes R own _ 10 ka kb wr HC.out.recv (by show 0 < 10; omega) (by show (10 : Int) ≤ 10; omega) (by show downN 10 (ka, kb) = (a0, b0); rw [← hkk, ← HK0.out]; exact HDN.out 0 10 (by omega)) (by show l.length ≤ 1000; omega)
      simp only at C4
      have hput : ∀ i : Nat, 1 ≤ i → i ≤ 10 → putK 0 10 (ka, kb) (fun i => if i = 0 then (a0, b0) else (0, 0)) i = K i := by
        intro i h1 h2
        show (if 0 < i ∧ i ≤ 10 then downN (10 - i) (ka, kb) else _) = _
        rw [if_pos ⟨by omega, by omega⟩, ← hkk]
        have := HDN.out i (10 - i) (by omega)
        rw [show i + (10 - i) = 10 by omega] at this
        exact this
      obtain ⟨KP, hKP⟩ : ∃ KP, putK 0 10 (ka, kb) (fun i => if i = 0 then (a0, b0) else (0, 0)) = KP := ⟨_, rfl⟩
      rw [hKP] at C4 hput
      have hpair : ∀ (q : Nat) (ml : Msg), l[q]? = some ml → ∃ sm : SM, ms[q]? = some sm ∧ ml.iv = sm.iv ∧ ml.b = sm.b ∧ ml.tag = rightTag (K sm.iv) sm.b := by
        intro q ml hq
        have h2 := congrArg (·[q]?) HC.out.heard
        simp only [smMsgs, List.getElem?_map, hq, Option.map_some] at h2
        cases hm : ms[q]? with
        | none => rw [hm] at h2; simp at h2
        | some sm =>
          rw [hm] at h2
          simp only [Option.map_some, Option.some.injEq, msgT, Prod.mk.injEq] at h2
          exact ⟨sm, rfl, h2.1, h2.2.1, h2.2.2⟩
      have hO : outM KP ((10 : Nat) : Int) l = l := by
        unfold outM
        refine List.filter_eq_self.2 fun ml hml => ?_
        obtain ⟨q, hq⟩ : ∃ q : Nat, l[q]? = some ml := List.mem_iff_getElem?.1 hml
        obtain ⟨sm, hsm, e1, e2, e3⟩ := hpair q ml hq
        have hB := HC.out.body sm (List.mem_of_getElem? hsm)
        have hlo := hB.lo
        have hhi := hB.hi
        rw [e1, Int.toNat_natCast, hput sm.iv hlo hhi, e2, e3]
        simp; omega
      have hkp : keepM ((10 : Nat) : Int) l = [] := List.filter_eq_nil_iff.2 fun m hm => by
        have h2 : m.iv ≤ 10 := (HC.out.recv.ivs m hm).2
        simp only [decide_eq_true_eq]; omega
      rw [hO, hkp] at C4
      have HC4 := Lib.hid C4
      have HPAIR := Lib.hid hpair
      clear C4 hO hkp hKP hput y0 y1 hpair hkk
      go_wp2_with (fail)
      refine HC4.out.mono ?_
      rintro e w5 ⟨ov, hv', rfl, hrow, hr5, hk5, hi5⟩
      have hA5 := HC.out.aw.keeps hk5 HC.out.ownB
      have hsent := row_same HC.out.row (fun q hq => hk5.block q (HC.out.row.lt q hq).2 (HC.out.sfar q hq))
      rw [hms] at hsent
      rw [hlen] at hrow
      obtain ⟨po, co', hov, -, -⟩ := row_form hrow
      obtain ⟨ps, cs, hsv, -, -⟩ := row_form hsent
      subst hov
      subst hsv
      have hAl : ∀ q, q < k → AlikeAt w5 po ps q := by
        intro q hq
        obtain ⟨ml, hml⟩ : ∃ ml, l[q]? = some ml := ⟨_, List.getElem?_eq_getElem (by omega)⟩
        obtain ⟨sm, hsm, e1, e2, e3⟩ := HPAIR.out q ml hml
        obtain ⟨go, hgo, rfl⟩ := row_some hrow (by omega)
        obtain ⟨gs, hgs, rfl⟩ := row_some hsent (by omega)
        have hadd : ∀ g : Nat, (⟨g, 0, none⟩ : Addr).add q = ⟨g, q, none⟩ := fun g => by unfold Addr.add; split <;> simp_all
        have c1 := hrow.cells (g := go) rfl q (.slice ml.p ml.b.length ml.cap) (by unfold outCells; rw [List.getElem?_map, hml]; rfl)
        have c2 := hsent.cells (g := gs) rfl q (.slice (some ⟨sm.g, 0, none⟩) sm.b.length sm.cap) (by unfold smCells; rw [List.getElem?_map, hsm]; rfl)
        rw [hadd] at c1 c2
        have hB := HC.out.body sm (List.mem_of_getElem? hsm)
        have hbl := hB.len
        refine ⟨go, gs, ml.p, some ⟨sm.g, 0, none⟩, ml.cap, sm.cap, sm.b.length, sm.b, rfl, rfl, hgo, hgs, by rw [← e2]; exact c1, c2, by rw [← e2]; exact hi5 ml (List.mem_of_getElem? hml), hB.ints.same (hk5.block _ hB.lt hB.far) hk5.size, rfl, by omega⟩
      have HAL := Lib.hid (alike_true po ps k co' cs w5 hAl (by omega))
      have HA5 := Lib.hid hA5
      have HR5 := Lib.hid hr5
      clear hA5 hsent hrow hr5 hk5 hi5 hAl y0' y1'
      go_wp2_with (fail)
      refine HAL.out.mono ?_
      rintro e w6 ⟨rfl, hb6⟩
      have HA6 := Lib.hid (HA5.out.step hb6)
      have HR6 := Lib.hid (HR5.out.below hb6 (Nat.le_refl _))
      have CH2 := held_any R own _ w6 HR6.out
      simp only [List.length_nil] at CH2
      have HH2 := Lib.hid CH2
      have HK2 := Lib.hid (known_any R own _ w6 HR6.out)
      clear hb6 CH2
      go_wp2_with (fail)
      refine HH2.out.mono ?_
      rintro e w7 ⟨rfl, rfl⟩
      go_wp2_with (fail)
      refine HK2.out.mono ?_
      rintro e w7 ⟨rfl, rfl⟩
      go_wp2_with (fail)
      refine (awake_any _ HA6.out.conf).mono ?_
      rintro e w8 ⟨rfl, hb8⟩
      go_wp2_with (fail)
      go_ret
      exact ⟨rfl, (HA6.out.step hb8).bel⟩

theorem ChainComplete_walk (v0 v1 v2 : Value) (w : World) (h0 : IsInt .u64 w v0) (h1 : IsInts .i64 w v1) (h2 : IsInts .u8 w v2) (hc : ConfAt w) :
    Calls Tryd.prog 6 #[v0, v1, v2] w fun e w' => e = .returned (.bool true) ∧ Below w.heap.size w w' := by
  obtain ⟨seed, rfl, -⟩ := h0
  obtain ⟨x, n, c, zs, rfl, i1, -, i3, -, -, -⟩ := h1
  obtain ⟨xb, nb, cb, b, rfl, j1, j2, j3, j4, j5, j6⟩ := h2
  by_cases hn : 30 < n
  · have hn' : (30 : Int) < n := by omega
    have HA := Lib.hid (awake_any w hc)
    clear hc
    go_enter Tryd.func6, Tryd.ntmps6
    go_wp2_with (fail)
    refine HA.out.mono ?_
    rintro e w1 ⟨rfl, hb1⟩
    go_wp2_with (fail)
    go_ret
    exact ⟨rfl, hb1⟩
  · by_cases h0 : 100 < nb
    · have hn' : ¬ (30 : Int) < n := by omega
      have hn2 : (100 : Int) < nb := by omega
      have HA := Lib.hid (awake_any w hc)
      clear hc
      go_enter Tryd.func6, Tryd.ntmps6
      go_wp2_with (fail)
      refine HA.out.mono ?_
      rintro e w1 ⟨rfl, hb1⟩
      go_wp2_with (fail)
      go_ret
      exact ⟨rfl, hb1⟩
    · exact complete_main seed x n c zs xb nb cb b w i1 i3 (by omega) j1 (fun y hy => wf_u8 (j2 y hy)) j3 j6 (by omega) hc
end Go.Proofs.YtmhgoknbmbicmaaDoor
