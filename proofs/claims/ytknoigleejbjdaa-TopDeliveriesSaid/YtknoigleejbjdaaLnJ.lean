/- The law TopDeliveries. -/
import Derived.Test.YtknoigleejbjdaaLnI
namespace Go.Proofs.Ytknoigleejbjdaa
open Go.RowKit
set_option linter.unusedVariables false
set_option linter.unusedSimpArgs false

set_option maxHeartbeats 16000000 in
set_option maxRecDepth 100000 in
theorem deliver_main (k : Lnk) (x : Option Addr) (nc cc : Nat) (dir : Int) (y : Option Addr) (n c : Nat) (ss : List Int) (w : World) (hD : Deeds w x k.cs) (hl : k.cs.length = nc) (hnc : nc ≤ cc) (hcc : cc ≤ 9223372036854775807) (hS : Ints .i64 w w.heap.size y ss) (hsl : ss.length = n) (hn : n ≤ 200) (hn100 : nc ≤ 100) (hG : Good k) (h1 : InR 1 dir) :
    Calls Try.prog 10 #[.agg (lnkVals k x nc cc), .int .i64 dir, .slice y n c] w fun e w' => e = .returned (.bool true) ∧ Below w.heap.size w w' := by
  obtain ⟨X0, hX0⟩ : ∃ X, X = w.alloc (lnkObj k x nc cc) := ⟨_, rfl⟩
  obtain ⟨hb0, hs0, ho0⟩ := lay_lnk hX0
  have HD0 := Lib.hid hD
  have HC := Lib.hid (check_any k x nc cc X0 (hD.below hb0) hl hnc hcc)
  have HBN := Lib.hid (fun (W : World) (hW : Below w.heap.size w W) => bounds_any k x nc cc dir W (HD0.out.below hW) hl hnc hcc hG h1)
  have HAR := Lib.hid (fun (W : World) (hW : Below w.heap.size w W) (t m : Int) (h2 : InR 1125899906842624 t) (h3 : InR 1099511627776 m) => arrive_any k x nc cc dir t m W (HD0.out.below hW) hl hnc hcc hG h1 h2 h3)
  have HB0 := Lib.hid hb0
  have HO0 := Lib.hid ho0
  have HG := Lib.hid hG
  have HSS := Lib.hid hS
  have HSL := Lib.hid hsl
  have hn1 : ¬ (200 : Int) < n := by omega
  have hn2 : ¬ (100 : Int) < nc := by omega
  have hd0 : ¬ dir < 0 := by unfold InR at h1; omega
  have hd1 : ¬ (1 : Int) < dir := by unfold InR at h1; omega
  obtain ⟨K, hK⟩ : ∃ K, k = K := ⟨_, rfl⟩
  have HK := Lib.hid hK
  have hdF := fun t => delF_in (dir := dir) (at' := t) hG
  have hvF := varF_in (dir := dir) hG
  obtain ⟨DF, hDF⟩ : ∃ DF : Int → Int, delF k dir = DF := ⟨_, rfl⟩
  obtain ⟨VF, hVF⟩ : ∃ VF, varF k dir = VF := ⟨_, rfl⟩
  simp only [hDF] at hdF
  rw [hVF] at hvF
  have HDF := Lib.hid hdF
  rw [hDF, hVF] at HBN HAR
  obtain ⟨d0, d1, v0, v1, lo, se, cs⟩ := k
  have hx0' : Hid (X0 = w.alloc (.cells #[.int .i64 d0, .int .i64 d1, .int .i64 v0, .int .i64 v1, .int .i64 lo, .int .u64 se, .slice x nc cc] 59)) := Lib.hid hX0
  obtain ⟨a00, a01, a02, a03, a04, a05, a06⟩ := ob7 ho0
  clear hD hb0 ho0 hX0 hl hG h1 hK hDF hVF hdF hS hsl
  unfold lnkVals at HC HBN HAR ⊢
  simp only at HC HBN HAR a00 a01 a02 a03 a04 a05 a06 ⊢
  go_enter Try.func10, Try.ntmps10
  go_wp2_with (fail)
  rw [← hx0'.out]
  refine HC.out.mono ?_
  rintro e w1 ⟨⟨E, rfl, hE⟩, hb1⟩
  obtain rfl : E = 0 := hE.2 HG.out
  have hs1 := hb1.size
  have HB1 := Lib.hid (HB0.out.trans (hb1.mono (by omega)))
  have HO1 := Lib.hid (HO0.out.below hb1)
  clear hb1 hE a00 a01 a02 a03 a04 a05 a06
  go_wp2_with (fail)
  refine (new_QO w.heap.size (fun b => b = w.heap.size) 4096 w1 (by omega) (by omega) (by omega) (fun b h => by omega)).mono ?_
  rintro e w2 ⟨rfl, hb2, hq2⟩
  have hs2 := hb2.size
  have HB2 := Lib.hid (HB1.out.trans (hb2.mono (by omega)))
  have HO2 := Lib.hid (HO1.out.below hb2)
  have HQ2 := Lib.hid hq2
  obtain ⟨a20, a21, a22, a23, a24, a25, a26⟩ := ob7 HO2.out
  simp only at a20 a21 a22 a23 a24 a25 a26
  have HBB := Lib.hid (HBN.out w2 HB2.out)
  clear hb2 hq2
  obtain ⟨Q, hQ⟩ : ∃ Q, w1.heap.size = Q := ⟨_, rfl⟩
  go_wp2_with (fail)
  refine HBB.out.mono ?_
  rintro e w3 ⟨⟨bl, bh, rfl, hbl, hbh, hbl0, hbh0⟩, hb3⟩
  have hs3 := hb3.size
  obtain ⟨bi, hbi⟩ : ∃ b, w3.heap.size = b := ⟨_, rfl⟩
  obtain ⟨X3, hX3⟩ : ∃ X, X = w3.alloc (.cells #[.int .i64 bl, .int .i64 bh] 63) := ⟨_, rfl⟩
  have hbx3 : Below w3.heap.size w3 X3 := by rw [hX3]; exact (Below.refl _ _).alloc (Nat.le_refl _) _
  have hx3 : X3.heap.size = bi + 1 := by rw [hX3, ← hbi]; simp
  have HB3 := Lib.hid ((HB2.out.trans (hb3.mono (by omega))).trans (hbx3.mono (by omega)))
  have HO3 := Lib.hid ((HO2.out.below hb3).below hbx3)
  have HT3 := Lib.hid (show Two X3 bi bl bh by rw [← hbi]; exact Two.lay hX3)
  have HQ3 := Lib.hid (show QO w.heap.size (fun b => b = w.heap.size ∨ b = bi) X3 w1.heap.size 4096 0 0 0 [] from (HQ2.out.below hb3).lay hX3 (fun b q => q.imp id (fun q => q.trans hbi.symm)))
  have HBL := Lib.hid hbl
  have HBH := Lib.hid hbh
  have HX3 := Lib.hid hX3
  obtain ⟨i0, hinf, hz0, hz1, hz2⟩ := info_parts infoInt
  clear hb3 hbx3 hX3 hbl hbh a20 a21 a22 a23 a24 a25 a26
  go_wp2_with (at_make; refine (fun (h : Hid _) => h.out) ?_)
  refine Lib.hid ?_
  refine wpList_make_full _ rfl (.tmp 51) (.tmp 51) 60 rfl w.heap.size 3 i0 _ 1 Try.underlying60 hinf hz0 hz1 .i64 .i64 _ _ n rfl rfl (by omega) (by omega) (by rw [hz2]; omega) (by unfold maxLen; omega) (by simp; omega) ?_
  intro w4 hown hgrow
  obtain ⟨g, hg⟩ : ∃ b, bi + 1 = b := ⟨_, rfl⟩
  have hXs : X3.heap.size = g := by omega
  have hown2 : w4.ownsRow w.heap.size 3 1 (.slice (some ⟨g, 0, none⟩) n n) n (madeCells (Value.int .i64 0).cells (n * 1)).toList := by rw [← hXs, HX3.out]; exact hown
  have hgrow2 : X3.grownBy w4 none := by rw [HX3.out]; exact hgrow
  have hb4 : Below X3.heap.size X3 w4 := (Below.refl _ _).grown hgrow2 (Nat.le_refl _) (fun k hk => by cases hk)
  have hgl : g < w4.heap.size := (World.ownsRow.lt hown2 g rfl).2
  have HT4 := Lib.hid (show TD w K x nc cc w.heap.size bi g n Q bl bh ⟨4096, 0, 0, 0, []⟩ (fun j => if j < 0 then -1 else 0) w4 from ⟨by
    rw [← hQ]
    exact QO.below (QO.grow HQ3.out (fun b q => by rcases q with q | q; exact .inl q; exact .inr (by omega))) hb4, by rw [← HK.out]; exact HO3.out.below hb4, HT3.out.below hb4, IRow.ofRow hown2 (fun j hj => by simp [madeCells, Value.cells, hj, Nat.mod_one]) hgl, HB3.out.trans (hb4.mono (by omega))⟩)
  have hwg : w.heap.size ≤ g := by omega
  have hbg : w.heap.size ≠ g := by omega
  have hig : bi ≠ g := by omega
  have hib : bi ≠ w.heap.size := by omega
  clear hown hgrow hown2 hgrow2 hb4 HX3 HQ3 HT3 HO3 HB3 HQ2 HO2 HB2 HO1 HB1
  go_wp2_with (fail)
  go_loopw [55] (fun ki wr => ∃ (i : Nat), i ≤ n ∧ ki = .int .i64 i ∧ Hid (TD w K x nc cc w.heap.size bi g n Q bl bh ⟨4096, 0, 0, 0, []⟩ (fun j => if j < i then -1 else 0) wr)) (fun ki _ => n - (intOf ki).toNat)
  case atStart => exact ⟨0, by omega, rfl, HT4⟩
  clear HT4
  case round =>
    obtain ⟨i, hi, rfl, HT⟩ := hrel
    by_cases hin : i < n
    · have hiw : IntKind.i64.wrap ((i : Int) + 1) = (i : Int) + 1 := i64_wrap_eq ⟨by omega, by omega⟩
      obtain ⟨c0, c1⟩ := HT.out.r.2 i hin
      rename_i wr
      have HT5 := Lib.hid (show TD w K x nc cc w.heap.size bi g n Q bl bh ⟨4096, 0, 0, 0, []⟩ (fun j => if j < i + 1 then -1 else 0) (wr.setCell ⟨g, i, none⟩ (.int .i64 (-1))) from by
        have := HT.out.store hwg hbg hig hin (-1)
        rw [show (fun j => if j < i + 1 then (-1 : Int) else 0) = (fun j => if j = i then -1 else if j < i then -1 else 0) from funext (fun j => by
          by_cases e : j = i
          · subst e; simp
          · rw [if_neg e]
            by_cases e2 : j < i
            · rw [if_pos e2, if_pos (by omega)]
            · rw [if_neg e2, if_neg (by omega)])]
        exact this)
      go_wp2_with (fail)
      go_roundw
      case rel => exact ⟨i + 1, by omega, by go_num, HT5⟩
      case measure => simp [intOf]; omega
    · obtain rfl : i = n := by omega
      have HT0 := Lib.hid (show ∃ (N : Nat) (l : List Ev) (A : Nat → Int), TD w K x nc cc w.heap.size bi g i Q bl bh ⟨4096, 0, 0, N, l⟩ A _ ∧ l.length = 0 ∧ N ≤ 0 * 10000 ∧ PD 0 A 0 l from ⟨0, [], _, HT.out, rfl, Nat.le_refl _, ⟨fun e he => by simp at he, List.Pairwise.nil⟩⟩)
      clear HT hin
      go_wp2_with (fail)
      go_loopw [9, 64] (fun ov ki wr => ∃ (j p : Nat), j ≤ i ∧ p ≤ j ∧ ki = .int .i64 j ∧ ov = .int .i64 p ∧ Hid (∃ (N : Nat) (l : List Ev) (A : Nat → Int), TD w K x nc cc w.heap.size bi g i Q bl bh ⟨4096, 0, p, N, l⟩ A wr ∧ l.length = p ∧ N ≤ j * 10000 ∧ PD j A 0 l)) (fun _ ki _ => i - (intOf ki).toNat)
      case atStart => exact ⟨0, 0, by omega, by omega, rfl, rfl, HT0⟩
      clear HT0
      case round =>
        obtain ⟨j, p, hj, hpj, rfl, rfl, HX⟩ := hrel
        rename_i wr
        by_cases hji : j < i
        · have hjw : IntKind.i64.wrap ((j : Int) + 1) = (j : Int) + 1 := i64_wrap_eq ⟨by omega, by omega⟩
          have hpw : IntKind.i64.wrap ((p : Int) + 1) = (p : Int) + 1 := i64_wrap_eq ⟨by omega, by omega⟩
          obtain ⟨N, l, A, hT, hlp, hN, hPD⟩ := HX.out
          obtain ⟨a, hya, hca⟩ := HSS.out.at' (show j < ss.length by have := HSL.out; omega)
          have z0 := hca wr hT.b
          obtain ⟨t, ht⟩ : ∃ t, ss.getD j 0 = t := ⟨_, rfl⟩
          rw [ht] at z0
          have HT := Lib.hid hT
          have HLP := Lib.hid hlp
          have HNN := Lib.hid hN
          have HPD := Lib.hid hPD
          clear hca ht hT hlp hN hPD HX
          subst hya
          by_cases t0 : t < 0
          · go_wp2_with (fail)
            go_ret
            exact ⟨rfl, HT.out.b⟩
          · by_cases t1 : 1125899906842624 < t
            · go_wp2_with (fail)
              go_ret
              exact ⟨rfl, HT.out.b⟩
            · have ho := HT.out.o
              rw [← HK.out] at ho
              obtain ⟨a0, a1, a2, a3, a4, a5, a6⟩ := ob7 ho
              simp only at a0 a1 a2 a3 a4 a5 a6
              have HCA := Lib.hid (HAR.out wr HT.out.b t j ⟨by omega, by omega⟩ ⟨by omega, by omega⟩)
              clear ho
              go_wp2_with (fail)
              refine HCA.out.mono ?_
              rintro e w5 ⟨h, hb5⟩
              have HT5 := Lib.hid (HT.out.below hb5)
              clear hb5
              rcases h with ⟨rfl, -⟩ | ⟨V, rfl, hV⟩
              · have HX5 := Lib.hid (show ∃ (N : Nat) (l : List Ev) (A : Nat → Int), TD w K x nc cc w.heap.size bi g i Q bl bh ⟨4096, 0, p, N, l⟩ A w5 ∧ l.length = p ∧ N ≤ (j + 1) * 10000 ∧ PD (j + 1) A 0 l from ⟨N, l, A, HT5.out, HLP.out, by have := HNN.out; omega, ⟨fun e he => by
                  obtain ⟨q, h1, h2⟩ := HPD.out.of e he
                  exact ⟨q, by omega, h2⟩, HPD.out.nd⟩⟩)
                go_wp2_with (fail)
                go_roundw
                case rel => exact ⟨j + 1, p, by omega, by omega, by go_num, rfl, HX5⟩
                case measure => simp [intOf]; omega
              · obtain ⟨hV0, hV1⟩ := hV
                have f1 := HBL.out t
                have f2 := HBH.out t
                have f3 := HDF.out t
                obtain ⟨r, hr⟩ : ∃ r, t + DF t + V = r := ⟨_, rfl⟩
                rw [hr]
                have r0 : 0 ≤ r := by omega
                have r1 : r ≤ 2000000000000000 := by omega
                have r2 : ¬ r < t + bl := by omega
                have r3 : ¬ t + bh < r := by omega
                have wl : IntKind.i64.wrap (t + bl) = t + bl := i64_wrap_eq ⟨by omega, by omega⟩
                have wh : IntKind.i64.wrap (t + bh) = t + bh := i64_wrap_eq ⟨by omega, by omega⟩
                obtain ⟨tt0, tt1, tt2, -, -⟩ := HT5.out.t
                have he : St.err ⟨4096, 0, p, N, l⟩ r = 0 := pe_ok (by show (0 : Int) ≤ 0; omega) r0 (by show (l.length : Int) < 4096; rw [HLP.out]; omega)
                obtain ⟨p1, p2⟩ := St.push_ok (item := (j : Int)) he
                have hd := does_push (B := w.heap.size) (Q := Q) (w := w5) (s := ⟨4096, 0, p, N, l⟩) (k := j) ⟨hpj, HNN.out⟩ (by omega) r (j : Int)
                rw [p1, p2, he] at hd
                have HCP := Lib.hid (HT5.out.call hd)
                clear f1 f2 f3 hr he p1 p2 hd hV0 hV1 HCA a0 a1 a2 a3 a4 a5 a6
                go_wp2_with (fail)
                refine HCP.out.mono ?_
                rintro e w6 ⟨rfl, hT6⟩
                obtain ⟨c0, c1⟩ := hT6.r.2 j hji
                have HX6 := Lib.hid (show ∃ (N : Nat) (l : List Ev) (A : Nat → Int), TD w K x nc cc w.heap.size bi g i Q bl bh ⟨4096, 0, p + 1, N, l⟩ A (w6.setCell ⟨g, j, none⟩ (.int .i64 r)) ∧ l.length = p + 1 ∧ N ≤ (j + 1) * 10000 ∧ PD (j + 1) A 0 l from ⟨N + 10000, l ++ [⟨r, ((p + 1 : Nat) : Int), (j : Int)⟩], _, hT6.store hwg hbg hig hji r, by rw [List.length_append, HLP.out]; rfl, by have := HNN.out; omega, HPD.out.push (by omega) (by omega) (fun e he => by
                  obtain ⟨q, h1, h2, _⟩ := HPD.out.of e he
                  omega) r0 HPD.out.of⟩)
                clear hT6
                go_wp2_with (fail)
                go_roundw
                case rel => exact ⟨j + 1, p + 1, by omega, by omega, by go_num, by go_num, HX6⟩
                case measure => simp [intOf]; omega
        · obtain rfl : j = i := by omega
          clear hji
          have HX0 := Lib.hid (show ∃ (N : Nat) (nw : Int) (l : List Ev) (A : Nat → Int), TD w K x nc cc w.heap.size bi g j Q bl bh ⟨4096, nw, p, N, l⟩ A wr ∧ l.length = p - 0 ∧ N ≤ (j + 0) * 10000 ∧ PD j A 0 l from by
            obtain ⟨N, l, A, h1, h2, h3, h4⟩ := HX.out
            exact ⟨N, 0, l, A, h1, h2, h3, h4⟩)
          clear HX
          go_wp2_with (fail)
          go_loopw [18, 19] (fun lv ki wr => ∃ (q : Nat) (la : Int), q ≤ p ∧ ki = .int .i64 q ∧ lv = .int .i64 la ∧ Hid (∃ (N : Nat) (nw : Int) (l : List Ev) (A : Nat → Int), TD w K x nc cc w.heap.size bi g j Q bl bh ⟨4096, nw, p, N, l⟩ A wr ∧ l.length = p - q ∧ N ≤ (j + q) * 10000 ∧ PD j A la l)) (fun _ ki _ => p - (intOf ki).toNat)
          case atStart => exact ⟨0, 0, by omega, rfl, rfl, HX0⟩
          clear HX0
          case round =>
            obtain ⟨q, la, hq, rfl, rfl, HX⟩ := hrel
            rename_i wr
            obtain ⟨N, nw, l, A, hT, hlq, hN, hPD⟩ := HX.out
            have hqw : IntKind.i64.wrap ((q : Int) + 1) = (q : Int) + 1 := i64_wrap_eq ⟨by omega, by omega⟩
            by_cases hqp : q < p
            · obtain ⟨jj, id, hjj, e1, e2, e3, e4, hla, hPD', hpl⟩ := hPD.pop hT.q.facts' (fun z => by rw [z] at hlq; simp at hlq; omega)
              have hd := does_pop (B := w.heap.size) (Q := Q) (w := wr) (s := ⟨4096, nw, p, N, l⟩) (k := j + q) ⟨by simp only; omega, hN⟩ (by omega)
              simp only at hd
              rw [e1, e2, e3, e4] at hd
              obtain ⟨t, ht⟩ : ∃ t, A jj = t := ⟨_, rfl⟩
              rw [ht] at hd hla hPD'
              have HC := Lib.hid (hT.call hd)
              have HPD := Lib.hid hPD'
              have HPL := Lib.hid (show (popL l).length = p - (q + 1) by rw [hpl, hlq]; omega)
              have HT0 := Lib.hid ht
              have HNN := Lib.hid hN
              have n1 : ¬ t < la := by omega
              have n2 : ¬ (jj : Int) < 0 := by omega
              have n3 : ¬ (j : Int) ≤ (jj : Int) := by omega
              have m1 : decide (t < la) = false := decide_eq_false n1
              have m2 : decide ((jj : Int) < 0) = false := decide_eq_false n2
              have m3 : decide ((j : Int) ≤ (jj : Int)) = false := decide_eq_false n3
              clear hd e1 e2 e3 e4 hPD hPD' hpl hT hlq hN HX ht
              go_wp2_with (fail)
              refine HC.out.mono ?_
              rintro e w6 ⟨rfl, hT6⟩
              obtain ⟨b6, hb6e⟩ : ∃ b, w6.heap.size = b := ⟨_, rfl⟩
              obtain ⟨X6, hX6⟩ : ∃ X, X = w6.alloc (.cells #[.int .i64 t, .int .i64 id, .int .i64 jj] 30) := ⟨_, rfl⟩
              have hbx6 : Below w6.heap.size w6 X6 := by rw [hX6]; exact (Below.refl _ _).alloc (Nat.le_refl _) _
              have hx6 : X6.heap.size = b6 + 1 := by rw [hX6, ← hb6e]; simp
              have hT6' := hT6.below hbx6
              obtain ⟨g60, g61, g62⟩ := (show ObAt X6 b6 _ by rw [← hb6e]; exact ObAt.lay hX6).tri
              obtain ⟨c0, c1⟩ := hT6'.r.2 jj hjj
              rw [HT0.out] at c0
              have hgb : g < b6 := by rw [← hb6e]; exact hT6.r.1
              have HT6 := Lib.hid hT6'
              have HX6 := Lib.hid hX6
              clear hX6 hbx6 hT6 hT6'
              go_wp2_with (fail)
              rw [← HX6.out]
              go_quiet (fail)
              have hbw := below_drewN (Below.refl X6.heap.size X6) nq
              obtain ⟨W, hW⟩ : ∃ W, X6.drewN nq = W := ⟨_, rfl⟩
              rw [hW] at hbw ⊢
              have HTW := Lib.hid (HT6.out.below hbw)
              have y0 : W.cell? ⟨b6, 0, none⟩ = some (.int .i64 t) := by rw [hbw.cell (by simp only; omega)]; exact g60
              have y2 : W.cell? ⟨b6, 2, none⟩ = some (.int .i64 jj) := by rw [hbw.cell (by simp only; omega)]; exact g62
              have d0 : W.cell? ⟨g, jj, none⟩ = some (.int .i64 t) := by rw [hbw.cell (by simp only; omega)]; exact c0
              have d1 : W.frozen? ⟨g, jj, none⟩ = false := by rw [hbw.frozen (by simp only; omega)]; exact c1
              have hg6 : b6 ≠ g := by omega
              clear hW hbw g60 g61 g62 c0 c1
              go_wp2_with (fail)
              go_region
              all_goals
                have HXN := Lib.hid (show ∃ (N : Nat) (nw : Int) (l : List Ev) (A : Nat → Int), TD w K x nc cc w.heap.size bi g j Q bl bh ⟨4096, nw, p, N, l⟩ A (W.setCell ⟨g, jj, none⟩ (.int .i64 (-1))).drew ∧ l.length = p - (q + 1) ∧ N ≤ (j + (q + 1)) * 10000 ∧ PD j A t l from ⟨N + 10000, popNow nw l, popL l, _, (HTW.out.store hwg hbg hig hjj (-1)).below (Below.refl _ _).drew, HPL.out, by have := HNN.out; omega, HPD.out⟩)
                go_wp2_with (fail)
                go_roundw
                case rel => exact ⟨q + 1, t, by omega, by go_num, rfl, HXN⟩
                case measure => simp [intOf]; omega
            · obtain rfl : q = p := by omega
              obtain rfl : l = [] := List.eq_nil_of_length_eq_zero (by omega)
              have hd := does_pop (B := w.heap.size) (Q := Q) (w := wr) (s := ⟨4096, nw, q, N, []⟩) (k := j + q) ⟨by simp only; omega, hN⟩ (by omega)
              have HC := Lib.hid (hT.call hd)
              clear hd hT hlq hN hPD HX
              go_wp2_with (fail)
              refine HC.out.mono ?_
              rintro e w6 ⟨rfl, hT6⟩
              obtain ⟨X6, hX6⟩ : ∃ X, X = w6.alloc (.cells #[.int .i64 0, .int .i64 0, .int .i64 0] 30) := ⟨_, rfl⟩
              have hbx6 : Below w6.heap.size w6 X6 := by rw [hX6]; exact (Below.refl _ _).alloc (Nat.le_refl _) _
              have hT6' := hT6.below hbx6
              have HL := Lib.hid (show Calls Try.prog 15 #[.pointer (some ⟨Q, 0, none⟩)] X6 fun r w' => r = .returned (.int .i64 0) ∧ Below X6.heap.size X6 w' from QO.len hT6'.q)
              have HT6 := Lib.hid hT6'
              have HX6 := Lib.hid hX6
              clear hX6 hbx6 hT6 hT6'
              go_wp2_with (fail)
              try rw [show popT ([] : List Ev) = 0 from rfl, show popId ([] : List Ev) = 0 from rfl, show popIt ([] : List Ev) = 0 from rfl]
              rw [← HX6.out]
              refine HL.out.mono ?_
              rintro e w7 ⟨rfl, hb7⟩
              have HB7 := Lib.hid (HT6.out.b.trans (hb7.mono HT6.out.b.size))
              have hs7 : w.heap.size ≤ w7.heap.size := HB7.out.size
              clear hb7
              go_wp2_with (fail)
              refine (awake08_true _).mono ?_
              rintro e w8 ⟨rfl, hb8⟩
              have HB8 := Lib.hid (HB7.out.trans (hb8.mono hs7))
              clear hb8
              go_wp2_with (fail)
              go_ret
              exact ⟨rfl, HB8.out⟩
end Go.Proofs.Ytknoigleejbjdaa
