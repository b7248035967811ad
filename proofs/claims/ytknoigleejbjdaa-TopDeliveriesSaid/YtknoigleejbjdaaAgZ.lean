/- The law AgendaCancels. -/
import Derived.Test.YtknoigleejbjdaaAgY
namespace Go.Proofs.Ytknoigleejbjdaa
open Go.RowKit
set_option linter.unusedVariables false
set_option linter.unusedSimpArgs false

theorem Ints.at' {k : IntKind} {w : World} {x : Option Addr} {zs : List Int} (h : Ints k w w.heap.size x zs) {i : Nat} (hi : i < zs.length) : ∃ a : Addr, x = some a ∧ ∀ w', Below w.heap.size w w' → w'.cell? (a.add i) = some (.int k (zs.getD i 0)) := by
  obtain ⟨a, hx, hb, hc⟩ := h i hi
  exact ⟨a, hx, fun w' hw => by rw [hw.cell (by rw [add_block]; exact hb)]; exact hc⟩
theorem Bools.at' {w : World} {x : Option Addr} {zs : List Bool} (h : Bools w w.heap.size x zs) {i : Nat} (hi : i < zs.length) : ∃ a : Addr, x = some a ∧ ∀ w', Below w.heap.size w w' → w'.cell? (a.add i) = some (.bool (zs.getD i false)) := by
  obtain ⟨a, hx, hb, hc⟩ := h i hi
  exact ⟨a, hx, fun w' hw => by rw [hw.cell (by rw [add_block]; exact hb)]; exact hc⟩
theorem ObAt.one {w : World} {b : Nat} {x : Value} {T : TypeId} (h : ObAt w b (.cells #[x] T)) : w.cell? ⟨b, 0, none⟩ = some x := by
  unfold ObAt at h
  simp [World.cell?, h]

theorem gone_any (b0 k : Nat) (xb : Option Addr) (nb cb : Nat) (bs : List Bool) (w W : World) (hB : Bools w w.heap.size xb bs) (hl : bs.length = nb) (hW : Below w.heap.size w W) (hO : ObAt W b0 (.cells #[.slice xb nb cb] 36)) : Calls Try.prog 19 #[.int .i64 k, .pointer (some ⟨b0, 0, none⟩)] W fun e w' => e = .returned (.bool (bs.getD k false)) ∧ Below W.heap.size W w' := by
  have c0 := hO.one
  have HO := Lib.hid hO
  have HW := Lib.hid hW
  have HB := Lib.hid hB
  clear hO hW hB
  by_cases hk : k < nb
  · obtain ⟨a, rfl, hc⟩ := HB.out.at' (show k < bs.length by omega)
    have z0 := hc W HW.out
    obtain ⟨v, hv⟩ : ∃ v, bs.getD k false = v := ⟨_, rfl⟩
    rw [hv] at z0 ⊢
    clear hc hv
    go_enter Try.func19, Try.ntmps19
    go_wp2_with (fail)
    go_ret
    exact ⟨rfl, Below.refl _ _⟩
  · have hv : bs.getD k false = false := by rw [List.getD_eq_getElem?_getD, List.getElem?_eq_none (by omega)]; rfl
    rw [hv]
    clear hv
    go_enter Try.func19, Try.ntmps19
    go_wp2_with (fail)
    go_ret
    exact ⟨rfl, Below.refl _ _⟩

/-- two states whose queues pop alike -/
def PQ (sa sb : St) (k L : Nat) : Prop := sa.few k ∧ sb.few k ∧ Inc sa.l ∧ Inc sb.l ∧ sa.l.map tf = sb.l.map tf ∧ sa.l.length = L
set_option maxHeartbeats 8000000 in
set_option maxRecDepth 100000 in
theorem AgendaCancels_walk (v0 v1 : Value) (w : World) (h0 : IsInts .u16 w v0) (h1 : IsBools w v1) :
    Calls Try.prog 6 #[v0, v1] w fun e w' => e = .returned (.bool true) ∧ Below w.heap.size w w' := by
  obtain ⟨x, n, c, ts, rfl, hT, hTw, hl, hnc, hc, hx⟩ := h0
  obtain ⟨xb, nb, cb, bs, rfl, hB, hbl, hbc, hbc', hxb⟩ := h1
  obtain ⟨m, hm⟩ : ∃ m, min n 200 = m := ⟨_, rfl⟩
  have hmn : m ≤ n := by omega
  have hm3 : m ≤ 200 := by omega
  have hmm : (min (n : Int) 200).toNat = m := by omega
  obtain ⟨X0, hX0⟩ : ∃ X, X = w.alloc (.cells #[.slice xb nb cb] 36) := ⟨_, rfl⟩
  have hx0 : X0.heap.size = w.heap.size + 1 := by rw [hX0]; simp
  have HBX0 := Lib.hid (show Below w.heap.size w X0 by rw [hX0]; exact (Below.refl _ _).alloc (Nat.le_refl _) _)
  have HO0 := Lib.hid (show ObAt X0 w.heap.size _ from ObAt.lay hX0)
  have HGN := Lib.hid (fun (k : Nat) W hW hO => gone_any w.heap.size k xb nb cb bs w W hB hbl hW hO)
  have HN := Lib.hid (new_QO w.heap.size (fun b => b = w.heap.size) 200 X0 (by omega) (by omega) (by omega) (fun b h => by omega))
  have HX0 := Lib.hid hX0
  have HT := Lib.hid hT
  have HTW := Lib.hid hTw
  have HB := Lib.hid hB
  clear hX0 hT hB hm hx hxb hTw
  go_enter Try.func6, Try.ntmps6
  go_wp2_with (fail)
  rw [← HX0.out]
  refine HN.out.mono ?_
  rintro e w1 ⟨rfl, hb1, hq1⟩
  have hs1 := hb1.size
  have HB1 := Lib.hid (HBX0.out.trans (hb1.mono (by omega)))
  have HQ1 := Lib.hid hq1
  have HO1 := Lib.hid (HO0.out.below hb1)
  clear hb1 hq1
  go_wp2_with (fail)
  refine (new_QO w1.heap.size (fun b => b = w.heap.size) 200 w1 (by omega) (by omega) (Nat.le_refl _) (fun b h => by omega)).mono ?_
  rintro e w2 ⟨rfl, hb2, hq2⟩
  have hs2 := hb2.size
  have HB2 := Lib.hid (HB1.out.trans (hb2.mono (by omega)))
  have HQ2 := Lib.hid (QQ.new HQ1.out hq2 hb2)
  have HO2 := Lib.hid (HO1.out.below hb2)
  clear hb2 hq2
  obtain ⟨T, hTe⟩ : ∃ T : Nat → Int, T = fun i => ts.getD i 0 := ⟨_, rfl⟩
  obtain ⟨g, hg⟩ : ∃ g : Nat → Bool, g = fun i => bs.getD i false := ⟨_, rfl⟩
  obtain ⟨Qa, hQa⟩ : ∃ Qa, w.heap.size + 1 = Qa := ⟨_, rfl⟩
  obtain ⟨Qb, hQb⟩ : ∃ Qb, w1.heap.size = Qb := ⟨_, rfl⟩
  rw [hx0, hQa, hQb] at HQ2
  have HTE := Lib.hid hTe
  have HG := Lib.hid hg
  clear hTe hg
  go_wp2_with (fail)
  go_loopw [33] (fun ki wr => ∃ (k : Nat), k ≤ m ∧ ki = .int .i64 k ∧ Hid (QQ w.heap.size (fun b => b = w.heap.size) wr Qa Qb ⟨200, 0, k, k * 10000, LA T k⟩ ⟨200, 0, (LB T g k).length, k * 10000, LB T g k⟩) ∧ Hid (Below w.heap.size w wr) ∧ Hid (ObAt wr w.heap.size (.cells #[.slice xb nb cb] 36))) (fun ki _ => m - (intOf ki).toNat)
  case atStart => exact ⟨0, by omega, rfl, HQ2, HB2, HO2⟩
  case round =>
    obtain ⟨k, hk, rfl, HQ, HBL, HO⟩ := hrel
    have hkw : IntKind.i64.wrap ((k : Int) + 1) = (k : Int) + 1 := i64_wrap_eq ⟨by omega, by omega⟩
    by_cases hkm : k < m
    · obtain ⟨a, hxa, hca⟩ := HT.out.at' (show k < ts.length by omega)
      have z0 := hca wr HBL.out
      obtain ⟨t, ht⟩ : ∃ t, ts.getD k 0 = t := ⟨_, rfl⟩
      have htw : (Lit.int .u16 t).wf = true := by
        rw [← ht, List.getD_eq_getElem?_getD, List.getElem?_eq_getElem (by omega)]
        exact HTW.out _ (List.getElem_mem _)
      obtain ⟨t0, t1⟩ := wf_u16 htw
      rw [ht] at z0
      have HTK := Lib.hid (show T k = t by rw [HTE.out]; exact ht)
      have hwt : IntKind.i64.wrap t = t := i64_wrap_eq ⟨by omega, by omega⟩
      clear hca htw ht
      subst hxa
      have hsz := HO.out.lt
      have he : St.err ⟨200, 0, k, k * 10000, LA T k⟩ t = 0 := pe_ok (by show (0 : Int) ≤ 0; omega) t0 (by show ((LA T k).length : Int) < 200; rw [LA_len]; omega)
      obtain ⟨hpu, hpi⟩ := St.push_ok (item := (k : Int)) he
      have hd := does_push (B := w.heap.size) (Q := Qa) (w := wr) (s := ⟨200, 0, k, k * 10000, LA T k⟩) (k := k) ⟨Nat.le_refl _, Nat.le_refl _⟩ (by omega) t (k : Int)
      rw [hpu, hpi, he] at hd
      have HC := Lib.hid (HQ.out.call (fun b q => by omega) hd)
      clear hd hpu hpi he
      go_wp2_with (fail)
      refine HC.out.mono ?_
      rintro e w3 ⟨rfl, hq3, hk3⟩
      have hs3 := hk3.size
      have HB3 := Lib.hid (HBL.out.trans (hk3.low HQ.out.B))
      have HO3 := Lib.hid (HO.out.keep hk3 (fun q => q.2 rfl))
      have HQ3 := Lib.hid (show QQ w.heap.size (fun b => b = w.heap.size) w3 Qa Qb ⟨200, 0, k + 1, k * 10000 + 10000, LA T (k + 1)⟩ ⟨200, 0, (LB T g k).length, k * 10000, LB T g k⟩ by rw [LA_succ, HTK.out]; exact hq3)
      clear hq3 hk3
      go_wp2_with (fail)
      have HGK := Lib.hid (show g k = bs.getD k false by rw [HG.out])
      refine (HGN.out k w3 HB3.out HO3.out).mono ?_
      rintro e w4 ⟨rfl, hb4⟩
      rw [← HGK.out]
      have hs4 := hb4.size
      have HQ4 := Lib.hid (HQ3.out.below hb4)
      have HB4 := Lib.hid (HB3.out.trans (hb4.mono HQ3.out.B))
      have HO4 := Lib.hid (HO3.out.below hb4)
      clear hb4
      cases hgk : g k with
      | true =>
        have HLB := Lib.hid (show LB T g (k + 1) = LB T g k by rw [LB_succ, if_pos hgk])
        clear hgk
        go_wp2_with (fail)
        go_roundw
        case rel => exact ⟨k + 1, by omega, by go_num, Lib.hid (by rw [HLB.out]; exact HQ4.out.mono (by omega) (by omega)), HB4, HO4⟩
        case measure => simp [intOf]; omega
      | false =>
        have HLB := Lib.hid (show LB T g (k + 1) = LB T g k ++ [⟨t, (((LB T g k).length + 1 : Nat) : Int), (k : Int)⟩] by rw [LB_succ, if_neg (by rw [hgk]; simp), HTK.out])
        clear hgk
        have hlb := LB_le T g k
        obtain ⟨lb, hlbe⟩ : ∃ lb, (LB T g k).length = lb := ⟨_, rfl⟩
        rw [hlbe] at hlb
        have HQ4' := Lib.hid (show QQ w.heap.size (fun b => b = w.heap.size) w4 Qa Qb ⟨200, 0, k + 1, k * 10000 + 10000, LA T (k + 1)⟩ ⟨200, 0, lb, k * 10000, LB T g k⟩ by rw [← hlbe]; exact HQ4.out)
        have he : St.err ⟨200, 0, lb, k * 10000, LB T g k⟩ t = 0 := pe_ok (by show (0 : Int) ≤ 0; omega) t0 (by show ((LB T g k).length : Int) < 200; rw [hlbe]; omega)
        obtain ⟨hpu, hpi⟩ := St.push_ok (item := (k : Int)) he
        have hd := does_push (B := w.heap.size) (Q := Qb) (w := w4) (s := ⟨200, 0, lb, k * 10000, LB T g k⟩) (k := k) ⟨hlb, Nat.le_refl _⟩ (by omega) t (k : Int)
        rw [hpu, hpi, he] at hd
        have HC := Lib.hid (HQ4'.out.call2 (fun b q => by omega) hd)
        have HLBE := Lib.hid hlbe
        clear hd hpu hpi he hlbe
        go_wp2_with (fail)
        refine HC.out.mono ?_
        rintro e w5 ⟨rfl, hq5, hk5⟩
        have HB5 := Lib.hid (HB4.out.trans (hk5.low HQ4.out.B))
        have HO5 := Lib.hid (HO4.out.keep hk5 (fun q => q.2 rfl))
        have HQ5 := Lib.hid (show QQ w.heap.size (fun b => b = w.heap.size) w5 Qa Qb ⟨200, 0, k + 1, (k + 1) * 10000, LA T (k + 1)⟩ ⟨200, 0, (LB T g (k + 1)).length, (k + 1) * 10000, LB T g (k + 1)⟩ by
          rw [HLB.out, List.length_append, HLBE.out]
          exact QQ.mono hq5 (by omega) (by omega))
        clear hq5 hk5
        go_wp2_with (fail)
        go_roundw
        case rel => exact ⟨k + 1, by omega, by go_num, HQ5, HB5, HO5⟩
        case measure => simp [intOf]; omega
    · obtain rfl : k = m := by omega
      clear hkm
      have HQ0 := Lib.hid (show QQ w.heap.size (fun b => b = w.heap.size) wr Qa Qb ⟨200, 0, k, (k + 2 * 0) * 10000, LC T g k 0⟩ ⟨200, 0, (LB T g k).length, k * 10000, LB T g k⟩ by rw [LC_zero]; exact HQ.out)
      have HBL0 := HBL
      have HO0' := HO
      clear HQ HBL HO
      go_wp2_with (fail)
      go_loopw [66] (fun ki wr => ∃ (j : Nat), j ≤ k ∧ ki = .int .i64 j ∧ Hid (QQ w.heap.size (fun b => b = w.heap.size) wr Qa Qb ⟨200, 0, k, (k + 2 * j) * 10000, LC T g k j⟩ ⟨200, 0, (LB T g k).length, k * 10000, LB T g k⟩) ∧ Hid (Below w.heap.size w wr) ∧ Hid (ObAt wr w.heap.size (.cells #[.slice xb nb cb] 36))) (fun ki _ => k - (intOf ki).toNat)
      case atStart => exact ⟨0, by omega, rfl, HQ0, HBL0, HO0'⟩
      clear HQ0 HBL0 HO0'
      case round =>
        obtain ⟨j, hj, rfl, HQ, HBL, HO⟩ := hrel
        have hjw : IntKind.i64.wrap ((j : Int) + 1) = (j : Int) + 1 := i64_wrap_eq ⟨by omega, by omega⟩
        by_cases hjk : j < k
        · have hsz := HO.out.lt
          have HGK := Lib.hid (show g j = bs.getD j false by rw [HG.out])
          have HC1 := Lib.hid (HGN.out j _ HBL.out HO.out)
          go_wp2_with (fail)
          refine HC1.out.mono ?_
          rintro e w4 ⟨rfl, hb4⟩
          rw [← HGK.out]
          have hs4 := hb4.size
          have HQ4 := Lib.hid (HQ.out.below hb4)
          have HB4 := Lib.hid (HBL.out.trans (hb4.mono HQ.out.B))
          have HO4 := Lib.hid (HO.out.below hb4)
          clear hb4
          cases hgk : g j with
          | false =>
            have HLC := Lib.hid (LC_pass T g k j hgk)
            clear hgk
            go_wp2_with (fail)
            go_roundw
            case rel => exact ⟨j + 1, by omega, by go_num, Lib.hid (by rw [HLC.out]; exact HQ4.out.mono (by omega) (by omega)), HB4, HO4⟩
            case measure => simp [intOf]; omega
          | true =>
            obtain ⟨l1, l2, l3, l4⟩ := LC_cancel T g k j hjk hgk
            have hd1 := does_cancel (B := w.heap.size) (Q := Qa) (w := w4) (s := ⟨200, 0, k, (k + 2 * j) * 10000, LC T g k j⟩) (k := k + 2 * j) ⟨by simp only; omega, Nat.le_refl _⟩ (by omega) ((j : Int) + 1) (wfI_small (by omega) (by omega))
            unfold St.cancel at hd1
            simp only at hd1
            rw [l1, l2] at hd1
            have HD1 := Lib.hid (HQ4.out.call (fun b q => by omega) hd1)
            have HL34 := Lib.hid (And.intro l3 l4)
            clear hd1 l1 l2 l3 l4 hgk
            go_wp2_with (fail)
            refine HD1.out.mono ?_
            rintro e w5 ⟨rfl, hq5, hk5⟩
            have hs5 := hk5.size
            have HB5 := Lib.hid (HB4.out.trans (hk5.low HQ4.out.B))
            have HO5 := Lib.hid (HO4.out.keep hk5 (fun q => q.2 rfl))
            have hq5' : QQ w.heap.size (fun b => b = w.heap.size) w5 Qa Qb ⟨200, 0, k, (k + 2 * j + 1) * 10000, LC T g k (j + 1)⟩ ⟨200, 0, (LB T g k).length, k * 10000, LB T g k⟩ := QQ.mono hq5 (by omega) (by omega)
            have HQ5 := Lib.hid hq5'
            have hd2 := does_cancel (B := w.heap.size) (Q := Qa) (w := w5) (s := ⟨200, 0, k, (k + 2 * j + 1) * 10000, LC T g k (j + 1)⟩) (k := k + 2 * j + 1) ⟨by simp only; omega, Nat.le_refl _⟩ (by omega) ((j : Int) + 1) (wfI_small (by omega) (by omega))
            unfold St.cancel at hd2
            simp only at hd2
            rw [HL34.out.1, HL34.out.2] at hd2
            have HD2 := Lib.hid (HQ5.out.call (fun b q => by omega) hd2)
            clear hd2 hq5 hq5' hk5
            go_wp2_with (fail)
            refine HD2.out.mono ?_
            rintro e w6 ⟨rfl, hq6, hk6⟩
            have HB6 := Lib.hid (HB5.out.trans (hk6.low HQ5.out.B))
            have HO6 := Lib.hid (HO5.out.keep hk6 (fun q => q.2 rfl))
            have HQ6 := Lib.hid (show QQ w.heap.size (fun b => b = w.heap.size) w6 Qa Qb ⟨200, 0, k, (k + 2 * (j + 1)) * 10000, LC T g k (j + 1)⟩ ⟨200, 0, (LB T g k).length, k * 10000, LB T g k⟩ from QQ.mono hq6 (by omega) (by omega))
            clear hq6 hk6
            go_wp2_with (fail)
            go_roundw
            case rel => exact ⟨j + 1, by omega, by go_num, HQ6, HB6, HO6⟩
            case measure => simp [intOf]; omega
        · obtain rfl : j = k := by omega
          clear hjk
          have HEND := Lib.hid (LC_end T g j)
          obtain ⟨L, hL⟩ : ∃ L, (LC T g j j).length = L := ⟨_, rfl⟩
          have hL2 : (LB T g j).length = L := by rw [← hL]; have := congrArg List.length HEND.out; simpa using this.symm
          have hLj : L ≤ j := by rw [← hL2]; exact LB_le T g j
          have HLa := Lib.hid hL
          have HLb := Lib.hid hL2
          have HC1 := Lib.hid (HQ.out.left.len)
          have HQL := Lib.hid (fun w' hb => HQ.out.below (w' := w') hb)
          clear hL hL2
          go_wp2_with (fail)
          refine HC1.out.mono ?_
          rintro e w4 ⟨rfl, hb4⟩
          rw [HLa.out]
          have hs4 := hb4.size
          have HQ4 := Lib.hid (HQ.out.below hb4)
          have HB4 := Lib.hid (HBL.out.trans (hb4.mono HQ.out.B))
          clear hb4
          go_wp2_with (fail)
          refine HQ4.out.symm.left.len.mono ?_
          rw [HLb.out]
          rintro e w5 ⟨rfl, hb5⟩
          have HQ5 := Lib.hid (HQ4.out.below hb5)
          have HB5 := Lib.hid (HB4.out.trans (hb5.mono HQ4.out.B))
          clear hb5
          go_wp2_with (fail)
          have hfa : (⟨200, 0, j, (j + 2 * j) * 10000, LC T g j j⟩ : St).few (3 * j + 0) := ⟨by simp only; omega, by simp only; omega⟩
          have hfb : (⟨200, 0, (LB T g j).length, j * 10000, LB T g j⟩ : St).few (3 * j + 0) := ⟨by have := LB_le T g j; simp only; omega, by simp only; omega⟩
          have HPQ := Lib.hid (show PQ (⟨200, 0, j, (j + 2 * j) * 10000, LC T g j j⟩ : St) (⟨200, 0, (LB T g j).length, j * 10000, LB T g j⟩ : St) (3 * j + 0) (L - 0) from ⟨hfa, hfb, LC_inc T g j j, LB_inc T g j, HEND.out, HLa.out⟩)
          clear hfa hfb HQL HQ HBL HO HQ4 HB4
          go_loopw [93] (fun ki wr => ∃ (i : Nat) (sa sb : St), i ≤ j ∧ ki = .int .i64 i ∧ Hid (PQ sa sb (3 * j + i) (L - i)) ∧ Hid (QQ w.heap.size (fun b => b = w.heap.size) wr Qa Qb sa sb) ∧ Hid (Below w.heap.size w wr)) (fun ki _ => j - (intOf ki).toNat)
          case atStart => exact ⟨0, _, _, by omega, rfl, HPQ, HQ5, HB5⟩
          clear HPQ HQ5 HB5
          case round =>
            obtain ⟨i, sa, sb, hi, rfl, HP, HQ, HBL⟩ := hrel
            have hiw : IntKind.i64.wrap ((i : Int) + 1) = (i : Int) + 1 := i64_wrap_eq ⟨by omega, by omega⟩
            by_cases hij : i < j
            · obtain ⟨pfa, pfb, pia, pib, ptf, pln⟩ := HP.out
              obtain ⟨q1, q2, q3, q4⟩ := pop_alike pia pib ptf
              obtain ⟨t, ht⟩ : ∃ t, popT sb.l = t := ⟨_, rfl⟩
              obtain ⟨ia, hia⟩ : ∃ ia, popId sa.l = ia := ⟨_, rfl⟩
              obtain ⟨ib, hib⟩ : ∃ ib, popId sb.l = ib := ⟨_, rfl⟩
              obtain ⟨it, hit⟩ : ∃ it, popIt sb.l = it := ⟨_, rfl⟩
              obtain ⟨ok, hok⟩ : ∃ ok, popOk sb.l = ok := ⟨_, rfl⟩
              rw [ht] at q1
              rw [hit] at q2
              rw [hok] at q3
              have hda := does_pop (B := w.heap.size) (Q := Qa) (w := wr) pfa (by omega)
              rw [q1, hia, q2, q3] at hda
              have HCA := Lib.hid (HQ.out.call (fun b q => by have := HQ.out.B; have := HQ.out.left; obtain ⟨own, h1, h2⟩ := this; have := (h2 Qa h1.ownQ).1; have := h1.Qlt; omega) hda)
              have HDB := Lib.hid (fun W => does_pop (B := w.heap.size) (Q := Qb) (w := W) pfb (by omega))
              rw [ht, hib, hit, hok] at HDB
              have HPN := Lib.hid (show PQ sa.pop sb.pop (3 * j + (i + 1)) (L - (i + 1)) from ⟨St.few_pop pfa, St.few_pop pfb, pia.popL, pib.popL, q4, by show (popL sa.l).length = _; rw [popL_len, pln]; omega⟩)
              clear pfa pfb pia pib ptf pln q1 q2 q3 q4 ht hia hib hit hok hda
              go_wp2_with (fail)
              refine HCA.out.mono ?_
              rintro e w6 ⟨rfl, hq6, hk6⟩
              have hs6 := hk6.size
              obtain ⟨b6, hb6e⟩ : ∃ b, w6.heap.size = b := ⟨_, rfl⟩
              obtain ⟨X6, hX6⟩ : ∃ X, X = w6.alloc (.cells #[.int .i64 t, .int .i64 ia, .int .i64 it] 30) := ⟨_, rfl⟩
              have hx6 : X6.heap.size = b6 + 1 := by rw [hX6, ← hb6e]; simp
              have hB6 : w.heap.size ≤ w6.heap.size := Nat.le_trans HQ.out.B hs6
              have hbx6 : Below w6.heap.size w6 X6 := by rw [hX6]; exact (Below.refl _ _).alloc (Nat.le_refl _) _
              have HQ6 := Lib.hid (show QQ w.heap.size (fun b => b = w.heap.size ∨ b = b6) X6 _ _ _ _ from hq6.lay hX6 (fun b q => q.imp id (fun q => q.trans hb6e.symm)))
              have HO6 := Lib.hid (show ObAt X6 b6 _ by rw [← hb6e]; exact ObAt.lay hX6)
              have HB6 := Lib.hid ((HBL.out.trans (hk6.low HQ.out.B)).trans (hbx6.mono hB6))
              have HX6 := Lib.hid hX6
              clear hX6 hq6 hk6 hbx6
              go_wp2_with (fail)
              rw [← HX6.out]
              refine (HQ6.out.call2 (fun b q => by omega) (HDB.out _)).mono ?_
              rintro e w7 ⟨rfl, hq7, hk7⟩
              have hs7 := hk7.size
              obtain ⟨b7, hb7e⟩ : ∃ b, w7.heap.size = b := ⟨_, rfl⟩
              obtain ⟨X7, hX7⟩ : ∃ X, X = w7.alloc (.cells #[.int .i64 t, .int .i64 ib, .int .i64 it] 30) := ⟨_, rfl⟩
              have hbx7 : Below w7.heap.size w7 X7 := by rw [hX7]; exact (Below.refl _ _).alloc (Nat.le_refl _) _
              have HQ7 := Lib.hid (hq7.below hbx7)
              obtain ⟨g60, g61, g62⟩ := ((HO6.out.keep hk7 (fun q => q.2 (.inr rfl))).below hbx7).tri
              obtain ⟨g70, g71, g72⟩ := (show ObAt X7 b7 _ by rw [← hb7e]; exact ObAt.lay hX7).tri
              have HB7 := Lib.hid ((HB6.out.trans (hk7.low HQ6.out.B)).trans (hbx7.mono (Nat.le_trans HQ6.out.B hs7)))
              rw [hX7] at g60 g61 g62 g70 g71 g72
              have HX7 := Lib.hid hX7
              clear hX7 hq7 hk7 hbx7
              go_wp2_with (fail)
              rw [← HX7.out]
              go_roundw
              case rel => exact ⟨i + 1, sa.pop, sb.pop, by omega, by go_num, HPN, Lib.hid (HQ7.out.grow (fun b q => .inl (.inl q))), HB7⟩
              case measure => simp [intOf]; omega
            · obtain rfl : i = j := by omega
              clear hij
              have hl0 : sa.l.length = 0 := by rw [HP.out.2.2.2.2.2]; omega
              have HC1 := Lib.hid (show Calls Try.prog 15 #[.pointer (some ⟨Qa, 0, none⟩)] wr fun r w' => r = .returned (.int .i64 0) ∧ Below wr.heap.size wr w' by
                have := HQ.out.left.len
                rw [hl0] at this
                exact this)
              go_wp2_with (fail)
              refine HC1.out.mono ?_
              rintro e w4 ⟨rfl, hb4⟩
              have hs4 := hb4.size
              have HB4 := Lib.hid (HBL.out.trans (hb4.mono HQ.out.B))
              have hBB := HQ.out.B
              clear hb4
              go_wp2_with (fail)
              refine (awake_true _).mono ?_
              rintro e w5 ⟨rfl, hb5⟩
              have HB5 := Lib.hid (HB4.out.trans (hb5.mono (by omega)))
              clear hb5
              go_wp2_with (fail)
              go_ret
              exact ⟨rfl, HB5.out⟩
end Go.Proofs.Ytknoigleejbjdaa
