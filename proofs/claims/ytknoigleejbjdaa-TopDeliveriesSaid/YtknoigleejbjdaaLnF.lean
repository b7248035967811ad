/- What link's Bounds returns for a good link. -/
import Derived.Test.YtknoigleejbjdaaLnE
namespace Go.Proofs.Ytknoigleejbjdaa
open Go.RowKit
set_option linter.unusedVariables false
set_option linter.unusedSimpArgs false

/-- a pair of numbers in a block of its own -/
def Two (w : World) (b : Nat) (x y : Int) : Prop := b < w.heap.size ∧ w.cell? ⟨b, 0, none⟩ = some (.int .i64 x) ∧ w.cell? ⟨b, 1, none⟩ = some (.int .i64 y) ∧ w.frozen? ⟨b, 0, none⟩ = false ∧ w.frozen? ⟨b, 1, none⟩ = false
theorem Two.same {w w' : World} {b : Nat} {x y : Int} (h : Two w b x y) (hb : w'.heap[b]? = w.heap[b]?) (hs : w.heap.size ≤ w'.heap.size) : Two w' b x y := by
  obtain ⟨h0, h1, h2, h3, h4⟩ := h
  exact ⟨Nat.lt_of_lt_of_le h0 hs, (World.cell?_of_block hb).trans h1, (World.cell?_of_block hb).trans h2, (World.frozen?_of_block hb).trans h3, (World.frozen?_of_block hb).trans h4⟩
theorem Two.below {w w' : World} {b : Nat} {x y : Int} (h : Two w b x y) (hb : Below w.heap.size w w') : Two w' b x y := h.same (hb.block b h.1) hb.size
theorem Two.lay {w X : World} {x y : Int} (hX : X = w.alloc (.cells #[.int .i64 x, .int .i64 y] 63)) : Two X w.heap.size x y := by
  rw [hX]
  exact ⟨by simp, by simp, by simp, by simp, by simp⟩
theorem Two.set {w : World} {b : Nat} {x y : Int} (h : Two w b x y) (x' y' : Int) : Two ((w.setCell ⟨b, 0, none⟩ (.int .i64 x')).setCell ⟨b, 1, none⟩ (.int .i64 y')) b x' y' := by
  obtain ⟨h0, h1, h2, h3, h4⟩ := h
  refine ⟨by simpa [World.setCell] using h0, ?_, ?_, by simpa [World.frozen?_setCell] using h3, by simpa [World.frozen?_setCell] using h4⟩
  · rw [World.cell?_setCell_other _ _ _ _ (by simp)]; exact World.cell?_setCell_same _ _ _ h1
  · exact World.cell?_setCell_same (u := .int .i64 y) _ _ _ (by rw [World.cell?_setCell_other _ _ _ _ (by simp)]; exact h2)
theorem Two.set1 {w : World} {b : Nat} {x y : Int} (h : Two w b x y) (y' : Int) : Two (w.setCell ⟨b, 1, none⟩ (.int .i64 y')) b x y' := by
  obtain ⟨h0, h1, h2, h3, h4⟩ := h
  refine ⟨by simpa [World.setCell] using h0, ?_, World.cell?_setCell_same _ _ _ h2, by simpa [World.frozen?_setCell] using h3, by simpa [World.frozen?_setCell] using h4⟩
  rw [World.cell?_setCell_other _ _ _ _ (by simp)]; exact h1
/-- bounds of the delays of the first i changes -/
def BI (k : Lnk) (dir : Int) (i : Nat) (lo hi : Int) : Prop := (lo ≤ delB k dir ∧ delB k dir ≤ hi) ∧ (∀ j q, j < i → k.cs[j]? = some q → q.a = dir → lo ≤ q.b ∧ q.b ≤ hi) ∧ (0 ≤ lo ∧ hi ≤ 10000000000)
theorem BI.fin {k : Lnk} {dir lo hi : Int} (h : BI k dir k.cs.length lo hi) (at' : Int) : lo ≤ delF k dir at' ∧ delF k dir at' ≤ hi := by
  unfold delF
  refine fold_in _ _ h.1 (fun q hq e => ?_)
  obtain ⟨j, hj, e2⟩ := List.mem_iff_getElem.1 hq
  exact h.2.1 j q hj (by rw [← e2]; exact List.getElem?_eq_getElem hj) e
theorem BI.pass {k : Lnk} {dir lo hi : Int} {i : Nat} {q : Deed} (h : BI k dir i lo hi) (hq : k.cs[i]? = some q) (hd : q.a ≠ dir) : BI k dir (i + 1) lo hi := by
  refine ⟨h.1, fun j q' hj hq' e => ?_, h.2.2⟩
  by_cases e2 : j = i
  · subst e2; rw [hq] at hq'; exact absurd (by rw [Option.some.inj hq']; exact e) hd
  · exact h.2.1 j q' (by omega) hq' e
theorem BI.take {k : Lnk} {dir lo hi : Int} {i : Nat} {q : Deed} (hG : Good k) (h : BI k dir i lo hi) (hq : k.cs[i]? = some q) : BI k dir (i + 1) (min lo q.b) (max hi q.b) := by
  obtain ⟨g0, g1⟩ := (hG.2.2.2.1 q (List.mem_of_getElem? hq)).2.2
  obtain ⟨⟨h1, h2⟩, h3, h4, h5⟩ := h
  refine ⟨⟨by omega, by omega⟩, fun j q' hj hq' e => ?_, by omega, by omega⟩
  by_cases e2 : j = i
  · subst e2; rw [hq] at hq'; rw [← Option.some.inj hq']; omega
  · have := h3 j q' (by omega) hq' e; omega
set_option maxHeartbeats 8000000 in
set_option maxRecDepth 100000 in
theorem bounds_any (k : Lnk) (x : Option Addr) (n c : Nat) (dir : Int) (w : World) (hD : Deeds w x k.cs) (hl : k.cs.length = n) (hnc : n ≤ c) (hc : c ≤ 9223372036854775807) (hG : Good k) (h1 : InR 1 dir) : Calls Try.prog 27 #[.agg (lnkVals k x n c), .int .i64 dir] w fun e w' => (∃ lo hi, e = .returned (.agg #[.int .i64 lo, .int .i64 hi]) ∧ (∀ at', lo ≤ delF k dir at') ∧ (∀ at', delF k dir at' + varF k dir ≤ hi) ∧ 0 ≤ lo ∧ hi ≤ 20000000000) ∧ Below w.heap.size w w' := by
  obtain ⟨X0, hX0⟩ : ∃ X, X = w.alloc (lnkObj k x n c) := ⟨_, rfl⟩
  obtain ⟨hb0, hs0, ho0⟩ := lay_lnk hX0
  obtain ⟨X1, hX1⟩ : ∃ X, X = X0.alloc (.cells #[.int .i64 0, .int .i64 0] 63) := ⟨_, rfl⟩
  have hb1 : Below X0.heap.size X0 X1 := by rw [hX1]; exact (Below.refl _ _).alloc (Nat.le_refl _) _
  have hs1 : X1.heap.size = w.heap.size + 2 := by rw [hX1]; simp; omega
  have ht1 : Two X1 (w.heap.size + 1) 0 0 := by rw [← hs0]; exact Two.lay hX1
  have hbw1 : Below w.heap.size w X1 := hb0.trans (hb1.mono (by omega))
  have HC := Lib.hid (right_true k x n c dir 0 0 X1 (hD.below hbw1) hl hnc hc hG h1 ⟨by omega, by omega⟩ ⟨by omega, by omega⟩)
  have HB1 := Lib.hid hbw1
  have HO1 := Lib.hid (ho0.below hb1)
  have HT1 := Lib.hid ht1
  have HD := Lib.hid hD
  have HG := Lib.hid hG
  have HLN := Lib.hid hl
  have hdir : dir = 0 ∨ dir = 1 := by unfold InR at h1; omega
  have h16 : n ≤ 16 := by rw [← hl]; exact hG.2.2.2.2.1
  have hv := varF_in (dir := dir) hG
  have HBI := Lib.hid (show BI k dir 0 (delB k dir) (delB k dir) from ⟨⟨Int.le_refl _, Int.le_refl _⟩, fun j q hj => by omega, by unfold delB; split; exact hG.1.1.1; exact hG.1.2.1, by unfold delB; split; exact hG.1.1.2; exact hG.1.2.2⟩)
  obtain ⟨k', hk'⟩ : ∃ k', k = k' := ⟨_, rfl⟩
  have HK := Lib.hid hk'
  rw [hk'] at HBI
  obtain ⟨d0, d1, v0, v1, lo, se, cs⟩ := k
  have hx1' : Hid (X1 = (w.alloc (.cells #[.int .i64 d0, .int .i64 d1, .int .i64 v0, .int .i64 v1, .int .i64 lo, .int .u64 se, .slice x n c] 59)).alloc (.cells #[.int .i64 0, .int .i64 0] 63)) := Lib.hid (by rw [hX1, hX0]; rfl)
  clear hD hb0 ho0 hX0 hl hG h1 hb1 ht1 hbw1 hX1 hk'
  unfold lnkVals at HC ⊢
  simp only at HC ⊢
  rcases hdir with rfl | rfl
  · go_enter Try.func27, Try.ntmps27
    go_wp2_with (fail)
    rw [← hx1'.out]
    refine HC.out.mono ?_
    rintro e w2 ⟨rfl, hb2⟩
    have hs2 := hb2.size
    have HB2 := Lib.hid (HB1.out.trans (hb2.mono (by omega)))
    have HO2 := Lib.hid (HO1.out.below hb2)
    have HT2 := Lib.hid (HT1.out.below hb2)
    obtain ⟨a20, a21, a22, a23, a24, a25, a26⟩ := ob7 HO2.out
    have hbz : Below w2.heap.size w2 (w2.alloc (.cells #[.int .i64 0, .int .i64 0] 63)) := (Below.refl _ _).alloc (Nat.le_refl _) _
    have b20 : (w2.alloc (.cells #[.int .i64 0, .int .i64 0] 63)).cell? ⟨w.heap.size, 0, none⟩ = some (.int .i64 d0) := by rw [hbz.cell (by simp only; omega)]; exact a20
    have b21 : (w2.alloc (.cells #[.int .i64 0, .int .i64 0] 63)).cell? ⟨w.heap.size, 1, none⟩ = some (.int .i64 d1) := by rw [hbz.cell (by simp only; omega)]; exact a21
    clear hb2
    go_wp2_with (fail)
    go_region
    obtain ⟨X3, hX3⟩ : ∃ X, X = (w2.alloc (.cells #[.int .i64 d0, .int .i64 d0] 63)) := ⟨_, rfl⟩
    have hb3 : Below w2.heap.size w2 X3 := by rw [hX3]; exact (Below.refl _ _).alloc (Nat.le_refl _) _
    have hx3 : X3.heap.size = w2.heap.size + 1 := by rw [hX3]; simp
    have HT3 := Lib.hid (show Two X3.drew w2.heap.size d0 d0 from (Two.lay hX3).below (Below.refl _ _).drew)
    have HB3 := Lib.hid (show Below w.heap.size w X3.drew from (HB2.out.trans (hb3.mono (by omega))).drew)
    have HO3 := Lib.hid (show ObAt X3.drew w.heap.size (lnkObj ⟨d0, d1, v0, v1, lo, se, cs⟩ x n c) from HO2.out.below hb3.drew)
    have HR3 := Lib.hid (show Two X3.drew (w.heap.size + 1) 0 0 from HT2.out.below hb3.drew)
    obtain ⟨a30, a31, a32, a33, a34, a35, a36⟩ := ob7 HO3.out
    obtain ⟨b5, hb5⟩ : ∃ b, w2.heap.size = b := ⟨_, rfl⟩
    have HX3 := Lib.hid hX3
    rw [hb5] at HT3
    clear hX3 hb3 hbz b20 b21
    rw [← HX3.out]
    go_wp2_with (fail)
    go_loopw [25] (fun ki wr => ∃ (i : Nat) (l h : Int), i ≤ n ∧ ki = .int .i64 i ∧ Hid (BI k' 0 i l h) ∧ Hid (Two wr b5 l h) ∧ Hid (Two wr (w.heap.size + 1) 0 0) ∧ Hid (ObAt wr w.heap.size (lnkObj ⟨d0, d1, v0, v1, lo, se, cs⟩ x n c)) ∧ Hid (Below w.heap.size w wr)) (fun ki _ => n - (intOf ki).toNat)
    case atStart => exact ⟨0, d0, d0, by omega, rfl, Lib.hid (by have := HBI.out; rw [← HK.out] at this ⊢; exact this), HT3, HR3, HO3, HB3⟩
    clear HT3 HR3 HO3 HB3 a30 a31 a32 a33 a34 a35 a36
    case round =>
      obtain ⟨i, l, h, hi, rfl, HI, HT, HR, HO, HB⟩ := hrel
      rename_i wr
      have hiw : IntKind.i64.wrap ((i : Int) + 1) = (i : Int) + 1 := i64_wrap_eq ⟨by omega, by omega⟩
      have hwr : w.heap.size ≤ wr.heap.size := HB.out.size
      have hb5w : w.heap.size + 2 ≤ b5 := by omega
      by_cases hin : i < n
      · obtain ⟨a, q, hxa, hab, hzk, wk, wa, wb, hcells⟩ := HD.out.at' (show i < cs.length by have := (show cs.length = _ from HLN.out); omega)
        obtain ⟨z0, z1, z2⟩ := hcells _ HB.out
        have HZK := Lib.hid (show k'.cs[i]? = some q by rw [← HK.out]; exact hzk)
        obtain ⟨qk, qa, qb⟩ := q
        simp only at z0 z1 z2 wk wa wb
        subst hxa
        obtain ⟨b6, hb6⟩ : ∃ b, wr.heap.size = b := ⟨_, rfl⟩
        obtain ⟨X4, hX4⟩ : ∃ X, X = wr.alloc (.cells #[.int .i64 qk, .int .i64 qa, .int .i64 qb] 77) := ⟨_, rfl⟩
        have hbx4 : Below wr.heap.size wr X4 := by rw [hX4]; exact (Below.refl _ _).alloc (Nat.le_refl _) _
        have hx4 : X4.heap.size = b6 + 1 := by rw [hX4, ← hb6]; simp
        have hc4 : ObAt X4 b6 (.cells #[.int .i64 qk, .int .i64 qa, .int .i64 qb] 77) := by rw [← hb6]; exact ObAt.lay hX4
        obtain ⟨c10, c11, c12⟩ := hc4.tri
        have d11 := c11
        rw [hX4] at d11
        have ht4 := HT.out.below hbx4
        have HT4 := Lib.hid ht4
        have HR4 := Lib.hid (HR.out.below hbx4)
        have HO4 := Lib.hid (HO.out.below hbx4)
        have HB4 := Lib.hid (HB.out.trans (hbx4.mono hwr))
        obtain ⟨p4, p0, p1, pf0, pf1⟩ := ht4
        have HX4 := Lib.hid hX4
        clear hcells hX4 hbx4 hc4 hzk
        by_cases c2 : qa = 0
        · subst c2
          go_wp2_with (fail)
          rw [← HX4.out]
          go_region
          have hY : ∀ b, b ≠ b5 → ((X4.setCell ⟨b5, 0, none⟩ (.int .i64 (min l qb))).setCell ⟨b5, 1, none⟩ (.int .i64 (max h qb))).drew.heap[b]? = X4.heap[b]? := fun b hb => by
            show ((X4.setCell ⟨b5, 0, none⟩ (.int .i64 (min l qb))).setCell ⟨b5, 1, none⟩ (.int .i64 (max h qb))).heap[b]? = _
            rw [Below.heap_setCell _ _ _ _ hb, Below.heap_setCell _ _ _ _ hb]
          have hYs : ((X4.setCell ⟨b5, 0, none⟩ (.int .i64 (min l qb))).setCell ⟨b5, 1, none⟩ (.int .i64 (max h qb))).drew.heap.size = X4.heap.size := by
            show ((X4.setCell ⟨b5, 0, none⟩ (.int .i64 (min l qb))).setCell ⟨b5, 1, none⟩ (.int .i64 (max h qb))).heap.size = _
            simp [World.setCell]
          have HT6 := Lib.hid ((HT4.out.set (min l qb) (max h qb)).below (Below.refl _ _).drew)
          have HR6 := Lib.hid (HR4.out.same (hY _ (by omega)) (by omega))
          have HO6 := Lib.hid ((hY w.heap.size (by omega)).trans HO4.out)
          have hwb5 : w.heap.size ≤ b5 := by omega
          have HB6 := Lib.hid (show Below w.heap.size w ((X4.setCell ⟨b5, 0, none⟩ (.int .i64 (min l qb))).setCell ⟨b5, 1, none⟩ (.int .i64 (max h qb))).drew from ((HB4.out.setCell hwb5 _).setCell hwb5 _).drew)
          clear hY hYs
          go_wp2_with (fail)
          go_roundw
          case rel => exact ⟨i + 1, min l qb, max h qb, by omega, by go_num, Lib.hid (BI.take (by rw [← HK.out]; exact HG.out) HI.out HZK.out), HT6, HR6, Lib.hid HO6.out, HB6⟩
          case measure => simp [intOf]; omega
        · go_wp2_with (fail)
          rw [← HX4.out]
          go_roundw
          case rel => exact ⟨i + 1, l, h, by omega, by go_num, Lib.hid (HI.out.pass HZK.out c2), HT4, HR4, HO4, HB4⟩
          case measure => simp [intOf]; omega
      · obtain rfl : i = n := by omega
        have HBF := Lib.hid (show BI ⟨d0, d1, v0, v1, lo, se, cs⟩ 0 cs.length l h from by
          have h1 := HI.out
          rw [← HK.out] at h1
          rw [show cs.length = i from HLN.out]
          exact h1)
        obtain ⟨p4, p0, p1, pf0, pf1⟩ := HT.out
        obtain ⟨r4, r0, r1, rf0, rf1⟩ := HR.out
        obtain ⟨a40, a41, a42, a43, a44, a45, a46⟩ := ob7 HO.out
        have hl0 := HBF.out.2.2
        obtain ⟨hl0, hh0⟩ := hl0
        have hvv : varF ⟨d0, d1, v0, v1, lo, se, cs⟩ 0 = v0 := rfl
        rw [hvv] at hv
        obtain ⟨hv0, hv1⟩ := hv
        have hlh : l ≤ h := by have := HBF.out.1; omega
        have hwv : IntKind.i64.wrap (h + v0) = h + v0 := i64_wrap_eq ⟨by omega, by omega⟩
        have hb5' : b5 ≠ w.heap.size + 1 := by omega
        have hwb5 : w.heap.size ≤ b5 := by omega
        have hwb6 : w.heap.size ≤ w.heap.size + 1 := by omega
        have hY1 := HT.out.set1 (h + v0)
        have hYb : ∀ b, b ≠ b5 → (wr.setCell ⟨b5, 1, none⟩ (.int .i64 (h + v0))).heap[b]? = wr.heap[b]? := fun b hb => Below.heap_setCell _ _ _ _ hb
        have hYR : Two (wr.setCell ⟨b5, 1, none⟩ (.int .i64 (h + v0))) (w.heap.size + 1) 0 0 := HR.out.same (hYb _ (by omega)) (by simp [World.setCell])
        obtain ⟨t4, t0, t1, tf0, tf1⟩ := hY1
        obtain ⟨s4, s0, s1, sf0, sf1⟩ := hYR
        have HFB := Lib.hid (show Below w.heap.size w ((((wr.setCell ⟨b5, 1, none⟩ (.int .i64 (h + v0))).drew.setCell ⟨w.heap.size + 1, 0, none⟩ (.int .i64 l)).setCell ⟨w.heap.size + 1, 1, none⟩ (.int .i64 (h + v0)))) from ((((HB.out.setCell hwb5 _).drew).setCell hwb6 _).setCell hwb6 _))
        clear hYb
        go_wp2_with (fail)
        go_region
        all_goals
          go_wp2_with (fail)
          refine bodyPost_ret (v := .agg #[.int .i64 l, .int .i64 (h + v0)]) ?_ rfl ⟨⟨l, h + v0, rfl, fun at' => (BI.fin HBF.out at').1, fun at' => by have := (BI.fin HBF.out at').2; rw [hvv]; omega, by omega, by omega⟩, ?_⟩
          · simp [results, Try.results27, go_sem, s0, s1]
          · exact HFB.out
  · go_enter Try.func27, Try.ntmps27
    go_wp2_with (fail)
    rw [← hx1'.out]
    refine HC.out.mono ?_
    rintro e w2 ⟨rfl, hb2⟩
    have hs2 := hb2.size
    have HB2 := Lib.hid (HB1.out.trans (hb2.mono (by omega)))
    have HO2 := Lib.hid (HO1.out.below hb2)
    have HT2 := Lib.hid (HT1.out.below hb2)
    obtain ⟨a20, a21, a22, a23, a24, a25, a26⟩ := ob7 HO2.out
    have hbz : Below w2.heap.size w2 (w2.alloc (.cells #[.int .i64 0, .int .i64 0] 63)) := (Below.refl _ _).alloc (Nat.le_refl _) _
    have b20 : (w2.alloc (.cells #[.int .i64 0, .int .i64 0] 63)).cell? ⟨w.heap.size, 0, none⟩ = some (.int .i64 d0) := by rw [hbz.cell (by simp only; omega)]; exact a20
    have b21 : (w2.alloc (.cells #[.int .i64 0, .int .i64 0] 63)).cell? ⟨w.heap.size, 1, none⟩ = some (.int .i64 d1) := by rw [hbz.cell (by simp only; omega)]; exact a21
    clear hb2
    go_wp2_with (fail)
    go_region
    obtain ⟨X3, hX3⟩ : ∃ X, X = (w2.alloc (.cells #[.int .i64 d1, .int .i64 d1] 63)) := ⟨_, rfl⟩
    have hb3 : Below w2.heap.size w2 X3 := by rw [hX3]; exact (Below.refl _ _).alloc (Nat.le_refl _) _
    have hx3 : X3.heap.size = w2.heap.size + 1 := by rw [hX3]; simp
    have HT3 := Lib.hid (show Two X3.drew w2.heap.size d1 d1 from (Two.lay hX3).below (Below.refl _ _).drew)
    have HB3 := Lib.hid (show Below w.heap.size w X3.drew from (HB2.out.trans (hb3.mono (by omega))).drew)
    have HO3 := Lib.hid (show ObAt X3.drew w.heap.size (lnkObj ⟨d0, d1, v0, v1, lo, se, cs⟩ x n c) from HO2.out.below hb3.drew)
    have HR3 := Lib.hid (show Two X3.drew (w.heap.size + 1) 0 0 from HT2.out.below hb3.drew)
    obtain ⟨a30, a31, a32, a33, a34, a35, a36⟩ := ob7 HO3.out
    obtain ⟨b5, hb5⟩ : ∃ b, w2.heap.size = b := ⟨_, rfl⟩
    have HX3 := Lib.hid hX3
    rw [hb5] at HT3
    clear hX3 hb3 hbz b20 b21
    rw [← HX3.out]
    go_wp2_with (fail)
    go_loopw [25] (fun ki wr => ∃ (i : Nat) (l h : Int), i ≤ n ∧ ki = .int .i64 i ∧ Hid (BI k' 1 i l h) ∧ Hid (Two wr b5 l h) ∧ Hid (Two wr (w.heap.size + 1) 0 0) ∧ Hid (ObAt wr w.heap.size (lnkObj ⟨d0, d1, v0, v1, lo, se, cs⟩ x n c)) ∧ Hid (Below w.heap.size w wr)) (fun ki _ => n - (intOf ki).toNat)
    case atStart => exact ⟨0, d1, d1, by omega, rfl, Lib.hid (by have := HBI.out; rw [← HK.out] at this ⊢; exact this), HT3, HR3, HO3, HB3⟩
    clear HT3 HR3 HO3 HB3 a30 a31 a32 a33 a34 a35 a36
    case round =>
      obtain ⟨i, l, h, hi, rfl, HI, HT, HR, HO, HB⟩ := hrel
      rename_i wr
      have hiw : IntKind.i64.wrap ((i : Int) + 1) = (i : Int) + 1 := i64_wrap_eq ⟨by omega, by omega⟩
      have hwr : w.heap.size ≤ wr.heap.size := HB.out.size
      have hb5w : w.heap.size + 2 ≤ b5 := by omega
      by_cases hin : i < n
      · obtain ⟨a, q, hxa, hab, hzk, wk, wa, wb, hcells⟩ := HD.out.at' (show i < cs.length by have := (show cs.length = _ from HLN.out); omega)
        obtain ⟨z0, z1, z2⟩ := hcells _ HB.out
        have HZK := Lib.hid (show k'.cs[i]? = some q by rw [← HK.out]; exact hzk)
        obtain ⟨qk, qa, qb⟩ := q
        simp only at z0 z1 z2 wk wa wb
        subst hxa
        obtain ⟨b6, hb6⟩ : ∃ b, wr.heap.size = b := ⟨_, rfl⟩
        obtain ⟨X4, hX4⟩ : ∃ X, X = wr.alloc (.cells #[.int .i64 qk, .int .i64 qa, .int .i64 qb] 77) := ⟨_, rfl⟩
        have hbx4 : Below wr.heap.size wr X4 := by rw [hX4]; exact (Below.refl _ _).alloc (Nat.le_refl _) _
        have hx4 : X4.heap.size = b6 + 1 := by rw [hX4, ← hb6]; simp
        have hc4 : ObAt X4 b6 (.cells #[.int .i64 qk, .int .i64 qa, .int .i64 qb] 77) := by rw [← hb6]; exact ObAt.lay hX4
        obtain ⟨c10, c11, c12⟩ := hc4.tri
        have d11 := c11
        rw [hX4] at d11
        have ht4 := HT.out.below hbx4
        have HT4 := Lib.hid ht4
        have HR4 := Lib.hid (HR.out.below hbx4)
        have HO4 := Lib.hid (HO.out.below hbx4)
        have HB4 := Lib.hid (HB.out.trans (hbx4.mono hwr))
        obtain ⟨p4, p0, p1, pf0, pf1⟩ := ht4
        have HX4 := Lib.hid hX4
        clear hcells hX4 hbx4 hc4 hzk
        by_cases c2 : qa = 1
        · subst c2
          go_wp2_with (fail)
          rw [← HX4.out]
          go_region
          have hY : ∀ b, b ≠ b5 → ((X4.setCell ⟨b5, 0, none⟩ (.int .i64 (min l qb))).setCell ⟨b5, 1, none⟩ (.int .i64 (max h qb))).drew.heap[b]? = X4.heap[b]? := fun b hb => by
            show ((X4.setCell ⟨b5, 0, none⟩ (.int .i64 (min l qb))).setCell ⟨b5, 1, none⟩ (.int .i64 (max h qb))).heap[b]? = _
            rw [Below.heap_setCell _ _ _ _ hb, Below.heap_setCell _ _ _ _ hb]
          have hYs : ((X4.setCell ⟨b5, 0, none⟩ (.int .i64 (min l qb))).setCell ⟨b5, 1, none⟩ (.int .i64 (max h qb))).drew.heap.size = X4.heap.size := by
            show ((X4.setCell ⟨b5, 0, none⟩ (.int .i64 (min l qb))).setCell ⟨b5, 1, none⟩ (.int .i64 (max h qb))).heap.size = _
            simp [World.setCell]
          have HT6 := Lib.hid ((HT4.out.set (min l qb) (max h qb)).below (Below.refl _ _).drew)
          have HR6 := Lib.hid (HR4.out.same (hY _ (by omega)) (by omega))
          have HO6 := Lib.hid ((hY w.heap.size (by omega)).trans HO4.out)
          have hwb5 : w.heap.size ≤ b5 := by omega
          have HB6 := Lib.hid (show Below w.heap.size w ((X4.setCell ⟨b5, 0, none⟩ (.int .i64 (min l qb))).setCell ⟨b5, 1, none⟩ (.int .i64 (max h qb))).drew from ((HB4.out.setCell hwb5 _).setCell hwb5 _).drew)
          clear hY hYs
          go_wp2_with (fail)
          go_roundw
          case rel => exact ⟨i + 1, min l qb, max h qb, by omega, by go_num, Lib.hid (BI.take (by rw [← HK.out]; exact HG.out) HI.out HZK.out), HT6, HR6, Lib.hid HO6.out, HB6⟩
          case measure => simp [intOf]; omega
        · go_wp2_with (fail)
          rw [← HX4.out]
          go_roundw
          case rel => exact ⟨i + 1, l, h, by omega, by go_num, Lib.hid (HI.out.pass HZK.out c2), HT4, HR4, HO4, HB4⟩
          case measure => simp [intOf]; omega
      · obtain rfl : i = n := by omega
        have HBF := Lib.hid (show BI ⟨d0, d1, v0, v1, lo, se, cs⟩ 1 cs.length l h from by
          have h1 := HI.out
          rw [← HK.out] at h1
          rw [show cs.length = i from HLN.out]
          exact h1)
        obtain ⟨p4, p0, p1, pf0, pf1⟩ := HT.out
        obtain ⟨r4, r0, r1, rf0, rf1⟩ := HR.out
        obtain ⟨a40, a41, a42, a43, a44, a45, a46⟩ := ob7 HO.out
        have hl0 := HBF.out.2.2
        obtain ⟨hl0, hh0⟩ := hl0
        have hvv : varF ⟨d0, d1, v0, v1, lo, se, cs⟩ 1 = v1 := rfl
        rw [hvv] at hv
        obtain ⟨hv0, hv1⟩ := hv
        have hlh : l ≤ h := by have := HBF.out.1; omega
        have hwv : IntKind.i64.wrap (h + v1) = h + v1 := i64_wrap_eq ⟨by omega, by omega⟩
        have hb5' : b5 ≠ w.heap.size + 1 := by omega
        have hwb5 : w.heap.size ≤ b5 := by omega
        have hwb6 : w.heap.size ≤ w.heap.size + 1 := by omega
        have hY1 := HT.out.set1 (h + v1)
        have hYb : ∀ b, b ≠ b5 → (wr.setCell ⟨b5, 1, none⟩ (.int .i64 (h + v1))).heap[b]? = wr.heap[b]? := fun b hb => Below.heap_setCell _ _ _ _ hb
        have hYR : Two (wr.setCell ⟨b5, 1, none⟩ (.int .i64 (h + v1))) (w.heap.size + 1) 0 0 := HR.out.same (hYb _ (by omega)) (by simp [World.setCell])
        obtain ⟨t4, t0, t1, tf0, tf1⟩ := hY1
        obtain ⟨s4, s0, s1, sf0, sf1⟩ := hYR
        have HFB := Lib.hid (show Below w.heap.size w ((((wr.setCell ⟨b5, 1, none⟩ (.int .i64 (h + v1))).drew.setCell ⟨w.heap.size + 1, 0, none⟩ (.int .i64 l)).setCell ⟨w.heap.size + 1, 1, none⟩ (.int .i64 (h + v1)))) from ((((HB.out.setCell hwb5 _).drew).setCell hwb6 _).setCell hwb6 _))
        clear hYb
        go_wp2_with (fail)
        go_region
        all_goals
          go_wp2_with (fail)
          refine bodyPost_ret (v := .agg #[.int .i64 l, .int .i64 (h + v1)]) ?_ rfl ⟨⟨l, h + v1, rfl, fun at' => (BI.fin HBF.out at').1, fun at' => by have := (BI.fin HBF.out at').2; rw [hvv]; omega, by omega, by omega⟩, ?_⟩
          · simp [results, Try.results27, go_sem, s0, s1]
          · exact HFB.out
end Go.Proofs.Ytknoigleejbjdaa
