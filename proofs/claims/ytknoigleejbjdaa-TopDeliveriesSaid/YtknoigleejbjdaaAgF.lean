/- What down does. -/
import Derived.Test.YtknoigleejbjdaaAgE
namespace Go.Proofs.Ytknoigleejbjdaa
open Go.RowKit
set_option linter.unusedVariables false
set_option linter.unusedSimpArgs false

structure DnPost (w : World) (Q g cap bm N : Nat) (l0 : List Ev) (w' : World) : Prop where
  ex : ∃ (v : List Ev) (F : Int → Option Nat) (N' : Nat), HS w' Q g cap bm N' v F ∧ N' ≤ N + l0.length + 1 ∧ v.Perm l0 ∧ Heap v ∧ Cons v F
  keep : Keep (fun q => q = g ∨ q = bm) w w'
/-- while an element is on its way down -/
structure DnRel (w : World) (Q g cap bm N : Nat) (l0 : List Ev) (x : Ev) (i k : Nat) (wr : World) (v l : List Ev) (F : Int → Option Nat) (N' : Nat) : Prop where
  hs : HS wr Q g cap bm N' l F
  bd : N' + i ≤ N + k
  perm : v.Perm l0
  row : Row l v k
  at' : gt v k = x
  ids : Ids v
  hdn : HeapDn v k
  cons : ConsEx v F k
  keep : Keep (fun q => q = g ∨ q = bm) w wr
  klt : k < v.length
section
variable {w wr wr' : World} {Q g cap bm N N' i k c : Nat} {l0 v l : List Ev} {x : Ev} {F : Int → Option Nat}
theorem DnRel.later (h : DnRel w Q g cap bm N l0 x i k wr v l F N') (hb : Below wr.heap.size wr wr') : DnRel w Q g cap bm N l0 x i k wr' v l F N' :=
  { h with hs := h.hs.below hb, keep := h.keep.trans (Below.keep hb (Nat.le_refl _) _) }
theorem DnRel.done (h : DnRel w Q g cap bm N l0 x i k wr v l F N') (hs : ∀ j, 1 ≤ j → j < v.length → par j = k → Le v k j)
    (hp : HS wr' Q g cap bm (N' + 1) (l.set k x) (upd F x.id (some k))) (hk : Keep (fun q => q = g ∨ q = bm) wr wr') : DnPost w Q g cap bm N l0 wr' := by
  have e := h.row.done h.klt
  rw [h.at'] at e
  have hc := h.cons.done h.ids h.klt
  rw [h.at'] at hc
  rw [e] at hp
  exact ⟨⟨v, _, _, hp, by have := h.bd; have := h.klt; rw [h.perm.length_eq] at this; omega, h.perm, dn_stop h.hdn hs, hc⟩, h.keep.trans hk⟩
theorem DnRel.step (h : DnRel w Q g cap bm N l0 x i k wr v l F N') (hcl : c < v.length) (hpc : par c = k ∧ 1 ≤ c) (hm : ∀ j, 1 ≤ j → j < v.length → par j = k → Le v c j) (hb : bef (gt v c) (gt v k))
    (hp : HS wr' Q g cap bm (N' + 1) (l.set k (gt v c)) (upd F (gt v c).id (some k))) (hk : Keep (fun q => q = g ∨ q = bm) wr wr') : DnRel w Q g cap bm N l0 x i c wr' (swp v k c) (l.set k (gt v c)) (upd F (gt v c).id (some k)) (N' + 1) := by
  have hkc : k < c := by rw [← hpc.1]; exact par_lt hpc.2
  exact ⟨hp, by have := h.bd; omega, (swp_perm h.klt hcl).trans h.perm, h.row.step h.klt hcl (by omega), by rw [gt_swp h.klt hcl, if_pos rfl]; exact h.at', h.ids.swp h.klt hcl, dn_step h.hdn h.klt hcl hpc.2 hpc.1 hb hm, h.cons.step h.ids h.klt hcl (by omega), h.keep.trans hk, by rw [swp_len]; exact hcl⟩
end

set_option maxHeartbeats 8000000 in
theorem down_any (Q g cap bm N i : Nat) (l : List Ev) (F : Int → Option Nat) (w : World) (h : HS w Q g cap bm N l F) (hi : i < l.length) (hids : Ids l) (hdn : HeapDn l i) (hcons : ConsEx l F i) (hN : N < 100000000000) (hlen : l.length ≤ 1000000) :
    Calls Try.prog 41 #[.pointer (some ⟨Q, 3, none⟩), .int .i64 i] w fun e w' => e = .returned (.tuple #[]) ∧ DnPost w Q g cap bm N l w' := by
  obtain ⟨x, hx⟩ : ∃ x, gt l i = x := ⟨_, rfl⟩
  obtain ⟨z0, z1, z2⟩ := h.at' i hi
  rw [hx] at z0 z1 z2
  have q3 := h.q3
  have hil : (i : Int) < l.length := by omega
  have hQ := h.Qlt
  have hg := h.glt
  have hbm := h.map.lt
  obtain ⟨t, id, item⟩ := x
  simp only at z0 z1 z2
  have hb0 : Below w.heap.size w (w.alloc (.cells #[.int .i64 t, .int .i64 id, .int .i64 item] 69)) := (Below.refl _ _).alloc (Nat.le_refl _) _
  have R0 : DnRel w Q g cap bm N l ⟨t, id, item⟩ i i (w.alloc (.cells #[.int .i64 t, .int .i64 id, .int .i64 item] 69)) l l F N :=
    ⟨h.below hb0, by omega, List.Perm.refl _, ⟨rfl, fun _ _ _ => rfl⟩, hx, hids, hdn, hcons, Below.keep hb0 (Nat.le_refl _) _, hi⟩
  have HR0 := Lib.hid R0
  obtain ⟨L, hL⟩ : ∃ L, l.length = L := ⟨_, rfl⟩
  rw [hL] at q3 hil
  have HLL := Lib.hid hL
  have hL6 : L ≤ 1000000 := by omega
  clear R0 hx hids hdn hcons hL hb0 h
  go_enter Try.func41, Try.ntmps41
  go_wp2_with (fail)
  go_loopw [1] (fun ki wr => ∃ k v l' F' N', ki = .int .i64 (k : Nat) ∧ DnRel w Q g cap bm N l ⟨t, id, item⟩ i k wr v l' F' N' ∧ wr.cell? ⟨w.heap.size, 0, none⟩ = some (.int .i64 t) ∧ wr.cell? ⟨w.heap.size, 1, none⟩ = some (.int .i64 id) ∧ wr.cell? ⟨w.heap.size, 2, none⟩ = some (.int .i64 item)) (fun ki _ => L - (intOf ki).toNat)
  case atStart => exact ⟨i, l, l, F, N, rfl, HR0.out, by simp, by simp, by simp⟩
  case round =>
    obtain ⟨k, v, l', F', N', rfl, hR, x0, x1, x2⟩ := hrel
    have hvl : v.length = L := by rw [hR.perm.length_eq]; exact HLL.out
    have hll : l'.length = L := by rw [hR.row.1]; exact hvl
    have hkL : k < L := by rw [← hvl]; exact hR.klt
    have r3 := hR.hs.q3
    rw [hll] at r3
    have hwr := hR.keep.size
    have hwrX : w.heap.size < wr.heap.size := cells_lt x0
    have hgr : g < wr.heap.size := by omega
    have hQr : Q < wr.heap.size := by omega
    obtain ⟨c1, hc1⟩ : ∃ c1, 2 * k + 1 = c1 := ⟨_, rfl⟩
    obtain ⟨c2, hc2⟩ : ∃ c2, c1 + 1 = c2 := ⟨_, rfl⟩
    have hwA : IntKind.i64.wrap (2 * (k : Int)) = 2 * (k : Int) := i64_wrap_eq ⟨by omega, by omega⟩
    have hwB : IntKind.i64.wrap (2 * (k : Int) + 1) = 2 * (k : Int) + 1 := i64_wrap_eq ⟨by omega, by omega⟩
    have hwC : 2 * (k : Int) + 1 = c1 := by omega
    have hwD : IntKind.i64.wrap ((c1 : Int) + 1) = (c1 : Int) + 1 := i64_wrap_eq ⟨by omega, by omega⟩
    have hwE : (c1 : Int) + 1 = c2 := by omega
    have hwF : IntKind.i64.wrap (c1 : Int) = c1 := i64_wrap_eq ⟨by omega, by omega⟩
    have hwG : IntKind.i64.wrap (c2 : Int) = c2 := i64_wrap_eq ⟨by omega, by omega⟩
    have hpar : ∀ j, 1 ≤ j → par j = k → j = c1 ∨ j = c2 := fun j h1 h2 => by unfold par at h2; omega
    have HPAR := Lib.hid hpar
    have HC1 := Lib.hid hc1
    have HC2 := Lib.hid hc2
    have HR := Lib.hid hR
    clear hR hpar
    by_cases hA : c2 < L
    · obtain ⟨ya, hya⟩ : ∃ y, gt v c2 = y := ⟨_, rfl⟩
      obtain ⟨yb, hyb⟩ : ∃ y, gt v c1 = y := ⟨_, rfl⟩
      obtain ⟨y0, y1, y2⟩ := HR.out.hs.at' c2 (by omega)
      rw [HR.out.row.2 c2 (by omega) (by omega), hya] at y0 y1 y2
      obtain ⟨y3, y4, y5⟩ := HR.out.hs.at' c1 (by omega)
      rw [HR.out.row.2 c1 (by omega) (by omega), hyb] at y3 y4 y5
      obtain ⟨at', aid, aitem⟩ := ya
      obtain ⟨bt, bid, bitem⟩ := yb
      simp only at y0 y1 y2 y3 y4 y5
      have hS1 : wr.drew.cell? ⟨g, c2 * 3, none⟩ = some (.int .i64 at') ∧ wr.drew.cell? ⟨g, c2 * 3 + 1, none⟩ = some (.int .i64 aid) ∧ wr.drew.cell? ⟨g, c2 * 3 + 2, none⟩ = some (.int .i64 aitem) ∧
          wr.drew.cell? ⟨g, c1 * 3, none⟩ = some (.int .i64 bt) ∧ wr.drew.cell? ⟨g, c1 * 3 + 1, none⟩ = some (.int .i64 bid) ∧ wr.drew.cell? ⟨g, c1 * 3 + 2, none⟩ = some (.int .i64 bitem) ∧ wr.drew.cell? ⟨Q, 3, none⟩ = some (.slice (some ⟨g, 0, none⟩) L cap) := ⟨y0, y1, y2, y3, y4, y5, r3⟩
      obtain ⟨D1, hD1⟩ : ∃ D1, decide (bef ⟨at', aid, aitem⟩ ⟨bt, bid, bitem⟩) = D1 := ⟨_, rfl⟩
      have CB1 : ∀ W, Calls Try.prog 59 #[.agg #[.int .i64 at', .int .i64 aid, .int .i64 aitem], .agg #[.int .i64 bt, .int .i64 bid, .int .i64 bitem]] W fun r w' => r = .returned (.bool D1) ∧ Below W.heap.size W w' := fun W => by
        have C := before_any ⟨at', aid, aitem⟩ ⟨bt, bid, bitem⟩ W
        rw [hD1] at C; exact C
      have HCB1 := Lib.hid CB1
      have HD1 := Lib.hid hD1
      have HYA := Lib.hid hya
      have HYB := Lib.hid hyb
      have hAi : (c2 : Int) < (L : Int) := by omega
      have hBi : (c1 : Int) < (L : Int) := by omega
      have hA0 : (0 : Int) ≤ (c2 : Int) := by omega
      have hB0 : (0 : Int) ≤ (c1 : Int) := by omega
      have hAd : decide (c2 < L) = true := decide_eq_true hA
      clear CB1 hD1 hya hyb y0 y1 y2 y3 y4 y5
      go_wp2_with (fail)
      go_region_held_law (fun w' => w'.cell? ⟨g, c2 * 3, none⟩ = some (.int .i64 at') ∧ w'.cell? ⟨g, c2 * 3 + 1, none⟩ = some (.int .i64 aid) ∧ w'.cell? ⟨g, c2 * 3 + 2, none⟩ = some (.int .i64 aitem) ∧ w'.cell? ⟨g, c1 * 3, none⟩ = some (.int .i64 bt) ∧ w'.cell? ⟨g, c1 * 3 + 1, none⟩ = some (.int .i64 bid) ∧ w'.cell? ⟨g, c1 * 3 + 2, none⟩ = some (.int .i64 bitem) ∧ w'.cell? ⟨Q, 3, none⟩ = some (.slice (some ⟨g, 0, none⟩) L cap))
        (first | exact hS1 | assumption)
        ((first | (go_at_call 59; refine (HCB1.out _).mono ?_; rintro e w3 ⟨rfl, hb3⟩; have hS2 := seven_low hb3 hgr hgr hQr hS1)))
      have hb3w : Below wr.heap.size wr w3 := (Below.refl _ wr).drew.trans (hb3.mono (by simp))
      have HRW := Lib.hid (HR.out.later hb3w)
      have x0 : w3.cell? ⟨w.heap.size, 0, none⟩ = some (.int .i64 t) := by rw [hb3w.cell (by exact hwrX)]; exact x0
      have x1 : w3.cell? ⟨w.heap.size, 1, none⟩ = some (.int .i64 id) := by rw [hb3w.cell (by exact hwrX)]; exact x1
      have x2 : w3.cell? ⟨w.heap.size, 2, none⟩ = some (.int .i64 item) := by rw [hb3w.cell (by exact hwrX)]; exact x2
      clear hS1 hS2 hb3 hb3w r3
      cases D1 with
      | true =>
        have HMIN : Hid (∀ j, 1 ≤ j → j < v.length → par j = k → Le v c2 j) := fun j h1 h2 h3 => by
          have hb : bef (gt v c2) (gt v c1) := by rw [HYA.out, HYB.out]; exact of_decide_eq_true HD1.out
          rcases HPAR.out j h1 h3 with q | q
          · rw [q]; exact bef_asymm hb
          · rw [q]; exact bef_irrefl _
        obtain ⟨z, hz⟩ : ∃ z, gt v c2 = z := ⟨_, rfl⟩
        obtain ⟨y0, y1, y2⟩ := HRW.out.hs.at' c2 (by omega)
        rw [HRW.out.row.2 c2 (by omega) (by omega), hz] at y0 y1 y2
        obtain ⟨zt, zid, zitem⟩ := z
        simp only at y0 y1 y2
        have r3 := HRW.out.hs.q3
        rw [hll] at r3
        have hsW := HRW.out.keep.size
        have hwX : w.heap.size < w3.heap.size := cells_lt x0
        have hgW : g < w3.heap.size := by omega
        have hQW : Q < w3.heap.size := by omega
        have hS : w3.drew.cell? ⟨w.heap.size, 0, none⟩ = some (.int .i64 t) ∧ w3.drew.cell? ⟨w.heap.size, 1, none⟩ = some (.int .i64 id) ∧ w3.drew.cell? ⟨w.heap.size, 2, none⟩ = some (.int .i64 item) ∧
            w3.drew.cell? ⟨g, c2 * 3, none⟩ = some (.int .i64 zt) ∧ w3.drew.cell? ⟨g, c2 * 3 + 1, none⟩ = some (.int .i64 zid) ∧ w3.drew.cell? ⟨g, c2 * 3 + 2, none⟩ = some (.int .i64 zitem) ∧ w3.drew.cell? ⟨Q, 3, none⟩ = some (.slice (some ⟨g, 0, none⟩) L cap) := ⟨x0, x1, x2, y0, y1, y2, r3⟩
        obtain ⟨D2, hD2⟩ : ∃ D2, decide (bef ⟨zt, zid, zitem⟩ ⟨t, id, item⟩) = D2 := ⟨_, rfl⟩
        have CB2 : ∀ W, Calls Try.prog 59 #[.agg #[.int .i64 zt, .int .i64 zid, .int .i64 zitem], .agg #[.int .i64 t, .int .i64 id, .int .i64 item]] W fun r w' => r = .returned (.bool D2) ∧ Below W.heap.size W w' := fun W => by
          have C := before_any ⟨zt, zid, zitem⟩ ⟨t, id, item⟩ W
          rw [hD2] at C; exact C
        have HCB2 := Lib.hid CB2
        have HD2 := Lib.hid hD2
        have HZ := Lib.hid hz
        have hcL : (c2 : Int) < (L : Int) := by omega
        have hcl0 : (0 : Int) ≤ (c2 : Int) := by omega
        have hcge : ¬ (L : Int) ≤ (c2 : Int) := by omega
        have hcd : decide (L ≤ c2) = false := decide_eq_false (by omega)
        clear CB2 hD2 hz x0 x1 x2 y0 y1 y2 r3
        go_wp2_with (fail)
        go_region_held_law (fun w' => w'.cell? ⟨w.heap.size, 0, none⟩ = some (.int .i64 t) ∧ w'.cell? ⟨w.heap.size, 1, none⟩ = some (.int .i64 id) ∧ w'.cell? ⟨w.heap.size, 2, none⟩ = some (.int .i64 item) ∧ w'.cell? ⟨g, c2 * 3, none⟩ = some (.int .i64 zt) ∧ w'.cell? ⟨g, c2 * 3 + 1, none⟩ = some (.int .i64 zid) ∧ w'.cell? ⟨g, c2 * 3 + 2, none⟩ = some (.int .i64 zitem) ∧ w'.cell? ⟨Q, 3, none⟩ = some (.slice (some ⟨g, 0, none⟩) L cap))
          (first | exact hS | assumption)
          ((first | (go_at_call 59; refine (HCB2.out _).mono ?_; rintro e w4 ⟨rfl, hb4⟩; have hS4 := seven_low hb4 hwX hgW hQW hS))
        )
        have hS5 := hS4
        obtain ⟨s0, s1, s2, s3, s4, s5, s6⟩ := hS5
        have hs4 := hb4.size
        have HR4 := Lib.hid (HRW.out.later ((Below.refl _ w3).drew.trans (hb4.mono (by simp))))
        have hwid : wfI id := by have := HR.out.ids.2 k HR.out.klt; rw [HR.out.at'] at this; exact this
        have hwz : wfI zid := by have := HR.out.ids.2 c2 (by omega); rw [HZ.out] at this; exact this
        have hNk := HR.out.bd
        clear hS hS4 hb4
        cases D2 with
        | true =>
          have HBF : Hid (bef (gt v c2) (gt v k)) := by show bef _ _; rw [HR.out.at', HZ.out]; exact of_decide_eq_true HD2.out
          have HC := Lib.hid (put_any Q g cap bm N' k l' F' ⟨zt, zid, zitem⟩ w4 HR4.out.hs (by omega) hwz (by omega) (by omega))
          go_wp2_with (fail)
          refine HC.out.mono ?_
          rintro e w5 ⟨rfl, hp5, hk5⟩
          have hbs : w.heap.size < w4.heap.size := by simp at hs4; omega
          have hnk : ¬ (w.heap.size = g ∨ w.heap.size = bm) := by omega
          have hcx : ∀ o, w5.cell? ⟨w.heap.size, o, none⟩ = w4.cell? ⟨w.heap.size, o, none⟩ := fun o => World.cell?_of_block (hk5.block _ hbs hnk)
          have t0 : w5.cell? ⟨w.heap.size, 0, none⟩ = some (.int .i64 t) := (hcx _).trans s0
          have t1 : w5.cell? ⟨w.heap.size, 1, none⟩ = some (.int .i64 id) := (hcx _).trans s1
          have t2 : w5.cell? ⟨w.heap.size, 2, none⟩ = some (.int .i64 item) := (hcx _).trans s2
          have hst := HR4.out.step (c := c2) (by omega) (by unfold par; omega) HMIN.out HBF.out (by rw [HZ.out]; exact hp5) hk5
          have HST := Lib.hid hst
          clear hp5 hk5 hcx hst s0 s1 s2 s3 s4 s5 s6
          go_wp2_with (fail)
          go_roundw
          case rel => exact ⟨c2, _, _, _, _, rfl, HST.out, t0, t1, t2⟩
          case measure => simp [intOf]; omega
        | false =>
          have HBF : Hid (¬ bef (gt v c2) (gt v k)) := by show ¬ bef _ _; rw [HR.out.at', HZ.out]; exact of_decide_eq_false HD2.out
          have HC := Lib.hid (put_any Q g cap bm N' k l' F' ⟨t, id, item⟩ w4 HR4.out.hs (by omega) hwid (by omega) (by omega))
          go_wp2_with (fail)
          refine HC.out.mono ?_
          rintro e w5 ⟨rfl, hp5, hk5⟩
          have hfin := HR4.out.done (fun j h1 h2 h3 => le_trans' HBF.out (HMIN.out j h1 h2 h3)) hp5 hk5
          go_wp2_with (fail)
          exact Go.Great.bodyPost_end0 rfl rfl ⟨rfl, hfin⟩
      | false =>
        have HMIN : Hid (∀ j, 1 ≤ j → j < v.length → par j = k → Le v c1 j) := fun j h1 h2 h3 => by
          have hb : ¬ bef (gt v c2) (gt v c1) := by rw [HYA.out, HYB.out]; exact of_decide_eq_false HD1.out
          rcases HPAR.out j h1 h3 with q | q
          · rw [q]; exact bef_irrefl _
          · rw [q]; exact hb
        obtain ⟨z, hz⟩ : ∃ z, gt v c1 = z := ⟨_, rfl⟩
        obtain ⟨y0, y1, y2⟩ := HRW.out.hs.at' c1 (by omega)
        rw [HRW.out.row.2 c1 (by omega) (by omega), hz] at y0 y1 y2
        obtain ⟨zt, zid, zitem⟩ := z
        simp only at y0 y1 y2
        have r3 := HRW.out.hs.q3
        rw [hll] at r3
        have hsW := HRW.out.keep.size
        have hwX : w.heap.size < w3.heap.size := cells_lt x0
        have hgW : g < w3.heap.size := by omega
        have hQW : Q < w3.heap.size := by omega
        have hS : w3.drew.cell? ⟨w.heap.size, 0, none⟩ = some (.int .i64 t) ∧ w3.drew.cell? ⟨w.heap.size, 1, none⟩ = some (.int .i64 id) ∧ w3.drew.cell? ⟨w.heap.size, 2, none⟩ = some (.int .i64 item) ∧
            w3.drew.cell? ⟨g, c1 * 3, none⟩ = some (.int .i64 zt) ∧ w3.drew.cell? ⟨g, c1 * 3 + 1, none⟩ = some (.int .i64 zid) ∧ w3.drew.cell? ⟨g, c1 * 3 + 2, none⟩ = some (.int .i64 zitem) ∧ w3.drew.cell? ⟨Q, 3, none⟩ = some (.slice (some ⟨g, 0, none⟩) L cap) := ⟨x0, x1, x2, y0, y1, y2, r3⟩
        obtain ⟨D2, hD2⟩ : ∃ D2, decide (bef ⟨zt, zid, zitem⟩ ⟨t, id, item⟩) = D2 := ⟨_, rfl⟩
        have CB2 : ∀ W, Calls Try.prog 59 #[.agg #[.int .i64 zt, .int .i64 zid, .int .i64 zitem], .agg #[.int .i64 t, .int .i64 id, .int .i64 item]] W fun r w' => r = .returned (.bool D2) ∧ Below W.heap.size W w' := fun W => by
          have C := before_any ⟨zt, zid, zitem⟩ ⟨t, id, item⟩ W
          rw [hD2] at C; exact C
        have HCB2 := Lib.hid CB2
        have HD2 := Lib.hid hD2
        have HZ := Lib.hid hz
        have hcL : (c1 : Int) < (L : Int) := by omega
        have hcl0 : (0 : Int) ≤ (c1 : Int) := by omega
        have hcge : ¬ (L : Int) ≤ (c1 : Int) := by omega
        have hcd : decide (L ≤ c1) = false := decide_eq_false (by omega)
        clear CB2 hD2 hz x0 x1 x2 y0 y1 y2 r3
        go_wp2_with (fail)
        go_region_held_law (fun w' => w'.cell? ⟨w.heap.size, 0, none⟩ = some (.int .i64 t) ∧ w'.cell? ⟨w.heap.size, 1, none⟩ = some (.int .i64 id) ∧ w'.cell? ⟨w.heap.size, 2, none⟩ = some (.int .i64 item) ∧ w'.cell? ⟨g, c1 * 3, none⟩ = some (.int .i64 zt) ∧ w'.cell? ⟨g, c1 * 3 + 1, none⟩ = some (.int .i64 zid) ∧ w'.cell? ⟨g, c1 * 3 + 2, none⟩ = some (.int .i64 zitem) ∧ w'.cell? ⟨Q, 3, none⟩ = some (.slice (some ⟨g, 0, none⟩) L cap))
          (first | exact hS | assumption)
          ((first | (go_at_call 59; refine (HCB2.out _).mono ?_; rintro e w4 ⟨rfl, hb4⟩; have hS4 := seven_low hb4 hwX hgW hQW hS))
        )
        have hS5 := hS4
        obtain ⟨s0, s1, s2, s3, s4, s5, s6⟩ := hS5
        have hs4 := hb4.size
        have HR4 := Lib.hid (HRW.out.later ((Below.refl _ w3).drew.trans (hb4.mono (by simp))))
        have hwid : wfI id := by have := HR.out.ids.2 k HR.out.klt; rw [HR.out.at'] at this; exact this
        have hwz : wfI zid := by have := HR.out.ids.2 c1 (by omega); rw [HZ.out] at this; exact this
        have hNk := HR.out.bd
        clear hS hS4 hb4
        cases D2 with
        | true =>
          have HBF : Hid (bef (gt v c1) (gt v k)) := by show bef _ _; rw [HR.out.at', HZ.out]; exact of_decide_eq_true HD2.out
          have HC := Lib.hid (put_any Q g cap bm N' k l' F' ⟨zt, zid, zitem⟩ w4 HR4.out.hs (by omega) hwz (by omega) (by omega))
          go_wp2_with (fail)
          refine HC.out.mono ?_
          rintro e w5 ⟨rfl, hp5, hk5⟩
          have hbs : w.heap.size < w4.heap.size := by simp at hs4; omega
          have hnk : ¬ (w.heap.size = g ∨ w.heap.size = bm) := by omega
          have hcx : ∀ o, w5.cell? ⟨w.heap.size, o, none⟩ = w4.cell? ⟨w.heap.size, o, none⟩ := fun o => World.cell?_of_block (hk5.block _ hbs hnk)
          have t0 : w5.cell? ⟨w.heap.size, 0, none⟩ = some (.int .i64 t) := (hcx _).trans s0
          have t1 : w5.cell? ⟨w.heap.size, 1, none⟩ = some (.int .i64 id) := (hcx _).trans s1
          have t2 : w5.cell? ⟨w.heap.size, 2, none⟩ = some (.int .i64 item) := (hcx _).trans s2
          have hst := HR4.out.step (c := c1) (by omega) (by unfold par; omega) HMIN.out HBF.out (by rw [HZ.out]; exact hp5) hk5
          have HST := Lib.hid hst
          clear hp5 hk5 hcx hst s0 s1 s2 s3 s4 s5 s6
          go_wp2_with (fail)
          go_roundw
          case rel => exact ⟨c1, _, _, _, _, rfl, HST.out, t0, t1, t2⟩
          case measure => simp [intOf]; omega
        | false =>
          have HBF : Hid (¬ bef (gt v c1) (gt v k)) := by show ¬ bef _ _; rw [HR.out.at', HZ.out]; exact of_decide_eq_false HD2.out
          have HC := Lib.hid (put_any Q g cap bm N' k l' F' ⟨t, id, item⟩ w4 HR4.out.hs (by omega) hwid (by omega) (by omega))
          go_wp2_with (fail)
          refine HC.out.mono ?_
          rintro e w5 ⟨rfl, hp5, hk5⟩
          have hfin := HR4.out.done (fun j h1 h2 h3 => le_trans' HBF.out (HMIN.out j h1 h2 h3)) hp5 hk5
          go_wp2_with (fail)
          exact Go.Great.bodyPost_end0 rfl rfl ⟨rfl, hfin⟩
    · have hAn : ¬ (c2 : Int) < (L : Int) := by omega
      have hAd : decide (c2 < L) = false := decide_eq_false hA
      go_wp2_with (fail)
      go_quiet (fail)
      have HRW := Lib.hid (HR.out.later (below_drewN (Below.refl _ wr) nq))
      by_cases hB : c1 < L
      · have HMIN : Hid (∀ j, 1 ≤ j → j < v.length → par j = k → Le v c1 j) := fun j h1 h2 h3 => by
          rcases HPAR.out j h1 h3 with q | q
          · rw [q]; exact bef_irrefl _
          · omega
        obtain ⟨W3, hW3⟩ : ∃ W3, wr.drewN nq = W3 := ⟨_, rfl⟩
        have x0 : W3.cell? ⟨w.heap.size, 0, none⟩ = some (.int .i64 t) := by rw [← hW3]; exact x0
        have x1 : W3.cell? ⟨w.heap.size, 1, none⟩ = some (.int .i64 id) := by rw [← hW3]; exact x1
        have x2 : W3.cell? ⟨w.heap.size, 2, none⟩ = some (.int .i64 item) := by rw [← hW3]; exact x2
        rw [hW3] at HRW ⊢
        clear hW3 r3
        obtain ⟨z, hz⟩ : ∃ z, gt v c1 = z := ⟨_, rfl⟩
        obtain ⟨y0, y1, y2⟩ := HRW.out.hs.at' c1 (by omega)
        rw [HRW.out.row.2 c1 (by omega) (by omega), hz] at y0 y1 y2
        obtain ⟨zt, zid, zitem⟩ := z
        simp only at y0 y1 y2
        have r3 := HRW.out.hs.q3
        rw [hll] at r3
        have hsW := HRW.out.keep.size
        have hwX : w.heap.size < W3.heap.size := cells_lt x0
        have hgW : g < W3.heap.size := by omega
        have hQW : Q < W3.heap.size := by omega
        have hS : W3.drew.cell? ⟨w.heap.size, 0, none⟩ = some (.int .i64 t) ∧ W3.drew.cell? ⟨w.heap.size, 1, none⟩ = some (.int .i64 id) ∧ W3.drew.cell? ⟨w.heap.size, 2, none⟩ = some (.int .i64 item) ∧
            W3.drew.cell? ⟨g, c1 * 3, none⟩ = some (.int .i64 zt) ∧ W3.drew.cell? ⟨g, c1 * 3 + 1, none⟩ = some (.int .i64 zid) ∧ W3.drew.cell? ⟨g, c1 * 3 + 2, none⟩ = some (.int .i64 zitem) ∧ W3.drew.cell? ⟨Q, 3, none⟩ = some (.slice (some ⟨g, 0, none⟩) L cap) := ⟨x0, x1, x2, y0, y1, y2, r3⟩
        obtain ⟨D2, hD2⟩ : ∃ D2, decide (bef ⟨zt, zid, zitem⟩ ⟨t, id, item⟩) = D2 := ⟨_, rfl⟩
        have CB2 : ∀ W, Calls Try.prog 59 #[.agg #[.int .i64 zt, .int .i64 zid, .int .i64 zitem], .agg #[.int .i64 t, .int .i64 id, .int .i64 item]] W fun r w' => r = .returned (.bool D2) ∧ Below W.heap.size W w' := fun W => by
          have C := before_any ⟨zt, zid, zitem⟩ ⟨t, id, item⟩ W
          rw [hD2] at C; exact C
        have HCB2 := Lib.hid CB2
        have HD2 := Lib.hid hD2
        have HZ := Lib.hid hz
        have hcL : (c1 : Int) < (L : Int) := by omega
        have hcl0 : (0 : Int) ≤ (c1 : Int) := by omega
        have hcge : ¬ (L : Int) ≤ (c1 : Int) := by omega
        have hcd : decide (L ≤ c1) = false := decide_eq_false (by omega)
        clear CB2 hD2 hz x0 x1 x2 y0 y1 y2 r3
        go_wp2_with (fail)
        go_region_held_law (fun w' => w'.cell? ⟨w.heap.size, 0, none⟩ = some (.int .i64 t) ∧ w'.cell? ⟨w.heap.size, 1, none⟩ = some (.int .i64 id) ∧ w'.cell? ⟨w.heap.size, 2, none⟩ = some (.int .i64 item) ∧ w'.cell? ⟨g, c1 * 3, none⟩ = some (.int .i64 zt) ∧ w'.cell? ⟨g, c1 * 3 + 1, none⟩ = some (.int .i64 zid) ∧ w'.cell? ⟨g, c1 * 3 + 2, none⟩ = some (.int .i64 zitem) ∧ w'.cell? ⟨Q, 3, none⟩ = some (.slice (some ⟨g, 0, none⟩) L cap))
          (first | exact hS | assumption)
          ((first | (go_at_call 59; refine (HCB2.out _).mono ?_; rintro e w4 ⟨rfl, hb4⟩; have hS4 := seven_low hb4 hwX hgW hQW hS))
        )
        have hS5 := hS4
        obtain ⟨s0, s1, s2, s3, s4, s5, s6⟩ := hS5
        have hs4 := hb4.size
        have HR4 := Lib.hid (HRW.out.later ((Below.refl _ W3).drew.trans (hb4.mono (by simp))))
        have hwid : wfI id := by have := HR.out.ids.2 k HR.out.klt; rw [HR.out.at'] at this; exact this
        have hwz : wfI zid := by have := HR.out.ids.2 c1 (by omega); rw [HZ.out] at this; exact this
        have hNk := HR.out.bd
        clear hS hS4 hb4
        cases D2 with
        | true =>
          have HBF : Hid (bef (gt v c1) (gt v k)) := by show bef _ _; rw [HR.out.at', HZ.out]; exact of_decide_eq_true HD2.out
          have HC := Lib.hid (put_any Q g cap bm N' k l' F' ⟨zt, zid, zitem⟩ w4 HR4.out.hs (by omega) hwz (by omega) (by omega))
          go_wp2_with (fail)
          refine HC.out.mono ?_
          rintro e w5 ⟨rfl, hp5, hk5⟩
          have hbs : w.heap.size < w4.heap.size := by simp at hs4; omega
          have hnk : ¬ (w.heap.size = g ∨ w.heap.size = bm) := by omega
          have hcx : ∀ o, w5.cell? ⟨w.heap.size, o, none⟩ = w4.cell? ⟨w.heap.size, o, none⟩ := fun o => World.cell?_of_block (hk5.block _ hbs hnk)
          have t0 : w5.cell? ⟨w.heap.size, 0, none⟩ = some (.int .i64 t) := (hcx _).trans s0
          have t1 : w5.cell? ⟨w.heap.size, 1, none⟩ = some (.int .i64 id) := (hcx _).trans s1
          have t2 : w5.cell? ⟨w.heap.size, 2, none⟩ = some (.int .i64 item) := (hcx _).trans s2
          have hst := HR4.out.step (c := c1) (by omega) (by unfold par; omega) HMIN.out HBF.out (by rw [HZ.out]; exact hp5) hk5
          have HST := Lib.hid hst
          clear hp5 hk5 hcx hst s0 s1 s2 s3 s4 s5 s6
          go_wp2_with (fail)
          go_roundw
          case rel => exact ⟨c1, _, _, _, _, rfl, HST.out, t0, t1, t2⟩
          case measure => simp [intOf]; omega
        | false =>
          have HBF : Hid (¬ bef (gt v c1) (gt v k)) := by show ¬ bef _ _; rw [HR.out.at', HZ.out]; exact of_decide_eq_false HD2.out
          have HC := Lib.hid (put_any Q g cap bm N' k l' F' ⟨t, id, item⟩ w4 HR4.out.hs (by omega) hwid (by omega) (by omega))
          go_wp2_with (fail)
          refine HC.out.mono ?_
          rintro e w5 ⟨rfl, hp5, hk5⟩
          have hfin := HR4.out.done (fun j h1 h2 h3 => le_trans' HBF.out (HMIN.out j h1 h2 h3)) hp5 hk5
          go_wp2_with (fail)
          exact Go.Great.bodyPost_end0 rfl rfl ⟨rfl, hfin⟩
      · have hcge : (L : Int) ≤ (c1 : Int) := by omega
        have hcd : decide (L ≤ c1) = true := decide_eq_true (by omega)
        have hcn : ¬ (c1 : Int) < (L : Int) := by omega
        obtain ⟨W3, hW3⟩ : ∃ W3, wr.drewN nq = W3 := ⟨_, rfl⟩
        have x0 : W3.cell? ⟨w.heap.size, 0, none⟩ = some (.int .i64 t) := by rw [← hW3]; exact x0
        have x1 : W3.cell? ⟨w.heap.size, 1, none⟩ = some (.int .i64 id) := by rw [← hW3]; exact x1
        have x2 : W3.cell? ⟨w.heap.size, 2, none⟩ = some (.int .i64 item) := by rw [← hW3]; exact x2
        have r3' : W3.cell? ⟨Q, 3, none⟩ = some (.slice (some ⟨g, 0, none⟩) L cap) := by rw [← hW3]; exact r3
        rw [hW3] at HRW ⊢
        have hwid : wfI id := by have := HR.out.ids.2 k HR.out.klt; rw [HR.out.at'] at this; exact this
        have hNk := HR.out.bd
        clear hW3 r3
        go_wp2_with (fail)
        go_quiet (fail)
        have HR4 := Lib.hid (HRW.out.later (below_drewN (Below.refl _ W3) nq))
        have HC := Lib.hid (put_any Q g cap bm N' k l' F' ⟨t, id, item⟩ _ HR4.out.hs (by omega) hwid (by omega) (by omega))
        go_wp2_with (fail)
        refine HC.out.mono ?_
        rintro e w5 ⟨rfl, hp5, hk5⟩
        have hfin := HR4.out.done (fun j h1 h2 h3 => by rcases HPAR.out j h1 h3 with q | q <;> omega) hp5 hk5
        go_wp2_with (fail)
        exact Go.Great.bodyPost_end0 rfl rfl ⟨rfl, hfin⟩
end Go.Proofs.Ytknoigleejbjdaa
