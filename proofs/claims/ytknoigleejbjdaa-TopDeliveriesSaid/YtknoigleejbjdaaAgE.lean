/- What up does. -/
import Derived.Test.YtknoigleejbjdaaAgD
import Derived.Laws.BitsLemmas
namespace Go.Proofs.Ytknoigleejbjdaa
open Go.RowKit
set_option linter.unusedVariables false
set_option linter.unusedSimpArgs false

theorem cells_lt {w : World} {a : Addr} {u : Value} (h : w.cell? a = some u) : a.block < w.heap.size := by
  unfold World.cell? at h
  by_cases hb : a.block < w.heap.size
  · exact hb
  · rw [Array.getElem?_eq_none (by omega)] at h
    simp at h
theorem i64_wrap_eq {x : Int} (h : -9223372036854775808 ≤ x ∧ x ≤ 9223372036854775807) : IntKind.i64.wrap x = x := by rw [IntKind.wrap_i64]; omega
theorem below_drewN {B : Nat} {w X : World} (h : Below B w X) : ∀ n, Below B w (X.drewN n)
  | 0 => h
  | n + 1 => (below_drewN h n).drew
theorem seven_low {w w' : World} {B C G Q o0 o1 o2 o3 o4 o5 o6 : Nat} {x0 x1 x2 x3 x4 x5 x6 : Value} (hb : Below B w w') (hC : C < B) (hG : G < B) (hQ : Q < B)
    (h : w.cell? ⟨C, o0, none⟩ = some x0 ∧ w.cell? ⟨C, o1, none⟩ = some x1 ∧ w.cell? ⟨C, o2, none⟩ = some x2 ∧ w.cell? ⟨G, o3, none⟩ = some x3 ∧ w.cell? ⟨G, o4, none⟩ = some x4 ∧ w.cell? ⟨G, o5, none⟩ = some x5 ∧ w.cell? ⟨Q, o6, none⟩ = some x6) :
    w'.cell? ⟨C, o0, none⟩ = some x0 ∧ w'.cell? ⟨C, o1, none⟩ = some x1 ∧ w'.cell? ⟨C, o2, none⟩ = some x2 ∧ w'.cell? ⟨G, o3, none⟩ = some x3 ∧ w'.cell? ⟨G, o4, none⟩ = some x4 ∧ w'.cell? ⟨G, o5, none⟩ = some x5 ∧ w'.cell? ⟨Q, o6, none⟩ = some x6 := by
  obtain ⟨h0, h1, h2, h3, h4, h5, h6⟩ := h
  exact ⟨by rw [hb.cell (by exact hC)]; exact h0, by rw [hb.cell (by exact hC)]; exact h1, by rw [hb.cell (by exact hC)]; exact h2, by rw [hb.cell (by exact hG)]; exact h3, by rw [hb.cell (by exact hG)]; exact h4, by rw [hb.cell (by exact hG)]; exact h5, by rw [hb.cell (by exact hQ)]; exact h6⟩
/-- an element in place -/
structure UpPost (w : World) (Q g cap bm N : Nat) (l0 : List Ev) (i : Nat) (b : Prop) (w' : World) : Prop where
  ex : ∃ (v : List Ev) (F : Int → Option Nat) (N' k : Nat), HS w' Q g cap bm N' v F ∧ N' ≤ N + i + 1 ∧ v.Perm l0 ∧ k < v.length ∧ gt v k = gt l0 i ∧ HeapDn v k ∧ (b → Heap v) ∧ Cons v F
  keep : Keep (fun q => q = g ∨ q = bm) w w'
/-- while an element is on its way up -/
structure UpRel (w : World) (Q g cap bm N : Nat) (l0 : List Ev) (x : Ev) (i : Nat) (b : Prop) (k : Nat) (wr : World) (v l : List Ev) (F : Int → Option Nat) (N' : Nat) : Prop where
  hs : HS wr Q g cap bm N' l F
  bd : N' + k ≤ N + i
  perm : v.Perm l0
  row : Row l v k
  at' : gt v k = x
  ids : Ids v
  hex : HeapEx v k
  hup : b → HeapUp v k
  cons : ConsEx v F k
  keep : Keep (fun q => q = g ∨ q = bm) w wr
  klt : k < v.length

theorem UpRel.later {w wr wr' : World} {Q g cap bm N N' i k : Nat} {l0 v l : List Ev} {x : Ev} {b : Prop} {F : Int → Option Nat} (h : UpRel w Q g cap bm N l0 x i b k wr v l F N') (hb : Below wr.heap.size wr wr') : UpRel w Q g cap bm N l0 x i b k wr' v l F N' :=
  { h with hs := h.hs.below hb, keep := h.keep.trans (Below.keep hb (Nat.le_refl _) _) }

/-- the element is put down -/
theorem UpRel.done {w wr w' : World} {Q g cap bm N N' i k : Nat} {l0 v l : List Ev} {x : Ev} {b : Prop} {F : Int → Option Nat} (h : UpRel w Q g cap bm N l0 x i b k wr v l F N') (hx : gt l0 i = x) (hs : k = 0 ∨ ¬ bef (gt v k) (gt v (par k)))
    (hp : HS w' Q g cap bm (N' + 1) (l.set k x) (upd F x.id (some k))) (hk : Keep (fun q => q = g ∨ q = bm) wr w') : UpPost w Q g cap bm N l0 i b w' := by
  have e := h.row.done h.klt
  rw [h.at'] at e
  have hc := h.cons.done h.ids h.klt
  rw [h.at'] at hc
  rw [e] at hp
  exact ⟨⟨v, _, _, k, hp, by have := h.bd; omega, h.perm, h.klt, by rw [h.at', hx], up_stop h.hex hs, fun hb => up_stop' (h.hup hb) hs, hc⟩, h.keep.trans hk⟩
/-- a step up -/
theorem UpRel.step {w wr w' : World} {Q g cap bm N N' i k : Nat} {l0 v l : List Ev} {x : Ev} {b : Prop} {F : Int → Option Nat} (h : UpRel w Q g cap bm N l0 x i b k wr v l F N') (h1 : 1 ≤ k) (hb : bef (gt v k) (gt v (par k)))
    (hp : HS w' Q g cap bm (N' + 1) (l.set k (gt v (par k))) (upd F (gt v (par k)).id (some k))) (hk : Keep (fun q => q = g ∨ q = bm) wr w') : UpRel w Q g cap bm N l0 x i b (par k) w' (swp v k (par k)) (l.set k (gt v (par k))) (upd F (gt v (par k)).id (some k)) (N' + 1) := by
  have hpk := par_lt h1
  have hpl : par k < v.length := Nat.lt_trans hpk h.klt
  have hu := up_step h.hex h.klt h1 hb
  exact ⟨hp, by have := h.bd; omega, (swp_perm h.klt hpl).trans h.perm, h.row.step h.klt hpl (by omega), by rw [gt_swp h.klt hpl, if_pos rfl]; exact h.at', h.ids.swp h.klt hpl, hu.ex, fun _ => hu, h.cons.step h.ids h.klt hpl (by omega), h.keep.trans hk, by rw [swp_len]; exact hpl⟩

set_option maxHeartbeats 4000000 in
theorem up_any (Q g cap bm N i : Nat) (l : List Ev) (F : Int → Option Nat) (b : Prop) (w : World) (h : HS w Q g cap bm N l F) (hi : i < l.length) (hids : Ids l) (hex : HeapEx l i) (hup : b → HeapUp l i) (hcons : ConsEx l F i) (hN : N < 100000000000) (hlen : l.length ≤ 1000000) :
    Calls Try.prog 39 #[.pointer (some ⟨Q, 3, none⟩), .int .i64 i] w fun e w' => e = .returned (.tuple #[]) ∧ UpPost w Q g cap bm N l i b w' := by
  obtain ⟨x, hx⟩ : ∃ x, gt l i = x := ⟨_, rfl⟩
  obtain ⟨z0, z1, z2⟩ := h.at' i hi
  rw [hx] at z0 z1 z2
  have q3 := h.q3
  have hil : (i : Int) < l.length := by omega
  have hQ := h.Qlt
  have hg := h.glt
  have hbm := h.map.lt
  obtain ⟨t, id, item⟩ := x
  simp only at z0 z1 z2
  have hb0 : Below w.heap.size w (w.alloc (.cells #[.int .i64 t, .int .i64 id, .int .i64 item] 69)) := (Below.refl _ _).alloc (Nat.le_refl _) _
  have R0 : UpRel w Q g cap bm N l ⟨t, id, item⟩ i b i (w.alloc (.cells #[.int .i64 t, .int .i64 id, .int .i64 item] 69)) l l F N :=
    ⟨h.below hb0, Nat.le_refl _, List.Perm.refl _, ⟨rfl, fun _ _ _ => rfl⟩, hx, hids, hex, hup, hcons, Below.keep hb0 (Nat.le_refl _) _, hi⟩
  have HR0 := Lib.hid R0
  have HX := Lib.hid hx
  obtain ⟨L, hL⟩ : ∃ L, l.length = L := ⟨_, rfl⟩
  rw [hL] at q3 hil
  have HLL := Lib.hid hL
  have hL6 : L ≤ 1000000 := by omega
  have hHH := Lib.hid h
  clear R0 hx hids hex hup hcons hL hb0 h
  go_enter Try.func39, Try.ntmps39
  go_wp2_with (fail)
  go_loopw [1] (fun ki wr => ∃ k v l' F' N', ki = .int .i64 (k : Nat) ∧ UpRel w Q g cap bm N l ⟨t, id, item⟩ i b k wr v l' F' N' ∧ wr.cell? ⟨w.heap.size, 0, none⟩ = some (.int .i64 t) ∧ wr.cell? ⟨w.heap.size, 1, none⟩ = some (.int .i64 id) ∧ wr.cell? ⟨w.heap.size, 2, none⟩ = some (.int .i64 item)) (fun ki _ => (intOf ki).toNat)
  case atStart => exact ⟨i, l, l, F, N, rfl, HR0.out, by simp, by simp, by simp⟩
  case round =>
    obtain ⟨k, v, l', F', N', rfl, hR, x0, x1, x2⟩ := hrel
    have hvl : v.length = L := by rw [hR.perm.length_eq]; exact HLL.out
    have hll : l'.length = L := by rw [hR.row.1]; exact hvl
    have hkL : k < L := by rw [← hvl]; exact hR.klt
    have r3 := hR.hs.q3
    rw [hll] at r3
    have hwr := hR.keep.size
    by_cases hk0 : k = 0
    · subst hk0
      have HR := Lib.hid hR
      clear hR
      go_wp2_with (fail)
      go_quiet (fail)
      have HR1 := Lib.hid (HR.out.later (below_drewN (Below.refl _ wr) nq))
      have C := put_any Q g cap bm N' 0 l' F' ⟨t, id, item⟩ _ HR1.out.hs (by omega) (by have := HR.out.ids.2 0 (by omega); rw [HR.out.at'] at this; exact this) (by have := HR.out.bd; omega) (by omega)
      have HC := Lib.hid C
      clear C
      go_wp2_with (fail)
      refine HC.out.mono ?_
      rintro e w5 ⟨rfl, hp5, hk5⟩
      have hfin := HR1.out.done HX.out (.inl rfl) hp5 hk5
      go_wp2_with (fail)
      exact Go.Great.bodyPost_end0 rfl rfl ⟨rfl, hfin⟩
    · have hpk : par k < k := par_lt (by omega)
      obtain ⟨p, hp⟩ : ∃ p, par k = p := ⟨_, rfl⟩
      rw [hp] at hpk
      have hpe : (((k : Int) - 1) / 2) = p := by unfold par at hp; omega
      obtain ⟨y0, y1, y2⟩ := hR.hs.at' p (by omega)
      rw [hR.row.2 p (by omega) (by omega)] at y0 y1 y2
      have hwrX : w.heap.size < wr.heap.size := cells_lt x0
      have hgr : g < wr.heap.size := by omega
      have hQr : Q < wr.heap.size := by omega
      have hS : wr.drew.cell? ⟨w.heap.size, 0, none⟩ = some (.int .i64 t) ∧ wr.drew.cell? ⟨w.heap.size, 1, none⟩ = some (.int .i64 id) ∧ wr.drew.cell? ⟨w.heap.size, 2, none⟩ = some (.int .i64 item) ∧
          wr.drew.cell? ⟨g, p * 3, none⟩ = some (.int .i64 (gt v p).t) ∧ wr.drew.cell? ⟨g, p * 3 + 1, none⟩ = some (.int .i64 (gt v p).id) ∧ wr.drew.cell? ⟨g, p * 3 + 2, none⟩ = some (.int .i64 (gt v p).item) ∧ wr.drew.cell? ⟨Q, 3, none⟩ = some (.slice (some ⟨g, 0, none⟩) L cap) := ⟨x0, x1, x2, y0, y1, y2, r3⟩
      obtain ⟨y, hy⟩ : ∃ y, gt v p = y := ⟨_, rfl⟩
      rw [hy] at hS
      obtain ⟨yt, yid, yitem⟩ := y
      simp only at hS
      obtain ⟨D, hD⟩ : ∃ D, decide (bef ⟨t, id, item⟩ ⟨yt, yid, yitem⟩) = D := ⟨_, rfl⟩
      have CB : ∀ W, Calls Try.prog 59 #[.agg #[.int .i64 t, .int .i64 id, .int .i64 item], .agg #[.int .i64 yt, .int .i64 yid, .int .i64 yitem]] W fun r w' => r = .returned (.bool D) ∧ Below W.heap.size W w' := fun W => by
        have C := before_any ⟨t, id, item⟩ ⟨yt, yid, yitem⟩ W
        rw [hD] at C; exact C
      have HCB := Lib.hid CB
      have HD := Lib.hid hD
      clear CB hD
      have hkp : (0 : Int) < (k : Int) := by omega
      have hq1 : ((k : Int) - 1).tdiv 2 = p := by rw [Int.tdiv_eq_ediv_of_nonneg (by omega)]; exact hpe
      have hw1 : IntKind.i64.wrap ((k : Int) - 1) = (k : Int) - 1 := i64_wrap_eq ⟨by omega, by omega⟩
      have hw2 : IntKind.i64.wrap (p : Int) = p := i64_wrap_eq ⟨by omega, by omega⟩
      have hp0 : (0 : Int) ≤ (p : Int) := by omega
      have hpn : p < L := by omega
      have hkd : decide (0 < k) = true := decide_eq_true (by omega)
      have hpL : (p : Int) < (L : Int) := by omega
      have HR := Lib.hid hR
      have HY := Lib.hid hy
      have HP := Lib.hid hp
      clear hR hy hp x0 x1 x2 y0 y1 y2 r3
      go_wp2_with (fail)
      go_region_held_law (fun w' => w'.cell? ⟨w.heap.size, 0, none⟩ = some (.int .i64 t) ∧ w'.cell? ⟨w.heap.size, 1, none⟩ = some (.int .i64 id) ∧ w'.cell? ⟨w.heap.size, 2, none⟩ = some (.int .i64 item) ∧ w'.cell? ⟨g, p * 3, none⟩ = some (.int .i64 yt) ∧ w'.cell? ⟨g, p * 3 + 1, none⟩ = some (.int .i64 yid) ∧ w'.cell? ⟨g, p * 3 + 2, none⟩ = some (.int .i64 yitem) ∧ w'.cell? ⟨Q, 3, none⟩ = some (.slice (some ⟨g, 0, none⟩) L cap))
        (first | exact hS | assumption)
        ((first | (go_at_call 59; refine (HCB.out _).mono ?_; rintro e w3 ⟨rfl, hb3⟩; have hS3 := seven_low hb3 hwrX hgr hQr hS)))
      have hS4 := hS3
      obtain ⟨s0, s1, s2, s3, s4, s5, s6⟩ := hS4
      have hs3 := hb3.size
      have HR3 := Lib.hid (HR.out.later ((Below.refl _ wr).drew.trans (hb3.mono (by simp))))
      have hwid : wfI id := by have := HR.out.ids.2 k HR.out.klt; rw [HR.out.at'] at this; exact this
      have hwy : wfI yid := by have := HR.out.ids.2 p (by omega); rw [HY.out] at this; exact this
      have hNk := HR.out.bd
      clear hS hS3 hb3
      cases D with
      | true =>
        have hbf : bef ⟨t, id, item⟩ ⟨yt, yid, yitem⟩ := of_decide_eq_true HD.out
        have HBF : Hid (bef (gt v k) (gt v (par k))) := by show bef _ _; rw [HR.out.at', HP.out, HY.out]; exact hbf
        have HC := Lib.hid (put_any Q g cap bm N' k l' F' ⟨yt, yid, yitem⟩ w3 HR3.out.hs (by omega) hwy (by omega) (by omega))
        clear hbf
        go_wp2_with (fail)
        refine HC.out.mono ?_
        rintro e w5 ⟨rfl, hp5, hk5⟩
        have hbs : w.heap.size < w3.heap.size := by simp at hs3; omega
        have hnk : ¬ (w.heap.size = g ∨ w.heap.size = bm) := by omega
        have hcx : ∀ o, w5.cell? ⟨w.heap.size, o, none⟩ = w3.cell? ⟨w.heap.size, o, none⟩ := fun o => World.cell?_of_block (hk5.block _ hbs hnk)
        have t0 : w5.cell? ⟨w.heap.size, 0, none⟩ = some (.int .i64 t) := (hcx _).trans s0
        have t1 : w5.cell? ⟨w.heap.size, 1, none⟩ = some (.int .i64 id) := (hcx _).trans s1
        have t2 : w5.cell? ⟨w.heap.size, 2, none⟩ = some (.int .i64 item) := (hcx _).trans s2
        have hst := HR3.out.step (by omega) HBF.out (by rw [HP.out, HY.out]; exact hp5) hk5
        rw [HP.out] at hst
        have HST := Lib.hid hst
        clear hp5 hk5 hcx hst s0 s1 s2 s3 s4 s5 s6
        go_wp2_with (fail)
        go_roundw
        case rel => exact ⟨p, _, _, _, _, rfl, HST.out, t0, t1, t2⟩
        case measure => simp [intOf]; omega
      | false =>
        have hbf : ¬ bef ⟨t, id, item⟩ ⟨yt, yid, yitem⟩ := of_decide_eq_false HD.out
        have HBF : Hid (¬ bef (gt v k) (gt v (par k))) := by show ¬ bef _ _; rw [HR.out.at', HP.out, HY.out]; exact hbf
        have HC := Lib.hid (put_any Q g cap bm N' k l' F' ⟨t, id, item⟩ w3 HR3.out.hs (by omega) hwid (by omega) (by omega))
        clear hbf
        go_wp2_with (fail)
        refine HC.out.mono ?_
        rintro e w5 ⟨rfl, hp5, hk5⟩
        have hfin := HR3.out.done HX.out (.inr HBF.out) hp5 hk5
        go_wp2_with (fail)
        exact Go.Great.bodyPost_end0 rfl rfl ⟨rfl, hfin⟩
end Go.Proofs.Ytknoigleejbjdaa
