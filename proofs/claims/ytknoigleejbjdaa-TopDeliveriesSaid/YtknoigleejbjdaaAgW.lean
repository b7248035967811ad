/- The law AgendaPeeks. -/
import Derived.Test.YtknoigleejbjdaaAgV
namespace Go.Proofs.Ytknoigleejbjdaa
open Go.RowKit
set_option linter.unusedVariables false
set_option linter.unusedSimpArgs false

theorem Deeds.at' {w : World} {x : Option Addr} {zs : List Deed} (h : Deeds w x zs) {k : Nat} (hk : k < zs.length) : ∃ (a : Addr) (q : Deed), x = some a ∧ a.block < w.heap.size ∧ zs[k]? = some q ∧ wfI q.k ∧ wfI q.a ∧ wfI q.b ∧ ∀ w', Below w.heap.size w w' → w'.cell? (a.add (k * 3)) = some (.int .i64 q.k) ∧ w'.cell? ⟨(a.add (k * 3)).block, (a.add (k * 3)).off + 1, none⟩ = some (.int .i64 q.a) ∧ w'.cell? ⟨(a.add (k * 3)).block, (a.add (k * 3)).off + 2, none⟩ = some (.int .i64 q.b) := by
  obtain ⟨⟨a, hx, hb, c0, c1, c2⟩, w0, w1, w2⟩ := h k zs[k] (List.getElem?_eq_getElem hk)
  refine ⟨a, zs[k], hx, hb, List.getElem?_eq_getElem hk, w0, w1, w2, fun w' hw => ⟨?_, ?_, ?_⟩⟩
  · rw [hw.cell (by rw [add_block]; exact hb)]; exact c0
  · rw [hw.cell (by rw [add_block]; exact hb)]; exact c1
  · rw [hw.cell (by rw [add_block]; exact hb)]; exact c2
/-- what holds beside the two calls of Cancel -/
def PkP (w : World) (Qb b1 b4 : Nat) (sa sb : St) (o : Obj) (w' : World) : Prop := QQ w.heap.size (fun b => b = b1 ∨ b = b4) w' w.heap.size Qb sa sb ∧ Below w.heap.size w w' ∧ ObAt w' b1 o ∧ b4 < w'.heap.size
set_option maxHeartbeats 8000000 in
set_option maxRecDepth 100000 in
theorem AgendaPeeks_walk (v0 v1 : Value) (w : World) (h0 : IsInt .u8 w v0) (h1 : IsDeeds w v1) :
    Calls Try.prog 8 #[v0, v1] w fun e w' => e = .returned (.bool true) ∧ Below w.heap.size w w' := by
  obtain ⟨v, rfl, hwf⟩ := h0
  obtain ⟨x, n, c, ds, rfl, hD, hl, hnc, hc, hx⟩ := h1
  obtain ⟨v0, v1⟩ := wf_u8 hwf
  have hwv : IntKind.i64.wrap v = v := i64_wrap_eq ⟨by omega, by omega⟩
  obtain ⟨lim, hlim⟩ : ∃ lim, v % 20 + 1 = lim := ⟨_, rfl⟩
  have hl1 : 1 ≤ lim := by omega
  have hl2 : lim ≤ 20 := by omega
  have HD := Lib.hid hD
  have HF := Lib.hid (fun w => first_any x n c w hnc hc hx)
  obtain ⟨m, hm⟩ : ∃ m, min n 300 = m := ⟨_, rfl⟩
  have hmn : m ≤ n := by omega
  have hm3 : m ≤ 300 := by omega
  rw [hm] at HF
  have HN := Lib.hid (new_QO w.heap.size (fun _ => False) lim w hl1 (by omega) (Nat.le_refl _) (fun _ h => h.elim))
  clear hD hx hwf hm
  go_enter Try.func8, Try.ntmps8
  go_wp2_with (fail)
  refine HN.out.mono ?_
  rintro e w1 ⟨rfl, hb1, hq1⟩
  have hs1 := hb1.size
  have HB1 := Lib.hid hb1
  have HQ1 := Lib.hid hq1
  clear hb1 hq1
  go_wp2_with (fail)
  refine (new_QO w1.heap.size (fun _ => False) lim w1 hl1 (by omega) (Nat.le_refl _) (fun _ h => h.elim)).mono ?_
  rintro e w2 ⟨rfl, hb2, hq2⟩
  have hs2 := hb2.size
  have HB2 := Lib.hid (HB1.out.trans (hb2.mono hs1))
  have HQ2 := Lib.hid (QQ.new HQ1.out hq2 hb2)
  clear hb2 hq2
  go_wp2_with (fail)
  refine (HF.out _).mono ?_
  rintro e w3 ⟨rfl, rfl⟩
  go_wp2_with (fail)
  go_loopw [37] (fun ki wr => ∃ (k : Nat) (s : St), k ≤ m ∧ ki = .int .i64 k ∧ s.few k ∧ Hid (QQ w.heap.size (fun _ => False) wr w.heap.size w1.heap.size s s) ∧ Hid (Below w.heap.size w wr)) (fun ki _ => m - (intOf ki).toNat)
  case atStart => exact ⟨0, ⟨lim, 0, 0, 0, []⟩, by omega, rfl, ⟨Nat.le_refl _, Nat.le_refl _⟩, HQ2, HB2⟩
  case round =>
    obtain ⟨k, s, hk, rfl, hf, HQ, HB⟩ := hrel
    have hkw : IntKind.i64.wrap ((k : Int) + 1) = (k : Int) + 1 := i64_wrap_eq ⟨by omega, by omega⟩
    by_cases hkm : k < m
    · obtain ⟨a, q, hxa, hab, hzk, wk, wa, wb, hcells⟩ := HD.out.at' (show k < ds.length by omega)
      obtain ⟨z0, z1, z2⟩ := hcells wr HB.out
      obtain ⟨dk, da, db⟩ := q
      simp only at z0 z1 z2 wk wa wb
      clear hcells hzk
      subst hxa
      go_wp2_with (fail)
      obtain ⟨b1, hb1⟩ : ∃ b, wr.heap.size = b := ⟨_, rfl⟩
      obtain ⟨X1, hX1⟩ : ∃ X, X = wr.alloc (.cells #[.int .i64 dk, .int .i64 da, .int .i64 db] 41) := ⟨_, rfl⟩
      have hx1 : X1.heap.size = b1 + 1 := by rw [hX1, ← hb1]; simp
      have hq1 : QQ w.heap.size (fun b => b = b1) X1 w.heap.size w1.heap.size s s := HQ.out.lay hX1 (fun b q => .inr (q.trans hb1.symm))
      have hbx1 : Below w.heap.size w X1 := HB.out.trans (by rw [hX1]; exact (Below.refl _ _).alloc HQ.out.B _)
      have ho1 : ObAt X1 b1 (.cells #[.int .i64 dk, .int .i64 da, .int .i64 db] 41) := by rw [← hb1]; exact ObAt.lay hX1
      have HX1 := Lib.hid hX1
      have HQ1 := Lib.hid hq1
      have HB1 := Lib.hid hbx1
      have HO1 := Lib.hid ho1
      clear hX1 hq1 hbx1 ho1
      rw [← HX1.out]
      refine (HQ1.out.left.peek).mono ?_
      rintro e w4 ⟨rfl, hb4⟩
      obtain ⟨et, het⟩ : ∃ et, popT s.l = et := ⟨_, rfl⟩
      obtain ⟨ei, hei⟩ : ∃ ei, popId s.l = ei := ⟨_, rfl⟩
      obtain ⟨em, hem⟩ : ∃ em, popIt s.l = em := ⟨_, rfl⟩
      obtain ⟨eo, heo⟩ : ∃ eo, popOk s.l = eo := ⟨_, rfl⟩
      rw [het, hei, hem, heo]
      have HET := Lib.hid (And.intro het (And.intro hei (And.intro hem heo)))
      clear het hei hem heo
      obtain ⟨b4, hb4e⟩ : ∃ b, w4.heap.size = b := ⟨_, rfl⟩
      obtain ⟨X4, hX4⟩ : ∃ X, X = w4.alloc (.cells #[.int .i64 et, .int .i64 ei, .int .i64 em] 30) := ⟨_, rfl⟩
      have hs4 := hb4.size
      have hx4 : X4.heap.size = b4 + 1 := by rw [hX4, ← hb4e]; simp
      have hbx4 : Below w4.heap.size w4 X4 := by rw [hX4]; exact (Below.refl _ _).alloc (Nat.le_refl _) _
      have hq4 : QQ w.heap.size (fun b => b = b1 ∨ b = b4) X4 w.heap.size w1.heap.size s s := (HQ1.out.below hb4).lay hX4 (fun b q => q.imp id (fun q => q.trans hb4e.symm))
      have ho41 := (HO1.out.below hb4).below hbx4
      have ho4 : ObAt X4 b4 (.cells #[.int .i64 et, .int .i64 ei, .int .i64 em] 30) := by rw [← hb4e]; exact ObAt.lay hX4
      have hbb4 : Below w.heap.size w X4 := (HB1.out.trans (hb4.mono HQ1.out.B)).trans (hbx4.mono (Nat.le_trans HQ1.out.B hs4))
      obtain ⟨c10, c11, c12⟩ := ho41.tri
      have d10 := c10
      have d11 := c11
      have d12 := c12
      rw [hX4] at d10 d11 d12
      have HX4 := Lib.hid hX4
      have HQ4 := Lib.hid hq4
      have HB4 := Lib.hid hbb4
      have HO4 := Lib.hid ho4
      have HO41 := Lib.hid ho41
      clear hX4 hq4 hbb4 ho4 ho41 hb4 hbx4
      by_cases k0 : dk = 0
      · subst k0
        go_wp2_with (fail)
        rw [← HX4.out]
        refine (HQ4.out.call (fun b q => by omega) (does_push hf (by omega) da db)).mono ?_
        rintro e w5 ⟨rfl, hq5, hk5⟩
        have hs5 := hk5.size
        obtain ⟨e10, e11, e12⟩ := (HO41.out.keep hk5 (fun q => q.2 (.inl rfl))).tri
        obtain ⟨i, hi⟩ : ∃ i, s.id da = i := ⟨_, rfl⟩
        obtain ⟨r, hr⟩ : ∃ r, s.err da = r := ⟨_, rfl⟩
        rw [hi, hr]
        have HQ5 := Lib.hid hq5
        have HB5 := Lib.hid (HB4.out.trans (hk5.low HQ4.out.B))
        have HI := Lib.hid (And.intro hi hr)
        clear hq5 hk5 hi hr
        go_wp2_with (fail)
        refine (HQ5.out.call2 (fun b q => by omega) (does_push hf (by omega) da db)).mono ?_
        rintro e w6 ⟨rfl, hq6, hk6⟩
        rw [HI.out.1, HI.out.2]
        have HQ6 := Lib.hid hq6
        have HB6 := Lib.hid (HB5.out.trans (hk6.low HQ5.out.B))
        clear hq6 hk6
        go_wp2_with (fail)
        go_roundw
        case rel => exact ⟨k + 1, s.push da db, by omega, by go_num, St.few_push (show s.few k from hf) _ _, Lib.hid (HQ6.out.grow (fun b q => q.elim)), HB6⟩
        case measure => simp [intOf]; omega
      · by_cases k1 : dk = 1
        · subst k1
          go_wp2_with (fail)
          rw [← HX4.out]
          refine (HQ4.out.call (fun b q => by omega) (does_pop hf (by omega))).mono ?_
          rw [HET.out.1, HET.out.2.1, HET.out.2.2.1, HET.out.2.2.2]
          rintro e w5 ⟨rfl, hq5, hk5⟩
          have hs5 := hk5.size
          obtain ⟨b5, hb5e⟩ : ∃ b, w5.heap.size = b := ⟨_, rfl⟩
          obtain ⟨X5, hX5⟩ : ∃ X, X = w5.alloc (.cells #[.int .i64 et, .int .i64 ei, .int .i64 em] 30) := ⟨_, rfl⟩
          have hx5 : X5.heap.size = b5 + 1 := by rw [hX5, ← hb5e]; simp
          have hbx5 : Below w5.heap.size w5 X5 := by rw [hX5]; exact (Below.refl _ _).alloc (Nat.le_refl _) _
          have HQ5 := Lib.hid (show QQ w.heap.size (fun b => (b = b1 ∨ b = b4) ∨ b = b5) X5 _ _ _ _ from hq5.lay hX5 (fun b q => q.imp id (fun q => q.trans hb5e.symm)))
          have HO45 := Lib.hid ((HO4.out.keep hk5 (fun q => q.2 (.inr rfl))).below hbx5)
          have HO5 := Lib.hid (show ObAt X5 b5 _ by rw [← hb5e]; exact ObAt.lay hX5)
          have HB5 := Lib.hid ((HB4.out.trans (hk5.low HQ4.out.B)).trans (hbx5.mono (Nat.le_trans HQ4.out.B hs5)))
          have HX5 := Lib.hid hX5
          clear hX5 hq5 hk5 hbx5
          go_wp2_with (fail)
          rw [← HX5.out]
          refine (HQ5.out.call2 (fun b q => by omega) (does_pop hf (by omega))).mono ?_
          rw [HET.out.1, HET.out.2.1, HET.out.2.2.1, HET.out.2.2.2]
          rintro e w6 ⟨rfl, hq6, hk6⟩
          have hs6 := hk6.size
          obtain ⟨b6, hb6e⟩ : ∃ b, w6.heap.size = b := ⟨_, rfl⟩
          obtain ⟨X6, hX6⟩ : ∃ X, X = w6.alloc (.cells #[.int .i64 et, .int .i64 ei, .int .i64 em] 30) := ⟨_, rfl⟩
          have hx6 : X6.heap.size = b6 + 1 := by rw [hX6, ← hb6e]; simp
          have hbx6 : Below w6.heap.size w6 X6 := by rw [hX6]; exact (Below.refl _ _).alloc (Nat.le_refl _) _
          have HQ6 := Lib.hid (hq6.below hbx6)
          obtain ⟨g40, g41, g42⟩ := ((HO45.out.keep hk6 (fun q => q.2 (.inl (.inr rfl)))).below hbx6).tri
          obtain ⟨g50, g51, g52⟩ := ((HO5.out.keep hk6 (fun q => q.2 (.inr rfl))).below hbx6).tri
          obtain ⟨g60, g61, g62⟩ := (show ObAt X6 b6 _ by rw [← hb6e]; exact ObAt.lay hX6).tri
          have HB6 := Lib.hid ((HB5.out.trans (hk6.low HQ5.out.B)).trans (hbx6.mono (Nat.le_trans HQ5.out.B hs6)))
          rw [hX6] at g40 g41 g42 g50 g51 g52 g60 g61 g62
          have HX6 := Lib.hid hX6
          clear hX6 hq6 hk6 hbx6
          go_wp2_with (fail)
          rw [← HX6.out]
          go_roundw
          case rel => exact ⟨k + 1, s.pop, by omega, by go_num, St.few_pop (show s.few k from hf), Lib.hid (HQ6.out.grow (fun b q => q.elim)), HB6⟩
          case measure => simp [intOf]; omega
        · by_cases k3 : dk = 3
          · subst k3
            obtain ⟨o, hoo⟩ : ∃ o, canOk s.l da = o := ⟨_, rfl⟩
            have HA1 := Lib.hid (show ∀ W, Below X4.heap.size X4 W → Calls Try.prog 18 #[.pointer (some ⟨w.heap.size, 0, none⟩), .int .i64 da] W fun e w' => e = .returned (.bool o) ∧ w'.cell? ⟨b1, 1, none⟩ = some (.int .i64 da) ∧ Hid (PkP w w1.heap.size b1 b4 (s.cancel da) s (.cells #[.int .i64 3, .int .i64 da, .int .i64 db] 41) w') from fun W hW => by
              have hs := hW.size
              have hQ := HQ4.out.below hW
              have hO := HO41.out.below hW
              refine (hQ.call (fun b q => by omega) (does_cancel (show s.few k from hf) (by omega) da wa)).mono ?_
              rintro e w5 ⟨rfl, hq5, hk5⟩
              have hO5 := hO.keep hk5 (fun q => q.2 (.inl rfl))
              have hs5 := hk5.size
              rw [hoo]
              exact ⟨rfl, hO5.tri.2.1, Lib.hid ⟨hq5, (HB4.out.trans (hW.mono HQ4.out.B)).trans (hk5.low hQ.B), hO5, by omega⟩⟩)
            have HA2 := Lib.hid (show ∀ W, Hid (PkP w w1.heap.size b1 b4 (s.cancel da) s (.cells #[.int .i64 3, .int .i64 da, .int .i64 db] 41) W) → Calls Try.prog 18 #[.pointer (some ⟨w1.heap.size, 0, none⟩), .int .i64 da] W fun e w' => e = .returned (.bool o) ∧ w'.cell? ⟨b1, 1, none⟩ = some (.int .i64 da) ∧ Hid (PkP w w1.heap.size b1 b4 (s.cancel da) (s.cancel da) (.cells #[.int .i64 3, .int .i64 da, .int .i64 db] 41) w') from fun W hW => by
              obtain ⟨hQ, hB, hO, hb4⟩ := hW.out
              have := hO.lt
              refine (hQ.call2 (fun b q => by omega) (does_cancel (show s.few k from hf) (by omega) da wa)).mono ?_
              rintro e w5 ⟨rfl, hq5, hk5⟩
              have hO5 := hO.keep hk5 (fun q => q.2 (.inl rfl))
              have hs5 := hk5.size
              rw [hoo]
              exact ⟨rfl, hO5.tri.2.1, Lib.hid ⟨hq5, hB.trans (hk5.low hQ.B), hO5, by omega⟩⟩)
            clear hoo
            have hS4 : X4.drew.cell? ⟨b1, 1, none⟩ = some (.int .i64 da) := c11
            go_wp2_with (fail)
            rw [← HX4.out]
            go_region_held_law (fun w' => w'.cell? ⟨b1, 1, none⟩ = some (.int .i64 da)) (first | exact hS4 | assumption)
              ((first
                | (go_at_call 18; with_reducible refine (HA1.out _ (Below.refl _ _).drew).mono ?_; rintro e w5 ⟨rfl, hS5, hP5⟩)
                | (go_at_call 18; with_reducible refine (HA2.out _ (by assumption)).mono ?_; rintro e w6 ⟨rfl, hS6, hP6⟩)))
            all_goals
              go_wp2_with (fail)
              go_roundw
              case rel => exact ⟨k + 1, s.cancel da, by omega, by go_num, St.few_cancel (show s.few k from hf) _, Lib.hid (hP6.out.1.grow (fun b q => q.elim)), Lib.hid hP6.out.2.1⟩
              case measure => simp [intOf]; omega
          · go_wp2_with (fail)
            rw [← HX4.out]
            go_roundw
            case rel => exact ⟨k + 1, s, by omega, by go_num, St.few_mono (show s.few k from hf) (by omega), Lib.hid (HQ4.out.grow (fun b q => q.elim)), HB4⟩
            case measure => simp [intOf]; omega
    · obtain rfl : k = m := by omega
      clear hkm
      go_wp2_with (fail)
      refine HQ.out.left.len.mono ?_
      rintro e w4 ⟨rfl, hb4⟩
      have HQ4 := Lib.hid (HQ.out.below hb4)
      have HB4 := Lib.hid (HB.out.trans (hb4.mono HQ.out.B))
      clear hb4
      obtain ⟨L, hL⟩ : ∃ L, s.l.length = L := ⟨_, rfl⟩
      rw [hL]
      go_wp2_with (fail)
      refine HQ4.out.symm.left.len.mono ?_
      rw [hL]
      rintro e w5 ⟨rfl, hb5⟩
      have hs5 := hb5.size
      have HB5 := Lib.hid (HB4.out.trans (hb5.mono HQ4.out.B))
      have hB5 := HQ4.out.B
      clear hb5
      go_wp2_with (fail)
      refine (awake_true _).mono ?_
      rintro e w6 ⟨rfl, hb6⟩
      have HB6 := Lib.hid (HB5.out.trans (hb6.mono (by omega)))
      clear hb6
      go_wp2_with (fail)
      go_ret
      exact ⟨rfl, HB6.out⟩
end Go.Proofs.Ytknoigleejbjdaa
