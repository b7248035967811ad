/- The law AgendaPlays, for queues that are there. -/
import Derived.Test.YtknoigleejbjdaaAgRf
namespace Go.Proofs.Ytknoigleejbjdaa
open Go.RowKit
set_option linter.unusedVariables false
set_option linter.unusedSimpArgs false

set_option maxHeartbeats 16000000 in
set_option maxRecDepth 100000 in
theorem plays_good (lim : Int) (x : Option Addr) (n c : Nat) (ds : List Deed) (w : World) (hD : Deeds w x ds) (hl : ds.length = n) (hnc : n ≤ c) (hc : c ≤ 9223372036854775807) (hx : x = none → n = 0 ∧ c = 0) (hlim : 1 ≤ lim ∧ lim ≤ 4096) :
    Calls Try.prog 7 #[.int .i64 lim, .slice x n c] w fun e w' => e = .returned (.bool true) ∧ Below w.heap.size w w' := by
  have HD := Lib.hid hD
  have HF := Lib.hid (fun w => first_any x n c w hnc hc hx)
  obtain ⟨m, hm⟩ : ∃ m, min n 300 = m := ⟨_, rfl⟩
  have hmn : m ≤ n := by omega
  have hm3 : m ≤ 300 := by omega
  rw [hm] at HF
  have HNA := Lib.hid (new_QO w.heap.size (fun _ => False) lim w (by omega) (by omega) (Nat.le_refl _) (fun _ h => h.elim))
  have HNB := Lib.hid (fun w1 => rnew_good lim w1 (by omega) (by omega))
  clear hlim hD hx hm
  go_enter Try.func7, Try.ntmps7
  go_wp2_with (fail)
  refine HNA.out.mono ?_
  rintro e w1 ⟨rfl, hb1, hq1⟩
  have hs1 := hb1.size
  have HB1 := Lib.hid hb1
  have HQ1 := Lib.hid hq1
  clear hb1 hq1
  go_wp2_with (fail)
  refine (HNB.out w1).mono ?_
  rintro e w2 ⟨rfl, hb2, hr2⟩
  have hs2 := hb2.size
  have HB2 := Lib.hid (HB1.out.trans (hb2.mono hs1))
  have HQ2 := Lib.hid (show GQ false w.heap.size (fun _ => False) w2 (.pointer (some ⟨w.heap.size, 0, none⟩)) (.pointer (some ⟨w1.heap.size, 0, none⟩)) ⟨lim, 0, 0, 0, []⟩ ⟨lim, 0, 0, 0, []⟩ from .inr ⟨rfl, _, _, rfl, rfl, QR.new (P := 0) HQ1.out (fun _ h => h.elim) hr2 hb2⟩)
  clear hb2 hr2
  go_wp2_with (fail)
  refine (HF.out _).mono ?_
  rintro e w3 ⟨rfl, rfl⟩
  go_wp2_with (fail)
  go_loopw [34] (fun ki wr => ∃ (k : Nat) (s : St), k ≤ m ∧ ki = .int .i64 k ∧ Hid (SI s k) ∧ Hid (GQ false w.heap.size (fun _ => False) wr (.pointer (some ⟨w.heap.size, 0, none⟩)) (.pointer (some ⟨w1.heap.size, 0, none⟩)) s s) ∧ Hid (Below w.heap.size w wr)) (fun ki _ => m - (intOf ki).toNat)
  case atStart => exact ⟨0, ⟨lim, 0, 0, 0, []⟩, by omega, rfl, Lib.hid ⟨⟨Nat.le_refl _, Nat.le_refl _⟩, List.Pairwise.nil, fun e he => by simp at he, Nat.le_refl _⟩, HQ2, HB2⟩
  clear HQ2 HB2
  case round =>
    obtain ⟨k, s, hk, rfl, HS, HQ, HB⟩ := hrel
    have hkw : IntKind.i64.wrap ((k : Int) + 1) = (k : Int) + 1 := i64_wrap_eq ⟨by omega, by omega⟩
    by_cases hkm : k < m
    · obtain ⟨a, q, hxa, hab, hzk, wk, wa, wb, hcells⟩ := HD.out.at' (show k < ds.length by omega)
      obtain ⟨z0, z1, z2⟩ := hcells wr HB.out
      obtain ⟨dk, da, db⟩ := q
      simp only at z0 z1 z2 wk wa wb
      clear hcells hzk
      subst hxa
      obtain ⟨b1, hb1⟩ : ∃ b, wr.heap.size = b := ⟨_, rfl⟩
      obtain ⟨X1, hX1⟩ : ∃ X, X = wr.alloc (.cells #[.int .i64 dk, .int .i64 da, .int .i64 db] 41) := ⟨_, rfl⟩
      have hx1 : X1.heap.size = b1 + 1 := by rw [hX1, ← hb1]; simp
      have HQ1 := Lib.hid (show GQ false w.heap.size (fun b => b = b1) X1 (.pointer (some ⟨w.heap.size, 0, none⟩)) (.pointer (some ⟨w1.heap.size, 0, none⟩)) s s from HQ.out.lay hX1 (fun b q => .inr (q.trans hb1.symm)))
      have HB1 := Lib.hid (show Below w.heap.size w X1 from HB.out.trans (by rw [hX1]; exact (Below.refl _ _).alloc HQ.out.B _))
      have ho1 : ObAt X1 b1 (.cells #[.int .i64 dk, .int .i64 da, .int .i64 db] 41) := by rw [← hb1]; exact ObAt.lay hX1
      obtain ⟨c10, c11, c12⟩ := ho1.tri
      have d10 := c10
      have d11 := c11
      have d12 := c12
      rw [hX1] at d10 d11 d12
      have HX1 := Lib.hid hX1
      have HO1 := Lib.hid ho1
      have hln : s.l.length ≤ 100000 := by have := HS.out.2.2.2; omega
      clear hX1 ho1
      by_cases k0 : dk = 0
      · subst k0
        have HCA := Lib.hid (HQ1.out.pushA (fun b q => by omega) HS.out.1 (by omega) da db)
        obtain ⟨i, hi⟩ : ∃ i, gI false 0 (s.id da) = i := ⟨_, rfl⟩
        obtain ⟨r, hr⟩ : ∃ r, gI false 1 (s.err da) = r := ⟨_, rfl⟩
        rw [hi, hr] at HCA
        have HIR := Lib.hid (And.intro hi hr)
        clear hi hr
        go_wp2_with (fail)
        rw [← HX1.out]
        refine HCA.out.mono ?_
        rintro ee w5 ⟨rfl, hq5, hk5⟩
        have hs5 := hk5.size
        obtain ⟨e10, e11, e12⟩ := (HO1.out.keep hk5 (fun q => q.2 rfl)).tri
        have HQ5 := Lib.hid hq5
        have HB5 := Lib.hid (HB1.out.trans (hk5.low HQ1.out.B))
        have HCB := Lib.hid (HQ5.out.pushB (fun b q => by omega) HS.out.1 (by omega) hln da db)
        rw [HIR.out.1, HIR.out.2] at HCB
        clear hq5 hk5
        go_wp2_with (fail)
        refine HCB.out.mono ?_
        rintro ee w6 ⟨rfl, hq6, hk6⟩
        have HQ6 := Lib.hid hq6
        have HB6 := Lib.hid (HB5.out.trans (hk6.low HQ5.out.B))
        clear hq6 hk6
        have HLA := Lib.hid HQ6.out.lenA
        obtain ⟨LL, hLL⟩ : ∃ L, gI false 0 ((s.push da db).l.length : Int) = L := ⟨_, rfl⟩
        rw [hLL] at HLA
        have HLL := Lib.hid hLL
        clear hLL
        go_wp2_with (fail)
        refine HLA.out.mono ?_
        rintro ee w20 ⟨rfl, hb20⟩
        have HG20 := Lib.hid (HQ6.out.below hb20)
        have HB20 := Lib.hid (HB6.out.trans (hb20.mono HQ6.out.B))
        have HLB := Lib.hid HG20.out.lenB
        rw [HLL.out] at HLB
        clear hb20
        go_wp2_with (fail)
        refine HLB.out.mono ?_
        rintro ee w21 ⟨rfl, hb21⟩
        have HG21 := Lib.hid (HG20.out.below hb21)
        have HB21 := Lib.hid (HB20.out.trans (hb21.mono HG20.out.B))
        clear hb21
        go_wp2_with (fail)
        go_roundw
        case rel => exact ⟨k + 1, s.push da db, by omega, by go_num, Lib.hid (SI.push HS.out da db), Lib.hid (HG21.out.grow (fun b q => q.elim)), HB21⟩
        case measure => simp [intOf]; omega
      · by_cases k1 : dk = 1
        · subst k1
          have HCA := Lib.hid (HQ1.out.popA (fun b q => by omega) HS.out.1 (by omega))
          obtain ⟨et, het⟩ : ∃ et, gI false 0 (popT s.l) = et := ⟨_, rfl⟩
          obtain ⟨ei, hei⟩ : ∃ ei, gI false 0 (popId s.l) = ei := ⟨_, rfl⟩
          obtain ⟨em, hem⟩ : ∃ em, gI false 0 (popIt s.l) = em := ⟨_, rfl⟩
          obtain ⟨eo, heo⟩ : ∃ eo, gB false (popOk s.l) = eo := ⟨_, rfl⟩
          rw [het, hei, hem, heo] at HCA
          have HET := Lib.hid (And.intro het (And.intro hei (And.intro hem heo)))
          clear het hei hem heo
          go_wp2_with (fail)
          rw [← HX1.out]
          refine HCA.out.mono ?_
          rintro ee w5 ⟨rfl, hq5, hk5⟩
          have hs5 := hk5.size
          obtain ⟨b5, hb5e⟩ : ∃ b, w5.heap.size = b := ⟨_, rfl⟩
          obtain ⟨X5, hX5⟩ : ∃ X, X = w5.alloc (.cells #[.int .i64 et, .int .i64 ei, .int .i64 em] 30) := ⟨_, rfl⟩
          have hx5 : X5.heap.size = b5 + 1 := by rw [hX5, ← hb5e]; simp
          have hbx5 : Below w5.heap.size w5 X5 := by rw [hX5]; exact (Below.refl _ _).alloc (Nat.le_refl _) _
          have HQ5 := Lib.hid (show GQ false w.heap.size (fun b => b = b1 ∨ b = b5) X5 (.pointer (some ⟨w.heap.size, 0, none⟩)) (.pointer (some ⟨w1.heap.size, 0, none⟩)) s.pop s from hq5.lay hX5 (fun b q => q.imp id (fun q => q.trans hb5e.symm)))
          have HO5 := Lib.hid (show ObAt X5 b5 _ by rw [← hb5e]; exact ObAt.lay hX5)
          have HB5 := Lib.hid ((HB1.out.trans (hk5.low HQ1.out.B)).trans (hbx5.mono (Nat.le_trans HQ1.out.B hs5)))
          have HX5 := Lib.hid hX5
          have HCB := Lib.hid (HQ5.out.popB (fun b q => by omega) hln HS.out.2.1)
          rw [HET.out.1, HET.out.2.1, HET.out.2.2.1, HET.out.2.2.2] at HCB
          clear hX5 hq5 hk5 hbx5
          go_wp2_with (fail)
          rw [← HX5.out]
          refine HCB.out.mono ?_
          rintro ee w6 ⟨rfl, hq6, hk6⟩
          have hs6 := hk6.size
          obtain ⟨b6, hb6e⟩ : ∃ b, w6.heap.size = b := ⟨_, rfl⟩
          obtain ⟨X6, hX6⟩ : ∃ X, X = w6.alloc (.cells #[.int .i64 et, .int .i64 ei, .int .i64 em] 30) := ⟨_, rfl⟩
          have hbx6 : Below w6.heap.size w6 X6 := by rw [hX6]; exact (Below.refl _ _).alloc (Nat.le_refl _) _
          have HQ6 := Lib.hid (hq6.below hbx6)
          obtain ⟨g50, g51, g52⟩ := ((HO5.out.keep hk6 (fun q => q.2 (.inr rfl))).below hbx6).tri
          obtain ⟨g60, g61, g62⟩ := (show ObAt X6 b6 _ by rw [← hb6e]; exact ObAt.lay hX6).tri
          have HB6 := Lib.hid ((HB5.out.trans (hk6.low HQ5.out.B)).trans (hbx6.mono (Nat.le_trans HQ5.out.B hs6)))
          rw [hX6] at g50 g51 g52 g60 g61 g62
          have HX6 := Lib.hid hX6
          clear hX6 hq6 hk6 hbx6
          go_wp2_with (fail)
          rw [← HX6.out]
          have HLA := Lib.hid HQ6.out.lenA
          obtain ⟨LL, hLL⟩ : ∃ L, gI false 0 ((s.pop).l.length : Int) = L := ⟨_, rfl⟩
          rw [hLL] at HLA
          have HLL := Lib.hid hLL
          clear hLL
          go_wp2_with (fail)
          refine HLA.out.mono ?_
          rintro ee w20 ⟨rfl, hb20⟩
          have HG20 := Lib.hid (HQ6.out.below hb20)
          have HB20 := Lib.hid (HB6.out.trans (hb20.mono HQ6.out.B))
          have HLB := Lib.hid HG20.out.lenB
          rw [HLL.out] at HLB
          clear hb20
          go_wp2_with (fail)
          refine HLB.out.mono ?_
          rintro ee w21 ⟨rfl, hb21⟩
          have HG21 := Lib.hid (HG20.out.below hb21)
          have HB21 := Lib.hid (HB20.out.trans (hb21.mono HG20.out.B))
          clear hb21
          go_wp2_with (fail)
          go_roundw
          case rel => exact ⟨k + 1, s.pop, by omega, by go_num, Lib.hid (SI.pop HS.out), Lib.hid (HG21.out.grow (fun b q => q.elim)), HB21⟩
          case measure => simp [intOf]; omega
        · by_cases k2 : dk = 2
          · subst k2
            have HCA := Lib.hid (HQ1.out.peekA)
            obtain ⟨et, het⟩ : ∃ et, gI false 0 (popT s.l) = et := ⟨_, rfl⟩
            obtain ⟨ei, hei⟩ : ∃ ei, gI false 0 (popId s.l) = ei := ⟨_, rfl⟩
            obtain ⟨em, hem⟩ : ∃ em, gI false 0 (popIt s.l) = em := ⟨_, rfl⟩
            obtain ⟨eo, heo⟩ : ∃ eo, gB false (popOk s.l) = eo := ⟨_, rfl⟩
            rw [het, hei, hem, heo] at HCA
            have HET := Lib.hid (And.intro het (And.intro hei (And.intro hem heo)))
            clear het hei hem heo
            go_wp2_with (fail)
            rw [← HX1.out]
            refine HCA.out.mono ?_
            rintro ee w5 ⟨rfl, hb5⟩
            have hs5 := hb5.size
            obtain ⟨b5, hb5e⟩ : ∃ b, w5.heap.size = b := ⟨_, rfl⟩
            obtain ⟨X5, hX5⟩ : ∃ X, X = w5.alloc (.cells #[.int .i64 et, .int .i64 ei, .int .i64 em] 30) := ⟨_, rfl⟩
            have hx5 : X5.heap.size = b5 + 1 := by rw [hX5, ← hb5e]; simp
            have hbx5 : Below w5.heap.size w5 X5 := by rw [hX5]; exact (Below.refl _ _).alloc (Nat.le_refl _) _
            have HQ5 := Lib.hid (show GQ false w.heap.size (fun b => b = b1) X5 (.pointer (some ⟨w.heap.size, 0, none⟩)) (.pointer (some ⟨w1.heap.size, 0, none⟩)) s s from (HQ1.out.below hb5).below hbx5)
            have HO5 := Lib.hid (show ObAt X5 b5 _ by rw [← hb5e]; exact ObAt.lay hX5)
            have HB5 := Lib.hid ((HB1.out.trans (hb5.mono HQ1.out.B)).trans (hbx5.mono (Nat.le_trans HQ1.out.B hs5)))
            have HX5 := Lib.hid hX5
            have HCB := Lib.hid (HQ5.out.peekB hln HS.out.2.1)
            rw [HET.out.1, HET.out.2.1, HET.out.2.2.1, HET.out.2.2.2] at HCB
            clear hX5 hb5 hbx5
            go_wp2_with (fail)
            rw [← HX5.out]
            refine HCB.out.mono ?_
            rintro ee w6 ⟨rfl, hb6⟩
            have hs6 := hb6.size
            obtain ⟨b6, hb6e⟩ : ∃ b, w6.heap.size = b := ⟨_, rfl⟩
            obtain ⟨X6, hX6⟩ : ∃ X, X = w6.alloc (.cells #[.int .i64 et, .int .i64 ei, .int .i64 em] 30) := ⟨_, rfl⟩
            have hbx6 : Below w6.heap.size w6 X6 := by rw [hX6]; exact (Below.refl _ _).alloc (Nat.le_refl _) _
            have HQ6 := Lib.hid ((HQ5.out.below hb6).below hbx6)
            obtain ⟨g50, g51, g52⟩ := ((HO5.out.below hb6).below hbx6).tri
            obtain ⟨g60, g61, g62⟩ := (show ObAt X6 b6 _ by rw [← hb6e]; exact ObAt.lay hX6).tri
            have HB6 := Lib.hid ((HB5.out.trans (hb6.mono HQ5.out.B)).trans (hbx6.mono (Nat.le_trans HQ5.out.B hs6)))
            rw [hX6] at g50 g51 g52 g60 g61 g62
            have HX6 := Lib.hid hX6
            clear hX6 hb6 hbx6
            go_wp2_with (fail)
            rw [← HX6.out]
            have HLA := Lib.hid HQ6.out.lenA
            obtain ⟨LL, hLL⟩ : ∃ L, gI false 0 ((s).l.length : Int) = L := ⟨_, rfl⟩
            rw [hLL] at HLA
            have HLL := Lib.hid hLL
            clear hLL
            go_wp2_with (fail)
            refine HLA.out.mono ?_
            rintro ee w20 ⟨rfl, hb20⟩
            have HG20 := Lib.hid (HQ6.out.below hb20)
            have HB20 := Lib.hid (HB6.out.trans (hb20.mono HQ6.out.B))
            have HLB := Lib.hid HG20.out.lenB
            rw [HLL.out] at HLB
            clear hb20
            go_wp2_with (fail)
            refine HLB.out.mono ?_
            rintro ee w21 ⟨rfl, hb21⟩
            have HG21 := Lib.hid (HG20.out.below hb21)
            have HB21 := Lib.hid (HB20.out.trans (hb21.mono HG20.out.B))
            clear hb21
            go_wp2_with (fail)
            go_roundw
            case rel => exact ⟨k + 1, s, by omega, by go_num, Lib.hid (SI.mono HS.out), Lib.hid (HG21.out.grow (fun b q => q.elim)), HB21⟩
            case measure => simp [intOf]; omega
          · by_cases k3 : dk = 3
            · subst k3
              obtain ⟨o, hoo⟩ : ∃ o, gB false (canOk s.l da) = o := ⟨_, rfl⟩
              have HA1 := Lib.hid (show ∀ W, Below X1.heap.size X1 W → Calls Try.prog 18 #[(.pointer (some ⟨w.heap.size, 0, none⟩)), .int .i64 da] W fun e w' => e = .returned (.bool o) ∧ w'.cell? ⟨b1, 1, none⟩ = some (.int .i64 da) ∧ Hid (PlP false w (.pointer (some ⟨w.heap.size, 0, none⟩)) (.pointer (some ⟨w1.heap.size, 0, none⟩)) b1 (s.cancel da) s (.cells #[.int .i64 3, .int .i64 da, .int .i64 db] 41) w') from fun W hW => by
                have hs := hW.size
                have hQ := HQ1.out.below hW
                have hO := HO1.out.below hW
                refine (hQ.cancelA (fun b q => by omega) HS.out.1 (by omega) da wa).mono ?_
                rintro e w5 ⟨rfl, hq5, hk5⟩
                have hO5 := hO.keep hk5 (fun q => q.2 rfl)
                rw [hoo]
                exact ⟨rfl, hO5.tri.2.1, Lib.hid ⟨hq5, (HB1.out.trans (hW.mono HQ1.out.B)).trans (hk5.low hQ.B), hO5⟩⟩)
              have HA2 := Lib.hid (show ∀ W, Hid (PlP false w (.pointer (some ⟨w.heap.size, 0, none⟩)) (.pointer (some ⟨w1.heap.size, 0, none⟩)) b1 (s.cancel da) s (.cells #[.int .i64 3, .int .i64 da, .int .i64 db] 41) W) → Calls Try.prog 24 #[(.pointer (some ⟨w1.heap.size, 0, none⟩)), .int .i64 da] W fun e w' => e = .returned (.bool o) ∧ w'.cell? ⟨b1, 1, none⟩ = some (.int .i64 da) ∧ Hid (PlP false w (.pointer (some ⟨w.heap.size, 0, none⟩)) (.pointer (some ⟨w1.heap.size, 0, none⟩)) b1 (s.cancel da) (s.cancel da) (.cells #[.int .i64 3, .int .i64 da, .int .i64 db] 41) w') from fun W hW => by
                obtain ⟨hQ, hB, hO⟩ := hW.out
                have := hO.lt
                refine (hQ.cancelB (fun b q => by omega) hln da).mono ?_
                rintro e w5 ⟨rfl, hq5, hk5⟩
                have hO5 := hO.keep hk5 (fun q => q.2 rfl)
                rw [hoo]
                exact ⟨rfl, hO5.tri.2.1, Lib.hid ⟨hq5, hB.trans (hk5.low hQ.B), hO5⟩⟩)
              clear hoo
              have hS1 : X1.drew.cell? ⟨b1, 1, none⟩ = some (.int .i64 da) := c11
              go_wp2_with (fail)
              rw [← HX1.out]
              go_region_held_law (fun w' => w'.cell? ⟨b1, 1, none⟩ = some (.int .i64 da)) (first | exact hS1 | assumption)
                ((first
                  | (go_at_call 18; with_reducible refine (HA1.out _ (Below.refl _ _).drew).mono ?_; rintro e w5 ⟨rfl, hS5, hP5⟩)
                  | (go_at_call 24; with_reducible refine (HA2.out _ (by assumption)).mono ?_; rintro e w6 ⟨rfl, hS6, hP6⟩)))
              all_goals
                have HQ6 := Lib.hid hP6.out.1
                have HB6 := Lib.hid hP6.out.2.1
                have HLA := Lib.hid HQ6.out.lenA
                obtain ⟨LL, hLL⟩ : ∃ L, gI false 0 ((s.cancel da).l.length : Int) = L := ⟨_, rfl⟩
                rw [hLL] at HLA
                have HLL := Lib.hid hLL
                clear hLL
                go_wp2_with (fail)
                refine HLA.out.mono ?_
                rintro ee w20 ⟨rfl, hb20⟩
                have HG20 := Lib.hid (HQ6.out.below hb20)
                have HB20 := Lib.hid (HB6.out.trans (hb20.mono HQ6.out.B))
                have HLB := Lib.hid HG20.out.lenB
                rw [HLL.out] at HLB
                clear hb20
                go_wp2_with (fail)
                refine HLB.out.mono ?_
                rintro ee w21 ⟨rfl, hb21⟩
                have HG21 := Lib.hid (HG20.out.below hb21)
                have HB21 := Lib.hid (HB20.out.trans (hb21.mono HG20.out.B))
                clear hb21
                go_wp2_with (fail)
                go_roundw
                case rel => exact ⟨k + 1, s.cancel da, by omega, by go_num, Lib.hid (SI.cancel HS.out da), Lib.hid (HG21.out.grow (fun b q => q.elim)), HB21⟩
                case measure => simp [intOf]; omega
            · have HQ6 := HQ1
              have HB6 := HB1
              go_wp2_with (fail)
              rw [← HX1.out]
              have HLA := Lib.hid HQ6.out.lenA
              obtain ⟨LL, hLL⟩ : ∃ L, gI false 0 ((s).l.length : Int) = L := ⟨_, rfl⟩
              rw [hLL] at HLA
              have HLL := Lib.hid hLL
              clear hLL
              go_wp2_with (fail)
              refine HLA.out.mono ?_
              rintro ee w20 ⟨rfl, hb20⟩
              have HG20 := Lib.hid (HQ6.out.below hb20)
              have HB20 := Lib.hid (HB6.out.trans (hb20.mono HQ6.out.B))
              have HLB := Lib.hid HG20.out.lenB
              rw [HLL.out] at HLB
              clear hb20
              go_wp2_with (fail)
              refine HLB.out.mono ?_
              rintro ee w21 ⟨rfl, hb21⟩
              have HG21 := Lib.hid (HG20.out.below hb21)
              have HB21 := Lib.hid (HB20.out.trans (hb21.mono HG20.out.B))
              clear hb21
              go_wp2_with (fail)
              go_roundw
              case rel => exact ⟨k + 1, s, by omega, by go_num, Lib.hid (SI.mono HS.out), Lib.hid (HG21.out.grow (fun b q => q.elim)), HB21⟩
              case measure => simp [intOf]; omega
    · obtain rfl : k = m := by omega
      have hBB := HQ.out.B
      clear hkm
      go_wp2_with (fail)
      refine (awake_true _).mono ?_
      rintro e w6 ⟨rfl, hb6⟩
      have HB6 := Lib.hid (HB.out.trans (hb6.mono hBB))
      clear hb6
      go_wp2_with (fail)
      go_ret
      exact ⟨rfl, HB6.out⟩

theorem AgendaPlays_walk (v0 v1 : Value) (w : World) (h0 : IsInt .i64 w v0) (h1 : IsDeeds w v1) :
    Calls Try.prog 7 #[v0, v1] w fun e w' => e = .returned (.bool true) ∧ Below w.heap.size w w' := by
  obtain ⟨lim, rfl, -⟩ := h0
  obtain ⟨x, n, c, ds, rfl, hD, hl, hnc, hc, hx⟩ := h1
  by_cases h : lim < 1 ∨ 4096 < lim
  · exact plays_nil lim x n c ds w hD hl hnc hc hx h
  · exact plays_good lim x n c ds w hD hl hnc hc hx (by omega)
end Go.Proofs.Ytknoigleejbjdaa
