/- What link's Check returns. -/
import Derived.Test.YtknoigleejbjdaaLnA
namespace Go.Proofs.Ytknoigleejbjdaa
open Go.RowKit
set_option linter.unusedVariables false
set_option linter.unusedSimpArgs false

/-- a link's numbers and changes (a change: its time, direction, delay) -/
structure Lnk where
  d0 : Int
  d1 : Int
  v0 : Int
  v1 : Int
  lo : Int
  se : Int
  cs : List Deed
def lnkVals (k : Lnk) (x : Option Addr) (n c : Nat) : Array Value := #[.int .i64 k.d0, .int .i64 k.d1, .int .i64 k.v0, .int .i64 k.v1, .int .i64 k.lo, .int .u64 k.se, .slice x n c]
def lnkObj (k : Lnk) (x : Option Addr) (n c : Nat) : Obj := .cells (lnkVals k x n c) 59
def GoodC (q : Deed) : Prop := InR 1125899906842624 q.k ∧ InR 1 q.a ∧ InR 10000000000 q.b
def Good (k : Lnk) : Prop := (InR 10000000000 k.d0 ∧ InR 10000000000 k.d1) ∧ (InR 10000000000 k.v0 ∧ InR 10000000000 k.v1) ∧ InR 1000 k.lo ∧ (∀ q ∈ k.cs, GoodC q) ∧ k.cs.length ≤ 16 ∧ ∀ i a b, k.cs[i]? = some a → k.cs[i + 1]? = some b → a.k ≤ b.k
theorem ob7 {w : World} {b : Nat} {k : Lnk} {x : Option Addr} {n c : Nat} (h : ObAt w b (lnkObj k x n c)) : w.cell? ⟨b, 0, none⟩ = some (.int .i64 k.d0) ∧ w.cell? ⟨b, 1, none⟩ = some (.int .i64 k.d1) ∧ w.cell? ⟨b, 2, none⟩ = some (.int .i64 k.v0) ∧ w.cell? ⟨b, 3, none⟩ = some (.int .i64 k.v1) ∧ w.cell? ⟨b, 4, none⟩ = some (.int .i64 k.lo) ∧ w.cell? ⟨b, 5, none⟩ = some (.int .u64 k.se) ∧ w.cell? ⟨b, 6, none⟩ = some (.slice x n c) := by
  unfold ObAt lnkObj lnkVals at h
  refine ⟨?_, ?_, ?_, ?_, ?_, ?_, ?_⟩ <;> simp [World.cell?, h]
theorem InR_zero (hi : Int) (h : 0 ≤ hi) (a : Int) : (InR hi a ∧ InR hi 0) ↔ InR hi a := ⟨fun q => q.1, fun q => ⟨q, Int.le_refl _, h⟩⟩
/-- in, of a pair, as a fact on Booleans -/
theorem in_bool (hi a b : Int) (w : World) : Calls Try.prog 34 #[.int .i64 hi, .agg #[.int .i64 a, .int .i64 b]] w fun e w' => (∃ r : Bool, e = .returned (.bool r) ∧ (r = true ↔ InR hi a ∧ InR hi b)) ∧ Below w.heap.size w w' :=
  (in_any hi a b w).mono fun e w' q => ⟨⟨_, q.1, by simp⟩, q.2⟩

set_option maxHeartbeats 8000000 in
set_option maxRecDepth 100000 in
theorem check_any (k : Lnk) (x : Option Addr) (n c : Nat) (w : World) (hD : Deeds w x k.cs) (hl : k.cs.length = n) (hnc : n ≤ c) (hc : c ≤ 9223372036854775807) : Calls Try.prog 26 #[.agg (lnkVals k x n c)] w fun e w' => (∃ E : Int, e = .returned (.int .i64 E) ∧ (E = 0 ↔ Good k)) ∧ Below w.heap.size w w' := by
  obtain ⟨X0, hX0⟩ : ∃ X, X = w.alloc (lnkObj k x n c) := ⟨_, rfl⟩
  have hb0 : Below w.heap.size w X0 := by rw [hX0]; exact (Below.refl _ _).alloc (Nat.le_refl _) _
  have hs0 : X0.heap.size = w.heap.size + 1 := by rw [hX0]; simp
  have ho0 : ObAt X0 w.heap.size (lnkObj k x n c) := ObAt.lay hX0
  have HD := Lib.hid hD
  have HB0 := Lib.hid hb0
  have HO0 := Lib.hid ho0
  have HX0 := Lib.hid hX0
  have HLN := Lib.hid hl
  obtain ⟨d0, d1, v0, v1, lo, se, cs⟩ := k
  have hx0' : Hid (X0 = w.alloc (.cells #[.int .i64 d0, .int .i64 d1, .int .i64 v0, .int .i64 v1, .int .i64 lo, .int .u64 se, .slice x n c] 59)) := Lib.hid hX0
  -- what a failure gives
  have HFAIL := Lib.hid (show ∀ E : Int, E ≠ 0 → ¬ Good ⟨d0, d1, v0, v1, lo, se, cs⟩ → (E = 0 ↔ Good ⟨d0, d1, v0, v1, lo, se, cs⟩) from fun E h1 h2 => ⟨fun q => absurd q h1, fun q => absurd q h2⟩)
  unfold lnkVals
  simp only
  clear hD hb0 ho0 hX0 hl
  go_enter Try.func26, Try.ntmps26
  go_wp2_with (fail)
  rw [← hx0'.out]
  refine (in_bool _ _ _ _).mono ?_
  rintro e w1 ⟨⟨r1, rfl, hr1⟩, hb1⟩
  have hs1 := hb1.size
  have ho1 := HO0.out.below hb1
  obtain ⟨a10, a11, a12, a13, a14, a15, a16⟩ := ob7 ho1
  have HB1 := Lib.hid (HB0.out.trans (hb1.mono (by omega)))
  have HO1 := Lib.hid ho1
  clear hb1 ho1
  cases r1 with
  | false =>
    have hng : ¬ Good ⟨d0, d1, v0, v1, lo, se, cs⟩ := fun q => by have := hr1.2 q.1; cases this
    have HNG := Lib.hid hng
    clear hr1 hng
    go_wp2_with (fail)
    go_ret
    exact ⟨⟨3, rfl, HFAIL.out 3 (by omega) HNG.out⟩, HB1.out⟩
  | true =>
    have HR1 := Lib.hid (hr1.1 rfl)
    clear hr1
    go_wp2_with (fail)
    refine (in_bool _ _ _ _).mono ?_
    rintro e w2 ⟨⟨r2, rfl, hr2⟩, hb2⟩
    have hs2 := hb2.size
    have ho2 := HO1.out.below hb2
    obtain ⟨a20, a21, a22, a23, a24, a25, a26⟩ := ob7 ho2
    have HB2 := Lib.hid (HB1.out.trans (hb2.mono (by omega)))
    have HO2 := Lib.hid ho2
    clear hb2 ho2
    cases r2 with
    | false =>
      have hng : ¬ Good ⟨d0, d1, v0, v1, lo, se, cs⟩ := fun q => by have := hr2.2 q.2.1; cases this
      have HNG := Lib.hid hng
      clear hr2 hng
      go_wp2_with (fail)
      go_ret
      exact ⟨⟨3, rfl, HFAIL.out 3 (by omega) HNG.out⟩, HB2.out⟩
    | true =>
      have HR2 := Lib.hid (hr2.1 rfl)
      clear hr2
      go_wp2_with (fail)
      refine (in_bool _ _ _ _).mono ?_
      rintro e w3 ⟨⟨r3, rfl, hr3⟩, hb3⟩
      have hs3 := hb3.size
      have ho3 := HO2.out.below hb3
      obtain ⟨a30, a31, a32, a33, a34, a35, a36⟩ := ob7 ho3
      have HB3 := Lib.hid (HB2.out.trans (hb3.mono (by omega)))
      have HO3 := Lib.hid ho3
      clear hb3 ho3
      cases r3 with
      | false =>
        have hng : ¬ Good ⟨d0, d1, v0, v1, lo, se, cs⟩ := fun q => by have := hr3.2 ⟨q.2.2.1, by omega, by omega⟩; cases this
        have HNG := Lib.hid hng
        clear hr3 hng
        go_wp2_with (fail)
        go_ret
        exact ⟨⟨3, rfl, HFAIL.out 3 (by omega) HNG.out⟩, HB3.out⟩
      | true =>
        have HR3 := Lib.hid (hr3.1 rfl).1
        clear hr3
        go_wp2_with (fail)
        go_loopw [26] (fun ki wr => ∃ (i : Nat), i ≤ n ∧ ki = .int .i64 i ∧ Hid (∀ j q, j < i → cs[j]? = some q → GoodC q) ∧ Hid (Below w.heap.size w wr) ∧ Hid (ObAt wr w.heap.size (lnkObj ⟨d0, d1, v0, v1, lo, se, cs⟩ x n c))) (fun ki _ => n - (intOf ki).toNat)
        case atStart => exact ⟨0, by omega, rfl, Lib.hid (fun j q h => by omega), HB3, HO3⟩
        clear HB3 HO3
        case round =>
          obtain ⟨i, hi, rfl, HG, HB, HO⟩ := hrel
          by_cases hin : i < n
          · have hiw : IntKind.i64.wrap ((i : Int) + 1) = (i : Int) + 1 := i64_wrap_eq ⟨by omega, by omega⟩
            obtain ⟨a, q, hxa, hab, hzk, wk, wa, wb, hcells⟩ := HD.out.at' (show i < cs.length by have := (show cs.length = _ from HLN.out); omega)
            obtain ⟨z0, z1, z2⟩ := hcells wr HB.out
            obtain ⟨qk, qa, qb⟩ := q
            simp only at z0 z1 z2 wk wa wb hzk
            subst hxa
            have hwr : w.heap.size ≤ wr.heap.size := HB.out.size
            obtain ⟨b1, hb1⟩ : ∃ b, wr.heap.size = b := ⟨_, rfl⟩
            obtain ⟨X1, hX1⟩ : ∃ X, X = wr.alloc (.cells #[.int .i64 qk, .int .i64 qa, .int .i64 qb] 77) := ⟨_, rfl⟩
            have hbx1 : Below wr.heap.size wr X1 := by rw [hX1]; exact (Below.refl _ _).alloc (Nat.le_refl _) _
            have hx1 : X1.heap.size = b1 + 1 := by rw [hX1, ← hb1]; simp
            have ho1 : ObAt X1 b1 (.cells #[.int .i64 qk, .int .i64 qa, .int .i64 qb] 77) := by rw [← hb1]; exact ObAt.lay hX1
            obtain ⟨d10, d11, d12⟩ := ho1.tri
            rw [hX1] at d10 d11 d12
            have HB4 := Lib.hid (HB.out.trans (hbx1.mono hwr))
            have HO4 := Lib.hid (HO.out.below hbx1)
            have HC4 := Lib.hid ho1
            have HX1 := Lib.hid hX1
            have HZK := Lib.hid hzk
            clear hcells hzk hX1 hbx1 ho1
            go_wp2_with (fail)
            rw [← HX1.out]
            refine (in_bool _ _ _ _).mono ?_
            rintro e w5 ⟨⟨r1, rfl, hr1⟩, hb5⟩
            have hs5 := hb5.size
            have hc5 := HC4.out.below hb5
            obtain ⟨e10, e11, e12⟩ := hc5.tri
            have HB5 := Lib.hid (HB4.out.trans (hb5.mono (by omega)))
            have HO5 := Lib.hid (HO4.out.below hb5)
            have HC5 := Lib.hid hc5
            clear hb5 hc5
            cases r1 with
            | false =>
              have HNG := Lib.hid (show ¬ Good ⟨d0, d1, v0, v1, lo, se, cs⟩ from fun q => by
                have := hr1.2 ⟨(q.2.2.2.1 _ (List.mem_of_getElem? HZK.out)).1, by omega, by omega⟩; cases this)
              clear hr1
              go_wp2_with (fail)
              go_ret
              exact ⟨⟨3, rfl, HFAIL.out 3 (by omega) HNG.out⟩, HB5.out⟩
            | true =>
              have HR4 := Lib.hid (hr1.1 rfl).1
              clear hr1
              go_wp2_with (fail)
              refine (in_bool _ _ _ _).mono ?_
              rintro e w6 ⟨⟨r2, rfl, hr2⟩, hb6⟩
              have hs6 := hb6.size
              have hc6 := HC5.out.below hb6
              obtain ⟨e20, e21, e22⟩ := hc6.tri
              have HB6 := Lib.hid (HB5.out.trans (hb6.mono (by omega)))
              have HO6 := Lib.hid (HO5.out.below hb6)
              clear hb6 hc6
              cases r2 with
              | false =>
                have HNG := Lib.hid (show ¬ Good ⟨d0, d1, v0, v1, lo, se, cs⟩ from fun q => by
                  have := hr2.2 ⟨(q.2.2.2.1 _ (List.mem_of_getElem? HZK.out)).2.1, by omega, by omega⟩; cases this)
                clear hr2
                go_wp2_with (fail)
                go_ret
                exact ⟨⟨3, rfl, HFAIL.out 3 (by omega) HNG.out⟩, HB6.out⟩
              | true =>
                have HR5 := Lib.hid (hr2.1 rfl).1
                clear hr2
                go_wp2_with (fail)
                refine (in_bool _ _ _ _).mono ?_
                rintro e w7 ⟨⟨r3, rfl, hr3⟩, hb7⟩
                have hs7 := hb7.size
                have HB7 := Lib.hid (HB6.out.trans (hb7.mono (by omega)))
                have HO7 := Lib.hid (HO6.out.below hb7)
                clear hb7
                cases r3 with
                | false =>
                  have HNG := Lib.hid (show ¬ Good ⟨d0, d1, v0, v1, lo, se, cs⟩ from fun q => by
                    have := hr3.2 ⟨(q.2.2.2.1 _ (List.mem_of_getElem? HZK.out)).2.2, by omega, by omega⟩; cases this)
                  clear hr3
                  go_wp2_with (fail)
                  go_ret
                  exact ⟨⟨3, rfl, HFAIL.out 3 (by omega) HNG.out⟩, HB7.out⟩
                | true =>
                  have HR6 := Lib.hid (hr3.1 rfl).1
                  clear hr3
                  go_wp2_with (fail)
                  go_roundw
                  case rel => exact ⟨i + 1, by omega, by go_num, Lib.hid (fun j q h1 h2 => by
                    by_cases e : j = i
                    · subst e
                      have e2 : (⟨qk, qa, qb⟩ : Deed) = q := by have := HZK.out; rw [h2] at this; exact (Option.some.inj this).symm
                      rw [← e2]
                      exact ⟨HR4.out, HR5.out, HR6.out⟩
                    · exact HG.out j q (by omega) h2), HB7, HO7⟩
                  case measure => simp [intOf]; omega
          · obtain rfl : i = n := by omega
            have HALL := Lib.hid (show ∀ q ∈ cs, GoodC q from fun q hq => by
              obtain ⟨j, hj, e⟩ := List.mem_iff_getElem.1 hq
              exact HG.out j q (by have := (show cs.length = _ from HLN.out); omega) (by rw [← e]; exact List.getElem?_eq_getElem hj))
            obtain ⟨b0, b1, b2, b3, b4, b5, b6⟩ := ob7 HO.out
            clear hin HG
            by_cases h16 : 16 < i
            · have HNG := Lib.hid (show ¬ Good ⟨d0, d1, v0, v1, lo, se, cs⟩ from fun q => by
                have := (show cs.length ≤ 16 from q.2.2.2.2.1); have h2 := (show cs.length = _ from HLN.out); omega)
              have h16' : (16 : Int) < i := by omega
              go_wp2_with (fail)
              go_ret
              exact ⟨⟨6, rfl, HFAIL.out 6 (by omega) HNG.out⟩, HB.out⟩
            · have h16' : ¬ (16 : Int) < i := by omega
              go_wp2_with (fail)
              have HBW := HB
              have HOW := HO
              go_loopw [5] (fun ki wr2 => ∃ (j : Nat), 1 ≤ j ∧ j ≤ i + 1 ∧ ki = .int .i64 j ∧ Hid (∀ t a b, t + 1 < j → cs[t]? = some a → cs[t + 1]? = some b → a.k ≤ b.k) ∧ Hid (Below w.heap.size w wr2) ∧ Hid (ObAt wr2 w.heap.size (lnkObj ⟨d0, d1, v0, v1, lo, se, cs⟩ x i c))) (fun ki _ => i + 1 - (intOf ki).toNat)
              case atStart => exact ⟨1, by omega, by omega, rfl, Lib.hid (fun t a b h => by omega), HBW, HOW⟩
              clear HBW HOW HB HO b0 b1 b2 b3 b4 b5 b6
              case round =>
                obtain ⟨j, hj1, hj2, rfl, HS, HB, HO⟩ := hrel
                rename_i wr2
                obtain ⟨b0, b1, b2, b3, b4, b5, b6⟩ := ob7 HO.out
                have hjw : IntKind.i64.wrap ((j : Int) + 1) = (j : Int) + 1 := i64_wrap_eq ⟨by omega, by omega⟩
                have hjm : IntKind.i64.wrap ((j : Int) - 1) = ((j - 1 : Nat) : Int) := by rw [show (j : Int) - 1 = ((j - 1 : Nat) : Int) by omega]; exact i64_wrap_eq ⟨by omega, by omega⟩
                by_cases hji : j < i
                · obtain ⟨a, q, hxa, hab, hzk, wk, wa, wb, hcells⟩ := HD.out.at' (show j < cs.length by have := (show cs.length = _ from HLN.out); omega)
                  obtain ⟨a', q', hxa', hab', hzk', wk', wa', wb', hcells'⟩ := HD.out.at' (show j - 1 < cs.length by have := (show cs.length = _ from HLN.out); omega)
                  have z0 := (hcells _ HB.out).1
                  have y0 := (hcells' _ HB.out).1
                  subst hxa
                  obtain rfl : a = a' := by simpa using hxa'
                  obtain ⟨t, ht⟩ : ∃ t, q.k = t := ⟨_, rfl⟩
                  obtain ⟨t', ht'⟩ : ∃ t, q'.k = t := ⟨_, rfl⟩
                  rw [ht] at z0
                  rw [ht'] at y0
                  have HT := Lib.hid ht
                  have HT' := Lib.hid ht'
                  have HZ := Lib.hid hzk
                  have HZ' := Lib.hid hzk'
                  clear hcells hcells' hzk hzk' ht ht' hxa' wk wa wb wk' wa' wb'
                  by_cases hlt : t < t'
                  · have HNG := Lib.hid (show ¬ Good ⟨d0, d1, v0, v1, lo, se, cs⟩ from fun q2 => by
                      have := q2.2.2.2.2.2 (j - 1) q' q HZ'.out (by rw [show j - 1 + 1 = j by omega]; exact HZ.out)
                      have e1 := HT.out
                      have e2 := HT'.out
                      omega)
                    go_wp2_with (fail)
                    go_quiet (fail)
                    have HB8 := Lib.hid (HB.out.trans ((below_drewN (Below.refl _ _) nq).mono HB.out.size))
                    go_wp2_with (fail)
                    go_ret
                    exact ⟨⟨12, rfl, HFAIL.out 12 (by omega) HNG.out⟩, HB8.out⟩
                  · go_wp2_with (fail)
                    go_quiet (fail)
                    have HB8 := Lib.hid (HB.out.trans ((below_drewN (Below.refl _ _) nq).mono HB.out.size))
                    have HO8 := Lib.hid (HO.out.below (below_drewN (Below.refl _ _) nq))
                    go_wp2_with (fail)
                    go_roundw
                    case rel => exact ⟨j + 1, by omega, by omega, by go_num, Lib.hid (fun t a b h1 h2 h3 => by
                      by_cases e : t + 1 = j
                      · have hz := HZ.out
                        have hz' := HZ'.out
                        have e1 := HT.out
                        have e2 := HT'.out
                        rw [e] at h3
                        rw [show j - 1 = t by omega] at hz'
                        rw [h3] at hz
                        rw [h2] at hz'
                        have f1 := Option.some.inj hz
                        have f2 := Option.some.inj hz'
                        rw [f1, f2]
                        omega
                      · exact HS.out t a b (by omega) h2 h3), HB8, HO8⟩
                    case measure => simp [intOf]; omega
                · have HGD := Lib.hid (show Good ⟨d0, d1, v0, v1, lo, se, cs⟩ from ⟨HR1.out, HR2.out, HR3.out, HALL.out, by have := (show cs.length = _ from HLN.out); show cs.length ≤ 16; omega, fun t a b h2 h3 => HS.out t a b (by
                      have := List.getElem?_eq_some_iff.1 h3
                      obtain ⟨h4, _⟩ := this
                      have := (show cs.length = _ from HLN.out)
                      have h5 := (show t + 1 < cs.length from h4)
                      omega) h2 h3⟩)
                  go_wp2_with (fail)
                  go_ret
                  exact ⟨⟨0, rfl, ⟨fun _ => HGD.out, fun _ => rfl⟩⟩, HB.out⟩
end Go.Proofs.Ytknoigleejbjdaa
