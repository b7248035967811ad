/- The law AgendaOnce. -/
import Derived.Test.YtknoigleejbjdaaAgOa
namespace Go.Proofs.Ytknoigleejbjdaa
open Go.RowKit
set_option linter.unusedVariables false
set_option linter.unusedSimpArgs false

theorem St.push_no {s : St} {t item r : Int} (h : s.err t = r) (hr : r ≠ 0) : s.push t item = ⟨s.lim, s.now, s.p, s.N + 10000, s.l⟩ ∧ s.id t = 0 := by
  unfold St.err at h
  unfold St.push St.id pushP pushL pushId
  rw [if_neg (by omega), if_neg (by omega), if_neg (by omega)]
  exact ⟨rfl, rfl⟩
/-- what holds ahead of each round of AgendaOnce: k rounds, p pushed, L open, the row in block g -/
def OS (w : World) (lim : Int) (k p L c g : Nat) (now : Int) (wr : World) : Prop :=
  ∃ (N : Nat) (l : List Ev) (f : Nat → Bool), l.length = L ∧ N ≤ k * 10000 ∧ p ≤ k ∧ OI p l f ∧ QT w.heap.size (fun b => b = g) wr w.heap.size ⟨lim, now, p, N, l⟩ ∧ BRow w.heap.size wr g (p + 1) c f ∧ Below w.heap.size w wr
theorem OS.len {w : World} {lim : Int} {k p L c g : Nat} {now : Int} {wr : World} (h : OS w lim k p L c g now wr) : Calls Try.prog 15 #[.pointer (some ⟨w.heap.size, 0, none⟩)] wr fun r w' => r = .returned (.int .i64 (L : Int)) ∧ Below wr.heap.size wr w' := by
  obtain ⟨N, l, f, hl, _, _, _, hq, _, _⟩ := h
  have := QO.len hq
  simp only at this
  rw [hl] at this
  exact this
theorem OS.below {w : World} {lim : Int} {k p L c g : Nat} {now : Int} {wr w' : World} (h : OS w lim k p L c g now wr) (hb : Below wr.heap.size wr w') : OS w lim k p L c g now w' := by
  obtain ⟨N, l, f, hl, h1, h2, h3, h4, h5, h6⟩ := h
  exact ⟨N, l, f, hl, h1, h2, h3, QO.below h4 hb, h5.below hb, h6.trans (hb.mono h6.size)⟩
/-- the first row -/
theorem first_row {B : Nat} {w X : World} (hX : X = w.alloc (.cells #[.bool false] 4)) (hB : B ≤ w.heap.size) : BRow B X w.heap.size 1 1 (fun _ => false) := by
  refine ⟨rfl, .inr ⟨w.heap.size, 1, #[.bool false], rfl, hB, ?_, Nat.le_refl _, by unfold maxLen; omega, rfl, rfl⟩⟩
  rw [hX]; exact heap_alloc_new _ _
/-- the row has grown -/
theorem BRow.app {B : Nat} {w' : World} {n : Nat} {f : Nat → Bool} {v' : Value} (h : w'.ownsRow B 4 1 v' (n + 1) (bits f n ++ [.bool true])) : ∃ g' c', v' = .slice (some ⟨g', 0, none⟩) (n + 1) c' ∧ BRow B w' g' (n + 1) c' (upB f n true) := by
  rw [bits_app] at h
  rcases h.2 with ⟨_, q⟩ | ⟨g', c', cur, rfl, _⟩
  · omega
  · exact ⟨g', c', rfl, h⟩

set_option maxHeartbeats 16000000 in
set_option maxRecDepth 100000 in
theorem AgendaOnce_walk (v0 v1 : Value) (w : World) (h0 : IsInt .u8 w v0) (h1 : IsDeeds w v1) :
    Calls Try.prog 5 #[v0, v1] w fun e w' => e = .returned (.bool true) ∧ Below w.heap.size w w' := by
  obtain ⟨v, rfl, hwf⟩ := h0
  obtain ⟨x, n, c, ds, rfl, hD, hl, hnc, hc, hx⟩ := h1
  obtain ⟨v0, v1⟩ := wf_u8 hwf
  have hwv : IntKind.i64.wrap v = v := i64_wrap_eq ⟨by omega, by omega⟩
  obtain ⟨lim, hlim⟩ : ∃ lim, v % 20 + 1 = lim := ⟨_, rfl⟩
  have hl1 : 1 ≤ lim := by omega
  have hl2 : lim ≤ 20 := by omega
  have HD := Lib.hid hD
  have HF := Lib.hid (fun w => first_any x n c w hnc hc hx)
  obtain ⟨m, hm⟩ : ∃ m, min n 300 = m := ⟨_, rfl⟩
  have hmn : m ≤ n := by omega
  have hm3 : m ≤ 300 := by omega
  rw [hm] at HF
  have HN := Lib.hid (new_QO w.heap.size (fun _ => False) lim w hl1 (by omega) (Nat.le_refl _) (fun _ h => h.elim))
  clear hD hx hwf hm
  go_enter Try.func5, Try.ntmps5
  go_wp2_with (fail)
  refine HN.out.mono ?_
  rintro e w1 ⟨rfl, hb1, hq1⟩
  have hs1 := hb1.size
  obtain ⟨X2, hX2⟩ : ∃ X, X = w1.alloc (.cells #[.bool false] 4) := ⟨_, rfl⟩
  have hbx2 : Below w1.heap.size w1 X2 := by rw [hX2]; exact (Below.refl _ _).alloc (Nat.le_refl _) _
  have HO2 := Lib.hid (show OS w lim 0 0 0 1 w1.heap.size 0 X2 from ⟨0, [], fun _ => false, rfl, Nat.le_refl _, Nat.le_refl _, fun j hj => by simp, QO.lay hq1 hX2 (fun b q => .inr q), first_row hX2 hs1, hb1.trans (hbx2.mono hs1)⟩)
  have HX2 := Lib.hid hX2
  clear hb1 hq1 hX2 hbx2
  go_wp2_with (fail)
  rw [← HX2.out]
  refine (HF.out _).mono ?_
  rintro e w3 ⟨rfl, rfl⟩
  go_wp2_with (fail)
  go_loopw [7, 8, 9, 30] (fun ov mv tv ki wr => ∃ (k p L c g : Nat) (now : Int), k ≤ m ∧ ki = .int .i64 k ∧ ov = .slice (some ⟨g, 0, none⟩) (p + 1) c ∧ mv = .int .i64 L ∧ tv = .int .i64 now ∧ p ≤ k ∧ L ≤ 20 ∧ Hid (OS w lim k p L c g now wr)) (fun _ _ _ ki _ => m - (intOf ki).toNat)
  case atStart => exact ⟨0, 0, 0, 1, w1.heap.size, 0, by omega, rfl, rfl, rfl, rfl, by omega, by omega, HO2⟩
  clear HO2 HX2
  case round =>
    obtain ⟨k, p, L, cc, g, now, hk, rfl, rfl, rfl, rfl, hpk, hL20, HOS⟩ := hrel
    have hkw : IntKind.i64.wrap ((k : Int) + 1) = (k : Int) + 1 := i64_wrap_eq ⟨by omega, by omega⟩
    have hLw : IntKind.i64.wrap ((L : Int) + 1) = (L : Int) + 1 := i64_wrap_eq ⟨by omega, by omega⟩
    by_cases hkm : k < m
    · obtain ⟨N, l, f, hlL, hN, _, hOI, hQ, hR, hB⟩ := HOS.out
      obtain ⟨q1, q2, q3, q4, q5⟩ := hQ.facts
      simp only at q1 q2 q3 q4 q5
      obtain ⟨a, q, hxa, hab, hzk, wk, wa, wb, hcells⟩ := HD.out.at' (show k < ds.length by omega)
      obtain ⟨z0, z1, z2⟩ := hcells wr hB
      obtain ⟨dk, da, db⟩ := q
      simp only at z0 z1 z2 wk wa wb
      obtain ⟨hgB, hgs⟩ := hR.lt
      obtain ⟨b1, hb1⟩ : ∃ b, wr.heap.size = b := ⟨_, rfl⟩
      obtain ⟨X1, hX1⟩ : ∃ X, X = wr.alloc (.cells #[.int .i64 dk, .int .i64 da, .int .i64 db] 41) := ⟨_, rfl⟩
      have hx1 : X1.heap.size = b1 + 1 := by rw [hX1, ← hb1]; simp
      have hbx1 : Below wr.heap.size wr X1 := by rw [hX1]; exact (Below.refl _ _).alloc (Nat.le_refl _) _
      have HQ1 := Lib.hid (show QT w.heap.size (fun b => b = g ∨ b = b1) X1 w.heap.size ⟨lim, now, p, N, l⟩ from QO.lay hQ hX1 (fun b q => q.imp id (fun q => q.trans hb1.symm)))
      have HB1 := Lib.hid (hB.trans (hbx1.mono hB.size))
      have HR1 := Lib.hid (hR.below hbx1)
      have ho1 : ObAt X1 b1 (.cells #[.int .i64 dk, .int .i64 da, .int .i64 db] 41) := by rw [← hb1]; exact ObAt.lay hX1
      obtain ⟨d10, d11, d12⟩ := ho1.tri
      rw [hX1] at d10 d11 d12
      have hwB : w.heap.size ≤ X1.heap.size := HB1.out.size
      have hlim : (L : Int) ≤ lim := by rw [← hlL]; exact q4
      have HX1 := Lib.hid hX1
      have HO1 := Lib.hid ho1
      have HOI := Lib.hid hOI
      have HLL := Lib.hid hlL
      have HNN := Lib.hid hN
      have HQ1F := Lib.hid q1
      have HQ2F := Lib.hid q2
      have HQ3F := Lib.hid q3
      have hgX : g < X1.heap.size := by omega
      have hgb1 : g ≠ b1 := by omega
      have hfew : St.few ⟨lim, now, p, N, l⟩ k := ⟨hpk, hN⟩
      have HFEW := Lib.hid hfew
      clear hX1 hbx1 ho1 hQ hR hB hOI hlL hN q1 q2 q3 q4 hcells hzk hfew
      subst hxa
      by_cases k0 : dk = 0
      · subst k0
        -- a push that is refused
        have HREF := Lib.hid (show ∀ r : Int, r ≠ 0 → St.err ⟨lim, now, p, N, l⟩ da = r → Calls Try.prog 13 #[.pointer (some ⟨w.heap.size, 0, none⟩), .int .i64 da, .int .i64 db] X1 fun e w' => e = .returned (.tuple #[.int .i64 0, .int .i64 r]) ∧ OS w lim (k + 1) p L cc g now w' from fun r hr he => by
          obtain ⟨p1, p2⟩ := St.push_no (item := db) he hr
          have hd := does_push (B := w.heap.size) (Q := w.heap.size) (w := X1) (s := ⟨lim, now, p, N, l⟩) HFEW.out (by omega) da db (fun b => b = g ∨ b = b1) (fun b q => by omega) HQ1.out
          rw [p1, p2, he] at hd
          refine hd.mono ?_
          rintro e w' ⟨rfl, hq, hk'⟩
          exact ⟨rfl, N + 10000, l, f, HLL.out, by have := HNN.out; omega, by omega, HOI.out, QO.grow hq (fun b q => .inl (.inl q)), HR1.out.keep hk' (fun q => q.2 (.inl rfl)), HB1.out.trans (hk'.low hwB)⟩)
        by_cases e1 : da < 0
        · have HC := Lib.hid (HREF.out 3 (by omega) (by show pushErr lim now l.length da = 3; unfold pushErr; rw [if_pos e1]))
          go_wp2_with (fail)
          rw [← HX1.out]
          refine HC.out.mono ?_
          rintro ee w5 ⟨rfl, hos⟩
          have HOS5 := Lib.hid hos
          clear hos
          have HCL := Lib.hid (OS.len HOS5.out)
          go_wp2_with (fail)
          refine HCL.out.mono ?_
          rintro ee w9 ⟨rfl, hb9⟩
          have HO9 := Lib.hid (OS.below HOS5.out hb9)
          clear hb9
          go_wp2_with (fail)
          go_roundw
          case rel => exact ⟨k + 1, p, L, cc, g, now, by omega, by go_num, by go_num, by go_num, by go_num, by omega, by omega, HO9⟩
          case measure => simp [intOf]; omega
        · by_cases e2 : da < now
          · have HC := Lib.hid (HREF.out 12 (by omega) (by show pushErr lim now l.length da = 12; unfold pushErr; rw [if_neg e1, if_pos e2]))
            go_wp2_with (fail)
            rw [← HX1.out]
            refine HC.out.mono ?_
            rintro ee w5 ⟨rfl, hos⟩
            have HOS5 := Lib.hid hos
            clear hos
            have HCL := Lib.hid (OS.len HOS5.out)
            go_wp2_with (fail)
            refine HCL.out.mono ?_
            rintro ee w9 ⟨rfl, hb9⟩
            have HO9 := Lib.hid (OS.below HOS5.out hb9)
            clear hb9
            go_wp2_with (fail)
            go_roundw
            case rel => exact ⟨k + 1, p, L, cc, g, now, by omega, by go_num, by go_num, by go_num, by go_num, by omega, by omega, HO9⟩
            case measure => simp [intOf]; omega
          · by_cases e3 : (L : Int) = lim
            · have HC := Lib.hid (HREF.out 13 (by omega) (by show pushErr lim now l.length da = 13; unfold pushErr; rw [if_neg e1, if_neg e2, if_pos (by rw [HLL.out]; omega)]))
              go_wp2_with (fail)
              rw [← HX1.out]
              refine HC.out.mono ?_
              rintro ee w5 ⟨rfl, hos⟩
              have HOS5 := Lib.hid hos
              clear hos
              have HCL := Lib.hid (OS.len HOS5.out)
              go_wp2_with (fail)
              refine HCL.out.mono ?_
              rintro ee w9 ⟨rfl, hb9⟩
              have HO9 := Lib.hid (OS.below HOS5.out hb9)
              clear hb9
              go_wp2_with (fail)
              go_roundw
              case rel => exact ⟨k + 1, p, L, cc, g, now, by omega, by go_num, by go_num, by go_num, by go_num, by omega, by omega, HO9⟩
              case measure => simp [intOf]; omega
            · have hpe : St.err ⟨lim, now, p, N, l⟩ da = 0 := by show pushErr lim now l.length da = 0; unfold pushErr; rw [if_neg e1, if_neg e2, if_neg (by rw [HLL.out]; omega)]
              obtain ⟨p1, p2⟩ := St.push_ok (item := db) hpe
              have hd := does_push (B := w.heap.size) (Q := w.heap.size) (w := X1) (s := ⟨lim, now, p, N, l⟩) HFEW.out (by omega) da db (fun b => b = g ∨ b = b1) (fun b q => by omega) HQ1.out
              rw [p1, p2, hpe] at hd
              have HC := Lib.hid hd
              clear hd p1 p2 hpe
              go_wp2_with (fail)
              rw [← HX1.out]
              refine HC.out.mono ?_
              rintro ee w5 ⟨rfl, hq5, hk5⟩
              have hs5 := hk5.size
              obtain ⟨i0, hinf, hz0, hz1, hz2⟩ := info_parts infoBool
              have HQ5 := Lib.hid hq5
              have HR5 := Lib.hid (HR1.out.keep hk5 (fun q => q.2 (.inl rfl)))
              have HB5 := Lib.hid (HB1.out.trans (hk5.low hwB))
              clear hq5 hk5
              go_wp2_with (at_builtin; refine (fun (h : Hid _) => h.out) ?_)
              refine Lib.hid ?_
              obtain ⟨X5, hX5⟩ : ∃ X, X = w5.alloc (.cells #[.bool true] 4) := ⟨_, rfl⟩
              have hx5 : X5.heap.size = w5.heap.size + 1 := by rw [hX5]; simp
              have hbx5 : Below w5.heap.size w5 X5 := by rw [hX5]; exact (Below.refl _ _).alloc (Nat.le_refl _) _
              refine wpList_append_own_at _ rfl (.tmp 80) (.tmp 81) 36 rfl w.heap.size 4 i0 _ 1 1 Try.underlying36 hinf hz0 hz1 hz2 rfl (by omega) (.slice (some ⟨g, 0, none⟩) (p + 1) cc) (p + 1) (bits f (p + 1)) rfl (World.ownsRow.alloc HR5.out _) _ 1 1 [.bool true] rfl rfl (cell_one_new _ _ _) (by intro u hu; simp at hu; subst hu; rfl) (by unfold maxLen; omega) (by omega) (by simp; omega) ?_
              intro v' w6 hown6 hg6 hnil6 hat6
              obtain ⟨g', c', rfl, hrow6⟩ := BRow.app hown6
              have hg6' : X5.grownBy w6 (some g) := by rw [hX5]; exact hg6
              have hk6 : Keep (fun b => b = g) X5 w6 := grown_keep hg6' rfl
              have hat : g' = g ∨ g' = X5.heap.size := by
                rcases hat6 with q | q
                · exact .inl (Option.some.inj q)
                · right; rw [hX5]; exact Option.some.inj q
              have HOS6 := Lib.hid (show OS w lim (k + 1) (p + 1) (L + 1) c' g' now w6 from by
                refine ⟨N + 10000, l ++ [⟨da, ((p + 1 : Nat) : Int), db⟩], upB f (p + 1) true, by rw [List.length_append, HLL.out]; rfl, by have := HNN.out; omega, by omega, HOI.out.push HQ1F.out da db, ?_, hrow6, (HB5.out.trans (hbx5.mono (by omega))).trans (hk6.toBelow (fun q e => by rw [e]; exact hgB) (by omega))⟩
                have hq5x : QT w.heap.size (fun b => b = g ∨ b = w5.heap.size ∨ w5.heap.size < b) X5 w.heap.size ⟨lim, now, p + 1, N + 10000, l ++ [⟨da, ((p + 1 : Nat) : Int), db⟩]⟩ := QO.below (QO.grow HQ5.out (fun b q => by rcases q with q | q | q <;> omega)) hbx5
                refine QO.grow (QO.keep hq5x hk6 (fun b q => .inl q)) (fun b q => ?_)
                rw [q]
                rcases hat with e | e
                · exact .inl (.inl e)
                · exact .inl (.inr (.inr (by omega))))
              clear hX5 hbx5 hown6 hg6 hnil6 hat6 hrow6 hg6' hk6 hat
              have HCL := Lib.hid (OS.len HOS6.out)
              go_wp2_with (fail)
              refine HCL.out.mono ?_
              rintro ee w9 ⟨rfl, hb9⟩
              have HO9 := Lib.hid (OS.below HOS6.out hb9)
              clear hb9
              go_wp2_with (fail)
              go_roundw
              case rel => exact ⟨k + 1, p + 1, L + 1, c', g', now, by omega, by go_num, by go_num, by go_num, by go_num, by omega, by omega, HO9⟩
              case measure => simp [intOf]; omega
      · by_cases k1 : dk = 1
        · subst k1
          have HD1 := Lib.hid (does_pop (B := w.heap.size) (Q := w.heap.size) (w := X1) (s := ⟨lim, now, p, N, l⟩) HFEW.out (by omega) (fun b => b = g ∨ b = b1) (fun b q => by omega) HQ1.out)
          by_cases hle : l = []
          · subst hle
            obtain rfl : L = 0 := HLL.out.symm
            have HC := Lib.hid (show Calls Try.prog 14 #[.pointer (some ⟨w.heap.size, 0, none⟩)] X1 fun e w' => e = .returned (.tuple #[.agg #[.int .i64 0, .int .i64 0, .int .i64 0], .bool false]) ∧ QT w.heap.size (fun b => b = g ∨ b = b1) w' w.heap.size ⟨lim, now, p, N + 10000, []⟩ ∧ Keep (Mine w.heap.size (fun b => b = g ∨ b = b1)) X1 w' from HD1.out)
            clear HD1
            go_wp2_with (fail)
            rw [← HX1.out]
            refine HC.out.mono ?_
            rintro ee w5 ⟨rfl, hq5, hk5⟩
            have hs5 := hk5.size
            obtain ⟨X5, hX5⟩ : ∃ X, X = w5.alloc (.cells #[.int .i64 0, .int .i64 0, .int .i64 0] 30) := ⟨_, rfl⟩
            have hbx5 : Below w5.heap.size w5 X5 := by rw [hX5]; exact (Below.refl _ _).alloc (Nat.le_refl _) _
            have HOS6 := Lib.hid (show OS w lim (k + 1) p 0 cc g now X5 from ⟨N + 10000, [], f, rfl, by have := HNN.out; omega, by omega, HOI.out, QO.below (QO.grow hq5 (fun b q => .inl (.inl q))) hbx5, (HR1.out.keep hk5 (fun q => q.2 (.inl rfl))).below hbx5, (HB1.out.trans (hk5.low hwB)).trans (hbx5.mono (by omega))⟩)
            have HX5 := Lib.hid hX5
            clear hX5 hbx5 hq5 hk5
            go_wp2_with (fail)
            rw [← HX5.out]
            have HCL := Lib.hid (OS.len HOS6.out)
            go_wp2_with (fail)
            refine HCL.out.mono ?_
            rintro ee w9 ⟨rfl, hb9⟩
            have HO9 := Lib.hid (OS.below HOS6.out hb9)
            clear hb9
            go_wp2_with (fail)
            go_roundw
            case rel => exact ⟨k + 1, p, 0, cc, g, now, by omega, by go_num, by go_num, by go_num, by go_num, by omega, by omega, HO9⟩
            case measure => simp [intOf]; omega
          · obtain ⟨i, t, it, hi1, hip, p1, p2, p3, p4, p5, hnt, hfi, hoi, hpl⟩ := OI.pop (now := now) HOI.out HQ1F.out HQ2F.out HQ3F.out hle
            have hd := HD1.out
            unfold St.pop at hd
            simp only at hd
            rw [p1, p2, p3, p4, p5] at hd
            have HC := Lib.hid hd
            have hL0 : 0 < L := by rw [← HLL.out]; exact List.length_pos_iff.2 hle
            have hLm : IntKind.i64.wrap ((L : Int) - 1) = ((L - 1 : Nat) : Int) := by rw [show (L : Int) - 1 = ((L - 1 : Nat) : Int) by omega]; exact i64_wrap_eq ⟨by omega, by omega⟩
            have HPL := Lib.hid hpl
            have HOIP := Lib.hid hoi
            have HFI := Lib.hid hfi
            have n1 : ¬ (i : Int) < 1 := by omega
            have n2 : ¬ (p : Int) + 1 ≤ (i : Int) := by omega
            have n3 : ¬ t < now := by omega
            clear HD1 hd hle p1 p2 p3 p4 p5 hoi hpl hfi
            go_wp2_with (fail)
            rw [← HX1.out]
            refine HC.out.mono ?_
            rintro ee w5 ⟨rfl, hq5, hk5⟩
            have hs5 := hk5.size
            obtain ⟨b5, hb5e⟩ : ∃ b, w5.heap.size = b := ⟨_, rfl⟩
            obtain ⟨X5, hX5⟩ : ∃ X, X = w5.alloc (.cells #[.int .i64 t, .int .i64 i, .int .i64 it] 30) := ⟨_, rfl⟩
            have hbx5 : Below w5.heap.size w5 X5 := by rw [hX5]; exact (Below.refl _ _).alloc (Nat.le_refl _) _
            have hR5 := (HR1.out.keep hk5 (fun q => q.2 (.inl rfl))).below hbx5
            obtain ⟨s50, s51⟩ := hR5.cell (show i < p + 1 by omega)
            rw [HFI.out] at s50
            have ho5 : ObAt X5 b5 (.cells #[.int .i64 t, .int .i64 i, .int .i64 it] 30) := by rw [← hb5e]; exact ObAt.lay hX5
            obtain ⟨g50, g51, g52⟩ := ho5.tri
            have hgb5 : g ≠ b5 := by omega
            have hgb5' : b5 ≠ g := by omega
            have HOS6 := Lib.hid (show OS w lim (k + 1) p (L - 1) cc g t (X5.setCell ⟨g, i, none⟩ (.bool false)) from by
              refine ⟨N + 10000, popL l, upB f i false, by rw [HPL.out, HLL.out], by have := HNN.out; omega, by omega, HOIP.out, ?_, hR5.set (by omega) false, ?_⟩
              · exact QO.keep (QO.below (QO.grow hq5 (fun b q => .inl (.inl q))) hbx5) (keep_set (fun b => b = g) g i (.bool false) X5 rfl) (fun b q => q)
              · exact ((HB1.out.trans (hk5.low hwB)).trans (hbx5.mono (by omega))).setCell hgB _)
            rw [hX5] at s50 s51 g50 g51 g52
            have HX5 := Lib.hid hX5
            clear hX5 hbx5 hq5 hk5 hR5 ho5
            go_wp2_with (fail)
            rw [← HX5.out]
            have HCL := Lib.hid (OS.len HOS6.out)
            go_wp2_with (fail)
            refine HCL.out.mono ?_
            rintro ee w9 ⟨rfl, hb9⟩
            have HO9 := Lib.hid (OS.below HOS6.out hb9)
            clear hb9
            go_wp2_with (fail)
            go_roundw
            case rel => exact ⟨k + 1, p, L - 1, cc, g, t, by omega, by go_num, by go_num, by go_num, by go_num, by omega, by omega, HO9⟩
            case measure => simp [intOf]; omega
        · by_cases k3 : dk = 3
          · subst k3
            have HCC := Lib.hid (does_cancel (B := w.heap.size) (Q := w.heap.size) (w := X1) (s := ⟨lim, now, p, N, l⟩) HFEW.out (by omega) da wa (fun b => b = g ∨ b = b1) (fun b q => by omega) HQ1.out)
            -- a cancel that finds nothing
            have HNO := Lib.hid (show canOk l da = false → canL l da = l → Calls Try.prog 18 #[.pointer (some ⟨w.heap.size, 0, none⟩), .int .i64 da] X1 fun e w' => e = .returned (.bool false) ∧ OS w lim (k + 1) p L cc g now w' from fun h1 h2 => by
              have hd := HCC.out
              unfold St.cancel at hd
              simp only at hd
              rw [h1, h2] at hd
              refine hd.mono ?_
              rintro e w' ⟨rfl, hq, hk'⟩
              exact ⟨rfl, N + 10000, l, f, HLL.out, by have := HNN.out; omega, by omega, HOI.out, QO.grow hq (fun b q => .inl (.inl q)), HR1.out.keep hk' (fun q => q.2 (.inl rfl)), HB1.out.trans (hk'.low hwB)⟩)
            by_cases c1 : da < 1
            · obtain ⟨x1, x2⟩ := canOk_out HQ1F.out (.inl c1)
              have HC := Lib.hid (HNO.out x1 x2)
              have c1' : ¬ 1 ≤ da := by omega
              clear x1 x2
              go_wp2_with (fail)
              rw [← HX1.out]
              refine HC.out.mono ?_
              rintro ee w5 ⟨rfl, hos⟩
              have HOS5 := Lib.hid hos
              clear hos
              have HCL := Lib.hid (OS.len HOS5.out)
              go_wp2_with (fail)
              refine HCL.out.mono ?_
              rintro ee w9 ⟨rfl, hb9⟩
              have HO9 := Lib.hid (OS.below HOS5.out hb9)
              clear hb9
              go_wp2_with (fail)
              go_roundw
              case rel => exact ⟨k + 1, p, L, cc, g, now, by omega, by go_num, by go_num, by go_num, by go_num, by omega, by omega, HO9⟩
              case measure => simp [intOf]; omega
            · by_cases c2 : (p : Int) + 1 ≤ da
              · obtain ⟨x1, x2⟩ := canOk_out HQ1F.out (.inr (show (p : Int) < da by omega))
                have HC := Lib.hid (HNO.out x1 x2)
                have c1' : 1 ≤ da := by omega
                have c2' : ¬ da < (p : Int) + 1 := by omega
                clear x1 x2
                go_wp2_with (fail)
                rw [← HX1.out]
                refine HC.out.mono ?_
                rintro ee w5 ⟨rfl, hos⟩
                have HOS5 := Lib.hid hos
                clear hos
                have HCL := Lib.hid (OS.len HOS5.out)
                go_wp2_with (fail)
                refine HCL.out.mono ?_
                rintro ee w9 ⟨rfl, hb9⟩
                have HO9 := Lib.hid (OS.below HOS5.out hb9)
                clear hb9
                go_wp2_with (fail)
                go_roundw
                case rel => exact ⟨k + 1, p, L, cc, g, now, by omega, by go_num, by go_num, by go_num, by go_num, by omega, by omega, HO9⟩
                case measure => simp [intOf]; omega
              · obtain ⟨i, rfl⟩ : ∃ i : Nat, da = i := ⟨da.toNat, by omega⟩
                have hip : i ≤ p := by omega
                have c1' : (1 : Int) ≤ (i : Int) := by omega
                have c2' : (i : Int) < (p : Int) + 1 := by omega
                obtain ⟨s10, s11⟩ := HR1.out.cell (show i < p + 1 by omega)
                cases hfi : f i with
                | false =>
                  have HC := Lib.hid (HNO.out (by rw [OI.ok HOI.out hip]; exact hfi) (OI.not HOI.out hip hfi))
                  rw [hfi, HX1.out] at s10
                  rw [HX1.out] at s11
                  clear hfi
                  go_wp2_with (fail)
                  rw [← HX1.out]
                  refine HC.out.mono ?_
                  rintro ee w5 ⟨rfl, hos⟩
                  have HOS5 := Lib.hid hos
                  clear hos
                  have HCL := Lib.hid (OS.len HOS5.out)
                  go_wp2_with (fail)
                  refine HCL.out.mono ?_
                  rintro ee w9 ⟨rfl, hb9⟩
                  have HO9 := Lib.hid (OS.below HOS5.out hb9)
                  clear hb9
                  go_wp2_with (fail)
                  go_roundw
                  case rel => exact ⟨k + 1, p, L, cc, g, now, by omega, by go_num, by go_num, by go_num, by go_num, by omega, by omega, HO9⟩
                  case measure => simp [intOf]; omega
                | true =>
                  obtain ⟨x1, x2, x3⟩ := OI.can HOI.out HQ2F.out hip hfi
                  have hd := HCC.out
                  unfold St.cancel at hd
                  simp only at hd
                  rw [OI.ok HOI.out hip, hfi] at hd
                  have HC := Lib.hid hd
                  have HX1L := Lib.hid x1
                  have HX2L := Lib.hid x2
                  have hL0 : 0 < L := by rw [← HLL.out]; exact x3
                  have hLm : IntKind.i64.wrap ((L : Int) - 1) = ((L - 1 : Nat) : Int) := by rw [show (L : Int) - 1 = ((L - 1 : Nat) : Int) by omega]; exact i64_wrap_eq ⟨by omega, by omega⟩
                  rw [hfi, HX1.out] at s10
                  rw [HX1.out] at s11
                  clear hfi hd x1 x2 x3
                  go_wp2_with (fail)
                  rw [← HX1.out]
                  refine HC.out.mono ?_
                  rintro ee w5 ⟨rfl, hq5, hk5⟩
                  have hs5 := hk5.size
                  have hR5 := HR1.out.keep hk5 (fun q => q.2 (.inl rfl))
                  obtain ⟨s50, s51⟩ := hR5.cell (show i < p + 1 by omega)
                  obtain ⟨e10, e11, e12⟩ := (HO1.out.keep hk5 (fun q => q.2 (.inr rfl))).tri
                  have hgb1' : b1 ≠ g := by omega
                  have HOS6 := Lib.hid (show OS w lim (k + 1) p (L - 1) cc g now (w5.setCell ⟨g, i, none⟩ (.bool false)) from by
                    refine ⟨N + 10000, canL l i, upB f i false, by rw [HX2L.out, HLL.out], by have := HNN.out; omega, by omega, HX1L.out, ?_, hR5.set (by omega) false, ?_⟩
                    · exact QO.keep (QO.grow hq5 (fun b q => .inl (.inl q))) (keep_set (fun b => b = g) g i (.bool false) w5 rfl) (fun b q => q)
                    · exact (HB1.out.trans (hk5.low hwB)).setCell hgB _)
                  clear hq5 hk5 hR5
                  go_wp2_with (fail)
                  have HCL := Lib.hid (OS.len HOS6.out)
                  go_wp2_with (fail)
                  refine HCL.out.mono ?_
                  rintro ee w9 ⟨rfl, hb9⟩
                  have HO9 := Lib.hid (OS.below HOS6.out hb9)
                  clear hb9
                  go_wp2_with (fail)
                  go_roundw
                  case rel => exact ⟨k + 1, p, L - 1, cc, g, now, by omega, by go_num, by go_num, by go_num, by go_num, by omega, by omega, HO9⟩
                  case measure => simp [intOf]; omega
          · have HOS6 := Lib.hid (show OS w lim (k + 1) p L cc g now X1 from ⟨N, l, f, HLL.out, by have := HNN.out; omega, by omega, HOI.out, QO.grow HQ1.out (fun b q => .inl (.inl q)), HR1.out, HB1.out⟩)
            go_wp2_with (fail)
            rw [← HX1.out]
            have HCL := Lib.hid (OS.len HOS6.out)
            go_wp2_with (fail)
            refine HCL.out.mono ?_
            rintro ee w9 ⟨rfl, hb9⟩
            have HO9 := Lib.hid (OS.below HOS6.out hb9)
            clear hb9
            go_wp2_with (fail)
            go_roundw
            case rel => exact ⟨k + 1, p, L, cc, g, now, by omega, by go_num, by go_num, by go_num, by go_num, by omega, by omega, HO9⟩
            case measure => simp [intOf]; omega
    · obtain rfl : k = m := by omega
      have HB := Lib.hid (show Below w.heap.size w wr from by obtain ⟨_, _, _, _, _, _, _, _, _, h⟩ := HOS.out; exact h)
      have hB := HB.out.size
      clear hkm
      go_wp2_with (fail)
      refine (awake_true _).mono ?_
      rintro e w6 ⟨rfl, hb6⟩
      have HB6 := Lib.hid (HB.out.trans (hb6.mono hB))
      clear hb6
      go_wp2_with (fail)
      go_ret
      exact ⟨rfl, HB6.out⟩
end Go.Proofs.Ytknoigleejbjdaa
