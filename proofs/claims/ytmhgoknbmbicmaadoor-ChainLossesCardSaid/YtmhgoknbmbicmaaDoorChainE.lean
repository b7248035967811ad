/- What Hear does. -/
import Derived.Test.YtmhgoknbmbicmaaDoorChainD
import Derived.Deep.RegionLaw
namespace Go.Proofs.YtmhgoknbmbicmaaDoor
open Go.RowKit
set_option linter.unusedVariables false
set_option linter.unusedSimpArgs false

theorem i64_wrap_eq {x : Int} (h : -9223372036854775808 ≤ x ∧ x ≤ 9223372036854775807) : IntKind.i64.wrap x = x := by rw [IntKind.wrap_i64]; omega
theorem five_step {w w' : World} {B R C : Nat} {st sp de co hi : Int} (hb : Below B w w') (hR : R < B) (hC : C < B)
    (h : w.cell? ⟨R, 0, none⟩ = some (.int .i64 st) ∧ w.cell? ⟨R, 1, none⟩ = some (.int .i64 sp) ∧ w.cell? ⟨R, 2, none⟩ = some (.int .i64 de) ∧ w.cell? ⟨R, 3, none⟩ = some (.int .i64 co) ∧ w.cell? ⟨C, 1, none⟩ = some (.int .i64 hi)) :
    w'.cell? ⟨R, 0, none⟩ = some (.int .i64 st) ∧ w'.cell? ⟨R, 1, none⟩ = some (.int .i64 sp) ∧ w'.cell? ⟨R, 2, none⟩ = some (.int .i64 de) ∧ w'.cell? ⟨R, 3, none⟩ = some (.int .i64 co) ∧ w'.cell? ⟨C, 1, none⟩ = some (.int .i64 hi) := by
  obtain ⟨h0, h1, h2, h3, h4⟩ := h
  exact ⟨by rw [hb.cell (by exact hR)]; exact h0, by rw [hb.cell (by exact hR)]; exact h1, by rw [hb.cell (by exact hR)]; exact h2, by rw [hb.cell (by exact hR)]; exact h3, by rw [hb.cell (by exact hC)]; exact h4⟩

theorem two_step {w w' : World} {B R : Nat} {v : Value} (hb : Below B w w') (hR : R < B) (h : w.cell? ⟨R, 135, none⟩ = some v ∧ w.frozen? ⟨R, 135, none⟩ = false) : w'.cell? ⟨R, 135, none⟩ = some v ∧ w'.frozen? ⟨R, 135, none⟩ = false :=
  ⟨by rw [hb.cell (by exact hR)]; exact h.1, by rw [hb.frozen (by exact hR)]; exact h.2⟩
theorem two_alloc {w : World} {R : Nat} {v : Value} (o : Obj) (hR : R < w.heap.size) (h : w.cell? ⟨R, 135, none⟩ = some v ∧ w.frozen? ⟨R, 135, none⟩ = false) : (w.alloc o).cell? ⟨R, 135, none⟩ = some v ∧ (w.alloc o).frozen? ⟨R, 135, none⟩ = false :=
  two_step ((Below.refl _ _).alloc (Nat.le_refl _) o) hR h
theorem two_grown {wa wb : World} {R : Nat} {v : Value} {row : Option Nat} (hg : wa.grownBy wb row) (hne : some R ≠ row) (hR : R < wa.heap.size) (h : wa.cell? ⟨R, 135, none⟩ = some v ∧ wa.frozen? ⟨R, 135, none⟩ = false) : wb.cell? ⟨R, 135, none⟩ = some v ∧ wb.frozen? ⟨R, 135, none⟩ = false :=
  ⟨by rw [hg.cell_far _ hR hne]; exact h.1, by rw [hg.frozen_far _ hR hne]; exact h.2⟩
theorem row_below {w w' : World} {base : Nat} {e : TypeId} {size n : Nat} {v : Value} {xs : List Value} (h : w.ownsRow base e size v n xs) (hb : Below w.heap.size w w') : w'.ownsRow base e size v n xs :=
  h.kept (row := none) (Below.grown' hb none) (by cases hv : v.ownBlock <;> simp)

set_option maxHeartbeats 4000000 in
theorem hear_range (R : Nat) (own : Nat → Prop) (s : RS) (i tag lo hi : Int) (x : Option Addr) (n c : Nat) (w : World) (h : Recv w own R s) (hi0 : i < 1 ∨ s.co < i) :
    Calls Tryd.prog 20 #[.pointer (some ⟨R, 0, none⟩), .int .i64 i, .slice x n c, .int .u64 tag, .agg #[.int .i64 lo, .int .i64 hi]] w fun e w' => e = .returned (.int .i64 3) ∧ Below w.heap.size w w' := by
  have hRw := h.low R h.ownR
  obtain ⟨st, sp, de, co, kn, K, hv, l⟩ := s
  obtain ⟨-, -, -, c0, c1, c2, c3, c4, c5, -, -, -, -, -, -, -, -⟩ := id h
  simp only at c0 c1 c2 c3 c4 c5 hi0
  have hb0 : Below w.heap.size w (w.alloc (.cells #[.int .i64 lo, .int .i64 hi] 46)) := (Below.refl _ _).alloc (Nat.le_refl _) _
  by_cases q : i < 1
  · go_enter Tryd.func20, Tryd.ntmps20
    go_wp2_with (fail)
    go_ret
    exact ⟨rfl, hb0⟩
  · have q2 : co < i := by omega
    have hne : R ≠ w.heap.size := by omega
    go_enter Tryd.func20, Tryd.ntmps20
    go_wp2_with (fail)
    go_ret
    exact ⟨rfl, hb0⟩

set_option maxHeartbeats 4000000 in
theorem hear_bad (R : Nat) (own : Nat → Prop) (s : RS) (i tag lo hi : Int) (x : Option Addr) (n c : Nat) (w : World) (h : Recv w own R s) (hi0 : 1 ≤ i) (hi1 : i ≤ s.co) (hbad : ivBad lo hi = true) :
    Calls Tryd.prog 20 #[.pointer (some ⟨R, 0, none⟩), .int .i64 i, .slice x n c, .int .u64 tag, .agg #[.int .i64 lo, .int .i64 hi]] w fun e w' => e = .returned (.int .i64 2) ∧ Below w.heap.size w w' := by
  have hRw := h.low R h.ownR
  obtain ⟨st, sp, de, co, kn, K, hv, l⟩ := s
  obtain ⟨-, -, -, c0, c1, c2, c3, c4, c5, -, -, -, -, -, -, -, -⟩ := id h
  simp only at c0 c1 c2 c3 c4 c5 hi1
  have hb0 : Below w.heap.size w (w.alloc (.cells #[.int .i64 lo, .int .i64 hi] 46)) := (Below.refl _ _).alloc (Nat.le_refl _) _
  have C := dcheck_any lo hi (w.alloc (.cells #[.int .i64 lo, .int .i64 hi] 46))
  rw [if_pos hbad] at C
  have HC := Lib.hid C
  clear C
  have hne : R ≠ w.heap.size := by omega
  go_enter Tryd.func20, Tryd.ntmps20
  go_wp2_with (fail)
  refine HC.out.mono ?_
  rintro e w1 ⟨rfl, hb1⟩
  go_wp2_with (fail)
  go_ret
  exact ⟨rfl, hb0.trans (hb1.mono (by simp))⟩

/-- what Hear leaves -/
def HearPost (own : Nat → Prop) (R : Nat) (s : RS) (i : Int) (ys : List Int) (tag E : Int) (w w' : World) : Prop :=
  (E ≠ 0 → Below w.heap.size w w') ∧ (E = 0 → Keeps own w w' ∧ ∃ p cap hv, Recv w' (grew own w w') R { s with hv := hv, l := s.l ++ [⟨i, p, cap, ys, tag⟩] })
theorem HearPost.no {own : Nat → Prop} {R : Nat} {s : RS} {i : Int} {ys : List Int} {tag E : Int} {w w' : World} (h : E ≠ 0) (hb : Below w.heap.size w w') : HearPost own R s i ys tag E w w' := ⟨fun _ => hb, fun e => absurd e h⟩

set_option maxHeartbeats 4000000 in
theorem hear_rest (R : Nat) (own : Nat → Prop) (s : RS) (i tag lo hi : Int) (x : Option Addr) (n c : Nat) (ys : List Int) (w : World) (h : Recv w own R s) (hi0 : 1 ≤ i) (hi1 : i ≤ s.co) (hbad : ivBad lo hi = false)
    (hy : Ints .u8 w w.heap.size x ys) (hby : Bytes ys) (hl : ys.length = n) (hn : n ≤ 1000000) (hnil : x = none → n = 0 ∧ c = 0) :
    Calls Tryd.prog 20 #[.pointer (some ⟨R, 0, none⟩), .int .i64 i, .slice x n c, .int .u64 tag, .agg #[.int .i64 lo, .int .i64 hi]] w fun e w' =>
      e = .returned (.int .i64 (hearE s i lo hi)) ∧ HearPost own R s i ys tag (hearE s i lo hi) w w' := by
  obtain ⟨E, hE⟩ : ∃ E, hearE s i lo hi = E := ⟨_, rfl⟩
  have HE : Hid (E = if i + s.de ≤ ivI s.st s.sp s.de s.co hi then 17 else if i ≤ s.kn then 10 else if 64 ≤ s.l.length then 13 else 0) := by
    show _ = _
    rw [← hE]
    unfold hearE
    rw [if_neg (by omega), if_neg (by rw [hbad]; simp)]
  rw [hE]
  clear hE
  have hRw := h.low R h.ownR
  have HR := Lib.hid h
  obtain ⟨st, sp, de, co, kn, K, hv, l⟩ := s
  obtain ⟨hok, -, -, c0, c1, c2, c3, c4, c5, -, hth, hkco, hrow, hfar, -, -, -⟩ := id h
  have HFAR := Lib.hid hfar
  clear hfar
  clear h
  simp only at c0 c1 c2 c3 c4 c5 hi1 hok hkco hrow HE
  obtain ⟨o1, o2, o3, o4, o5, o6, o7, o8⟩ := okC_iff.1 hok
  have hhi : hi ≤ 8000000000000000000 := by
    unfold ivBad at hbad
    rw [decide_eq_false_iff_not] at hbad
    omega
  obtain ⟨T, hT⟩ : ∃ T, ivI st sp de co hi = T := ⟨_, rfl⟩
  have HT := Lib.hid hT
  rw [hT] at HE
  clear hT
  have hb0 : Below w.heap.size w (w.alloc (.cells #[.int .i64 lo, .int .i64 hi] 46)) := (Below.refl _ _).alloc (Nat.le_refl _) _
  have C := dcheck_any lo hi (w.alloc (.cells #[.int .i64 lo, .int .i64 hi] 46))
  rw [if_neg (by rw [hbad]; simp)] at C
  have HC := Lib.hid C
  have HY := Lib.hid hy
  have HL := Lib.hid hl
  have HROW := Lib.hid hrow
  have hfr := (hth 135 (by omega)).2
  clear C hy hl hok hth hrow
  have hne : R ≠ w.heap.size := by omega
  go_enter Tryd.func20, Tryd.ntmps20
  go_wp2_with (fail)
  refine HC.out.mono ?_
  rintro e w1 ⟨rfl, hb1⟩
  have hbw1 := hb0.trans (hb1.mono (by simp))
  have d0 : w1.cell? ⟨R, 0, none⟩ = some (.int .i64 st) := by rw [hbw1.cell (by exact hRw)]; exact c0
  have d1 : w1.cell? ⟨R, 1, none⟩ = some (.int .i64 sp) := by rw [hbw1.cell (by exact hRw)]; exact c1
  have d2 : w1.cell? ⟨R, 2, none⟩ = some (.int .i64 de) := by rw [hbw1.cell (by exact hRw)]; exact c2
  have d3 : w1.cell? ⟨R, 3, none⟩ = some (.int .i64 co) := by rw [hbw1.cell (by exact hRw)]; exact c3
  have d5 : w1.cell? ⟨w.heap.size, 1, none⟩ = some (.int .i64 hi) := by rw [hb1.cell (by simp)]; simp
  have hs1 : w.heap.size + 1 ≤ w1.heap.size := by have := hb1.size; simpa using this
  clear hb1 HC
  have h5 := five_step (B := w1.heap.size) (hi := hi) (C := w.heap.size) ((Below.refl _ w1).drew) (by omega) (by omega) ⟨d0, d1, d2, d3, d5⟩
  go_upto_region 7 with (fail)
  go_region_held3 (fun w' => w'.cell? ⟨R, 0, none⟩ = some (.int .i64 st) ∧ w'.cell? ⟨R, 1, none⟩ = some (.int .i64 sp) ∧ w'.cell? ⟨R, 2, none⟩ = some (.int .i64 de) ∧ w'.cell? ⟨R, 3, none⟩ = some (.int .i64 co) ∧ w'.cell? ⟨w.heap.size, 1, none⟩ = some (.int .i64 hi))
    (first | exact h5 | assumption)
    ((first
      | (go_at_call 15; refine (piv_any st sp de co hi _ (by omega)).mono ?_; rintro e w2 ⟨rfl, hb2⟩; rw [HT.out]; have h6 := five_step (B := w1.heap.size) (hi := hi) (C := w.heap.size) (hb2.mono (by simp)) (by omega) (by omega) h5)))
  have hbw2 := hbw1.drew.trans (hb2.mono (B' := w.heap.size) (by simp; omega))
  have hw64 : IntKind.i64.wrap (i + de) = i + de := i64_wrap_eq ⟨by omega, by omega⟩
  have e4 : w2.cell? ⟨R, 4, none⟩ = some (.int .i64 (kn : Int)) := by rw [hbw2.cell (by exact hRw)]; exact c4
  have e5 : w2.cell? ⟨R, 135, none⟩ = some hv := by rw [hbw2.cell (by exact hRw)]; exact c5
  have e6 : w2.frozen? ⟨R, 135, none⟩ = false := by rw [hbw2.frozen (by exact hRw)]; exact hfr
  have hs2 : w1.heap.size ≤ w2.heap.size := by simpa using hb2.size
  clear d0 d1 d2 d3 d5 h5 h6
  rw [hw64]
  by_cases q1 : i + de ≤ T
  · obtain rfl : E = 17 := HE.out.trans (by rw [if_pos q1])
    go_wp2_with (fail)
    go_ret
    exact ⟨rfl, HearPost.no (by omega) hbw2⟩
  · by_cases q2 : i ≤ kn
    · obtain rfl : E = 10 := HE.out.trans (by rw [if_neg q1, if_pos q2])
      go_wp2_with (fail)
      go_ret
      exact ⟨rfl, HearPost.no (by omega) hbw2⟩
    · obtain ⟨hp, hcap, hhv, _, _⟩ := row_form HROW.out
      rw [hhv] at e5
      by_cases q3 : 64 ≤ l.length
      · obtain rfl : E = 13 := HE.out.trans (by rw [if_neg q1, if_neg q2, if_pos q3])
        go_wp2_with (fail)
        go_ret
        exact ⟨rfl, HearPost.no (by omega) hbw2⟩
      · obtain rfl : E = 0 := HE.out.trans (by rw [if_neg q1, if_neg q2, if_neg q3])
        subst hhv
        obtain ⟨i0, hinf, hz0, hz1, hz2⟩ := info_parts infoMsg
        have hS2 := two_step (B := w2.heap.size) ((Below.refl _ w2).drew) (by omega) ⟨e5, e6⟩
        have hrw2 := hbw2.drew
        have hl63 : l.length + 1 ≤ 64 := by omega
        have HL63 := Lib.hid hl63
        have hRd : R < w2.drew.heap.size := by simp; omega
        go_wp2_with (fail)
        have hRne : some R ≠ (Value.slice hp l.length hcap).ownBlock := fun e => (HFAR.out R e.symm).2 rfl
        go_region_law ((first
            | (refine step_copy_bytes rfl (.const (.slice none 0 0)) (.tmp 66) rfl x n c ys w.heap.size (by simp only [Act.eval]) (by simp only [Act.eval, Act.put, List.setIfInBounds_toArray, List.set_cons_zero, List.set_cons_succ]; rfl) (HY.out.below (Nat.le_refl _) hrw2) HL.out hn hnil ?_; intro p cap w3 hy3 hb3 hcap3; have hS3 := two_step hb3 hRd hS2; obtain ⟨hS3a, hS3b⟩ := id hS3; have hR3 := Nat.lt_of_lt_of_le hRd hb3.size; have hR3n := Nat.ne_of_lt hR3; have hrow3 := row_below HROW.out (hrw2.trans (hb3.mono hrw2.size)))
            | (refine step_append_lies _ rfl (.tmp 64) (.tmp 70) 62 rfl 0 67 i0 _ 3 40 Tryd.underlying62 hinf hz0 hz1 hz2 rfl (by omega) (.slice hp l.length hcap) l.length (msgCells l) (by simp only [Act.eval, Act.put, List.setIfInBounds_toArray, List.set_cons_zero, List.set_cons_succ]; rfl) (World.ownsRow.alloc (by assumption) _) _ 1 1 _ rfl rfl (World.news_of_block (heap_alloc_new _ _)) (by intro u hu; simp at hu; rcases hu with rfl | rfl | rfl <;> rfl) (by omega) (by have := HL63.out; unfold maxLen; omega) (by have := HL63.out; omega) (Nat.zero_le _) _ rfl ?_; intro g cap5 w5 hrow5 hg5 hat5 hlt5; have hS5 := two_grown (R := R) hg5 hRne (Nat.lt_of_lt_of_le (by assumption) (World.grownBy_alloc _ _ none).size) (two_alloc _ (by assumption) (by assumption)); obtain ⟨hS5a, hS5b⟩ := hS5)))
        all_goals
          go_wp2_with (fail)
          go_ret
          obtain ⟨hcap3, hcap4, hpb⟩ := hcap3
          have hLE := HL.out
          subst hLE
          have hs3 := hb3.size
          obtain ⟨hrec, hkeep⟩ := recv_hear HR.out ⟨i, p, cap, ys, tag⟩ (.slice (some ⟨g, 0, none⟩) (l.length + 1) cap5) g cap5 ((hrw2.trans (hb3.mono hrw2.size)).alloc (Nat.le_trans hrw2.size hb3.size) (.cells #[.int .i64 i, .slice p ys.length cap, .int .u64 tag] 67))
            (hy3.below (Nat.le_refl _) ((Below.refl _ _).alloc (Nat.le_refl _) _) |>.mono (by simp)) hcap3 hcap4 hby (fun a ha => ⟨Nat.le_trans hrw2.size (hpb a ha).1, Nat.lt_of_lt_of_le (hpb a ha).2 (World.grownBy_alloc _ _ none).size⟩) hi0 hi1 hg5 rfl hrow5 hat5 hlt5
          exact ⟨rfl, fun e => absurd rfl e, fun _ => ⟨hkeep, p, cap, _, hrec⟩⟩

/-- HEAR -/
theorem hear_any (R : Nat) (own : Nat → Prop) (s : RS) (i tag lo hi : Int) (x : Option Addr) (n c : Nat) (ys : List Int) (w : World) (h : Recv w own R s)
    (hy : Ints .u8 w w.heap.size x ys) (hby : Bytes ys) (hl : ys.length = n) (hn : n ≤ 1000000) (hnil : x = none → n = 0 ∧ c = 0) :
    Calls Tryd.prog 20 #[.pointer (some ⟨R, 0, none⟩), .int .i64 i, .slice x n c, .int .u64 tag, .agg #[.int .i64 lo, .int .i64 hi]] w fun e w' =>
      e = .returned (.int .i64 (hearE s i lo hi)) ∧ HearPost own R s i ys tag (hearE s i lo hi) w w' := by
  by_cases h0 : i < 1 ∨ s.co < i
  · have e : hearE s i lo hi = 3 := by unfold hearE; rw [if_pos h0]
    rw [e]
    exact (hear_range R own s i tag lo hi x n c w h h0).mono fun e w' q => ⟨q.1, HearPost.no (by omega) q.2⟩
  · cases hb : ivBad lo hi with
    | true =>
      have e : hearE s i lo hi = 2 := by unfold hearE; rw [if_neg h0, if_pos hb]
      rw [e]
      exact (hear_bad R own s i tag lo hi x n c w h (by omega) (by omega) hb).mono fun e w' q => ⟨q.1, HearPost.no (by omega) q.2⟩
    | false => exact hear_rest R own s i tag lo hi x n c ys w h (by omega) (by omega) hb hy hby hl hn hnil
end Go.Proofs.YtmhgoknbmbicmaaDoor
