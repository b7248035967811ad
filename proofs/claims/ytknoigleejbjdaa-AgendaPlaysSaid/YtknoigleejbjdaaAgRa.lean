/- The reference's queue: in memory; Len, first, Peek. -/
import Derived.Test.YtknoigleejbjdaaAgX
namespace Go.Proofs.Ytknoigleejbjdaa
open Go.RowKit
set_option linter.unusedVariables false
set_option linter.unusedSimpArgs false

/-- the reference's queue in memory -/
structure RS (w : World) (P : Nat) (lim now : Int) (p : Nat) (l : List Ev) (own : Nat → Prop) : Prop where
  ex : ∃ v, w.cell? ⟨P, 3, none⟩ = some v ∧ w.ownsRow 0 30 3 v l.length (evCells l) ∧ (∀ b, v.ownBlock = some b → own b) ∧ v.ownBlock ≠ some P
  c0 : w.cell? ⟨P, 0, none⟩ = some (.int .i64 lim)
  c1 : w.cell? ⟨P, 1, none⟩ = some (.int .i64 now)
  c2 : w.cell? ⟨P, 2, none⟩ = some (.int .i64 (p : Int))
  fz : ∀ o, w.frozen? ⟨P, o, none⟩ = false
  ownP : own P
  olt : ∀ b, own b → b < w.heap.size
theorem RS.same {w w' : World} {P : Nat} {lim now : Int} {p : Nat} {l : List Ev} {own : Nat → Prop} (h : RS w P lim now p l own) (hs : w.heap.size ≤ w'.heap.size) (hb : ∀ b, own b → b < w.heap.size → w'.heap[b]? = w.heap[b]?) : RS w' P lim now p l own := by
  have c := hb P h.ownP (h.olt P h.ownP)
  obtain ⟨v, h1, h2, h3, h4⟩ := h.ex
  exact ⟨⟨v, (World.cell?_of_block c).trans h1, row_same h2 (fun g e => hb g (h3 g e) (h.olt g (h3 g e))), h3, h4⟩, (World.cell?_of_block c).trans h.c0, (World.cell?_of_block c).trans h.c1, (World.cell?_of_block c).trans h.c2, fun o => (World.frozen?_of_block c).trans (h.fz o), h.ownP, fun b q => Nat.lt_of_lt_of_le (h.olt b q) hs⟩
theorem RS.below {w w' : World} {P : Nat} {lim now : Int} {p : Nat} {l : List Ev} {own : Nat → Prop} (h : RS w P lim now p l own) (hb : Below w.heap.size w w') : RS w' P lim now p l own := h.same hb.size (fun b _ q => hb.block b q)
theorem RS.other {w w' : World} {P : Nat} {lim now : Int} {p : Nat} {l : List Ev} {own o2 : Nat → Prop} (h : RS w P lim now p l own) (hk : Keep o2 w w') (hd : ∀ b, own b → ¬ o2 b) : RS w' P lim now p l own := h.same hk.size (fun b h1 h2 => hk.block b h2 (hd b h1))
theorem RS.Plt {w : World} {P : Nat} {lim now : Int} {p : Nat} {l : List Ev} {own : Nat → Prop} (h : RS w P lim now p l own) : P < w.heap.size := h.olt P h.ownP
/-- its slice: cells where it has events -/
theorem RS.sl {w : World} {P : Nat} {lim now : Int} {p : Nat} {l : List Ev} {own : Nat → Prop} (h : RS w P lim now p l own) : ∃ (x : Option Addr) (c : Nat), w.cell? ⟨P, 3, none⟩ = some (.slice x l.length c) ∧ l.length ≤ c ∧ c ≤ maxLen ∧ ∀ i, i < l.length → ∃ g, x = some ⟨g, 0, none⟩ ∧ g < w.heap.size ∧ w.cell? ⟨g, i * 3, none⟩ = some (.int .i64 (gt l i).t) ∧ w.cell? ⟨g, i * 3 + 1, none⟩ = some (.int .i64 (gt l i).id) ∧ w.cell? ⟨g, i * 3 + 2, none⟩ = some (.int .i64 (gt l i).item) := by
  obtain ⟨v, h1, h2, h3, h4⟩ := h.ex
  rcases h2.2 with ⟨q, e⟩ | ⟨g, cap, cur, q, _, _, hc, hm, _⟩
  · refine ⟨none, 0, by rw [h1, q, e], by omega, Nat.zero_le _, fun i hi => by omega⟩
  · refine ⟨some ⟨g, 0, none⟩, cap, by rw [h1, q], hc, hm, fun i hi => ⟨g, rfl, ?_, ?_, ?_, ?_⟩⟩
    · exact h.olt g (h3 g (by rw [q]; rfl))
    · rw [q] at h2; rw [World.ownsRow.cellAt h2 (i * 3) (by omega)]; exact (evCells_at l i hi).1
    · rw [q] at h2; rw [World.ownsRow.cellAt h2 (i * 3 + 1) (by omega)]; exact (evCells_at l i hi).2.1
    · rw [q] at h2; rw [World.ownsRow.cellAt h2 (i * 3 + 2) (by omega)]; exact (evCells_at l i hi).2.2
theorem rlen_any {w : World} {P : Nat} {lim now : Int} {p : Nat} {l : List Ev} {own : Nat → Prop} (h : RS w P lim now p l own) : Calls Try.prog 25 #[.pointer (some ⟨P, 0, none⟩)] w fun r w' => r = .returned (.int .i64 (l.length : Int)) ∧ Below w.heap.size w w' := by
  obtain ⟨x, c, q3, -, -, -⟩ := h.sl
  obtain ⟨L, hL⟩ : ∃ L, l.length = L := ⟨_, rfl⟩
  rw [hL] at q3 ⊢
  have HH := Lib.hid h
  clear h hL
  go_enter Try.func25, Try.ntmps25
  go_wp2_with (fail)
  go_ret
  exact ⟨rfl, Below.refl _ _⟩
theorem rnew_bad (lim : Int) (w : World) (h : lim < 1 ∨ 4096 < lim) : Calls Try.prog 20 #[.int .i64 lim] w fun r w' => r = .returned (.pointer none) ∧ Below w.heap.size w w' := by
  by_cases h1 : lim < 1
  · go_enter Try.func20, Try.ntmps20
    go_wp2_with (fail)
    go_ret
    exact ⟨rfl, Below.refl _ _⟩
  · have h2 : 4096 < lim := by omega
    go_enter Try.func20, Try.ntmps20
    go_wp2_with (fail)
    go_ret
    exact ⟨rfl, Below.refl _ _⟩
theorem rnew_good (lim : Int) (w : World) (h : 1 ≤ lim) (h' : lim ≤ 4096) : Calls Try.prog 20 #[.int .i64 lim] w fun r w' => r = .returned (.pointer (some ⟨w.heap.size, 0, none⟩)) ∧ Below w.heap.size w w' ∧ RS w' w.heap.size lim 0 0 [] (fun b => b = w.heap.size) := by
  have h1 : ¬ lim < 1 := by omega
  have h2 : ¬ 4096 < lim := by omega
  go_enter Try.func20, Try.ntmps20
  go_wp2_with (fail)
  go_ret
  refine ⟨rfl, (Below.refl _ _).alloc (Nat.le_refl _) _, ⟨.slice none 0 0, by simp, World.ownsRow_nil _ _ _ _, by simp [Value.ownBlock], by simp [Value.ownBlock]⟩, by simp, by simp, by simp, fun o => by simp, rfl, fun b e => by rw [e]; simp⟩

/-- the first of the first k -/
def FB (l : List Ev) (k : Nat) (bv : Value) : Prop := (k = 0 ∧ bv = .int .i64 (-1)) ∨ ∃ p : Nat, p < k ∧ bv = .int .i64 p ∧ (∀ j, j < p → (gt l p).t < (gt l j).t) ∧ ∀ j, j < k → (gt l p).t ≤ (gt l j).t
theorem FB.more {l : List Ev} {k p : Nat} (h1 : p < k) (h2 : ∀ j, j < p → (gt l p).t < (gt l j).t) (h3 : ∀ j, j < k → (gt l p).t ≤ (gt l j).t) : ((gt l k).t < (gt l p).t → FB l (k + 1) (.int .i64 (k : Nat))) ∧ (¬ (gt l k).t < (gt l p).t → FB l (k + 1) (.int .i64 (p : Nat))) := by
  refine ⟨fun q => .inr ⟨k, by omega, rfl, fun j hj => ?_, fun j hj => ?_⟩, fun q => .inr ⟨p, by omega, rfl, h2, fun j hj => ?_⟩⟩
  · have := h3 j hj; omega
  · by_cases e : j = k
    · subst e; exact Int.le_refl _
    · have := h3 j (by omega); omega
  · by_cases e : j = k
    · subst e; omega
    · exact h3 j (by omega)
theorem FB.one (l : List Ev) : FB l 1 (.int .i64 ((0 : Nat) : Int)) := .inr ⟨0, by omega, rfl, fun j hj => by omega, fun j hj => by
  obtain rfl : j = 0 := by omega
  exact Int.le_refl _⟩
theorem FB.end' {l : List Ev} {bv : Value} (h : FB l l.length bv) : (l = [] ∧ bv = .int .i64 (-1)) ∨ ∃ p : Nat, bv = .int .i64 p ∧ FAt l p := by
  rcases h with ⟨q, e⟩ | ⟨p, h1, e, h2, h3⟩
  · exact .inl ⟨List.eq_nil_of_length_eq_zero q, e⟩
  · exact .inr ⟨p, e, h1, h2, h3⟩
set_option maxHeartbeats 4000000 in
theorem rfirst_any {w : World} {P : Nat} {lim now : Int} {p : Nat} {l : List Ev} {own : Nat → Prop} (h : RS w P lim now p l own) (hl : l.length ≤ 100000) : Calls Try.prog 32 #[.pointer (some ⟨P, 0, none⟩)] w fun r w' => (∃ bv, r = .returned bv ∧ ((l = [] ∧ bv = .int .i64 (-1)) ∨ ∃ p : Nat, bv = .int .i64 p ∧ FAt l p)) ∧ Below w.heap.size w w' := by
  obtain ⟨x, c, q3, hlc, hcm, hat⟩ := h.sl
  obtain ⟨n, hn⟩ : ∃ n, l.length = n := ⟨_, rfl⟩
  have HP := h.Plt
  rw [hn] at q3 hat hl
  have HQ3 := Lib.hid q3
  have HAT := Lib.hid hat
  have HN := Lib.hid hn
  clear h hat q3 hn hlc hcm
  go_enter Try.func32, Try.ntmps32
  go_wp2_with (fail)
  go_loopw [3, 4] (fun bv ki wr => ∃ (k : Nat), k ≤ n ∧ ki = .int .i64 k ∧ Hid (FB l k bv) ∧ Hid (Below w.heap.size w wr)) (fun _ ki _ => n - (intOf ki).toNat)
  case atStart => exact ⟨0, by omega, rfl, Lib.hid (.inl ⟨rfl, rfl⟩), Lib.hid (Below.refl _ _)⟩
  case round =>
    obtain ⟨k, hk, rfl, HF, HB⟩ := hrel
    rename_i bv _
    have hkw : IntKind.i64.wrap ((k : Int) + 1) = (k : Int) + 1 := i64_wrap_eq ⟨by omega, by omega⟩
    have z3 : wr.cell? ⟨P, 3, none⟩ = some (.slice x n c) := by rw [HB.out.cell (by exact HP)]; exact HQ3.out
    by_cases hkn : k < n
    · obtain ⟨g, rfl, hg, a0, a1, a2⟩ := HAT.out k hkn
      have y0 : wr.cell? ⟨g, k * 3, none⟩ = some (.int .i64 (gt l k).t) := by rw [HB.out.cell (by exact hg)]; exact a0
      obtain ⟨tk, htk⟩ : ∃ t, (gt l k).t = t := ⟨_, rfl⟩
      rw [htk] at y0
      have HTK := Lib.hid htk
      clear a0 a1 a2 htk
      rcases HF.out with ⟨rfl, rfl⟩ | ⟨q, hq, rfl, hf2, hf3⟩
      · have hd1 : decide ((-1 : Int) < 0) = true := by decide
        go_wp2_with (fail)
        go_quiet (fail)
        have HBW := Lib.hid (HB.out.trans ((below_drewN (Below.refl wr.heap.size wr) nq).mono HB.out.size))
        go_wp2_with (fail)
        go_roundw
        case rel => exact ⟨1, by omega, by go_num, Lib.hid (FB.one l), HBW⟩
        case measure => simp [intOf]; omega
      · obtain ⟨g', e', hg', b0, b1, b2⟩ := HAT.out q (by omega)
        obtain rfl : g = g' := by simpa using e'
        have x0 : wr.cell? ⟨g, q * 3, none⟩ = some (.int .i64 (gt l q).t) := by rw [HB.out.cell (by exact hg)]; exact b0
        obtain ⟨tq, htq⟩ : ∃ t, (gt l q).t = t := ⟨_, rfl⟩
        obtain ⟨m1, m2⟩ := FB.more hq hf2 hf3
        rw [htq] at x0 m1 m2
        rw [HTK.out] at m1 m2
        have HM1 := Lib.hid m1
        have HM2 := Lib.hid m2
        have hq0 : ¬ (q : Int) < 0 := by omega
        have hq1 : decide ((q : Int) < 0) = false := decide_eq_false hq0
        clear b0 b1 b2 htq m1 m2 hf2 hf3 HF e'
        by_cases hlt : tk < tq
        · go_wp2_with (fail)
          go_quiet (fail)
          have HBW := Lib.hid (HB.out.trans ((below_drewN (Below.refl wr.heap.size wr) nq).mono HB.out.size))
          go_wp2_with (fail)
          go_roundw
          case rel => exact ⟨k + 1, by omega, by go_num, Lib.hid (HM1.out hlt), HBW⟩
          case measure => simp [intOf]; omega
        · go_wp2_with (fail)
          go_quiet (fail)
          have HBW := Lib.hid (HB.out.trans ((below_drewN (Below.refl wr.heap.size wr) nq).mono HB.out.size))
          go_wp2_with (fail)
          go_roundw
          case rel => exact ⟨k + 1, by omega, by go_num, Lib.hid (HM2.out hlt), HBW⟩
          case measure => simp [intOf]; omega
    · obtain rfl : k = n := by omega
      have hend := HF.out
      rw [← HN.out] at hend
      have HEND := Lib.hid hend.end'
      clear hend
      go_wp2_with (fail)
      go_ret
      exact ⟨⟨_, rfl, HEND.out⟩, HB.out⟩
end Go.Proofs.Ytknoigleejbjdaa
