/- Disclose, whatever is held. -/
import Derived.Test.YtmhgoknbmbicmaaDoorChainK
namespace Go.Proofs.YtmhgoknbmbicmaaDoor
open Go.RowKit
set_option linter.unusedVariables false
set_option linter.unusedSimpArgs false

theorem recv_same135 {w1 : World} {own : Nat → Prop} {R : Nat} {s : RS} (h : Recv w1 own R s) :
    Recv (w1.setCell ⟨R, 135, none⟩ s.hv) own R s ∧ Keeps own w1 (w1.setCell ⟨R, 135, none⟩ s.hv) := by
  have hsz : (w1.setCell ⟨R, 135, none⟩ s.hv).heap.size = w1.heap.size := by simp [World.setCell]
  have hc : ∀ o, o ≠ 135 → (w1.setCell ⟨R, 135, none⟩ s.hv).cell? ⟨R, o, none⟩ = w1.cell? ⟨R, o, none⟩ := fun o ho => World.cell?_setCell_other _ _ _ _ (by simp <;> omega)
  have hb : ∀ b, b ≠ R → (w1.setCell ⟨R, 135, none⟩ s.hv).heap[b]? = w1.heap[b]? := fun b hb => Below.heap_setCell _ _ _ _ hb
  refine ⟨⟨h.ok, fun g hg => by rw [hsz]; exact h.low g hg, h.ownR, (hc 0 (by omega)).trans h.c0, (hc 1 (by omega)).trans h.c1, (hc 2 (by omega)).trans h.c2, (hc 3 (by omega)).trans h.c3, (hc 4 (by omega)).trans h.c4, World.cell?_setCell_same _ _ _ h.c5,
    fun i hi => ⟨(hc _ (by omega)).trans (h.keys i hi).1, (hc _ (by omega)).trans (h.keys i hi).2⟩, h.th.setCell _ _, h.kco, ?_, h.far, h.ivs, ?_, h.apart⟩, ⟨rfl, rfl, rfl, by rw [hsz]; exact Nat.le_refl _, fun b _ h2 => hb b (fun e => h2 (by rw [e]; exact h.ownR))⟩⟩
  · refine ⟨h.row.1, ?_⟩
    rcases h.row.2 with q | ⟨g, c, cur, hv, hg, hh, rest⟩
    · exact .inl q
    · exact .inr ⟨g, c, cur, hv, hg, (hb g (h.far g (by rw [hv]; rfl)).2).trans hh, rest⟩
  · intro m hm
    obtain ⟨b1, b2, b3, b4⟩ := h.body m hm
    refine ⟨b1, b2, b3, fun j hj => ?_⟩
    obtain ⟨a, e1, e2, e3⟩ := b4 j hj
    obtain ⟨f1, f2, f3⟩ := h.apart m hm a e1
    refine ⟨a, e1, by rw [hsz]; exact e2, ?_⟩
    rw [World.cell?_of_block (w := w1) (a := a.add j) (by rw [show (a.add j).block = a.block by unfold Addr.add; split <;> rfl]; exact hb _ f2)]
    exact e3

set_option maxHeartbeats 8000000 in
theorem disc_none (R : Nat) (own : Nat → Prop) (s : RS) (i : Nat) (a b : Int) (w : World) (h : Recv w own R s) (hi0 : s.kn < i) (hi1 : (i : Int) ≤ s.co) (hk : downN (i - s.kn) (a, b) = s.K s.kn)
    (hhv : s.hv = .slice none 0 0) (hl : s.l = []) :
    Calls Tryd.prog 24 #[.pointer (some ⟨R, 0, none⟩), .int .i64 (i : Int), .agg #[.int .u64 a, .int .u64 b]] w fun e w' => ∃ ov hv',
      e = .returned (.tuple #[ov, .int .i64 0]) ∧ w'.ownsRow w.heap.size 36 1 ov (outM (putK s.kn i (a, b) s.K) i s.l).length (outCells (outM (putK s.kn i (a, b) s.K) i s.l)) ∧
      Recv w' own R { s with kn := i, K := putK s.kn i (a, b) s.K, hv := hv', l := keepM i s.l } ∧ Keeps own w w' ∧ (∀ m ∈ s.l, Ints .u8 w' w'.heap.size m.p m.b) := by
  have hRw := h.low R h.ownR
  obtain ⟨K', hK'⟩ : ∃ K', putK s.kn i (a, b) s.K = K' := ⟨_, rfl⟩
  have hb0 : Below w.heap.size w (w.alloc (.cells #[.int .u64 a, .int .u64 b] 34)) := (Below.refl _ _).alloc (Nat.le_refl _) _
  have C := prove_any R own s i a b _ (h.below hb0 (Nat.le_refl _)) hi0 hi1
  have HC := Lib.hid (C.mono fun e w' q => q.1 hk)
  rw [hK'] at HC ⊢
  have HK' := Lib.hid hK'
  clear hK' C hk
  obtain ⟨st, sp, de, co, kn, K, hv, l⟩ := s
  obtain ⟨-, -, -, c0, c1, c2, c3, c4, c5, -, -, -, -, -, -, -, -⟩ := id h
  simp only at c0 c1 c2 c3 c4 c5 hi1 hi0 hhv hl
  subst hhv hl
  have hne : R ≠ w.heap.size := by omega
  have hi2 : (1 : Int) ≤ i := by omega
  clear h
  go_enter Tryd.func24, Tryd.ntmps24
  go_wp2_with (fail)
  refine HC.out.mono ?_
  rintro e w1 ⟨rfl, hr1, hk1⟩
  have d5 := hr1.c5
  have f5 := (hr1.th 135 (by omega)).2
  simp only at d5
  have HR1 := Lib.hid hr1
  have HK1 := Lib.hid hk1
  clear hr1 hk1 c0 c1 c2 c3 c4 c5
  go_wp2_with (fail)
  go_loopw [8, 54] (fun ov ki wr => ov = .slice none 0 0 ∧ ki = .int .i64 0 ∧ wr = w1.setCell ⟨R, 135, none⟩ (.slice none 0 0)) (fun _ _ _ => 0)
  case atStart => exact ⟨rfl, rfl, rfl⟩
  case round =>
    obtain ⟨rfl, rfl, rfl⟩ := hrel
    have e5 : (w1.setCell ⟨R, 135, none⟩ (.slice none 0 0)).cell? ⟨R, 135, none⟩ = some (.slice none 0 0) := World.cell?_setCell_same _ _ _ d5
    have hrun : (Builtin.clear_ #[62] 0 #[.slice none 0 0]).run Tryd.prog (w1.setCell ⟨R, 135, none⟩ (.slice none 0 0)) = .ok (.tuple #[]) (w1.setCell ⟨R, 135, none⟩ (.slice none 0 0)) := by
      simp [Builtin.clear_, run_underlying Tryd.underlying62]
    go_wp2_with (fail)
    go_ret2
    obtain ⟨r1, r2⟩ := recv_same135 HR1.out
    exact ⟨_, _, rfl, World.ownsRow_nil _ _ _ _, r1, (Below.keeps hb0 (Nat.le_refl _) own).trans (HK1.out.trans r2 (fun _ _ q => q)) (fun _ _ q => q), fun m hm => by simp at hm⟩

/-- DISCLOSE of the next key -/
theorem disc_yes (R : Nat) (own : Nat → Prop) (s : RS) (i : Nat) (a b : Int) (w : World) (h : Recv w own R s) (hi0 : s.kn < i) (hi1 : (i : Int) ≤ s.co) (hk : downN (i - s.kn) (a, b) = s.K s.kn) (hL : s.l.length ≤ 1000) :
    Calls Tryd.prog 24 #[.pointer (some ⟨R, 0, none⟩), .int .i64 (i : Int), .agg #[.int .u64 a, .int .u64 b]] w fun e w' => ∃ ov hv',
      e = .returned (.tuple #[ov, .int .i64 0]) ∧ w'.ownsRow w.heap.size 36 1 ov (outM (putK s.kn i (a, b) s.K) i s.l).length (outCells (outM (putK s.kn i (a, b) s.K) i s.l)) ∧
      Recv w' own R { s with kn := i, K := putK s.kn i (a, b) s.K, hv := hv', l := keepM i s.l } ∧ Keeps own w w' ∧ (∀ m ∈ s.l, Ints .u8 w' w'.heap.size m.p m.b) := by
  rcases own_form h.row with ⟨q, ql⟩ | ⟨g, cap, q, _⟩
  · exact disc_none R own s i a b w h hi0 hi1 hk q (List.eq_nil_of_length_eq_zero ql)
  · exact disc_some R own s i a b g cap w h hi0 hi1 hk hL q
end Go.Proofs.YtmhgoknbmbicmaaDoor
