/- New, Len, Peek, and what a nil queue does. -/
import Derived.Test.YtknoigleejbjdaaAgL
namespace Go.Proofs.Ytknoigleejbjdaa
open Go.RowKit
set_option linter.unusedVariables false
set_option linter.unusedSimpArgs false

set_option maxHeartbeats 1000000 in
theorem new_bad (lim : Int) (w : World) (h : lim < 1 ∨ 4096 < lim) : Calls Try.prog 11 #[.int .i64 lim] w fun r w' => r = .returned (.pointer none) ∧ Below w.heap.size w w' := by
  by_cases h1 : lim < 1
  · go_enter Try.func11, Try.ntmps11
    go_wp2_with (fail)
    go_ret
    exact ⟨rfl, Below.refl _ _⟩
  · have h2 : 4096 < lim := by omega
    go_enter Try.func11, Try.ntmps11
    go_wp2_with (fail)
    go_ret
    exact ⟨rfl, Below.refl _ _⟩
set_option maxHeartbeats 1000000 in
theorem new_good (lim : Int) (w : World) (h : 1 ≤ lim) (h' : lim ≤ 4096) : Calls Try.prog 11 #[.int .i64 lim] w fun r w' => r = .returned (.pointer (some ⟨w.heap.size, 0, none⟩)) ∧ Below w.heap.size w w' ∧ QS w' w.heap.size lim 0 0 0 [] (fun b => b = w.heap.size) := by
  have h1 : ¬ lim < 1 := by omega
  have h2 : ¬ 4096 < lim := by omega
  go_enter Try.func11, Try.ntmps11
  go_wp2_with (fail)
  go_ret
  refine ⟨rfl, (Below.refl _ _).alloc (Nat.le_refl _) _, QS.new h' (by omega) (by simp) (by simp) (by simp) (by simp) (by simp) (by simp) (fun o => by simp)⟩

theorem len_any {w : World} {Q : Nat} {lim now : Int} {p N : Nat} {l : List Ev} {own : Nat → Prop} (h : QS w Q lim now p N l own) : Calls Try.prog 15 #[.pointer (some ⟨Q, 0, none⟩)] w fun r w' => r = .returned (.int .i64 (l.length : Int)) ∧ Below w.heap.size w w' := by
  obtain ⟨ps, c, q3⟩ := h.q3
  obtain ⟨L, hL⟩ : ∃ L, l.length = L := ⟨_, rfl⟩
  rw [hL] at q3 ⊢
  have HH := Lib.hid h
  clear h hL
  go_enter Try.func15, Try.ntmps15
  go_wp2_with (fail)
  go_ret
  exact ⟨rfl, Below.refl _ _⟩
theorem len_nobody (w : World) : Calls Try.prog 15 #[.pointer none] w fun r w' => r = .returned (.int .i64 0) ∧ Below w.heap.size w w' := by
  go_enter Try.func15, Try.ntmps15
  go_wp2_with (fail)
  go_ret
  exact ⟨rfl, Below.refl _ _⟩
theorem push_nobody (at' item : Int) (w : World) : Calls Try.prog 13 #[.pointer none, .int .i64 at', .int .i64 item] w fun r w' => r = .returned (.tuple #[.int .i64 0, .int .i64 1]) ∧ Below w.heap.size w w' := by
  go_enter Try.func13, Try.ntmps13
  go_wp2_with (fail)
  go_ret2
  exact ⟨rfl, Below.refl _ _⟩
theorem cancel_nobody (id : Int) (w : World) : Calls Try.prog 18 #[.pointer none, .int .i64 id] w fun r w' => r = .returned (.bool false) ∧ Below w.heap.size w w' := by
  go_enter Try.func18, Try.ntmps18
  go_wp2_with (fail)
  go_ret
  exact ⟨rfl, Below.refl _ _⟩
theorem pop_nobody (w : World) : Calls Try.prog 14 #[.pointer none] w fun r w' => r = .returned (.tuple #[.agg #[.int .i64 0, .int .i64 0, .int .i64 0], .bool false]) ∧ Below w.heap.size w w' := by
  go_enter Try.func14, Try.ntmps14
  go_wp2_with (fail)
  refine bodyPost_ret (v := .tuple #[.agg #[.int .i64 0, .int .i64 0, .int .i64 0], .bool false]) ?_ rfl ⟨rfl, ?_⟩
  · simp [results, Try.results14, go_sem]
  · exact (Below.refl _ _).alloc (Nat.le_refl _) _
theorem peek_nobody (w : World) : Calls Try.prog 16 #[.pointer none] w fun r w' => r = .returned (.tuple #[.agg #[.int .i64 0, .int .i64 0, .int .i64 0], .bool false]) ∧ Below w.heap.size w w' := by
  go_enter Try.func16, Try.ntmps16
  go_wp2_with (fail)
  refine bodyPost_ret (v := .tuple #[.agg #[.int .i64 0, .int .i64 0, .int .i64 0], .bool false]) ?_ rfl ⟨rfl, ?_⟩
  · simp [results, Try.results16, go_sem]
  · exact (Below.refl _ _).alloc (Nat.le_refl _) _
theorem pop_none {w : World} {Q : Nat} {lim now : Int} {p N : Nat} {own : Nat → Prop} (h : QS w Q lim now p N [] own) : Calls Try.prog 14 #[.pointer (some ⟨Q, 0, none⟩)] w fun r w' => r = .returned (.tuple #[.agg #[.int .i64 0, .int .i64 0, .int .i64 0], .bool false]) ∧ Below w.heap.size w w' := by
  obtain ⟨ps, c, q3⟩ := h.q3
  have hQ : Q ≠ w.heap.size := by have := h.Qlt; omega
  have x3 : (w.alloc (.cells #[.int .i64 0, .int .i64 0, .int .i64 0] 30)).cell? ⟨Q, 3, none⟩ = some (.slice ps 0 c) := by rw [((Below.refl w.heap.size w).alloc (Nat.le_refl _) _).cell (by exact h.Qlt)]; exact q3
  have HH := Lib.hid h
  clear h
  go_enter Try.func14, Try.ntmps14
  go_wp2_with (fail)
  refine bodyPost_ret (v := .tuple #[.agg #[.int .i64 0, .int .i64 0, .int .i64 0], .bool false]) ?_ rfl ⟨rfl, ?_⟩
  · simp [results, Try.results14, go_sem]
  · exact (Below.refl _ _).alloc (Nat.le_refl _) _
theorem peek_none {w : World} {Q : Nat} {lim now : Int} {p N : Nat} {own : Nat → Prop} (h : QS w Q lim now p N [] own) : Calls Try.prog 16 #[.pointer (some ⟨Q, 0, none⟩)] w fun r w' => r = .returned (.tuple #[.agg #[.int .i64 0, .int .i64 0, .int .i64 0], .bool false]) ∧ Below w.heap.size w w' := by
  obtain ⟨ps, c, q3⟩ := h.q3
  have hQ : Q ≠ w.heap.size := by have := h.Qlt; omega
  have x3 : (w.alloc (.cells #[.int .i64 0, .int .i64 0, .int .i64 0] 30)).cell? ⟨Q, 3, none⟩ = some (.slice ps 0 c) := by rw [((Below.refl w.heap.size w).alloc (Nat.le_refl _) _).cell (by exact h.Qlt)]; exact q3
  have HH := Lib.hid h
  clear h
  go_enter Try.func16, Try.ntmps16
  go_wp2_with (fail)
  refine bodyPost_ret (v := .tuple #[.agg #[.int .i64 0, .int .i64 0, .int .i64 0], .bool false]) ?_ rfl ⟨rfl, ?_⟩
  · simp [results, Try.results16, go_sem]
  · exact (Below.refl _ _).alloc (Nat.le_refl _) _
set_option maxHeartbeats 1000000 in
theorem peek_some {w : World} {Q : Nat} {lim now : Int} {p N : Nat} {l : List Ev} {own : Nat → Prop} (h : QS w Q lim now p N l own) (m : Ev) (hm : Fst l m) : Calls Try.prog 16 #[.pointer (some ⟨Q, 0, none⟩)] w fun r w' => r = .returned (.tuple #[.agg #[.int .i64 m.t, .int .i64 m.id, .int .i64 m.item], .bool true]) ∧ Below w.heap.size w w' := by
  have hl : l ≠ [] := fun e => by rw [e] at hm; exact absurd hm.1 (by simp)
  obtain ⟨g, cap, bm, N0, hh, F, hS, hN0, hp, hheap, hcons, hids, -, -, -⟩ := h.top hl
  have hnd : (hh.map (·.id)).Nodup := (hp.map _).nodup_iff.2 h.nd
  have hhl : hh ≠ [] := fun e => hl (by rw [e] at hp; exact List.nil_perm.1 hp)
  have hmm : gt hh 0 = m := ((heap_fst hheap hnd hhl).perm hp).uniq hm
  have hlen : 0 < hh.length := List.length_pos_iff.2 hhl
  obtain ⟨a0, a1, a2⟩ := hS.at' 0 hlen
  rw [hmm] at a0 a1 a2
  simp only [Nat.zero_mul, Nat.zero_add] at a0 a1 a2
  have q3 := hS.q3
  obtain ⟨L, hL⟩ : ∃ L, hh.length = L := ⟨_, rfl⟩
  rw [hL] at q3 hlen
  have hL0 : ¬ (L : Int) = 0 := by omega
  have hL1 : (0 : Int) < (L : Int) := by omega
  have hgw := hS.glt
  have hQ : Q ≠ w.heap.size := by have := hS.Qlt; omega
  have hg : g ≠ w.heap.size := by omega
  obtain ⟨t, id, item⟩ := m
  simp only at a0 a1 a2 ⊢
  have x3 : (w.alloc (.cells #[.int .i64 0, .int .i64 0, .int .i64 0] 30)).cell? ⟨Q, 3, none⟩ = some (.slice (some ⟨g, 0, none⟩) L cap) := by rw [((Below.refl w.heap.size w).alloc (Nat.le_refl _) _).cell (by exact h.Qlt)]; exact q3
  have x0 : (w.alloc (.cells #[.int .i64 0, .int .i64 0, .int .i64 0] 30)).cell? ⟨g, 0, none⟩ = some (.int .i64 t) := by rw [((Below.refl w.heap.size w).alloc (Nat.le_refl _) _).cell (by exact hgw)]; exact a0
  have x1 : (w.alloc (.cells #[.int .i64 0, .int .i64 0, .int .i64 0] 30)).cell? ⟨g, 1, none⟩ = some (.int .i64 id) := by rw [((Below.refl w.heap.size w).alloc (Nat.le_refl _) _).cell (by exact hgw)]; exact a1
  have x2 : (w.alloc (.cells #[.int .i64 0, .int .i64 0, .int .i64 0] 30)).cell? ⟨g, 2, none⟩ = some (.int .i64 item) := by rw [((Below.refl w.heap.size w).alloc (Nat.le_refl _) _).cell (by exact hgw)]; exact a2
  have HH := Lib.hid h
  have HS1 := Lib.hid hS
  clear h hS hm hp hheap hcons hids hnd hmm hhl hl hL
  go_enter Try.func16, Try.ntmps16
  go_wp2_with (fail)
  refine bodyPost_ret (v := .tuple #[.agg #[.int .i64 t, .int .i64 id, .int .i64 item], .bool true]) ?_ rfl ⟨rfl, ?_⟩
  · simp [results, Try.results16, go_sem]
  · exact (Below.refl _ _).alloc (Nat.le_refl _) _
end Go.Proofs.Ytknoigleejbjdaa
