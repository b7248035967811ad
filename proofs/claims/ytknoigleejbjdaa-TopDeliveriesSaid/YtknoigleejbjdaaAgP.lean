/- Pop and Cancel. -/
import Derived.Test.YtknoigleejbjdaaAgO
namespace Go.Proofs.Ytknoigleejbjdaa
open Go.RowKit
set_option linter.unusedVariables false
set_option linter.unusedSimpArgs false

theorem rm_fin {w X w6 W : World} {Q g cap bm N0 i : Nat} {lim now now' : Int} {p N : Nat} {l hh : List Ev} {own : Nat → Prop} (h : QS w Q lim now p N l own) (hN0 : N0 ≤ N) (hp : hh.Perm l) (oQ : own Q) (og : own g) (ob : own bm) (hX : Below w.heap.size w X) (hi : i < hh.length) (hpost : RmPost X Q g cap bm N0 hh i w6)
    (hWs : w6.heap.size ≤ W.heap.size) (ho : W.os = w6.os) (ht : W.tape = w6.tape) (hout : W.output = w6.output) (hWc : ∀ o, o ≠ 1 → W.cell? ⟨Q, o, none⟩ = w6.cell? ⟨Q, o, none⟩) (hW1 : W.cell? ⟨Q, 1, none⟩ = some (.int .i64 now')) (hWf : ∀ o, W.frozen? ⟨Q, o, none⟩ = w6.frozen? ⟨Q, o, none⟩) (hWb : ∀ b, b < w.heap.size → b ≠ Q → W.heap[b]? = w6.heap[b]?)
    (hnow : ∀ e ∈ l.erase (gt hh i), now' ≤ e.t) (h0 : 0 ≤ now') : QS W Q lim now' p (N + 10000) (l.erase (gt hh i)) own ∧ Keep own w W := by
  obtain ⟨v', F', N', hS, hN', hperm, hheap, hcons⟩ := hpost.ex
  have hQ := h.Qlt
  have hXs := hX.size
  have hs6 := hpost.keep.size
  have hlh : hh.length ≤ 4096 := by have := h.Qnil; rw [hp.length_eq]; exact this
  have hnd : (hh.map (·.id)).Nodup := (hp.map _).nodup_iff.2 h.nd
  have hXc : ∀ o, X.cell? ⟨Q, o, none⟩ = w.cell? ⟨Q, o, none⟩ := fun o => hX.cell (by exact hQ)
  have hXf : ∀ o, X.frozen? ⟨Q, o, none⟩ = w.frozen? ⟨Q, o, none⟩ := fun o => hX.frozen (by exact hQ)
  have hfz : ∀ o, w6.frozen? ⟨Q, o, none⟩ = false := fun o => (hpost.froz o).trans ((hXf o).trans (h.fz o))
  have ha6 : AddPre w6 Q N' v' F' _ _ := hS.pre (hfz 3) (hfz 4)
  have hog : g < w.heap.size := h.olt g og
  have hobm : bm < w.heap.size := h.olt bm ob
  have haW : AddPre W Q N' v' F' _ _ := ha6.away hWs (fun o h1 _ => hWc o h1) hWf (fun b q h1 h2 => by
    refine hWb b ?_ h2
    rcases q with q | q
    · obtain rfl : g = b := by simpa [Value.ownBlock] using q
      exact hog
    · obtain rfl : bm = b := by simpa using q
      exact hobm)
  obtain ⟨e1, e2, e3⟩ := h.eraseFacts (gt hh i)
  have hperm' : v'.Perm (l.erase (gt hh i)) := hperm.trans ((erase_idx hnd hi).trans (hp.erase _))
  refine ⟨⟨⟨v', N', F', _, _, haW, by omega, hperm', hheap, hcons, ?_⟩, ?_, hW1, ?_, fun o => (hWf o).trans (hfz o), fun b q => ?_, h.limb, e1, h.pb, e2, e3, hnow, h0⟩, ?_⟩
  · intro b q
    rcases q with rfl | q | q
    · exact oQ
    · obtain rfl : g = b := by simpa [Value.ownBlock] using q
      exact og
    · obtain rfl : bm = b := by simpa using q
      exact ob
  · rw [hWc 0 (by omega), hpost.cells 0 (by omega), hXc]; exact h.c0
  · rw [hWc 2 (by omega), hpost.cells 2 (by omega), hXc]; exact h.c2
  · have := h.olt b q; omega
  · refine ⟨ho.trans (hpost.keep.os.trans hX.os), ht.trans (hpost.keep.tape.trans hX.tape), hout.trans (hpost.keep.output.trans hX.output), by omega, fun k h1 h2 => ?_⟩
    rw [hWb k h1 (fun e => h2 (by rw [e]; exact oQ)), hpost.keep.block k (by omega) (fun q => by rcases q with rfl | rfl | rfl <;> exact h2 (by assumption)), hX.block k h1]
theorem i64_zero : (Value.int .i64 ((0 : Nat) : Int)) = .int .i64 0 := rfl
theorem Fst.le {l : List Ev} {m : Ev} (h : Fst l m) : ∀ e ∈ l.erase m, m.t ≤ e.t := fun e he => by
  rcases h.2 e (List.mem_of_mem_erase he) with rfl | q
  · omega
  · unfold bef at q; omega

set_option maxHeartbeats 4000000 in
theorem cancel_some {w : World} {Q : Nat} {lim now : Int} {p N : Nat} {l : List Ev} {own : Nat → Prop} (h : QS w Q lim now p N l own) (m : Ev) (hm : m ∈ l) (hN : N ≤ 1000000000) : Calls Try.prog 18 #[.pointer (some ⟨Q, 0, none⟩), .int .i64 m.id] w fun r w' => r = .returned (.bool true) ∧ QS w' Q lim now p (N + 10000) (l.erase m) own ∧ Keep own w w' := by
  have hl : l ≠ [] := fun e => by rw [e] at hm; exact absurd hm (by simp)
  obtain ⟨g, cap, bm, N0, hh, F, hS, hN0, hp, hheap, hcons, hids, oQ, og, ob⟩ := h.top hl
  obtain ⟨i, hi, him⟩ := List.mem_iff_getElem.1 (hp.mem_iff.2 hm)
  have hgm : gt hh i = m := by rw [gt_eq hi]; exact him
  have hlh : hh.length ≤ 4096 := by have := h.Qnil; rw [hp.length_eq]; exact this
  have hF : F m.id = some i := by rw [← hgm]; exact hcons.1 i hi
  have hwf : wfI m.id := by rw [← hgm]; exact hids.2 i hi
  have hlook := hS.map.look2 m.id hwf
  rw [hF] at hlook
  simp only [Option.getD_some, Option.isSome_some] at hlook
  have q4 := hS.q4
  have hfz := h.fz 3
  have hrm := remove_any Q g cap bm N0 i hh F w hS hfz hi hids hheap hcons (by omega) (by omega)
  have HRM := Lib.hid hrm
  have HFIN := Lib.hid (fun w6 (hpost : RmPost w Q g cap bm N0 hh i w6) => rm_fin (W := w6) (now' := now) h hN0 hp oQ og ob (Below.refl _ _) hi hpost (Nat.le_refl _) rfl rfl rfl (fun _ _ => rfl) ((hpost.cells 1 (by omega)).trans h.c1) (fun _ => rfl) (fun _ _ _ => rfl) (fun e he => h.nowle e (List.mem_of_mem_erase he)) h.now0)
  obtain ⟨k, hk⟩ : ∃ k, m.id = k := ⟨_, rfl⟩
  rw [hk] at hlook ⊢
  have HGM := Lib.hid hgm
  clear hrm hS hheap hcons hids h hp hm hF hwf hgm him
  go_enter Try.func18, Try.ntmps18
  go_wp2_with (fail)
  refine HRM.out.mono ?_
  rintro e w6 ⟨rfl, hpost⟩
  have hfin := HFIN.out w6 hpost
  rw [HGM.out] at hfin
  clear hpost
  go_wp2_with (fail)
  go_ret
  exact ⟨rfl, hfin⟩
set_option maxHeartbeats 4000000 in
theorem cancel_none {w : World} {Q : Nat} {lim now : Int} {p N : Nat} {l : List Ev} {own : Nat → Prop} (h : QS w Q lim now p N l own) (k : Int) (hk : wfI k) (hno : ∀ e ∈ l, e.id ≠ k) : Calls Try.prog 18 #[.pointer (some ⟨Q, 0, none⟩), .int .i64 k] w fun r w' => r = .returned (.bool false) ∧ Below w.heap.size w w' := by
  obtain ⟨hh, N0, F, v, mv, ha, hN0, hp, hheap, hcons, hown⟩ := h.ex
  have q4 := ha.q4
  have hF : F k = none := by
    cases hq : F k with
    | none => rfl
    | some i =>
      obtain ⟨j, hj, e⟩ := hcons.2 k (by rw [hq]; simp)
      exact absurd e (hno _ (hp.mem_iff.1 (by rw [gt_eq hj]; exact List.getElem_mem hj)))
  have hlook : (Instr.lookup 49 mv (.int .i64 k) true).run Try.prog w = .ok (.tuple #[.int .i64 0, .bool false]) w := by
    rcases ha.map with ⟨rfl, _⟩ | ⟨bm, rfl, hM, _⟩
    · simpa using Maps.look_nil (w := w) true (Go.Maps.int_keyed Try.underlying3) Try.underlying49 (zeroInt w) (keyI k hk)
    · have := hM.look2 k hk
      rw [hF] at this
      exact this
  have HH := Lib.hid h
  clear ha h hheap hcons hown hp hno
  go_enter Try.func18, Try.ntmps18
  go_wp2_with (fail)
  go_ret
  exact ⟨rfl, Below.refl _ _⟩

set_option maxHeartbeats 4000000 in
theorem pop_some {w : World} {Q : Nat} {lim now : Int} {p N : Nat} {l : List Ev} {own : Nat → Prop} (h : QS w Q lim now p N l own) (m : Ev) (hm : Fst l m) (hN : N ≤ 1000000000) : Calls Try.prog 14 #[.pointer (some ⟨Q, 0, none⟩)] w fun r w' => r = .returned (.tuple #[.agg #[.int .i64 m.t, .int .i64 m.id, .int .i64 m.item], .bool true]) ∧ QS w' Q lim m.t p (N + 10000) (l.erase m) own ∧ Keep own w w' := by
  have hl : l ≠ [] := fun e => by rw [e] at hm; exact absurd hm.1 (by simp)
  obtain ⟨g, cap, bm, N0, hh, F, hS, hN0, hp, hheap, hcons, hids, oQ, og, ob⟩ := h.top hl
  have hnd : (hh.map (·.id)).Nodup := (hp.map _).nodup_iff.2 h.nd
  have hhl : hh ≠ [] := fun e => hl (by rw [e] at hp; exact List.nil_perm.1 hp)
  have hmm : gt hh 0 = m := ((heap_fst hheap hnd hhl).perm hp).uniq hm
  have hi : 0 < hh.length := List.length_pos_iff.2 hhl
  have hlh : hh.length ≤ 4096 := by have := h.Qnil; rw [hp.length_eq]; exact this
  obtain ⟨X, hX⟩ : ∃ X, X = w.alloc (.cells #[.int .i64 0, .int .i64 0, .int .i64 0] 30) := ⟨_, rfl⟩
  have hbX : Below w.heap.size w X := by rw [hX]; exact (Below.refl _ _).alloc (Nat.le_refl _) _
  have hXs : X.heap.size = w.heap.size + 1 := by rw [hX]; simp
  have hSX := hS.below hbX
  have q3 := hSX.q3
  obtain ⟨L, hL⟩ : ∃ L, hh.length = L := ⟨_, rfl⟩
  rw [hL] at q3
  have hL0 : ¬ (L : Int) = 0 := by omega
  have hfz : X.frozen? ⟨Q, 3, none⟩ = false := by rw [hbX.frozen (by exact h.Qlt)]; exact h.fz 3
  have hrm := remove_any Q g cap bm N0 0 hh F X hSX hfz hi hids hheap hcons (by omega) (by omega)
  rw [i64_zero, hmm] at hrm
  have hQ := h.Qlt
  have hQw : Q ≠ w.heap.size := by omega
  have hgw : g ≠ w.heap.size := by have := hS.glt; omega
  have hbw : bm ≠ w.heap.size := by have := hS.map.lt; omega
  have ht0 : 0 ≤ m.t := by have := h.nowle m hm.1; have := h.now0; omega
  have hfin : ∀ w6 W, RmPost X Q g cap bm N0 hh 0 w6 → w6.heap.size ≤ W.heap.size → W.os = w6.os → W.tape = w6.tape → W.output = w6.output → (∀ o, o ≠ 1 → W.cell? ⟨Q, o, none⟩ = w6.cell? ⟨Q, o, none⟩) → W.cell? ⟨Q, 1, none⟩ = some (.int .i64 m.t) → (∀ o, W.frozen? ⟨Q, o, none⟩ = w6.frozen? ⟨Q, o, none⟩) → (∀ b, b < w.heap.size → b ≠ Q → W.heap[b]? = w6.heap[b]?) → QS W Q lim m.t p (N + 10000) (l.erase m) own ∧ Keep own w W := by
    intro w6 W hpost a1 a2 a3 a4 a5 a6 a7 a8
    have := rm_fin (W := W) (now' := m.t) h hN0 hp oQ og ob hbX hi hpost a1 a2 a3 a4 a5 a6 a7 a8 (by rw [hmm]; exact hm.le) ht0
    rw [hmm] at this
    exact this
  have x0 : X.heap[w.heap.size]? = some (.cells #[.int .i64 0, .int .i64 0, .int .i64 0] 30) := by rw [hX]; exact heap_alloc_new _ _
  have hfacts : ∀ w6, RmPost X Q g cap bm N0 hh 0 w6 → w6.heap[w.heap.size]? = some (.cells #[.int .i64 0, .int .i64 0, .int .i64 0] 30) ∧ w6.cell? ⟨Q, 1, none⟩ = some (.int .i64 now) ∧ w6.frozen? ⟨Q, 1, none⟩ = false ∧ w.heap.size + 1 ≤ w6.heap.size := by
    intro w6 hpost
    refine ⟨?_, ?_, ?_, ?_⟩
    · rw [hpost.keep.block _ (by omega) (by omega)]; exact x0
    · rw [hpost.cells 1 (by omega), hbX.cell (by exact hQ)]; exact h.c1
    · rw [hpost.froz, hbX.frozen (by exact hQ)]; exact h.fz 1
    · rw [← hXs]; exact hpost.keep.size
  have HRM := Lib.hid hrm
  have HFIN := Lib.hid hfin
  have HFACTS := Lib.hid hfacts
  have HX := Lib.hid hX
  have y3 : (w.alloc (.cells #[.int .i64 0, .int .i64 0, .int .i64 0] 30)).cell? ⟨Q, 3, none⟩ = some (.slice (some ⟨g, 0, none⟩) L cap) := by rw [← hX]; exact q3
  obtain ⟨t, id, item⟩ := m
  simp only at ht0 ⊢
  clear hrm hfin hfacts hS hSX hheap hcons hids h hp hm hmm hnd hhl hl hX hbX x0 hL
  go_enter Try.func14, Try.ntmps14
  go_wp2_with (fail)
  rw [← HX.out]
  refine HRM.out.mono ?_
  rintro e w6 ⟨rfl, hpost⟩
  obtain ⟨f0, f1, f2, f3⟩ := HFACTS.out w6 hpost
  have HPOST := Lib.hid hpost
  clear hpost y3
  have e0 : w6.cell? ⟨w.heap.size, 0, none⟩ = some (.int .i64 0) := by simp [World.cell?, f0]
  have e1 : w6.cell? ⟨w.heap.size, 1, none⟩ = some (.int .i64 0) := by simp [World.cell?, f0]
  have e2 : w6.cell? ⟨w.heap.size, 2, none⟩ = some (.int .i64 0) := by simp [World.cell?, f0]
  have g0 : w6.frozen? ⟨w.heap.size, 0, none⟩ = false := by simp [World.frozen?, f0]
  have g1 : w6.frozen? ⟨w.heap.size, 1, none⟩ = false := by simp [World.frozen?, f0]
  have g2 : w6.frozen? ⟨w.heap.size, 2, none⟩ = false := by simp [World.frozen?, f0]
  have hQ6 : Q ≠ w6.heap.size := by omega
  have hw6 : w.heap.size ≠ w6.heap.size := by omega
  obtain ⟨Y, hY⟩ : ∃ Y, Y = w6.alloc (.cells #[.int .i64 t, .int .i64 id, .int .i64 item] 69) := ⟨_, rfl⟩
  have hbY : Below w6.heap.size w6 Y := by rw [hY]; exact (Below.refl _ _).alloc (Nat.le_refl _) _
  have hYs : Y.heap.size = w6.heap.size + 1 := by rw [hY]; simp
  have y1 : Y.cell? ⟨Q, 1, none⟩ = some (.int .i64 now) := by rw [hbY.cell (by simp only; omega)]; exact f1
  have yf1 : Y.frozen? ⟨Q, 1, none⟩ = false := by rw [hbY.frozen (by simp only; omega)]; exact f2
  have yn : Y.heap[w6.heap.size]? = some (.cells #[.int .i64 t, .int .i64 id, .int .i64 item] 69) := by rw [hY]; exact heap_alloc_new _ _
  have y10 : (w6.alloc (.cells #[.int .i64 t, .int .i64 id, .int .i64 item] 69)).cell? ⟨Q, 1, none⟩ = some (.int .i64 now) := by rw [← hY]; exact y1
  have yf10 : (w6.alloc (.cells #[.int .i64 t, .int .i64 id, .int .i64 item] 69)).frozen? ⟨Q, 1, none⟩ = false := by rw [← hY]; exact yf1
  have u0 : (w6.alloc (.cells #[.int .i64 t, .int .i64 id, .int .i64 item] 69)).cell? ⟨w.heap.size, 0, none⟩ = some (.int .i64 0) := by rw [← hY, hbY.cell (by simp only; omega)]; exact e0
  have v0 : (w6.alloc (.cells #[.int .i64 t, .int .i64 id, .int .i64 item] 69)).frozen? ⟨w.heap.size, 0, none⟩ = false := by rw [← hY, hbY.frozen (by simp only; omega)]; exact g0
  have u1 : (w6.alloc (.cells #[.int .i64 t, .int .i64 id, .int .i64 item] 69)).cell? ⟨w.heap.size, 1, none⟩ = some (.int .i64 0) := by rw [← hY, hbY.cell (by simp only; omega)]; exact e1
  have v1 : (w6.alloc (.cells #[.int .i64 t, .int .i64 id, .int .i64 item] 69)).frozen? ⟨w.heap.size, 1, none⟩ = false := by rw [← hY, hbY.frozen (by simp only; omega)]; exact g1
  have u2 : (w6.alloc (.cells #[.int .i64 t, .int .i64 id, .int .i64 item] 69)).cell? ⟨w.heap.size, 2, none⟩ = some (.int .i64 0) := by rw [← hY, hbY.cell (by simp only; omega)]; exact e2
  have v2 : (w6.alloc (.cells #[.int .i64 t, .int .i64 id, .int .i64 item] 69)).frozen? ⟨w.heap.size, 2, none⟩ = false := by rw [← hY, hbY.frozen (by simp only; omega)]; exact g2
  have HY := Lib.hid hY
  have HBY := Lib.hid hbY
  clear hY hbY
  go_wp2_with (fail)
  rw [← HY.out]
  have hbY := HBY.out
  have hQY : Q ≠ w.heap.size := hQw
  refine bodyPost_ret (v := .tuple #[.agg #[.int .i64 t, .int .i64 id, .int .i64 item], .bool true]) ?_ rfl ⟨rfl, ?_⟩
  · rw [← HY.out] at u0 u1 u2
    simp [results, Try.results14, go_sem, u0, u1, u2]
  · refine HFIN.out w6 _ HPOST.out ?_ ?_ ?_ ?_ ?_ ?_ ?_ ?_
    · simp [World.setCell]; omega
    · exact hbY.os
    · exact hbY.tape
    · exact hbY.output
    · intro o ho
      rw [World.cell?_setCell_other _ _ _ _ (by simp <;> omega), World.cell?_setCell_other _ _ _ _ (by simp <;> omega), World.cell?_setCell_other _ _ _ _ (by simp <;> omega), World.cell?_setCell_other _ _ _ _ (by simp <;> omega)]
      exact hbY.cell (by simp only; omega)
    · rw [World.cell?_setCell_other _ _ _ _ (by simp <;> omega), World.cell?_setCell_other _ _ _ _ (by simp <;> omega), World.cell?_setCell_other _ _ _ _ (by simp <;> omega)]
      exact World.cell?_setCell_same _ _ _ y1
    · intro o
      rw [World.frozen?_setCell, World.frozen?_setCell, World.frozen?_setCell, World.frozen?_setCell]
      exact hbY.frozen (by simp only; omega)
    · intro b h1 h2
      rw [Below.heap_setCell _ _ _ _ (by simp only; omega), Below.heap_setCell _ _ _ _ (by simp only; omega), Below.heap_setCell _ _ _ _ (by simp only; omega), Below.heap_setCell _ _ _ _ (by simp only; omega)]
      exact hbY.block b (by omega)
end Go.Proofs.Ytknoigleejbjdaa
