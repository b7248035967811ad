/- The reference's queue: Push, taken. -/
import Derived.Test.YtknoigleejbjdaaAgRc
namespace Go.Proofs.Ytknoigleejbjdaa
open Go.RowKit
set_option linter.unusedVariables false
set_option linter.unusedSimpArgs false

set_option maxHeartbeats 8000000 in
theorem rpush_ok {w : World} {P : Nat} {lim now : Int} {p : Nat} {l : List Ev} {own : Nat → Prop} (h : RS w P lim now p l own) (hl : l.length ≤ 100000) (t item : Int) (he : pushErr lim now l.length t = 0) (hpb : p < 1000000000) : Calls Try.prog 21 #[.pointer (some ⟨P, 0, none⟩), .int .i64 t, .int .i64 item] w fun r w' => r = .returned (.tuple #[.int .i64 ((p : Int) + 1), .int .i64 0]) ∧ RPost w P lim now (p + 1) (l ++ [⟨t, ((p + 1 : Nat) : Int), item⟩]) own w' := by
  have c0 := h.c0
  have c1 := h.c1
  have c2 := h.c2
  have f2 := h.fz 2
  have f3 := h.fz 3
  have hP := h.Plt
  obtain ⟨v, q3, hrow, hvo, hvP⟩ := h.ex
  obtain ⟨x, c, q3', hlc, hcm, -⟩ := h.sl
  obtain rfl : v = .slice x l.length c := by rw [q3] at q3'; exact Option.some.inj q3'
  clear q3'
  unfold pushErr at he
  have h1 : ¬ t < 0 := fun q => by rw [if_pos q] at he; omega
  rw [if_neg h1] at he
  have h2 : ¬ t < now := fun q => by rw [if_pos q] at he; omega
  rw [if_neg h2] at he
  have h3 : ¬ lim ≤ (l.length : Int) := fun q => by rw [if_pos q] at he; omega
  obtain ⟨L, hL⟩ : ∃ L, l.length = L := ⟨_, rfl⟩
  rw [hL] at q3 h3 hlc hl
  have d3 : World.cell? w.drew ⟨P, 3, none⟩ = some (.slice x L c) := q3
  have d0 : World.cell? w.drew ⟨P, 0, none⟩ = some (.int .i64 lim) := c0
  have hwp : IntKind.i64.wrap ((p : Int) + 1) = (p : Int) + 1 := i64_wrap_eq ⟨by omega, by omega⟩
  obtain ⟨X, hX⟩ : ∃ X, X = w.setCell ⟨P, 2, none⟩ (.int .i64 ((p : Int) + 1)) := ⟨_, rfl⟩
  have hXb : ∀ b, b ≠ P → X.heap[b]? = w.heap[b]? := fun b hb => by rw [hX]; exact Below.heap_setCell _ _ _ _ hb
  have hXs : X.heap.size = w.heap.size := by rw [hX]; simp [World.setCell]
  have hXc : ∀ o, o ≠ 2 → X.cell? ⟨P, o, none⟩ = w.cell? ⟨P, o, none⟩ := fun o ho => by rw [hX, World.cell?_setCell_other _ _ _ _ (by simp <;> omega)]
  have hX2 : X.cell? ⟨P, 2, none⟩ = some (.int .i64 ((p : Int) + 1)) := by rw [hX]; exact World.cell?_setCell_same _ _ _ c2
  have hXf : ∀ o, X.frozen? ⟨P, o, none⟩ = w.frozen? ⟨P, o, none⟩ := fun o => by rw [hX, World.frozen?_setCell]
  have hX3 : X.cell? ⟨P, 3, none⟩ = some (.slice x L c) := (hXc 3 (by omega)).trans q3
  have hXf3 : X.frozen? ⟨P, 3, none⟩ = false := (hXf 3).trans f3
  have HROW := Lib.hid hrow
  have HX := Lib.hid hX
  have HXB := Lib.hid hXb
  have HXC := Lib.hid hXc
  have HXF := Lib.hid hXf
  have HH := Lib.hid h
  have HLL := Lib.hid hL
  clear h hX hXb hXc hXf hrow hL
  obtain ⟨EV, hEV⟩ : ∃ EV : Obj, EV = .cells #[.int .i64 t, .int .i64 ((p : Int) + 1), .int .i64 item] 30 := ⟨_, rfl⟩
  have hrowX : X.ownsRow 0 30 3 (.slice x L c) L (evCells l) := by
    rw [← HLL.out]
    exact row_same HROW.out (fun b e => HXB.out b (fun e2 => hvP (by rw [← e2]; exact e)))
  have HROWX := Lib.hid hrowX
  have HNEWS := Lib.hid (show ∀ j u, [Value.int .i64 t, .int .i64 ((p : Int) + 1), .int .i64 item][j]? = some u → (X.alloc (.cells #[.int .i64 t, .int .i64 ((p : Int) + 1), .int .i64 item] 30)).drew.drew.cell? ((⟨w.heap.size, 0, none⟩ : Addr).add j) = some u from by
    rw [← hXs]
    exact World.news_of_block (w := (X.alloc (.cells #[.int .i64 t, .int .i64 ((p : Int) + 1), .int .i64 item] 30)).drew.drew) (cs := #[.int .i64 t, .int .i64 ((p : Int) + 1), .int .i64 item]) (t := 30) (fr := (0, 0)) (heap_alloc_new X _))
  have hvP' : (Value.slice x L c).ownBlock ≠ some P := by
    intro e
    refine hvP ?_
    rw [HLL.out]; exact e
  have HOLD := Lib.hid (show ∀ w5 : World, (X.alloc (.cells #[.int .i64 t, .int .i64 ((p : Int) + 1), .int .i64 item] 30)).drew.drew.grownBy w5 (Value.slice x L c).ownBlock → ∀ b, b < w.heap.size → (Value.slice x L c).ownBlock ≠ some b → w5.heap[b]? = X.heap[b]? from fun w5 hg b h1 h2 => (hg.block b (by simp; omega) (fun e => h2 e.symm)).trans (heap_alloc_old _ _ (by omega)))
  obtain ⟨i0, hinf, hz0, hz1, hz2⟩ := info_parts infoAEv
  have hvo' : ∀ b, (Value.slice x L c).ownBlock = some b → own b := fun b e => hvo b (by rw [HLL.out]; exact e)
  have HFIN := Lib.hid (show ∀ (g5 cap5 : Nat) (w5 : World), w5.ownsRow 0 30 3 (.slice (some ⟨g5, 0, none⟩) (L + 1) cap5) (L + 1) (evCells l ++ [.int .i64 t, .int .i64 ((p : Int) + 1), .int .i64 item]) → (X.alloc (.cells #[.int .i64 t, .int .i64 ((p : Int) + 1), .int .i64 item] 30)).drew.drew.grownBy w5 (Value.slice x L c).ownBlock → ((Value.slice x L c).ownBlock = some g5 ∨ g5 = (X.alloc (.cells #[.int .i64 t, .int .i64 ((p : Int) + 1), .int .i64 item] 30)).drew.drew.heap.size) → RPost w P lim now (p + 1) (l ++ [⟨t, ((p + 1 : Nat) : Int), item⟩]) own (w5.setCell ⟨P, 3, none⟩ (.slice (some ⟨g5, 0, none⟩) (L + 1) cap5)) from by
    intro g5 cap5 w5 hrow5 hg5 hat5
    have hold := HOLD.out w5 hg5
    have hs5 : w.heap.size + 1 ≤ w5.heap.size := by have := hg5.size; simp at this; omega
    have hPc := hold P hP hvP'
    have hg5P : P ≠ g5 := by
      rcases hat5 with q | q
      · intro e; rw [← e] at q; exact hvP' q
      · rw [q]; simp; omega
    have hg5lt : g5 < w5.heap.size := (World.ownsRow.lt hrow5 g5 rfl).2
    have hblk : ∀ b, b ≠ P → (w5.setCell ⟨P, 3, none⟩ (.slice (some ⟨g5, 0, none⟩) (L + 1) cap5)).heap[b]? = w5.heap[b]? := fun b hb => Below.heap_setCell _ _ _ _ hb
    have hcs : ∀ o, o ≠ 3 → (w5.setCell ⟨P, 3, none⟩ (.slice (some ⟨g5, 0, none⟩) (L + 1) cap5)).cell? ⟨P, o, none⟩ = X.cell? ⟨P, o, none⟩ := fun o ho => by
      rw [World.cell?_setCell_other _ _ _ _ (by simp [ho])]; exact World.cell?_of_block hPc
    have hsz : (w5.setCell ⟨P, 3, none⟩ (.slice (some ⟨g5, 0, none⟩) (L + 1) cap5)).heap.size = w5.heap.size := by simp [World.setCell]
    have hln : (l ++ [(⟨t, ((p + 1 : Nat) : Int), item⟩ : Ev)]).length = L + 1 := by rw [List.length_append, HLL.out]; rfl
    have hev : evCells (l ++ [(⟨t, ((p + 1 : Nat) : Int), item⟩ : Ev)]) = evCells l ++ [.int .i64 t, .int .i64 ((p : Int) + 1), .int .i64 item] := by rw [evCells_app]; rfl
    refine ⟨⟨fun b => own b ∨ (w.heap.size ≤ b ∧ b < w5.heap.size), ⟨⟨_, World.cell?_setCell_same _ _ _ ((World.cell?_of_block hPc).trans hX3), ?_, ?_, ?_⟩, ?_, ?_, ?_, ?_, .inl HH.out.ownP, ?_⟩, ?_⟩, ?_⟩
    · rw [hln, hev]
      exact row_same hrow5 (fun b e => by
        have e' : g5 = b := Option.some.inj e
        rw [← e']
        exact hblk g5 (fun q => hg5P q.symm))
    · intro b e
      have e' : g5 = b := Option.some.inj e
      rw [← e']
      rcases hat5 with q | q
      · exact .inl (hvo' g5 q)
      · right; refine ⟨?_, hg5lt⟩; rw [q]; simp; omega
    · intro e
      have e' : g5 = P := Option.some.inj e
      exact hg5P e'.symm
    · rw [hcs 0 (by omega), HXC.out 0 (by omega)]; exact HH.out.c0
    · rw [hcs 1 (by omega), HXC.out 1 (by omega)]; exact HH.out.c1
    · rw [hcs 2 (by omega)]; exact hX2
    · intro o; rw [World.frozen?_setCell]; exact (World.frozen?_of_block hPc).trans ((HXF.out o).trans (HH.out.fz o))
    · intro b q
      rw [hsz]
      rcases q with q | q
      · have := HH.out.olt b q; omega
      · exact q.2
    · intro b q
      rcases q with q | q
      · exact .inl q
      · exact .inr q.1
    · refine ⟨?_, ?_, ?_, by omega, fun b h1 h2 => ?_⟩
      · exact hg5.os.trans (by rw [HX.out]; rfl)
      · exact hg5.tape.trans (by rw [HX.out]; rfl)
      · exact hg5.output.trans (by rw [HX.out]; rfl)
      · have hbP : b ≠ P := fun e => h2 (by rw [e]; exact HH.out.ownP)
        rw [hblk b hbP, hold b h1 (fun e => h2 (hvo' b e))]
        exact HXB.out b hbP)
  clear hrowX hEV
  go_enter Try.func21, Try.ntmps21
  go_wp2_with (fail)
  go_region
  all_goals
    go_wp2_with (fail)
    rw [← HX.out]
    go_region_law ((first
      | (refine step_append_lies _ rfl (.tmp 40) (.tmp 48) 71 rfl 0 30 i0 _ 3 24 Try.underlying71 hinf hz0 hz1 hz2 rfl (by omega) (.slice x L c) L (evCells l) (by simp only [Act.eval, Act.put, List.setIfInBounds_toArray, List.set_cons_zero, List.set_cons_succ]; rfl) (World.ownsRow.alloc HROWX.out _) _ 1 1 [.int .i64 t, .int .i64 ((p : Int) + 1), .int .i64 item] rfl rfl HNEWS.out (by intro u hu; simp at hu; rcases hu with rfl | rfl | rfl <;> rfl) (by omega) (by unfold maxLen; omega) (by omega) (Nat.zero_le _) _ rfl ?_; intro g5 cap5 w5 hrow5 hg5 hat5 hlt5; have hP5 := HOLD.out w5 hg5 P hP hvP'; have q5 := (World.cell?_of_block hP5).trans hX3; have f5 := (World.frozen?_of_block hP5).trans hXf3; have p5 := (World.cell?_of_block hP5).trans hX2)))
  all_goals
    have HF := Lib.hid (HFIN.out g5 cap5 w5 hrow5 hg5 hat5)
    clear hrow5 hg5 hat5 hP5
    go_wp2_with (fail)
    go_ret2
    exact ⟨rfl, HF.out⟩
end Go.Proofs.Ytknoigleejbjdaa
