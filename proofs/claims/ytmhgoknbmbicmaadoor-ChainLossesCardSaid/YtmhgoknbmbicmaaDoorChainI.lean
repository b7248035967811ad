/- The steps of Disclose's loop. -/
import Derived.Test.YtmhgoknbmbicmaaDoorChainH
namespace Go.Proofs.YtmhgoknbmbicmaaDoor
open Go.RowKit
set_option linter.unusedVariables false
set_option linter.unusedSimpArgs false

theorem keepM_le (i : Int) (l : List Msg) (k : Nat) : (keepM i (l.take k)).length ≤ k := Nat.le_trans (List.length_filter_le _ _) (by rw [List.length_take]; omega)

theorem DRel.skip {w1 : World} {B R g cap : Nat} {i : Int} {K : Nat → Int × Int} {l : List Msg} {k : Nat} {ov : Value} {X : World} {m : Msg} (h : DRel w1 B R g cap i K l k ov X) (hm : l[k]? = some m) (hi : m.iv ≤ i) (hr : (rightTag (K m.iv.toNat) m.b == m.tag) = false) :
    DRel w1 B R g cap i K l (k + 1) ov X := by
  have e1 : keepM i (l.take (k + 1)) = keepM i (l.take k) := by
    unfold keepM; rw [take_filter_succ hm, if_neg (by rw [decide_eq_true_eq]; omega), List.append_nil]
  have e2 : outM K i (l.take (k + 1)) = outM K i (l.take k) := by
    unfold outM; rw [take_filter_succ hm, if_neg (by rw [hr, Bool.and_false]; simp), List.append_nil]
  exact { h with kept := (by rw [e1]; exact h.kept), rest := (fun j m h1 h2 => h.rest j m (by omega) h2), c5 := (by rw [e1]; exact h.c5), out := (by rw [e2]; exact h.out) }

theorem DRel.keep {w1 : World} {B R g cap : Nat} {i : Int} {K : Nat → Int × Int} {l : List Msg} {k n : Nat} {ov : Value} {X : World} {m : Msg} (h : DRel w1 B R g cap i K l k ov X) (hm : l[k]? = some m) (hi : i < m.iv)
    (hn : (keepM i (l.take k)).length = n) (hgR : g ≠ R) (hkc : k < cap) (hgB : g < B) (hRB : R < B) :
    DRel w1 B R g cap i K l (k + 1) ov ((X.setCells g (n * 3) [.int .i64 m.iv, .slice m.p m.b.length m.cap, .int .u64 m.tag]).setCell ⟨R, 135, none⟩ (.slice (some ⟨g, 0, none⟩) (n + 1) cap)) := by
  have hnk : n ≤ k := by rw [← hn]; exact keepM_le i l k
  have e1 : keepM i (l.take (k + 1)) = keepM i (l.take k) ++ [m] := by
    unfold keepM; rw [take_filter_succ hm, if_pos (by rw [decide_eq_true_eq]; omega)]
  have e2 : outM K i (l.take (k + 1)) = outM K i (l.take k) := by
    unfold outM; rw [take_filter_succ hm, if_neg (by rw [decide_eq_false (by omega : ¬ m.iv ≤ i), Bool.false_and]; simp), List.append_nil]
  have hth := h.own.there
  have hin : ∀ j, j < 3 → ((X.setCells g (n * 3) [.int .i64 m.iv, .slice m.p m.b.length m.cap, .int .u64 m.tag]).setCell ⟨R, 135, none⟩ (.slice (some ⟨g, 0, none⟩) (n + 1) cap)).cell? ⟨g, n * 3 + j, none⟩ = [Value.int .i64 m.iv, .slice m.p m.b.length m.cap, .int .u64 m.tag][j]? := by
    intro j hj
    rw [World.cell?_setCell_other _ _ _ _ (by first | (simp; done) | (simp; intro e; exact absurd e.symm hgR)),
      World.cell?_setCells_in g [.int .i64 m.iv, .slice m.p m.b.length m.cap, .int .u64 m.tag] (n * 3) X (fun q hq => by obtain ⟨⟨v, hv⟩, _⟩ := hth (n * 3 + q) (by simp at hq; omega); rw [hv]; rfl) j (by simpa using hj)]
    rw [List.getElem?_eq_getElem]
  have hout : ∀ o, o < n * 3 ∨ n * 3 + 3 ≤ o → ((X.setCells g (n * 3) [.int .i64 m.iv, .slice m.p m.b.length m.cap, .int .u64 m.tag]).setCell ⟨R, 135, none⟩ (.slice (some ⟨g, 0, none⟩) (n + 1) cap)).cell? ⟨g, o, none⟩ = X.cell? ⟨g, o, none⟩ := by
    intro o ho
    rw [World.cell?_setCell_other _ _ _ _ (by first | (simp; done) | (simp; intro e; exact absurd e.symm hgR)), World.cell?_setCells_out g _ _ _ ⟨g, o, none⟩ (fun _ _ => by simpa using ho)]
  have hRc : ∀ o, (X.setCells g (n * 3) [.int .i64 m.iv, .slice m.p m.b.length m.cap, .int .u64 m.tag]).cell? ⟨R, o, none⟩ = X.cell? ⟨R, o, none⟩ := fun o => World.cell?_setCells_out g _ _ _ ⟨R, o, none⟩ (fun e _ => absurd e.symm hgR)
  have hblk : ∀ b, b ≠ R → b ≠ g → ((X.setCells g (n * 3) [.int .i64 m.iv, .slice m.p m.b.length m.cap, .int .u64 m.tag]).setCell ⟨R, 135, none⟩ (.slice (some ⟨g, 0, none⟩) (n + 1) cap)).heap[b]? = X.heap[b]? := fun b h1 h2 => by
    rw [Below.heap_setCell _ _ _ _ (by exact h1), heap_setCells _ _ _ _ _ h2]
  have hos := outside_setCells g [.int .i64 m.iv, .slice m.p m.b.length m.cap, .int .u64 m.tag] (n * 3) X
  have hsz : ((X.setCells g (n * 3) [.int .i64 m.iv, .slice m.p m.b.length m.cap, .int .u64 m.tag]).setCell ⟨R, 135, none⟩ (.slice (some ⟨g, 0, none⟩) (n + 1) cap)).heap.size = X.heap.size := by
    show (Array.modify _ _ _).size = _
    rw [Array.size_modify, size_setCells]
  refine ⟨(h.own.setCells _ _ _).setCell _ _, ?_, ?_, ?_, ?_, (h.th.setCells _ _ _).setCell _ _, hos.1.trans h.os, hos.2.1.trans h.tape, hos.2.2.trans h.output, by rw [hsz]; exact h.size, fun b h1 h2 h3 => (hblk b h2 h3).trans (h.block b h1 h2 h3), ?_⟩
  · intro j u hu
    rw [e1, msgCells_append] at hu
    have hl := msgCells_len (keepM i (l.take k))
    rw [hn] at hl
    by_cases hj : j < n * 3
    · rw [hout j (.inl hj)]
      exact h.kept j u (by rw [List.getElem?_append_left (by omega)] at hu; exact hu)
    · rw [List.getElem?_append_right (by omega), hl] at hu
      have hj3 : j - n * 3 < 3 := by have := (List.getElem?_eq_some_iff.1 hu).1; simpa [msgCells] using this
      have q := hin (j - n * 3) hj3
      rw [show n * 3 + (j - n * 3) = j by omega] at q
      rw [q, ← hu]
      simp [msgCells]
  · intro j q h1 h2
    obtain ⟨q0, q1, q2⟩ := h.rest j q (by omega) h2
    exact ⟨by rw [hout _ (by omega)]; exact q0, by rw [hout _ (by omega)]; exact q1, by rw [hout _ (by omega)]; exact q2⟩
  · rw [e1, List.length_append, hn]
    exact World.cell?_setCell_same _ _ _ ((hRc 135).trans h.c5)
  · intro o ho
    rw [World.cell?_setCell_other _ _ _ _ (by simp <;> omega), hRc]
    exact h.cs o ho
  · rw [e2]
    refine ⟨h.out.1, ?_⟩
    rcases h.out.2 with q | ⟨b, c, cur, hv, hb, hh, rest⟩
    · exact .inl q
    · exact .inr ⟨b, c, cur, hv, hb, (hblk b (by omega) (by omega)).trans hh, rest⟩

theorem DRel.give {w1 : World} {B R g cap : Nat} {i : Int} {K : Nat → Int × Int} {l : List Msg} {k : Nat} {ov ov' : Value} {X X' : World} {m : Msg} (h : DRel w1 B R g cap i K l k ov X) (hm : l[k]? = some m) (hi : m.iv ≤ i) (hr : (rightTag (K m.iv.toNat) m.b == m.tag) = true)
    (hgB : g < B) (hRB : R < B) (hB : B ≤ X.heap.size) (hg : X.grownBy X' ov.ownBlock) (hw1 : w1.heap.size ≤ B)
    (hrow : X'.ownsRow B 36 1 ov' ((outM K i (l.take k)).length + 1) (outCells (outM K i (l.take k)) ++ [.slice m.p m.b.length m.cap])) :
    DRel w1 B R g cap i K l (k + 1) ov' X' := by
  have e1 : keepM i (l.take (k + 1)) = keepM i (l.take k) := by
    unfold keepM; rw [take_filter_succ hm, if_neg (by rw [decide_eq_true_eq]; omega), List.append_nil]
  have e2 : outM K i (l.take (k + 1)) = outM K i (l.take k) ++ [m] := by
    unfold outM; rw [take_filter_succ hm, if_pos (by rw [hr, Bool.and_true, decide_eq_true_eq]; exact hi)]
  have hne : ∀ b, b < B → some b ≠ ov.ownBlock := fun b hb e => by have := (h.out.lt b e.symm).1; omega
  have hblk : ∀ b, b < B → X'.heap[b]? = X.heap[b]? := fun b hb => hg.block b (by omega) (hne b hb)
  have hc : ∀ b o, b < B → X'.cell? ⟨b, o, none⟩ = X.cell? ⟨b, o, none⟩ := fun b o hb => World.cell?_of_block (hblk b hb)
  refine ⟨h.own.same (hblk g hgB), ?_, ?_, ?_, ?_, ?_, hg.os.trans h.os, hg.tape.trans h.tape, hg.output.trans h.output, Nat.le_trans h.size hg.size, fun b h1 h2 h3 => (hblk b (by omega)).trans (h.block b h1 h2 h3), ?_⟩
  · intro j u hu; rw [e1] at hu; rw [hc _ _ hgB]; exact h.kept j u hu
  · intro j q h1 h2
    obtain ⟨q0, q1, q2⟩ := h.rest j q (by omega) h2
    exact ⟨by rw [hc _ _ hgB]; exact q0, by rw [hc _ _ hgB]; exact q1, by rw [hc _ _ hgB]; exact q2⟩
  · rw [e1, hc _ _ hRB]; exact h.c5
  · intro o ho; rw [hc _ _ hRB]; exact h.cs o ho
  · intro j hj
    obtain ⟨⟨v, q1⟩, q2⟩ := h.th j hj
    exact ⟨⟨v, (hc _ _ hRB).trans q1⟩, (World.frozen?_of_block (hblk R hRB)).trans q2⟩
  · rw [e2, List.length_append]
    unfold outCells at hrow ⊢
    rw [List.map_append]
    exact hrow
end Go.Proofs.YtmhgoknbmbicmaaDoor
