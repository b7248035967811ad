/- The row of events as appending sees it; what add does. -/
import Derived.Test.YtknoigleejbjdaaAgH
import Derived.Deep.AppendLies
import Derived.Deep.RegionLaw
namespace Go.Proofs.Ytknoigleejbjdaa
open Go.RowKit
set_option linter.unusedVariables false
set_option linter.unusedSimpArgs false

def evCells (l : List Ev) : List Value := l.flatMap fun e => [.int .i64 e.t, .int .i64 e.id, .int .i64 e.item]
theorem evCells_len (l : List Ev) : (evCells l).length = l.length * 3 := by
  induction l with
  | nil => rfl
  | cons a r ih => simp only [evCells, List.flatMap_cons, List.length_append] at ih ⊢; simp [ih]; omega
theorem evCells_app (a b : List Ev) : evCells (a ++ b) = evCells a ++ evCells b := by simp [evCells]
theorem evCells_at (l : List Ev) (i : Nat) (h : i < l.length) : (evCells l)[i * 3]? = some (.int .i64 (gt l i).t) ∧ (evCells l)[i * 3 + 1]? = some (.int .i64 (gt l i).id) ∧ (evCells l)[i * 3 + 2]? = some (.int .i64 (gt l i).item) := by
  induction l generalizing i with
  | nil => simp at h
  | cons a r ih =>
    have e : evCells (a :: r) = [.int .i64 a.t, .int .i64 a.id, .int .i64 a.item] ++ evCells r := by simp [evCells]
    cases i with
    | zero => rw [e]; simp [gt]
    | succ i =>
      obtain ⟨h0, h1, h2⟩ := ih i (by simpa using h)
      have eg : gt (a :: r) (i + 1) = gt r i := by simp [gt]
      rw [e, eg]
      refine ⟨?_, ?_, ?_⟩
      · rw [List.getElem?_append_right (by simp; omega), show (i + 1) * 3 - [Value.int .i64 a.t, .int .i64 a.id, .int .i64 a.item].length = i * 3 by simp; omega]; exact h0
      · rw [List.getElem?_append_right (by simp; omega), show (i + 1) * 3 + 1 - [Value.int .i64 a.t, .int .i64 a.id, .int .i64 a.item].length = i * 3 + 1 by simp; omega]; exact h1
      · rw [List.getElem?_append_right (by simp; omega), show (i + 1) * 3 + 2 - [Value.int .i64 a.t, .int .i64 a.id, .int .i64 a.item].length = i * 3 + 2 by simp; omega]; exact h2
theorem HS.row {w : World} {Q g cap bm N : Nat} {l : List Ev} {F : Int → Option Nat} (h : HS w Q g cap bm N l F) : w.ownsRow 0 69 3 (.slice (some ⟨g, 0, none⟩) l.length cap) l.length (evCells l) := by
  obtain ⟨cur, hh, hs⟩ := h.own
  refine ⟨evCells_len l, .inr ⟨g, cap, cur, rfl, Nat.zero_le _, hh, h.le, by unfold maxLen; exact h.capb, hs, ?_⟩⟩
  apply List.ext_getElem?
  intro j
  rw [List.getElem?_take]
  split
  · rename_i hj
    obtain ⟨a0, a1, a2⟩ := h.at' (j / 3) (by omega)
    obtain ⟨b0, b1, b2⟩ := evCells_at l (j / 3) (by omega)
    have key : ∀ u, w.cell? ⟨g, j, none⟩ = some u → cur.toList[j]? = some u := fun u q => by
      rw [cell_of_row _ g j cur _ (0, 0) hh] at q
      rw [← q]; simp
    rcases (show j = j / 3 * 3 ∨ j = j / 3 * 3 + 1 ∨ j = j / 3 * 3 + 2 by omega) with e | e | e
    · rw [← e] at a0 b0; rw [b0]; exact key _ a0
    · rw [← e] at a1 b1; rw [b1]; exact key _ a1
    · rw [← e] at a2 b2; rw [b2]; exact key _ a2
  · rename_i hj
    rw [List.getElem?_eq_none (by rw [evCells_len]; omega)]
/-- a heap, out of its row -/
theorem HS.ofRow {w : World} {Q g cap bm N : Nat} {l : List Ev} {F : Int → Option Nat} (hr : w.ownsRow 0 69 3 (.slice (some ⟨g, 0, none⟩) l.length cap) l.length (evCells l)) (q3 : w.cell? ⟨Q, 3, none⟩ = some (.slice (some ⟨g, 0, none⟩) l.length cap)) (q4 : w.cell? ⟨Q, 4, none⟩ = some (.map (some bm)))
    (hM : MapAt w bm N F) (h1 : Q ≠ g) (h2 : Q ≠ bm) (h3 : g ≠ bm) (hQ : Q < w.heap.size) : HS w Q g cap bm N l F := by
  rcases hr.2 with ⟨e, _⟩ | ⟨g', cap', cur, hv, hb, hh, hn, hc, hs, ht⟩
  · cases e
  · obtain ⟨rfl, rfl⟩ : g = g' ∧ cap = cap' := by simpa using hv
    have hcell : ∀ j u, (evCells l)[j]? = some u → w.cell? ⟨g, j, none⟩ = some u := fun j u hu => by
      have q := hr.cells (g := g) rfl j u hu
      rw [show (⟨g, 0, none⟩ : Addr).add j = ⟨g, j, none⟩ from by unfold Addr.add; split <;> simp_all] at q
      exact q
    refine ⟨q3, q4, ⟨cur, hh, hs⟩, fun i hi => ?_, hn, by unfold maxLen at hc; exact hc, hM, h1, h2, h3, hQ⟩
    obtain ⟨b0, b1, b2⟩ := evCells_at l i hi
    exact ⟨hcell _ _ b0, hcell _ _ b1, hcell _ _ b2⟩
theorem infoEv : (Try.prog.info? 69).map (fun i => (i.zero, i.size, i.bytes)) = some (some (.agg #[.int .i64 0, .int .i64 0, .int .i64 0]), 3, 24) := by kernel_rfl
theorem info_parts {t : TypeId} {x : Option Value × Nat × Nat} (h : (Try.prog.info? t).map (fun i => (i.zero, i.size, i.bytes)) = some x) : ∃ i, Try.prog.info? t = some i ∧ i.zero = x.1 ∧ i.size = x.2.1 ∧ i.bytes = x.2.2 := by
  cases hi : Try.prog.info? t with
  | none => rw [hi] at h; simp at h
  | some i => rw [hi] at h; simp at h; subst h; exact ⟨i, rfl, rfl, rfl, rfl⟩
/-- a heap ahead of an add: its row, its map (or none yet) -/
structure AddPre (w : World) (Q N : Nat) (l : List Ev) (F : Int → Option Nat) (v mv : Value) : Prop where
  q3 : w.cell? ⟨Q, 3, none⟩ = some v
  q4 : w.cell? ⟨Q, 4, none⟩ = some mv
  row : w.ownsRow 0 69 3 v l.length (evCells l)
  far : ∀ q, v.ownBlock = some q → q ≠ Q
  map : (mv = .map none ∧ l = [] ∧ (F = fun _ => none) ∧ v = .slice none 0 0) ∨ ∃ bm, mv = .map (some bm) ∧ MapAt w bm N F ∧ Q ≠ bm ∧ v.ownBlock ≠ some bm
  Qlt : Q < w.heap.size
  f3 : w.frozen? ⟨Q, 3, none⟩ = false
  f4 : w.frozen? ⟨Q, 4, none⟩ = false
theorem HS.pre {w : World} {Q g cap bm N : Nat} {l : List Ev} {F : Int → Option Nat} (h : HS w Q g cap bm N l F) (f3 : w.frozen? ⟨Q, 3, none⟩ = false) (f4 : w.frozen? ⟨Q, 4, none⟩ = false) : AddPre w Q N l F (.slice (some ⟨g, 0, none⟩) l.length cap) (.map (some bm)) :=
  ⟨h.q3, h.q4, h.row, fun q e => by obtain rfl : g = q := by simpa [Value.ownBlock] using e
                                    exact fun e => h.ne1 e.symm, .inr ⟨bm, rfl, h.map, h.ne2, by simp [Value.ownBlock]; exact h.ne3⟩, h.Qlt, f3, f4⟩
end Go.Proofs.Ytknoigleejbjdaa
