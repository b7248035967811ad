/- What holds between the parts of TopDeliveries. -/
import Derived.Test.YtknoigleejbjdaaLnH
namespace Go.Proofs.Ytknoigleejbjdaa
open Go.RowKit
set_option linter.unusedVariables false
set_option linter.unusedSimpArgs false

theorem QT.facts' {B : Nat} {oth : Nat → Prop} {w : World} {Q : Nat} {s : St} (h : QT B oth w Q s) : (s.l.map (·.id)).Nodup := by
  obtain ⟨own, h, ho⟩ := h
  exact h.nd
/-- a row of numbers -/
def IRow (w : World) (g n : Nat) (A : Nat → Int) : Prop := g < w.heap.size ∧ ∀ j, j < n → w.cell? ⟨g, j, none⟩ = some (.int .i64 (A j)) ∧ w.frozen? ⟨g, j, none⟩ = false
theorem IRow.same {w w' : World} {g n : Nat} {A : Nat → Int} (h : IRow w g n A) (hb : w'.heap[g]? = w.heap[g]?) (hs : w.heap.size ≤ w'.heap.size) : IRow w' g n A :=
  ⟨Nat.lt_of_lt_of_le h.1 hs, fun j hj => ⟨(World.cell?_of_block hb).trans (h.2 j hj).1, (World.frozen?_of_block hb).trans (h.2 j hj).2⟩⟩
theorem IRow.set {w : World} {g n : Nat} {A : Nat → Int} (h : IRow w g n A) {i : Nat} (hi : i < n) (b : Int) : IRow (w.setCell ⟨g, i, none⟩ (.int .i64 b)) g n (fun j => if j = i then b else A j) := by
  refine ⟨by simpa [World.setCell] using h.1, fun j hj => ⟨?_, by rw [World.frozen?_setCell]; exact (h.2 j hj).2⟩⟩
  by_cases e : j = i
  · subst e; simp only [if_true]; exact World.cell?_setCell_same _ _ _ (h.2 j hj).1
  · simp only; rw [if_neg e, World.cell?_setCell_other _ _ _ _ (by simp [e])]; exact (h.2 j hj).1
theorem IRow.ofRow {w : World} {base : Nat} {g n : Nat} {c : Nat} {xs : List Value} {A : Nat → Int} (h : w.ownsRow base 3 1 (.slice (some ⟨g, 0, none⟩) n c) n xs) (hf : ∀ j, j < n → xs[j]? = some (.int .i64 (A j))) (hn : g < w.heap.size) : IRow w g n A := by
  refine ⟨hn, fun j hj => ⟨?_, World.ownsRow.frozenAt h j⟩⟩
  rw [World.ownsRow.cellAt h j (by omega)]
  exact hf j hj
theorem infoInt : (Try.prog.info? 3).map (fun i => (i.zero, i.size, i.bytes)) = some (some (.int .i64 0), 1, 8) := by kernel_rfl

/-- the blocks beside the queue -/
def ThreeB (b0 bi g : Nat) (b : Nat) : Prop := (b = b0 ∨ b = bi) ∨ b = g
/-- the memory of TopDeliveries: queue, link, bounds, arrivals -/
structure TD (w : World) (k : Lnk) (x : Option Addr) (nc cc : Nat) (b0 bi g n Q : Nat) (lo hi : Int) (s : St) (A : Nat → Int) (wr : World) : Prop where
  q : QT w.heap.size (ThreeB b0 bi g) wr Q s
  o : ObAt wr b0 (lnkObj k x nc cc)
  t : Two wr bi lo hi
  r : IRow wr g n A
  b : Below w.heap.size w wr
theorem TD.below {w : World} {k : Lnk} {x : Option Addr} {nc cc : Nat} {b0 bi g n Q : Nat} {lo hi : Int} {s : St} {A : Nat → Int} {wr w' : World} (h : TD w k x nc cc b0 bi g n Q lo hi s A wr) (hb : Below wr.heap.size wr w') : TD w k x nc cc b0 bi g n Q lo hi s A w' :=
  ⟨QO.below h.q hb, h.o.below hb, h.t.below hb, h.r.same (hb.block g h.r.1) hb.size, h.b.trans (hb.mono h.b.size)⟩
/-- a call on the queue -/
theorem TD.call {w : World} {k : Lnk} {x : Option Addr} {nc cc : Nat} {b0 bi g n Q : Nat} {lo hi : Int} {s s' : St} {A : Nat → Int} {wr : World} {f : Nat} {args : Array Value} {r : Value} (h : TD w k x nc cc b0 bi g n Q lo hi s A wr) (hd : Does f args wr w.heap.size Q s s' r) : Calls Try.prog f args wr fun e w' => e = .returned r ∧ TD w k x nc cc b0 bi g n Q lo hi s' A w' := by
  have hB := QO.B h.q
  refine (hd (ThreeB b0 bi g) (fun b q => ?_) h.q).mono ?_
  · rcases q with (q | q) | q
    · rw [q]; exact h.o.lt
    · rw [q]; exact h.t.1
    · rw [q]; exact h.r.1
  · rintro e w' ⟨rfl, hq, hk⟩
    refine ⟨rfl, hq, h.o.keep hk (fun q => q.2 (.inl (.inl rfl))), h.t.same (hk.block bi h.t.1 (fun q => q.2 (.inl (.inr rfl)))) hk.size, h.r.same (hk.block g h.r.1 (fun q => q.2 (.inr rfl))) hk.size, h.b.trans (hk.low hB)⟩
/-- a store into the arrivals -/
theorem TD.store {w : World} {k : Lnk} {x : Option Addr} {nc cc : Nat} {b0 bi g n Q : Nat} {lo hi : Int} {s : St} {A : Nat → Int} {wr : World} (h : TD w k x nc cc b0 bi g n Q lo hi s A wr) (hg : w.heap.size ≤ g) (h0 : b0 ≠ g) (h1 : bi ≠ g) {i : Nat} (hi' : i < n) (v : Int) : TD w k x nc cc b0 bi g n Q lo hi s (fun j => if j = i then v else A j) (wr.setCell ⟨g, i, none⟩ (.int .i64 v)) := by
  have hk := keep_set (fun b => b = g) g i (.int .i64 v) wr rfl
  exact ⟨QO.keep h.q hk (fun b q => .inr q), h.o.keep hk h0, h.t.same (hk.block bi h.t.1 h1) hk.size, h.r.set hi' v, h.b.setCell hg _⟩
/-- what is known of the events: each has its arrival, none before the last -/
structure PD (n : Nat) (A : Nat → Int) (last : Int) (l : List Ev) : Prop where
  of : ∀ e ∈ l, ∃ j, j < n ∧ e.item = ((j : Nat) : Int) ∧ e.t = A j ∧ last ≤ e.t
  nd : (l.map (·.item)).Nodup
theorem PD.push {n : Nat} {A : Nat → Int} {l : List Ev} (h : PD n A 0 l) (hi : n < n + 1) {m : Nat} (hm : m < n + 1) (ht : ∀ e ∈ l, e.item < (m : Int)) {t id : Int} (t0 : 0 ≤ t) (hA : ∀ e ∈ l, ∃ j, j < m ∧ e.item = ((j : Nat) : Int) ∧ e.t = A j ∧ 0 ≤ e.t) : PD (n + 1) (fun j => if j = m then t else A j) 0 (l ++ [⟨t, id, (m : Int)⟩]) := by
  constructor
  · intro e he
    rcases List.mem_append.1 he with q | q
    · obtain ⟨j, hj, e1, e2, e3⟩ := hA e q
      exact ⟨j, by omega, e1, by rw [if_neg (by omega)]; exact e2, e3⟩
    · rw [List.mem_singleton.1 q]
      exact ⟨m, hm, rfl, by simp, t0⟩
  · rw [List.map_append, List.nodup_append]
    refine ⟨h.nd, by simp, ?_⟩
    intro a ha b hb e
    obtain ⟨y, hy, rfl⟩ := List.mem_map.1 ha
    simp only [List.map_cons, List.map_nil, List.mem_singleton] at hb
    have := ht y hy
    omega
theorem item_eq {l : List Ev} (nd : (l.map (·.item)).Nodup) {a b : Ev} (ha : a ∈ l) (hb : b ∈ l) (e : a.item = b.item) : a = b := by
  induction l with
  | nil => cases ha
  | cons x r ih =>
    rw [List.map_cons, List.nodup_cons] at nd
    rcases List.mem_cons.1 ha with q | q <;> rcases List.mem_cons.1 hb with z | z
    · rw [q, z]
    · exact absurd (List.mem_map.2 ⟨b, z, by rw [← e, q]⟩) nd.1
    · exact absurd (List.mem_map.2 ⟨a, q, by rw [e, z]⟩) nd.1
    · exact ih nd.2 q z
theorem PD.pop {n : Nat} {A : Nat → Int} {last : Int} {l : List Ev} (h : PD n A last l) (hn : (l.map (·.id)).Nodup) (hl : l ≠ []) : ∃ j id, j < n ∧ popT l = A j ∧ popId l = id ∧ popIt l = ((j : Nat) : Int) ∧ popOk l = true ∧ last ≤ A j ∧ PD n (fun i => if i = j then -1 else A i) (A j) (popL l) ∧ (popL l).length = l.length - 1 := by
  obtain ⟨m, hm⟩ := best_some hl
  have hf := best_fst hn hm
  obtain ⟨j, hj, e1, e2, e3⟩ := h.of m hf.1
  refine ⟨j, m.id, hj, ?_, ?_, ?_, ?_, by rw [← e2]; exact e3, ?_, popL_len⟩
  · unfold popT; rw [hm]; exact e2
  · unfold popId; rw [hm]
  · unfold popIt; rw [hm]; exact e1
  · unfold popOk; rw [hm]; rfl
  · have hnd : l.Nodup := by
      rw [List.nodup_iff_pairwise_ne] at hn ⊢
      rw [List.pairwise_map] at hn
      exact hn.imp (fun h e => h (by rw [e]))
    have hp : popL l = l.erase m := by unfold popL; rw [hm]
    rw [hp]
    refine ⟨fun e he => ?_, h.nd.sublist (List.erase_sublist.map _)⟩
    have hel := List.mem_of_mem_erase he
    obtain ⟨i, hi, f1, f2, f3⟩ := h.of e hel
    have hne : e ≠ m := fun q => by rw [q] at he; exact List.Nodup.not_mem_erase hnd he
    have hij : i ≠ j := fun q => hne (item_eq h.nd hel hf.1 (by rw [f1, e1, q]))
    refine ⟨i, hi, f1, by rw [if_neg hij]; exact f2, ?_⟩
    rcases hf.2 e hel with q | q
    · exact absurd q hne
    · rw [← e2]; unfold bef at q; omega
end Go.Proofs.Ytknoigleejbjdaa
