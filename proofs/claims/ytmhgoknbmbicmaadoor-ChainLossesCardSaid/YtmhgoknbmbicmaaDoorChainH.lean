/- A row of messages that is filtered in place: the plain lemmas. -/
import Derived.Test.YtmhgoknbmbicmaaDoorChainG
namespace Go.Proofs.YtmhgoknbmbicmaaDoor
open Go.RowKit
set_option linter.unusedVariables false
set_option linter.unusedSimpArgs false

/-- what stays held, and what is released -/
def keepM (i : Int) (l : List Msg) : List Msg := l.filter fun m => decide (i < m.iv)
noncomputable def outM (K : Nat → Int × Int) (i : Int) (l : List Msg) : List Msg := l.filter fun m => decide (m.iv ≤ i) && (rightTag (K m.iv.toNat) m.b == m.tag)
def outCells (l : List Msg) : List Value := l.map fun m => .slice m.p m.b.length m.cap

/-- the cells of a row of messages are there -/
def OwnC (w : World) (g cap : Nat) : Prop := ∃ cur : Array Value, w.heap[g]? = some (.cells cur 67 (0, 0)) ∧ cur.size = cap * 3
theorem OwnC.there {w : World} {g cap : Nat} (h : OwnC w g cap) : There w g (cap * 3) := by
  obtain ⟨cur, hh, hs⟩ := h
  intro j hj
  refine ⟨⟨cur[j]'(by omega), ?_⟩, frozen_of_row _ _ _ _ _ hh⟩
  rw [cell_of_row _ g j cur _ (0, 0) hh]; simp
theorem OwnC.setCell {w : World} {g cap : Nat} (h : OwnC w g cap) (p : Addr) (v : Value) : OwnC (w.setCell p v) g cap := by
  obtain ⟨cur, hh, hs⟩ := h
  by_cases hp : g = p.block
  · subst hp
    refine ⟨if p.spot.isSome then cur else cur.setIfInBounds p.off v, ?_, by split <;> simp [hs]⟩
    show (w.heap.modify p.block _)[p.block]? = _
    rw [Array.getElem?_modify, if_pos rfl, hh]
    rfl
  · exact ⟨cur, by rw [Below.heap_setCell _ _ _ _ hp]; exact hh, hs⟩
theorem OwnC.setCells {w : World} {g cap : Nat} (h : OwnC w g cap) (b : Nat) : ∀ (vs : List Value) (o : Nat), OwnC (w.setCells b o vs) g cap
  | [], o => h
  | v :: r, o => by
    rw [World.setCells]
    exact OwnC.setCells (h.setCell _ _) b r (o + 1)
theorem OwnC.same {w w' : World} {g cap : Nat} (h : OwnC w g cap) (e : w'.heap[g]? = w.heap[g]?) : OwnC w' g cap := by
  obtain ⟨cur, hh, hs⟩ := h
  exact ⟨cur, e.trans hh, hs⟩
theorem OwnC.row {w : World} {g cap n : Nat} {xs : List Value} (h : OwnC w g cap) (hx : xs.length = n * 3) (hn : n ≤ cap) (hc : cap ≤ 9223372036854775807) (hcells : ∀ j u, xs[j]? = some u → w.cell? ⟨g, j, none⟩ = some u) :
    w.ownsRow 0 67 3 (.slice (some ⟨g, 0, none⟩) n cap) n xs := by
  obtain ⟨cur, hh, hs⟩ := h
  refine ⟨hx, .inr ⟨g, cap, cur, rfl, Nat.zero_le _, hh, hn, by unfold maxLen; exact hc, hs, ?_⟩⟩
  apply List.ext_getElem?
  intro j
  rw [List.getElem?_take]
  split
  · rename_i hj
    have hj2 : j < xs.length := by omega
    have q := hcells j _ (List.getElem?_eq_getElem hj2)
    rw [cell_of_row _ g j cur _ (0, 0) hh] at q
    rw [List.getElem?_eq_getElem hj2, ← q]
    simp
  · rename_i hj
    rw [List.getElem?_eq_none (by omega)]
theorem own_form {w : World} {n : Nat} {v : Value} {xs : List Value} (h : w.ownsRow 0 67 3 v n xs) :
    (v = .slice none 0 0 ∧ n = 0) ∨ ∃ g cap, v = .slice (some ⟨g, 0, none⟩) n cap ∧ OwnC w g cap ∧ n ≤ cap ∧ cap ≤ 9223372036854775807 ∧ (∀ j u, xs[j]? = some u → w.cell? ⟨g, j, none⟩ = some u) := by
  have h0 := h
  rcases h.2 with hn | ⟨g, cap, cur, hv, hb, hh, hn, hc, hs, ht⟩
  · exact .inl hn
  · refine .inr ⟨g, cap, hv, ⟨cur, hh, hs⟩, hn, by unfold maxLen at hc; exact hc, fun j u hu => ?_⟩
    have q := h0.cells (g := g) (by rw [hv]; rfl) j u hu
    rw [show (⟨g, 0, none⟩ : Addr).add j = ⟨g, j, none⟩ from by unfold Addr.add; split <;> simp_all] at q
    exact q

theorem msgZero_run (w : World) : Sem.run Tryd.prog (zeroValue 67) w = .ok (.agg #[.int .i64 0, .slice none 0 0, .int .u64 0]) w := by
  obtain ⟨i0, hi, hz0, hz1, hz2⟩ := info_parts infoMsg
  simp [zeroValue, typeInfo, hi, hz0]
/-- clear of some messages: only their own cells turn -/
theorem run_clear_msgs (w : World) (ty : TypeId) (b o n c : Nat) (hc : ∀ j, j < n * 3 → (w.cell? ⟨b, o + j, none⟩).isSome = true) (hf : ∀ j, j < n * 3 → w.frozen? ⟨b, o + j, none⟩ = false) :
    ∃ cs : List Value, cs.length = n * 3 ∧ (Builtin.clear_ #[62] ty #[.slice (some ⟨b, o, none⟩) n c]).run Tryd.prog w = .ok (.tuple #[]) (w.setCells b o cs) := by
  by_cases hn : n = 0
  · subst hn
    refine ⟨[], by simp, ?_⟩
    simp [Builtin.clear_, run_underlying Tryd.underlying62, World.setCells]
  · have hsz : (Builtin.zeroCells (Value.agg #[.int .i64 0, .slice none 0 0, .int .u64 0]).cells n).size = n * 3 := by rw [size_zeroCells]; rfl
    have hl : (Builtin.zeroCells (Value.agg #[.int .i64 0, .slice none 0 0, .int .u64 0]).cells n).toList.length = n * 3 := by rw [Array.length_toList, hsz]
    have hst := run_storeCells_cells (P := Tryd.prog) b o (Builtin.zeroCells (Value.agg #[.int .i64 0, .slice none 0 0, .int .u64 0]).cells n).toList 0 w (by rw [hl]; simpa using hc) (by rw [hl]; simpa using hf) (by
      intro v hv
      obtain ⟨j, hj, he⟩ := List.getElem_of_mem hv
      rw [← he]
      simp [Builtin.zeroCells]
      show (#[Value.int .i64 0, .slice none 0 0, .int .u64 0] : Array Value)[j % 3]!.oneCell' = true
      rcases (show j % 3 = 0 ∨ j % 3 = 1 ∨ j % 3 = 2 by omega) with h | h | h <;> rw [h] <;> rfl)
    simp only [Nat.add_zero] at hst
    obtain ⟨m, rfl⟩ : ∃ m, n = m + 1 := ⟨n - 1, by omega⟩
    refine ⟨_, hl, ?_⟩
    simp [Builtin.clear_, run_underlying Tryd.underlying62, msgZero_run, hst]

theorem take_filter_succ {P : Msg → Bool} {l : List Msg} {k : Nat} {m : Msg} (h : l[k]? = some m) : (l.take (k + 1)).filter P = (l.take k).filter P ++ (if P m = true then [m] else []) := by
  rw [List.take_add_one, h, List.filter_append]
  congr 1
  cases hp : P m <;> simp [hp]

/-- what holds ahead of each round of Disclose's loop: k messages are done -/
structure DRel (w1 : World) (B R g cap : Nat) (i : Int) (K : Nat → Int × Int) (l : List Msg) (k : Nat) (ov : Value) (wr : World) : Prop where
  own : OwnC wr g cap
  kept : ∀ j u, (msgCells (keepM i (l.take k)))[j]? = some u → wr.cell? ⟨g, j, none⟩ = some u
  rest : ∀ j m, k ≤ j → l[j]? = some m → wr.cell? ⟨g, j * 3, none⟩ = some (.int .i64 m.iv) ∧ wr.cell? ⟨g, j * 3 + 1, none⟩ = some (.slice m.p m.b.length m.cap) ∧ wr.cell? ⟨g, j * 3 + 2, none⟩ = some (.int .u64 m.tag)
  c5 : wr.cell? ⟨R, 135, none⟩ = some (.slice (some ⟨g, 0, none⟩) (keepM i (l.take k)).length cap)
  cs : ∀ o, o ≠ 135 → wr.cell? ⟨R, o, none⟩ = w1.cell? ⟨R, o, none⟩
  th : There wr R 136
  os : wr.os = w1.os
  tape : wr.tape = w1.tape
  output : wr.output = w1.output
  size : w1.heap.size ≤ wr.heap.size
  block : ∀ b, b < w1.heap.size → b ≠ R → b ≠ g → wr.heap[b]? = w1.heap[b]?
  out : wr.ownsRow B 36 1 ov (outM K i (l.take k)).length (outCells (outM K i (l.take k)))

theorem DRel.below {w1 : World} {B R g cap : Nat} {i : Int} {K : Nat → Int × Int} {l : List Msg} {k : Nat} {ov : Value} {wr wr' : World} (h : DRel w1 B R g cap i K l k ov wr) (hb : Below wr.heap.size wr wr') (hR : R < wr.heap.size) (hg : g < wr.heap.size) : DRel w1 B R g cap i K l k ov wr' :=
  { own := h.own.same (hb.block g hg)
    kept := fun j u hu => by rw [hb.cell (by exact hg)]; exact h.kept j u hu
    rest := fun j m h1 h2 => by
      obtain ⟨q0, q1, q2⟩ := h.rest j m h1 h2
      exact ⟨by rw [hb.cell (by exact hg)]; exact q0, by rw [hb.cell (by exact hg)]; exact q1, by rw [hb.cell (by exact hg)]; exact q2⟩
    c5 := by rw [hb.cell (by exact hR)]; exact h.c5
    cs := fun o ho => by rw [hb.cell (by exact hR)]; exact h.cs o ho
    th := h.th.below' hb hR
    os := hb.os.trans h.os
    tape := hb.tape.trans h.tape
    output := hb.output.trans h.output
    size := Nat.le_trans h.size hb.size
    block := fun b h1 h2 h3 => by rw [hb.block b (Nat.lt_of_lt_of_le h1 h.size)]; exact h.block b h1 h2 h3
    out := row_below h.out hb }
end Go.Proofs.YtmhgoknbmbicmaaDoor
