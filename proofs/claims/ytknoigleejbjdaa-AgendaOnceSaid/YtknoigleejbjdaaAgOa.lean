/- The law AgendaOnce: which of the events are open. -/
import Derived.Test.YtknoigleejbjdaaAgSb
import Derived.Maps.AppendAt
namespace Go.Proofs.Ytknoigleejbjdaa
open Go.RowKit
set_option linter.unusedVariables false
set_option linter.unusedSimpArgs false

theorem QT.facts {B : Nat} {oth : Nat → Prop} {w : World} {Q : Nat} {s : St} (h : QT B oth w Q s) : (∀ e ∈ s.l, 1 ≤ e.id ∧ e.id ≤ (s.p : Int)) ∧ (s.l.map (·.id)).Nodup ∧ (∀ e ∈ s.l, s.now ≤ e.t) ∧ (s.l.length : Int) ≤ s.lim ∧ 0 ≤ s.now := by
  obtain ⟨own, h, ho⟩ := h
  exact ⟨h.ids, h.nd, h.nowle, h.len, h.now0⟩
def upB (f : Nat → Bool) (i : Nat) (b : Bool) (j : Nat) : Bool := if j = i then b else f j
def bits (f : Nat → Bool) (n : Nat) : List Value := (List.range n).map fun j => .bool (f j)
theorem bits_get (f : Nat → Bool) (n j : Nat) : (bits f n)[j]? = if j < n then some (.bool (f j)) else none := by
  unfold bits
  by_cases h : j < n
  · rw [if_pos h, List.getElem?_map, List.getElem?_range h]; rfl
  · rw [if_neg h]; simp; omega
theorem bits_set (f : Nat → Bool) (n i : Nat) (b : Bool) (hi : i < n) : (bits f n).set i (.bool b) = bits (upB f i b) n := by
  apply List.ext_getElem?
  intro j
  rw [List.getElem?_set, bits_get, bits_get]
  have hl : (bits f n).length = n := by simp [bits]
  by_cases e : i = j
  · subst e; simp [upB, hi, hl]
  · have e' : ¬ j = i := fun q => e q.symm
    simp [e, upB, e']
theorem bits_app (f : Nat → Bool) (n : Nat) : bits f n ++ [.bool true] = bits (upB f n true) (n + 1) := by
  apply List.ext_getElem?
  intro j
  have hl : (bits f n).length = n := by simp [bits]
  rw [bits_get, List.getElem?_append, hl, bits_get]
  by_cases h : j < n
  · have : ¬ j = n := by omega
    rw [if_pos h, if_pos h, if_pos (by omega)]; simp [upB, this]
  · rw [if_neg h]
    by_cases e : j = n
    · subst e; simp [upB]
    · rw [if_neg (by omega), List.getElem?_eq_none (by simp; omega)]
/-- a row of Booleans that may grow -/
def BRow (B : Nat) (w : World) (g n c : Nat) (f : Nat → Bool) : Prop := w.ownsRow B 4 1 (.slice (some ⟨g, 0, none⟩) n c) n (bits f n)
theorem BRow.same {B : Nat} {w w' : World} {g n c : Nat} {f : Nat → Bool} (h : BRow B w g n c f) (hb : w'.heap[g]? = w.heap[g]?) : BRow B w' g n c f := row_same h (fun q e => by
  have e' : g = q := Option.some.inj e
  rw [← e']; exact hb)
theorem BRow.lt {B : Nat} {w : World} {g n c : Nat} {f : Nat → Bool} (h : BRow B w g n c f) : B ≤ g ∧ g < w.heap.size := World.ownsRow.lt h g rfl
theorem BRow.keep {B : Nat} {w w' : World} {g n c : Nat} {f : Nat → Bool} {own : Nat → Prop} (h : BRow B w g n c f) (hk : Keep own w w') (ho : ¬ own g) : BRow B w' g n c f := h.same (hk.block g h.lt.2 ho)
theorem BRow.below {B : Nat} {w w' : World} {g n c : Nat} {f : Nat → Bool} (h : BRow B w g n c f) (hb : Below w.heap.size w w') : BRow B w' g n c f := h.same (hb.block g h.lt.2)
theorem BRow.cell {B : Nat} {w : World} {g n c : Nat} {f : Nat → Bool} (h : BRow B w g n c f) {j : Nat} (hj : j < n) : w.cell? ⟨g, j, none⟩ = some (.bool (f j)) ∧ w.frozen? ⟨g, j, none⟩ = false := by
  refine ⟨?_, World.ownsRow.frozenAt h j⟩
  rw [World.ownsRow.cellAt h j (by omega), bits_get, if_pos hj]
theorem BRow.set {B : Nat} {w : World} {g n c : Nat} {f : Nat → Bool} (h : BRow B w g n c f) {i : Nat} (hi : i < n) (b : Bool) : BRow B (w.setCell ⟨g, i, none⟩ (.bool b)) g n c (upB f i b) := by
  have := (World.ownsRow.stored h i (.bool b)).1
  rw [bits_set f n i b hi] at this
  exact this

/-- which ids are open -/
def OI (p : Nat) (l : List Ev) (f : Nat → Bool) : Prop := ∀ j : Nat, j ≤ p → (f j = true ↔ ∃ e ∈ l, e.id = (j : Int))
theorem OI.push {p : Nat} {l : List Ev} {f : Nat → Bool} (h : OI p l f) (hi : ∀ e ∈ l, 1 ≤ e.id ∧ e.id ≤ (p : Int)) (t it : Int) : OI (p + 1) (l ++ [⟨t, ((p + 1 : Nat) : Int), it⟩]) (upB f (p + 1) true) := by
  intro j hj
  unfold upB
  by_cases e : j = p + 1
  · subst e
    rw [if_pos rfl]
    exact ⟨fun _ => ⟨_, List.mem_append.2 (.inr (List.mem_singleton.2 rfl)), rfl⟩, fun _ => rfl⟩
  · rw [if_neg e, h j (by omega)]
    constructor
    · rintro ⟨x, hx, h2⟩; exact ⟨x, List.mem_append.2 (.inl hx), h2⟩
    · rintro ⟨x, hx, h2⟩
      rcases List.mem_append.1 hx with q | q
      · exact ⟨x, q, h2⟩
      · rw [List.mem_singleton.1 q] at h2; simp only at h2; omega
theorem OI.erase {p : Nat} {l : List Ev} {f : Nat → Bool} (h : OI p l f) (nd : (l.map (·.id)).Nodup) {m : Ev} (hm : m ∈ l) {i : Nat} (hi : m.id = (i : Int)) : OI p (l.erase m) (upB f i false) := by
  have hnd : l.Nodup := by
    rw [List.nodup_iff_pairwise_ne] at nd ⊢
    rw [List.pairwise_map] at nd
    exact nd.imp (fun h e => h (by rw [e]))
  intro j hj
  unfold upB
  by_cases e : j = i
  · subst e
    rw [if_pos rfl]
    refine ⟨fun q => absurd q (by simp), fun ⟨x, hx, h2⟩ => ?_⟩
    have hxm := eq_of_id nd (List.mem_of_mem_erase hx) hm (by rw [h2, hi])
    rw [hxm] at hx
    exact absurd hx (List.Nodup.not_mem_erase hnd)
  · rw [if_neg e, h j hj]
    constructor
    · rintro ⟨x, hx, h2⟩
      refine ⟨x, (List.mem_erase_of_ne (fun q => ?_)).2 hx, h2⟩
      rw [q, hi] at h2; omega
    · rintro ⟨x, hx, h2⟩; exact ⟨x, List.mem_of_mem_erase hx, h2⟩
theorem OI.ok {p : Nat} {l : List Ev} {f : Nat → Bool} (h : OI p l f) {i : Nat} (hi : i ≤ p) : canOk l (i : Int) = f i := by
  have := h i hi
  unfold canOk
  cases hf : f i with
  | true =>
    obtain ⟨e, he, h2⟩ := this.1 hf
    rw [List.any_eq_true]
    exact ⟨e, he, by simpa using h2⟩
  | false =>
    rw [List.any_eq_false]
    intro e he
    simp only [beq_iff_eq]
    intro q
    have := this.2 ⟨e, he, q⟩
    rw [hf] at this
    cases this
theorem canOk_out {p : Nat} {l : List Ev} (hi : ∀ e ∈ l, 1 ≤ e.id ∧ e.id ≤ (p : Int)) {k : Int} (hk : k < 1 ∨ (p : Int) < k) : canOk l k = false ∧ canL l k = l := by
  have hno : ∀ e ∈ l, e.id ≠ k := fun e he q => by have := hi e he; omega
  refine ⟨?_, canL_no hno⟩
  unfold canOk
  rw [List.any_eq_false]
  intro e he
  simpa using hno e he
theorem OI.can {p : Nat} {l : List Ev} {f : Nat → Bool} (h : OI p l f) (nd : (l.map (·.id)).Nodup) {i : Nat} (hi : i ≤ p) (hf : f i = true) : OI p (canL l (i : Int)) (upB f i false) ∧ (canL l (i : Int)).length = l.length - 1 ∧ 0 < l.length := by
  obtain ⟨e, he, h2⟩ := (h i hi).1 hf
  rw [← h2, canL_erase nd he]
  exact ⟨h.erase nd he h2, List.length_erase_of_mem he, List.length_pos_of_mem he⟩
theorem OI.not {p : Nat} {l : List Ev} {f : Nat → Bool} (h : OI p l f) {i : Nat} (hi : i ≤ p) (hf : f i = false) : canL l (i : Int) = l := by
  refine canL_no (fun e he q => ?_)
  have := (h i hi).2 ⟨e, he, q⟩
  rw [hf] at this
  cases this
/-- a pop that gives something -/
theorem OI.pop {p : Nat} {l : List Ev} {f : Nat → Bool} {now : Int} (h : OI p l f) (hi : ∀ e ∈ l, 1 ≤ e.id ∧ e.id ≤ (p : Int)) (nd : (l.map (·.id)).Nodup) (hnow : ∀ e ∈ l, now ≤ e.t) (hl : l ≠ []) : ∃ (i : Nat) (t it : Int), 1 ≤ i ∧ i ≤ p ∧ popT l = t ∧ popId l = (i : Int) ∧ popIt l = it ∧ popOk l = true ∧ popNow now l = t ∧ now ≤ t ∧ f i = true ∧ OI p (popL l) (upB f i false) ∧ (popL l).length = l.length - 1 := by
  obtain ⟨m, hm⟩ := best_some hl
  have hf := best_fst nd hm
  have h1 := hi m hf.1
  obtain ⟨i, hi'⟩ : ∃ i : Nat, m.id = (i : Int) := ⟨m.id.toNat, by omega⟩
  refine ⟨i, m.t, m.item, by omega, by omega, ?_, ?_, ?_, ?_, ?_, hnow m hf.1, (h i (by omega)).2 ⟨m, hf.1, hi'⟩, ?_, popL_len⟩
  · unfold popT; rw [hm]
  · unfold popId; rw [hm]; exact hi'
  · unfold popIt; rw [hm]
  · unfold popOk; rw [hm]; rfl
  · unfold popNow; rw [hm]
  · unfold popL; rw [hm]; exact h.erase nd hf.1 hi'
end Go.Proofs.Ytknoigleejbjdaa
