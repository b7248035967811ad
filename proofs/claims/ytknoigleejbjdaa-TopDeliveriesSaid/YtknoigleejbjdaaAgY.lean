/- The lists of the law AgendaCancels. -/
import Derived.Test.YtknoigleejbjdaaAgX
namespace Go.Proofs.Ytknoigleejbjdaa
open Go.RowKit
set_option linter.unusedVariables false
set_option linter.unusedSimpArgs false

theorem St.push_ok {s : St} {t item : Int} (h : s.err t = 0) : s.push t item = ⟨s.lim, s.now, s.p + 1, s.N + 10000, s.l ++ [⟨t, ((s.p + 1 : Nat) : Int), item⟩]⟩ ∧ s.id t = (s.p : Int) + 1 := by
  unfold St.err at h
  unfold St.push St.id pushP pushL pushId
  rw [if_pos h, if_pos h, if_pos h]
  exact ⟨rfl, rfl⟩
theorem QQ.mono {B : Nat} {oth : Nat → Prop} {w : World} {Qa Qb : Nat} {la na lb nb : Int} {pa Na Na' pb Nb Nb' : Nat} {a b : List Ev} (h : QQ B oth w Qa Qb ⟨la, na, pa, Na, a⟩ ⟨lb, nb, pb, Nb, b⟩) (h1 : Na ≤ Na') (h2 : Nb ≤ Nb') : QQ B oth w Qa Qb ⟨la, na, pa, Na', a⟩ ⟨lb, nb, pb, Nb', b⟩ := by
  obtain ⟨oa, ob, q1, q2, q3, q4, q5⟩ := h
  exact ⟨oa, ob, q1.mono h1, q2.mono h2, q3, q4, q5⟩
/-- all that are pushed into the first queue -/
def LA (T : Nat → Int) (k : Nat) : List Ev := (List.range k).map fun i => ⟨T i, ((i + 1 : Nat) : Int), (i : Int)⟩
theorem LA_len (T : Nat → Int) (k : Nat) : (LA T k).length = k := by simp [LA]
theorem LA_succ (T : Nat → Int) (k : Nat) : LA T (k + 1) = LA T k ++ [⟨T k, ((k + 1 : Nat) : Int), (k : Int)⟩] := by
  unfold LA
  rw [List.range_succ, List.map_append]
  rfl
theorem LA_mem {T : Nat → Int} {k : Nat} {e : Ev} (h : e ∈ LA T k) : ∃ i, i < k ∧ e.item = (i : Int) ∧ e.id = ((i + 1 : Nat) : Int) ∧ e.t = T i := by
  unfold LA at h
  obtain ⟨i, hi, rfl⟩ := List.mem_map.1 h
  exact ⟨i, List.mem_range.1 hi, rfl, rfl, rfl⟩
theorem LA_inc (T : Nat → Int) (k : Nat) : Inc (LA T k) := by
  unfold Inc LA
  rw [List.pairwise_map]
  refine List.pairwise_lt_range.imp (fun {a b} h => ?_)
  show ((a + 1 : Nat) : Int) < ((b + 1 : Nat) : Int)
  omega
/-- those that are pushed into the second one -/
def LB (T : Nat → Int) (g : Nat → Bool) : Nat → List Ev
  | 0 => []
  | k + 1 => if g k then LB T g k else LB T g k ++ [⟨T k, (((LB T g k).length + 1 : Nat) : Int), (k : Int)⟩]
theorem LB_succ (T : Nat → Int) (g : Nat → Bool) (k : Nat) : LB T g (k + 1) = if g k then LB T g k else LB T g k ++ [⟨T k, (((LB T g k).length + 1 : Nat) : Int), (k : Int)⟩] := rfl
theorem LB_le (T : Nat → Int) (g : Nat → Bool) (k : Nat) : (LB T g k).length ≤ k := by
  induction k with
  | zero => simp [LB]
  | succ k ih =>
    rw [LB_succ]
    split
    · omega
    · rw [List.length_append, List.length_singleton]; omega
theorem LB_ids (T : Nat → Int) (g : Nat → Bool) (k : Nat) : ∀ e ∈ LB T g k, e.id ≤ ((LB T g k).length : Int) := by
  induction k with
  | zero => intro e h; simp [LB] at h
  | succ k ih =>
    intro e h
    rw [LB_succ] at h ⊢
    by_cases q : g k = true
    · rw [if_pos q] at h ⊢; exact ih e h
    · rw [if_neg q] at h ⊢
      rw [List.length_append, List.length_singleton]
      rcases List.mem_append.1 h with z | z
      · have := ih e z; omega
      · rw [List.mem_singleton.1 z]; exact Int.le_refl _
theorem LB_inc (T : Nat → Int) (g : Nat → Bool) (k : Nat) : Inc (LB T g k) := by
  induction k with
  | zero => exact List.Pairwise.nil
  | succ k ih =>
    rw [LB_succ]
    by_cases q : g k = true
    · rw [if_pos q]; exact ih
    · rw [if_neg q]
      exact ih.app (fun a ha => by have := LB_ids T g k a ha; show a.id < (((LB T g k).length + 1 : Nat) : Int); omega)
theorem LAB (T : Nat → Int) (g : Nat → Bool) (k : Nat) : ((LA T k).filter (fun e => !g e.item.toNat)).map tf = (LB T g k).map tf := by
  induction k with
  | zero => rfl
  | succ k ih =>
    rw [LA_succ, List.filter_append, List.map_append, ih]
    rw [LB_succ]
    by_cases q : g k = true
    · rw [if_pos q]; simp [q]
    · rw [if_neg q, List.map_append]
      simp [q, tf]
/-- what the first queue has when k have been cancelled or passed over -/
def LC (T : Nat → Int) (g : Nat → Bool) (n k : Nat) : List Ev := (LA T n).filter (fun e => !(g e.item.toNat && decide (e.item < (k : Int))))
theorem LC_inc (T : Nat → Int) (g : Nat → Bool) (n k : Nat) : Inc (LC T g n k) := (LA_inc T n).filter _
theorem LC_zero (T : Nat → Int) (g : Nat → Bool) (n : Nat) : LC T g n 0 = LA T n := by
  unfold LC
  rw [List.filter_eq_self]
  intro e he
  obtain ⟨i, hi, h1, h2, h3⟩ := LA_mem he
  rw [h1]
  simp
theorem LC_end (T : Nat → Int) (g : Nat → Bool) (n : Nat) : (LC T g n n).map tf = (LB T g n).map tf := by
  rw [← LAB]
  congr 1
  unfold LC
  refine List.filter_congr (fun e he => ?_)
  obtain ⟨i, hi, h1, h2, h3⟩ := LA_mem he
  rw [h1, decide_eq_true (by omega : (i : Int) < (n : Int)), Bool.and_true]
theorem LC_pass (T : Nat → Int) (g : Nat → Bool) (n k : Nat) (h : g k = false) : LC T g n (k + 1) = LC T g n k := by
  unfold LC
  refine List.filter_congr (fun e he => ?_)
  obtain ⟨i, hi, h1, h2, h3⟩ := LA_mem he
  rw [h1]
  by_cases q : i = k
  · subst q; simp [h]
  · have : ((i : Int) < ((k + 1 : Nat) : Int)) ↔ ((i : Int) < (k : Int)) := by omega
    simp only [this]
theorem canL_filter {l : List Ev} (h : Inc l) (j : Int) : canL l j = l.filter (fun e => !(e.id == j)) := by
  unfold canL
  induction l with
  | nil => rfl
  | cons x r ih =>
    have hr : Inc r := (List.pairwise_cons.1 h).2
    by_cases e : x.id = j
    · subst e
      rw [List.eraseP_cons_of_pos (by simp), List.filter_cons_of_neg (by simp)]
      symm
      rw [List.filter_eq_self]
      intro a ha
      have := (List.pairwise_cons.1 h).1 a ha
      simp only [Bool.not_eq_true', beq_eq_false_iff_ne]
      omega
    · rw [List.eraseP_cons_of_neg (by simpa using e), List.filter_cons_of_pos (by simpa using e), ih hr]
theorem LC_mem {T : Nat → Int} {g : Nat → Bool} {n k : Nat} {e : Ev} (h : e ∈ LC T g n k) : ∃ i, i < n ∧ e.item = (i : Int) ∧ e.id = ((i + 1 : Nat) : Int) ∧ (g i = true → k ≤ i) := by
  unfold LC at h
  obtain ⟨h1, h2⟩ := List.mem_filter.1 h
  obtain ⟨i, hi, e1, e2, e3⟩ := LA_mem h1
  refine ⟨i, hi, e1, e2, fun hg => ?_⟩
  rw [e1] at h2
  simp [hg] at h2
  exact h2
theorem LC_cancel (T : Nat → Int) (g : Nat → Bool) (n k : Nat) (hk : k < n) (h : g k = true) : canOk (LC T g n k) ((k : Int) + 1) = true ∧ canL (LC T g n k) ((k : Int) + 1) = LC T g n (k + 1) ∧ canOk (LC T g n (k + 1)) ((k : Int) + 1) = false ∧ canL (LC T g n (k + 1)) ((k : Int) + 1) = LC T g n (k + 1) := by
  have hno : ∀ e ∈ LC T g n (k + 1), e.id ≠ (k : Int) + 1 := by
    intro e he q
    obtain ⟨i, hi, e1, e2, e3⟩ := LC_mem he
    have : i = k := by omega
    subst this
    have := e3 h
    omega
  refine ⟨?_, ?_, ?_, canL_no hno⟩
  · unfold canOk
    rw [List.any_eq_true]
    refine ⟨⟨T k, ((k + 1 : Nat) : Int), (k : Int)⟩, ?_, by simp⟩
    unfold LC
    rw [List.mem_filter]
    refine ⟨?_, by simp⟩
    unfold LA
    exact List.mem_map.2 ⟨k, List.mem_range.2 hk, rfl⟩
  · rw [canL_filter (LC_inc T g n k)]
    unfold LC
    rw [List.filter_filter]
    refine List.filter_congr (fun e he => ?_)
    obtain ⟨i, hi, h1, h2, h3⟩ := LA_mem he
    rw [h1, h2]
    by_cases q : i = k
    · subst q; simp [h]; try omega
    · have e1 : ((i : Int) < ((k + 1 : Nat) : Int)) ↔ ((i : Int) < (k : Int)) := by omega
      have e2 : (((i + 1 : Nat) : Int) == (k : Int) + 1) = false := by simp only [beq_eq_false_iff_ne]; omega
      simp only [e1, e2, Bool.not_false, Bool.true_and]
  · unfold canOk
    rw [List.any_eq_false]
    intro e he
    simpa using hno e he
end Go.Proofs.Ytknoigleejbjdaa
