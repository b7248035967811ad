/- Taking an element out of a heap; putting one in: the plain steps. -/
import Derived.Test.YtknoigleejbjdaaAgF
namespace Go.Proofs.Ytknoigleejbjdaa
open Go.RowKit
set_option linter.unusedVariables false
set_option linter.unusedSimpArgs false

theorem gt_take {l : List Ev} {n j : Nat} (h : j < n) : gt (l.take n) j = gt l j := by
  unfold gt; rw [List.getD_eq_getElem?_getD, List.getD_eq_getElem?_getD, List.getElem?_take, if_pos h]
/-- the row without its last element, and with that one at i -/
def cutR (l : List Ev) : List Ev := l.take (l.length - 1)
def fillR (l : List Ev) (i : Nat) : List Ev := (cutR l).set i (gt l (l.length - 1))
theorem cutR_len (l : List Ev) : (cutR l).length = l.length - 1 := by simp [cutR]
theorem fillR_len (l : List Ev) (i : Nat) : (fillR l i).length = l.length - 1 := by simp [fillR, cutR]
theorem gt_cut {l : List Ev} {j : Nat} (h : j < l.length - 1) : gt (cutR l) j = gt l j := gt_take h
theorem gt_fill {l : List Ev} {i j : Nat} (hi : i < l.length - 1) (hj : j < l.length - 1) : gt (fillR l i) j = if j = i then gt l (l.length - 1) else gt l j := by
  unfold fillR
  rw [gt_set (by rw [cutR_len]; exact hi)]
  by_cases e : j = i
  · rw [if_pos e, if_pos e]
  · rw [if_neg e, if_neg e, gt_cut hj]
theorem cut_last {l : List Ev} (h : l ≠ []) : cutR l ++ [gt l (l.length - 1)] = l := by
  have h0 : 0 < l.length := List.length_pos_iff.2 h
  rw [gt_eq (by omega)]
  unfold cutR
  rw [← List.take_succ_eq_append_getElem (by omega), show l.length - 1 + 1 = l.length by omega, List.take_length]
theorem fill_perm {l : List Ev} {i : Nat} (hi : i < l.length - 1) : (fillR l i).Perm (l.eraseIdx i) := by
  have hne : l ≠ [] := by intro e; rw [e] at hi; simp at hi
  obtain ⟨c, hc⟩ : ∃ c, cutR l = c := ⟨_, rfl⟩
  obtain ⟨x, hx⟩ : ∃ x, gt l (l.length - 1) = x := ⟨_, rfl⟩
  have e := cut_last hne
  have hcl := cutR_len l
  unfold fillR
  rw [hc, hx] at e ⊢
  rw [hc] at hcl
  rw [← e, List.eraseIdx_append_of_lt_length (by omega), List.set_eq_take_append_cons_drop, if_pos (by omega), List.eraseIdx_eq_take_drop_succ]
  exact List.perm_middle.trans (List.perm_append_comm (l₁ := [x]))
theorem cut_erase {l : List Ev} {i : Nat} (hi : i < l.length) (h : ¬ i < l.length - 1) : l.eraseIdx i = cutR l := by
  rw [List.eraseIdx_eq_take_drop_succ, List.drop_eq_nil_of_le (by omega), List.append_nil]
  unfold cutR
  rw [show i = l.length - 1 by omega]
theorem Ids.sub {l : List Ev} (h : Ids l) (f : Nat → Nat) (v : List Ev) (hf : ∀ a, a < v.length → f a < l.length ∧ gt v a = gt l (f a)) (hinj : ∀ a b, a < v.length → b < v.length → f a = f b → a = b) : Ids v := by
  constructor
  · intro a b ha hb e
    obtain ⟨h1, h2⟩ := hf a ha
    obtain ⟨h3, h4⟩ := hf b hb
    exact hinj a b ha hb (h.1 _ _ h1 h3 (by rw [← h2, ← h4]; exact e))
  · intro j hj
    obtain ⟨h1, h2⟩ := hf j hj
    rw [h2]; exact h.2 _ h1
theorem Ids.fill {l : List Ev} {i : Nat} (h : Ids l) (hi : i < l.length - 1) : Ids (fillR l i) := by
  refine h.sub (fun a => if a = i then l.length - 1 else a) _ (fun a ha => ?_) (fun a b ha hb e => ?_)
  · rw [fillR_len] at ha
    refine ⟨by show (if a = i then l.length - 1 else a) < l.length; split <;> omega, ?_⟩
    rw [gt_fill hi ha]
    show _ = gt l (if a = i then l.length - 1 else a)
    split <;> rfl
  · rw [fillR_len] at ha hb
    have e' : (if a = i then l.length - 1 else a) = (if b = i then l.length - 1 else b) := e
    split at e' <;> split at e' <;> omega
theorem Ids.cut {l : List Ev} (h : Ids l) : Ids (cutR l) := by
  refine h.sub (fun a => a) _ (fun a ha => ?_) (fun a b ha hb e => e)
  rw [cutR_len] at ha
  exact ⟨by show a < l.length; omega, gt_cut ha⟩
theorem Heap.cut {l : List Ev} (h : Heap l) : Heap (cutR l) := by
  intro j h1 h2
  rw [cutR_len] at h2
  have := par_lt h1
  unfold Le
  rw [gt_cut h2, gt_cut (by omega)]
  exact h j h1 (by omega)
theorem Heap.fill {l : List Ev} {i : Nat} (h : Heap l) (hi : i < l.length - 1) : HeapEx (fillR l i) i := by
  constructor
  · intro j h1 h2 h3 h4
    rw [fillR_len] at h2
    have := par_lt h1
    unfold Le
    rw [gt_fill hi h2, gt_fill hi (by omega), if_neg h3, if_neg h4]
    exact h j h1 (by omega)
  · intro j h1 h2 h3 h4
    rw [fillR_len] at h2
    have q1 := par_lt h1
    have q2 := par_lt h4
    unfold Le
    rw [gt_fill hi h2, gt_fill hi (by omega), if_neg (by omega), if_neg (by omega)]
    exact (h.dn i).2 j h1 (by omega) h3 h4
theorem Cons.cut {l : List Ev} {F : Int → Option Nat} (h : Cons l F) (hd : Ids l) {i : Nat} (hi : i < l.length) (hl : ¬ i < l.length - 1) : Cons (cutR l) (upd F (gt l i).id none) := by
  constructor
  · intro j hj
    rw [cutR_len] at hj
    rw [gt_cut hj]
    unfold upd
    rw [if_neg (fun e => by have := hd.1 j i (by omega) hi e; omega)]
    exact h.1 j (by omega)
  · intro k hk
    unfold upd at hk
    by_cases e : k = (gt l i).id
    · rw [if_pos e] at hk; exact absurd rfl hk
    · rw [if_neg e] at hk
      obtain ⟨j, h1, h2⟩ := h.2 k hk
      have hji : j ≠ i := fun q => e (by rw [← h2, q])
      exact ⟨j, by rw [cutR_len]; omega, by rw [gt_cut (by omega)]; exact h2⟩
theorem Cons.fill {l : List Ev} {F : Int → Option Nat} (h : Cons l F) (hd : Ids l) {i : Nat} (hi : i < l.length - 1) : Cons (fillR l i) (upd (upd F (gt l i).id none) (gt l (l.length - 1)).id (some i)) := by
  constructor
  · intro j hj
    rw [fillR_len] at hj
    rw [gt_fill hi hj]
    unfold upd
    by_cases e : j = i
    · rw [if_pos e, if_pos rfl, e]
    · rw [if_neg e, if_neg (fun q => by have := hd.1 j (l.length - 1) (by omega) (by omega) q; omega), if_neg (fun q => e (hd.1 j i (by omega) (by omega) q))]
      exact h.1 j (by omega)
  · intro k hk
    unfold upd at hk
    by_cases e : k = (gt l (l.length - 1)).id
    · exact ⟨i, by rw [fillR_len]; exact hi, by rw [gt_fill hi hi, if_pos rfl, e]⟩
    · rw [if_neg e] at hk
      by_cases e1 : k = (gt l i).id
      · rw [if_pos e1] at hk; exact absurd rfl hk
      · rw [if_neg e1] at hk
        obtain ⟨j, h1, h2⟩ := h.2 k hk
        have hji : j ≠ i := fun q => e1 (by rw [← h2, q])
        have hjl : j ≠ l.length - 1 := fun q => e (by rw [← h2, q])
        exact ⟨j, by rw [fillR_len]; omega, by rw [gt_fill hi (by omega), if_neg hji]; exact h2⟩

/-! ### adding -/
theorem gt_app {l : List Ev} {x : Ev} {j : Nat} : gt (l ++ [x]) j = if j < l.length then gt l j else if j = l.length then x else ev0 := by
  unfold gt
  rw [List.getD_eq_getElem?_getD, List.getD_eq_getElem?_getD]
  by_cases h : j < l.length
  · rw [if_pos h, List.getElem?_append_left h]
  · rw [if_neg h, List.getElem?_append_right (by omega)]
    by_cases e : j = l.length
    · subst e; simp
    · rw [if_neg e, List.getElem?_eq_none (by simp; omega)]; rfl
theorem Heap.app {l : List Ev} (h : Heap l) (x : Ev) : HeapUp (l ++ [x]) l.length := by
  constructor
  · intro j h1 h2 h3
    simp only [List.length_append, List.length_singleton] at h2
    have := par_lt h1
    unfold Le
    rw [gt_app, gt_app, if_pos (by omega), if_pos (by omega)]
    exact h j h1 (by omega)
  · intro j h1 h2 h3 h4
    simp only [List.length_append, List.length_singleton] at h2
    have := par_lt h1
    omega
theorem Ids.app {l : List Ev} (h : Ids l) (x : Ev) (hx : wfI x.id) (hn : ∀ j, j < l.length → (gt l j).id ≠ x.id) : Ids (l ++ [x]) := by
  constructor
  · intro a b ha hb e
    simp only [List.length_append, List.length_singleton] at ha hb
    rw [gt_app, gt_app] at e
    by_cases h1 : a < l.length <;> by_cases h2 : b < l.length
    · rw [if_pos h1, if_pos h2] at e; exact h.1 a b h1 h2 e
    · rw [if_pos h1, if_neg h2, if_pos (by omega)] at e; exact absurd e (hn a h1)
    · rw [if_neg h1, if_pos (by omega), if_pos h2] at e; exact absurd e.symm (hn b h2)
    · omega
  · intro j hj
    simp only [List.length_append, List.length_singleton] at hj
    rw [gt_app]
    by_cases h1 : j < l.length
    · rw [if_pos h1]; exact h.2 j h1
    · rw [if_neg h1, if_pos (by omega)]; exact hx
theorem Cons.app {l : List Ev} {F : Int → Option Nat} (h : Cons l F) (x : Ev) : ConsEx (l ++ [x]) F l.length := by
  constructor
  · intro j hj hne
    simp only [List.length_append, List.length_singleton] at hj
    rw [gt_app, if_pos (by omega)]
    exact h.1 j (by omega)
  · intro k hk
    obtain ⟨j, h1, h2⟩ := h.2 k hk
    exact ⟨j, by simp; omega, by rw [gt_app, if_pos h1]; exact h2⟩
end Go.Proofs.Ytknoigleejbjdaa
