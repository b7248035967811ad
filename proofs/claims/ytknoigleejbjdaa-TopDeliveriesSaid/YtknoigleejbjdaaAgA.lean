/- The plain mathematics of a heap of events. -/
import Derived.Test.YtknoigleejbjdaaProg
namespace Go.Proofs.Ytknoigleejbjdaa
set_option linter.unusedVariables false
set_option linter.unusedSimpArgs false

structure Ev where
  t : Int
  id : Int
  item : Int
deriving DecidableEq
def ev0 : Ev := ⟨0, 0, 0⟩
/-- does an event come before another one? -/
def bef (a b : Ev) : Prop := a.t < b.t ∨ (a.t = b.t ∧ a.id < b.id)
instance (a b : Ev) : Decidable (bef a b) := inferInstanceAs (Decidable (_ ∨ _))
theorem bef_irrefl (a : Ev) : ¬ bef a a := by unfold bef; omega
theorem bef_asymm {a b : Ev} (h : bef a b) : ¬ bef b a := by unfold bef at *; omega
theorem bef_trans {a b c : Ev} (h : bef a b) (k : bef b c) : bef a c := by unfold bef at *; omega
theorem le_trans' {a b c : Ev} (h : ¬ bef b a) (k : ¬ bef c b) : ¬ bef c a := by unfold bef at *; omega
theorem lt_le {a b c : Ev} (h : bef a b) (k : ¬ bef c b) : ¬ bef c a := by unfold bef at *; omega

/-- the element at a place -/
def gt (v : List Ev) (i : Nat) : Ev := v.getD i ev0
theorem gt_eq {v : List Ev} {i : Nat} (h : i < v.length) : gt v i = v[i] := by simp [gt, List.getD_eq_getElem?_getD, List.getElem?_eq_getElem h]
theorem gt_some {v : List Ev} {i : Nat} (h : i < v.length) : v[i]? = some (gt v i) := by rw [gt_eq h, List.getElem?_eq_getElem h]
theorem gt_set {v : List Ev} {i j : Nat} {x : Ev} (h : i < v.length) : gt (v.set i x) j = if j = i then x else gt v j := by
  unfold gt
  rw [List.getD_eq_getElem?_getD, List.getD_eq_getElem?_getD, List.getElem?_set]
  by_cases e : i = j
  · subst e; rw [if_pos rfl, if_pos rfl, if_pos h]; rfl
  · rw [if_neg e, if_neg (fun q => e q.symm)]
def Le (v : List Ev) (a b : Nat) : Prop := ¬ bef (gt v b) (gt v a)
def par (j : Nat) : Nat := (j - 1) / 2
def Heap (v : List Ev) : Prop := ∀ j, 1 ≤ j → j < v.length → Le v (par j) j
/-- a heap but for what is at i -/
def HeapEx (v : List Ev) (i : Nat) : Prop := (∀ j, 1 ≤ j → j < v.length → j ≠ i → par j ≠ i → Le v (par j) j) ∧ (∀ j, 1 ≤ j → j < v.length → par j = i → 1 ≤ i → Le v (par i) j)
/-- a heap but that what is at i may come before what is above it -/
def HeapUp (v : List Ev) (i : Nat) : Prop := (∀ j, 1 ≤ j → j < v.length → j ≠ i → Le v (par j) j) ∧ (∀ j, 1 ≤ j → j < v.length → par j = i → 1 ≤ i → Le v (par i) j)
/-- a heap but that what is below i may come before it -/
def HeapDn (v : List Ev) (i : Nat) : Prop := (∀ j, 1 ≤ j → j < v.length → par j ≠ i → Le v (par j) j) ∧ (∀ j, 1 ≤ j → j < v.length → par j = i → 1 ≤ i → Le v (par i) j)
theorem HeapUp.ex {v : List Ev} {i : Nat} (h : HeapUp v i) : HeapEx v i := ⟨fun j h1 h2 h3 _ => h.1 j h1 h2 h3, h.2⟩
theorem Heap.dn {v : List Ev} (h : Heap v) (i : Nat) : HeapDn v i :=
  ⟨fun j h1 h2 _ => h j h1 h2, fun j h1 h2 h3 h4 => by
    by_cases hi : i < v.length
    · have a := h i h4 hi
      have b := h j h1 h2
      rw [h3] at b
      exact le_trans' a b
    · unfold par at h3; omega⟩
theorem par_lt {j : Nat} (h : 1 ≤ j) : par j < j := by unfold par; omega
/-- two places changed -/
def swp (v : List Ev) (i p : Nat) : List Ev := (v.set i (gt v p)).set p (gt v i)
theorem swp_len (v : List Ev) (i p : Nat) : (swp v i p).length = v.length := by simp [swp]
theorem swp_perm {v : List Ev} {i p : Nat} (hi : i < v.length) (hp : p < v.length) : (swp v i p).Perm v := by
  unfold swp
  rw [gt_eq hi, gt_eq hp]
  exact List.set_set_perm hi hp
theorem gt_swp {v : List Ev} {i p j : Nat} (hi : i < v.length) (hp : p < v.length) : gt (swp v i p) j = if j = p then gt v i else if j = i then gt v p else gt v j := by
  unfold swp
  rw [gt_set (by simpa using hp), gt_set hi]

theorem up_stop {v : List Ev} {i : Nat} (h : HeapEx v i) (hs : i = 0 ∨ ¬ bef (gt v i) (gt v (par i))) : HeapDn v i := by
  refine ⟨fun j h1 h2 h3 => ?_, h.2⟩
  by_cases e : j = i
  · subst e
    rcases hs with hs | hs
    · omega
    · exact hs
  · exact h.1 j h1 h2 e h3
theorem up_stop' {v : List Ev} {i : Nat} (h : HeapUp v i) (hs : i = 0 ∨ ¬ bef (gt v i) (gt v (par i))) : Heap v := by
  intro j h1 h2
  by_cases e : j = i
  · subst e
    rcases hs with hs | hs
    · omega
    · exact hs
  · exact h.1 j h1 h2 e
theorem up_step {v : List Ev} {i : Nat} (h : HeapEx v i) (hi : i < v.length) (h1i : 1 ≤ i) (hb : bef (gt v i) (gt v (par i))) : HeapUp (swp v i (par i)) (par i) := by
  have hp : par i < v.length := Nat.lt_trans (par_lt h1i) hi
  have hpi := par_lt h1i
  constructor
  · intro j h1 h2 h3
    rw [swp_len] at h2
    unfold Le
    rw [gt_swp hi hp, gt_swp hi hp, if_neg h3]
    by_cases e : j = i
    · subst e; rw [if_pos rfl, if_pos rfl]; exact bef_asymm hb
    · rw [if_neg e]
      by_cases e1 : par j = par i
      · rw [if_pos e1]
        have q := h.1 j h1 h2 e (by omega)
        rw [e1] at q
        exact lt_le hb q
      · rw [if_neg e1]
        by_cases e2 : par j = i
        · rw [if_pos e2]; exact h.2 j h1 h2 e2 h1i
        · rw [if_neg e2]; exact h.1 j h1 h2 e e2
  · intro j h1 h2 h3 h4
    rw [swp_len] at h2
    have hpp := par_lt h4
    unfold Le
    rw [gt_swp hi hp, gt_swp hi hp, if_neg (show par (par i) ≠ par i by omega), if_neg (show par (par i) ≠ i by omega), if_neg (show j ≠ par i by intro e; rw [e] at h3; omega)]
    have q := h.1 (par i) h4 hp (by omega) (by omega)
    by_cases e : j = i
    · subst e; rw [if_pos rfl]; exact q
    · rw [if_neg e]
      have q2 := h.1 j h1 h2 e (by omega)
      rw [h3] at q2
      exact le_trans' q q2
theorem dn_stop {v : List Ev} {i : Nat} (h : HeapDn v i) (hs : ∀ j, 1 ≤ j → j < v.length → par j = i → Le v i j) : Heap v := by
  intro j h1 h2
  by_cases e : par j = i
  · rw [e]; exact hs j h1 h2 e
  · exact h.1 j h1 h2 e
theorem dn_step {v : List Ev} {i k : Nat} (h : HeapDn v i) (hi : i < v.length) (hk : k < v.length) (h1k : 1 ≤ k) (hpk : par k = i) (hb : bef (gt v k) (gt v i)) (hm : ∀ j, 1 ≤ j → j < v.length → par j = i → Le v k j) :
    HeapDn (swp v i k) k := by
  have hik : i < k := by rw [← hpk]; exact par_lt h1k
  constructor
  · intro j h1 h2 h3
    rw [swp_len] at h2
    unfold Le
    rw [gt_swp hi hk, gt_swp hi hk, if_neg h3]
    by_cases e : j = k
    · subst e; rw [if_pos rfl, if_pos hpk]; exact bef_asymm hb
    · rw [if_neg e]
      by_cases e1 : par j = i
      · rw [if_pos e1, if_neg (show j ≠ i by intro q; have := par_lt h1; omega)]; exact hm j h1 h2 e1
      · rw [if_neg e1]
        by_cases e2 : j = i
        · subst e2; rw [if_pos rfl]; exact h.2 k h1k hk hpk h1
        · rw [if_neg e2]; exact h.1 j h1 h2 e1
  · intro j h1 h2 h3 h4
    rw [swp_len] at h2
    unfold Le
    have hjk : k < j := by rw [← h3]; exact par_lt h1
    rw [gt_swp hi hk, gt_swp hi hk, hpk, if_neg (show i ≠ k by omega), if_pos rfl, if_neg (show j ≠ k by omega), if_neg (show j ≠ i by omega)]
    have q := h.1 j h1 h2 (by omega)
    rw [h3] at q
    exact q
/-- what is on top comes first -/
theorem heap_top {v : List Ev} (h : Heap v) : ∀ j, j < v.length → Le v 0 j := by
  intro j
  induction j using Nat.strongRecOn with
  | _ j ih =>
    intro hj
    rcases Nat.eq_zero_or_pos j with rfl | h0
    · exact bef_irrefl _
    · have a := ih (par j) (par_lt h0) (Nat.lt_trans (par_lt h0) hj)
      exact le_trans' a (h j h0 hj)
end Go.Proofs.Ytknoigleejbjdaa
