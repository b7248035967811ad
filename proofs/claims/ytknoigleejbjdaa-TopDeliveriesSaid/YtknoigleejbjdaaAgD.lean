/- A heap's row, its map and the element that is on its way: the steps of up and down. -/
import Derived.Test.YtknoigleejbjdaaAgC
namespace Go.Proofs.Ytknoigleejbjdaa
open Go.RowKit
set_option linter.unusedVariables false
set_option linter.unusedSimpArgs false

/-- the numbers of a row's elements differ, and are numbers of the kind int -/
def Ids (v : List Ev) : Prop := (∀ a b, a < v.length → b < v.length → (gt v a).id = (gt v b).id → a = b) ∧ ∀ j, j < v.length → wfI (gt v j).id
/-- the map knows where each element is, but for the one at i -/
def ConsEx (v : List Ev) (F : Int → Option Nat) (i : Nat) : Prop := (∀ j, j < v.length → j ≠ i → F (gt v j).id = some j) ∧ (∀ k, F k ≠ none → ∃ j, j < v.length ∧ (gt v j).id = k)
def Cons (v : List Ev) (F : Int → Option Nat) : Prop := (∀ j, j < v.length → F (gt v j).id = some j) ∧ (∀ k, F k ≠ none → ∃ j, j < v.length ∧ (gt v j).id = k)
theorem Cons.ex {v : List Ev} {F : Int → Option Nat} (h : Cons v F) (i : Nat) : ConsEx v F i := ⟨fun j hj _ => h.1 j hj, h.2⟩
/-- the row that is in memory while the element at i is on its way: it is v but for i -/
def Row (l v : List Ev) (i : Nat) : Prop := l.length = v.length ∧ ∀ j, j < v.length → j ≠ i → gt l j = gt v j
theorem ext_gt {l v : List Ev} (h : l.length = v.length) (e : ∀ j, j < v.length → gt l j = gt v j) : l = v := by
  refine List.ext_getElem h fun j h1 h2 => ?_
  have := e j h2
  rw [gt_eq h1, gt_eq h2] at this
  exact this
theorem Row.done {l v : List Ev} {i : Nat} (h : Row l v i) (hi : i < v.length) : l.set i (gt v i) = v := by
  refine ext_gt (by rw [List.length_set]; exact h.1) fun j hj => ?_
  rw [gt_set (by rw [h.1]; exact hi)]
  by_cases e : j = i
  · subst e; rw [if_pos rfl]
  · rw [if_neg e]; exact h.2 j hj e
theorem Row.step {l v : List Ev} {i p : Nat} (h : Row l v i) (hi : i < v.length) (hp : p < v.length) (hne : p ≠ i) : Row (l.set i (gt v p)) (swp v i p) p := by
  refine ⟨by rw [List.length_set, swp_len]; exact h.1, fun j hj hjp => ?_⟩
  rw [swp_len] at hj
  rw [gt_set (by rw [h.1]; exact hi), gt_swp hi hp, if_neg hjp]
  by_cases e : j = i
  · rw [if_pos e, if_pos e]
  · rw [if_neg e, if_neg e]; exact h.2 j hj e
theorem Ids.perm {v v' : List Ev} (h : Ids v) (hp : v'.Perm v) : Ids v' := by
  have hn : (v.map (·.id)).Nodup := by
    rw [List.nodup_iff_pairwise_ne, List.pairwise_iff_getElem]
    intro a b ha hb hab e
    simp only [List.length_map] at ha hb
    simp only [List.getElem_map] at e
    have := h.1 a b ha hb (by rw [gt_eq ha, gt_eq hb]; exact e)
    omega
  have hn' : (v'.map (·.id)).Nodup := (hp.map _).nodup_iff.2 hn
  rw [List.nodup_iff_pairwise_ne, List.pairwise_iff_getElem] at hn'
  constructor
  · intro a b ha hb e
    rw [gt_eq ha, gt_eq hb] at e
    rcases Nat.lt_trichotomy a b with q | q | q
    · exact absurd (by rw [List.getElem_map, List.getElem_map]; exact e) (hn' a b (by simpa using ha) (by simpa using hb) q)
    · exact q
    · exact absurd (by rw [List.getElem_map, List.getElem_map]; exact e.symm) (hn' b a (by simpa using hb) (by simpa using ha) q)
  · intro j hj
    rw [gt_eq hj]
    obtain ⟨q, hq, e⟩ := List.mem_iff_getElem.1 (hp.mem_iff.1 (List.getElem_mem hj))
    rw [← e, ← gt_eq hq]
    exact h.2 q hq
theorem Ids.swp {v : List Ev} {i p : Nat} (h : Ids v) (hi : i < v.length) (hp : p < v.length) : Ids (swp v i p) := h.perm (swp_perm hi hp)
theorem ConsEx.step {v : List Ev} {F : Int → Option Nat} {i p : Nat} (h : ConsEx v F i) (hd : Ids v) (hi : i < v.length) (hp : p < v.length) (hne : p ≠ i) : ConsEx (swp v i p) (upd F (gt v p).id (some i)) p := by
  constructor
  · intro j hj hjp
    rw [swp_len] at hj
    rw [gt_swp hi hp, if_neg hjp]
    unfold upd
    by_cases e : j = i
    · rw [if_pos e, if_pos rfl, e]
    · rw [if_neg e, if_neg (fun q => hjp (hd.1 j p hj hp q))]
      exact h.1 j hj e
  · intro k hk
    unfold upd at hk
    by_cases e : k = (gt v p).id
    · exact ⟨i, by rw [swp_len]; exact hi, by rw [gt_swp hi hp, if_neg (fun q => hne q.symm), if_pos rfl, e]⟩
    · rw [if_neg e] at hk
      obtain ⟨j, h1, h2⟩ := h.2 k hk
      by_cases e1 : j = p
      · exact absurd (by rw [← h2, e1]) e
      · by_cases e2 : j = i
        · exact ⟨p, by rw [swp_len]; exact hp, by rw [gt_swp hi hp, if_pos rfl, ← e2]; exact h2⟩
        · exact ⟨j, by rw [swp_len]; exact h1, by rw [gt_swp hi hp, if_neg e1, if_neg e2]; exact h2⟩
theorem ConsEx.done {v : List Ev} {F : Int → Option Nat} {i : Nat} (h : ConsEx v F i) (hd : Ids v) (hi : i < v.length) : Cons v (upd F (gt v i).id (some i)) := by
  constructor
  · intro j hj
    unfold upd
    by_cases e : j = i
    · rw [e, if_pos rfl]
    · rw [if_neg (fun q => e (hd.1 j i hj hi q))]; exact h.1 j hj e
  · intro k hk
    unfold upd at hk
    by_cases e : k = (gt v i).id
    · exact ⟨i, hi, e.symm⟩
    · rw [if_neg e] at hk; exact h.2 k hk
end Go.Proofs.Ytknoigleejbjdaa
