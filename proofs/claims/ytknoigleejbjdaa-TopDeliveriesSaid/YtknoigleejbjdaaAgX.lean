/- Lists of events in the order in which they were pushed. -/
import Derived.Test.YtknoigleejbjdaaAgW
namespace Go.Proofs.Ytknoigleejbjdaa
open Go.RowKit
set_option linter.unusedVariables false
set_option linter.unusedSimpArgs false

/-- the ids increase -/
def Inc (l : List Ev) : Prop := l.Pairwise (fun a b => a.id < b.id)
theorem Inc.nd {l : List Ev} (h : Inc l) : (l.map (·.id)).Nodup := by
  rw [List.nodup_iff_pairwise_ne, List.pairwise_map]
  exact h.imp (fun h e => by omega)
theorem Inc.lt {l : List Ev} (h : Inc l) {i j : Nat} (hij : i < j) (hj : j < l.length) : (gt l i).id < (gt l j).id := by
  rw [gt_eq (by omega : i < l.length), gt_eq hj]
  exact (List.pairwise_iff_getElem.1 h) i j (by omega) hj hij
/-- the position of the first event -/
def FAt (l : List Ev) (p : Nat) : Prop := p < l.length ∧ (∀ j, j < p → (gt l p).t < (gt l j).t) ∧ ∀ j, j < l.length → (gt l p).t ≤ (gt l j).t
theorem FAt.fst {l : List Ev} (h : Inc l) {p : Nat} (hp : FAt l p) : Fst l (gt l p) := by
  refine ⟨by rw [gt_eq hp.1]; exact List.getElem_mem hp.1, fun e he => ?_⟩
  obtain ⟨j, hj, rfl⟩ := List.mem_iff_getElem.1 he
  rw [← gt_eq hj]
  rcases Nat.lt_trichotomy j p with q | q | q
  · exact .inr (.inl (hp.2.1 j q))
  · exact .inl (by rw [q])
  · right
    have := h.lt q hj
    have := hp.2.2 j hj
    unfold bef
    omega
theorem FAt.best {l : List Ev} (h : Inc l) {p : Nat} (hp : FAt l p) : best l = some (gt l p) := best_eq h.nd (hp.fst h)
theorem FAt.popL {l : List Ev} (h : Inc l) {p : Nat} (hp : FAt l p) : popL l = l.eraseIdx p := by
  unfold Go.Proofs.Ytknoigleejbjdaa.popL
  rw [hp.best h]
  simp only
  rw [gt_eq hp.1]
  refine erase_at ?_ p hp.1
  have := h.nd
  rw [List.nodup_iff_pairwise_ne] at this ⊢
  rw [List.pairwise_map] at this
  exact this.imp (fun h e => h (by rw [e]))
theorem FAt.ex {l : List Ev} (h : Inc l) (hl : l ≠ []) : ∃ p, FAt l p := by
  obtain ⟨m, hm⟩ := best_some hl
  have hf := best_fst h.nd hm
  obtain ⟨p, hp, e⟩ := List.mem_iff_getElem.1 hf.1
  rw [← gt_eq hp] at e
  refine ⟨p, hp, fun j hj => ?_, fun j hj => ?_⟩
  · have hjl : j < l.length := by omega
    have hlt := h.lt hj hp
    rcases hf.2 (gt l j) (by rw [gt_eq hjl]; exact List.getElem_mem hjl) with q | q
    · rw [← e] at q; rw [q] at hlt; omega
    · rw [← e] at q; unfold bef at q; omega
  · rcases hf.2 (gt l j) (by rw [gt_eq hj]; exact List.getElem_mem hj) with q | q
    · rw [e, q]; exact Int.le_refl _
    · rw [← e] at q; unfold bef at q; omega
theorem Inc.eraseIdx {l : List Ev} (h : Inc l) (p : Nat) : Inc (l.eraseIdx p) := List.Pairwise.sublist (List.eraseIdx_sublist l p) h
theorem Inc.filter {l : List Ev} (h : Inc l) (f : Ev → Bool) : Inc (l.filter f) := List.Pairwise.sublist List.filter_sublist h
theorem Inc.popL {l : List Ev} (h : Inc l) : Inc (popL l) := by
  by_cases hl : l = []
  · subst hl; exact h
  · obtain ⟨p, hp⟩ := FAt.ex h hl
    rw [hp.popL h]
    exact h.eraseIdx p
theorem Inc.app {l : List Ev} (h : Inc l) {e : Ev} (he : ∀ a ∈ l, a.id < e.id) : Inc (l ++ [e]) := by
  unfold Inc
  rw [List.pairwise_append]
  exact ⟨h, List.pairwise_singleton _ _, fun a ha b hb => by rw [List.mem_singleton.1 hb]; exact he a ha⟩
theorem gt_map {α : Type} (f : Ev → α) {l m : List Ev} (h : l.map f = m.map f) {j : Nat} (hj : j < l.length) : f (gt l j) = f (gt m j) := by
  have hl : l.length = m.length := by have := congrArg List.length h; simpa using this
  rw [gt_eq hj, gt_eq (by omega : j < m.length)]
  have : (l.map f)[j]? = (m.map f)[j]? := by rw [h]
  rw [List.getElem?_map, List.getElem?_map, List.getElem?_eq_getElem hj, List.getElem?_eq_getElem (by omega)] at this
  simpa using this
def tf (e : Ev) : Int × Int := (e.t, e.item)
theorem FAt.other {l m : List Ev} (h : l.map tf = m.map tf) {p : Nat} (hp : FAt l p) : FAt m p := by
  have hl : l.length = m.length := by have := congrArg List.length h; simpa using this
  have ht : ∀ j, j < l.length → (gt l j).t = (gt m j).t := fun j hj => congrArg Prod.fst (gt_map tf h hj)
  refine ⟨by have := hp.1; omega, fun j hj => ?_, fun j hj => ?_⟩
  · rw [← ht p hp.1, ← ht j (by have := hp.1; omega)]; exact hp.2.1 j hj
  · rw [← ht p hp.1, ← ht j (by omega)]; exact hp.2.2 j (by omega)
theorem eraseIdx_map' {α β : Type} (f : α → β) : ∀ (l : List α) (p : Nat), (l.eraseIdx p).map f = (l.map f).eraseIdx p
  | [], p => by simp
  | x :: r, 0 => by simp
  | x :: r, p + 1 => by simp [eraseIdx_map' f r p]
/-- two lists that are alike but for their ids pop alike -/
theorem pop_alike {l m : List Ev} (hl : Inc l) (hm : Inc m) (h : l.map tf = m.map tf) : popT l = popT m ∧ popIt l = popIt m ∧ popOk l = popOk m ∧ (popL l).map tf = (popL m).map tf := by
  by_cases e : l = []
  · subst e
    obtain rfl : m = [] := by cases m with
      | nil => rfl
      | cons a r => cases h
    exact ⟨rfl, rfl, rfl, rfl⟩
  · obtain ⟨p, hp⟩ := FAt.ex hl e
    have hq := hp.other h
    have hg := gt_map tf h hp.1
    have h1 := congrArg Prod.fst hg
    have h2 := congrArg Prod.snd hg
    rw [hp.popL hl, hq.popL hm, eraseIdx_map', eraseIdx_map', h]
    unfold popT popIt popOk
    rw [hp.best hl, hq.best hm]
    exact ⟨h1, h2, rfl, rfl⟩
theorem popL_len {l : List Ev} : (popL l).length = l.length - 1 := by
  unfold popL
  cases hb : best l with
  | none => rw [best_none hb]; rfl
  | some m =>
    simp only
    have : m ∈ l := by
      -- the first event is among them
      have : ∀ (l : List Ev) (m : Ev), best l = some m → m ∈ l := by
        intro l
        induction l with
        | nil => intro m h; cases h
        | cons x r ih =>
          intro m h
          unfold best at h
          cases hr : best r with
          | none => rw [hr] at h; simp at h; exact List.mem_cons.2 (.inl h.symm)
          | some m' =>
            rw [hr] at h
            simp only at h
            by_cases q : bef m' x
            · rw [if_pos q] at h; simp at h; rw [← h]; exact List.mem_cons_of_mem _ (ih m' hr)
            · rw [if_neg q] at h; simp at h; exact List.mem_cons.2 (.inl h.symm)
      exact this l m hb
    exact List.length_erase_of_mem this
end Go.Proofs.Ytknoigleejbjdaa
