/- The law AgendaSorts: its lists. -/
import Derived.Test.YtknoigleejbjdaaAgZ
namespace Go.Proofs.Ytknoigleejbjdaa
open Go.RowKit
set_option linter.unusedVariables false
set_option linter.unusedSimpArgs false

/-- all that AgendaSorts pushes -/
def LS (T : Nat → Int) (k : Nat) : List Ev := (List.range k).map fun i => ⟨T i, ((i + 1 : Nat) : Int), -(i : Int)⟩
theorem LS_len (T : Nat → Int) (k : Nat) : (LS T k).length = k := by simp [LS]
theorem LS_succ (T : Nat → Int) (k : Nat) : LS T (k + 1) = LS T k ++ [⟨T k, ((k + 1 : Nat) : Int), -(k : Int)⟩] := by
  unfold LS
  rw [List.range_succ, List.map_append]
  rfl
theorem LS_mem {T : Nat → Int} {k : Nat} {e : Ev} (h : e ∈ LS T k) : ∃ i, i < k ∧ e = ⟨T i, ((i + 1 : Nat) : Int), -(i : Int)⟩ := by
  unfold LS at h
  obtain ⟨i, hi, rfl⟩ := List.mem_map.1 h
  exact ⟨i, List.mem_range.1 hi, rfl⟩
theorem LS_inc (T : Nat → Int) (k : Nat) : Inc (LS T k) := by
  unfold Inc LS
  rw [List.pairwise_map]
  refine List.pairwise_lt_range.imp (fun {a b} h => ?_)
  show ((a + 1 : Nat) : Int) < ((b + 1 : Nat) : Int)
  omega
theorem best_mem {l : List Ev} {m : Ev} (h : best l = some m) (hi : Inc l) : m ∈ l := (best_fst hi.nd h).1
theorem popL_mem {l : List Ev} {e : Ev} (h : e ∈ popL l) : e ∈ l := by
  unfold popL at h
  cases hb : best l with
  | none => rw [hb] at h; exact h
  | some m => rw [hb] at h; exact List.mem_of_mem_erase h
/-- those that are left come behind the first -/
theorem popL_bef {l : List Ev} {m : Ev} (h : best l = some m) (hi : Inc l) : ∀ e ∈ popL l, bef m e ∧ e.id ≠ m.id := by
  intro e he
  have hf := best_fst hi.nd h
  have hnd : l.Nodup := by
    have := hi.nd
    rw [List.nodup_iff_pairwise_ne] at this ⊢
    rw [List.pairwise_map] at this
    exact this.imp (fun h e => h (by rw [e]))
  unfold popL at he
  rw [h] at he
  simp only at he
  have hne : e ≠ m := fun q => by
    rw [q] at he
    exact (List.Nodup.not_mem_erase hnd) he
  have hm := List.mem_of_mem_erase he
  rcases hf.2 e hm with q | q
  · exact absurd q hne
  · exact ⟨q, fun q2 => hne (eq_of_id hi.nd hm hf.1 q2)⟩
/-- what is known of the events that are left: T their times, n their number at first, f those that were seen, (a, b) the last one -/
structure SL (T : Nat → Int) (n : Nat) (f : Nat → Bool) (a b : Int) (l : List Ev) : Prop where
  inc : Inc l
  of : ∀ e ∈ l, ∃ i, i < n ∧ e = ⟨T i, ((i + 1 : Nat) : Int), -(i : Int)⟩
  new : ∀ e ∈ l, f e.id.toNat = false
  last : ∀ e ∈ l, a < e.t ∨ (a = e.t ∧ b < e.id)
theorem SL.pop {T : Nat → Int} {n : Nat} {f : Nat → Bool} {a b : Int} {l : List Ev} (h : SL T n f a b l) (hl : l ≠ []) : ∃ i, i < n ∧ popT l = T i ∧ popId l = (i : Int) + 1 ∧ popIt l = -(i : Int) ∧ popOk l = true ∧ f (i + 1) = false ∧ (a < T i ∨ (a = T i ∧ b < (i : Int) + 1)) ∧ SL T n (fun j => if j = i + 1 then true else f j) (T i) ((i : Int) + 1) (popL l) := by
  obtain ⟨m, hm⟩ := best_some hl
  obtain ⟨i, hi, e⟩ := h.of m (best_mem hm h.inc)
  have h1 := h.new m (best_mem hm h.inc)
  have h2 := h.last m (best_mem hm h.inc)
  have h3 := popL_bef hm h.inc
  refine ⟨i, hi, ?_, ?_, ?_, ?_, ?_, ?_, h.inc.popL, fun x hx => h.of x (popL_mem hx), fun x hx => ?_, fun x hx => ?_⟩
  · unfold popT; rw [hm, e]
  · unfold popId; rw [hm, e]; rfl
  · unfold popIt; rw [hm, e]
  · unfold popOk; rw [hm]; rfl
  · rw [e] at h1; simpa using h1
  · rw [e] at h2; exact h2
  · have := (h3 x hx).2
    rw [e] at this
    rw [if_neg]
    · exact h.new x (popL_mem hx)
    · intro q
      obtain ⟨j, hj, e2⟩ := h.of x (popL_mem hx)
      rw [e2] at q this
      simp only at q this
      omega
  · have := (h3 x hx).1
    rw [e] at this
    exact this
theorem LS_SL (T : Nat → Int) (n : Nat) (hT : ∀ i, i < n → 0 ≤ T i) : SL T n (fun _ => false) (-1) 0 (LS T n) := by
  refine ⟨LS_inc T n, fun e he => LS_mem he, fun _ _ => rfl, fun e he => ?_⟩
  obtain ⟨i, hi, rfl⟩ := LS_mem he
  have := hT i hi
  left
  show (-1 : Int) < T i
  omega
end Go.Proofs.Ytknoigleejbjdaa
