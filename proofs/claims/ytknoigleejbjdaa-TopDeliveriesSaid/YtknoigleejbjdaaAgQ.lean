/- The queue's operations over a plain state: its time, how many were pushed, its events in the order in which they were pushed. -/
import Derived.Test.YtknoigleejbjdaaAgP
namespace Go.Proofs.Ytknoigleejbjdaa
open Go.RowKit
set_option linter.unusedVariables false
set_option linter.unusedSimpArgs false

/-- the first event, if there is one -/
def best : List Ev → Option Ev
  | [] => none
  | x :: r => match best r with
    | none => some x
    | some m => if bef m x then some m else some x
theorem best_none {l : List Ev} (h : best l = none) : l = [] := by
  cases l with
  | nil => rfl
  | cons x r =>
    unfold best at h
    cases hb : best r with
    | none => rw [hb] at h; cases h
    | some m => rw [hb] at h; simp only at h; by_cases q : bef m x
                · rw [if_pos q] at h; cases h
                · rw [if_neg q] at h; cases h
theorem best_fst {l : List Ev} (nd : (l.map (·.id)).Nodup) : ∀ {m : Ev}, best l = some m → Fst l m := by
  induction l with
  | nil => intro m h; cases h
  | cons x r ih =>
    intro m h
    rw [List.map_cons, List.nodup_cons] at nd
    unfold best at h
    cases hb : best r with
    | none =>
      rw [hb] at h
      obtain rfl : x = m := by simpa using h
      rw [best_none hb]
      exact ⟨List.mem_singleton.2 rfl, fun e he => .inl (List.mem_singleton.1 he)⟩
    | some m' =>
      rw [hb] at h
      simp only at h
      have hf := ih nd.2 hb
      by_cases q : bef m' x
      · rw [if_pos q] at h
        obtain rfl : m' = m := by simpa using h
        refine ⟨List.mem_cons_of_mem _ hf.1, fun e he => ?_⟩
        rcases List.mem_cons.1 he with rfl | he
        · exact .inr q
        · exact hf.2 e he
      · rw [if_neg q] at h
        obtain rfl : x = m := by simpa using h
        refine ⟨List.mem_cons_self, fun e he => ?_⟩
        rcases List.mem_cons.1 he with rfl | he
        · exact .inl rfl
        · right
          have hne : x.id ≠ m'.id := fun e => nd.1 (by rw [e]; exact List.mem_map.2 ⟨m', hf.1, rfl⟩)
          have hxm : bef x m' := by unfold bef at q ⊢; omega
          rcases hf.2 e he with rfl | z
          · exact hxm
          · exact bef_trans hxm z
theorem best_some {l : List Ev} (h : l ≠ []) : ∃ m, best l = some m := by
  cases hb : best l with
  | none => exact absurd (best_none hb) h
  | some m => exact ⟨m, rfl⟩
def popT (l : List Ev) : Int := match best l with | none => 0 | some m => m.t
def popId (l : List Ev) : Int := match best l with | none => 0 | some m => m.id
def popIt (l : List Ev) : Int := match best l with | none => 0 | some m => m.item
def popOk (l : List Ev) : Bool := (best l).isSome
def popNow (now : Int) (l : List Ev) : Int := match best l with | none => now | some m => m.t
def popL (l : List Ev) : List Ev := match best l with | none => l | some m => l.erase m
def pushId (lim now : Int) (p : Nat) (l : List Ev) (t : Int) : Int := if pushErr lim now l.length t = 0 then ((p + 1 : Nat) : Int) else 0
def pushP (lim now : Int) (p : Nat) (l : List Ev) (t : Int) : Nat := if pushErr lim now l.length t = 0 then p + 1 else p
def pushL (lim now : Int) (p : Nat) (l : List Ev) (t item : Int) : List Ev := if pushErr lim now l.length t = 0 then l ++ [⟨t, ((p + 1 : Nat) : Int), item⟩] else l
def canOk (l : List Ev) (k : Int) : Bool := l.any (fun e => e.id == k)
def canL (l : List Ev) (k : Int) : List Ev := l.eraseP (fun e => e.id == k)
theorem canL_erase {l : List Ev} (nd : (l.map (·.id)).Nodup) {m : Ev} (hm : m ∈ l) : canL l m.id = l.erase m := by
  unfold canL
  induction l with
  | nil => cases hm
  | cons x r ih =>
    rw [List.map_cons, List.nodup_cons] at nd
    by_cases e : x = m
    · subst e; simp
    · have hmr : m ∈ r := by
        rcases List.mem_cons.1 hm with q | q
        · exact absurd q.symm e
        · exact q
      have hid : x.id ≠ m.id := fun q => nd.1 (by rw [q]; exact List.mem_map.2 ⟨m, hmr, rfl⟩)
      rw [List.eraseP_cons_of_neg (by simpa using hid), List.erase_cons_tail (by simpa using e), ih nd.2 hmr]
theorem canL_no {l : List Ev} {k : Int} (h : ∀ e ∈ l, e.id ≠ k) : canL l k = l := List.eraseP_of_forall_not (fun e he => by simpa using h e he)

/-- a queue in memory among other blocks -/
def QO (B : Nat) (oth : Nat → Prop) (w : World) (Q : Nat) (lim now : Int) (p N : Nat) (l : List Ev) : Prop := ∃ own : Nat → Prop, QS w Q lim now p N l own ∧ ∀ b, own b → B ≤ b ∧ ¬ oth b
theorem QO.B {B : Nat} {oth : Nat → Prop} {w : World} {Q : Nat} {lim now : Int} {p N : Nat} {l : List Ev} (h : QO B oth w Q lim now p N l) : B ≤ w.heap.size := by
  obtain ⟨own, h, ho⟩ := h
  have := (ho Q h.ownQ).1
  have := h.Qlt
  omega
theorem QO.mono {B : Nat} {oth : Nat → Prop} {w : World} {Q : Nat} {lim now : Int} {p N N' : Nat} {l : List Ev} (h : QO B oth w Q lim now p N l) (hN : N ≤ N') : QO B oth w Q lim now p N' l := by
  obtain ⟨own, h, ho⟩ := h
  exact ⟨own, h.mono hN, ho⟩
/-- what others write leaves it -/
theorem QO.keep {B : Nat} {oth o2 : Nat → Prop} {w w' : World} {Q : Nat} {lim now : Int} {p N : Nat} {l : List Ev} (h : QO B oth w Q lim now p N l) (hk : Keep o2 w w') (hd : ∀ b, o2 b → oth b) : QO B oth w' Q lim now p N l := by
  obtain ⟨own, h, ho⟩ := h
  exact ⟨own, h.other hk (fun b q z => (ho b q).2 (hd b z)), ho⟩
theorem QO.below {B : Nat} {oth : Nat → Prop} {w w' : World} {Q : Nat} {lim now : Int} {p N : Nat} {l : List Ev} (h : QO B oth w Q lim now p N l) (hb : Below w.heap.size w w') : QO B oth w' Q lim now p N l := by
  obtain ⟨own, h, ho⟩ := h
  exact ⟨own, h.below hb, ho⟩
/-- more of the others: new blocks -/
theorem QO.grow {B : Nat} {oth oth' : Nat → Prop} {w : World} {Q : Nat} {lim now : Int} {p N : Nat} {l : List Ev} (h : QO B oth w Q lim now p N l) (hd : ∀ b, oth' b → oth b ∨ w.heap.size ≤ b) : QO B oth' w Q lim now p N l := by
  obtain ⟨own, h, ho⟩ := h
  refine ⟨own, h, fun b q => ⟨(ho b q).1, fun z => ?_⟩⟩
  rcases hd b z with z | z
  · exact (ho b q).2 z
  · have := h.olt b q; omega
def Mine (B : Nat) (oth : Nat → Prop) (b : Nat) : Prop := B ≤ b ∧ ¬ oth b
theorem Keep.weak {o1 o2 : Nat → Prop} {w w' : World} (h : Keep o1 w w') (hd : ∀ b, o1 b → o2 b) : Keep o2 w w' := ⟨h.os, h.tape, h.output, h.size, fun k h1 h2 => h.block k h1 (fun q => h2 (hd k q))⟩
theorem QO.push {B : Nat} {oth : Nat → Prop} {w : World} {Q : Nat} {lim now : Int} {p N : Nat} {l : List Ev} (h : QO B oth w Q lim now p N l) (hoth : ∀ b, oth b → b < w.heap.size) (hN : N ≤ 1000000000) (hp : p < 1000000000) (t item : Int) : Calls Try.prog 13 #[.pointer (some ⟨Q, 0, none⟩), .int .i64 t, .int .i64 item] w fun r w' => r = .returned (.tuple #[.int .i64 (pushId lim now p l t), .int .i64 (pushErr lim now l.length t)]) ∧ QO B oth w' Q lim now (pushP lim now p l t) (N + 10000) (pushL lim now p l t item) ∧ Keep (Mine B oth) w w' := by
  have hB := h.B
  obtain ⟨own, h, ho⟩ := h
  unfold pushId pushP pushL
  by_cases he : pushErr lim now l.length t = 0
  · refine (push_ok h t item he hN hp).mono ?_
    rintro r w' ⟨rfl, ⟨own', hq, hn⟩, hk⟩
    rw [if_pos he, if_pos he, if_pos he, he]
    refine ⟨rfl, ⟨own', hq, fun b q => ?_⟩, hk.weak (fun b q => ho b q)⟩
    rcases hn b q with q | q
    · exact ho b q
    · exact ⟨by omega, fun z => by have := hoth b z; omega⟩
  · refine (push_no h t item he).mono ?_
    rintro r w' ⟨rfl, hb⟩
    rw [if_neg he, if_neg he, if_neg he]
    exact ⟨rfl, ⟨own, (h.below hb).mono (by omega), ho⟩, Below.keep hb (Nat.le_refl _) _⟩
theorem QO.pop {B : Nat} {oth : Nat → Prop} {w : World} {Q : Nat} {lim now : Int} {p N : Nat} {l : List Ev} (h : QO B oth w Q lim now p N l) (hN : N ≤ 1000000000) : Calls Try.prog 14 #[.pointer (some ⟨Q, 0, none⟩)] w fun r w' => r = .returned (.tuple #[.agg #[.int .i64 (popT l), .int .i64 (popId l), .int .i64 (popIt l)], .bool (popOk l)]) ∧ QO B oth w' Q lim (popNow now l) p (N + 10000) (popL l) ∧ Keep (Mine B oth) w w' := by
  obtain ⟨own, h, ho⟩ := h
  unfold popT popId popIt popOk popNow popL
  cases hb : best l with
  | none =>
    obtain rfl := best_none hb
    refine (pop_none h).mono ?_
    rintro r w' ⟨rfl, hbl⟩
    exact ⟨rfl, ⟨own, (h.below hbl).mono (by omega), ho⟩, Below.keep hbl (Nat.le_refl _) _⟩
  | some m =>
    refine (pop_some h m (best_fst h.nd hb) hN).mono ?_
    rintro r w' ⟨rfl, hq, hk⟩
    exact ⟨rfl, ⟨own, hq, ho⟩, hk.weak (fun b q => ho b q)⟩
theorem QO.peek {B : Nat} {oth : Nat → Prop} {w : World} {Q : Nat} {lim now : Int} {p N : Nat} {l : List Ev} (h : QO B oth w Q lim now p N l) : Calls Try.prog 16 #[.pointer (some ⟨Q, 0, none⟩)] w fun r w' => r = .returned (.tuple #[.agg #[.int .i64 (popT l), .int .i64 (popId l), .int .i64 (popIt l)], .bool (popOk l)]) ∧ Below w.heap.size w w' := by
  obtain ⟨own, h, ho⟩ := h
  unfold popT popId popIt popOk
  cases hb : best l with
  | none =>
    obtain rfl := best_none hb
    exact peek_none h
  | some m => exact peek_some h m (best_fst h.nd hb)
theorem QO.cancel {B : Nat} {oth : Nat → Prop} {w : World} {Q : Nat} {lim now : Int} {p N : Nat} {l : List Ev} (h : QO B oth w Q lim now p N l) (hN : N ≤ 1000000000) (k : Int) (hk : wfI k) : Calls Try.prog 18 #[.pointer (some ⟨Q, 0, none⟩), .int .i64 k] w fun r w' => r = .returned (.bool (canOk l k)) ∧ QO B oth w' Q lim now p (N + 10000) (canL l k) ∧ Keep (Mine B oth) w w' := by
  obtain ⟨own, h, ho⟩ := h
  by_cases he : ∃ m ∈ l, m.id = k
  · obtain ⟨m, hm, rfl⟩ := he
    refine (cancel_some h m hm hN).mono ?_
    rintro r w' ⟨rfl, hq, hk⟩
    rw [canL_erase h.nd hm]
    refine ⟨?_, ⟨own, hq, ho⟩, hk.weak (fun b q => ho b q)⟩
    have : canOk l m.id = true := by unfold canOk; rw [List.any_eq_true]; exact ⟨m, hm, by simp⟩
    rw [this]
  · have hno : ∀ e ∈ l, e.id ≠ k := fun e he' q => he ⟨e, he', q⟩
    refine (cancel_none h k hk hno).mono ?_
    rintro r w' ⟨rfl, hb⟩
    rw [canL_no hno]
    refine ⟨?_, ⟨own, (h.below hb).mono (by omega), ho⟩, Below.keep hb (Nat.le_refl _) _⟩
    have : canOk l k = false := by
      unfold canOk
      rw [List.any_eq_false]
      intro e he'
      simpa using hno e he'
    rw [this]
theorem QO.len {B : Nat} {oth : Nat → Prop} {w : World} {Q : Nat} {lim now : Int} {p N : Nat} {l : List Ev} (h : QO B oth w Q lim now p N l) : Calls Try.prog 15 #[.pointer (some ⟨Q, 0, none⟩)] w fun r w' => r = .returned (.int .i64 (l.length : Int)) ∧ Below w.heap.size w w' := by
  obtain ⟨own, h, ho⟩ := h
  exact len_any h
theorem new_QO (B : Nat) (oth : Nat → Prop) (lim : Int) (w : World) (h : 1 ≤ lim) (h' : lim ≤ 4096) (hB : B ≤ w.heap.size) (hoth : ∀ b, oth b → b < w.heap.size) : Calls Try.prog 11 #[.int .i64 lim] w fun r w' => r = .returned (.pointer (some ⟨w.heap.size, 0, none⟩)) ∧ Below w.heap.size w w' ∧ QO B oth w' w.heap.size lim 0 0 0 [] := by
  refine (new_good lim w h h').mono ?_
  rintro r w' ⟨rfl, hb, hq⟩
  exact ⟨rfl, hb, _, hq, fun b q => by subst q; exact ⟨hB, fun z => by have := hoth _ z; omega⟩⟩
theorem Keep.low {B : Nat} {oth : Nat → Prop} {w w' : World} (h : Keep (Mine B oth) w w') (hB : B ≤ w.heap.size) : Below B w w' := h.toBelow (fun g q => q.1) hB
end Go.Proofs.Ytknoigleejbjdaa
