/- Two queues, side by side. -/
import Derived.Test.YtknoigleejbjdaaAgU
namespace Go.Proofs.Ytknoigleejbjdaa
open Go.RowKit
set_option linter.unusedVariables false
set_option linter.unusedSimpArgs false

/-- a queue's state -/
structure St where
  lim : Int
  now : Int
  p : Nat
  N : Nat
  l : List Ev
def St.push (s : St) (t item : Int) : St := ⟨s.lim, s.now, pushP s.lim s.now s.p s.l t, s.N + 10000, pushL s.lim s.now s.p s.l t item⟩
def St.pop (s : St) : St := ⟨s.lim, popNow s.now s.l, s.p, s.N + 10000, popL s.l⟩
def St.cancel (s : St) (k : Int) : St := ⟨s.lim, s.now, s.p, s.N + 10000, canL s.l k⟩
def St.id (s : St) (t : Int) : Int := pushId s.lim s.now s.p s.l t
def St.err (s : St) (t : Int) : Int := pushErr s.lim s.now s.l.length t
def QT (B : Nat) (oth : Nat → Prop) (w : World) (Q : Nat) (s : St) : Prop := QO B oth w Q s.lim s.now s.p s.N s.l
/-- few enough calls so far: k of them -/
def St.few (s : St) (k : Nat) : Prop := s.p ≤ k ∧ s.N ≤ k * 10000
theorem St.few_push {s : St} {k : Nat} (h : s.few k) (t item : Int) : (s.push t item).few (k + 1) := by
  refine ⟨?_, by have := h.2; unfold St.push; simp only; omega⟩
  have := h.1
  unfold St.push pushP
  simp only
  split <;> omega
theorem St.few_pop {s : St} {k : Nat} (h : s.few k) : s.pop.few (k + 1) := ⟨by have := h.1; unfold St.pop; simp only; omega, by have := h.2; unfold St.pop; simp only; omega⟩
theorem St.few_cancel {s : St} {k : Nat} (h : s.few k) (j : Int) : (s.cancel j).few (k + 1) := ⟨by have := h.1; unfold St.cancel; simp only; omega, by have := h.2; unfold St.cancel; simp only; omega⟩
theorem St.few_mono {s : St} {k k' : Nat} (h : s.few k) (hk : k ≤ k') : s.few k' := ⟨Nat.le_trans h.1 hk, Nat.le_trans h.2 (Nat.mul_le_mul_right _ hk)⟩

/-- what a call on one queue does -/
def Does (f : Nat) (args : Array Value) (w : World) (B : Nat) (Q : Nat) (s s' : St) (r : Value) : Prop :=
  ∀ oth : Nat → Prop, (∀ b, oth b → b < w.heap.size) → QT B oth w Q s → Calls Try.prog f args w fun e w' => e = .returned r ∧ QT B oth w' Q s' ∧ Keep (Mine B oth) w w'
theorem does_push {B Q : Nat} {w : World} {s : St} {k : Nat} (hf : s.few k) (hk : k < 10000) (t item : Int) : Does 13 #[.pointer (some ⟨Q, 0, none⟩), .int .i64 t, .int .i64 item] w B Q s (s.push t item) (.tuple #[.int .i64 (s.id t), .int .i64 (s.err t)]) :=
  fun oth ho h => by
    have hN : s.N ≤ 1000000000 := by have := hf.2; omega
    have hp : s.p < 1000000000 := by have := hf.1; omega
    have := QO.push h ho hN hp t item
    unfold St.id St.err QT St.push
    exact this
theorem does_pop {B Q : Nat} {w : World} {s : St} {k : Nat} (hf : s.few k) (hk : k < 10000) : Does 14 #[.pointer (some ⟨Q, 0, none⟩)] w B Q s s.pop (.tuple #[.agg #[.int .i64 (popT s.l), .int .i64 (popId s.l), .int .i64 (popIt s.l)], .bool (popOk s.l)]) :=
  fun oth ho h => QO.pop h (by have := hf.2; omega)
theorem does_cancel {B Q : Nat} {w : World} {s : St} {k : Nat} (hf : s.few k) (hk : k < 10000) (j : Int) (hj : wfI j) : Does 18 #[.pointer (some ⟨Q, 0, none⟩), .int .i64 j] w B Q s (s.cancel j) (.bool (canOk s.l j)) :=
  fun oth ho h => QO.cancel h (by have := hf.2; omega) j hj

/-- two queues that share nothing -/
def QQ (B : Nat) (oth : Nat → Prop) (w : World) (Qa Qb : Nat) (sa sb : St) : Prop :=
  ∃ oa ob : Nat → Prop, QS w Qa sa.lim sa.now sa.p sa.N sa.l oa ∧ QS w Qb sb.lim sb.now sb.p sb.N sb.l ob ∧ (∀ b, oa b → B ≤ b ∧ ¬ oth b) ∧ (∀ b, ob b → B ≤ b ∧ ¬ oth b) ∧ ∀ b, oa b → ¬ ob b
theorem QQ.symm {B : Nat} {oth : Nat → Prop} {w : World} {Qa Qb : Nat} {sa sb : St} (h : QQ B oth w Qa Qb sa sb) : QQ B oth w Qb Qa sb sa := by
  obtain ⟨oa, ob, h1, h2, h3, h4, h5⟩ := h
  exact ⟨ob, oa, h2, h1, h4, h3, fun b q z => h5 b z q⟩
theorem QQ.B {B : Nat} {oth : Nat → Prop} {w : World} {Qa Qb : Nat} {sa sb : St} (h : QQ B oth w Qa Qb sa sb) : B ≤ w.heap.size := by
  obtain ⟨oa, ob, h1, h2, h3, h4, h5⟩ := h
  have := (h3 Qa h1.ownQ).1
  have := h1.Qlt
  omega
theorem QQ.left {B : Nat} {oth : Nat → Prop} {w : World} {Qa Qb : Nat} {sa sb : St} (h : QQ B oth w Qa Qb sa sb) : QT B oth w Qa sa := by
  obtain ⟨oa, ob, h1, h2, h3, h4, h5⟩ := h
  exact ⟨oa, h1, h3⟩
theorem QQ.below {B : Nat} {oth : Nat → Prop} {w w' : World} {Qa Qb : Nat} {sa sb : St} (h : QQ B oth w Qa Qb sa sb) (hb : Below w.heap.size w w') : QQ B oth w' Qa Qb sa sb := by
  obtain ⟨oa, ob, h1, h2, h3, h4, h5⟩ := h
  exact ⟨oa, ob, h1.below hb, h2.below hb, h3, h4, h5⟩
theorem QQ.grow {B : Nat} {oth oth' : Nat → Prop} {w : World} {Qa Qb : Nat} {sa sb : St} (h : QQ B oth w Qa Qb sa sb) (hd : ∀ b, oth' b → oth b ∨ w.heap.size ≤ b) : QQ B oth' w Qa Qb sa sb := by
  obtain ⟨oa, ob, h1, h2, h3, h4, h5⟩ := h
  refine ⟨oa, ob, h1, h2, fun b q => ⟨(h3 b q).1, fun z => ?_⟩, fun b q => ⟨(h4 b q).1, fun z => ?_⟩, h5⟩
  · rcases hd b z with z | z
    · exact (h3 b q).2 z
    · have := h1.olt b q; omega
  · rcases hd b z with z | z
    · exact (h4 b q).2 z
    · have := h2.olt b q; omega
theorem QQ.lay {B : Nat} {oth oth' : Nat → Prop} {w X : World} {Qa Qb : Nat} {sa sb : St} (h : QQ B oth w Qa Qb sa sb) {o : Obj} (hX : X = w.alloc o) (hd : ∀ b, oth' b → oth b ∨ b = w.heap.size) : QQ B oth' X Qa Qb sa sb := by
  rw [hX]
  exact (h.grow (fun b q => (hd b q).imp id (fun e => by omega))).below ((Below.refl _ _).alloc (Nat.le_refl _) _)
/-- a call on the first of them -/
theorem QQ.call {B : Nat} {oth : Nat → Prop} {w : World} {Qa Qb : Nat} {sa sa' sb : St} {f : Nat} {args : Array Value} {r : Value} (h : QQ B oth w Qa Qb sa sb) (ho : ∀ b, oth b → b < w.heap.size) (hd : Does f args w B Qa sa sa' r) : Calls Try.prog f args w fun e w' => e = .returned r ∧ QQ B oth w' Qa Qb sa' sb ∧ Keep (Mine B oth) w w' := by
  obtain ⟨oa, ob, h1, h2, h3, h4, h5⟩ := h
  refine (hd (fun b => oth b ∨ ob b) (fun b q => q.elim (ho b) (h2.olt b)) ⟨oa, h1, fun b q => ⟨(h3 b q).1, fun z => z.elim (h3 b q).2 (h5 b q)⟩⟩).mono ?_
  rintro e w' ⟨rfl, ⟨oa', hq, hn⟩, hk⟩
  refine ⟨rfl, ⟨oa', ob, hq, h2.other hk (fun b q z => z.2 (.inr q)), fun b q => ⟨(hn b q).1, fun z => (hn b q).2 (.inl z)⟩, h4, fun b q z => (hn b q).2 (.inr z)⟩, hk.weak (fun b q => ⟨q.1, fun z => q.2 (.inl z)⟩)⟩
/-- a call on the second of them -/
theorem QQ.call2 {B : Nat} {oth : Nat → Prop} {w : World} {Qa Qb : Nat} {sa sb sb' : St} {f : Nat} {args : Array Value} {r : Value} (h : QQ B oth w Qa Qb sa sb) (ho : ∀ b, oth b → b < w.heap.size) (hd : Does f args w B Qb sb sb' r) : Calls Try.prog f args w fun e w' => e = .returned r ∧ QQ B oth w' Qa Qb sa sb' ∧ Keep (Mine B oth) w w' := by
  refine (h.symm.call ho hd).mono ?_
  rintro e w' ⟨q, h1, h2⟩
  exact ⟨q, h1.symm, h2⟩
/-- two new queues -/
theorem QQ.new {B : Nat} {oth : Nat → Prop} {w1 w2 : World} {Qa Qb : Nat} {la lb : Int} (ha : QO B oth w1 Qa la 0 0 0 []) (hb : QO w1.heap.size oth w2 Qb lb 0 0 0 []) (h : Below w1.heap.size w1 w2) : QQ B oth w2 Qa Qb ⟨la, 0, 0, 0, []⟩ ⟨lb, 0, 0, 0, []⟩ := by
  have hB := ha.B
  obtain ⟨oa, h1, h2⟩ := ha
  obtain ⟨ob, h3, h4⟩ := hb
  refine ⟨oa, ob, h1.below h, h3, h2, fun b q => ⟨by have := (h4 b q).1; omega, (h4 b q).2⟩, fun b q z => ?_⟩
  have := (h4 b z).1
  have := h1.olt b q
  omega
/-- an object in a block -/
def ObAt (w : World) (b : Nat) (o : Obj) : Prop := w.heap[b]? = some o
theorem ObAt.lt {w : World} {b : Nat} {o : Obj} (h : ObAt w b o) : b < w.heap.size := by
  rcases Nat.lt_or_ge b w.heap.size with q | q
  · exact q
  · unfold ObAt at h; rw [Array.getElem?_eq_none q] at h; cases h
theorem ObAt.keep {w w' : World} {b : Nat} {o : Obj} {own : Nat → Prop} (h : ObAt w b o) (hk : Keep own w w') (ho : ¬ own b) : ObAt w' b o := (hk.block b h.lt ho).trans h
theorem ObAt.below {w w' : World} {b : Nat} {o : Obj} (h : ObAt w b o) (hb : Below w.heap.size w w') : ObAt w' b o := (hb.block b h.lt).trans h
theorem ObAt.lay {w X : World} {o : Obj} (hX : X = w.alloc o) : ObAt X w.heap.size o := by rw [hX]; exact heap_alloc_new _ _
theorem ObAt.tri {w : World} {b : Nat} {x y z : Value} {T : TypeId} (h : ObAt w b (.cells #[x, y, z] T)) : w.cell? ⟨b, 0, none⟩ = some x ∧ w.cell? ⟨b, 1, none⟩ = some y ∧ w.cell? ⟨b, 2, none⟩ = some z := by
  unfold ObAt at h
  refine ⟨?_, ?_, ?_⟩ <;> simp [World.cell?, h]
/-- the first deeds of a list -/
theorem first_any (x : Option Addr) (n c : Nat) (w : World) (hn : n ≤ c) (hc : c ≤ 9223372036854775807) (hx : x = none → n = 0 ∧ c = 0) : Calls Try.prog 17 #[.slice x n c] w fun e w' => e = .returned (.slice x (min n 300) c) ∧ w = w' := by
  have hm : (min (n : Int) 300).toNat = min n 300 := by omega
  go_enter Try.func17, Try.ntmps17
  go_wp2_with (fail)
  go_ret
  exact ⟨rfl, rfl⟩
end Go.Proofs.Ytknoigleejbjdaa
