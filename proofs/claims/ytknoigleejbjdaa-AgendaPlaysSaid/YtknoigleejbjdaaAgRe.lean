/- A queue and the reference's, side by side; both may be nil. -/
import Derived.Test.YtknoigleejbjdaaAgRd
import Derived.Test.YtknoigleejbjdaaAgY
namespace Go.Proofs.Ytknoigleejbjdaa
open Go.RowKit
set_option linter.unusedVariables false
set_option linter.unusedSimpArgs false

def QR (B : Nat) (oth : Nat → Prop) (w : World) (Q P : Nat) (sa sb : St) : Prop :=
  ∃ oa ob : Nat → Prop, QS w Q sa.lim sa.now sa.p sa.N sa.l oa ∧ RS w P sb.lim sb.now sb.p sb.l ob ∧ (∀ b, oa b → B ≤ b ∧ ¬ oth b) ∧ (∀ b, ob b → B ≤ b ∧ ¬ oth b) ∧ ∀ b, oa b → ¬ ob b
theorem QR.B {B : Nat} {oth : Nat → Prop} {w : World} {Q P : Nat} {sa sb : St} (h : QR B oth w Q P sa sb) : B ≤ w.heap.size := by
  obtain ⟨oa, ob, h1, h2, h3, h4, h5⟩ := h
  have := (h3 Q h1.ownQ).1
  have := h1.Qlt
  omega
theorem QR.below {B : Nat} {oth : Nat → Prop} {w w' : World} {Q P : Nat} {sa sb : St} (h : QR B oth w Q P sa sb) (hb : Below w.heap.size w w') : QR B oth w' Q P sa sb := by
  obtain ⟨oa, ob, h1, h2, h3, h4, h5⟩ := h
  exact ⟨oa, ob, h1.below hb, h2.below hb, h3, h4, h5⟩
theorem QR.grow {B : Nat} {oth oth' : Nat → Prop} {w : World} {Q P : Nat} {sa sb : St} (h : QR B oth w Q P sa sb) (hd : ∀ b, oth' b → oth b ∨ w.heap.size ≤ b) : QR B oth' w Q P sa sb := by
  obtain ⟨oa, ob, h1, h2, h3, h4, h5⟩ := h
  refine ⟨oa, ob, h1, h2, fun b q => ⟨(h3 b q).1, fun z => ?_⟩, fun b q => ⟨(h4 b q).1, fun z => ?_⟩, h5⟩
  · rcases hd b z with z | z
    · exact (h3 b q).2 z
    · have := h1.olt b q; omega
  · rcases hd b z with z | z
    · exact (h4 b q).2 z
    · have := h2.olt b q; omega
theorem QR.call {B : Nat} {oth : Nat → Prop} {w : World} {Q P : Nat} {sa sa' sb : St} {f : Nat} {args : Array Value} {r : Value} (h : QR B oth w Q P sa sb) (ho : ∀ b, oth b → b < w.heap.size) (hd : Does f args w B Q sa sa' r) : Calls Try.prog f args w fun e w' => e = .returned r ∧ QR B oth w' Q P sa' sb ∧ Keep (Mine B oth) w w' := by
  obtain ⟨oa, ob, h1, h2, h3, h4, h5⟩ := h
  refine (hd (fun b => oth b ∨ ob b) (fun b q => q.elim (ho b) (h2.olt b)) ⟨oa, h1, fun b q => ⟨(h3 b q).1, fun z => z.elim (h3 b q).2 (h5 b q)⟩⟩).mono ?_
  rintro e w' ⟨rfl, ⟨oa', hq, hn⟩, hk⟩
  refine ⟨rfl, ⟨oa', ob, hq, h2.other hk (fun b q z => z.2 (.inr q)), fun b q => ⟨(hn b q).1, fun z => (hn b q).2 (.inl z)⟩, h4, fun b q z => (hn b q).2 (.inr z)⟩, hk.weak (fun b q => ⟨q.1, fun z => q.2 (.inl z)⟩)⟩
/-- what a call on the reference's queue does -/
def RDoes (f : Nat) (args : Array Value) (w : World) (P : Nat) (s s' : St) (r : Value) : Prop :=
  ∀ own : Nat → Prop, RS w P s.lim s.now s.p s.l own → Calls Try.prog f args w fun e w' => e = .returned r ∧ RPost w P s'.lim s'.now s'.p s'.l own w'
theorem QR.call2 {B : Nat} {oth : Nat → Prop} {w : World} {Q P : Nat} {sa sb sb' : St} {f : Nat} {args : Array Value} {r : Value} (h : QR B oth w Q P sa sb) (ho : ∀ b, oth b → b < w.heap.size) (hd : RDoes f args w P sb sb' r) : Calls Try.prog f args w fun e w' => e = .returned r ∧ QR B oth w' Q P sa sb' ∧ Keep (Mine B oth) w w' := by
  have hB := h.B
  obtain ⟨oa, ob, h1, h2, h3, h4, h5⟩ := h
  refine (hd ob h2).mono ?_
  rintro e w' ⟨rfl, ⟨ob', hq, hn⟩, hk⟩
  refine ⟨rfl, ⟨oa, ob', h1.other hk h5, hq, h3, fun b q => ?_, fun b q z => ?_⟩, hk.weak (fun b q => h4 b q)⟩
  · rcases hn b q with z | z
    · exact h4 b z
    · exact ⟨by omega, fun y => by have := ho b y; omega⟩
  · rcases hn b z with y | y
    · exact h5 b q y
    · have := h1.olt b q; omega
theorem rdoes_push {w : World} {P : Nat} {s : St} {k : Nat} (hf : s.few k) (hk : k < 10000) (hl : s.l.length ≤ 100000) (t item : Int) : RDoes 21 #[.pointer (some ⟨P, 0, none⟩), .int .i64 t, .int .i64 item] w P s (s.push t item) (.tuple #[.int .i64 (s.id t), .int .i64 (s.err t)]) := by
  intro own h
  have hp : s.p < 1000000000 := by have := hf.1; omega
  by_cases he : s.err t = 0
  · obtain ⟨e1, e2⟩ := St.push_ok (item := item) he
    rw [e1, e2, he]
    exact rpush_ok h hl t item he hp
  · have e1 : s.push t item = ⟨s.lim, s.now, s.p, s.N + 10000, s.l⟩ := by
      unfold St.err at he
      unfold St.push pushP pushL
      rw [if_neg he, if_neg he]
    have e2 : s.id t = 0 := by
      unfold St.err at he
      unfold St.id pushId
      rw [if_neg he]
    rw [e1, e2]
    refine (rpush_no h t item he).mono ?_
    rintro e w' ⟨rfl, hb⟩
    exact ⟨rfl, RPost.same h hb⟩
theorem rdoes_pop {w : World} {P : Nat} {s : St} (hl : s.l.length ≤ 100000) (hi : Inc s.l) : RDoes 22 #[.pointer (some ⟨P, 0, none⟩)] w P s s.pop (.tuple #[.agg #[.int .i64 (popT s.l), .int .i64 (popId s.l), .int .i64 (popIt s.l)], .bool (popOk s.l)]) :=
  fun own h => rpop_any h hl hi
theorem rdoes_cancel {w : World} {P : Nat} {s : St} (hl : s.l.length ≤ 100000) (j : Int) : RDoes 24 #[.pointer (some ⟨P, 0, none⟩), .int .i64 j] w P s (s.cancel j) (.bool (canOk s.l j)) :=
  fun own h => rcancel_any h hl j

theorem rlen_nobody (w : World) : Calls Try.prog 25 #[.pointer none] w fun r w' => r = .returned (.int .i64 0) ∧ Below w.heap.size w w' := by
  go_enter Try.func25, Try.ntmps25
  go_wp2_with (fail)
  go_ret
  exact ⟨rfl, Below.refl _ _⟩
theorem rpush_nobody (at' item : Int) (w : World) : Calls Try.prog 21 #[.pointer none, .int .i64 at', .int .i64 item] w fun r w' => r = .returned (.tuple #[.int .i64 0, .int .i64 1]) ∧ Below w.heap.size w w' := by
  go_enter Try.func21, Try.ntmps21
  go_wp2_with (fail)
  go_ret2
  exact ⟨rfl, Below.refl _ _⟩
theorem rcancel_nobody (id : Int) (w : World) : Calls Try.prog 24 #[.pointer none, .int .i64 id] w fun r w' => r = .returned (.bool false) ∧ Below w.heap.size w w' := by
  go_enter Try.func24, Try.ntmps24
  go_wp2_with (fail)
  go_ret
  exact ⟨rfl, Below.refl _ _⟩
theorem rfirst_nobody (w : World) : Calls Try.prog 32 #[.pointer none] w fun r w' => r = .returned (.int .i64 (-1)) ∧ w = w' := by
  go_enter Try.func32, Try.ntmps32
  go_wp2_with (fail)
  go_ret
  exact ⟨rfl, rfl⟩
theorem rpop_nobody (w : World) : Calls Try.prog 22 #[.pointer none] w fun r w' => r = .returned (.tuple #[.agg #[.int .i64 0, .int .i64 0, .int .i64 0], .bool false]) ∧ Below w.heap.size w w' := by
  go_enter Try.func22, Try.ntmps22
  go_wp2_with (fail)
  refine (rfirst_nobody _).mono ?_
  rintro e w1 ⟨rfl, rfl⟩
  go_wp2_with (fail)
  refine bodyPost_ret (v := .tuple #[.agg #[.int .i64 0, .int .i64 0, .int .i64 0], .bool false]) ?_ rfl ⟨rfl, ?_⟩
  · simp [results, Try.results22, go_sem]
  · exact (Below.refl _ _).alloc (Nat.le_refl _) _
theorem rpeek_nobody (w : World) : Calls Try.prog 23 #[.pointer none] w fun r w' => r = .returned (.tuple #[.agg #[.int .i64 0, .int .i64 0, .int .i64 0], .bool false]) ∧ Below w.heap.size w w' := by
  go_enter Try.func23, Try.ntmps23
  go_wp2_with (fail)
  refine (rfirst_nobody _).mono ?_
  rintro e w1 ⟨rfl, rfl⟩
  go_wp2_with (fail)
  refine bodyPost_ret (v := .tuple #[.agg #[.int .i64 0, .int .i64 0, .int .i64 0], .bool false]) ?_ rfl ⟨rfl, ?_⟩
  · simp [results, Try.results23, go_sem]
  · exact (Below.refl _ _).alloc (Nat.le_refl _) _

/-- both queues, nil or not; sa, sb: their states -/
def GQ (n : Bool) (B : Nat) (oth : Nat → Prop) (w : World) (Va Vb : Value) (sa sb : St) : Prop :=
  (n = true ∧ Va = .pointer none ∧ Vb = .pointer none ∧ B ≤ w.heap.size) ∨ (n = false ∧ ∃ Q P, Va = .pointer (some ⟨Q, 0, none⟩) ∧ Vb = .pointer (some ⟨P, 0, none⟩) ∧ QR B oth w Q P sa sb)
theorem GQ.B {n : Bool} {B : Nat} {oth : Nat → Prop} {w : World} {Va Vb : Value} {sa sb : St} (h : GQ n B oth w Va Vb sa sb) : B ≤ w.heap.size := by
  rcases h with ⟨_, _, _, h⟩ | ⟨_, Q, P, _, _, h⟩
  · exact h
  · exact h.B
theorem GQ.below {n : Bool} {B : Nat} {oth : Nat → Prop} {w w' : World} {Va Vb : Value} {sa sb : St} (h : GQ n B oth w Va Vb sa sb) (hb : Below w.heap.size w w') : GQ n B oth w' Va Vb sa sb := by
  rcases h with ⟨h1, h2, h3, h4⟩ | ⟨h1, Q, P, h2, h3, h⟩
  · exact .inl ⟨h1, h2, h3, Nat.le_trans h4 hb.size⟩
  · exact .inr ⟨h1, Q, P, h2, h3, h.below hb⟩
theorem GQ.grow {n : Bool} {B : Nat} {oth oth' : Nat → Prop} {w : World} {Va Vb : Value} {sa sb : St} (h : GQ n B oth w Va Vb sa sb) (hd : ∀ b, oth' b → oth b ∨ w.heap.size ≤ b) : GQ n B oth' w Va Vb sa sb := by
  rcases h with ⟨h1, h2, h3, h4⟩ | ⟨h1, Q, P, h2, h3, h⟩
  · exact .inl ⟨h1, h2, h3, h4⟩
  · exact .inr ⟨h1, Q, P, h2, h3, h.grow hd⟩
theorem GQ.lay {n : Bool} {B : Nat} {oth oth' : Nat → Prop} {w X : World} {Va Vb : Value} {sa sb : St} (h : GQ n B oth w Va Vb sa sb) {o : Obj} (hX : X = w.alloc o) (hd : ∀ b, oth' b → oth b ∨ b = w.heap.size) : GQ n B oth' X Va Vb sa sb := by
  rw [hX]
  exact (h.grow (fun b q => (hd b q).imp id (fun e => by omega))).below ((Below.refl _ _).alloc (Nat.le_refl _) _)
theorem GQ.nilPost {n : Bool} {B : Nat} {oth : Nat → Prop} {w w' : World} {Va Vb : Value} {sa sb sa' sb' : St} (hn : n = true) (h : GQ n B oth w Va Vb sa sb) (hb : Below w.heap.size w w') : GQ n B oth w' Va Vb sa' sb' ∧ Keep (Mine B oth) w w' := by
  rcases h with ⟨h1, h2, h3, h4⟩ | ⟨h1, _⟩
  · exact ⟨.inl ⟨h1, h2, h3, Nat.le_trans h4 hb.size⟩, Below.keep hb (Nat.le_refl _) _⟩
  · rw [hn] at h1; cases h1
def gI (n : Bool) (a b : Int) : Int := if n then a else b
def gB (n : Bool) (b : Bool) : Bool := if n then false else b
theorem GQ.pushA {n : Bool} {B : Nat} {oth : Nat → Prop} {w : World} {Va Vb : Value} {sa sb : St} {k : Nat} (h : GQ n B oth w Va Vb sa sb) (ho : ∀ b, oth b → b < w.heap.size) (hf : sa.few k) (hk : k < 10000) (t item : Int) : Calls Try.prog 13 #[Va, .int .i64 t, .int .i64 item] w fun e w' => e = .returned (.tuple #[.int .i64 (gI n 0 (sa.id t)), .int .i64 (gI n 1 (sa.err t))]) ∧ GQ n B oth w' Va Vb (sa.push t item) sb ∧ Keep (Mine B oth) w w' := by
  have h' := h
  rcases h with ⟨rfl, rfl, rfl, h4⟩ | ⟨rfl, Q, P, rfl, rfl, h⟩
  · refine (push_nobody t item w).mono ?_
    rintro e w' ⟨rfl, hb⟩
    exact ⟨rfl, GQ.nilPost rfl h' hb⟩
  · refine (h.call ho (does_push hf hk t item)).mono ?_
    rintro e w' ⟨rfl, hq, hk'⟩
    exact ⟨rfl, .inr ⟨rfl, Q, P, rfl, rfl, hq⟩, hk'⟩
theorem GQ.pushB {n : Bool} {B : Nat} {oth : Nat → Prop} {w : World} {Va Vb : Value} {sa sb : St} {k : Nat} (h : GQ n B oth w Va Vb sa sb) (ho : ∀ b, oth b → b < w.heap.size) (hf : sb.few k) (hk : k < 10000) (hl : sb.l.length ≤ 100000) (t item : Int) : Calls Try.prog 21 #[Vb, .int .i64 t, .int .i64 item] w fun e w' => e = .returned (.tuple #[.int .i64 (gI n 0 (sb.id t)), .int .i64 (gI n 1 (sb.err t))]) ∧ GQ n B oth w' Va Vb sa (sb.push t item) ∧ Keep (Mine B oth) w w' := by
  have h' := h
  rcases h with ⟨rfl, rfl, rfl, h4⟩ | ⟨rfl, Q, P, rfl, rfl, h⟩
  · refine (rpush_nobody t item w).mono ?_
    rintro e w' ⟨rfl, hb⟩
    exact ⟨rfl, GQ.nilPost rfl h' hb⟩
  · refine (h.call2 ho (rdoes_push hf hk hl t item)).mono ?_
    rintro e w' ⟨rfl, hq, hk'⟩
    exact ⟨rfl, .inr ⟨rfl, Q, P, rfl, rfl, hq⟩, hk'⟩
theorem GQ.popA {n : Bool} {B : Nat} {oth : Nat → Prop} {w : World} {Va Vb : Value} {sa sb : St} {k : Nat} (h : GQ n B oth w Va Vb sa sb) (ho : ∀ b, oth b → b < w.heap.size) (hf : sa.few k) (hk : k < 10000) : Calls Try.prog 14 #[Va] w fun e w' => e = .returned (.tuple #[.agg #[.int .i64 (gI n 0 (popT sa.l)), .int .i64 (gI n 0 (popId sa.l)), .int .i64 (gI n 0 (popIt sa.l))], .bool (gB n (popOk sa.l))]) ∧ GQ n B oth w' Va Vb sa.pop sb ∧ Keep (Mine B oth) w w' := by
  have h' := h
  rcases h with ⟨rfl, rfl, rfl, h4⟩ | ⟨rfl, Q, P, rfl, rfl, h⟩
  · refine (pop_nobody w).mono ?_
    rintro e w' ⟨rfl, hb⟩
    exact ⟨rfl, GQ.nilPost rfl h' hb⟩
  · refine (h.call ho (does_pop hf hk)).mono ?_
    rintro e w' ⟨rfl, hq, hk'⟩
    exact ⟨rfl, .inr ⟨rfl, Q, P, rfl, rfl, hq⟩, hk'⟩
theorem GQ.popB {n : Bool} {B : Nat} {oth : Nat → Prop} {w : World} {Va Vb : Value} {sa sb : St} (h : GQ n B oth w Va Vb sa sb) (ho : ∀ b, oth b → b < w.heap.size) (hl : sb.l.length ≤ 100000) (hi : Inc sb.l) : Calls Try.prog 22 #[Vb] w fun e w' => e = .returned (.tuple #[.agg #[.int .i64 (gI n 0 (popT sb.l)), .int .i64 (gI n 0 (popId sb.l)), .int .i64 (gI n 0 (popIt sb.l))], .bool (gB n (popOk sb.l))]) ∧ GQ n B oth w' Va Vb sa sb.pop ∧ Keep (Mine B oth) w w' := by
  have h' := h
  rcases h with ⟨rfl, rfl, rfl, h4⟩ | ⟨rfl, Q, P, rfl, rfl, h⟩
  · refine (rpop_nobody w).mono ?_
    rintro e w' ⟨rfl, hb⟩
    exact ⟨rfl, GQ.nilPost rfl h' hb⟩
  · refine (h.call2 ho (rdoes_pop hl hi)).mono ?_
    rintro e w' ⟨rfl, hq, hk'⟩
    exact ⟨rfl, .inr ⟨rfl, Q, P, rfl, rfl, hq⟩, hk'⟩
theorem GQ.peekA {n : Bool} {B : Nat} {oth : Nat → Prop} {w : World} {Va Vb : Value} {sa sb : St} (h : GQ n B oth w Va Vb sa sb) : Calls Try.prog 16 #[Va] w fun e w' => e = .returned (.tuple #[.agg #[.int .i64 (gI n 0 (popT sa.l)), .int .i64 (gI n 0 (popId sa.l)), .int .i64 (gI n 0 (popIt sa.l))], .bool (gB n (popOk sa.l))]) ∧ Below w.heap.size w w' := by
  rcases h with ⟨rfl, rfl, rfl, h4⟩ | ⟨rfl, Q, P, rfl, rfl, h⟩
  · exact peek_nobody w
  · obtain ⟨oa, ob, h1, h2, h3, h4, h5⟩ := h
    exact QO.peek (B := B) (oth := oth) ⟨oa, h1, h3⟩
theorem GQ.peekB {n : Bool} {B : Nat} {oth : Nat → Prop} {w : World} {Va Vb : Value} {sa sb : St} (h : GQ n B oth w Va Vb sa sb) (hl : sb.l.length ≤ 100000) (hi : Inc sb.l) : Calls Try.prog 23 #[Vb] w fun e w' => e = .returned (.tuple #[.agg #[.int .i64 (gI n 0 (popT sb.l)), .int .i64 (gI n 0 (popId sb.l)), .int .i64 (gI n 0 (popIt sb.l))], .bool (gB n (popOk sb.l))]) ∧ Below w.heap.size w w' := by
  rcases h with ⟨rfl, rfl, rfl, h4⟩ | ⟨rfl, Q, P, rfl, rfl, h⟩
  · exact rpeek_nobody w
  · obtain ⟨oa, ob, h1, h2, h3, h4, h5⟩ := h
    exact rpeek_any h2 hl hi
theorem GQ.cancelA {n : Bool} {B : Nat} {oth : Nat → Prop} {w : World} {Va Vb : Value} {sa sb : St} {k : Nat} (h : GQ n B oth w Va Vb sa sb) (ho : ∀ b, oth b → b < w.heap.size) (hf : sa.few k) (hk : k < 10000) (j : Int) (hj : wfI j) : Calls Try.prog 18 #[Va, .int .i64 j] w fun e w' => e = .returned (.bool (gB n (canOk sa.l j))) ∧ GQ n B oth w' Va Vb (sa.cancel j) sb ∧ Keep (Mine B oth) w w' := by
  have h' := h
  rcases h with ⟨rfl, rfl, rfl, h4⟩ | ⟨rfl, Q, P, rfl, rfl, h⟩
  · refine (cancel_nobody j w).mono ?_
    rintro e w' ⟨rfl, hb⟩
    exact ⟨rfl, GQ.nilPost rfl h' hb⟩
  · refine (h.call ho (does_cancel hf hk j hj)).mono ?_
    rintro e w' ⟨rfl, hq, hk'⟩
    exact ⟨rfl, .inr ⟨rfl, Q, P, rfl, rfl, hq⟩, hk'⟩
theorem GQ.cancelB {n : Bool} {B : Nat} {oth : Nat → Prop} {w : World} {Va Vb : Value} {sa sb : St} (h : GQ n B oth w Va Vb sa sb) (ho : ∀ b, oth b → b < w.heap.size) (hl : sb.l.length ≤ 100000) (j : Int) : Calls Try.prog 24 #[Vb, .int .i64 j] w fun e w' => e = .returned (.bool (gB n (canOk sb.l j))) ∧ GQ n B oth w' Va Vb sa (sb.cancel j) ∧ Keep (Mine B oth) w w' := by
  have h' := h
  rcases h with ⟨rfl, rfl, rfl, h4⟩ | ⟨rfl, Q, P, rfl, rfl, h⟩
  · refine (rcancel_nobody j w).mono ?_
    rintro e w' ⟨rfl, hb⟩
    exact ⟨rfl, GQ.nilPost rfl h' hb⟩
  · refine (h.call2 ho (rdoes_cancel hl j)).mono ?_
    rintro e w' ⟨rfl, hq, hk'⟩
    exact ⟨rfl, .inr ⟨rfl, Q, P, rfl, rfl, hq⟩, hk'⟩
theorem GQ.lenA {n : Bool} {B : Nat} {oth : Nat → Prop} {w : World} {Va Vb : Value} {sa sb : St} (h : GQ n B oth w Va Vb sa sb) : Calls Try.prog 15 #[Va] w fun e w' => e = .returned (.int .i64 (gI n 0 (sa.l.length : Int))) ∧ Below w.heap.size w w' := by
  rcases h with ⟨rfl, rfl, rfl, h4⟩ | ⟨rfl, Q, P, rfl, rfl, h⟩
  · exact len_nobody w
  · obtain ⟨oa, ob, h1, h2, h3, h4, h5⟩ := h
    exact len_any h1
theorem GQ.lenB {n : Bool} {B : Nat} {oth : Nat → Prop} {w : World} {Va Vb : Value} {sa sb : St} (h : GQ n B oth w Va Vb sa sb) : Calls Try.prog 25 #[Vb] w fun e w' => e = .returned (.int .i64 (gI n 0 (sb.l.length : Int))) ∧ Below w.heap.size w w' := by
  rcases h with ⟨rfl, rfl, rfl, h4⟩ | ⟨rfl, Q, P, rfl, rfl, h⟩
  · exact rlen_nobody w
  · obtain ⟨oa, ob, h1, h2, h3, h4, h5⟩ := h
    exact rlen_any h2
theorem popL_mem' {l : List Ev} {e : Ev} (h : e ∈ popL l) : e ∈ l := by
  unfold popL at h
  cases hb : best l with
  | none => rw [hb] at h; exact h
  | some m => rw [hb] at h; exact List.mem_of_mem_erase h
/-- what is kept of the plain state -/
def SI (s : St) (k : Nat) : Prop := s.few k ∧ Inc s.l ∧ (∀ e ∈ s.l, e.id ≤ (s.p : Int)) ∧ s.l.length ≤ k
theorem SI.push {s : St} {k : Nat} (h : SI s k) (t item : Int) : SI (s.push t item) (k + 1) := by
  obtain ⟨h1, h2, h3, h4⟩ := h
  refine ⟨St.few_push h1 t item, ?_, ?_, ?_⟩
  · unfold St.push pushL
    simp only
    split
    · exact h2.app (fun a ha => by have := h3 a ha; show a.id < ((s.p + 1 : Nat) : Int); omega)
    · exact h2
  · unfold St.push pushL pushP
    simp only
    split
    · intro e he
      rcases List.mem_append.1 he with q | q
      · have := h3 e q; omega
      · rw [List.mem_singleton.1 q]; exact Int.le_refl _
    · exact h3
  · unfold St.push pushL
    simp only
    split
    · rw [List.length_append, List.length_singleton]; omega
    · omega
theorem SI.pop {s : St} {k : Nat} (h : SI s k) : SI s.pop (k + 1) := by
  obtain ⟨h1, h2, h3, h4⟩ := h
  refine ⟨St.few_pop h1, h2.popL, fun e he => h3 e (popL_mem' he), ?_⟩
  show (popL s.l).length ≤ k + 1
  rw [popL_len]; omega
theorem SI.cancel {s : St} {k : Nat} (h : SI s k) (j : Int) : SI (s.cancel j) (k + 1) := by
  obtain ⟨h1, h2, h3, h4⟩ := h
  have hs : (canL s.l j).Sublist s.l := List.eraseP_sublist
  exact ⟨St.few_cancel h1 j, List.Pairwise.sublist hs h2, fun e he => h3 e (hs.subset he), by have := hs.length_le; show (canL s.l j).length ≤ k + 1; omega⟩
theorem SI.mono {s : St} {k : Nat} (h : SI s k) : SI s (k + 1) := ⟨St.few_mono h.1 (by omega), h.2.1, h.2.2.1, by have := h.2.2.2; omega⟩
end Go.Proofs.Ytknoigleejbjdaa
