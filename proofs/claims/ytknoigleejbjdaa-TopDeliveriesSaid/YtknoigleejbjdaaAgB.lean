/- Events, rows and the map of a queue in memory; before, number, put. -/
import Derived.Test.YtknoigleejbjdaaAgA
import Derived.WalkKit
import Derived.BigQuiet
import Derived.Deep.QuietTactic
import Derived.WalkSmall
import Derived.Lib.Hide
import Derived.Below
import Derived.Deep.Cut
import Derived.Deep.RegionHeldLaw
import Derived.Maps.OwnSet
import Derived.Maps.Views
import Derived.Great.Walk
namespace Go.Proofs.Ytknoigleejbjdaa
open Go.RowKit
open Go.Maps (Keyed int_keyed)
set_option linter.unusedVariables false
set_option linter.unusedSimpArgs false

def evAgg (e : Ev) : Value := .agg #[.int .i64 e.t, .int .i64 e.id, .int .i64 e.item]
def wfI (k : Int) : Prop := (Lit.int .i64 k).wf = true

theorem number_any (e : Ev) (w : World) : Calls Try.prog 60 #[.agg #[.int .i64 e.t, .int .i64 e.id, .int .i64 e.item]] w fun r w' => r = .returned (.int .i64 e.id) ∧ Below w.heap.size w w' := by
  go_enter Try.func60, Try.ntmps60
  go_wp2_with (fail)
  go_ret
  exact ⟨rfl, (Below.refl _ _).alloc (Nat.le_refl _) _⟩

set_option maxHeartbeats 1000000 in
theorem before_any (a b : Ev) (w : World) : Calls Try.prog 59 #[.agg #[.int .i64 a.t, .int .i64 a.id, .int .i64 a.item], .agg #[.int .i64 b.t, .int .i64 b.id, .int .i64 b.item]] w fun r w' => r = .returned (.bool (decide (bef a b))) ∧ Below w.heap.size w w' := by
  obtain ⟨a1, a2, a3⟩ := a
  obtain ⟨b1, b2, b3⟩ := b
  have hb : Below w.heap.size w ((w.alloc (.cells #[.int .i64 a1, .int .i64 a2, .int .i64 a3] 69)).alloc (.cells #[.int .i64 b1, .int .i64 b2, .int .i64 b3] 69)) := ((Below.refl _ _).alloc (Nat.le_refl _) _).alloc (by simp) _
  obtain ⟨D, hD⟩ : ∃ D, decide (bef ⟨a1, a2, a3⟩ ⟨b1, b2, b3⟩) = D := ⟨_, rfl⟩
  have hbef : decide (bef ⟨a1, a2, a3⟩ ⟨b1, b2, b3⟩) = decide (a1 < b1 ∨ (a1 = b1 ∧ a2 < b2)) := rfl
  rw [hD] at hbef ⊢
  by_cases h1 : a1 < b1
  · rw [decide_eq_true (Or.inl h1)] at hbef
    subst hbef
    go_enter Try.func59, Try.ntmps59
    go_wp2_with (fail)
    go_ret
    exact ⟨rfl, hb⟩
  · by_cases h2 : a1 = b1
    · subst h2
      by_cases h3 : a2 < b2
      · rw [decide_eq_true (Or.inr ⟨rfl, h3⟩)] at hbef
        subst hbef
        go_enter Try.func59, Try.ntmps59
        go_wp2_with (fail)
        go_ret
        exact ⟨rfl, hb⟩
      · rw [decide_eq_false (by omega)] at hbef
        subst hbef
        go_enter Try.func59, Try.ntmps59
        go_wp2_with (fail)
        go_ret
        exact ⟨rfl, hb⟩
    · rw [decide_eq_false (by omega)] at hbef
      subst hbef
      go_enter Try.func59, Try.ntmps59
      go_wp2_with (fail)
      go_ret
      exact ⟨rfl, hb⟩

@[go_sem] theorem meth_number (v : Value) (w : World) : Sem.run Try.prog (method 204 69 v "timesync/agenda.number") w = .ok (60, v) w := by kernel_rfl
@[go_sem] theorem meth_before (v : Value) (w : World) : Sem.run Try.prog (method 204 69 v "timesync/agenda.before") w = .ok (59, v) w := by kernel_rfl

/-! ### the map -/
def upd (F : Int → Option Nat) (k : Int) (i : Option Nat) : Int → Option Nat := fun j => if j = k then i else F j
theorem keyI (k : Int) (h : wfI k) : keyOf Try.prog 3 (.int .i64 k) = some (.int .i64 k) := Go.Maps.keyOf_int_mk Try.underlying3 h
/-- the map from numbers to places -/
def MapAt (w : World) (bm N : Nat) (F : Int → Option Nat) : Prop :=
  ∃ (n : Nat) (D : DataW Unit), n ≤ N ∧ w.ownsMap Try.prog 3 (plainElem Try.prog 3) bm n D ∧ ∀ k, Go.Maps.has D (.int .i64 k) = (F k).isSome ∧ D.atKey (.int .i64 k) (.lit (.int .i64 0)) = .lit (.int .i64 (((F k).getD 0 : Nat) : Int))
theorem MapAt.lt {w : World} {bm N : Nat} {F : Int → Option Nat} (h : MapAt w bm N F) : bm < w.heap.size := by
  obtain ⟨n, D, _, hm, _⟩ := h; exact hm.lt
theorem MapAt.kept {w w' : World} {bm N : Nat} {F : Int → Option Nat} {row : Option Nat} (h : MapAt w bm N F) (hg : w.grownBy w' row) (hne : some bm ≠ row) : MapAt w' bm N F := by
  obtain ⟨n, D, h1, hm, h2⟩ := h; exact ⟨n, D, h1, hm.kept hg hne, h2⟩
theorem MapAt.mono {w : World} {bm N N' : Nat} {F : Int → Option Nat} (h : MapAt w bm N F) (hN : N ≤ N') : MapAt w bm N' F := by
  obtain ⟨n, D, h1, r⟩ := h; exact ⟨n, D, Nat.le_trans h1 hN, r⟩
theorem MapAt.same {w w' : World} {bm N : Nat} {F : Int → Option Nat} (h : MapAt w bm N F) (hb : w'.heap[bm]? = w.heap[bm]?) : MapAt w' bm N F := by
  obtain ⟨n, D, h1, ⟨es, clock, q1, q2⟩, h2⟩ := h
  exact ⟨n, D, h1, ⟨es, clock, hb.trans q1, q2⟩, h2⟩
theorem MapAt.new (w : World) : MapAt (w.alloc (.map #[] 0)) w.heap.size 0 (fun _ => none) :=
  ⟨0, .map [], Nat.le_refl _, World.ownsMap_made _ _ _ _, fun k => ⟨rfl, rfl⟩⟩
theorem MapAt.put {w : World} {bm N : Nat} {F : Int → Option Nat} (h : MapAt w bm N F) (hN : N < 9223372036854775807) (k : Int) (i : Nat) (hk : wfI k) (hi : i ≤ 9223372036854775807) :
    ∃ w', (Instr.mapUpdate 49 (.map (some bm)) (.int .i64 k) (.int .i64 (i : Int))).run Try.prog w = .ok () w' ∧ MapAt w' bm (N + 1) (upd F k (some i)) ∧ w.grownBy w' (some bm) := by
  obtain ⟨n, D, h1, hm, h2⟩ := h
  have hkey := keyI k hk
  have hwi : (Lit.int .i64 (i : Int)).wf = true := by simp [Lit.wf, IntKind.min, IntKind.max, IntKind.bits, IntKind.signed]; omega
  obtain ⟨w', r1, r2, r3⟩ := hm.store (int_keyed Try.underlying3) Try.underlying49 (by unfold maxLen; omega) hkey (plainElem_int Try.underlying3 hwi)
  refine ⟨w', r1, ⟨n + 1, _, by omega, r2, fun j => ?_⟩, r3.grown⟩
  unfold upd
  by_cases e : j = k
  · subst e
    rw [if_pos rfl]
    exact ⟨Go.Maps.has_put_same hm.isMap (by trivial) _, Go.Maps.atKey_put_same hm.isMap (by trivial) _ _⟩
  · rw [if_neg e, Go.Maps.has_put_other (by simpa using e), Go.Maps.atKey_put_other (by simpa using e)]
    exact h2 j
theorem MapAt.del {w : World} {bm N : Nat} {F : Int → Option Nat} (h : MapAt w bm N F) (k : Int) (hk : wfI k) (ty : TypeId) :
    ∃ w', (Builtin.delete_ #[49, 3] ty #[.map (some bm), .int .i64 k]).run Try.prog w = .ok (.tuple #[]) w' ∧ MapAt w' bm N (upd F k none) ∧ w.grownBy w' (some bm) := by
  obtain ⟨n, D, h1, hm, h2⟩ := h
  obtain ⟨w', r1, r2, r3⟩ := hm.drop (int_keyed Try.underlying3) Try.underlying49 (keyI k hk) ty
  refine ⟨w', r1, ⟨n, _, h1, r2, fun j => ?_⟩, r3.grown⟩
  unfold upd
  by_cases e : j = k
  · subst e
    rw [if_pos rfl]
    exact ⟨Go.Maps.has_del_same, Go.Maps.atKey_del_same _⟩
  · rw [if_neg e, Go.Maps.has_del_other (by simpa using e), Go.Maps.atKey_del_other (by simpa using e)]
    exact h2 j
theorem zeroInt (w : World) : (zeroValue 3).run Try.prog w = .ok (.int .i64 0) w := by kernel_rfl
theorem MapAt.look {w : World} {bm N : Nat} {F : Int → Option Nat} (h : MapAt w bm N F) (k : Int) (hk : wfI k) :
    (Instr.lookup 49 (.map (some bm)) (.int .i64 k) false).run Try.prog w = .ok (.int .i64 (((F k).getD 0 : Nat) : Int)) w := by
  obtain ⟨n, D, h1, hm, h2⟩ := h
  obtain ⟨c, r1, r2, r3⟩ := hm.lookup_int (int_keyed Try.underlying3) Try.underlying49 Try.underlying3 (zeroInt w) (keyI k hk)
  rw [(h2 k).2] at r2
  obtain rfl : (((F k).getD 0 : Nat) : Int) = c := by simpa using r2
  exact r1
theorem MapAt.look2 {w : World} {bm N : Nat} {F : Int → Option Nat} (h : MapAt w bm N F) (k : Int) (hk : wfI k) :
    (Instr.lookup 49 (.map (some bm)) (.int .i64 k) true).run Try.prog w = .ok (.tuple #[.int .i64 (((F k).getD 0 : Nat) : Int), .bool (F k).isSome]) w := by
  obtain ⟨n, D, h1, hm, h2⟩ := h
  obtain ⟨v, ps, r1, r2⟩ := hm.look_ok (int_keyed Try.underlying3) Try.underlying49 (zeroInt w) (plainElem_int Try.underlying3 (by decide)) (keyI k hk)
  rw [(h2 k).1] at r1
  rw [(h2 k).2] at r2
  obtain ⟨c, rfl, hc, _⟩ := plainElem_int_inv Try.underlying3 r2
  obtain rfl : (((F k).getD 0 : Nat) : Int) = c := by simpa using congrArg Prod.fst hc
  exact r1
end Go.Proofs.Ytknoigleejbjdaa
