/- Appending numbers to a slice that the call itself made. -/
import Derived.Test.YtkfkegalflnepaaMacWalk
import Derived.Laws.AppendOwnNone
namespace Go.Proofs.Ytkfkegalflnepaa
open Go.RowKit
set_option linter.unusedVariables false
set_option linter.unusedSimpArgs false

theorem Ints.one (k : IntKind) (w : World) (t : Int) (e : TypeId) : Ints k (w.alloc (.cells #[.int k t] e)) (w.heap.size + 1) (some ⟨w.heap.size, 0, none⟩) [t] := by
  intro i hi
  obtain rfl : i = 0 := by simpa using hi
  exact ⟨_, rfl, by simp, by simp [Addr.add]⟩

theorem Ints.grown {k : IntKind} {w w' : World} {B : Nat} {x : Option Addr} {ys : List Int} {row : Option Nat} (h : Ints k w B x ys) (hg : w.grownBy w' row) (hr : ∀ g, row = some g → B ≤ g) : Ints k w' B x ys := by
  intro i hi
  obtain ⟨a, h1, h2, h3⟩ := h i hi
  refine ⟨a, h1, h2, hg.cell h3 ?_⟩
  intro e
  have := hr _ e.symm
  unfold Addr.add at this
  split at this <;> first | omega | (simp at this; omega)

theorem wpList_append_ints {P : Program} {w : World} {ops : Array Oper} {rest : List Oper} {o : Oper} {a : Act} {Q : Exit → Act → World → Prop} (hgd : o.guard = none) (s x : Operand) (t : TypeId)
    (ho : o.op = .call { callee := .builtin .append, args := #[s, x], argTypes := #[t, t] })
    (base : Nat) (e : TypeId) (i : TypeInfo) (z : Value) (bytes : Nat) (ht : P.underlying t = some (.slice e)) (hi : P.info? e = some i) (hz : i.zero = some z)
    (hsize : i.size = 1) (hby : i.bytes = bytes) (hzs : z.cells.size = 1)
    (v : Value) (n : Nat) (xs : List Value) (hs : a.eval s = v) (hown : w.ownsRow base e 1 v n xs)
    (k : IntKind) (B : Nat) (xo : Option Addr) (m c : Nat) (ys : List Int) (hx : a.eval x = .slice xo m c) (hnil : xo = none → m = 0 ∧ c = 0) (hy : Ints k w B xo ys) (hl : ys.length = m)
    (h63 : n + m ≤ 9223372036854775807) (hbytes : (n + m) * bytes ≤ 140737488355328) (hbase : base ≤ w.heap.size)
    (h : ∀ v' w', w'.ownsRow base e 1 v' (n + m) (xs ++ ys.map (Value.int k)) → w.grownBy w' v.ownBlock → wpList P ops Q rest (a.put o.dst v') w') : wpList P ops Q (o :: rest) a w := by
  cases xo with
  | none =>
    obtain ⟨rfl, rfl⟩ := hnil rfl
    obtain rfl : ys = [] := List.eq_nil_of_length_eq_zero hl
    exact wpList_append_own_none hgd s x t ho base e i 1 ht hi v n xs hs hown hx (h v w (by simpa using hown) (World.grownBy.refl _ _))
  | some ad =>
    refine wpList_append_own w hgd s x t ho base e i z 1 bytes ht hi hz hsize hby hzs (by omega) v n xs hs hown ad m c (ys.map (Value.int k)) hx (by simp [hl]) ?_ (ints_oneCell k ys) (by unfold maxLen; omega) hbytes hbase fun v' w' h1 h2 _ => h v' w' h1 h2
    intro j u hu
    have hj : j < ys.length := by simpa using (List.getElem?_eq_some_iff.1 hu).1
    obtain ⟨a', e1, _, e3⟩ := hy j hj
    obtain rfl := Option.some.inj e1
    rw [e3, ← hu]
    simp [List.getD_eq_getElem?_getD, List.getElem?_eq_getElem hj]

theorem owns_ints {k : IntKind} {w : World} {base : Nat} {e : TypeId} {v : Value} {n : Nat} {ys : List Int} (h : w.ownsRow base e 1 v n (ys.map (Value.int k))) :
    ∃ (x : Option Addr) (c : Nat), v = .slice x n c ∧ Ints k w w.heap.size x ys ∧ ys.length = n ∧ n ≤ c ∧ c ≤ 9223372036854775807 ∧ (x = none → n = 0 ∧ c = 0) ∧ (∀ a, x = some a → base ≤ a.block) := by
  have hlen : ys.length = n := by simpa using h.1
  have h0 := h
  obtain ⟨_, h2⟩ := h
  rcases h2 with ⟨rfl, rfl⟩ | ⟨g, cap, cur, rfl, hg, hh, hn, hcap, hsz, htake⟩
  · obtain rfl : ys = [] := List.eq_nil_of_length_eq_zero hlen
    exact ⟨none, 0, rfl, Ints.nil _ _ _ _, rfl, Nat.le_refl _, by omega, fun _ => ⟨rfl, rfl⟩, fun a h => by cases h⟩
  · refine ⟨some ⟨g, 0, none⟩, cap, rfl, ?_, hlen, hn, by unfold maxLen at hcap; exact hcap, (fun h => by cases h), (fun a h => by cases h; exact hg)⟩
    intro i hi
    refine ⟨_, rfl, (h0.lt g rfl).2, ?_⟩
    exact h0.cells (g := g) rfl i _ (by simp [List.getD_eq_getElem?_getD, List.getElem?_eq_getElem hi])
end Go.Proofs.Ytkfkegalflnepaa
