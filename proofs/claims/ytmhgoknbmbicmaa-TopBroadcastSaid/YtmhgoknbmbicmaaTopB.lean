/- What the packets of TopBroadcast are, as values in memory. -/
import Derived.Test.YtmhgoknbmbicmaaTopA
import Derived.OpenShut
import Derived.ChangeSlices
import Derived.ProofKit
import Derived.Deep.Slices
namespace Go.Proofs.Ytmhgoknbmbicmaa
open Go.ChangeShapes Go.WideShapes Go.ChangeAt Go.RowKit
set_option linter.unusedVariables false
set_option linter.unusedSimpArgs false

section
variable {H : Type} {enc : TypeId × Value → H} {w : World} {base : Nat} {spare : Nat → Bool} {held : Bool}
theorem open_pkt {n : Nat} {cs : List Value} {x : DataW H × List MemPlace} (h : DataW.trod enc Try.prog w base spare held n 37 cs = some x) :
    ∃ (i at' err tag : Int) (bad : Bool) (bv : Value) (m : Nat) (y : DataW H × List MemPlace), cs = [.int .i64 i, .int .i64 at', .int .i64 err, bv, .bool bad, .int .u64 tag] ∧
      (Lit.int .i64 i).wf = true ∧ (Lit.int .i64 at').wf = true ∧ (Lit.int .i64 err).wf = true ∧ (Lit.int .u64 tag).wf = true ∧ DataW.trod enc Try.prog w base spare held m 35 [bv] = some y := by
  obtain ⟨xs, m, hn, hx, hl, hxl, hf⟩ := DataW.trod_struct Try.underlying37 h
  have h6 : Try.prog.cellsOf 37 = 6 := by kernel_rfl
  rw [h6] at hl
  have e3 : Try.prog.cellsOf 3 = 1 := by kernel_rfl
  have e4 : Try.prog.cellsOf 35 = 1 := by kernel_rfl
  have e5 : Try.prog.cellsOf 4 = 1 := by kernel_rfl
  have e6 : Try.prog.cellsOf 22 = 1 := by kernel_rfl
  match cs, hl with
  | [a0, a1, a2, a3, a4, a5], _ =>
    have g6 : xs.length = 6 := hxl
    have f0 : DataW.trod enc Try.prog w base spare held m 3 (([a0, a1, a2, a3, a4, a5].drop 0).take (Try.prog.cellsOf 3)) = xs[0]? := hf 0 _ rfl
    rw [e3, List.getElem?_eq_getElem (by omega)] at f0
    replace f0 : DataW.trod enc Try.prog w base spare held m 3 [a0] = some (xs[0]'(by omega)) := f0
    have f1 : DataW.trod enc Try.prog w base spare held m 3 (([a0, a1, a2, a3, a4, a5].drop 1).take (Try.prog.cellsOf 3)) = xs[1]? := hf 1 _ rfl
    rw [e3, List.getElem?_eq_getElem (by omega)] at f1
    replace f1 : DataW.trod enc Try.prog w base spare held m 3 [a1] = some (xs[1]'(by omega)) := f1
    have f2 : DataW.trod enc Try.prog w base spare held m 3 (([a0, a1, a2, a3, a4, a5].drop 2).take (Try.prog.cellsOf 3)) = xs[2]? := hf 2 _ rfl
    rw [e3, List.getElem?_eq_getElem (by omega)] at f2
    replace f2 : DataW.trod enc Try.prog w base spare held m 3 [a2] = some (xs[2]'(by omega)) := f2
    have f3 : DataW.trod enc Try.prog w base spare held m 35 (([a0, a1, a2, a3, a4, a5].drop 3).take (Try.prog.cellsOf 35)) = xs[3]? := hf 3 _ rfl
    rw [e4, List.getElem?_eq_getElem (by omega)] at f3
    replace f3 : DataW.trod enc Try.prog w base spare held m 35 [a3] = some (xs[3]'(by omega)) := f3
    have f4 : DataW.trod enc Try.prog w base spare held m 4 (([a0, a1, a2, a3, a4, a5].drop 4).take (Try.prog.cellsOf 4)) = xs[4]? := hf 4 _ rfl
    rw [e5, List.getElem?_eq_getElem (by omega)] at f4
    replace f4 : DataW.trod enc Try.prog w base spare held m 4 [a4] = some (xs[4]'(by omega)) := f4
    have f5 : DataW.trod enc Try.prog w base spare held m 22 (([a0, a1, a2, a3, a4, a5].drop 5).take (Try.prog.cellsOf 22)) = xs[5]? := hf 5 _ rfl
    rw [e6, List.getElem?_eq_getElem (by omega)] at f5
    replace f5 : DataW.trod enc Try.prog w base spare held m 22 [a5] = some (xs[5]'(by omega)) := f5
    obtain ⟨q0, hq0, _, wq0⟩ := DataW.trod_int Try.underlying3 f0
    obtain rfl : a0 = .int .i64 q0 := by simpa using hq0
    obtain ⟨q1, hq1, _, wq1⟩ := DataW.trod_int Try.underlying3 f1
    obtain rfl : a1 = .int .i64 q1 := by simpa using hq1
    obtain ⟨q2, hq2, _, wq2⟩ := DataW.trod_int Try.underlying3 f2
    obtain rfl : a2 = .int .i64 q2 := by simpa using hq2
    obtain ⟨q4, hq4, _⟩ := DataW.trod_bool Try.underlying4 f4
    obtain rfl : a4 = .bool q4 := by simpa using hq4
    obtain ⟨q5, hq5, _, wq5⟩ := DataW.trod_int Try.underlying22 f5
    obtain rfl : a5 = .int .u64 q5 := by simpa using hq5
    exact ⟨q0, q1, q2, q5, q4, a3, m, _, rfl, wq0, wq1, wq2, wq5, f3⟩

/-- a packet -/
structure Pkt where
  i : Int
  at' : Int
  err : Int
  p : Option Addr
  n : Nat
  c : Nat
  b : List Int
  bad : Bool
  tag : Int
def PktAt (w : World) (x : Option Addr) (k : Nat) (q : Pkt) : Prop :=
  (∃ a : Addr, x = some a ∧ a.block < w.heap.size ∧ w.cell? (a.add (k * 6)) = some (.int .i64 q.i) ∧ w.cell? ((a.add (k * 6)).add 1) = some (.int .i64 q.at') ∧ w.cell? ((a.add (k * 6)).add 2) = some (.int .i64 q.err) ∧
    w.cell? ((a.add (k * 6)).add 3) = some (.slice q.p q.n q.c) ∧ w.cell? ((a.add (k * 6)).add 4) = some (.bool q.bad) ∧ w.cell? ((a.add (k * 6)).add 5) = some (.int .u64 q.tag)) ∧
  Ints .u8 w w.heap.size q.p q.b ∧ Bytes q.b ∧ q.b.length = q.n ∧ q.n ≤ q.c ∧ q.c ≤ 9223372036854775807 ∧ (q.p = none → q.n = 0 ∧ q.c = 0)
def IsPkts (w : World) (v : Value) : Prop := ∃ (x : Option Addr) (n c : Nat) (qs : List Pkt), v = .slice x n c ∧ qs.length = n ∧ n ≤ c ∧ c ≤ 9223372036854775807 ∧ (x = none → n = 0 ∧ c = 0) ∧ ∀ k q, qs[k]? = some q → PktAt w x k q

theorem wf_u8 {a : Int} (h : (Lit.int .u8 a).wf = true) : 0 ≤ a ∧ a < 256 := by
  simp [Lit.wf, IntKind.min, IntKind.max, IntKind.bits, IntKind.signed] at h
  omega
theorem cells_lt {w : World} {a : Addr} {u : Value} (h : w.cell? a = some u) : a.block < w.heap.size := by
  unfold World.cell? at h
  by_cases hb : a.block < w.heap.size
  · exact hb
  · rw [Array.getElem?_eq_none (by omega)] at h
    simp at h
theorem open_body {m : Nat} {bv : Value} {y : DataW H × List MemPlace} (h : DataW.trod enc Try.prog w base spare held m 35 [bv] = some y) :
    ∃ (p : Option Addr) (n c : Nat) (b : List Int), bv = .slice p n c ∧ Ints .u8 w w.heap.size p b ∧ Bytes b ∧ b.length = n ∧ n ≤ c ∧ c ≤ 9223372036854775807 ∧ (p = none → n = 0 ∧ c = 0) := by
  rcases open_ints Try.underlying35 Try.underlying5 (by kernel_rfl) h with ⟨hcs, _⟩ | ⟨x, l, c, zs, hcs, _, hl, hm, hz, _, hcell, hwz⟩
  · obtain rfl : bv = .slice none 0 0 := by simpa using hcs
    exact ⟨none, 0, 0, [], rfl, Ints.nil _ _ _ _, (by intro y hy; simp at hy), rfl, Nat.le_refl _, by omega, fun _ => ⟨rfl, rfl⟩⟩
  · obtain rfl : bv = .slice (some x) l c := by simpa using hcs
    have hzl : l ≤ zs.length := by rw [hz]; split <;> omega
    refine ⟨some x, l, c, zs.take l, rfl, ?_, fun y hy => wf_u8 (hwz y (List.mem_of_mem_take hy)), ?_, hl, by unfold maxLen at hm; exact hm, fun h => by cases h⟩
    · intro i hi
      rw [List.length_take] at hi
      have h1 := hcell i (by omega)
      refine ⟨x, rfl, ?_, ?_⟩
      · have := cells_lt h1
        unfold Addr.add at this
        split at this <;> exact this
      · rw [h1, List.getD_eq_getElem?_getD, List.getD_eq_getElem?_getD, List.getElem?_take, if_pos (by omega)]
    · rw [List.length_take]; omega

theorem open_pktAt {n k : Nat} {a : Addr} {cs : List Value} {y : DataW H × List MemPlace} (hc : w.cells? base (a.add (k * Try.prog.cellsOf 37)) (Try.prog.cellsOf 37) = some cs) (h : DataW.trod enc Try.prog w base spare held n 37 cs = some y) :
    ∃ q : Pkt, PktAt w (some a) k q := by
  have h6 : Try.prog.cellsOf 37 = 6 := by kernel_rfl
  rw [h6] at hc
  obtain ⟨i, at', err, tag, bad, bv, m, z, rfl, _, _, _, _, hb⟩ := open_pkt h
  obtain ⟨p, bn, c, b, rfl, b1, b2, b3, b4, b5, b6⟩ := open_body hb
  obtain ⟨_, _, hat⟩ := World.cells?_some hc
  have t0 := hat 0 (by omega)
  have t1 := hat 1 (by omega)
  have t2 := hat 2 (by omega)
  have t3 := hat 3 (by omega)
  have t4 := hat 4 (by omega)
  have t5 := hat 5 (by omega)
  refine ⟨⟨i, at', err, p, bn, c, b, bad, tag⟩, ⟨a, rfl, ?_, by simpa [Addr.add] using t0, t1, t2, t3, t4, t5⟩, b1, b2, b3, b4, b5, b6⟩
  have := cells_lt t1
  rw [show ((a.add (k * 6)).add 1).block = a.block by unfold Addr.add; split <;> split <;> rfl] at this
  exact this
end

section
variable {H : Type} {enc : TypeId × Value → H} {W : World} {base : Nat} {v : Value} {d : DataW H} {p : List MemPlace}
theorem open_pkts (hv : Value.okWide Try.prog W .any base 25 v) (h : DataW.Trod enc Try.prog W 0 (fun _ => true) true 25 v d p) : IsPkts W v := by
  obtain ⟨a, len, cap, rfl⟩ := okWide_slice Try.underlying25 hv
  obtain ⟨fuel, hf⟩ := h
  rcases Go.Deep.open_slice Try.underlying25 hf with ⟨hcs, _⟩ | ⟨x, l, c, m, n, D, Pl, hcs, _, hl, hm, hmm, _, hi⟩
  · simp [Value.cells] at hcs
    obtain ⟨rfl, rfl, rfl⟩ := hcs
    exact ⟨none, 0, 0, [], rfl, rfl, Nat.le_refl _, by omega, (fun _ => ⟨rfl, rfl⟩), (by intro k q hq; simp at hq)⟩
  · simp [Value.cells] at hcs
    obtain ⟨rfl, rfl, rfl⟩ := hcs
    have hml : len ≤ m := by rw [hmm]; split <;> omega
    have key : ∀ k, ∃ q : Pkt, k < len → PktAt W (some x) k q := by
      intro k
      by_cases hk : k < len
      · obtain ⟨cs', hc, ht⟩ := hi k (by omega)
        obtain ⟨q, hq⟩ := open_pktAt hc ht
        exact ⟨q, fun _ => hq⟩
      · exact ⟨⟨0, 0, 0, none, 0, 0, [], false, 0⟩, fun e => absurd e hk⟩
    obtain ⟨f, hf⟩ := Classical.skolem.1 key
    refine ⟨some x, len, cap, (List.range len).map f, rfl, by simp, hl, by unfold maxLen at hm; exact hm, (fun e => by cases e), ?_⟩
    intro k q hq
    rw [List.getElem?_map] at hq
    have hk : k < len := by
      have := (List.getElem?_eq_some_iff.1 (by rw [← List.getElem?_map] at hq; exact hq)).1
      simpa using this
    rw [List.getElem?_range hk] at hq
    obtain rfl : f k = q := by simpa using hq
    exact hf k hk
end
end Go.Proofs.Ytmhgoknbmbicmaa
