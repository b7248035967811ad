/- What the arguments of the statements about package agenda are, as values in memory. -/
import Derived.Test.YtknoigleejbjdaaAgS
import Derived.OpenShut
import Derived.ChangeSlices
import Derived.ProofKit
import Derived.RowKit
import Derived.Deep.Slices
namespace Go.Proofs.Ytknoigleejbjdaa
open Go.ChangeShapes Go.WideShapes Go.ChangeAt Go.RowKit
set_option linter.unusedVariables false
set_option linter.unusedSimpArgs false

def Ints (k : IntKind) (w : World) (B : Nat) (x : Option Addr) (zs : List Int) : Prop :=
  ∀ i, i < zs.length → ∃ a : Addr, x = some a ∧ a.block < B ∧ w.cell? (a.add i) = some (.int k (zs.getD i 0))
theorem Ints.nil (k : IntKind) (w : World) (B : Nat) (x : Option Addr) : Ints k w B x [] := fun i hi => by simp at hi
theorem add_block (a : Addr) (n : Nat) : (a.add n).block = a.block := by unfold Addr.add; split <;> rfl
def IsInts (k : IntKind) (w : World) (v : Value) : Prop := ∃ (x : Option Addr) (n c : Nat) (ys : List Int), v = .slice x n c ∧ Ints k w w.heap.size x ys ∧ (∀ y ∈ ys, (Lit.int k y).wf = true) ∧ ys.length = n ∧ n ≤ c ∧ c ≤ 9223372036854775807 ∧ (x = none → n = 0 ∧ c = 0)
def Bools (w : World) (B : Nat) (x : Option Addr) (zs : List Bool) : Prop :=
  ∀ i, i < zs.length → ∃ a : Addr, x = some a ∧ a.block < B ∧ w.cell? (a.add i) = some (.bool (zs.getD i false))
def IsBools (w : World) (v : Value) : Prop := ∃ (x : Option Addr) (n c : Nat) (bs : List Bool), v = .slice x n c ∧ Bools w w.heap.size x bs ∧ bs.length = n ∧ n ≤ c ∧ c ≤ 9223372036854775807 ∧ (x = none → n = 0 ∧ c = 0)
/-- a deed: its kind, its operands -/
structure Deed where
  k : Int
  a : Int
  b : Int
def DeedAt (w : World) (x : Option Addr) (i : Nat) (q : Deed) : Prop :=
  ∃ a : Addr, x = some a ∧ a.block < w.heap.size ∧ w.cell? (a.add (i * 3)) = some (.int .i64 q.k) ∧ w.cell? ⟨(a.add (i * 3)).block, (a.add (i * 3)).off + 1, none⟩ = some (.int .i64 q.a) ∧ w.cell? ⟨(a.add (i * 3)).block, (a.add (i * 3)).off + 2, none⟩ = some (.int .i64 q.b)
def Deeds (w : World) (x : Option Addr) (zs : List Deed) : Prop := ∀ i q, zs[i]? = some q → DeedAt w x i q ∧ wfI q.k ∧ wfI q.a ∧ wfI q.b
def IsDeeds (w : World) (v : Value) : Prop := ∃ (x : Option Addr) (n c : Nat) (ds : List Deed), v = .slice x n c ∧ Deeds w x ds ∧ ds.length = n ∧ n ≤ c ∧ c ≤ 9223372036854775807 ∧ (x = none → n = 0 ∧ c = 0)

theorem wf_u16 {a : Int} (h : (Lit.int .u16 a).wf = true) : 0 ≤ a ∧ a < 65536 := by
  simp [Lit.wf, IntKind.min, IntKind.max, IntKind.bits, IntKind.signed] at h
  omega
theorem wf_u8 {a : Int} (h : (Lit.int .u8 a).wf = true) : 0 ≤ a ∧ a < 256 := by
  simp [Lit.wf, IntKind.min, IntKind.max, IntKind.bits, IntKind.signed] at h
  omega
theorem wf_i64 {a : Int} (h : (Lit.int .i64 a).wf = true) : -9223372036854775808 ≤ a ∧ a ≤ 9223372036854775807 := by
  simp [Lit.wf, IntKind.min, IntKind.max, IntKind.bits, IntKind.signed] at h
  omega
section
variable {H : Type} {enc : TypeId × Value → H} {W : World} {base : Nat} {v : Value} {d : DataW H} {p : List MemPlace} {T : TypeId} {e : TypeId} {k : IntKind}

theorem open_isint (ht : Try.prog.underlying T = some (.int k)) (hv : Value.okWide Try.prog W .any base T v) (h : DataW.Trod enc Try.prog W 0 (fun _ => true) true T v d p) : IsInt k W v := by
  obtain ⟨a, rfl, rfl, rfl, w1⟩ := open_int ht hv h
  exact ⟨a, rfl, w1⟩
theorem open_i64 (hv : Value.okWide Try.prog W .any base 3 v) (h : DataW.Trod enc Try.prog W 0 (fun _ => true) true 3 v d p) : IsInt .i64 W v := open_isint Try.underlying3 hv h
theorem open_u8 (hv : Value.okWide Try.prog W .any base 5 v) (h : DataW.Trod enc Try.prog W 0 (fun _ => true) true 5 v d p) : IsInt .u8 W v := open_isint Try.underlying5 hv h
theorem open_u16 (hv : Value.okWide Try.prog W .any base 22 v) (h : DataW.Trod enc Try.prog W 0 (fun _ => true) true 22 v d p) : IsInt .u16 W v := open_isint Try.underlying22 hv h
theorem open_isints (ht : Try.prog.underlying T = some (.slice e)) (he : Try.prog.underlying e = some (.int k)) (hc : Try.prog.cellsOf e = 1) (hv : Value.okWide Try.prog W .any base T v) (h : DataW.Trod enc Try.prog W 0 (fun _ => true) true T v d p) : IsInts k W v := by
  obtain ⟨a, len, cap, rfl⟩ := okWide_slice ht hv
  obtain ⟨fuel, hf⟩ := h
  rcases open_ints ht he hc hf with ⟨hcs, _⟩ | ⟨x, l, c, zs, hcs, _, hl, hm, hz, _, hcell, hwz⟩
  · simp [Value.cells] at hcs
    obtain ⟨rfl, rfl, rfl⟩ := hcs
    exact ⟨none, 0, 0, [], rfl, Ints.nil _ _ _ _, by simp, rfl, Nat.le_refl _, by omega, fun _ => ⟨rfl, rfl⟩⟩
  · simp [Value.cells] at hcs
    obtain ⟨rfl, rfl, rfl⟩ := hcs
    have hz' : zs.length = cap := by simpa using hz
    refine ⟨some x, len, cap, zs.take len, rfl, ?_, fun y hy => hwz y (List.mem_of_mem_take hy), by rw [List.length_take]; omega, hl, by unfold maxLen at hm; exact hm, fun h => by cases h⟩
    intro i hi
    rw [List.length_take] at hi
    have h1 := hcell i (by omega)
    refine ⟨x, rfl, ?_, ?_⟩
    · have := cells_lt h1
      rw [add_block] at this
      exact this
    · rw [h1, List.getD_eq_getElem?_getD, List.getD_eq_getElem?_getD, List.getElem?_take, if_pos (by omega)]
theorem open_u16s (hv : Value.okWide Try.prog W .any base 35 v) (h : DataW.Trod enc Try.prog W 0 (fun _ => true) true 35 v d p) : IsInts .u16 W v := open_isints Try.underlying35 Try.underlying22 (by kernel_rfl) hv h
theorem open_i64s (hv : Value.okWide Try.prog W .any base 60 v) (h : DataW.Trod enc Try.prog W 0 (fun _ => true) true 60 v d p) : IsInts .i64 W v := open_isints Try.underlying60 Try.underlying3 (by kernel_rfl) hv h
theorem open_bools (hv : Value.okWide Try.prog W .any base 36 v) (h : DataW.Trod enc Try.prog W 0 (fun _ => true) true 36 v d p) : IsBools W v := by
  obtain ⟨a, len, cap, rfl⟩ := okWide_slice Try.underlying36 hv
  obtain ⟨fuel, hf⟩ := h
  have hc1 : Try.prog.cellsOf 4 = 1 := by kernel_rfl
  rcases Go.Deep.open_slice Try.underlying36 hf with ⟨hcs, _⟩ | ⟨x, l, c, m, n, D, Pl, hcs, _, hl, hm, hmm, _, hi⟩
  · simp [Value.cells] at hcs
    obtain ⟨rfl, rfl, rfl⟩ := hcs
    exact ⟨none, 0, 0, [], rfl, fun i hi => by simp at hi, rfl, Nat.le_refl _, by omega, fun _ => ⟨rfl, rfl⟩⟩
  · simp [Value.cells] at hcs
    obtain ⟨rfl, rfl, rfl⟩ := hcs
    have hml : len ≤ m := by rw [hmm]; split <;> omega
    have key : ∀ k, ∃ b : Bool, k < len → W.cell? (x.add k) = some (.bool b) := by
      intro k
      by_cases hk : k < len
      · obtain ⟨cs', hc, ht⟩ := hi k (by omega)
        rw [hc1, Nat.mul_one] at hc
        obtain ⟨b, hb, _⟩ := DataW.trod_bool Try.underlying4 ht
        obtain ⟨_, _, hat⟩ := World.cells?_some hc
        have t0 := hat 0 (by omega)
        refine ⟨b, fun _ => ?_⟩
        subst hb
        simpa [Addr.add] using t0
      · exact ⟨false, fun e => absurd e hk⟩
    obtain ⟨f, hf⟩ := Classical.skolem.1 key
    refine ⟨some x, len, cap, (List.range len).map f, rfl, fun i hi => ?_, by simp, hl, by unfold maxLen at hm; exact hm, fun h => by cases h⟩
    have hi' : i < len := by simpa using hi
    have hc := hf i hi'
    refine ⟨x, rfl, ?_, ?_⟩
    · have := cells_lt hc
      rw [add_block] at this
      exact this
    · rw [hc]
      simp [List.getD_eq_getElem?_getD, hi']
theorem open_deed {n : Nat} {cs : List Value} {spare : Nat → Bool} {held : Bool} {x : DataW H × List MemPlace} (h : DataW.trod enc Try.prog W base spare held n 41 cs = some x) :
    ∃ (a b c : Int), cs = [.int .i64 a, .int .i64 b, .int .i64 c] ∧ wfI a ∧ wfI b ∧ wfI c := by
  obtain ⟨xs, m, hn, hx, hl, hxl, hf⟩ := DataW.trod_struct Try.underlying41 h
  have h6 : Try.prog.cellsOf 41 = 3 := by kernel_rfl
  rw [h6] at hl
  have e3 : Try.prog.cellsOf 3 = 1 := by kernel_rfl
  match cs, hl with
  | [a0, a1, a2], _ =>
    have g6 : xs.length = 3 := hxl
    have f0 : DataW.trod enc Try.prog W base spare held m 3 (([a0, a1, a2].drop 0).take (Try.prog.cellsOf 3)) = xs[0]? := hf 0 _ rfl
    rw [e3, List.getElem?_eq_getElem (by omega)] at f0
    replace f0 : DataW.trod enc Try.prog W base spare held m 3 [a0] = some (xs[0]'(by omega)) := f0
    have f1 : DataW.trod enc Try.prog W base spare held m 3 (([a0, a1, a2].drop 1).take (Try.prog.cellsOf 3)) = xs[1]? := hf 1 _ rfl
    rw [e3, List.getElem?_eq_getElem (by omega)] at f1
    replace f1 : DataW.trod enc Try.prog W base spare held m 3 [a1] = some (xs[1]'(by omega)) := f1
    have f2 : DataW.trod enc Try.prog W base spare held m 3 (([a0, a1, a2].drop 2).take (Try.prog.cellsOf 3)) = xs[2]? := hf 2 _ rfl
    rw [e3, List.getElem?_eq_getElem (by omega)] at f2
    replace f2 : DataW.trod enc Try.prog W base spare held m 3 [a2] = some (xs[2]'(by omega)) := f2
    obtain ⟨q0, hq0, _, wq0⟩ := DataW.trod_int Try.underlying3 f0
    obtain rfl : a0 = .int .i64 q0 := by simpa using hq0
    obtain ⟨q1, hq1, _, wq1⟩ := DataW.trod_int Try.underlying3 f1
    obtain rfl : a1 = .int .i64 q1 := by simpa using hq1
    obtain ⟨q2, hq2, _, wq2⟩ := DataW.trod_int Try.underlying3 f2
    obtain rfl : a2 = .int .i64 q2 := by simpa using hq2
    exact ⟨q0, q1, q2, rfl, wq0, wq1, wq2⟩
theorem open_deeds (hv : Value.okWide Try.prog W .any base 38 v) (h : DataW.Trod enc Try.prog W 0 (fun _ => true) true 38 v d p) : IsDeeds W v := by
  obtain ⟨a, len, cap, rfl⟩ := okWide_slice Try.underlying38 hv
  obtain ⟨fuel, hf⟩ := h
  have hc3 : Try.prog.cellsOf 41 = 3 := by kernel_rfl
  rcases Go.Deep.open_slice Try.underlying38 hf with ⟨hcs, _⟩ | ⟨x, l, c, m, n, D, Pl, hcs, _, hl, hm, hmm, _, hi⟩
  · simp [Value.cells] at hcs
    obtain ⟨rfl, rfl, rfl⟩ := hcs
    exact ⟨none, 0, 0, [], rfl, fun i q hi => by simp at hi, rfl, Nat.le_refl _, by omega, fun _ => ⟨rfl, rfl⟩⟩
  · simp [Value.cells] at hcs
    obtain ⟨rfl, rfl, rfl⟩ := hcs
    have hml : len ≤ m := by rw [hmm]; split <;> omega
    have key : ∀ k, ∃ q : Deed, k < len → DeedAt W (some x) k q ∧ wfI q.k ∧ wfI q.a ∧ wfI q.b := by
      intro k
      by_cases hk : k < len
      · obtain ⟨cs', hc, ht⟩ := hi k (by omega)
        rw [hc3] at hc
        obtain ⟨q0, q1, q2, rfl, wq0, wq1, wq2⟩ := open_deed ht
        obtain ⟨_, _, hat⟩ := World.cells?_some hc
        have t0 := hat 0 (by omega)
        have t1 := hat 1 (by omega)
        have t2 := hat 2 (by omega)
        refine ⟨⟨q0, q1, q2⟩, fun _ => ⟨⟨x, rfl, ?_, by simpa [Addr.add] using t0, by simpa [Addr.add] using t1, by simpa [Addr.add] using t2⟩, wq0, wq1, wq2⟩⟩
        have := cells_lt t1
        rw [add_block, add_block] at this
        exact this
      · exact ⟨⟨0, 0, 0⟩, fun e => absurd e hk⟩
    obtain ⟨f, hf⟩ := Classical.skolem.1 key
    refine ⟨some x, len, cap, (List.range len).map f, rfl, fun i q hi => ?_, by simp, hl, by unfold maxLen at hm; exact hm, fun h => by cases h⟩
    have hi' : i < len := by
      have := List.getElem?_eq_some_iff.1 hi
      obtain ⟨h, _⟩ := this
      simpa using h
    have : q = f i := by
      rw [List.getElem?_map, List.getElem?_range hi'] at hi
      simpa using hi.symm
    rw [this]
    exact hf i hi'
end
end Go.Proofs.Ytknoigleejbjdaa
