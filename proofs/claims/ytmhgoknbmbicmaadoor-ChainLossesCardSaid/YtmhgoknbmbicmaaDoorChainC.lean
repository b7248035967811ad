/- A receiver in memory; what New, Known and Held do. -/
import Derived.Test.YtmhgoknbmbicmaaDoorChainB
import Derived.Deep.MidRow
import Derived.RegionTactic
import Derived.Deep.Cut
import Derived.Deep.RegionHeldLaw
import Derived.Deep.RegionHeld3
namespace Go.Proofs.YtmhgoknbmbicmaaDoor
open Go.RowKit
set_option linter.unusedVariables false
set_option linter.unusedSimpArgs false

/-- the zero receiver -/
def recvZero : Array Value := (List.replicate 5 (Value.int .i64 0) ++ List.replicate 130 (Value.int .u64 0) ++ [Value.slice none 0 0]).toArray
theorem recvZero_run (w : World) : Sem.run Tryd.prog (zeroValue 64) w = .ok (.agg recvZero) w := by
  have h : (Tryd.prog.info? 64).map (fun i => (i.zero, i.size, i.bytes)) = some (some (.agg recvZero), 136, 1104) := by kernel_rfl
  obtain ⟨i0, hi, hz0, hz1, hz2⟩ := info_parts h
  simp [zeroValue, typeInfo, hi, hz0]
theorem recvZero_size : recvZero.size = 136 := by decide +kernel
/-- a new receiver's cells -/
def newCells (st sp de co : Int) : Array Value := (((recvZero.setIfInBounds 0 (.int .i64 st)).setIfInBounds 1 (.int .i64 sp)).setIfInBounds 2 (.int .i64 de)).setIfInBounds 3 (.int .i64 co)
theorem newCells_size (st sp de co : Int) : (newCells st sp de co).size = 136 := by simp [newCells, recvZero_size]
theorem newCells_at (st sp de co : Int) (j : Nat) (h : 4 ≤ j) : (newCells st sp de co)[j]? = recvZero[j]? := by
  unfold newCells
  rw [Array.getElem?_setIfInBounds, if_neg (by omega), Array.getElem?_setIfInBounds, if_neg (by omega), Array.getElem?_setIfInBounds, if_neg (by omega), Array.getElem?_setIfInBounds, if_neg (by omega)]
theorem recvZero_at (j : Nat) : recvZero[j]? = if j < 5 then some (.int .i64 0) else if j < 135 then some (.int .u64 0) else if j = 135 then some (.slice none 0 0) else none := by
  unfold recvZero
  rw [List.getElem?_toArray]
  by_cases h1 : j < 5
  · rw [if_pos h1, List.append_assoc, List.getElem?_append_left (by simpa using h1)]; rw [List.getElem?_replicate, if_pos h1]
  · rw [if_neg h1]
    by_cases h2 : j < 135
    · rw [if_pos h2, List.append_assoc, List.getElem?_append_right (by simp; omega), List.getElem?_append_left (by simp; omega), List.getElem?_replicate, if_pos (by simp; omega)]
    · rw [if_neg h2]
      by_cases h3 : j = 135
      · subst h3; rw [if_pos rfl, List.getElem?_append_right (by simp)]; simp
      · rw [if_neg h3, List.getElem?_eq_none (by simp; omega)]


/-- a message that is held: its interval, where its body lies, the body, its tag -/
structure Msg where
  iv : Int
  p : Option Addr
  cap : Nat
  b : List Int
  tag : Int
def msgCells (l : List Msg) : List Value := l.flatMap fun m => [.int .i64 m.iv, .slice m.p m.b.length m.cap, .int .u64 m.tag]
theorem msgCells_len (l : List Msg) : (msgCells l).length = l.length * 3 := by
  induction l with
  | nil => rfl
  | cons a r ih => simp only [msgCells, List.flatMap_cons, List.length_append] at ih ⊢; simp [ih]; omega
theorem msgCells_append (a b : List Msg) : msgCells (a ++ b) = msgCells a ++ msgCells b := by simp [msgCells]
theorem msgCells_at (l : List Msg) (i : Nat) (m : Msg) (h : l[i]? = some m) : (msgCells l)[i * 3]? = some (.int .i64 m.iv) ∧ (msgCells l)[i * 3 + 1]? = some (.slice m.p m.b.length m.cap) ∧ (msgCells l)[i * 3 + 2]? = some (.int .u64 m.tag) := by
  induction l generalizing i with
  | nil => simp at h
  | cons a r ih =>
    have e : msgCells (a :: r) = [.int .i64 a.iv, .slice a.p a.b.length a.cap, .int .u64 a.tag] ++ msgCells r := by simp [msgCells]
    cases i with
    | zero =>
      obtain rfl : a = m := by simpa using h
      rw [e]; simp
    | succ i =>
      obtain ⟨h0, h1, h2⟩ := ih i (by simpa using h)
      rw [e]
      refine ⟨?_, ?_, ?_⟩
      · rw [List.getElem?_append_right (by simp; omega), show (i + 1) * 3 - [Value.int .i64 a.iv, .slice a.p a.b.length a.cap, .int .u64 a.tag].length = i * 3 by simp; omega]; exact h0
      · rw [List.getElem?_append_right (by simp; omega), show (i + 1) * 3 + 1 - [Value.int .i64 a.iv, .slice a.p a.b.length a.cap, .int .u64 a.tag].length = i * 3 + 1 by simp; omega]; exact h1
      · rw [List.getElem?_append_right (by simp; omega), show (i + 1) * 3 + 2 - [Value.int .i64 a.iv, .slice a.p a.b.length a.cap, .int .u64 a.tag].length = i * 3 + 2 by simp; omega]; exact h2

/-- what a receiver is -/
structure RS where
  st : Int
  sp : Int
  de : Int
  co : Int
  kn : Nat
  K : Nat → Int × Int
  hv : Value
  l : List Msg

/-- a receiver in memory: it lies in block R; its blocks are among own -/
structure Recv (w : World) (own : Nat → Prop) (R : Nat) (s : RS) : Prop where
  ok : okC s.st s.sp s.de s.co = true
  low : ∀ g, own g → g < w.heap.size
  ownR : own R
  c0 : w.cell? ⟨R, 0, none⟩ = some (.int .i64 s.st)
  c1 : w.cell? ⟨R, 1, none⟩ = some (.int .i64 s.sp)
  c2 : w.cell? ⟨R, 2, none⟩ = some (.int .i64 s.de)
  c3 : w.cell? ⟨R, 3, none⟩ = some (.int .i64 s.co)
  c4 : w.cell? ⟨R, 4, none⟩ = some (.int .i64 (s.kn : Int))
  c5 : w.cell? ⟨R, 135, none⟩ = some s.hv
  keys : ∀ i, i < 65 → w.cell? ⟨R, 5 + i * 2, none⟩ = some (.int .u64 (s.K i).1) ∧ w.cell? ⟨R, 5 + i * 2 + 1, none⟩ = some (.int .u64 (s.K i).2)
  th : There w R 136
  kco : (s.kn : Int) ≤ s.co
  row : w.ownsRow 0 67 3 s.hv s.l.length (msgCells s.l)
  far : ∀ g, s.hv.ownBlock = some g → own g ∧ g ≠ R
  ivs : ∀ m ∈ s.l, 1 ≤ m.iv ∧ m.iv ≤ s.co
  body : ∀ m ∈ s.l, m.b.length ≤ m.cap ∧ m.cap ≤ 9223372036854775807 ∧ Bytes m.b ∧ Ints .u8 w w.heap.size m.p m.b
  apart : ∀ m ∈ s.l, ∀ a, m.p = some a → own a.block ∧ a.block ≠ R ∧ s.hv.ownBlock ≠ some a.block

theorem Recv.same {w w' : World} {own : Nat → Prop} {R : Nat} {s : RS} (h : Recv w own R s) (hb : ∀ g, own g → w'.heap[g]? = w.heap[g]?) (hs : w.heap.size ≤ w'.heap.size) : Recv w' own R s := by
  have hc : ∀ o, w'.cell? ⟨R, o, none⟩ = w.cell? ⟨R, o, none⟩ := fun o => World.cell?_of_block (hb R h.ownR)
  have hf : ∀ o, w'.frozen? ⟨R, o, none⟩ = w.frozen? ⟨R, o, none⟩ := fun o => World.frozen?_of_block (hb R h.ownR)
  refine ⟨h.ok, fun g hg => Nat.lt_of_lt_of_le (h.low g hg) hs, h.ownR, (hc _).trans h.c0, (hc _).trans h.c1, (hc _).trans h.c2, (hc _).trans h.c3, (hc _).trans h.c4, (hc _).trans h.c5,
    fun i hi => ⟨(hc _).trans (h.keys i hi).1, (hc _).trans (h.keys i hi).2⟩, ?_, h.kco, ?_, h.far, h.ivs, ?_, h.apart⟩
  · intro j hj
    obtain ⟨⟨v, hv⟩, q⟩ := h.th j hj
    exact ⟨⟨v, (hc _).trans hv⟩, (hf _).trans q⟩
  · refine ⟨h.row.1, ?_⟩
    rcases h.row.2 with hn | ⟨g, cap, cur, hv, hg, hh, rest⟩
    · exact .inl hn
    · refine .inr ⟨g, cap, cur, hv, hg, ?_, rest⟩
      rw [hb g (h.far g (by rw [hv]; rfl)).1]
      exact hh
  · intro m hm
    obtain ⟨b1, b2, b3, b4⟩ := h.body m hm
    refine ⟨b1, b2, b3, ?_⟩
    intro i hi
    obtain ⟨a, e1, e2, e3⟩ := b4 i hi
    refine ⟨a, e1, Nat.lt_of_lt_of_le e2 hs, ?_⟩
    rw [World.cell?_of_block (w := w) (a := a.add i) (by rw [show (a.add i).block = a.block by unfold Addr.add; split <;> rfl]; exact hb _ (h.apart m hm a e1).1)]
    exact e3
theorem Recv.below {w w' : World} {own : Nat → Prop} {R B : Nat} {s : RS} (h : Recv w own R s) (hb : Below B w w') (hB : w.heap.size ≤ B) : Recv w' own R s :=
  h.same (fun g hg => hb.block g (Nat.lt_of_lt_of_le (h.low g hg) hB)) hb.size
theorem Recv.wider {w : World} {own own' : Nat → Prop} {R : Nat} {s : RS} (h : Recv w own R s) (ho : ∀ g, own g → own' g) (hl : ∀ g, own' g → g < w.heap.size) : Recv w own' R s :=
  { h with low := hl, ownR := ho _ h.ownR, far := fun g hg => ⟨ho _ (h.far g hg).1, (h.far g hg).2⟩, apart := fun m hm a ha => ⟨ho _ (h.apart m hm a ha).1, (h.apart m hm a ha).2⟩ }

/-- what is not of own is as it was -/
structure Keeps (own : Nat → Prop) (w w' : World) : Prop where
  os : w'.os = w.os
  tape : w'.tape = w.tape
  output : w'.output = w.output
  size : w.heap.size ≤ w'.heap.size
  block : ∀ k, k < w.heap.size → ¬ own k → w'.heap[k]? = w.heap[k]?
theorem Keeps.refl (own : Nat → Prop) (w : World) : Keeps own w w := ⟨rfl, rfl, rfl, Nat.le_refl _, fun _ _ _ => rfl⟩
theorem Below.keeps {w w' : World} {B : Nat} (h : Below B w w') (hB : w.heap.size ≤ B) (own : Nat → Prop) : Keeps own w w' := ⟨h.os, h.tape, h.output, h.size, fun k hk _ => h.block k (by omega)⟩
theorem Keeps.trans {own own' : Nat → Prop} {a b c : World} (h : Keeps own a b) (k : Keeps own' b c) (ho : ∀ g, g < a.heap.size → own' g → own g) : Keeps own a c :=
  ⟨k.os.trans h.os, k.tape.trans h.tape, k.output.trans h.output, Nat.le_trans h.size k.size, fun i hi hn => (k.block i (Nat.lt_of_lt_of_le hi h.size) (fun q => hn (ho i hi q))).trans (h.block i hi hn)⟩
theorem Keeps.toBelow {own : Nat → Prop} {w w' : World} {B : Nat} (h : Keeps own w w') (ho : ∀ g, own g → B ≤ g) (hB : B ≤ w.heap.size) : Below B w w' :=
  ⟨h.os, h.tape, h.output, h.size, fun k hk => h.block k (by omega) (fun q => by have := ho k q; omega)⟩
/-- own, and what was made since -/
def grew (own : Nat → Prop) (w w' : World) : Nat → Prop := fun g => own g ∨ (w.heap.size ≤ g ∧ g < w'.heap.size)
theorem Recv.keeps {w w' : World} {own own2 : Nat → Prop} {R : Nat} {s : RS} (h : Recv w own R s) (hk : Keeps own2 w w') (ho : ∀ g, own g → ¬ own2 g) : Recv w' own R s :=
  h.same (fun g hg => hk.block g (h.low g hg) (ho g hg)) hk.size

theorem frozen_of_row (W : World) (g j : Nat) (cs : Array Value) (t : TypeId) (hh : W.heap[g]? = some (.cells cs t (0, 0))) : W.frozen? ⟨g, j, none⟩ = false := by simp [World.frozen?, hh]
theorem there_new (X : World) (cs : Array Value) (t : TypeId) (n : Nat) (h : cs.size = n) : There (X.alloc (.cells cs t)) X.heap.size n := by
  intro j hj
  have hh : (X.alloc (.cells cs t)).heap[X.heap.size]? = some (.cells cs t (0, 0)) := by
    show (X.heap.push _)[X.heap.size]? = _
    simp
  refine ⟨⟨cs[j]'(by omega), ?_⟩, ?_⟩
  · rw [cell_of_row _ X.heap.size j cs t (0, 0) hh]; simp
  · exact frozen_of_row _ _ _ _ _ hh
theorem cell_new (X : World) (cs : Array Value) (t : TypeId) (j : Nat) : (X.alloc (.cells cs t)).cell? ⟨X.heap.size, j, none⟩ = cs[j]? := by
  have hh : (X.alloc (.cells cs t)).heap[X.heap.size]? = some (.cells cs t (0, 0)) := by
    show (X.heap.push _)[X.heap.size]? = _
    simp
  exact cell_of_row _ X.heap.size j cs t (0, 0) hh

set_option maxHeartbeats 4000000 in
set_option maxRecDepth 100000 in
theorem new_bad (st sp de co a b : Int) (w : World) (hok : okC st sp de co = false) :
    Calls Tryd.prog 19 #[.agg #[.int .i64 st, .int .i64 sp, .int .i64 de, .int .i64 co], .agg #[.int .u64 a, .int .u64 b]] w fun e w' => e = .returned (.pointer none) ∧ Below w.heap.size w w' := by
  go_enter Tryd.func19, Tryd.ntmps19
  go_wp2_with (fail)
  have C := pcheck_any st sp de co ((w.alloc (.cells #[.int .i64 st, .int .i64 sp, .int .i64 de, .int .i64 co] 23)).alloc (.cells #[.int .u64 a, .int .u64 b] 34))
  rw [show errC st sp de co = 3 from by unfold errC; rw [hok]; rfl] at C
  refine C.mono ?_
  rintro e w1 ⟨rfl, hb1⟩
  clear C
  go_wp2_with (fail)
  go_ret
  exact ⟨rfl, (((Below.refl _ _).alloc (Nat.le_refl _) _).alloc (by simp) _).trans (hb1.mono (by simp; omega))⟩

/-- a receiver that New made -/
def newRS (st sp de co a b : Int) : RS := ⟨st, sp, de, co, 0, fun i => if i = 0 then (a, b) else (0, 0), .slice none 0 0, []⟩

theorem recv_new (X : World) (st sp de co a b : Int) (hok : okC st sp de co = true) (B : Nat) (hB : B ≤ X.heap.size) :
    Recv (((X.alloc (.cells (newCells st sp de co) 64)).setCell ⟨X.heap.size, 5, none⟩ (.int .u64 a)).setCell ⟨X.heap.size, 6, none⟩ (.int .u64 b)) (fun g => B ≤ g ∧ g ≤ X.heap.size) X.heap.size (newRS st sp de co a b) := by
  have hc : ∀ j, j ≠ 5 → j ≠ 6 → (((X.alloc (.cells (newCells st sp de co) 64)).setCell ⟨X.heap.size, 5, none⟩ (.int .u64 a)).setCell ⟨X.heap.size, 6, none⟩ (.int .u64 b)).cell? ⟨X.heap.size, j, none⟩ = (newCells st sp de co)[j]? := by
    intro j h5 h6
    rw [World.cell?_setCell_other _ _ _ _ (by simp <;> omega), World.cell?_setCell_other _ _ _ _ (by simp <;> omega), cell_new]
  have e5 : (X.alloc (.cells (newCells st sp de co) 64)).cell? ⟨X.heap.size, 5, none⟩ = some (.int .u64 0) := by rw [cell_new, newCells_at _ _ _ _ 5 (by omega), recvZero_at]; rfl
  have e6 : (X.alloc (.cells (newCells st sp de co) 64)).cell? ⟨X.heap.size, 6, none⟩ = some (.int .u64 0) := by rw [cell_new, newCells_at _ _ _ _ 6 (by omega), recvZero_at]; rfl
  have hsz := recvZero_size
  have hco := (okC_iff.1 hok).2.2.2.2.2.2
  refine ⟨hok, ?_, ⟨hB, Nat.le_refl _⟩, ?_, ?_, ?_, ?_, ?_, ?_, ?_, ?_, ?_, ?_, ?_, ?_, ?_, ?_⟩
  · intro g hg; simp [World.setCell]; omega
  · rw [hc 0 (by omega) (by omega)]; simp [newCells, hsz, newRS]
  · rw [hc 1 (by omega) (by omega)]; simp [newCells, hsz, newRS]
  · rw [hc 2 (by omega) (by omega)]; simp [newCells, hsz, newRS]
  · rw [hc 3 (by omega) (by omega)]; simp [newCells, hsz, newRS]
  · rw [hc 4 (by omega) (by omega), newCells_at _ _ _ _ 4 (by omega), recvZero_at]; rfl
  · rw [hc 135 (by omega) (by omega), newCells_at _ _ _ _ 135 (by omega), recvZero_at]; rfl
  · intro i hi
    by_cases h0 : i = 0
    · subst h0
      refine ⟨?_, ?_⟩
      · rw [World.cell?_setCell_other _ _ _ _ (by simp)]; exact World.cell?_setCell_same _ _ _ e5
      · exact World.cell?_setCell_same (u := .int .u64 0) _ _ _ (by rw [World.cell?_setCell_other _ _ _ _ (by simp)]; exact e6)
    · have hK : (newRS st sp de co a b).K i = (0, 0) := by show (if i = 0 then (a, b) else (0, 0)) = _; rw [if_neg h0]
      rw [hK]
      refine ⟨?_, ?_⟩
      · rw [hc _ (by omega) (by omega), newCells_at _ _ _ _ _ (by omega), recvZero_at, if_neg (by omega), if_pos (by omega)]
      · rw [hc _ (by omega) (by omega), newCells_at _ _ _ _ _ (by omega), recvZero_at, if_neg (by omega), if_pos (by omega)]
  · exact ((there_new X _ _ 136 (newCells_size _ _ _ _)).setCell _ _).setCell _ _
  · show ((0 : Nat) : Int) ≤ co; omega
  · exact World.ownsRow_nil _ _ _ _
  · intro g hg; simp [newRS, Value.ownBlock] at hg
  · intro m hm; simp [newRS] at hm
  · intro m hm; simp [newRS] at hm
  · intro m hm; simp [newRS] at hm

set_option maxHeartbeats 4000000 in
set_option maxRecDepth 100000 in
theorem new_any (st sp de co a b : Int) (w : World) (hok : okC st sp de co = true) :
    Calls Tryd.prog 19 #[.agg #[.int .i64 st, .int .i64 sp, .int .i64 de, .int .i64 co], .agg #[.int .u64 a, .int .u64 b]] w fun e w' => ∃ R, e = .returned (.pointer (some ⟨R, 0, none⟩)) ∧ w.heap.size ≤ R ∧
      Recv w' (fun g => w.heap.size ≤ g ∧ g < w'.heap.size) R (newRS st sp de co a b) ∧ Below w.heap.size w w' := by
  have hz := recvZero_run
  have hzs := recvZero_size
  go_enter Tryd.func19, Tryd.ntmps19
  go_wp2_with (fail)
  have C := pcheck_any st sp de co ((w.alloc (.cells #[.int .i64 st, .int .i64 sp, .int .i64 de, .int .i64 co] 23)).alloc (.cells #[.int .u64 a, .int .u64 b] 34))
  rw [show errC st sp de co = 0 from by unfold errC; rw [if_pos hok]] at C
  refine C.mono ?_
  rintro e w1 ⟨rfl, hb1⟩
  have c0 : w1.cell? ⟨w.heap.size, 0, none⟩ = some (.int .i64 st) := by rw [hb1.cell (by simp; omega)]; simp
  have c1 : w1.cell? ⟨w.heap.size, 1, none⟩ = some (.int .i64 sp) := by rw [hb1.cell (by simp; omega)]; simp
  have c2 : w1.cell? ⟨w.heap.size, 2, none⟩ = some (.int .i64 de) := by rw [hb1.cell (by simp; omega)]; simp
  have c3 : w1.cell? ⟨w.heap.size, 3, none⟩ = some (.int .i64 co) := by rw [hb1.cell (by simp; omega)]; simp
  have k0 : w1.cell? ⟨w.heap.size + 1, 0, none⟩ = some (.int .u64 a) := by rw [hb1.cell (by simp)]; simp
  have k1 : w1.cell? ⟨w.heap.size + 1, 1, none⟩ = some (.int .u64 b) := by rw [hb1.cell (by simp)]; simp
  clear C
  have hb2 : Below w.heap.size w w1 := (((Below.refl _ _).alloc (Nat.le_refl _) _).alloc (by simp) _).trans (hb1.mono (by simp; omega))
  have hs1 : w.heap.size + 2 ≤ w1.heap.size := by have := hb1.size; simpa using this
  have hne : w.heap.size + 1 ≠ w1.heap.size := by omega
  have hne2 : w1.heap.size ≠ w.heap.size + 1 := by omega
  clear hb1
  have e5 : ((recvZero.setIfInBounds 0 (.int .i64 st)).setIfInBounds 1 (.int .i64 sp) |>.setIfInBounds 2 (.int .i64 de) |>.setIfInBounds 3 (.int .i64 co))[5]? = some (.int .u64 0) := (newCells_at st sp de co 5 (by omega)).trans (by rw [recvZero_at]; rfl)
  have e6 : ((recvZero.setIfInBounds 0 (.int .i64 st)).setIfInBounds 1 (.int .i64 sp) |>.setIfInBounds 2 (.int .i64 de) |>.setIfInBounds 3 (.int .i64 co))[6]? = some (.int .u64 0) := (newCells_at st sp de co 6 (by omega)).trans (by rw [recvZero_at]; rfl)
  have R := recv_new w1 st sp de co a b hok w.heap.size hb2.size
  go_upto_region 4 with (fail)
  have hbW : Below w.heap.size w (w1.alloc (.cells (newCells st sp de co) 64)) := hb2.alloc hb2.size _
  obtain ⟨W, hW⟩ : ∃ W, w1.alloc (.cells (newCells st sp de co) 64) = W := ⟨_, rfl⟩
  have a0 : W.cell? ⟨w.heap.size + 1, 0, none⟩ = some (.int .u64 a) := by rw [← hW, World.cell?_alloc_lt _ _ _ (by simp; omega)]; exact k0
  have a1 : W.cell? ⟨w.heap.size + 1, 1, none⟩ = some (.int .u64 b) := by rw [← hW, World.cell?_alloc_lt _ _ _ (by simp; omega)]; exact k1
  have a2 : W.cell? ⟨w1.heap.size, 5, none⟩ = some (.int .u64 0) := by rw [← hW, cell_new]; exact e5
  have a3 : W.cell? ⟨w1.heap.size, 6, none⟩ = some (.int .u64 0) := by rw [← hW, cell_new]; exact e6
  have a4 : W.frozen? ⟨w1.heap.size, 5, none⟩ = false := by rw [← hW]; exact frozen_of_row _ _ _ (newCells st sp de co) 64 (by show (w1.heap.push _)[w1.heap.size]? = _; simp)
  have a5 : W.frozen? ⟨w1.heap.size, 6, none⟩ = false := by rw [← hW]; exact frozen_of_row _ _ _ (newCells st sp de co) 64 (by show (w1.heap.push _)[w1.heap.size]? = _; simp)
  have hWs : W.heap.size = w1.heap.size + 1 := by rw [← hW]; simp
  rw [hW] at R hbW
  have HR := Lib.hid R
  have HBW := Lib.hid hbW
  have HWS := Lib.hid hWs
  unfold newCells at hW
  rw [hW]
  clear R hbW e5 e6 hW c0 c1 c2 c3 k0 k1 hzs hz hWs
  go_region
  all_goals
    go_wp2_with (fail)
    go_ret
    refine ⟨_, rfl, hb2.size, ?_, ?_⟩
    · refine (HR.out.same (w' := (W.drew.setCell ⟨w1.heap.size, 5, none⟩ (.int .u64 a)).setCell ⟨w1.heap.size, 6, none⟩ (.int .u64 b)) (fun _ _ => rfl) (Nat.le_refl _)).wider (fun g hg => ⟨hg.1, ?_⟩) (fun g hg => hg.2)
      simp [World.setCell, HWS.out]; omega
    · exact (HBW.out.drew.setCell hb2.size _).setCell hb2.size _

/-! ### Known, Held -/
theorem known_any (R : Nat) (own : Nat → Prop) (s : RS) (w : World) (h : Recv w own R s) :
    Calls Tryd.prog 23 #[.pointer (some ⟨R, 0, none⟩)] w fun e w' => e = .returned (.int .i64 (s.kn : Int)) ∧ w = w' := by
  have c4 := h.c4
  go_enter Tryd.func23, Tryd.ntmps23
  go_wp2_with (fail)
  go_ret
  exact ⟨rfl, rfl⟩
theorem row_form {w : World} {base : Nat} {e : TypeId} {size n : Nat} {v : Value} {xs : List Value} (h : w.ownsRow base e size v n xs) : ∃ (p : Option Addr) (c : Nat), v = .slice p n c ∧ n ≤ c ∧ c ≤ 9223372036854775807 := by
  rcases h.2 with ⟨rfl, rfl⟩ | ⟨g, cap, cur, rfl, hb, hh, hn, hc, _⟩
  · exact ⟨none, 0, rfl, Nat.le_refl _, by omega⟩
  · exact ⟨_, cap, rfl, hn, by unfold maxLen at hc; exact hc⟩
theorem held_any (R : Nat) (own : Nat → Prop) (s : RS) (w : World) (h : Recv w own R s) :
    Calls Tryd.prog 22 #[.pointer (some ⟨R, 0, none⟩)] w fun e w' => e = .returned (.int .i64 (s.l.length : Int)) ∧ w = w' := by
  have c5 := h.c5
  obtain ⟨p, c, hv, _, _⟩ := row_form h.row
  rw [hv] at c5
  go_enter Tryd.func22, Tryd.ntmps22
  go_wp2_with (fail)
  go_ret
  exact ⟨rfl, rfl⟩
end Go.Proofs.YtmhgoknbmbicmaaDoor
