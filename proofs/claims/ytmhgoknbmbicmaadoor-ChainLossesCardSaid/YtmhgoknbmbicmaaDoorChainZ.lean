/- What the loops of ChainLosses keep. -/
import Derived.Test.YtmhgoknbmbicmaaDoorChainY
import Derived.Deep.Slices
namespace Go.Proofs.YtmhgoknbmbicmaaDoor
open Go.RowKit
set_option linter.unusedVariables false
set_option linter.unusedSimpArgs false

noncomputable def rightT (K : Nat → Int × Int) (t : Int × List Int × Int) : Bool := rightTag (K t.1.toNat) t.2.1 == t.2.2
noncomputable def cnt (K : Nat → Int × Int) (L : List (Int × List Int × Int)) (j : Int) : Nat := (L.filter fun t => decide (t.1 = j) && rightT K t).length
theorem cnt_le (K : Nat → Int × Int) (L : List (Int × List Int × Int)) (j : Int) : cnt K L j ≤ L.length := List.length_filter_le _ _

theorem out_one (K K' : Nat → Int × Int) (l : List Msg) (i : Nat) (hi : 1 ≤ i) (hK : K' i = K i) :
    outM K' (i : Int) (keepM ((i : Int) - 1) l) = l.filter fun m => decide (m.iv = (i : Int)) && rightT K (msgT m) := by
  unfold outM keepM
  rw [List.filter_filter]
  refine List.filter_congr fun m hm => ?_
  by_cases h : m.iv = (i : Int)
  · rw [decide_eq_true (show m.iv ≤ (i : Int) by omega), decide_eq_true (show (i : Int) - 1 < m.iv by omega), decide_eq_true h]
    simp only [Bool.true_and, Bool.and_true, rightT, msgT]
    rw [h, Int.toNat_natCast, hK]
  · rw [decide_eq_false h]
    by_cases h2 : m.iv ≤ (i : Int)
    · rw [decide_eq_false (show ¬ (i : Int) - 1 < m.iv by omega)]; simp
    · rw [decide_eq_false h2]; simp
theorem out_one_len (K K' : Nat → Int × Int) (l : List Msg) (i : Nat) (hi : 1 ≤ i) (hK : K' i = K i) : (outM K' (i : Int) (keepM ((i : Int) - 1) l)).length = cnt K (l.map msgT) i := by
  rw [out_one K K' l i hi hK]
  unfold cnt
  rw [List.filter_map, List.length_map]
  rfl
theorem keep_keep (l : List Msg) (i : Int) : keepM i (keepM (i - 1) l) = keepM i l := by
  unfold keepM
  rw [List.filter_filter]
  refine List.filter_congr fun m hm => ?_
  by_cases h : i < m.iv
  · rw [decide_eq_true h, decide_eq_true (show i - 1 < m.iv by omega)]; rfl
  · rw [decide_eq_false h]; rfl
theorem out_all (K K' : Nat → Int × Int) (l : List Msg) (hl : ∀ m ∈ l, 1 ≤ m.iv ∧ m.iv ≤ 10) (hK : ∀ i : Nat, 1 ≤ i → i ≤ 10 → K' i = K i) : outM K' 10 l = l.filter fun m => rightT K (msgT m) := by
  unfold outM
  refine List.filter_congr fun m hm => ?_
  obtain ⟨h1, h2⟩ := hl m hm
  rw [decide_eq_true h2, hK m.iv.toNat (by omega) (by omega)]
  rfl
theorem out_cnt (K : Nat → Int × Int) (l : List Msg) (j : Int) : ((l.filter fun m => rightT K (msgT m)).filter fun m => decide (m.iv = j)).length = cnt K (l.map msgT) j := by
  unfold cnt
  rw [List.filter_map, List.length_map, List.filter_filter]
  rfl

/-- an array of eleven numbers -/
structure ARel (O : Nat) (f : Nat → Int) (wr : World) : Prop where
  th : There wr O 11
  at' : ∀ j, j < 11 → wr.cell? ⟨O, j, none⟩ = some (.int .i64 (f j))
  lt : O < wr.heap.size
theorem ARel.same {O : Nat} {f : Nat → Int} {wr wr' : World} (h : ARel O f wr) (hb : wr'.heap[O]? = wr.heap[O]?) (hs : wr.heap.size ≤ wr'.heap.size) : ARel O f wr' := by
  have c : ∀ o, wr'.cell? ⟨O, o, none⟩ = wr.cell? ⟨O, o, none⟩ := fun o => World.cell?_of_block hb
  refine ⟨fun j hj => ?_, fun j hj => (c _).trans (h.at' j hj), Nat.lt_of_lt_of_le h.lt hs⟩
  obtain ⟨⟨v, hv⟩, hf⟩ := h.th j hj
  exact ⟨⟨v, (c _).trans hv⟩, (World.frozen?_of_block hb).trans hf⟩
theorem ARel.set {O : Nat} {f : Nat → Int} {wr : World} (h : ARel O f wr) (i : Nat) (hi : i < 11) (v : Int) : ARel O (fun j => if j = i then v else f j) (wr.setCell ⟨O, i, none⟩ (.int .i64 v)) := by
  refine ⟨h.th.setCell _ _, fun j hj => ?_, by have := h.lt; simpa [World.setCell] using this⟩
  by_cases e : j = i
  · subst e; rw [if_pos rfl]; exact World.cell?_setCell_same _ _ _ (h.at' j hj)
  · rw [if_neg e, World.cell?_setCell_other _ _ _ _ (by simp <;> omega)]; exact h.at' j hj
theorem ARel.congr {O : Nat} {f f' : Nat → Int} {wr : World} (h : ARel O f wr) (e : ∀ j, j < 11 → f j = f' j) : ARel O f' wr :=
  ⟨h.th, fun j hj => by rw [← e j hj]; exact h.at' j hj, h.lt⟩
theorem arel_new (X : World) (t : TypeId) : ARel X.heap.size (fun _ => 0) (X.alloc (.cells #[.int .i64 0, .int .i64 0, .int .i64 0, .int .i64 0, .int .i64 0, .int .i64 0, .int .i64 0, .int .i64 0, .int .i64 0, .int .i64 0, .int .i64 0] t)) := by
  refine ⟨there_new X _ t 11 rfl, fun j hj => ?_, by simp⟩
  rcases (show j = 0 ∨ j = 1 ∨ j = 2 ∨ j = 3 ∨ j = 4 ∨ j = 5 ∨ j = 6 ∨ j = 7 ∨ j = 8 ∨ j = 9 ∨ j = 10 by omega) with rfl | rfl | rfl | rfl | rfl | rfl | rfl | rfl | rfl | rfl | rfl <;> simp
theorem under11 : Tryd.prog.underlying 53 = some (.array 11 3) := by kernel_rfl
theorem infoI64 : ∃ i, Tryd.prog.info? 3 = some i := by
  have : (Tryd.prog.info? 3).isSome = true := by kernel_rfl
  exact Option.isSome_iff_exists.mp this
theorem cellsI64 : Tryd.prog.cellsOf 3 = 1 := by kernel_rfl
def zero11 : Array Value := #[.int .i64 0, .int .i64 0, .int .i64 0, .int .i64 0, .int .i64 0, .int .i64 0, .int .i64 0, .int .i64 0, .int .i64 0, .int .i64 0, .int .i64 0]
theorem arr_eqm (m : Nat) (w : World) : Sem.run Tryd.prog (Op.equalIn (m + 2) 53 (.agg #[.int .i64 0, .int .i64 0, .int .i64 0, .int .i64 0, .int .i64 0, .int .i64 0, .int .i64 0, .int .i64 0, .int .i64 0, .int .i64 0, .int .i64 0]) (.agg #[.int .i64 0, .int .i64 0, .int .i64 0, .int .i64 0, .int .i64 0, .int .i64 0, .int .i64 0, .int .i64 0, .int .i64 0, .int .i64 0, .int .i64 0])) w = .ok true w := by
  obtain ⟨i, hi⟩ := infoI64
  rw [run_equalIn_array w (m + 1) _ _ under11 hi]
  simp [Op.eqItems, go_sem, List.range, List.range.loop, cellsI64]
@[go_sem] theorem arr_eq (w : World) : Sem.run Tryd.prog (Op.equalIn 10000 53 (.agg #[.int .i64 0, .int .i64 0, .int .i64 0, .int .i64 0, .int .i64 0, .int .i64 0, .int .i64 0, .int .i64 0, .int .i64 0, .int .i64 0, .int .i64 0]) (.agg #[.int .i64 0, .int .i64 0, .int .i64 0, .int .i64 0, .int .i64 0, .int .i64 0, .int .i64 0, .int .i64 0, .int .i64 0, .int .i64 0, .int .i64 0])) w = .ok true w := arr_eqm 9998 w
theorem keeps_set (O i : Nat) (v : Value) (w : World) : Keeps (fun q => q = O) w (w.setCell ⟨O, i, none⟩ v) :=
  ⟨rfl, rfl, rfl, by simp [World.setCell], fun k hk hn => Below.heap_setCell _ _ _ _ hn⟩

/-- what the first loop keeps -/
structure L1 (w : World) (B g RA RB : Nat) (K KZ : Nat → Int × Int) (ownA ownB : Nat → Prop) (hvA hvB : Value) (lA lB : List Msg) (wr : World) : Prop where
  aw : AwSt w B g 11 K wr
  ra : Recv wr ownA RA ⟨1000, 100, 2, 10, 0, KZ, hvA, lA⟩
  rb : Recv wr ownB RB ⟨1000, 100, 2, 10, 0, KZ, hvB, lB⟩
  oA : ∀ q, ownA q → B ≤ q
  oB : ∀ q, ownB q → B ≤ q
  dis : ∀ q, ownA q → ¬ ownB q
  same : lA.map msgT = lB.map msgT
  body : ∀ m ∈ lA, ∃ y, m.b = [m.iv, y]
section
variable {w W W1 W2 : World} {B g RA RB : Nat} {K KZ : Nat → Int × Int} {ownA ownB : Nat → Prop} {hvA hvB hvA' hvB' : Value} {lA lB : List Msg}
theorem L1.later (h : L1 w B g RA RB K KZ ownA ownB hvA hvB lA lB W) (hb : Below W.heap.size W W1) : L1 w B g RA RB K KZ ownA ownB hvA hvB lA lB W1 :=
  { h with aw := h.aw.step hb, ra := h.ra.below hb (Nat.le_refl _), rb := h.rb.below hb (Nat.le_refl _) }
theorem L1.hear2 {p1 p2 : Option Addr} {c1 c2 : Nat} {i T y : Int} {b : List Int} (h : L1 w B g RA RB K KZ ownA ownB hvA hvB lA lB W) (hb : b = [i, y])
    (hk1 : Keeps ownA W W1) (hr1 : Recv W1 (grew ownA W W1) RA ⟨1000, 100, 2, 10, 0, KZ, hvA', lA ++ [⟨i, p1, c1, b, T⟩]⟩)
    (hk2 : Keeps ownB W1 W2) (hr2 : Recv W2 (grew ownB W1 W2) RB ⟨1000, 100, 2, 10, 0, KZ, hvB', lB ++ [⟨i, p2, c2, b, T⟩]⟩) :
    L1 w B g RA RB K KZ (grew ownA W W1) (grew ownB W1 W2) hvA' hvB' (lA ++ [⟨i, p1, c1, b, T⟩]) (lB ++ [⟨i, p2, c2, b, T⟩]) W2 where
  aw := (h.aw.keeps hk1 h.oA).keeps hk2 h.oB
  ra := hr1.keeps hk2 (fun q hq hn => by
    rcases hq with hq | hq
    · exact h.dis q hq hn
    · have := h.rb.low q hn; omega)
  rb := hr2
  oA := fun q hq => by
    rcases hq with hq | hq
    · exact h.oA q hq
    · exact Nat.le_trans h.aw.size hq.1
  oB := fun q hq => by
    rcases hq with hq | hq
    · exact h.oB q hq
    · exact Nat.le_trans (Nat.le_trans h.aw.size hk1.size) hq.1
  dis := fun q hq hn => by
    rcases hq with hq | hq <;> rcases hn with hn | hn
    · exact h.dis q hq hn
    · have h1 := h.ra.low q hq; have := hk1.size; omega
    · have h1 := h.rb.low q hn; omega
    · omega
  same := by rw [List.map_append, List.map_append, h.same]; rfl
  body := fun m hm => by
    rcases List.mem_append.1 hm with h1 | h1
    · exact h.body m h1
    · obtain rfl : m = ⟨i, p1, c1, b, T⟩ := by simpa using h1
      exact ⟨y, hb⟩
end

/-- what the second loop keeps: the keys up to i - 1 are disclosed -/
structure L2 (w : World) (B g RA RB O : Nat) (K KZ KA : Nat → Int × Int) (ownA ownB : Nat → Prop) (hvA hvB : Value) (lA lB : List Msg) (i : Nat) (f : Nat → Int) (wr : World) : Prop where
  aw : AwSt w B g 11 K wr
  ra : Recv wr ownA RA ⟨1000, 100, 2, 10, i - 1, KA, hvA, keepM ((i : Int) - 1) lA⟩
  hKA : KA (i - 1) = K (i - 1)
  rb : Recv wr ownB RB ⟨1000, 100, 2, 10, 0, KZ, hvB, lB⟩
  oA : ∀ q, ownA q → B ≤ q
  oB : ∀ q, ownB q → B ≤ q
  dis : ∀ q, ownA q → ¬ ownB q
  arr : ARel O f wr
  nA : ¬ ownA O
  nB : ¬ ownB O
  BO : B ≤ O
end Go.Proofs.YtmhgoknbmbicmaaDoor
