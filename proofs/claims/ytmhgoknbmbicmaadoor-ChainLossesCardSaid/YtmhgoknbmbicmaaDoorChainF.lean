/- What prove does. -/
import Derived.Test.YtmhgoknbmbicmaaDoorChainE
import Derived.BigQuiet
import Derived.Deep.QuietTactic
namespace Go.Proofs.YtmhgoknbmbicmaaDoor
open Go.RowKit
set_option linter.unusedVariables false
set_option linter.unusedSimpArgs false

def keyCells (K : Nat → Int × Int) : Nat → List Value
  | 0 => []
  | n + 1 => keyCells K n ++ [.int .u64 (K n).1, .int .u64 (K n).2]
theorem keyCells_len (K : Nat → Int × Int) (n : Nat) : (keyCells K n).length = n * 2 := by
  induction n with
  | zero => rfl
  | succ n ih => simp [keyCells, ih]; omega
theorem keyCells_at (K : Nat → Int × Int) (n i : Nat) (h : i < n) : (keyCells K n)[i * 2]? = some (.int .u64 (K i).1) ∧ (keyCells K n)[i * 2 + 1]? = some (.int .u64 (K i).2) := by
  induction n with
  | zero => omega
  | succ n ih =>
    have hl := keyCells_len K n
    by_cases hn : i = n
    · subst hn
      simp only [keyCells]
      rw [List.getElem?_append_right (by omega), List.getElem?_append_right (by omega), show i * 2 - (keyCells K i).length = 0 by omega, show i * 2 + 1 - (keyCells K i).length = 1 by omega]
      exact ⟨rfl, rfl⟩
    · obtain ⟨h0, h1⟩ := ih (by omega)
      simp only [keyCells]
      rw [List.getElem?_append_left (by omega), List.getElem?_append_left (by omega)]
      exact ⟨h0, h1⟩
theorem keyCells_one (K : Nat → Int × Int) (n : Nat) : ∀ v ∈ keyCells K n, v.oneCell' = true := by
  induction n with
  | zero => intro v hv; simp [keyCells] at hv
  | succ n ih =>
    intro v hv
    simp only [keyCells, List.mem_append] at hv
    rcases hv with hv | hv
    · exact ih v hv
    · simp at hv; rcases hv with rfl | rfl <;> rfl
/-- keys in a row from offset o of block g on -/
def KAt (w : World) (g o : Nat) (K : Nat → Int × Int) (n : Nat) : Prop := ∀ i, i < n → w.cell? ⟨g, o + i * 2, none⟩ = some (.int .u64 (K i).1) ∧ w.cell? ⟨g, o + i * 2 + 1, none⟩ = some (.int .u64 (K i).2)
theorem KAt.range {w : World} {g o n : Nat} {K : Nat → Int × Int} (h : KAt w g o K n) : w.rangeAt g o (keyCells K n) := by
  intro j v hv
  have hj : j < n * 2 := by have := (List.getElem?_eq_some_iff.1 hv).1; rwa [keyCells_len] at this
  obtain ⟨q0, q1⟩ := h (j / 2) (by omega)
  obtain ⟨g0, g1⟩ := keyCells_at K n (j / 2) (by omega)
  rcases (show j = j / 2 * 2 ∨ j = j / 2 * 2 + 1 by omega) with hj2 | hj2
  · rw [← hj2] at g0 q0
    rw [q0, ← g0, hv]
  · rw [← hj2] at g1
    rw [Nat.add_assoc, ← hj2] at q1
    rw [q1, ← g1, hv]
theorem KAt.ofRange {w : World} {g o n : Nat} {K : Nat → Int × Int} (h : w.rangeAt g o (keyCells K n)) : KAt w g o K n := by
  intro i hi
  obtain ⟨g0, g1⟩ := keyCells_at K n i hi
  exact ⟨h _ _ g0, by rw [Nat.add_assoc]; exact h _ _ g1⟩
theorem There.there {w : World} {g n : Nat} (h : There w g n) (o m : Nat) (hm : o + m ≤ n) : w.there g o m := by
  intro j hj
  obtain ⟨⟨v, hv⟩, hf⟩ := h (o + j) (by omega)
  exact ⟨by rw [hv]; rfl, hf⟩
theorem There.below' {w w' : World} {g n B : Nat} (h : There w g n) (hb : Below B w w') (hg : g < B) : There w' g n := by
  intro j hj
  obtain ⟨⟨v, hv⟩, hf⟩ := h j hj
  exact ⟨⟨v, by rw [hb.cell (by exact hg)]; exact hv⟩, by rw [hb.frozen (by exact hg)]; exact hf⟩
theorem KAt.below {w w' : World} {g o n B : Nat} {K : Nat → Int × Int} (h : KAt w g o K n) (hb : Below B w w') (hg : g < B) : KAt w' g o K n := fun i hi =>
  ⟨by rw [hb.cell (by exact hg)]; exact (h i hi).1, by rw [hb.cell (by exact hg)]; exact (h i hi).2⟩
theorem Below.setCells {B : Nat} {a w : World} (h : Below B a w) {g : Nat} (hg : B ≤ g) : ∀ (vs : List Value) (o : Nat), Below B a (w.setCells g o vs)
  | [], o => h
  | v :: r, o => by
    rw [World.setCells]
    exact Below.setCells (h.setCell hg v) hg r (o + 1)
theorem There.setCells {w : World} {g' n : Nat} (h : There w g' n) (g : Nat) : ∀ (vs : List Value) (o : Nat), There (w.setCells g o vs) g' n
  | [], o => h
  | v :: r, o => by
    rw [World.setCells]
    exact There.setCells (h.setCell _ _) g r (o + 1)

/-- the keys behind a disclosed one -/
noncomputable def putK (kn i : Nat) (key : Int × Int) (K : Nat → Int × Int) : Nat → Int × Int := fun j => if kn < j ∧ j ≤ i then downN (i - j) key else K j

def arrZero : Array Value := Array.replicate 130 (Value.int .u64 0)
theorem arrZero_run (w : World) : Sem.run Tryd.prog (zeroValue 61) w = .ok (.agg arrZero) w := by
  have h : (Tryd.prog.info? 61).map (fun i => (i.zero, i.size, i.bytes)) = some (some (.agg arrZero), 130, 1040) := by kernel_rfl
  obtain ⟨i0, hi, hz0, hz1, hz2⟩ := info_parts h
  simp [zeroValue, typeInfo, hi, hz0]
theorem arrUnder : Tryd.prog.underlying 61 = some (.array 65 34) := by kernel_rfl
theorem arrInfo : (Tryd.prog.info? 61).map (·.size) = some 130 := by kernel_rfl

/-- what holds ahead of each round of prove's loop -/
def ProveRel (w : World) (F Z i : Nat) (key : Int × Int) (K : Nat → Int × Int) (m : Nat) (wr : World) : Prop :=
  KAt wr F 0 (putK m i key K) 65 ∧ There wr F 130 ∧ F < wr.heap.size ∧ Z < wr.heap.size ∧ (wr.cell? ⟨Z, 0, none⟩ = some (.int .u64 (downN (i - m) key).1) ∧ wr.cell? ⟨Z, 1, none⟩ = some (.int .u64 (downN (i - m) key).2) ∧ wr.frozen? ⟨Z, 0, none⟩ = false ∧ wr.frozen? ⟨Z, 1, none⟩ = false) ∧ Below w.heap.size w wr
theorem putK_start (i : Nat) (key : Int × Int) (K : Nat → Int × Int) : putK i i key K = K := by
  funext j
  unfold putK
  rw [if_neg (by omega)]
theorem putK_other {m i j : Nat} {key : Int × Int} {K : Nat → Int × Int} (h : j ≠ m + 1) : putK m i key K j = putK (m + 1) i key K j := by
  unfold putK
  by_cases h1 : m < j ∧ j ≤ i
  · rw [if_pos h1, if_pos (by omega)]
  · rw [if_neg h1, if_neg (by omega)]
theorem putK_same {m i : Nat} {key : Int × Int} {K : Nat → Int × Int} (h : m + 1 ≤ i) : putK m i key K (m + 1) = downN (i - (m + 1)) key := by
  unfold putK
  rw [if_pos (by omega)]
theorem KAt.put {w : World} {F m i : Nat} {key : Int × Int} {K : Nat → Int × Int} {a b : Int} (h : KAt w F 0 (putK (m + 1) i key K) 65) (hm : m + 1 ≤ i) (hi : i < 65) (ha : a = (downN (i - (m + 1)) key).1) (hb : b = (downN (i - (m + 1)) key).2) :
    KAt ((w.setCell ⟨F, (m + 1) * 2, none⟩ (.int .u64 a)).setCell ⟨F, (m + 1) * 2 + 1, none⟩ (.int .u64 b)) F 0 (putK m i key K) 65 := by
  intro j hj
  obtain ⟨q0, q1⟩ := h j hj
  rw [Nat.zero_add] at q0 q1 ⊢
  by_cases hjm : j = m + 1
  · subst hjm
    rw [putK_same hm]
    refine ⟨?_, ?_⟩
    · rw [World.cell?_setCell_other _ _ _ _ (by simp), World.cell?_setCell_same _ _ _ q0, ha]
    · rw [World.cell?_setCell_same (u := .int .u64 (putK (m + 1) i key K (m + 1)).2) _ _ _ (by rw [World.cell?_setCell_other _ _ _ _ (by simp)]; exact q1), hb]
  · rw [putK_other hjm]
    refine ⟨?_, ?_⟩
    · rw [World.cell?_setCell_other _ _ _ _ (by simp <;> omega), World.cell?_setCell_other _ _ _ _ (by simp <;> omega)]; exact q0
    · rw [World.cell?_setCell_other _ _ _ _ (by simp <;> omega), World.cell?_setCell_other _ _ _ _ (by simp <;> omega)]; exact q1
theorem KAt.far {w : World} {F Z o : Nat} {K : Nat → Int × Int} {v : Value} (h : KAt w F 0 K 65) (hne : Z ≠ F) : KAt (w.setCell ⟨Z, o, none⟩ v) F 0 K 65 := fun i hi =>
  ⟨by rw [World.cell?_setCell_other _ _ _ _ (by simp [hne])]; exact (h i hi).1, by rw [World.cell?_setCell_other _ _ _ _ (by simp [hne])]; exact (h i hi).2⟩


theorem heap_setCells (g : Nat) : ∀ (vs : List Value) (o : Nat) (w : World) (k : Nat), k ≠ g → (w.setCells g o vs).heap[k]? = w.heap[k]?
  | [], o, w, k, _ => rfl
  | v :: r, o, w, k, h => by
    rw [World.setCells, heap_setCells g r (o + 1) _ k h]
    exact Below.heap_setCell _ _ _ _ h
theorem size_setCells (g : Nat) : ∀ (vs : List Value) (o : Nat) (w : World), (w.setCells g o vs).heap.size = w.heap.size
  | [], o, w => rfl
  | v :: r, o, w => by
    rw [World.setCells, size_setCells g r (o + 1)]
    simp [World.setCell]
theorem outside_setCells (g : Nat) : ∀ (vs : List Value) (o : Nat) (w : World), (w.setCells g o vs).os = w.os ∧ (w.setCells g o vs).tape = w.tape ∧ (w.setCells g o vs).output = w.output
  | [], o, w => ⟨rfl, rfl, rfl⟩
  | v :: r, o, w => by
    rw [World.setCells]
    exact outside_setCells g r (o + 1) _

/-- the receiver with new keys -/
theorem recv_prove {w wq : World} {own : Nat → Prop} {R : Nat} {s : RS} (h : Recv w own R s) (hb : Below w.heap.size w wq) (i : Nat) (K' : Nat → Int × Int) (hi : (i : Int) ≤ s.co) (cs : List Value) (hlen : cs.length = 130) (hcs : ∀ w : World, w.rangeAt R 5 cs → KAt w R 5 K' 65) :
    Recv ((wq.setCells R 5 cs).setCell ⟨R, 4, none⟩ (.int .i64 (i : Int))) own R { s with kn := i, K := K' } ∧ Keeps own w ((wq.setCells R 5 cs).setCell ⟨R, 4, none⟩ (.int .i64 (i : Int))) := by
  have hRw := h.low R h.ownR
  have hthq : There wq R 136 := h.th.below' hb hRw
  have hsz : ((wq.setCells R 5 cs).setCell ⟨R, 4, none⟩ (.int .i64 (i : Int))).heap.size = wq.heap.size := by
    show (Array.modify _ _ _).size = _
    rw [Array.size_modify, size_setCells]
  have hheap : ∀ k, k ≠ R → ((wq.setCells R 5 cs).setCell ⟨R, 4, none⟩ (.int .i64 (i : Int))).heap[k]? = wq.heap[k]? := fun k hk => by
    rw [Below.heap_setCell _ _ _ _ (by exact hk), heap_setCells _ _ _ _ _ hk]
  have hout : ∀ o, o < 4 ∨ 135 ≤ o → ((wq.setCells R 5 cs).setCell ⟨R, 4, none⟩ (.int .i64 (i : Int))).cell? ⟨R, o, none⟩ = w.cell? ⟨R, o, none⟩ := fun o ho => by
    rw [World.cell?_setCell_other _ _ _ _ (by simp <;> omega), World.cell?_setCells_out R _ 5 _ ⟨R, o, none⟩ (fun _ _ => by rw [hlen]; show o < 5 ∨ _ ≤ o; omega), hb.cell (by exact hRw)]
  have hr := World.rangeAt_setCells_same wq R 5 cs (by rw [hlen]; exact hthq.there 5 130 (by omega))
  have hk := hcs _ hr
  have hold : ∀ k, k < w.heap.size → k ≠ R → ((wq.setCells R 5 cs).setCell ⟨R, 4, none⟩ (.int .i64 (i : Int))).heap[k]? = w.heap[k]? := fun k h1 h2 => (hheap k h2).trans (hb.block k h1)
  obtain ⟨⟨v4, hv4⟩, hf4⟩ := hthq 4 (by omega)
  refine ⟨⟨h.ok, ?_, h.ownR, (hout 0 (by omega)).trans h.c0, (hout 1 (by omega)).trans h.c1, (hout 2 (by omega)).trans h.c2, (hout 3 (by omega)).trans h.c3, ?_, (hout 135 (by omega)).trans h.c5, ?_, (hthq.setCells _ _ _).setCell _ _, hi, ?_, h.far, h.ivs, ?_, h.apart⟩, ⟨?_, ?_, ?_, ?_, ?_⟩⟩
  · intro g hg; rw [hsz]; exact Nat.lt_of_lt_of_le (h.low g hg) hb.size
  · exact World.cell?_setCell_same (u := v4) _ _ _ (by rw [World.cell?_setCells_out R _ 5 _ ⟨R, 4, none⟩ (fun _ _ => by left; show 4 < 5; omega)]; exact hv4)
  · intro j hj
    obtain ⟨q0, q1⟩ := hk j hj
    exact ⟨by rw [World.cell?_setCell_other _ _ _ _ (by simp <;> omega)]; exact q0, by rw [World.cell?_setCell_other _ _ _ _ (by simp <;> omega)]; exact q1⟩
  · refine ⟨h.row.1, ?_⟩
    rcases h.row.2 with hn | ⟨g, cap, cur, hv, hg, hh, rest⟩
    · exact .inl hn
    · obtain ⟨f1, f2⟩ := h.far g (by rw [hv]; rfl)
      exact .inr ⟨g, cap, cur, hv, hg, (hold g (h.low g f1) f2).trans hh, rest⟩
  · intro m hm
    obtain ⟨b1, b2, b3, b4⟩ := h.body m hm
    refine ⟨b1, b2, b3, ?_⟩
    intro j hj
    obtain ⟨a, e1, e2, e3⟩ := b4 j hj
    obtain ⟨f1, f2, f3⟩ := h.apart m hm a e1
    refine ⟨a, e1, by rw [hsz]; exact Nat.lt_of_lt_of_le e2 hb.size, ?_⟩
    rw [World.cell?_of_block (w := w) (a := a.add j) (by rw [show (a.add j).block = a.block by unfold Addr.add; split <;> rfl]; exact hold _ e2 f2)]
    exact e3
  · exact (outside_setCells R _ 5 wq).1.trans hb.os
  · exact (outside_setCells R _ 5 wq).2.1.trans hb.tape
  · exact (outside_setCells R _ 5 wq).2.2.trans hb.output
  · rw [hsz]; exact hb.size
  · intro k hk1 hk2
    exact hold k hk1 (fun e => hk2 (by rw [e]; exact h.ownR))

set_option maxHeartbeats 4000000 in
theorem prove_any (R : Nat) (own : Nat → Prop) (s : RS) (i : Nat) (a b : Int) (w : World) (h : Recv w own R s) (hi : s.kn < i) (hco : (i : Int) ≤ s.co) :
    Calls Tryd.prog 35 #[.pointer (some ⟨R, 0, none⟩), .int .i64 (i : Int), .agg #[.int .u64 a, .int .u64 b]] w fun e w' =>
      (downN (i - s.kn) (a, b) = s.K s.kn → e = .returned (.bool true) ∧ Recv w' own R { s with kn := i, K := putK s.kn i (a, b) s.K } ∧ Keeps own w w') ∧
      (downN (i - s.kn) (a, b) ≠ s.K s.kn → e = .returned (.bool false) ∧ Below w.heap.size w w') := by
  have hRw := h.low R h.ownR
  have hi64 : i ≤ 64 := by
    have q1 := (okC_iff.1 h.ok).2.2.2.2.2.2.2
    omega
  have HR := Lib.hid h
  obtain ⟨st, sp, de, co, kn, K, hv, l⟩ := s
  obtain ⟨hok, -, -, -, -, -, -, c4, -, hkeys, hth, hkco, -, -, -, -, -⟩ := id h
  simp only at c4 hi hco hkeys
  have HTH := Lib.hid hth
  have hKA : KAt w R 5 K 65 := hkeys
  have hz := arrZero_run
  have hzs : arrZero.size = 130 := by decide +kernel
  clear h hkeys hth
  obtain ⟨W0, hW0⟩ : ∃ W0, W0 = w.alloc (.cells #[.int .u64 a, .int .u64 b] 34) := ⟨_, rfl⟩
  have hW0s : W0.heap.size = w.heap.size + 1 := by rw [hW0]; simp
  have hb0 : Below w.heap.size w W0 := by rw [hW0]; exact (Below.refl _ _).alloc (Nat.le_refl _) _
  have hr0 := (hKA.below hb0 hRw).range
  have hthF : (W0.alloc (.cells arrZero 61)).there W0.heap.size 0 130 := (there_new W0 arrZero _ 130 hzs).there 0 130 (by omega)
  have hone := all_oneCell_toArray (keyCells_one K 65)
  have hlen : (keyCells K 65).toArray.size = 130 := by simp [keyCells_len]
  rw [hW0s] at hthF
  rw [hW0] at hr0 hthF
  have hinfoL : (Tryd.prog.info? 61).map (·.size) = some (keyCells K 65).length := by rw [keyCells_len]; exact arrInfo
  have hinfoS : (Tryd.prog.info? 61).map (·.size) = some (keyCells K 65).toArray.size := by rw [hlen]; exact arrInfo
  go_enter Tryd.func35, Tryd.ntmps35
  go_upto_region 2 with (first
    | (refine wpList_load_mid rfl 61 (.tmp 12) rfl R 5 rfl (keyCells K 65) _ hr0 arrUnder rfl hinfoL ?_)
    | (refine wpList_store_mid rfl 61 (.tmp 7) (.tmp 13) rfl (w.heap.size + 1) 0 (keyCells K 65).toArray rfl rfl (by rw [hlen]; exact hthF) hinfoS hone ?_))
  have hKF : KAt (((w.alloc (.cells #[.int .u64 a, .int .u64 b] 34)).alloc (.cells arrZero 61)).setCells (w.heap.size + 1) 0 (keyCells K 65)) (w.heap.size + 1) 0 K 65 :=
    KAt.ofRange (World.rangeAt_setCells_same _ _ _ _ (by rw [keyCells_len]; exact hthF))
  have hTF : There (((w.alloc (.cells #[.int .u64 a, .int .u64 b] 34)).alloc (.cells arrZero 61)).setCells (w.heap.size + 1) 0 (keyCells K 65)) (w.heap.size + 1) 130 := by
    have q := there_new W0 arrZero 61 130 hzs
    rw [hW0s, hW0] at q
    exact q.setCells _ _ _
  have hbF : Below w.heap.size w (((w.alloc (.cells #[.int .u64 a, .int .u64 b] 34)).alloc (.cells arrZero 61)).setCells (w.heap.size + 1) 0 (keyCells K 65)) :=
    Below.setCells (((Below.refl _ _).alloc (Nat.le_refl _) _).alloc (by simp) _) (by omega) _ _
  have hbB : Below (w.heap.size + 1) (w.alloc (.cells #[.int .u64 a, .int .u64 b] 34)) (((w.alloc (.cells #[.int .u64 a, .int .u64 b] 34)).alloc (.cells arrZero 61)).setCells (w.heap.size + 1) 0 (keyCells K 65)) :=
    Below.setCells ((Below.refl _ _).alloc (by simp) _) (by omega) _ _
  have hFs : w.heap.size + 1 + 1 ≤ (((w.alloc (.cells #[.int .u64 a, .int .u64 b] 34)).alloc (.cells arrZero 61)).setCells (w.heap.size + 1) 0 (keyCells K 65)).heap.size := by
    have q := (Below.setCells (Below.refl (w.heap.size + 1) ((w.alloc (.cells #[.int .u64 a, .int .u64 b] 34)).alloc (.cells arrZero 61))) (Nat.le_refl _) (keyCells K 65) 0).size
    simpa using q
  have b0 := hbB.cell (p := ⟨w.heap.size, 0, none⟩) (by simp)
  have b1 := hbB.cell (p := ⟨w.heap.size, 1, none⟩) (by simp)
  obtain ⟨W1, hW1⟩ : ∃ W1, ((w.alloc (.cells #[.int .u64 a, .int .u64 b] 34)).alloc (.cells arrZero 61)).setCells (w.heap.size + 1) 0 (keyCells K 65) = W1 := ⟨_, rfl⟩
  rw [hW1] at hKF hTF hbF hFs b0 b1 ⊢
  replace b0 : W1.cell? ⟨w.heap.size, 0, none⟩ = some (.int .u64 a) := by rw [b0]; simp
  replace b1 : W1.cell? ⟨w.heap.size, 1, none⟩ = some (.int .u64 b) := by rw [b1]; simp
  clear hbB hW1 hr0 hthF hone hlen hinfoL hinfoS hz hzs hb0 hW0s hW0
  have hbZ : Below w.heap.size w (W1.alloc (.cells #[.int .u64 a, .int .u64 b] 34)) := hbF.alloc hbF.size _
  have hKZ := hKF.below (B := W1.heap.size) ((Below.refl _ W1).alloc (Nat.le_refl _) (.cells #[.int .u64 a, .int .u64 b] 34)) (by omega)
  have hTZ := hTF.below ((Below.refl _ W1).alloc (Nat.le_refl _) (.cells #[.int .u64 a, .int .u64 b] 34)) (by omega)
  have HKZ := Lib.hid hKZ
  have HTZ := Lib.hid hTZ
  have HKA := Lib.hid hKA
  clear hKF hTF hKZ hTZ hKA
  have hkn : i ≤ 64 := hi64
  go_wp2_with (fail)
  go_loopw [9] (fun n wr => ∃ m : Nat, kn ≤ m ∧ m ≤ i ∧ n = .int .i64 m ∧ ProveRel w (w.heap.size + 1) W1.heap.size i (a, b) K m wr) (fun n _ => (intOf n).toNat)
  case atStart =>
    refine ⟨i, by omega, Nat.le_refl _, rfl, ?_, HTZ.out, by simp; omega, by simp, ?_, hbZ⟩
    · rw [putK_start]; exact HKZ.out
    · rw [Nat.sub_self]
      exact ⟨by simp [downN], by simp [downN], by simp, by simp⟩
  case round =>
    obtain ⟨m, hkm, hmi, rfl, hK, hT, hF, hZ, ⟨z0, z1, f0, f1⟩, hb⟩ := hrel
    have hZF : W1.heap.size ≠ w.heap.size + 1 := by omega
    have hZF' : w.heap.size + 1 ≠ W1.heap.size := by omega
    have hb1 := hb.size
    have c4r : wr.cell? ⟨R, 4, none⟩ = some (.int .i64 (kn : Int)) := by rw [hb.cell (by exact hRw)]; exact c4
    have HK := Lib.hid hK
    have HT := Lib.hid hT
    clear hK hT
    by_cases hlt : kn < m
    · obtain ⟨q, rfl⟩ : ∃ q, m = q + 1 := ⟨m - 1, by omega⟩
      obtain ⟨ka, hka⟩ : ∃ ka, (downN (i - (q + 1)) (a, b)).1 = ka := ⟨_, rfl⟩
      obtain ⟨kb, hkb⟩ : ∃ kb, (downN (i - (q + 1)) (a, b)).2 = kb := ⟨_, rfl⟩
      rw [hka] at z0
      rw [hkb] at z1
      obtain ⟨⟨p0, hp0⟩, g0⟩ := HT.out ((q + 1) * 2) (by omega)
      obtain ⟨⟨p1, hp1⟩, g1⟩ := HT.out ((q + 1) * 2 + 1) (by omega)
      have hnext : downN (i - q) (a, b) = belowI (ka, kb) := by
        rw [show i - q = (i - (q + 1)) + 1 by omega, downN_succ]
        exact congrArg belowI (Prod.ext hka hkb)
      have HNX := Lib.hid hnext
      have HKP := Lib.hid (KAt.put HK.out (a := ka) (b := kb) (by omega) (by omega) hka.symm hkb.symm)
      have HTP := Lib.hid ((HT.out.setCell ⟨w.heap.size + 1, (q + 1) * 2, none⟩ (.int .u64 ka)).setCell ⟨w.heap.size + 1, (q + 1) * 2 + 1, none⟩ (.int .u64 kb))
      clear hka hkb hnext
      go_wp2_with (fail)
      refine (below_any ka kb _).mono ?_
      rintro e w4 ⟨rfl, hb4⟩
      have hs4 := hb4.size
      simp [World.setCell] at hs4
      have hbX : Below w.heap.size w ((wr.setCell ⟨w.heap.size + 1, (q + 1) * 2, none⟩ (.int .u64 ka)).setCell ⟨w.heap.size + 1, (q + 1) * 2 + 1, none⟩ (.int .u64 kb)) := (hb.setCell (by simp) _).setCell (by simp) _
      have hb4' := hbX.trans (hb4.mono hbX.size)
      have y0 : w4.cell? ⟨W1.heap.size, 0, none⟩ = some (.int .u64 ka) := by rw [hb4.cell (by simpa [World.setCell] using hZ), World.cell?_setCell_other _ _ _ _ (by simp [hZF']), World.cell?_setCell_other _ _ _ _ (by simp [hZF'])]; exact z0
      have y1 : w4.cell? ⟨W1.heap.size, 1, none⟩ = some (.int .u64 kb) := by rw [hb4.cell (by simpa [World.setCell] using hZ), World.cell?_setCell_other _ _ _ _ (by simp [hZF']), World.cell?_setCell_other _ _ _ _ (by simp [hZF'])]; exact z1
      have y2 : w4.frozen? ⟨W1.heap.size, 0, none⟩ = false := by rw [hb4.frozen (by simpa [World.setCell] using hZ), World.frozen?_setCell, World.frozen?_setCell]; exact f0
      have y3 : w4.frozen? ⟨W1.heap.size, 1, none⟩ = false := by rw [hb4.frozen (by simpa [World.setCell] using hZ), World.frozen?_setCell, World.frozen?_setCell]; exact f1
      have HK4 := Lib.hid (HKP.out.below hb4 (by simpa [World.setCell] using hF))
      have HT4 := Lib.hid (HTP.out.below hb4 (by simpa [World.setCell] using hF))
      obtain ⟨ba, hba⟩ : ∃ ba, (belowI (ka, kb)).1 = ba := ⟨_, rfl⟩
      obtain ⟨bb, hbb⟩ : ∃ bb, (belowI (ka, kb)).2 = bb := ⟨_, rfl⟩
      rw [hba, hbb]
      have HBA : Hid ((downN (i - q) (a, b)).1 = ba) := by show _ = _; rw [HNX.out]; exact hba
      have HBB : Hid ((downN (i - q) (a, b)).2 = bb) := by show _ = _; rw [HNX.out]; exact hbb
      clear hba hbb hb4 hbX z0 z1 f0 f1 hp0 hp1 g0 g1 c4r
      go_wp2_with (fail)
      go_roundw
      case rel =>
        refine ⟨q, by omega, by omega, by go_num, (HK4.out.far hZF).far hZF, (HT4.out.setCell _ _).setCell _ _, by simp [World.setCell]; omega, by simp [World.setCell]; omega, ?_, (hb4'.setCell (by exact hbF.size) _).setCell (by exact hbF.size) _⟩
        rw [HBA.out, HBB.out]
        refine ⟨?_, ?_, ?_, ?_⟩
        · rw [World.cell?_setCell_other _ _ _ _ (by simp)]; exact World.cell?_setCell_same _ _ _ y0
        · exact World.cell?_setCell_same (u := .int .u64 kb) _ _ _ (by rw [World.cell?_setCell_other _ _ _ _ (by simp)]; exact y1)
        · rw [World.frozen?_setCell, World.frozen?_setCell]; exact y2
        · rw [World.frozen?_setCell, World.frozen?_setCell]; exact y3
      case measure => simp [intOf]
    · obtain rfl : m = kn := by omega
      obtain ⟨ka, hka⟩ : ∃ ka, (downN (i - m) (a, b)).1 = ka := ⟨_, rfl⟩
      obtain ⟨kb, hkb⟩ : ∃ kb, (downN (i - m) (a, b)).2 = kb := ⟨_, rfl⟩
      rw [hka] at z0
      rw [hkb] at z1
      obtain ⟨k0, k1⟩ := HKA.out m (by omega)
      have k0r : wr.cell? ⟨R, 5 + m * 2, none⟩ = some (.int .u64 (K m).1) := by rw [hb.cell (by exact hRw)]; exact k0
      have k1r : wr.cell? ⟨R, 5 + m * 2 + 1, none⟩ = some (.int .u64 (K m).2) := by rw [hb.cell (by exact hRw)]; exact k1
      obtain ⟨ja, hja⟩ : ∃ ja, (K m).1 = ja := ⟨_, rfl⟩
      obtain ⟨jb, hjb⟩ : ∃ jb, (K m).2 = jb := ⟨_, rfl⟩
      rw [hja] at k0r
      rw [hjb] at k1r
      have hpair : downN (i - m) (a, b) = (ka, kb) := Prod.ext hka hkb
      have hpair2 : K m = (ja, jb) := Prod.ext hja hjb
      have HP := Lib.hid hpair
      have HP2 := Lib.hid hpair2
      clear hka hkb hja hjb hpair hpair2 k0 k1
      go_wp2_with (fail)
      go_quiet (fail)
      have hbq : Below w.heap.size w (wr.drewN nq) := below_drewN hb nq
      by_cases heq : ka = ja ∧ kb = jb
      · obtain ⟨rfl, rfl⟩ := heq
        have HY : Hid (downN (i - m) (a, b) = K m) := by show _ = _; rw [HP.out, HP2.out]
        obtain ⟨cs, hcs⟩ : ∃ cs, keyCells (putK m i (a, b) K) 65 = cs := ⟨_, rfl⟩
        have hr := (HK.out.below (below_drewN (Below.refl _ wr) nq) hF).range
        have hone := all_oneCell_toArray (keyCells_one (putK m i (a, b) K) 65)
        have hln := keyCells_len (putK m i (a, b) K) 65
        have hKR : ∀ w : World, w.rangeAt R 5 (keyCells (putK m i (a, b) K) 65) → KAt w R 5 (putK m i (a, b) K) 65 := fun w h => KAt.ofRange h
        have HKR := Lib.hid hKR
        rw [hcs] at hr hone hln HKR
        clear hcs hKR
        have hthq : (wr.drewN nq).there R 5 130 := ((HTH.out.below' hbq hRw).there 5 130 (by omega))
        have hlen : cs.toArray.size = 130 := by simp [hln]
        have hinfoL : (Tryd.prog.info? 61).map (·.size) = some cs.length := by rw [hln]; exact arrInfo
        have hinfoS : (Tryd.prog.info? 61).map (·.size) = some cs.toArray.size := by rw [hlen]; exact arrInfo
        have hbool : (!ka == ka || !kb == kb) = false := by simp
        rw [hbool]
        clear hbool
        have c4s : ((wr.drewN nq).setCells R 5 cs).cell? ⟨R, 4, none⟩ = some (.int .i64 (m : Int)) := by
          rw [World.cell?_setCells_out R _ 5 _ ⟨R, 4, none⟩ (fun _ _ => by left; show 4 < 5; omega), hbq.cell (by exact hRw)]; exact c4
        have f4s : ((wr.drewN nq).setCells R 5 cs).frozen? ⟨R, 4, none⟩ = false := by
          rw [World.frozen?_setCells]; exact ((HTH.out.below' hbq hRw) 4 (by omega)).2
        go_upto_region 10 with (fail)
        go_wp2_with (first
          | (refine wpList_load_mid rfl 61 (.tmp 7) rfl (w.heap.size + 1) 0 rfl cs _ hr arrUnder rfl hinfoL ?_)
          | (refine wpList_store_mid rfl 61 (.tmp 45) (.tmp 42) rfl R 5 cs.toArray rfl rfl (by rw [hlen]; exact hthq) hinfoS hone ?_))
        go_ret
        obtain ⟨q1, q2⟩ := recv_prove HR.out hbq i (putK m i (a, b) K) hco cs hln HKR.out
        exact ⟨fun _ => ⟨rfl, q1, q2⟩, fun e => absurd HY.out e⟩
      · have HN : Hid (downN (i - m) (a, b) ≠ K m) := by
          show _ ≠ _
          rw [HP.out, HP2.out]
          intro e
          exact heq ⟨congrArg Prod.fst e, congrArg Prod.snd e⟩
        have hbool : (!ka == ja || !kb == jb) = true := by
          by_cases h1 : ka = ja
          · have h2 : ¬ kb = jb := fun e => heq ⟨h1, e⟩
            simp [h2]
          · simp [h1]
        clear heq
        rw [hbool]
        clear hbool
        go_wp2_with (fail)
        go_ret
        exact ⟨fun e => absurd e HN.out, fun _ => ⟨rfl, hbq⟩⟩
end Go.Proofs.YtmhgoknbmbicmaaDoor
