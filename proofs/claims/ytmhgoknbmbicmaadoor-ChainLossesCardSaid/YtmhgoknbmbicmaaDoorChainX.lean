/- What the loop of ChainComplete keeps. -/
import Derived.Test.YtmhgoknbmbicmaaDoorChainW
namespace Go.Proofs.YtmhgoknbmbicmaaDoor
open Go.RowKit
set_option linter.unusedVariables false
set_option linter.unusedSimpArgs false

/-- a message that was sent: its interval, its block, its capacity, its bytes -/
structure SM where
  iv : Nat
  g : Nat
  cap : Nat
  b : List Int
def smCells (ms : List SM) : List Value := ms.map fun m => .slice (some ⟨m.g, 0, none⟩) m.b.length m.cap
noncomputable def smMsgs (K : Nat → Int × Int) (ms : List SM) : List (Int × List Int × Int) := ms.map fun m => ((m.iv : Int), m.b, rightTag (K m.iv) m.b)
def msgT (m : Msg) : Int × List Int × Int := (m.iv, m.b, m.tag)
/-- a message in memory, apart from the receiver's blocks and the row sv -/
structure SMAt (own : Nat → Prop) (sv : Value) (m : SM) (wr : World) : Prop where
  ints : Ints .u8 wr wr.heap.size (some ⟨m.g, 0, none⟩) m.b
  far : ¬ own m.g
  sfar : sv.ownBlock ≠ some m.g
  lt : m.g < wr.heap.size
  len : m.b.length ≤ 101
  lo : 1 ≤ m.iv
  hi : m.iv ≤ 10
structure CRel (w : World) (B g R : Nat) (K K0 : Nat → Int × Int) (sv : Value) (own : Nat → Prop) (hv : Value) (l : List Msg) (hs ws : List SM) (wr : World) : Prop where
  aw : AwSt w B g 11 K wr
  recv : Recv wr own R ⟨1000, 100, 2, 10, 0, K0, hv, l⟩
  ownB : ∀ q, own q → B ≤ q
  heard : l.map msgT = smMsgs K hs
  row : wr.ownsRow B 36 1 sv ws.length (smCells ws)
  sfar : ∀ q, sv.ownBlock = some q → ¬ own q
  body : ∀ m ∈ hs, SMAt own sv m wr

theorem row_same {B : Nat} {wr wr' : World} {e : TypeId} {v : Value} {n : Nat} {xs : List Value} (h : wr.ownsRow B e 1 v n xs) (hb : ∀ g, v.ownBlock = some g → wr'.heap[g]? = wr.heap[g]?) : wr'.ownsRow B e 1 v n xs := by
  refine ⟨h.1, ?_⟩
  rcases h.2 with q | ⟨b, c, cur, hvb, hb', hh, rest⟩
  · exact .inl q
  · exact .inr ⟨b, c, cur, hvb, hb', (hb b (by rw [hvb]; rfl)).trans hh, rest⟩
theorem Ints.same {k : IntKind} {W W' : World} {g : Nat} {l : List Int} (h : Ints k W W.heap.size (some ⟨g, 0, none⟩) l) (hb : W'.heap[g]? = W.heap[g]?) (hs : W.heap.size ≤ W'.heap.size) : Ints k W' W'.heap.size (some ⟨g, 0, none⟩) l := by
  intro i hi
  obtain ⟨a, e, h2, h3⟩ := h i hi
  obtain rfl := Option.some.inj e
  refine ⟨_, rfl, Nat.lt_of_lt_of_le h2 hs, ?_⟩
  rw [World.cell?_of_block (w := W) (a := (⟨g, 0, none⟩ : Addr).add i) (by rw [show ((⟨g, 0, none⟩ : Addr).add i).block = g by unfold Addr.add; split <;> rfl]; exact hb)]
  exact h3

section
variable {w wr wr' : World} {B g R : Nat} {K K0 : Nat → Int × Int} {sv sv' : Value} {own : Nat → Prop} {hv hv' : Value} {l : List Msg} {hs ws : List SM} {m : SM}
theorem SMAt.later (h : SMAt own sv m wr) (hb : Below wr.heap.size wr wr') : SMAt own sv m wr' :=
  { h with ints := h.ints.same (hb.block _ h.lt) hb.size, lt := Nat.lt_of_lt_of_le h.lt hb.size }
theorem CRel.later (h : CRel w B g R K K0 sv own hv l hs ws wr) (hb : Below wr.heap.size wr wr') : CRel w B g R K K0 sv own hv l hs ws wr' :=
  { h with aw := h.aw.step hb, recv := h.recv.below hb (Nat.le_refl _), row := row_same h.row (fun q hq => hb.block q (h.row.lt q hq).2), body := fun m hm => (h.body m hm).later hb }
theorem CRel.hear {p : Option Addr} {cap : Nat} {T : Int} (h : CRel w B g R K K0 sv own hv l hs ws wr) (hm : SMAt own sv m wr) (hT : rightTag (K m.iv) m.b = T)
    (hk : Keeps own wr wr') (hr : Recv wr' (grew own wr wr') R ⟨1000, 100, 2, 10, 0, K0, hv', l ++ [⟨m.iv, p, cap, m.b, T⟩]⟩) : CRel w B g R K K0 sv (grew own wr wr') hv' (l ++ [⟨m.iv, p, cap, m.b, T⟩]) (hs ++ [m]) ws wr' where
  aw := h.aw.keeps hk h.ownB
  recv := hr
  ownB := fun q hq => by
    rcases hq with hq | hq
    · exact h.ownB q hq
    · exact Nat.le_trans h.aw.size hq.1
  heard := by
    unfold smMsgs
    rw [List.map_append, List.map_append, h.heard]
    simp [smMsgs, msgT, hT]
  row := row_same h.row (fun q hq => hk.block q (h.row.lt q hq).2 (h.sfar q hq))
  sfar := fun q hq hn => by
    rcases hn with hn | hn
    · exact h.sfar q hq hn
    · have := (h.row.lt q hq).2; omega
  body := fun x hx => by
    have key : SMAt own sv x wr := by
      rcases List.mem_append.1 hx with h1 | h1
      · exact h.body x h1
      · obtain rfl : x = m := by simpa using h1
        exact hm
    have hf : ¬ grew own wr wr' x.g := by
      intro hn
      rcases hn with hn | hn
      · exact key.far hn
      · have := key.lt; omega
    exact ⟨key.ints.same (hk.block _ key.lt key.far) hk.size, hf, key.sfar, Nat.lt_of_lt_of_le key.lt hk.size, key.len, key.lo, key.hi⟩
theorem CRel.take (h : CRel w B g R K K0 sv own hv l hs ws wr) (hB : B ≤ wr.heap.size) (hg : wr.grownBy wr' sv.ownBlock)
    (hrow : wr'.ownsRow B 36 1 sv' (ws.length + 1) (smCells ws ++ [.slice (some ⟨m.g, 0, none⟩) m.b.length m.cap])) (hat : sv'.ownBlock = sv.ownBlock ∨ sv'.ownBlock = some wr.heap.size) :
    CRel w B g R K K0 sv' own hv l hs (ws ++ [m]) wr' := by
  have hold : ∀ q, q < wr.heap.size → sv.ownBlock ≠ some q → wr'.heap[q]? = wr.heap[q]? := fun q hq hn => hg.block q hq (fun e => hn e.symm)
  have hlow : ∀ q, q < B → wr'.heap[q]? = wr.heap[q]? := fun q hq => hold q (by omega) (fun e => by have := (h.row.lt q e).1; omega)
  have hbel : Below B wr wr' := ⟨hg.os, hg.tape, hg.output, hg.size, hlow⟩
  refine ⟨⟨h.aw.bel.trans (hbel.mono h.aw.wB), h.aw.conf.same (hlow 0 h.aw.pos) hg.size, h.aw.keys.below (Nat.le_refl _) hbel, Nat.le_trans h.aw.size hg.size, h.aw.pos, h.aw.wB⟩,
    h.recv.same (fun q ho => hold q (h.recv.low q ho) (fun e => h.sfar q e ho)) hg.size, h.ownB, h.heard, ?_, ?_, ?_⟩
  · rw [List.length_append]
    unfold smCells at hrow ⊢
    rw [List.map_append]; exact hrow
  · intro q hq hn
    rcases hat with e | e
    · exact h.sfar q (by rw [← e]; exact hq) hn
    · rw [e] at hq
      obtain rfl : wr.heap.size = q := by simpa using hq
      exact absurd (h.recv.low _ hn) (by omega)
  · intro x hx
    have key := h.body x hx
    have hf : sv'.ownBlock ≠ some x.g := by
      intro e
      rcases hat with q | q
      · rw [q] at e; exact key.sfar e
      · rw [q] at e
        have q2 : wr.heap.size = x.g := by simpa using e
        have := key.lt
        omega
    exact ⟨key.ints.same (hold _ key.lt key.sfar) hg.size, key.far, hf, Nat.lt_of_lt_of_le key.lt hg.size, key.len, key.lo, key.hi⟩
end
end Go.Proofs.YtmhgoknbmbicmaaDoor
