/- What the first loop of TopBroadcast keeps. -/
import Derived.Test.YtmhgoknbmbicmaaTopD
import Derived.Laws.BytesArg
namespace Go.Proofs.Ytmhgoknbmbicmaa
open Go.RowKit
set_option linter.unusedVariables false
set_option linter.unusedSimpArgs false

def pktCells (qs : List Pkt) : List Value := qs.map fun q => .slice q.p q.n q.c
/-- what holds ahead of each round of the law's first loop: the packets hs are heard, of the packets ws the wanted ones are noted; B: the heap's size at New -/
structure LRel (w2 : World) (B R : Nat) (K K0 : Nat → Int × Int) (st sp de : Int) (cn : Nat) (hs ws : List Pkt) (wv : Value) (own : Nat → Prop) (hv : Value) (l : List Msg) (wr : World) : Prop where
  recv : Recv wr own R ⟨st, sp, de, cn, 0, K0, hv, l⟩
  ownB : ∀ g, own g → B ≤ g
  heard : l.map msgOf = heardOf K st sp de cn hs
  want : wr.ownsRow B 35 1 wv (ws.filter (wantP K st sp de cn)).length (pktCells (ws.filter (wantP K st sp de cn)))
  wfar : ∀ g, wv.ownBlock = some g → ¬ own g
  below : Below B w2 wr
  bounds : ∀ q ∈ hs, 1 ≤ q.i ∧ q.i ≤ cn
  sizeB : B ≤ w2.heap.size
  len : l.length ≤ hs.length
theorem add_off (x : Addr) (j : Nat) (h : j ≠ 0) : x.add j = ⟨x.block, x.off + j, none⟩ := by unfold Addr.add; rw [if_neg h]
theorem six_step {w w' : World} {B C G : Nat} {x0 x1 x2 x3 x4 x5 : Value} (hb : Below B w w') (hC : C < B) (hG : G < B)
    (h : w.cell? ⟨C, 0, none⟩ = some x0 ∧ w.cell? ⟨C, 1, none⟩ = some x1 ∧ w.cell? ⟨C, 2, none⟩ = some x2 ∧ w.cell? ⟨C, 3, none⟩ = some x3 ∧ w.cell? ⟨G, 0, none⟩ = some x4 ∧ w.cell? ⟨G, 1, none⟩ = some x5) :
    w'.cell? ⟨C, 0, none⟩ = some x0 ∧ w'.cell? ⟨C, 1, none⟩ = some x1 ∧ w'.cell? ⟨C, 2, none⟩ = some x2 ∧ w'.cell? ⟨C, 3, none⟩ = some x3 ∧ w'.cell? ⟨G, 0, none⟩ = some x4 ∧ w'.cell? ⟨G, 1, none⟩ = some x5 := by
  obtain ⟨h0, h1, h2, h3, h4, h5⟩ := h
  exact ⟨by rw [hb.cell (by exact hC)]; exact h0, by rw [hb.cell (by exact hC)]; exact h1, by rw [hb.cell (by exact hC)]; exact h2, by rw [hb.cell (by exact hC)]; exact h3, by rw [hb.cell (by exact hG)]; exact h4, by rw [hb.cell (by exact hG)]; exact h5⟩

theorem three_keep {own : Nat → Prop} {W W' : World} {B C G o1 o2 o3 : Nat} {x1 x2 x3 : Value} (hk : Keeps own W W') (ho : ∀ g, own g → B ≤ g) (hC : C < B) (hG : G < B) (hC' : C < W.heap.size) (hG' : G < W.heap.size)
    (h : W.cell? ⟨C, o1, none⟩ = some x1 ∧ W.cell? ⟨G, o2, none⟩ = some x2 ∧ W.cell? ⟨G, o3, none⟩ = some x3) : W'.cell? ⟨C, o1, none⟩ = some x1 ∧ W'.cell? ⟨G, o2, none⟩ = some x2 ∧ W'.cell? ⟨G, o3, none⟩ = some x3 := by
  have c : ∀ o, W'.cell? ⟨C, o, none⟩ = W.cell? ⟨C, o, none⟩ := fun o => World.cell?_of_block (hk.block C hC' (fun q => by have := ho _ q; omega))
  have d : ∀ o, W'.cell? ⟨G, o, none⟩ = W.cell? ⟨G, o, none⟩ := fun o => World.cell?_of_block (hk.block G hG' (fun q => by have := ho _ q; omega))
  exact ⟨(c _).trans h.1, (d _).trans h.2.1, (d _).trans h.2.2⟩
theorem row_some {w : World} {base : Nat} {e : TypeId} {size n c : Nat} {po : Option Addr} {xs : List Value} (h : w.ownsRow base e size (.slice po n c) n xs) (hn : 0 < n) : ∃ g, g < w.heap.size ∧ po = some ⟨g, 0, none⟩ := by
  rcases h.2 with ⟨e, q⟩ | ⟨g, cap, cur, e, hb, hh, _⟩
  · omega
  · obtain ⟨rfl, _, rfl⟩ : po = some ⟨g, 0, none⟩ ∧ True ∧ c = cap := by simpa using e
    exact ⟨g, (h.lt g rfl).2, rfl⟩
theorem seven_same {W W' : World} {C D : Nat} {x0 x1 x2 x3 x4 x5 x6 : Value} (hC : W'.heap[C]? = W.heap[C]?) (hD : W'.heap[D]? = W.heap[D]?)
    (h : W.cell? ⟨C, 0, none⟩ = some x0 ∧ W.cell? ⟨C, 1, none⟩ = some x1 ∧ W.cell? ⟨C, 2, none⟩ = some x2 ∧ W.cell? ⟨C, 3, none⟩ = some x3 ∧ W.cell? ⟨D, 0, none⟩ = some x4 ∧ W.cell? ⟨D, 1, none⟩ = some x5 ∧ W.cell? ⟨D, 2, none⟩ = some x6) :
    W'.cell? ⟨C, 0, none⟩ = some x0 ∧ W'.cell? ⟨C, 1, none⟩ = some x1 ∧ W'.cell? ⟨C, 2, none⟩ = some x2 ∧ W'.cell? ⟨C, 3, none⟩ = some x3 ∧ W'.cell? ⟨D, 0, none⟩ = some x4 ∧ W'.cell? ⟨D, 1, none⟩ = some x5 ∧ W'.cell? ⟨D, 2, none⟩ = some x6 := by
  have c : ∀ o, W'.cell? ⟨C, o, none⟩ = W.cell? ⟨C, o, none⟩ := fun o => World.cell?_of_block hC
  have d : ∀ o, W'.cell? ⟨D, o, none⟩ = W.cell? ⟨D, o, none⟩ := fun o => World.cell?_of_block hD
  obtain ⟨h0, h1, h2, h3, h4, h5, h6⟩ := h
  exact ⟨(c _).trans h0, (c _).trans h1, (c _).trans h2, (c _).trans h3, (d _).trans h4, (d _).trans h5, (d _).trans h6⟩
theorem seven_step {W W' : World} {B C D : Nat} {x0 x1 x2 x3 x4 x5 x6 : Value} (hb : Below B W W') (hC : C < B) (hD : D < B)
    (h : W.cell? ⟨C, 0, none⟩ = some x0 ∧ W.cell? ⟨C, 1, none⟩ = some x1 ∧ W.cell? ⟨C, 2, none⟩ = some x2 ∧ W.cell? ⟨C, 3, none⟩ = some x3 ∧ W.cell? ⟨D, 0, none⟩ = some x4 ∧ W.cell? ⟨D, 1, none⟩ = some x5 ∧ W.cell? ⟨D, 2, none⟩ = some x6) :
    W'.cell? ⟨C, 0, none⟩ = some x0 ∧ W'.cell? ⟨C, 1, none⟩ = some x1 ∧ W'.cell? ⟨C, 2, none⟩ = some x2 ∧ W'.cell? ⟨C, 3, none⟩ = some x3 ∧ W'.cell? ⟨D, 0, none⟩ = some x4 ∧ W'.cell? ⟨D, 1, none⟩ = some x5 ∧ W'.cell? ⟨D, 2, none⟩ = some x6 :=
  seven_same (hb.block C hC) (hb.block D hD) h

section
variable {w2 wr wr' : World} {B R : Nat} {K K0 : Nat → Int × Int} {st sp de : Int} {cn : Nat} {hs ws : List Pkt} {wv : Value} {own : Nat → Prop} {hv : Value} {l : List Msg} {q : Pkt}

theorem row_same {wr wr' : World} {e : TypeId} {v : Value} {n : Nat} {xs : List Value} (h : wr.ownsRow B e 1 v n xs) (hb : ∀ g, v.ownBlock = some g → wr'.heap[g]? = wr.heap[g]?) : wr'.ownsRow B e 1 v n xs := by
  refine ⟨h.1, ?_⟩
  rcases h.2 with q | ⟨b, c, cur, hvb, hb', hh, rest⟩
  · exact .inl q
  · exact .inr ⟨b, c, cur, hvb, hb', (hb b (by rw [hvb]; rfl)).trans hh, rest⟩

theorem LRel.later (h : LRel w2 B R K K0 st sp de cn hs ws wv own hv l wr) (hb : Below wr.heap.size wr wr') : LRel w2 B R K K0 st sp de cn hs ws wv own hv l wr' :=
  { h with recv := h.recv.below hb (Nat.le_refl _), want := row_same h.want (fun g hg => hb.block g (h.want.lt g hg).2), below := h.below.trans (hb.mono (Nat.le_trans h.sizeB h.below.size)) }

theorem filter_snoc {P : Pkt → Bool} (l : List Pkt) (q : Pkt) : (l ++ [q]).filter P = l.filter P ++ (if P q = true then [q] else []) := by
  rw [List.filter_append]; cases hq : P q <;> simp [hq]

theorem LRel.stale (h : LRel w2 B R K K0 st sp de cn hs ws wv own hv l wr) (hs' : safeP st sp de cn q = false) (hi : 1 ≤ q.i ∧ q.i ≤ cn) : LRel w2 B R K K0 st sp de cn (hs ++ [q]) ws wv own hv l wr :=
  { h with heard := (by rw [h.heard]; unfold heardOf; rw [filter_snoc, hs', if_neg (by simp), List.append_nil]), bounds := (fun x hx => by
      rcases List.mem_append.1 hx with h1 | h1
      · exact h.bounds x h1
      · obtain rfl : x = q := by simpa using h1
        exact hi), len := (by have := h.len; simp; omega) }
theorem LRel.unwanted (h : LRel w2 B R K K0 st sp de cn hs ws wv own hv l wr) (hq : wantP K st sp de cn q = false) : LRel w2 B R K K0 st sp de cn hs (ws ++ [q]) wv own hv l wr :=
  { h with want := (by rw [filter_snoc, hq, if_neg (by simp), List.append_nil]; exact h.want) }
theorem LRel.hear {p : Option Addr} {cap : Nat} {hv' : Value} {T : Int} (h : LRel w2 B R K K0 st sp de cn hs ws wv own hv l wr) (hs' : safeP st sp de cn q = true) (hi : 1 ≤ q.i ∧ q.i ≤ cn) (hT : ptag K q = T)
    (hk : Keeps own wr wr') (hr : Recv wr' (grew own wr wr') R ⟨st, sp, de, cn, 0, K0, hv', l ++ [⟨q.i, p, cap, q.b, T⟩]⟩) : LRel w2 B R K K0 st sp de cn (hs ++ [q]) ws wv (grew own wr wr') hv' (l ++ [⟨q.i, p, cap, q.b, T⟩]) wr' where
  recv := hr
  ownB := fun g hg => by
    rcases hg with hg | hg
    · exact h.ownB g hg
    · exact Nat.le_trans (Nat.le_trans h.sizeB h.below.size) hg.1
  heard := by
    rw [List.map_append, h.heard]; unfold heardOf; rw [filter_snoc, hs', if_pos rfl, List.map_append]
    rw [← hT]; rfl
  want := row_same h.want (fun g hg => hk.block g (h.want.lt g hg).2 (h.wfar g hg))
  wfar := fun g hg hn => by
    rcases hn with hn | hn
    · exact h.wfar g hg hn
    · have := (h.want.lt g hg).2; omega
  below := h.below.trans (hk.toBelow h.ownB (Nat.le_trans h.sizeB h.below.size))
  bounds := fun x hx => by
    rcases List.mem_append.1 hx with h1 | h1
    · exact h.bounds x h1
    · obtain rfl : x = q := by simpa using h1
      exact hi
  sizeB := h.sizeB
  len := by have := h.len; simp; omega
theorem LRel.take {wv' : Value} (h : LRel w2 B R K K0 st sp de cn hs ws wv own hv l wr) (hq : wantP K st sp de cn q = true) (hg : wr.grownBy wr' wv.ownBlock)
    (hrow : wr'.ownsRow B 35 1 wv' ((ws.filter (wantP K st sp de cn)).length + 1) (pktCells (ws.filter (wantP K st sp de cn)) ++ [.slice q.p q.n q.c])) (hat : wv'.ownBlock = wv.ownBlock ∨ wv'.ownBlock = some wr.heap.size) :
    LRel w2 B R K K0 st sp de cn hs (ws ++ [q]) wv' own hv l wr' where
  recv := h.recv.same (fun g ho => hg.block g (h.recv.low g ho) (fun e => h.wfar g e.symm ho)) hg.size
  ownB := h.ownB
  heard := h.heard
  want := by
    rw [filter_snoc, hq, if_pos rfl, List.length_append]
    unfold pktCells at hrow ⊢
    rw [List.map_append]; exact hrow
  wfar := fun g ho hn => by
    rcases hat with e | e
    · exact h.wfar g (by rw [← e]; exact ho) hn
    · rw [e] at ho
      obtain rfl : wr.heap.size = g := by simpa using ho
      exact absurd (h.recv.low _ hn) (by omega)
  below := h.below.grown hg (Nat.le_trans h.sizeB h.below.size) (fun g e => (h.want.lt g e).1)
  bounds := h.bounds
  sizeB := h.sizeB
  len := h.len
end
theorem conv_ints (W : World) (x : Option Addr) (n c : Nat) (b : List Int) (hI : Ints .u8 W W.heap.size x b) (hl : b.length = n) (hnil : x = none → n = 0) :
    (convert 35 9 (.slice x n c)).run Try.prog W = .ok (.string (strOfNums b)) W := by
  cases x with
  | none =>
    obtain rfl : b = [] := List.eq_nil_of_length_eq_zero (by rw [hl]; exact hnil rfl)
    exact run_convert_bytes_nil W _ _ Try.underlying35 Try.underlying5 n c _ Try.underlying9
  | some a =>
    have hl2 : (loadCells a n).run Try.prog W = .ok (b.map (Value.int .u8)).toArray W := by
      have := run_loadCells_list (P := Try.prog) W a (b.map (Value.int .u8)) (fun j v hj => by
        have hjl : j < b.length := by simpa using (List.getElem?_eq_some_iff.1 hj).1
        obtain ⟨a', e, _, h3⟩ := hI j hjl
        obtain rfl := Option.some.inj e
        rw [h3]
        simp [List.getElem?_eq_getElem hjl] at hj
        subst hj
        simp [List.getD, List.getElem?_eq_getElem hjl])
      simpa [hl] using this
    rw [run_convert_bytes_string W _ _ _ _ n c Try.underlying35 Try.underlying5 Try.underlying9, run_bytesToString W _ n c b hl2, foldl_push_bytes]
    simp [strOfNums, ByteArray.empty, ByteArray.emptyWithCapacity]
    rfl
end Go.Proofs.Ytmhgoknbmbicmaa
