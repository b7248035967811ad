/- The heap of a queue in memory; put. -/
import Derived.Test.YtknoigleejbjdaaAgB
import Derived.RegionTactic
namespace Go.Proofs.Ytknoigleejbjdaa
open Go.RowKit
set_option linter.unusedVariables false
set_option linter.unusedSimpArgs false

/-- a heap in memory: the row l, the map F; its pointer is ⟨Q, 3⟩ -/
structure HS (w : World) (Q g cap bm N : Nat) (l : List Ev) (F : Int → Option Nat) : Prop where
  q3 : w.cell? ⟨Q, 3, none⟩ = some (.slice (some ⟨g, 0, none⟩) l.length cap)
  q4 : w.cell? ⟨Q, 4, none⟩ = some (.map (some bm))
  own : ∃ cur : Array Value, w.heap[g]? = some (.cells cur 69 (0, 0)) ∧ cur.size = cap * 3
  at' : ∀ i, i < l.length → w.cell? ⟨g, i * 3, none⟩ = some (.int .i64 (gt l i).t) ∧ w.cell? ⟨g, i * 3 + 1, none⟩ = some (.int .i64 (gt l i).id) ∧ w.cell? ⟨g, i * 3 + 2, none⟩ = some (.int .i64 (gt l i).item)
  le : l.length ≤ cap
  capb : cap ≤ 9223372036854775807
  map : MapAt w bm N F
  ne1 : Q ≠ g
  ne2 : Q ≠ bm
  ne3 : g ≠ bm
  Qlt : Q < w.heap.size
theorem HS.glt {w : World} {Q g cap bm N : Nat} {l : List Ev} {F : Int → Option Nat} (h : HS w Q g cap bm N l F) : g < w.heap.size := by
  obtain ⟨cur, hh, _⟩ := h.own
  rcases Nat.lt_or_ge g w.heap.size with q | q
  · exact q
  · rw [Array.getElem?_eq_none q] at hh; cases hh
theorem HS.frozen {w : World} {Q g cap bm N : Nat} {l : List Ev} {F : Int → Option Nat} (h : HS w Q g cap bm N l F) (j : Nat) : w.frozen? ⟨g, j, none⟩ = false := by
  obtain ⟨cur, hh, _⟩ := h.own
  simp [World.frozen?, hh]
theorem HS.same {w w' : World} {Q g cap bm N : Nat} {l : List Ev} {F : Int → Option Nat} (h : HS w Q g cap bm N l F) (h1 : w'.heap[Q]? = w.heap[Q]?) (h2 : w'.heap[g]? = w.heap[g]?) (h3 : w'.heap[bm]? = w.heap[bm]?) (hs : w.heap.size ≤ w'.heap.size) : HS w' Q g cap bm N l F := by
  have c1 : ∀ o, w'.cell? ⟨Q, o, none⟩ = w.cell? ⟨Q, o, none⟩ := fun o => World.cell?_of_block h1
  have c2 : ∀ o, w'.cell? ⟨g, o, none⟩ = w.cell? ⟨g, o, none⟩ := fun o => World.cell?_of_block h2
  obtain ⟨cur, hh, hsz⟩ := h.own
  exact ⟨(c1 _).trans h.q3, (c1 _).trans h.q4, ⟨cur, h2.trans hh, hsz⟩, fun i hi => by obtain ⟨a, b, c⟩ := h.at' i hi; exact ⟨(c2 _).trans a, (c2 _).trans b, (c2 _).trans c⟩, h.le, h.capb, h.map.same h3, h.ne1, h.ne2, h.ne3, Nat.lt_of_lt_of_le h.Qlt hs⟩
theorem HS.below {w w' : World} {Q g cap bm N : Nat} {l : List Ev} {F : Int → Option Nat} (h : HS w Q g cap bm N l F) (hb : Below w.heap.size w w') : HS w' Q g cap bm N l F :=
  h.same (hb.block _ h.Qlt) (hb.block _ h.glt) (hb.block _ h.map.lt) hb.size
/-- nothing but some blocks is written -/
structure Keep (own : Nat → Prop) (w w' : World) : Prop where
  os : w'.os = w.os
  tape : w'.tape = w.tape
  output : w'.output = w.output
  size : w.heap.size ≤ w'.heap.size
  block : ∀ k, k < w.heap.size → ¬ own k → w'.heap[k]? = w.heap[k]?
theorem Keep.refl (own : Nat → Prop) (w : World) : Keep own w w := ⟨rfl, rfl, rfl, Nat.le_refl _, fun _ _ _ => rfl⟩
theorem Keep.trans {own : Nat → Prop} {a b c : World} (h : Keep own a b) (k : Keep own b c) : Keep own a c :=
  ⟨k.os.trans h.os, k.tape.trans h.tape, k.output.trans h.output, Nat.le_trans h.size k.size, fun i hi hn => (k.block i (Nat.lt_of_lt_of_le hi h.size) hn).trans (h.block i hi hn)⟩
theorem Below.keep {w w' : World} {B : Nat} (h : Below B w w') (hB : w.heap.size ≤ B) (own : Nat → Prop) : Keep own w w' := ⟨h.os, h.tape, h.output, h.size, fun k hk _ => h.block k (by omega)⟩
theorem Keep.toBelow {own : Nat → Prop} {w w' : World} {B : Nat} (h : Keep own w w') (ho : ∀ g, own g → B ≤ g) (hB : B ≤ w.heap.size) : Below B w w' :=
  ⟨h.os, h.tape, h.output, h.size, fun k hk => h.block k (by omega) (fun q => by have := ho k q; omega)⟩
theorem grown_keep {w w' : World} {b : Nat} {own : Nat → Prop} (h : w.grownBy w' (some b)) (hb : own b) : Keep own w w' :=
  ⟨h.os, h.tape, h.output, h.size, fun k hk hn => h.block k hk (fun e => hn (by obtain rfl := Option.some.inj e; exact hb))⟩

theorem four_low {w w' : World} {B C G o0 o1 o2 o3 : Nat} {x0 x1 x2 x3 : Value} (hb : Below B w w') (hC : C < B) (hG : G < B)
    (h : w.cell? ⟨C, o0, none⟩ = some x0 ∧ w.cell? ⟨C, o1, none⟩ = some x1 ∧ w.cell? ⟨C, o2, none⟩ = some x2 ∧ w.cell? ⟨G, o3, none⟩ = some x3) :
    w'.cell? ⟨C, o0, none⟩ = some x0 ∧ w'.cell? ⟨C, o1, none⟩ = some x1 ∧ w'.cell? ⟨C, o2, none⟩ = some x2 ∧ w'.cell? ⟨G, o3, none⟩ = some x3 := by
  obtain ⟨h0, h1, h2, h3⟩ := h
  exact ⟨by rw [hb.cell (by exact hC)]; exact h0, by rw [hb.cell (by exact hC)]; exact h1, by rw [hb.cell (by exact hC)]; exact h2, by rw [hb.cell (by exact hG)]; exact h3⟩
theorem four_grown {w w' : World} {b C G o0 o1 o2 o3 : Nat} {x0 x1 x2 x3 : Value} (hg : w.grownBy w' (some b)) (hC : C < w.heap.size) (hG : G < w.heap.size) (hC' : C ≠ b) (hG' : G ≠ b)
    (h : w.cell? ⟨C, o0, none⟩ = some x0 ∧ w.cell? ⟨C, o1, none⟩ = some x1 ∧ w.cell? ⟨C, o2, none⟩ = some x2 ∧ w.cell? ⟨G, o3, none⟩ = some x3) :
    w'.cell? ⟨C, o0, none⟩ = some x0 ∧ w'.cell? ⟨C, o1, none⟩ = some x1 ∧ w'.cell? ⟨C, o2, none⟩ = some x2 ∧ w'.cell? ⟨G, o3, none⟩ = some x3 := by
  have c : ∀ o, w'.cell? ⟨C, o, none⟩ = w.cell? ⟨C, o, none⟩ := fun o => World.cell?_of_block (hg.block C hC (fun e => hC' (Option.some.inj e)))
  have d : ∀ o, w'.cell? ⟨G, o, none⟩ = w.cell? ⟨G, o, none⟩ := fun o => World.cell?_of_block (hg.block G hG (fun e => hG' (Option.some.inj e)))
  obtain ⟨h0, h1, h2, h3⟩ := h
  exact ⟨(c _).trans h0, (c _).trans h1, (c _).trans h2, (d _).trans h3⟩
theorem own_set {w : World} {g cap : Nat} (h : ∃ cur : Array Value, w.heap[g]? = some (.cells cur 69 (0, 0)) ∧ cur.size = cap * 3) (p : Addr) (v : Value) : ∃ cur : Array Value, (w.setCell p v).heap[g]? = some (.cells cur 69 (0, 0)) ∧ cur.size = cap * 3 := by
  obtain ⟨cur, hh, hs⟩ := h
  by_cases hp : g = p.block
  · subst hp
    refine ⟨if p.spot.isSome then cur else cur.setIfInBounds p.off v, ?_, by split <;> simp [hs]⟩
    show (w.heap.modify p.block _)[p.block]? = _
    rw [Array.getElem?_modify, if_pos rfl, hh]
    rfl
  · exact ⟨cur, (Below.heap_setCell _ _ _ _ hp).trans hh, hs⟩
/-- an element is written -/
theorem HS.set {w : World} {Q g cap bm N : Nat} {l : List Ev} {F : Int → Option Nat} (h : HS w Q g cap bm N l F) (i : Nat) (hi : i < l.length) (x : Ev) :
    HS (((w.setCell ⟨g, i * 3, none⟩ (.int .i64 x.t)).setCell ⟨g, i * 3 + 1, none⟩ (.int .i64 x.id)).setCell ⟨g, i * 3 + 2, none⟩ (.int .i64 x.item)) Q g cap bm N (l.set i x) F := by
  have hb : ∀ b, b ≠ g → (((w.setCell ⟨g, i * 3, none⟩ (.int .i64 x.t)).setCell ⟨g, i * 3 + 1, none⟩ (.int .i64 x.id)).setCell ⟨g, i * 3 + 2, none⟩ (.int .i64 x.item)).heap[b]? = w.heap[b]? := fun b hb => by
    rw [Below.heap_setCell _ _ _ _ hb, Below.heap_setCell _ _ _ _ hb, Below.heap_setCell _ _ _ _ hb]
  have c : ∀ o, (((w.setCell ⟨g, i * 3, none⟩ (.int .i64 x.t)).setCell ⟨g, i * 3 + 1, none⟩ (.int .i64 x.id)).setCell ⟨g, i * 3 + 2, none⟩ (.int .i64 x.item)).cell? ⟨Q, o, none⟩ = w.cell? ⟨Q, o, none⟩ := fun o => World.cell?_of_block (hb Q h.ne1)
  refine ⟨by rw [c, List.length_set]; exact h.q3, (c _).trans h.q4, own_set (own_set (own_set h.own _ _) _ _) _ _, ?_, by rw [List.length_set]; exact h.le, h.capb, h.map.same (hb bm (fun e => h.ne3 e.symm)), h.ne1, h.ne2, h.ne3, by have := h.Qlt; simpa [World.setCell] using this⟩
  intro j hj
  rw [List.length_set] at hj
  obtain ⟨a0, a1, a2⟩ := h.at' j hj
  obtain ⟨b0, b1, b2⟩ := h.at' i hi
  rw [gt_set hi]
  by_cases e : j = i
  · subst e
    rw [if_pos rfl]
    refine ⟨?_, ?_, ?_⟩
    · rw [World.cell?_setCell_other _ _ _ _ (by simp), World.cell?_setCell_other _ _ _ _ (by simp)]
      exact World.cell?_setCell_same _ _ _ b0
    · rw [World.cell?_setCell_other _ _ _ _ (by simp)]
      exact World.cell?_setCell_same _ _ _ (by rw [World.cell?_setCell_other _ _ _ _ (by simp)]; exact b1)
    · exact World.cell?_setCell_same _ _ _ (by rw [World.cell?_setCell_other _ _ _ _ (by simp), World.cell?_setCell_other _ _ _ _ (by simp)]; exact b2)
  · rw [if_neg e]
    refine ⟨?_, ?_, ?_⟩
    · rw [World.cell?_setCell_other _ _ _ _ (by simp <;> omega), World.cell?_setCell_other _ _ _ _ (by simp <;> omega), World.cell?_setCell_other _ _ _ _ (by simp <;> omega)]; exact a0
    · rw [World.cell?_setCell_other _ _ _ _ (by simp <;> omega), World.cell?_setCell_other _ _ _ _ (by simp <;> omega), World.cell?_setCell_other _ _ _ _ (by simp <;> omega)]; exact a1
    · rw [World.cell?_setCell_other _ _ _ _ (by simp <;> omega), World.cell?_setCell_other _ _ _ _ (by simp <;> omega), World.cell?_setCell_other _ _ _ _ (by simp <;> omega)]; exact a2
theorem HS.setMap {w w' : World} {Q g cap bm N N' : Nat} {l : List Ev} {F F' : Int → Option Nat} (h : HS w Q g cap bm N l F) (hg : w.grownBy w' (some bm)) (hM : MapAt w' bm N' F') : HS w' Q g cap bm N' l F' := by
  have hQ : w'.heap[Q]? = w.heap[Q]? := hg.block Q h.Qlt (fun e => h.ne2 (Option.some.inj e))
  have hgg : w'.heap[g]? = w.heap[g]? := hg.block g h.glt (fun e => h.ne3 (Option.some.inj e))
  have c1 : ∀ o, w'.cell? ⟨Q, o, none⟩ = w.cell? ⟨Q, o, none⟩ := fun o => World.cell?_of_block hQ
  have c2 : ∀ o, w'.cell? ⟨g, o, none⟩ = w.cell? ⟨g, o, none⟩ := fun o => World.cell?_of_block hgg
  obtain ⟨cur, hh, hsz⟩ := h.own
  exact ⟨(c1 _).trans h.q3, (c1 _).trans h.q4, ⟨cur, hgg.trans hh, hsz⟩, fun i hi => by obtain ⟨a, b, c⟩ := h.at' i hi; exact ⟨(c2 _).trans a, (c2 _).trans b, (c2 _).trans c⟩, h.le, h.capb, hM, h.ne1, h.ne2, h.ne3, Nat.lt_of_lt_of_le h.Qlt hg.size⟩
theorem keep_set (own : Nat → Prop) (g o : Nat) (v : Value) (w : World) (h : own g) : Keep own w (w.setCell ⟨g, o, none⟩ v) :=
  ⟨rfl, rfl, rfl, by simp [World.setCell], fun k hk hn => Below.heap_setCell _ _ _ _ (fun e => hn (by rw [show k = g from e]; exact h))⟩

set_option maxHeartbeats 4000000 in
theorem put_any (Q g cap bm N i : Nat) (l : List Ev) (F : Int → Option Nat) (x : Ev) (w : World) (h : HS w Q g cap bm N l F) (hi : i < l.length) (hx : wfI x.id) (hN : N < 1000000000000) (hlen : l.length ≤ 1000000) :
    Calls Try.prog 40 #[.pointer (some ⟨Q, 3, none⟩), .int .i64 i, .agg #[.int .i64 x.t, .int .i64 x.id, .int .i64 x.item]] w fun e w' => e = .returned (.tuple #[]) ∧ HS w' Q g cap bm (N + 1) (l.set i x) (upd F x.id (some i)) ∧ Keep (fun q => q = g ∨ q = bm) w w' := by
  obtain ⟨t, id, item⟩ := x
  have hQ := h.Qlt
  have hg := h.glt
  have hb0 : Below w.heap.size w (w.alloc (.cells #[.int .i64 t, .int .i64 id, .int .i64 item] 69)) := (Below.refl _ _).alloc (Nat.le_refl _) _
  obtain ⟨X, hX⟩ : ∃ X, X = w.alloc (.cells #[.int .i64 t, .int .i64 id, .int .i64 item] 69) := ⟨_, rfl⟩
  rw [← hX] at hb0
  have hXs : X.heap.size = w.heap.size + 1 := by rw [hX]; simp
  have x0 : X.cell? ⟨w.heap.size, 0, none⟩ = some (.int .i64 t) := by rw [hX]; simp
  have x1 : X.cell? ⟨w.heap.size, 1, none⟩ = some (.int .i64 id) := by rw [hX]; simp
  have x2 : X.cell? ⟨w.heap.size, 2, none⟩ = some (.int .i64 item) := by rw [hX]; simp
  have hX0 := h.below hb0
  obtain ⟨z0, z1, z2⟩ := hX0.at' i hi
  have f0 := hX0.frozen (i * 3)
  have f1 := hX0.frozen (i * 3 + 1)
  have f2 := hX0.frozen (i * 3 + 2)
  have hS : X.drew.cell? ⟨Q, 3, none⟩ = some (.slice (some ⟨g, 0, none⟩) l.length cap) ∧ X.drew.cell? ⟨w.heap.size, 0, none⟩ = some (.int .i64 t) ∧ X.drew.cell? ⟨w.heap.size, 1, none⟩ = some (.int .i64 id) ∧ X.drew.cell? ⟨w.heap.size, 2, none⟩ = some (.int .i64 item) := ⟨hX0.q3, x0, x1, x2⟩
  have y0 : X.drew.cell? ⟨g, i * 3, none⟩ = some (.int .i64 (gt l i).t) := z0
  have y1 : X.drew.cell? ⟨g, i * 3 + 1, none⟩ = some (.int .i64 (gt l i).id) := z1
  have y2 : X.drew.cell? ⟨g, i * 3 + 2, none⟩ = some (.int .i64 (gt l i).item) := z2
  have k0 : X.drew.frozen? ⟨g, i * 3, none⟩ = false := f0
  have k1 : X.drew.frozen? ⟨g, i * 3 + 1, none⟩ = false := f1
  have k2 : X.drew.frozen? ⟨g, i * 3 + 2, none⟩ = false := f2
  have HX0 := Lib.hid hX0
  have hil : (i : Int) < l.length := by omega
  have hi0 : (0 : Int) ≤ (i : Int) := by omega
  obtain ⟨L, hL⟩ : ∃ L, l.length = L := ⟨_, rfl⟩
  rw [hL] at hS hil
  have HX := Lib.hid hX
  clear hX0 hX
  go_enter Try.func40, Try.ntmps40
  go_wp2_with (fail)
  rw [← HX.out]
  go_region
  obtain ⟨Y, hY⟩ : ∃ Y, Y = ((X.setCell ⟨g, i * 3, none⟩ (.int .i64 t)).setCell ⟨g, i * 3 + 1, none⟩ (.int .i64 id)).setCell ⟨g, i * 3 + 2, none⟩ (.int .i64 item) := ⟨_, rfl⟩
  have hY0 := HX0.out.set i hi ⟨t, id, item⟩
  simp only at hY0
  rw [← hY] at hY0
  have hgX : w.heap.size ≠ g := by omega
  have hYb : Y.heap[w.heap.size]? = X.heap[w.heap.size]? := by
    rw [hY, Below.heap_setCell _ _ _ _ (by exact hgX), Below.heap_setCell _ _ _ _ (by exact hgX), Below.heap_setCell _ _ _ _ (by exact hgX)]
  have v0 : Y.drew.drew.cell? ⟨w.heap.size, 0, none⟩ = some (.int .i64 t) := (World.cell?_of_block hYb).trans x0
  have v1 : Y.drew.drew.cell? ⟨w.heap.size, 1, none⟩ = some (.int .i64 id) := (World.cell?_of_block hYb).trans x1
  have v2 : Y.drew.drew.cell? ⟨w.heap.size, 2, none⟩ = some (.int .i64 item) := (World.cell?_of_block hYb).trans x2
  have v3 : Y.drew.drew.cell? ⟨Q, 4, none⟩ = some (.map (some bm)) := hY0.q4
  have hYs : Y.heap.size = w.heap.size + 1 := by rw [hY]; simp [World.setCell, hXs]
  have hwY : w.heap.size < Y.drew.drew.heap.size := by simp; omega
  have hQY : Q < Y.drew.drew.heap.size := by simp; omega
  have hSY : Y.drew.drew.cell? ⟨w.heap.size, 0, none⟩ = some (.int .i64 t) ∧ Y.drew.drew.cell? ⟨w.heap.size, 1, none⟩ = some (.int .i64 id) ∧ Y.drew.drew.cell? ⟨w.heap.size, 2, none⟩ = some (.int .i64 item) ∧ Y.drew.drew.cell? ⟨Q, 4, none⟩ = some (.map (some bm)) := ⟨v0, v1, v2, v3⟩
  have hb01 : Keep (fun q => q = g ∨ q = bm) w Y := ((Below.keep hb0 (Nat.le_refl _) _).trans (by rw [hY]; exact (((keep_set _ g _ _ _ (.inl rfl)).trans (keep_set _ g _ _ _ (.inl rfl))).trans (keep_set _ g _ _ _ (.inl rfl)))))
  rw [← hY]
  have hi63 : i ≤ 9223372036854775807 := by omega
  have harm : ∀ w3, Below Y.drew.drew.heap.size Y.drew.drew w3 → ∃ w4, (Instr.mapUpdate 49 (.map (some bm)) (.int .i64 id) (.int .i64 (i : Int))).run Try.prog w3 = .ok () w4 ∧ HS w4 Q g cap bm (N + 1) (l.set i ⟨t, id, item⟩) (upd F id (some i)) ∧ Keep (fun q => q = g ∨ q = bm) w w4 ∧
      (w3.cell? ⟨w.heap.size, 0, none⟩ = some (.int .i64 t) ∧ w3.cell? ⟨w.heap.size, 1, none⟩ = some (.int .i64 id) ∧ w3.cell? ⟨w.heap.size, 2, none⟩ = some (.int .i64 item) ∧ w3.cell? ⟨Q, 4, none⟩ = some (.map (some bm))) ∧
      (w4.cell? ⟨w.heap.size, 0, none⟩ = some (.int .i64 t) ∧ w4.cell? ⟨w.heap.size, 1, none⟩ = some (.int .i64 id) ∧ w4.cell? ⟨w.heap.size, 2, none⟩ = some (.int .i64 item) ∧ w4.cell? ⟨Q, 4, none⟩ = some (.map (some bm))) := by
    intro w3 hb3
    have hS3 := four_low hb3 hwY hQY hSY
    have hH3 := (hY0.below ((Below.refl Y.heap.size Y).drew.drew)).below hb3
    obtain ⟨w4, hrun, hM4, hg4⟩ := hH3.map.put (by omega) id i hx hi63
    have hs3 := hb3.size
    have hbmw := h.map.lt
    have hS4 := four_grown hg4 (by omega) (by omega) (fun e => by omega) hY0.ne2 hS3
    have hk3 : Keep (fun q => q = g ∨ q = bm) Y w3 := (Below.keep ((Below.refl Y.heap.size Y).drew.drew) (Nat.le_refl _) _).trans (Below.keep hb3 (Nat.le_refl _) _)
    exact ⟨w4, hrun, hH3.setMap hg4 hM4, (hb01.trans hk3).trans (grown_keep hg4 (.inr rfl)), hS3, hS4⟩
  have HARM := Lib.hid harm
  have HY := Lib.hid hY
  have HY0 := Lib.hid hY0
  clear harm
  clear hY hY0 hYb y0 y1 y2 k0 k1 k2 z0 z1 z2 f0 f1 f2 x0 x1 x2 hS
  go_wp2_with (fail)
  go_region_held_law (fun w' => w'.cell? ⟨w.heap.size, 0, none⟩ = some (.int .i64 t) ∧ w'.cell? ⟨w.heap.size, 1, none⟩ = some (.int .i64 id) ∧ w'.cell? ⟨w.heap.size, 2, none⟩ = some (.int .i64 item) ∧ w'.cell? ⟨Q, 4, none⟩ = some (.map (some bm)))
    (first | exact hSY | assumption)
    ((first | (go_at_call 60; refine (number_any ⟨t, id, item⟩ _).mono ?_; rintro e w3 ⟨rfl, hb3⟩; obtain ⟨w4, hrun, hH4, hk4, hS3, hS4⟩ := HARM.out w3 hb3)))
  all_goals
    go_wp2_with (fail)
    exact Go.Great.bodyPost_end0 rfl rfl ⟨rfl, hH4, hk4⟩
end Go.Proofs.Ytknoigleejbjdaa
