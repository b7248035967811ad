/- The examples of the chapter: awake returns true. -/
import Derived.Test.YtknoigleejbjdaaAgQ
namespace Go.Proofs.Ytknoigleejbjdaa
open Go.RowKit
set_option linter.unusedVariables false
set_option linter.unusedSimpArgs false

theorem QO.push' {B : Nat} {oth : Nat → Prop} {w : World} {Q : Nat} {lim now : Int} {p N : Nat} {l : List Ev} (h : QO B oth w Q lim now p N l) (hoth : ∀ b, oth b → b < w.heap.size) (hN : N ≤ 1000000000) (hp : p < 1000000000) (t item i e : Int) (p' : Nat) (l' : List Ev) (h1 : pushId lim now p l t = i) (h2 : pushErr lim now l.length t = e) (h3 : pushP lim now p l t = p') (h4 : pushL lim now p l t item = l') : Calls Try.prog 13 #[.pointer (some ⟨Q, 0, none⟩), .int .i64 t, .int .i64 item] w fun r w' => r = .returned (.tuple #[.int .i64 i, .int .i64 e]) ∧ QO B oth w' Q lim now p' (N + 10000) l' ∧ Keep (Mine B oth) w w' := by
  subst h1 h2 h3 h4
  exact h.push hoth hN hp t item
theorem QO.pop' {B : Nat} {oth : Nat → Prop} {w : World} {Q : Nat} {lim now : Int} {p N : Nat} {l : List Ev} (h : QO B oth w Q lim now p N l) (hN : N ≤ 1000000000) (t id item now' : Int) (ok : Bool) (l' : List Ev) (h1 : popT l = t) (h2 : popId l = id) (h3 : popIt l = item) (h4 : popOk l = ok) (h5 : popNow now l = now') (h6 : popL l = l') : Calls Try.prog 14 #[.pointer (some ⟨Q, 0, none⟩)] w fun r w' => r = .returned (.tuple #[.agg #[.int .i64 t, .int .i64 id, .int .i64 item], .bool ok]) ∧ QO B oth w' Q lim now' p (N + 10000) l' ∧ Keep (Mine B oth) w w' := by
  subst h1 h2 h3 h4 h5 h6
  exact h.pop hN
/-- an event in a block of its own -/
def EvAt (w : World) (b : Nat) (t id item : Int) : Prop := w.heap[b]? = some (.cells #[.int .i64 t, .int .i64 id, .int .i64 item] 30)
theorem EvAt.lt {w : World} {b : Nat} {t id item : Int} (h : EvAt w b t id item) : b < w.heap.size := by
  rcases Nat.lt_or_ge b w.heap.size with q | q
  · exact q
  · unfold EvAt at h; rw [Array.getElem?_eq_none q] at h; cases h
theorem EvAt.keep {w w' : World} {b : Nat} {t id item : Int} {own : Nat → Prop} (h : EvAt w b t id item) (hk : Keep own w w') (ho : ¬ own b) : EvAt w' b t id item := (hk.block b h.lt ho).trans h
theorem EvAt.cells {w : World} {b : Nat} {t id item : Int} (h : EvAt w b t id item) : w.cell? ⟨b, 0, none⟩ = some (.int .i64 t) ∧ w.cell? ⟨b, 1, none⟩ = some (.int .i64 id) ∧ w.cell? ⟨b, 2, none⟩ = some (.int .i64 item) := by
  unfold EvAt at h
  refine ⟨?_, ?_, ?_⟩ <;> simp [World.cell?, h]

/-- an event's block is laid: the queue stays, the event is another's -/
theorem QO.lay {B : Nat} {oth oth' : Nat → Prop} {w X : World} {Q : Nat} {lim now : Int} {p N : Nat} {l : List Ev} (h : QO B oth w Q lim now p N l) {o : Obj} (hX : X = w.alloc o) (hd : ∀ b, oth' b → oth b ∨ b = w.heap.size) : QO B oth' X Q lim now p N l := by
  rw [hX]
  exact (h.grow (fun b q => (hd b q).imp id (fun e => by omega))).below ((Below.refl _ _).alloc (Nat.le_refl _) _)
theorem EvAt.lay {w X : World} {t id item : Int} (hX : X = w.alloc (.cells #[.int .i64 t, .int .i64 id, .int .i64 item] 30)) : EvAt X w.heap.size t id item := by
  rw [hX]; exact heap_alloc_new _ _
theorem EvAt.below {w w' : World} {b : Nat} {t id item : Int} (h : EvAt w b t id item) (hb : Below w.heap.size w w') : EvAt w' b t id item := (hb.block b h.lt).trans h

set_option maxHeartbeats 4000000 in
theorem awake_true (w : World) : Calls Try.prog 12 #[] w fun r w' => r = .returned (.bool true) ∧ Below w.heap.size w w' := by
  have hnew := new_QO w.heap.size (fun _ => False) 3 w (by omega) (by omega) (Nat.le_refl _) (fun _ h => h.elim)
  have HNEW := Lib.hid hnew
  clear hnew
  go_enter Try.func12, Try.ntmps12
  go_wp2_with (fail)
  refine HNEW.out.mono ?_
  rintro e w1 ⟨rfl, hb1, hq1⟩
  have hs1 := hb1.size
  have HP1 := Lib.hid (hq1.push' (fun _ h => h.elim) (by omega) (by omega) 5 1 1 0 1 [⟨5, 1, 1⟩] (by decide) (by decide) (by decide) (by decide))
  have HB1 := Lib.hid hb1
  clear hb1 hq1
  go_wp2_with (fail)
  refine HP1.out.mono ?_
  rintro e w2 ⟨rfl, hq2, hk2⟩
  have HP2 := Lib.hid (hq2.push' (fun _ h => h.elim) (by omega) (by omega) 3 2 2 0 2 [⟨5, 1, 1⟩, ⟨3, 2, 2⟩] (by decide) (by decide) (by decide) (by decide))
  have hs2 := hk2.size
  have HB2 := Lib.hid (HB1.out.trans (hk2.low (by omega)))
  clear hq2 hk2
  go_wp2_with (fail)
  refine HP2.out.mono ?_
  rintro e w3 ⟨rfl, hq3, hk3⟩
  have HP3 := Lib.hid (hq3.push' (fun _ h => h.elim) (by omega) (by omega) 5 3 3 0 3 [⟨5, 1, 1⟩, ⟨3, 2, 2⟩, ⟨5, 3, 3⟩] (by decide) (by decide) (by decide) (by decide))
  have hs3 := hk3.size
  have HB3 := Lib.hid (HB2.out.trans (hk3.low (by omega)))
  clear hq3 hk3
  go_wp2_with (fail)
  refine HP3.out.mono ?_
  rintro e w4 ⟨rfl, hq4, hk4⟩
  have HP4 := Lib.hid (hq4.pop' (by omega) 3 2 2 3 true [⟨5, 1, 1⟩, ⟨5, 3, 3⟩] (by decide) (by decide) (by decide) (by decide) (by decide) (by decide))
  have hs4 := hk4.size
  have HB4 := Lib.hid (HB3.out.trans (hk4.low (by omega)))
  clear hq4 hk4
  go_wp2_with (fail)
  refine HP4.out.mono ?_
  rintro e w5 ⟨rfl, hq5, hk5⟩
  obtain ⟨b5, hb5⟩ : ∃ b, w5.heap.size = b := ⟨_, rfl⟩
  obtain ⟨X5, hX5⟩ : ∃ X, X = w5.alloc (.cells #[.int .i64 3, .int .i64 2, .int .i64 2] 30) := ⟨_, rfl⟩
  have hx5 : X5.heap.size = b5 + 1 := by rw [hX5, ← hb5]; simp
  have hqx5 : QO w.heap.size (fun b => b = b5) X5 w.heap.size 3 3 3 40000 [⟨5, 1, 1⟩, ⟨5, 3, 3⟩] := hq5.lay hX5 (fun b q => .inr (q.trans hb5.symm))
  have he5 : EvAt X5 b5 3 2 2 := by rw [← hb5]; exact EvAt.lay hX5
  have HP5 := Lib.hid (hqx5.pop' (by omega) 5 1 1 5 true [⟨5, 3, 3⟩] (by decide) (by decide) (by decide) (by decide) (by decide) (by decide))
  have hs5 := hk5.size
  have HB5 := Lib.hid ((HB4.out.trans (hk5.low (by omega))).trans (show Below w.heap.size w5 X5 by rw [hX5]; exact (Below.refl _ _).alloc (by omega) _))
  have HE5 := Lib.hid he5
  have HX5 := Lib.hid hX5
  clear hq5 hk5 hqx5 he5 hX5
  go_wp2_with (fail)
  rw [← HX5.out]
  refine HP5.out.mono ?_
  rintro e w6 ⟨rfl, hq6, hk6⟩
  obtain ⟨b6, hb6⟩ : ∃ b, w6.heap.size = b := ⟨_, rfl⟩
  obtain ⟨X6, hX6⟩ : ∃ X, X = w6.alloc (.cells #[.int .i64 5, .int .i64 1, .int .i64 1] 30) := ⟨_, rfl⟩
  have hx6 : X6.heap.size = b6 + 1 := by rw [hX6, ← hb6]; simp
  have hs6 := hk6.size
  have hqx6 : QO w.heap.size (fun b => b = b5 ∨ b = b6) X6 w.heap.size 3 5 3 50000 [⟨5, 3, 3⟩] := hq6.lay hX6 (fun b q => q.imp id (fun q => q.trans hb6.symm))
  have hbx6 : Below w6.heap.size w6 X6 := by rw [hX6]; exact (Below.refl _ _).alloc (Nat.le_refl _) _
  have HE56 := Lib.hid ((HE5.out.keep hk6 (fun q => q.2 rfl)).below hbx6)
  have he6 : EvAt X6 b6 5 1 1 := by rw [← hb6]; exact EvAt.lay hX6
  have HP6 := Lib.hid (hqx6.pop' (by omega) 5 3 3 5 true [] (by decide) (by decide) (by decide) (by decide) (by decide) (by decide))
  have HB6 := Lib.hid ((HB5.out.trans (hk6.low (by omega))).trans (hbx6.mono (by omega)))
  have HE6 := Lib.hid he6
  have HX6 := Lib.hid hX6
  clear hq6 hk6 hqx6 he6 hX6 hbx6
  go_wp2_with (fail)
  rw [← HX6.out]
  refine HP6.out.mono ?_
  rintro e w7 ⟨rfl, hq7, hk7⟩
  obtain ⟨b7, hb7⟩ : ∃ b, w7.heap.size = b := ⟨_, rfl⟩
  obtain ⟨X7, hX7⟩ : ∃ X, X = w7.alloc (.cells #[.int .i64 5, .int .i64 3, .int .i64 3] 30) := ⟨_, rfl⟩
  have hx7 : X7.heap.size = b7 + 1 := by rw [hX7, ← hb7]; simp
  have hs7 := hk7.size
  have hqx7 : QO w.heap.size (fun b => (b = b5 ∨ b = b6) ∨ b = b7) X7 w.heap.size 3 5 3 60000 [] := hq7.lay hX7 (fun b q => q.imp id (fun q => q.trans hb7.symm))
  have hbx7 : Below w7.heap.size w7 X7 := by rw [hX7]; exact (Below.refl _ _).alloc (Nat.le_refl _) _
  have HE57 := Lib.hid ((HE56.out.keep hk7 (fun q => q.2 (.inl rfl))).below hbx7)
  have HE67 := Lib.hid ((HE6.out.keep hk7 (fun q => q.2 (.inr rfl))).below hbx7)
  have he7 : EvAt X7 b7 5 3 3 := by rw [← hb7]; exact EvAt.lay hX7
  have HP7 := Lib.hid (hqx7.push' (fun b q => by omega) (by omega) (by omega) 4 0 0 12 3 [] (by decide) (by decide) (by decide) (by decide))
  have HB7 := Lib.hid ((HB6.out.trans (hk7.low (by omega))).trans (hbx7.mono (by omega)))
  have HE7 := Lib.hid he7
  have HX7 := Lib.hid hX7
  clear hq7 hk7 hqx7 he7 hX7 hbx7
  go_wp2_with (fail)
  rw [← HX7.out]
  refine HP7.out.mono ?_
  rintro e w8 ⟨rfl, hq8, hk8⟩
  obtain ⟨e50, e51, e52⟩ := (HE57.out.keep hk8 (fun q => q.2 (.inl (.inl rfl)))).cells
  obtain ⟨e60, e61, e62⟩ := (HE67.out.keep hk8 (fun q => q.2 (.inl (.inr rfl)))).cells
  obtain ⟨e70, e71, e72⟩ := (HE7.out.keep hk8 (fun q => q.2 (.inr rfl))).cells
  have HB8 := Lib.hid (HB7.out.trans (hk8.low (by omega)))
  clear hq8 hk8
  go_wp2_with (fail)
  go_ret
  exact ⟨rfl, HB8.out⟩
end Go.Proofs.Ytknoigleejbjdaa
