/- The reference's queue: Pop, Cancel, refused pushes. -/
import Derived.Test.YtknoigleejbjdaaAgRb
namespace Go.Proofs.Ytknoigleejbjdaa
open Go.RowKit
set_option linter.unusedVariables false
set_option linter.unusedSimpArgs false

/-- what a call leaves of the reference's queue -/
def RPost (w : World) (P : Nat) (lim now : Int) (p : Nat) (l : List Ev) (own : Nat → Prop) (w' : World) : Prop := (∃ own' : Nat → Prop, RS w' P lim now p l own' ∧ ∀ b, own' b → own b ∨ w.heap.size ≤ b) ∧ Keep own w w'
theorem RPost.same {w w' : World} {P : Nat} {lim now : Int} {p : Nat} {l : List Ev} {own : Nat → Prop} (h : RS w P lim now p l own) (hb : Below w.heap.size w w') : RPost w P lim now p l own w' := ⟨⟨own, h.below hb, fun b q => .inl q⟩, Below.keep hb (Nat.le_refl _) _⟩

set_option maxHeartbeats 4000000 in
theorem rpop_any {w : World} {P : Nat} {lim now : Int} {p : Nat} {l : List Ev} {own : Nat → Prop} (h : RS w P lim now p l own) (hl : l.length ≤ 100000) (hi : Inc l) : Calls Try.prog 22 #[.pointer (some ⟨P, 0, none⟩)] w fun r w' => r = .returned (.tuple #[.agg #[.int .i64 (popT l), .int .i64 (popId l), .int .i64 (popIt l)], .bool (popOk l)]) ∧ RPost w P lim (popNow now l) p (popL l) own w' := by
  obtain ⟨X, hX⟩ : ∃ X, X = w.alloc (.cells #[.int .i64 0, .int .i64 0, .int .i64 0] 30) := ⟨_, rfl⟩
  have hbX : Below w.heap.size w X := by rw [hX]; exact (Below.refl _ _).alloc (Nat.le_refl _) _
  have hxs : X.heap.size = w.heap.size + 1 := by rw [hX]; simp
  have ho : ObAt X w.heap.size (.cells #[.int .i64 0, .int .i64 0, .int .i64 0] 30) := ObAt.lay hX
  have HC := Lib.hid (rfirst_any (h.below hbX) hl)
  have HOLT := Lib.hid h.olt
  have HRS := Lib.hid h
  have HH := Lib.hid (h.below hbX)
  have HBX := Lib.hid hbX
  have HX := Lib.hid hX
  have HO := Lib.hid ho
  have HI := Lib.hid hi
  have hP := h.Plt
  clear h hbX hX ho hi
  go_enter Try.func22, Try.ntmps22
  go_wp2_with (fail)
  rw [← HX.out]
  refine HC.out.mono ?_
  rintro e w2 ⟨⟨bv, rfl, hbv⟩, hb2⟩
  have hs2 := hb2.size
  have ho2 := HO.out.below hb2
  have HB2 := Lib.hid (HBX.out.trans (hb2.mono (by omega)))
  have HR2 := Lib.hid (HH.out.below hb2)
  clear hb2
  rcases hbv with ⟨rfl, rfl⟩ | ⟨q, rfl, hq⟩
  · obtain ⟨e0, e1, e2⟩ := ho2.tri
    have f0 : w2.frozen? ⟨w.heap.size, 0, none⟩ = false := by unfold ObAt at ho2; simp [World.frozen?, ho2]
    have f1 : w2.frozen? ⟨w.heap.size, 1, none⟩ = false := by unfold ObAt at ho2; simp [World.frozen?, ho2]
    have f2 : w2.frozen? ⟨w.heap.size, 2, none⟩ = false := by unfold ObAt at ho2; simp [World.frozen?, ho2]
    clear ho2
    go_wp2_with (fail)
    refine bodyPost_ret (v := .tuple #[.agg #[.int .i64 0, .int .i64 0, .int .i64 0], .bool false]) ?_ rfl ⟨rfl, ?_⟩
    · simp [results, Try.results22, go_sem, e0, e1, e2]
    · exact RPost.same HRS.out (((HB2.out.setCell (Nat.le_refl _) _).setCell (Nat.le_refl _) _).setCell (Nat.le_refl _) _)
  · obtain ⟨x, c, q3, hlc, hcm, hat⟩ := HR2.out.sl
    obtain ⟨g, rfl, hg, a0, a1, a2⟩ := hat q hq.1
    have hqn := hq.1
    have hb := hq.best HI.out
    obtain ⟨n, hn⟩ : ∃ n, l.length = n := ⟨_, rfl⟩
    rw [hn] at q3 hqn
    have hq0 : ¬ (q : Int) < 0 := by omega
    have hqn' : (q : Int) < n := by omega
    have HT := Lib.hid (show popT l = (gt l q).t ∧ popId l = (gt l q).id ∧ popIt l = (gt l q).item ∧ popOk l = true ∧ popNow now l = (gt l q).t ∧ popL l = l.eraseIdx q from by unfold popT popId popIt popOk popNow; rw [hb]; exact ⟨rfl, rfl, rfl, rfl, rfl, hq.popL HI.out⟩)
    obtain ⟨t, ht⟩ : ∃ t, (gt l q).t = t := ⟨_, rfl⟩
    obtain ⟨id, hid⟩ : ∃ t, (gt l q).id = t := ⟨_, rfl⟩
    obtain ⟨it, hit⟩ : ∃ t, (gt l q).item = t := ⟨_, rfl⟩
    rw [ht, hid, hit] at HT
    rw [ht] at a0
    rw [hid] at a1
    rw [hit] at a2
    obtain ⟨Y, hY⟩ : ∃ Y, Y = w2.alloc (.cells #[.int .i64 t, .int .i64 id, .int .i64 it] 30) := ⟨_, rfl⟩
    have hbY : Below w2.heap.size w2 Y := by rw [hY]; exact (Below.refl _ _).alloc (Nat.le_refl _) _
    have hys : Y.heap.size = w2.heap.size + 1 := by rw [hY]; simp
    have hoY : ObAt Y w2.heap.size (.cells #[.int .i64 t, .int .i64 id, .int .i64 it] 30) := ObAt.lay hY
    have HCR := Lib.hid (rremove_any (HR2.out.below hbY) hl q hq.1)
    have HOY := Lib.hid hoY
    have HOX := Lib.hid (ho2.below hbY)
    have HBY := Lib.hid (HB2.out.trans (hbY.mono (by omega)))
    have HY := Lib.hid hY
    clear ht hid hit hb hq hat hn hlc hcm hY hbY hoY ho2
    go_wp2_with (fail)
    rw [← HY.out]
    refine HCR.out.mono ?_
    rintro e w3 ⟨rfl, ⟨own', hr3, hn3⟩, hk3⟩
    have hs3 := hk3.size
    have hnr : ¬ own w.heap.size := fun z => by have := HOLT.out _ z; omega
    have hn2 : ¬ own w2.heap.size := fun z => by have := HOLT.out _ z; omega
    have ho3 := HOX.out.keep hk3 hnr
    obtain ⟨e0, e1, e2⟩ := ho3.tri
    have f0 : w3.frozen? ⟨w.heap.size, 0, none⟩ = false := by unfold ObAt at ho3; simp [World.frozen?, ho3]
    have f1 : w3.frozen? ⟨w.heap.size, 1, none⟩ = false := by unfold ObAt at ho3; simp [World.frozen?, ho3]
    have f2 : w3.frozen? ⟨w.heap.size, 2, none⟩ = false := by unfold ObAt at ho3; simp [World.frozen?, ho3]
    obtain ⟨y0, y1, y2⟩ := (HOY.out.keep hk3 hn2).tri
    have p1 := hr3.c1
    have pf := hr3.fz 1
    have d1 : P ≠ w.heap.size := by omega
    have d2 : w2.heap.size ≠ P := by omega
    have d3 : w2.heap.size ≠ w.heap.size := by omega
    have HFIN := Lib.hid (show RPost w P lim t p (l.eraseIdx q) own ((((w3.setCell ⟨P, 1, none⟩ (.int .i64 t)).setCell ⟨w.heap.size, 0, none⟩ (.int .i64 t)).setCell ⟨w.heap.size, 1, none⟩ (.int .i64 id)).setCell ⟨w.heap.size, 2, none⟩ (.int .i64 it)) from by
      have hblk : ∀ b, b ≠ P → b ≠ w.heap.size → ((((w3.setCell ⟨P, 1, none⟩ (.int .i64 t)).setCell ⟨w.heap.size, 0, none⟩ (.int .i64 t)).setCell ⟨w.heap.size, 1, none⟩ (.int .i64 id)).setCell ⟨w.heap.size, 2, none⟩ (.int .i64 it)).heap[b]? = w3.heap[b]? := fun b h1 h2 => by
        rw [Below.heap_setCell _ _ _ _ h2, Below.heap_setCell _ _ _ _ h2, Below.heap_setCell _ _ _ _ h2, Below.heap_setCell _ _ _ _ h1]
      have hsz : ((((w3.setCell ⟨P, 1, none⟩ (.int .i64 t)).setCell ⟨w.heap.size, 0, none⟩ (.int .i64 t)).setCell ⟨w.heap.size, 1, none⟩ (.int .i64 id)).setCell ⟨w.heap.size, 2, none⟩ (.int .i64 it)).heap.size = w3.heap.size := by simp [World.setCell]
      have hcs : ∀ o, o ≠ 1 → ((((w3.setCell ⟨P, 1, none⟩ (.int .i64 t)).setCell ⟨w.heap.size, 0, none⟩ (.int .i64 t)).setCell ⟨w.heap.size, 1, none⟩ (.int .i64 id)).setCell ⟨w.heap.size, 2, none⟩ (.int .i64 it)).cell? ⟨P, o, none⟩ = w3.cell? ⟨P, o, none⟩ := fun o h1 => by
        rw [World.cell?_setCell_other _ _ _ _ (by simp <;> omega), World.cell?_setCell_other _ _ _ _ (by simp <;> omega), World.cell?_setCell_other _ _ _ _ (by simp <;> omega), World.cell?_setCell_other _ _ _ _ (by simp [h1])]
      obtain ⟨v, h1, h2, h3, h4⟩ := hr3.ex
      have hP' : own' P := hr3.ownP
      have hnw : ¬ own' w.heap.size := fun z => by
        rcases hn3 _ z with z | z
        · exact hnr z
        · omega
      refine ⟨⟨own', ⟨⟨v, (hcs 3 (by omega)).trans h1, row_same h2 (fun b e => hblk b (fun e2 => h4 (by rw [← e2]; exact e)) (fun e2 => hnw (by rw [← e2]; exact h3 b e))), h3, h4⟩, (hcs 0 (by omega)).trans hr3.c0, ?_, (hcs 2 (by omega)).trans hr3.c2, ?_, hP', fun b q => by rw [hsz]; exact hr3.olt b q⟩, fun b q => ?_⟩, ?_⟩
      · rw [World.cell?_setCell_other _ _ _ _ (by simp <;> omega), World.cell?_setCell_other _ _ _ _ (by simp <;> omega), World.cell?_setCell_other _ _ _ _ (by simp <;> omega)]
        exact World.cell?_setCell_same _ _ _ p1
      · intro o
        rw [World.frozen?_setCell, World.frozen?_setCell, World.frozen?_setCell, World.frozen?_setCell]
        exact hr3.fz o
      · rcases hn3 b q with q | q
        · exact .inl q
        · exact .inr (by omega)
      · refine ⟨hk3.os.trans HBY.out.os, hk3.tape.trans HBY.out.tape, hk3.output.trans HBY.out.output, by omega, fun b h1 h2 => ?_⟩
        rw [hblk b (fun e => h2 (by rw [e]; exact HRS.out.ownP)) (by omega), hk3.block b (by omega) h2]
        exact HBY.out.block b h1)
    clear ho3 hr3 hn3 hk3
    go_wp2_with (fail)
    refine bodyPost_ret (v := .tuple #[.agg #[.int .i64 t, .int .i64 id, .int .i64 it], .bool true]) ?_ rfl ⟨by rw [HT.out.1, HT.out.2.1, HT.out.2.2.1, HT.out.2.2.2.1], ?_⟩
    · simp [results, Try.results22, go_sem, e0, e1, e2]
    · rw [HT.out.2.2.2.2.1, HT.out.2.2.2.2.2]
      exact HFIN.out

theorem can_at {l : List Ev} {key : Int} : ∀ {k : Nat}, k < l.length → (∀ j, j < k → (gt l j).id ≠ key) → (gt l k).id = key → canL l key = l.eraseIdx k ∧ canOk l key = true := by
  induction l with
  | nil => intro k hk; simp at hk
  | cons x r ih =>
    intro k hk hj he
    cases k with
    | zero =>
      have e : x.id = key := he
      refine ⟨?_, by unfold canOk; simp [e]⟩
      unfold canL
      rw [List.eraseP_cons_of_pos (by simpa using e)]; rfl
    | succ k =>
      have e : x.id ≠ key := hj 0 (by omega)
      have hk' : k < r.length := by simpa using hk
      obtain ⟨h1, h2⟩ := ih hk' (fun j q => hj (j + 1) (by omega)) he
      refine ⟨?_, by unfold canOk at h2 ⊢; simp [h2]⟩
      unfold canL at h1 ⊢
      rw [List.eraseP_cons_of_neg (by simpa using e), h1]; rfl
theorem can_none {l : List Ev} {key : Int} (h : ∀ j, j < l.length → (gt l j).id ≠ key) : canL l key = l ∧ canOk l key = false := by
  have hno : ∀ e ∈ l, e.id ≠ key := fun e he => by
    obtain ⟨j, hj, rfl⟩ := List.mem_iff_getElem.1 he
    have := h j hj
    rwa [gt_eq hj] at this
  refine ⟨canL_no hno, ?_⟩
  unfold canOk
  rw [List.any_eq_false]
  intro e he
  simpa using hno e he
set_option maxHeartbeats 4000000 in
theorem rcancel_any {w : World} {P : Nat} {lim now : Int} {p : Nat} {l : List Ev} {own : Nat → Prop} (h : RS w P lim now p l own) (hl : l.length ≤ 100000) (key : Int) : Calls Try.prog 24 #[.pointer (some ⟨P, 0, none⟩), .int .i64 key] w fun r w' => r = .returned (.bool (canOk l key)) ∧ RPost w P lim now p (canL l key) own w' := by
  obtain ⟨x, c, q3, hlc, hcm, hat⟩ := h.sl
  obtain ⟨n, hn⟩ : ∃ n, l.length = n := ⟨_, rfl⟩
  rw [hn] at q3 hat
  have hn6 : n ≤ 100000 := by omega
  have HAT := Lib.hid hat
  have HN := Lib.hid hn
  have HH := Lib.hid h
  clear h hat hn hlc hcm
  go_enter Try.func24, Try.ntmps24
  go_wp2_with (fail)
  go_loopw [5] (fun ki wr => ∃ (k : Nat), k ≤ n ∧ ki = .int .i64 k ∧ Hid (∀ j, j < k → (gt l j).id ≠ key) ∧ wr = w) (fun ki _ => n - (intOf ki).toNat)
  case atStart => exact ⟨0, by omega, rfl, Lib.hid (fun j hj => by omega), rfl⟩
  case round =>
    obtain ⟨k, hk, rfl, HJ, rfl⟩ := hrel
    have hkw : IntKind.i64.wrap ((k : Int) + 1) = (k : Int) + 1 := i64_wrap_eq ⟨by omega, by omega⟩
    by_cases hkn : k < n
    · obtain ⟨g, rfl, hg, a0, a1, a2⟩ := HAT.out k hkn
      obtain ⟨id, hid⟩ : ∃ t, (gt l k).id = t := ⟨_, rfl⟩
      rw [hid] at a1
      have HID := Lib.hid hid
      clear hid a0 a2
      by_cases he : id = key
      · subst he
        obtain ⟨c1, c2⟩ := can_at (show k < l.length by rw [HN.out]; exact hkn) HJ.out HID.out
        have HC := Lib.hid (rremove_any HH.out hl k (by rw [HN.out]; exact hkn))
        have HCN := Lib.hid (And.intro c1 c2)
        clear c1 c2
        go_wp2_with (fail)
        refine HC.out.mono ?_
        rintro e w3 ⟨rfl, hp⟩
        have HP := Lib.hid hp
        clear hp
        go_wp2_with (fail)
        go_ret
        rw [HCN.out.1, HCN.out.2]
        exact ⟨rfl, HP.out⟩
      · go_wp2_with (fail)
        go_roundw
        case rel => exact ⟨k + 1, by omega, by go_num, Lib.hid (fun j hj => by
          by_cases e : j = k
          · subst e; rw [HID.out]; exact he
          · exact HJ.out j (by omega)), trivial⟩
        case measure => simp [intOf]; omega
    · obtain rfl : k = n := by omega
      obtain ⟨c1, c2⟩ := can_none (l := l) (key := key) (fun j hj => HJ.out j (by rw [← HN.out]; exact hj))
      have HCN := Lib.hid (And.intro c1 c2)
      clear c1 c2
      go_wp2_with (fail)
      go_ret
      rw [HCN.out.1, HCN.out.2]
      exact ⟨rfl, RPost.same HH.out (Below.refl _ _)⟩
set_option maxHeartbeats 2000000 in
theorem rpush_no {w : World} {P : Nat} {lim now : Int} {p : Nat} {l : List Ev} {own : Nat → Prop} (h : RS w P lim now p l own) (at' item : Int) (he : pushErr lim now l.length at' ≠ 0) : Calls Try.prog 21 #[.pointer (some ⟨P, 0, none⟩), .int .i64 at', .int .i64 item] w fun r w' => r = .returned (.tuple #[.int .i64 0, .int .i64 (pushErr lim now l.length at')]) ∧ Below w.heap.size w w' := by
  have c0 := h.c0
  have c1 := h.c1
  obtain ⟨x, c, q3, -, -, -⟩ := h.sl
  obtain ⟨E, hE⟩ : ∃ E, pushErr lim now l.length at' = E := ⟨_, rfl⟩
  rw [hE] at he ⊢
  obtain ⟨L, hL⟩ : ∃ L, l.length = L := ⟨_, rfl⟩
  rw [hL] at q3 hE
  unfold pushErr at hE
  have HH := Lib.hid h
  clear h hL
  by_cases h1 : at' < 0
  · rw [if_pos h1] at hE
    subst hE
    go_enter Try.func21, Try.ntmps21
    go_wp2_with (fail)
    go_ret2
    exact ⟨rfl, Below.refl _ _⟩
  · rw [if_neg h1] at hE
    by_cases h2 : at' < now
    · rw [if_pos h2] at hE
      subst hE
      go_enter Try.func21, Try.ntmps21
      go_wp2_with (fail)
      go_ret2
      exact ⟨rfl, Below.refl _ _⟩
    · rw [if_neg h2] at hE
      by_cases h3 : lim ≤ (L : Int)
      · rw [if_pos h3] at hE
        subst hE
        have d3 : World.cell? w.drew ⟨P, 3, none⟩ = some (.slice x L c) := q3
        have d0 : World.cell? w.drew ⟨P, 0, none⟩ = some (.int .i64 lim) := c0
        go_enter Try.func21, Try.ntmps21
        go_wp2_with (fail)
        go_region
        all_goals
          go_wp2_with (fail)
          go_ret2
          exact ⟨rfl, (Below.refl _ _).drew⟩
      · rw [if_neg h3] at hE
        exact absurd hE.symm he
end Go.Proofs.Ytknoigleejbjdaa
