/- What add does to a heap that nothing was added to yet. -/
import Derived.Test.YtknoigleejbjdaaAgJ
namespace Go.Proofs.Ytknoigleejbjdaa
open Go.RowKit
set_option linter.unusedVariables false
set_option linter.unusedSimpArgs false

set_option maxHeartbeats 8000000 in
theorem add_nil (Q N : Nat) (x : Ev) (w : World) (h : AddPre w Q N [] (fun _ => none) (.slice none 0 0) (.map none)) (hx : wfI x.id) (hN : N < 10000000000) :
    Calls Try.prog 30 #[.pointer (some ⟨Q, 3, none⟩), .agg #[.int .i64 x.t, .int .i64 x.id, .int .i64 x.item]] w fun e w' => e = .returned (.tuple #[]) ∧ AddPost w Q N [] x (.slice none 0 0) (.map none) w' := by
  obtain ⟨t, id, item⟩ := x
  have hQ := h.Qlt
  obtain ⟨i0, hinf, hz0, hz1, hz2⟩ := info_parts infoEv
  obtain ⟨X, hX⟩ : ∃ X, X = w.alloc (.cells #[.int .i64 t, .int .i64 id, .int .i64 item] 69) := ⟨_, rfl⟩
  have hbX : Below w.heap.size w X := by rw [hX]; exact (Below.refl _ _).alloc (Nat.le_refl _) _
  have hXs : X.heap.size = w.heap.size + 1 := by rw [hX]; simp
  obtain ⟨Z, hZ⟩ : ∃ Z, Z = w.setCell ⟨Q, 4, none⟩ (.map (some (w.heap.size + 1))) := ⟨_, rfl⟩
  have hZs : Z.heap.size = w.heap.size := by rw [hZ]; simp [World.setCell]
  obtain ⟨Y, hY⟩ : ∃ Y, Y = ((w.setCell ⟨Q, 4, none⟩ (.map (some (w.heap.size + 1)))).alloc (.cells #[.int .i64 t, .int .i64 id, .int .i64 item] 69)).alloc (.map #[] 0) := ⟨_, rfl⟩
  have hYZ : Y = (Z.alloc (.cells #[.int .i64 t, .int .i64 id, .int .i64 item] 69)).alloc (.map #[] 0) := by rw [hY, hZ]
  have hQX : Q ≠ w.heap.size + 1 := by omega
  have hQw : Q ≠ w.heap.size := by omega
  have wq4 : (w.alloc (.cells #[.int .i64 t, .int .i64 id, .int .i64 item] 69)).cell? ⟨Q, 4, none⟩ = some (.map none) := by rw [((Below.refl w.heap.size w).alloc (Nat.le_refl _) _).cell (by exact hQ)]; exact h.q4
  have wf4 : (w.alloc (.cells #[.int .i64 t, .int .i64 id, .int .i64 item] 69)).frozen? ⟨Q, 4, none⟩ = false := by rw [((Below.refl w.heap.size w).alloc (Nat.le_refl _) _).frozen (by exact hQ)]; exact h.f4
  have mq4 : ((w.alloc (.cells #[.int .i64 t, .int .i64 id, .int .i64 item] 69)).alloc (.map #[] 0)).cell? ⟨Q, 4, none⟩ = some (.map none) := by rw [(((Below.refl w.heap.size w).alloc (Nat.le_refl _) _).alloc (by simp) _).cell (by exact hQ)]; exact h.q4
  have mf4 : ((w.alloc (.cells #[.int .i64 t, .int .i64 id, .int .i64 item] 69)).alloc (.map #[] 0)).frozen? ⟨Q, 4, none⟩ = false := by rw [(((Below.refl w.heap.size w).alloc (Nat.le_refl _) _).alloc (by simp) _).frozen (by exact hQ)]; exact h.f4
  have hmk : (Instr.makeMap 49 none).run Try.prog (w.alloc (.cells #[.int .i64 t, .int .i64 id, .int .i64 item] 69)) = .ok (.map (some (w.heap.size + 1))) ((w.alloc (.cells #[.int .i64 t, .int .i64 id, .int .i64 item] 69)).alloc (.map #[] 0)) := by rw [← hXs, hX]; rfl
  have hZb : ∀ b, b ≠ Q → Z.heap[b]? = w.heap[b]? := fun b hb => by rw [hZ]; exact Below.heap_setCell _ _ _ _ hb
  have hZ1 : ∀ b, b < w.heap.size → (Z.alloc (.cells #[.int .i64 t, .int .i64 id, .int .i64 item] 69)).heap[b]? = Z.heap[b]? := fun b hb => heap_alloc_old _ _ (by omega)
  have hYs1 : (Z.alloc (.cells #[.int .i64 t, .int .i64 id, .int .i64 item] 69)).heap.size = w.heap.size + 1 := by simp [hZs]
  have hYs : Y.heap.size = w.heap.size + 2 := by rw [hYZ]; simp [hZs]
  have hY1 : ∀ b, b < w.heap.size + 1 → Y.heap[b]? = (Z.alloc (.cells #[.int .i64 t, .int .i64 id, .int .i64 item] 69)).heap[b]? := fun b hb => by rw [hYZ]; exact heap_alloc_old _ _ (by omega)
  have hYZb : ∀ b, b < w.heap.size → Y.heap[b]? = Z.heap[b]? := fun b hb => (hY1 b (by omega)).trans (hZ1 b hb)
  have hYc : ∀ o, o ≠ 4 → Y.cell? ⟨Q, o, none⟩ = w.cell? ⟨Q, o, none⟩ := fun o ho => by rw [World.cell?_of_block (hYZb Q hQ), hZ, World.cell?_setCell_other _ _ _ _ (by simp <;> omega)]
  have hYf : ∀ o, Y.frozen? ⟨Q, o, none⟩ = w.frozen? ⟨Q, o, none⟩ := fun o => by rw [World.frozen?_of_block (hYZb Q hQ), hZ, World.frozen?_setCell]
  have hY4 : Y.cell? ⟨Q, 4, none⟩ = some (.map (some (w.heap.size + 1))) := by rw [World.cell?_of_block (hYZb Q hQ), hZ]; exact World.cell?_setCell_same _ _ _ h.q4
  have q3 : Y.cell? ⟨Q, 3, none⟩ = some (.slice none 0 0) := (hYc 3 (by omega)).trans h.q3
  have qf : Y.frozen? ⟨Q, 3, none⟩ = false := (hYf 3).trans h.f3
  have hYx : Y.heap[w.heap.size]? = some (.cells #[.int .i64 t, .int .i64 id, .int .i64 item] 69) := by
    rw [hY1 _ (by omega), ← hZs]; exact heap_alloc_new _ _
  have a0 : Y.cell? ⟨w.heap.size, 0, none⟩ = some (.int .i64 t) := by simp [World.cell?, hYx]
  have a1 : Y.cell? ⟨w.heap.size, 1, none⟩ = some (.int .i64 id) := by simp [World.cell?, hYx]
  have a2 : Y.cell? ⟨w.heap.size, 2, none⟩ = some (.int .i64 item) := by simp [World.cell?, hYx]
  have hM : MapAt Y (w.heap.size + 1) N (fun _ => none) := by
    have m0 := MapAt.new (Z.alloc (.cells #[.int .i64 t, .int .i64 id, .int .i64 item] 69))
    rw [hYs1, ← hYZ] at m0
    exact m0.mono (Nat.zero_le _)
  have hYo : Y.os = w.os ∧ Y.tape = w.tape ∧ Y.output = w.output := by rw [hY]; exact ⟨rfl, rfl, rfl⟩
  have hYold : ∀ b, b < w.heap.size → b ≠ Q → Y.heap[b]? = w.heap[b]? := fun b h1 h2 => (hYZb b h1).trans (hZb b h2)
  have hnews : ∀ j u, [Value.int .i64 t, .int .i64 id, .int .i64 item][j]? = some u → (Y.alloc (.cells #[.int .i64 t, .int .i64 id, .int .i64 item] 69)).drew.cell? ((⟨w.heap.size + 2, 0, none⟩ : Addr).add j) = some u := by
    rw [← hYs]
    exact World.news_of_block (w := (Y.alloc (.cells #[.int .i64 t, .int .i64 id, .int .i64 item] 69)).drew) (cs := #[.int .i64 t, .int .i64 id, .int .i64 item]) (t := 69) (fr := (0, 0)) (heap_alloc_new Y _)
  have HNEWS := Lib.hid hnews
  have hQY : Q ≠ Y.heap.size := by omega
  have hQY' : Q < Y.heap.size := by omega
  have q3a : (Y.alloc (.cells #[.int .i64 t, .int .i64 id, .int .i64 item] 69)).cell? ⟨Q, 3, none⟩ = some (.slice none 0 0) := (World.cell?_of_block (heap_alloc_old _ _ hQY')).trans q3
  have hQ2 : Q ≠ w.heap.size + 2 := by omega
  have HM := Lib.hid hM
  have HYO := Lib.hid hYo
  have HYOLD := Lib.hid hYold
  have HYC := Lib.hid hYc
  have HYF := Lib.hid hYf
  have HY4 := Lib.hid hY4
  clear hnews hM hYo hYold hYc hYf hYx hYZb hY1 hYs1 hZ1 hZb hY4 hYZ hZs hZ
  have HXX := Lib.hid hX
  have HYY := Lib.hid hY
  have HH := Lib.hid h
  have HBX := Lib.hid hbX
  clear hX hY h hbX
  go_enter Try.func30, Try.ntmps30
  go_wp2_with (fail)
  rw [← HYY.out]
  clear wq4 wf4 mq4 mf4 hmk
  go_region_law ((first
    | (refine step_append_lies _ rfl (.tmp 17) (.tmp 19) 48 rfl 0 69 i0 _ 3 24 Try.underlying48 hinf hz0 hz1 hz2 rfl (by omega) (.slice none 0 0) 0 [] (by simp only [Act.eval, Act.put, List.setIfInBounds_toArray, List.set_cons_zero, List.set_cons_succ]; rfl) (World.ownsRow_nil _ _ _ _) _ 1 1 [.int .i64 t, .int .i64 id, .int .i64 item] rfl rfl HNEWS.out (by intro u hu; simp at hu; rcases hu with rfl | rfl | rfl <;> rfl) (by omega) (by unfold maxLen; omega) (by omega) (Nat.zero_le _) _ rfl ?_; intro g5 cap5 w5 hrow5 hg5 hat5 hlt5; have q5 := qfar hg5 (by simp [Value.ownBlock]) hQY' q3; have f5 := ffar hg5 (by simp [Value.ownBlock]) hQY' qf)))
  all_goals
    obtain ⟨V, hV⟩ : ∃ V, V = w5.setCell ⟨Q, 3, none⟩ (.slice (some ⟨g5, 0, none⟩) 1 cap5) := ⟨_, rfl⟩
    have hs5 : Y.heap.size + 1 ≤ w5.heap.size := by have := hg5.size; simpa using this
    have hold : ∀ b, b < Y.heap.size → w5.heap[b]? = Y.heap[b]? := fun b h1 => (hg5.block b (by simp; omega) (by simp [Value.ownBlock])).trans (heap_alloc_old _ _ h1)
    have hVb : ∀ b, b ≠ Q → V.heap[b]? = w5.heap[b]? := fun b hb => by rw [hV]; exact Below.heap_setCell _ _ _ _ hb
    have hVs : V.heap.size = w5.heap.size := by rw [hV]; simp [World.setCell]
    have hg5e : Y.heap.size + 1 ≤ g5 := by
      rcases hat5 with q | q
      · simp [Value.ownBlock] at q
      · rw [q]; simp
    have hg5Q : g5 ≠ Q := by omega
    have hg5bm : g5 ≠ w.heap.size + 1 := by omega
    have hVQ : ∀ o, o ≠ 3 → V.cell? ⟨Q, o, none⟩ = Y.cell? ⟨Q, o, none⟩ := fun o ho => by
      rw [hV, World.cell?_setCell_other _ _ _ _ (by simp <;> omega), World.cell?_of_block (hold Q hQY')]
    have hVf : ∀ o, V.frozen? ⟨Q, o, none⟩ = w.frozen? ⟨Q, o, none⟩ := fun o => by
      rw [hV, World.frozen?_setCell, World.frozen?_of_block (hold Q hQY'), HYF.out]
    have hHV : HS V Q g5 cap5 (w.heap.size + 1) N [⟨t, id, item⟩] (fun _ => none) := by
      have hbV : ∀ q, (Value.slice (some ⟨g5, 0, none⟩) 1 cap5).ownBlock = some q → V.heap[q]? = w5.heap[q]? := fun q e => by
        have e' : g5 = q := Option.some.inj e
        exact hVb q (by rw [← e']; exact hg5Q)
      have hrow5' : w5.ownsRow 0 69 3 (.slice (some ⟨g5, 0, none⟩) 1 cap5) 1 (evCells [⟨t, id, item⟩]) := hrow5
      have hrowV := row_same hrow5' hbV
      refine HS.ofRow (l := [⟨t, id, item⟩]) hrowV ?_ ((hVQ 4 (by omega)).trans HY4.out) (HM.out.same ?_) (fun e => hg5Q e.symm) (by omega) hg5bm (by rw [hVs]; omega)
      · rw [hV]; exact World.cell?_setCell_same _ _ _ q5
      · rw [hVb _ (by omega), hold _ (by omega)]
    have hids' : Ids [(⟨t, id, item⟩ : Ev)] := Ids.app (l := []) ⟨fun a b ha => by simp at ha, fun j hj => by simp at hj⟩ ⟨t, id, item⟩ hx (fun j hj => by simp at hj)
    have hup := Heap.app (l := []) (fun i h0 hi => absurd hi (by simp)) ⟨t, id, item⟩
    have hce := Cons.app (l := []) (F := fun _ => none) ⟨fun j hj => by simp at hj, fun k hk => absurd rfl hk⟩ ⟨t, id, item⟩
    simp only [List.nil_append, List.length_nil] at hup hce
    have HCU := Lib.hid (up_any Q g5 cap5 (w.heap.size + 1) N 0 _ (fun _ => none) True V hHV (by simp) hids' hup.ex (fun _ => hup) hce (by omega) (by simp))
    have V3 := hHV.q3
    simp only [List.length_singleton] at V3
    have hkV : Keep (fun q => q = Q) w V := ⟨by rw [hV]; exact hg5.os.trans HYO.out.1, by rw [hV]; exact hg5.tape.trans HYO.out.2.1, by rw [hV]; exact hg5.output.trans HYO.out.2.2, by omega, fun k h1 h2 => by rw [hVb k h2, hold k (by omega), HYOLD.out k h1 h2]⟩
    have HKV := Lib.hid hkV
    have hVc : ∀ o, o ≠ 3 → o ≠ 4 → V.cell? ⟨Q, o, none⟩ = w.cell? ⟨Q, o, none⟩ := fun o h3 h4 => (hVQ o h3).trans (HYC.out o h4)
    have HVQ := Lib.hid hVc
    have HVF := Lib.hid hVf
    rw [← hV]
    clear hV hold hVb hHV hids' hup hce hkV hVQ hVc hVf hrow5 hg5 q5 f5
    go_wp2_with (fail)
    refine HCU.out.mono ?_
    rintro e w6 ⟨rfl, hp⟩
    obtain ⟨v6, F6, N6, k, hH6, hN6, hperm6, -, -, -, hheap6, hcons6⟩ := hp.ex
    have hfin : AddPost w Q N [] ⟨t, id, item⟩ (.slice none 0 0) (.map none) w6 := by
      have hblk := hp.keep.block
      refine ⟨⟨g5, cap5, w.heap.size + 1, v6, F6, N6, hH6, by simp only [List.length_nil] ; omega, hperm6, hheap6 trivial, hcons6, .inr (by omega), .inr (by omega)⟩, ⟨hp.keep.os.trans HKV.out.os, hp.keep.tape.trans HKV.out.tape, hp.keep.output.trans HKV.out.output, Nat.le_trans HKV.out.size hp.keep.size, fun k h1 h2 => ?_⟩, fun o h3 h4 => ?_, fun o => ?_⟩
      · rw [hblk k (Nat.lt_of_lt_of_le h1 HKV.out.size) (by omega)]
        exact HKV.out.block k h1 (fun q => h2 (.inl q))
      · rw [World.cell?_of_block (hblk Q (by omega) (fun q => by rcases q with q | q <;> omega))]; exact HVQ.out o h3 h4
      · rw [World.frozen?_of_block (hblk Q (by omega) (fun q => by rcases q with q | q <;> omega))]; exact HVF.out o
    go_wp2_with (fail)
    exact Go.Great.bodyPost_end0 rfl rfl ⟨rfl, hfin⟩
end Go.Proofs.Ytknoigleejbjdaa
