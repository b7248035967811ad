/- The reference's queue: Peek, remove. -/
import Derived.Test.YtknoigleejbjdaaAgRa
import Derived.Maps.AppendAt
namespace Go.Proofs.Ytknoigleejbjdaa
open Go.RowKit
set_option linter.unusedVariables false
set_option linter.unusedSimpArgs false

set_option maxHeartbeats 4000000 in
theorem rpeek_any {w : World} {P : Nat} {lim now : Int} {p : Nat} {l : List Ev} {own : Nat → Prop} (h : RS w P lim now p l own) (hl : l.length ≤ 100000) (hi : Inc l) : Calls Try.prog 23 #[.pointer (some ⟨P, 0, none⟩)] w fun r w' => r = .returned (.tuple #[.agg #[.int .i64 (popT l), .int .i64 (popId l), .int .i64 (popIt l)], .bool (popOk l)]) ∧ Below w.heap.size w w' := by
  obtain ⟨X, hX⟩ : ∃ X, X = w.alloc (.cells #[.int .i64 0, .int .i64 0, .int .i64 0] 30) := ⟨_, rfl⟩
  have hbX : Below w.heap.size w X := by rw [hX]; exact (Below.refl _ _).alloc (Nat.le_refl _) _
  have hxs : X.heap.size = w.heap.size + 1 := by rw [hX]; simp
  have ho : ObAt X w.heap.size (.cells #[.int .i64 0, .int .i64 0, .int .i64 0] 30) := ObAt.lay hX
  have HC := Lib.hid (rfirst_any (h.below hbX) hl)
  have HOLT := Lib.hid h.olt
  have HH := Lib.hid (h.below hbX)
  have HBX := Lib.hid hbX
  have HX := Lib.hid hX
  have HO := Lib.hid ho
  have HI := Lib.hid hi
  clear h hbX hX ho hi
  go_enter Try.func23, Try.ntmps23
  go_wp2_with (fail)
  rw [← HX.out]
  refine HC.out.mono ?_
  rintro e w2 ⟨⟨bv, rfl, hbv⟩, hb2⟩
  have hs2 := hb2.size
  obtain ⟨e0, e1, e2⟩ := (HO.out.below hb2).tri
  have f0 : w2.frozen? ⟨w.heap.size, 0, none⟩ = false := by have := HO.out.below hb2; unfold ObAt at this; simp [World.frozen?, this]
  have f1 : w2.frozen? ⟨w.heap.size, 1, none⟩ = false := by have := HO.out.below hb2; unfold ObAt at this; simp [World.frozen?, this]
  have f2 : w2.frozen? ⟨w.heap.size, 2, none⟩ = false := by have := HO.out.below hb2; unfold ObAt at this; simp [World.frozen?, this]
  have HB2 := Lib.hid (HBX.out.trans (hb2.mono (by omega)))
  have HR2 := Lib.hid (HH.out.below hb2)
  clear hb2
  rcases hbv with ⟨rfl, rfl⟩ | ⟨q, rfl, hq⟩
  · go_wp2_with (fail)
    refine bodyPost_ret (v := .tuple #[.agg #[.int .i64 0, .int .i64 0, .int .i64 0], .bool false]) ?_ rfl ⟨rfl, ?_⟩
    · simp [results, Try.results23, go_sem, e0, e1, e2]
    · exact ((HB2.out.setCell (Nat.le_refl _) _).setCell (Nat.le_refl _) _).setCell (Nat.le_refl _) _
  · obtain ⟨x, c, q3, hlc, hcm, hat⟩ := HR2.out.sl
    obtain ⟨g, rfl, hg, a0, a1, a2⟩ := hat q hq.1
    have hqn := hq.1
    have hb := hq.best HI.out
    obtain ⟨n, hn⟩ : ∃ n, l.length = n := ⟨_, rfl⟩
    rw [hn] at q3 hqn
    have hq0 : ¬ (q : Int) < 0 := by omega
    have hqn' : (q : Int) < n := by omega
    have hgr : g ≠ w.heap.size := by
      obtain ⟨v, h1, h2, h3, h4⟩ := HR2.out.ex
      have : v = .slice (some ⟨g, 0, none⟩) n c := by rw [q3] at h1; exact (Option.some.inj h1).symm
      have := HOLT.out g (h3 g (by rw [this]; rfl))
      omega
    have HT := Lib.hid (show popT l = (gt l q).t ∧ popId l = (gt l q).id ∧ popIt l = (gt l q).item ∧ popOk l = true from by unfold popT popId popIt popOk; rw [hb]; exact ⟨rfl, rfl, rfl, rfl⟩)
    obtain ⟨t, ht⟩ : ∃ t, (gt l q).t = t := ⟨_, rfl⟩
    obtain ⟨id, hid⟩ : ∃ t, (gt l q).id = t := ⟨_, rfl⟩
    obtain ⟨it, hit⟩ : ∃ t, (gt l q).item = t := ⟨_, rfl⟩
    rw [ht, hid, hit] at HT
    rw [ht] at a0
    rw [hid] at a1
    rw [hit] at a2
    clear ht hid hit hb hq hat hn hlc hcm
    go_wp2_with (fail)
    refine bodyPost_ret (v := .tuple #[.agg #[.int .i64 t, .int .i64 id, .int .i64 it], .bool true]) ?_ rfl ⟨by rw [HT.out.1, HT.out.2.1, HT.out.2.2.1, HT.out.2.2.2], ?_⟩
    · simp [results, Try.results23, go_sem, e0, e1, e2]
    · exact ((HB2.out.setCell (Nat.le_refl _) _).setCell (Nat.le_refl _) _).setCell (Nat.le_refl _) _

theorem infoAEv : (Try.prog.info? 30).map (fun i => (i.zero, i.size, i.bytes)) = some (some (.agg #[.int .i64 0, .int .i64 0, .int .i64 0]), 3, 24) := by kernel_rfl
theorem evCells_one (l : List Ev) : ∀ u ∈ evCells l, u.oneCell' = true := by
  intro u hu
  unfold evCells at hu
  obtain ⟨e, _, hu⟩ := List.mem_flatMap.1 hu
  simp at hu
  rcases hu with rfl | rfl | rfl <;> rfl
theorem evCells_erase (l : List Ev) (i : Nat) (hi : i < l.length) : evCells (l.eraseIdx i) = (evCells l).take (i * 3) ++ (evCells l).drop ((i + 1) * 3) := by
  have h1 : ∀ k, k ≤ l.length → (evCells l).take (k * 3) = evCells (l.take k) ∧ (evCells l).drop (k * 3) = evCells (l.drop k) := fun k hk => by
    have e : evCells l = evCells (l.take k) ++ evCells (l.drop k) := by rw [← evCells_app, List.take_append_drop]
    have hl : (evCells (l.take k)).length = k * 3 := by rw [evCells_len, List.length_take]; congr 1; omega
    rw [e]
    exact ⟨List.take_left' hl, List.drop_left' hl⟩
  rw [List.eraseIdx_eq_take_drop_succ, evCells_app, (h1 i (by omega)).1, (h1 (i + 1) (by omega)).2]
set_option maxHeartbeats 4000000 in
theorem rremove_any {w : World} {P : Nat} {lim now : Int} {p : Nat} {l : List Ev} {own : Nat → Prop} (h : RS w P lim now p l own) (hl : l.length ≤ 100000) (i : Nat) (hi : i < l.length) : Calls Try.prog 33 #[.pointer (some ⟨P, 0, none⟩), .int .i64 i] w fun r w' => r = .returned (.tuple #[]) ∧ (∃ own' : Nat → Prop, RS w' P lim now p (l.eraseIdx i) own' ∧ ∀ b, own' b → own b ∨ w.heap.size ≤ b) ∧ Keep own w w' := by
  obtain ⟨v, q3, hrow, hvo, hvP⟩ := h.ex
  obtain ⟨n, hn⟩ : ∃ n, l.length = n := ⟨_, rfl⟩
  obtain ⟨g, c, rfl⟩ : ∃ g c, v = .slice (some ⟨g, 0, none⟩) n c := by
    rcases hrow.2 with ⟨_, e⟩ | ⟨g, cap, cur, q, _⟩
    · omega
    · exact ⟨g, cap, by rw [q, hn]⟩
  have hin : (i : Int) < n := by omega
  have hiw : IntKind.i64.wrap ((i : Int) + 1) = (i : Int) + 1 := i64_wrap_eq ⟨by omega, by omega⟩
  obtain ⟨hlc, hcm⟩ : n ≤ c ∧ c ≤ maxLen := by
    rcases hrow.2 with ⟨_, e⟩ | ⟨g', cap, cur, q, _, _, h1, h2, _⟩
    · omega
    · obtain ⟨_, _, rfl⟩ : g = g' ∧ n = l.length ∧ c = cap := by simpa using q
      exact ⟨by omega, h2⟩
  unfold maxLen at hcm
  have hP := h.Plt
  obtain ⟨X, hX⟩ : ∃ X, X = w.alloc (.cells #[] 30) := ⟨_, rfl⟩
  have hbX : Below w.heap.size w X := by rw [hX]; exact (Below.refl _ _).alloc (Nat.le_refl _) _
  have y3 : (w.alloc (.cells #[] 30)).cell? ⟨P, 3, none⟩ = some (.slice (some ⟨g, 0, none⟩) n c) := by rw [← hX, hbX.cell (by exact hP)]; exact q3
  have HH := Lib.hid h
  have HROW := Lib.hid hrow
  have HN := Lib.hid hn
  have HX := Lib.hid hX
  have HBX := Lib.hid hbX
  clear h hrow hn hX hbX
  go_enter Try.func33, Try.ntmps33
  go_wp2_with (at_builtin; refine (fun (h : Hid _) => h.out) ?_)
  refine Lib.hid ?_
  rw [← HX.out]
  have hrowX : X.ownsRow 0 30 3 (.slice (some ⟨g, 0, none⟩) n c) l.length (evCells l) := row_same HROW.out (fun b e => by
    have e' : g = b := Option.some.inj e
    rw [← e']
    exact HBX.out.block g (HH.out.olt g (hvo g rfl)))
  have hrow0 : X.ownsRow 0 30 3 (.slice (some ⟨w.heap.size, 0, none⟩) 0 0) 0 [] := ⟨rfl, .inr ⟨w.heap.size, 0, #[], rfl, Nat.zero_le _, by rw [HX.out]; exact heap_alloc_new _ _, Nat.le_refl _, Nat.zero_le _, rfl, rfl⟩⟩
  have HNEWS := Lib.hid (show ∀ j u, ((evCells l).take (i * 3))[j]? = some u → X.cell? ((⟨g, 0, none⟩ : Addr).add j) = some u from fun j u hj => by
    rw [List.getElem?_take] at hj
    split at hj
    · exact World.ownsRow.cells hrowX rfl j u hj
    · cases hj)
  have HNL := Lib.hid (show ((evCells l).take (i * 3)).length = i * 3 from by rw [List.length_take, evCells_len, HN.out]; omega)
  obtain ⟨i0, hinf, hz0, hz1, hz2⟩ := info_parts infoAEv
  refine wpList_append_own_at _ rfl (.tmp 5) (.tmp 11) 71 rfl 0 30 i0 _ 3 24 Try.underlying71 hinf hz0 hz1 hz2 rfl (by omega) (.slice (some ⟨w.heap.size, 0, none⟩) 0 0) 0 [] rfl hrow0 ⟨g, 0, none⟩ i c ((evCells l).take (i * 3)) rfl HNL.out HNEWS.out (fun u hu => evCells_one l u (List.mem_of_mem_take hu)) (by unfold maxLen; omega) (by omega) (Nat.zero_le _) ?_
  intro v1 w1 hown1 hg1 hnil1 hat1
  obtain ⟨g1, c1, rfl⟩ : ∃ g1 c1, v1 = .slice (some ⟨g1, 0, none⟩) i c1 := by
    rcases hown1.2 with ⟨q, _⟩ | ⟨b, cap, cur, q, _⟩
    · have := (hnil1.1 q).1; cases this
    · exact ⟨b, cap, by rw [q]; simp⟩
  have hxs : X.heap.size = w.heap.size + 1 := by rw [HX.out]; simp
  have hs1 := hg1.size
  have hat1' : g1 = w.heap.size ∨ g1 = X.heap.size := by
    rcases hat1 with q | q
    · exact .inl (Option.some.inj q)
    · exact .inr (Option.some.inj q)
  have hold1 : ∀ b, b < w.heap.size → w1.heap[b]? = w.heap[b]? := fun b hb => (hg1.block b (by omega) (fun e => by have e' := Option.some.inj e; simp only at e'; omega)).trans (HBX.out.block b hb)
  have z3 : w1.cell? ⟨P, 3, none⟩ = some (.slice (some ⟨g, 0, none⟩) n c) := (World.cell?_of_block (hold1 P hP)).trans q3
  have HAT1 := Lib.hid hat1'
  have HOWN1 := Lib.hid hown1
  have HOLD1 := Lib.hid hold1
  have HG1 := Lib.hid hg1
  clear hown1 hg1 hnil1 hat1 hat1' hold1 hrowX hrow0
  have HROW1 := Lib.hid (show w1.ownsRow 0 30 3 (.slice (some ⟨g, 0, none⟩) n c) l.length (evCells l) from row_same HROW.out (fun b e => by
    have e' : g = b := Option.some.inj e
    rw [← e']
    exact HOLD1.out g (HH.out.olt g (hvo g rfl))))
  have HNEWS2 := Lib.hid (show ∀ j u, ((evCells l).drop ((i + 1) * 3))[j]? = some u → w1.cell? ((⟨g, (i + 1) * 3, none⟩ : Addr).add j) = some u from fun j u hj => by
    rw [List.getElem?_drop] at hj
    have := World.ownsRow.cells HROW1.out rfl ((i + 1) * 3 + j) u hj
    rw [← this]
    congr 1
    unfold Addr.add
    by_cases e : j = 0
    · subst e; simp
    · simp [e])
  have HNL2 := Lib.hid (show ((evCells l).drop ((i + 1) * 3)).length = (n - (i + 1)) * 3 from by rw [List.length_drop, evCells_len, HN.out]; omega)
  have HONE2 := Lib.hid (show ∀ u ∈ (evCells l).drop ((i + 1) * 3), u.oneCell' = true from fun u hu => evCells_one l u (List.mem_of_mem_drop hu))
  have hn5 : 0 + i + (n - (i + 1)) = n - 1 := by omega
  have hn6 : n ≤ 100000 := by rw [← HN.out]; exact hl
  have HFIN := Lib.hid (show ∀ (v2 : Value) (w2 : World), w2.ownsRow 0 30 3 v2 (0 + i + (n - (i + 1))) (([] ++ (evCells l).take (i * 3)) ++ (evCells l).drop ((i + 1) * 3)) → w1.grownBy w2 (some g1) → (v2 = .slice none 0 0 ↔ (Value.slice (some ⟨g1, 0, none⟩) i c1) = .slice none 0 0 ∧ (n - (i + 1)) = 0) → (v2.ownBlock = some g1 ∨ v2.ownBlock = some w1.heap.size) →
      ∃ g2 c2, v2 = .slice (some ⟨g2, 0, none⟩) (n - 1) c2 ∧ w2.cell? ⟨P, 3, none⟩ = some (.slice (some ⟨g, 0, none⟩) n c) ∧ w2.frozen? ⟨P, 3, none⟩ = false ∧ (∃ own' : Nat → Prop, RS (w2.setCell ⟨P, 3, none⟩ (.slice (some ⟨g2, 0, none⟩) (n - 1) c2)) P lim now p (l.eraseIdx i) own' ∧ ∀ b, own' b → own b ∨ w.heap.size ≤ b) ∧ Keep own w (w2.setCell ⟨P, 3, none⟩ (.slice (some ⟨g2, 0, none⟩) (n - 1) c2)) from by
    intro v2 w2 hown2 hg2 hnil2 hat2
    rw [hn5, List.nil_append, ← evCells_erase l i (by rw [HN.out]; omega)] at hown2
    obtain ⟨g2, c2, rfl⟩ : ∃ g2 c2, v2 = .slice (some ⟨g2, 0, none⟩) (n - 1) c2 := by
      rcases hown2.2 with ⟨q, _⟩ | ⟨b, cap, cur, q, _⟩
      · have := (hnil2.1 q).1; cases this
      · exact ⟨b, cap, q⟩
    have hs2 := hg2.size
    have hg1w : w.heap.size ≤ g1 := by rcases HAT1.out with q | q <;> omega
    have hg2w : w.heap.size ≤ g2 ∧ g2 < w2.heap.size := by
      refine ⟨?_, (World.ownsRow.lt hown2 g2 rfl).2⟩
      rcases hat2 with q | q
      · have := Option.some.inj q; simp only at this; omega
      · have := Option.some.inj q; simp only at this; omega
    have hold2 : ∀ b, b < w.heap.size → w2.heap[b]? = w.heap[b]? := fun b hb => (hg2.block b (by omega) (fun e => by have := Option.some.inj e; omega)).trans (HOLD1.out b hb)
    have hPc := hold2 P hP
    have hPg2 : P ≠ g2 := by omega
    have hblk : ∀ b, b ≠ P → (w2.setCell ⟨P, 3, none⟩ (.slice (some ⟨g2, 0, none⟩) (n - 1) c2)).heap[b]? = w2.heap[b]? := fun b hb => Below.heap_setCell _ _ _ _ hb
    have hcs : ∀ o, o ≠ 3 → (w2.setCell ⟨P, 3, none⟩ (.slice (some ⟨g2, 0, none⟩) (n - 1) c2)).cell? ⟨P, o, none⟩ = w.cell? ⟨P, o, none⟩ := fun o ho => by
      rw [World.cell?_setCell_other _ _ _ _ (by simp [ho])]; exact World.cell?_of_block hPc
    have hln : (l.eraseIdx i).length = n - 1 := by rw [List.length_eraseIdx_of_lt (by rw [HN.out]; omega), HN.out]
    refine ⟨g2, c2, rfl, (World.cell?_of_block hPc).trans q3, (World.frozen?_of_block hPc).trans (HH.out.fz 3), ⟨fun b => own b ∨ (w.heap.size ≤ b ∧ b < w2.heap.size), ⟨⟨_, World.cell?_setCell_same _ _ _ ((World.cell?_of_block hPc).trans q3), ?_, ?_, ?_⟩, ?_, ?_, ?_, ?_, .inl HH.out.ownP, ?_⟩, ?_⟩, ?_⟩
    · rw [hln]
      exact row_same hown2 (fun b e => by
        have e' : g2 = b := Option.some.inj e
        rw [← e']
        exact hblk g2 (fun q => hPg2 q.symm))
    · intro b e
      have e' : g2 = b := Option.some.inj e
      rw [← e']
      exact .inr hg2w
    · intro e
      have e' : g2 = P := Option.some.inj e
      exact hPg2 e'.symm
    · rw [hcs 0 (by omega)]; exact HH.out.c0
    · rw [hcs 1 (by omega)]; exact HH.out.c1
    · rw [hcs 2 (by omega)]; exact HH.out.c2
    · intro o; rw [World.frozen?_setCell]; exact (World.frozen?_of_block hPc).trans (HH.out.fz o)
    · intro b q
      have : (w2.setCell ⟨P, 3, none⟩ (.slice (some ⟨g2, 0, none⟩) (n - 1) c2)).heap.size = w2.heap.size := by simp [World.setCell]
      rw [this]
      rcases q with q | q
      · have := HH.out.olt b q; omega
      · exact q.2
    · intro b q
      rcases q with q | q
      · exact .inl q
      · exact .inr q.1
    · refine ⟨?_, ?_, ?_, ?_, fun b h1 h2 => ?_⟩
      · exact hg2.os.trans (HG1.out.os.trans HBX.out.os)
      · exact hg2.tape.trans (HG1.out.tape.trans HBX.out.tape)
      · exact hg2.output.trans (HG1.out.output.trans HBX.out.output)
      · have : (w2.setCell ⟨P, 3, none⟩ (.slice (some ⟨g2, 0, none⟩) (n - 1) c2)).heap.size = w2.heap.size := by simp [World.setCell]
        omega
      · rw [hblk b (fun e => h2 (by rw [e]; exact HH.out.ownP))]; exact hold2 b h1)
  go_wp2_with (at_builtin; refine (fun (h : Hid _) => h.out) ?_)
  · rename_i hci
    refine Lib.hid ?_
    refine wpList_append_own_at _ rfl (.tmp 14) (.tmp 21) 71 rfl 0 30 i0 _ 3 24 Try.underlying71 hinf hz0 hz1 hz2 rfl (by omega) (.slice (some ⟨g1, 0, none⟩) i c1) (0 + i) ([] ++ (evCells l).take (i * 3)) rfl HOWN1.out _ _ _ ((evCells l).drop ((i + 1) * 3)) rfl HNL2.out (fun j u hj => by rw [List.eq_nil_of_length_eq_zero (by rw [HNL2.out]; omega : ((evCells l).drop ((i + 1) * 3)).length = 0)] at hj; simp at hj) HONE2.out (by unfold maxLen; omega) (by omega) (Nat.zero_le _) ?_
    intro v2 w2 hown2 hg2 hnil2 hat2
    obtain ⟨g2, c2, rfl, p3, pf, hfin⟩ := HFIN.out v2 w2 hown2 hg2 hnil2 hat2
    have HF := Lib.hid hfin
    clear hown2 hg2 hnil2 hat2 hfin
    go_wp2_with (fail)
    exact Go.Great.bodyPost_end0 rfl rfl ⟨rfl, HF.out⟩
  · rename_i hci
    refine Lib.hid ?_
    refine wpList_append_own_at _ rfl (.tmp 14) (.tmp 21) 71 rfl 0 30 i0 _ 3 24 Try.underlying71 hinf hz0 hz1 hz2 rfl (by omega) (.slice (some ⟨g1, 0, none⟩) i c1) (0 + i) ([] ++ (evCells l).take (i * 3)) rfl HOWN1.out _ _ _ ((evCells l).drop ((i + 1) * 3)) rfl HNL2.out HNEWS2.out HONE2.out (by unfold maxLen; omega) (by omega) (Nat.zero_le _) ?_
    intro v2 w2 hown2 hg2 hnil2 hat2
    obtain ⟨g2, c2, rfl, p3, pf, hfin⟩ := HFIN.out v2 w2 hown2 hg2 hnil2 hat2
    have HF := Lib.hid hfin
    clear hown2 hg2 hnil2 hat2 hfin
    go_wp2_with (fail)
    exact Go.Great.bodyPost_end0 rfl rfl ⟨rfl, HF.out⟩
end Go.Proofs.Ytknoigleejbjdaa
