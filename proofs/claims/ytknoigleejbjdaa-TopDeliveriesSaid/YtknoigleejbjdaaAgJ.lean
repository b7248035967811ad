/- What add does. -/
import Derived.Test.YtknoigleejbjdaaAgI
namespace Go.Proofs.Ytknoigleejbjdaa
open Go.RowKit
set_option linter.unusedVariables false
set_option linter.unusedSimpArgs false

@[go_sem] theorem map_eql_some (b : Nat) (w : World) : Sem.run Try.prog (binOp BinOp.eql 49 (.map (some b)) (.map none)) w = .ok (.bool false) w := by kernel_rfl
@[go_sem] theorem map_eql_none (w : World) : Sem.run Try.prog (binOp BinOp.eql 49 (.map none) (.map none)) w = .ok (.bool true) w := by kernel_rfl
theorem qfar {X w5 : World} {o : Obj} {v u : Value} {Q : Nat} (hg : (X.alloc o).drew.grownBy w5 v.ownBlock) (hv : v.ownBlock ≠ some Q) (hQ : Q < X.heap.size) (h : X.cell? ⟨Q, 3, none⟩ = some u) : w5.cell? ⟨Q, 3, none⟩ = some u := by
  rw [World.cell?_of_block (w := X) (a := ⟨Q, 3, none⟩) ((hg.block Q (by simp; omega) (fun e => hv e.symm)).trans (heap_alloc_old _ _ hQ))]; exact h
theorem ffar {X w5 : World} {o : Obj} {v : Value} {Q : Nat} {b : Bool} (hg : (X.alloc o).drew.grownBy w5 v.ownBlock) (hv : v.ownBlock ≠ some Q) (hQ : Q < X.heap.size) (h : X.frozen? ⟨Q, 3, none⟩ = b) : w5.frozen? ⟨Q, 3, none⟩ = b := by
  rw [World.frozen?_of_block (w := X) (a := ⟨Q, 3, none⟩) ((hg.block Q (by simp; omega) (fun e => hv e.symm)).trans (heap_alloc_old _ _ hQ))]; exact h
theorem row_same {B size : Nat} {wr wr' : World} {e : TypeId} {v : Value} {n : Nat} {xs : List Value} (h : wr.ownsRow B e size v n xs) (hb : ∀ g, v.ownBlock = some g → wr'.heap[g]? = wr.heap[g]?) : wr'.ownsRow B e size v n xs := by
  refine ⟨h.1, ?_⟩
  rcases h.2 with q | ⟨b, c, cur, hvb, hb', hh, rest⟩
  · exact .inl q
  · exact .inr ⟨b, c, cur, hvb, hb', (hb b (by rw [hvb]; rfl)).trans hh, rest⟩
structure AddPost (w : World) (Q N : Nat) (l : List Ev) (x : Ev) (v mv : Value) (w' : World) : Prop where
  ex : ∃ (g cap bm : Nat) (l' : List Ev) (F : Int → Option Nat) (N' : Nat), HS w' Q g cap bm N' l' F ∧ N' ≤ N + l.length + 5 ∧ l'.Perm (l ++ [x]) ∧ Heap l' ∧ Cons l' F ∧ (v.ownBlock = some g ∨ w.heap.size ≤ g) ∧ (mv = .map (some bm) ∨ w.heap.size ≤ bm)
  keep : Keep (fun q => q = Q ∨ v.ownBlock = some q ∨ mv = .map (some q)) w w'
  cells : ∀ o, o ≠ 3 → o ≠ 4 → w'.cell? ⟨Q, o, none⟩ = w.cell? ⟨Q, o, none⟩
  froz : ∀ o, w'.frozen? ⟨Q, o, none⟩ = w.frozen? ⟨Q, o, none⟩

set_option maxHeartbeats 8000000 in
theorem add_any (Q N bm : Nat) (l : List Ev) (F : Int → Option Nat) (v : Value) (x : Ev) (w : World) (h : AddPre w Q N l F v (.map (some bm))) (hids : Ids l) (hheap : Heap l) (hcons : Cons l F) (hx : wfI x.id) (hn : ∀ j, j < l.length → (gt l j).id ≠ x.id) (hN : N < 10000000000) (hlen : l.length ≤ 100000) :
    Calls Try.prog 30 #[.pointer (some ⟨Q, 3, none⟩), .agg #[.int .i64 x.t, .int .i64 x.id, .int .i64 x.item]] w fun e w' => e = .returned (.tuple #[]) ∧ AddPost w Q N l x v (.map (some bm)) w' := by
  obtain ⟨t, id, item⟩ := x
  have hQ := h.Qlt
  obtain ⟨i0, hinf, hz0, hz1, hz2⟩ := info_parts infoEv
  obtain ⟨X, hX⟩ : ∃ X, X = w.alloc (.cells #[.int .i64 t, .int .i64 id, .int .i64 item] 69) := ⟨_, rfl⟩
  have hbX : Below w.heap.size w X := by rw [hX]; exact (Below.refl _ _).alloc (Nat.le_refl _) _
  have hXs : X.heap.size = w.heap.size + 1 := by rw [hX]; simp
  have a0 : X.cell? ⟨w.heap.size, 0, none⟩ = some (.int .i64 t) := by rw [hX]; simp
  have a1 : X.cell? ⟨w.heap.size, 1, none⟩ = some (.int .i64 id) := by rw [hX]; simp
  have a2 : X.cell? ⟨w.heap.size, 2, none⟩ = some (.int .i64 item) := by rw [hX]; simp
  have q3 : X.cell? ⟨Q, 3, none⟩ = some v := by rw [hbX.cell (by exact hQ)]; exact h.q3
  have q4 : X.cell? ⟨Q, 4, none⟩ = some (.map (some bm)) := by rw [hbX.cell (by exact hQ)]; exact h.q4
  have qf : X.frozen? ⟨Q, 3, none⟩ = false := by rw [hbX.frozen (by exact hQ)]; exact h.f3
  have hrow : X.ownsRow 0 69 3 v l.length (evCells l) := by rw [hX]; exact h.row.alloc _
  obtain ⟨L, hL⟩ : ∃ L, l.length = L := ⟨_, rfl⟩
  rw [hL] at hrow
  have HROW := Lib.hid hrow
  have HXX := Lib.hid hX
  have HBX := Lib.hid hbX
  have HH := Lib.hid h
  have HLL := Lib.hid hL
  have HIDS := Lib.hid hids
  have HHEAP := Lib.hid hheap
  have HCONS := Lib.hid hcons
  have HNN := Lib.hid hn
  have hnews : ∀ j u, [Value.int .i64 t, .int .i64 id, .int .i64 item][j]? = some u → (X.alloc (.cells #[.int .i64 t, .int .i64 id, .int .i64 item] 69)).drew.cell? ((⟨w.heap.size + 1, 0, none⟩ : Addr).add j) = some u := by
    rw [← hXs]
    exact World.news_of_block (w := (X.alloc (.cells #[.int .i64 t, .int .i64 id, .int .i64 item] 69)).drew) (cs := #[.int .i64 t, .int .i64 id, .int .i64 item]) (t := 69) (fr := (0, 0)) (heap_alloc_new X _)
  have HNEWS := Lib.hid hnews
  clear hnews
  have hQX : Q ≠ X.heap.size := by omega
  have hQw : Q ≠ w.heap.size := by omega
  have hQX' : Q < X.heap.size := by omega
  have wq4 : (w.alloc (.cells #[.int .i64 t, .int .i64 id, .int .i64 item] 69)).cell? ⟨Q, 4, none⟩ = some (.map (some bm)) := by rw [← HXX.out]; exact q4
  have hvQ : v.ownBlock ≠ some Q := fun e => HH.out.far Q e rfl
  clear hX hbX h hids hheap hcons hn hrow
  go_enter Try.func30, Try.ntmps30
  go_wp2_with (fail)
  rw [← HXX.out]
  clear wq4
  go_region_law ((first
    | (refine step_append_lies _ rfl (.tmp 17) (.tmp 19) 48 rfl 0 69 i0 _ 3 24 Try.underlying48 hinf hz0 hz1 hz2 rfl (by omega) v L (evCells l) (by simp only [Act.eval, Act.put, List.setIfInBounds_toArray, List.set_cons_zero, List.set_cons_succ]; rfl) (HROW.out.alloc _) _ 1 1 [.int .i64 t, .int .i64 id, .int .i64 item] rfl rfl HNEWS.out (by intro u hu; simp at hu; rcases hu with rfl | rfl | rfl <;> rfl) (by omega) (by unfold maxLen; omega) (by omega) (Nat.zero_le _) _ rfl ?_; intro g5 cap5 w5 hrow5 hg5 hat5 hlt5; have q5 := qfar hg5 hvQ hQX' q3; have f5 := ffar hg5 hvQ hQX' qf)))
  all_goals
    obtain ⟨V, hV⟩ : ∃ V, V = w5.setCell ⟨Q, 3, none⟩ (.slice (some ⟨g5, 0, none⟩) (L + 1) cap5) := ⟨_, rfl⟩
    have hs5 : X.heap.size + 1 ≤ w5.heap.size := by have := hg5.size; simpa using this
    have hold : ∀ b, b < X.heap.size → v.ownBlock ≠ some b → w5.heap[b]? = X.heap[b]? := fun b h1 h2 => (hg5.block b (by simp; omega) (fun e => h2 e.symm)).trans (heap_alloc_old _ _ h1)
    have hVb : ∀ b, b ≠ Q → V.heap[b]? = w5.heap[b]? := fun b hb => by rw [hV]; exact Below.heap_setCell _ _ _ _ hb
    have hVs : V.heap.size = w5.heap.size := by rw [hV]; simp [World.setCell]
    have hg5Q : g5 ≠ Q := by
      rcases hat5 with q | q
      · exact HH.out.far g5 q
      · rw [q]; simp; omega
    obtain ⟨bm', hbm1, hM, hQbm, hvbm⟩ : ∃ bm', Value.map (some bm) = .map (some bm') ∧ MapAt w bm' N F ∧ Q ≠ bm' ∧ v.ownBlock ≠ some bm' := by
      rcases HH.out.map with ⟨e, _⟩ | q
      · cases e
      · exact q
    obtain rfl : bm = bm' := by simpa using hbm1
    have hbmw := hM.lt
    have hg5bm : g5 ≠ bm := by
      rcases hat5 with q | q
      · intro e; rw [e] at q; exact hvbm q
      · rw [q]; simp; omega
    have hlx : (l ++ [(⟨t, id, item⟩ : Ev)]).length = L + 1 := by rw [List.length_append, HLL.out]; rfl
    have hVQ : ∀ o, o ≠ 3 → V.cell? ⟨Q, o, none⟩ = w.cell? ⟨Q, o, none⟩ := fun o ho => by
      rw [hV, World.cell?_setCell_other _ _ _ _ (by simp <;> omega), World.cell?_of_block (hold Q hQX' hvQ), HBX.out.cell (by exact hQ)]
    have hVf : ∀ o, V.frozen? ⟨Q, o, none⟩ = w.frozen? ⟨Q, o, none⟩ := fun o => by
      rw [hV, World.frozen?_setCell, World.frozen?_of_block (hold Q hQX' hvQ), HBX.out.frozen (by exact hQ)]
    have hHV : HS V Q g5 cap5 bm N (l ++ [⟨t, id, item⟩]) F := by
      have hbV : ∀ q, (Value.slice (some ⟨g5, 0, none⟩) (L + 1) cap5).ownBlock = some q → V.heap[q]? = w5.heap[q]? := fun q e => by
        have e' : g5 = q := Option.some.inj e
        exact hVb q (by rw [← e']; exact hg5Q)
      have hrow5' : w5.ownsRow 0 69 3 (.slice (some ⟨g5, 0, none⟩) (L + 1) cap5) (L + 1) (evCells (l ++ [⟨t, id, item⟩])) := by rw [evCells_app]; exact hrow5
      have hrowV := row_same hrow5' hbV
      rw [← hlx] at hrowV
      refine HS.ofRow hrowV ?_ ((hVQ 4 (by omega)).trans HH.out.q4) (hM.same ?_) (fun e => hg5Q e.symm) hQbm hg5bm (by rw [hVs]; omega)
      · rw [hlx, hV]; exact World.cell?_setCell_same _ _ _ q5
      · rw [hVb bm (fun e => hQbm e.symm), hold bm (by omega) hvbm, HBX.out.block bm (by exact hbmw)]
    have hids' := HIDS.out.app ⟨t, id, item⟩ hx HNN.out
    have hup := HHEAP.out.app ⟨t, id, item⟩
    rw [HLL.out] at hup
    have hce := HCONS.out.app ⟨t, id, item⟩
    rw [HLL.out] at hce
    have HCU := Lib.hid (up_any Q g5 cap5 bm N L _ F True V hHV (by rw [hlx]; omega) hids' hup.ex (fun _ => hup) hce (by omega) (by rw [hlx]; omega))
    have V3 := hHV.q3
    rw [hlx] at V3
    have hkV : Keep (fun q => q = Q ∨ v.ownBlock = some q ∨ Value.map (some bm) = .map (some q)) w V := ⟨by rw [hV]; exact hg5.os.trans HBX.out.os, by rw [hV]; exact hg5.tape.trans HBX.out.tape, by rw [hV]; exact hg5.output.trans HBX.out.output, by omega, fun k h1 h2 => by rw [hVb k (fun e => h2 (.inl e)), hold k (by omega) (fun e => h2 (.inr (.inl e))), HBX.out.block k (by exact h1)]⟩
    have HKV := Lib.hid hkV
    have HVQ := Lib.hid hVQ
    have HVF := Lib.hid hVf
    have hwL1 : ((L : Int) + 1) - 1 = L := by omega
    have hwL2 : IntKind.i64.wrap (((L : Int) + 1) - 1) = L := by rw [hwL1]; exact i64_wrap_eq ⟨by omega, by omega⟩
    have hwL3 : IntKind.i64.wrap (L : Int) = L := i64_wrap_eq ⟨by omega, by omega⟩
    rw [← hV]
    clear hV hold hVb hHV hids' hup hce hkV hVQ hVf hrow5 hg5 q5 f5
    go_wp2_with (fail)
    refine HCU.out.mono ?_
    rintro e w6 ⟨rfl, hp⟩
    obtain ⟨v6, F6, N6, k, hH6, hN6, hperm6, -, -, -, hheap6, hcons6⟩ := hp.ex
    have hfin : AddPost w Q N l ⟨t, id, item⟩ v (.map (some bm)) w6 := by
      have hblk := hp.keep.block
      refine ⟨⟨g5, cap5, bm, v6, F6, N6, hH6, by have := HLL.out; omega, hperm6, hheap6 trivial, hcons6, ?_, .inl rfl⟩, ⟨hp.keep.os.trans HKV.out.os, hp.keep.tape.trans HKV.out.tape, hp.keep.output.trans HKV.out.output, Nat.le_trans HKV.out.size hp.keep.size, fun k h1 h2 => ?_⟩, fun o h3 h4 => ?_, fun o => ?_⟩
      · rcases hat5 with q | q
        · exact .inl q
        · right; rw [q]; simp; omega
      · have hnk : ¬ (k = g5 ∨ k = bm) := by
          intro q
          rcases q with q | q
          · rcases hat5 with r | r
            · exact h2 (.inr (.inl (by rw [q]; exact r)))
            · rw [q, r] at h1; simp at h1; omega
          · exact h2 (.inr (.inr (by rw [q])))
        rw [hblk k (Nat.lt_of_lt_of_le h1 HKV.out.size) hnk]
        exact HKV.out.block k h1 h2
      · rw [World.cell?_of_block (hblk Q (by omega) (fun q => by rcases q with q | q <;> omega))]; exact HVQ.out o h3
      · rw [World.frozen?_of_block (hblk Q (by omega) (fun q => by rcases q with q | q <;> omega))]; exact HVF.out o
    go_wp2_with (fail)
    exact Go.Great.bodyPost_end0 rfl rfl ⟨rfl, hfin⟩
end Go.Proofs.Ytknoigleejbjdaa
