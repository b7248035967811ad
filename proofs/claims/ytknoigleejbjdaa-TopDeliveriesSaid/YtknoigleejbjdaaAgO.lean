/- Push, taken. -/
import Derived.Test.YtknoigleejbjdaaAgN
namespace Go.Proofs.Ytknoigleejbjdaa
open Go.RowKit
set_option linter.unusedVariables false
set_option linter.unusedSimpArgs false

theorem add_all (Q N : Nat) (l : List Ev) (F : Int → Option Nat) (v mv : Value) (x : Ev) (w : World) (h : AddPre w Q N l F v mv) (hids : Ids l) (hheap : Heap l) (hcons : Cons l F) (hx : wfI x.id) (hn : ∀ j, j < l.length → (gt l j).id ≠ x.id) (hN : N < 10000000000) (hlen : l.length ≤ 100000) :
    Calls Try.prog 30 #[.pointer (some ⟨Q, 3, none⟩), .agg #[.int .i64 x.t, .int .i64 x.id, .int .i64 x.item]] w fun e w' => e = .returned (.tuple #[]) ∧ AddPost w Q N l x v mv w' := by
  rcases h.map with ⟨rfl, rfl, rfl, rfl⟩ | ⟨bm, rfl, _⟩
  · exact add_nil Q N x w h hx hN
  · exact add_any Q N bm l F v x w h hids hheap hcons hx hn hN hlen
theorem AddPre.away {w w' : World} {Q N : Nat} {l : List Ev} {F : Int → Option Nat} {v mv : Value} (h : AddPre w Q N l F v mv) (hs : w.heap.size ≤ w'.heap.size) (hc : ∀ o, o ≠ 1 → o ≠ 2 → w'.cell? ⟨Q, o, none⟩ = w.cell? ⟨Q, o, none⟩) (hf : ∀ o, w'.frozen? ⟨Q, o, none⟩ = w.frozen? ⟨Q, o, none⟩) (hb : ∀ b, (v.ownBlock = some b ∨ mv = .map (some b)) → b < w.heap.size → b ≠ Q → w'.heap[b]? = w.heap[b]?) : AddPre w' Q N l F v mv := by
  refine ⟨(hc 3 (by omega) (by omega)).trans h.q3, (hc 4 (by omega) (by omega)).trans h.q4, row_same h.row (fun g e => hb g (.inl e) (row_lt h.row g e) (h.far g e)), h.far, ?_, by have := h.Qlt; omega, (hf 3).trans h.f3, (hf 4).trans h.f4⟩
  rcases h.map with q | ⟨bm, e, hM, hne, r⟩
  · exact .inl q
  · exact .inr ⟨bm, e, hM.same (hb bm (.inr e) hM.lt (fun e => hne e.symm)), hne, r⟩
/-- what a taken push leaves -/
structure PushPost (w : World) (Q : Nat) (lim now : Int) (p N : Nat) (l : List Ev) (own : Nat → Prop) (x : Ev) (w' : World) : Prop where
  ex : ∃ own' : Nat → Prop, QS w' Q lim now (p + 1) (N + 10000) (l ++ [x]) own' ∧ ∀ b, own' b → own b ∨ w.heap.size ≤ b
  keep : Keep own w w'
theorem push_fin {w X w6 : World} {Q : Nat} {lim now : Int} {p N N0 : Nat} {l hh : List Ev} {own : Nat → Prop} {F : Int → Option Nat} {v mv : Value} {t item : Int} (h : QS w Q lim now p N l own) (ha : AddPre w Q N0 hh F v mv) (hN0 : N0 ≤ N) (hp : hh.Perm l) (hown : ∀ b, (b = Q ∨ v.ownBlock = some b ∨ mv = .map (some b)) → own b) (hlen : (l.length : Int) < lim) (htn : now ≤ t) (hpb : p < 1000000000)
    (hk : Keep (fun b => b = Q) w X) (hc : ∀ o, o ≠ 2 → X.cell? ⟨Q, o, none⟩ = w.cell? ⟨Q, o, none⟩) (h2 : X.cell? ⟨Q, 2, none⟩ = some (.int .i64 ((p + 1 : Nat) : Int))) (hf : ∀ o, X.frozen? ⟨Q, o, none⟩ = w.frozen? ⟨Q, o, none⟩) (hpost : AddPost X Q N0 hh ⟨t, ((p + 1 : Nat) : Int), item⟩ v mv w6) : PushPost w Q lim now p N l own ⟨t, ((p + 1 : Nat) : Int), item⟩ w6 := by
  have hQX : Q < X.heap.size := Nat.lt_of_lt_of_le h.Qlt hk.size
  have hlh : hh.length ≤ 4096 := by have := h.Qnil; rw [hp.length_eq]; exact this
  obtain ⟨g, cap, bm, l', F', N', hS, hN', hperm, hheap, hcons, hg, hbm⟩ := hpost.ex
  have hk6 : Keep own w w6 := by
    refine Keep.trans ⟨hk.os, hk.tape, hk.output, hk.size, fun k h1 h2 => hk.block k h1 (fun e => h2 (by rw [e]; exact hown Q (.inl rfl)))⟩ ⟨hpost.keep.os, hpost.keep.tape, hpost.keep.output, hpost.keep.size, fun k h1 h2 => hpost.keep.block k h1 (fun q => h2 (hown k q))⟩
  have hs6 := hpost.keep.size
  have hsX := hk.size
  refine ⟨⟨fun b => own b ∨ (w.heap.size ≤ b ∧ b < w6.heap.size), ⟨⟨l', N', F', _, _, hS.pre ((hpost.froz 3).trans ((hf 3).trans (h.fz 3))) ((hpost.froz 4).trans ((hf 4).trans (h.fz 4))), by omega, hperm.trans (hp.append_right _), hheap, hcons, ?_⟩, ?_, ?_, ?_, ?_, ?_, h.limb, ?_, ?_, ?_, ?_, ?_, h.now0⟩, ?_⟩, hk6⟩
  · intro b q
    rcases q with rfl | q | q
    · exact .inl (hown b (.inl rfl))
    · obtain rfl : g = b := by simpa [Value.ownBlock] using q
      rcases hg with hg | hg
      · exact .inl (hown g (.inr (.inl hg)))
      · exact .inr ⟨Nat.le_trans hsX hg, hS.glt⟩
    · obtain rfl : bm = b := by simpa using q
      rcases hbm with hg | hg
      · exact .inl (hown bm (.inr (.inr hg)))
      · exact .inr ⟨Nat.le_trans hsX hg, hS.map.lt⟩
  · rw [hpost.cells 0 (by omega) (by omega), hc 0 (by omega)]; exact h.c0
  · rw [hpost.cells 1 (by omega) (by omega), hc 1 (by omega)]; exact h.c1
  · rw [hpost.cells 2 (by omega) (by omega)]; exact h2
  · intro o; rw [hpost.froz, hf]; exact h.fz o
  · intro b q
    rcases q with q | q
    · have := h.olt b q; omega
    · exact q.2
  · rw [List.length_append, List.length_singleton]; omega
  · omega
  · intro e he
    rcases List.mem_append.1 he with q | q
    · have := h.ids e q; omega
    · rw [List.mem_singleton.1 q]; simp only; omega
  · rw [List.map_append, List.nodup_append]
    refine ⟨h.nd, by simp, ?_⟩
    intro a ha b hb e
    obtain ⟨y, hy, rfl⟩ := List.mem_map.1 ha
    simp only [List.map_cons, List.map_nil, List.mem_singleton] at hb
    have := h.ids y hy
    omega
  · intro e he
    rcases List.mem_append.1 he with q | q
    · exact h.nowle e q
    · rw [List.mem_singleton.1 q]; exact htn
  · intro b q
    rcases q with q | q
    · exact .inl q
    · exact .inr q.1

set_option maxHeartbeats 4000000 in
theorem push_ok {w : World} {Q : Nat} {lim now : Int} {p N : Nat} {l : List Ev} {own : Nat → Prop} (h : QS w Q lim now p N l own) (t item : Int) (he : pushErr lim now l.length t = 0) (hN : N ≤ 1000000000) (hpb : p < 1000000000) : Calls Try.prog 13 #[.pointer (some ⟨Q, 0, none⟩), .int .i64 t, .int .i64 item] w fun r w' => r = .returned (.tuple #[.int .i64 ((p + 1 : Nat) : Int), .int .i64 0]) ∧ PushPost w Q lim now p N l own ⟨t, ((p + 1 : Nat) : Int), item⟩ w' := by
  have c0 := h.c0
  have c1 := h.c1
  have c2 := h.c2
  have f2 := h.fz 2
  obtain ⟨hh, N0, F, v, mv, ha, hN0, hp, hheap, hcons, hown⟩ := h.ex
  obtain ⟨ps, c, hv⟩ := ha.sl
  have q3 : w.cell? ⟨Q, 3, none⟩ = some (.slice ps hh.length c) := by rw [ha.q3, hv]
  unfold pushErr at he
  have h1 : ¬ t < 0 := fun q => by rw [if_pos q] at he; omega
  rw [if_neg h1] at he
  have h2 : ¬ t < now := fun q => by rw [if_pos q] at he; omega
  rw [if_neg h2] at he
  have h3 : ¬ lim ≤ (l.length : Int) := fun q => by rw [if_pos q] at he; omega
  have hids : Ids hh := (ids_of h.pb h.ids h.nd).perm hp
  have hnew : ∀ j, j < hh.length → (gt hh j).id ≠ ((p + 1 : Nat) : Int) := fun j hj e => by
    have := h.ids (gt hh j) (hp.mem_iff.1 (by rw [gt_eq hj]; exact List.getElem_mem hj))
    omega
  rw [← hp.length_eq] at h3
  have hlh : hh.length ≤ 4096 := by have := h.Qnil; rw [hp.length_eq]; exact this
  obtain ⟨L, hL⟩ : ∃ L, hh.length = L := ⟨_, rfl⟩
  rw [hL] at q3 h3
  have d3 : World.cell? w.drew ⟨Q, 3, none⟩ = some (.slice ps L c) := q3
  have d0 : World.cell? w.drew ⟨Q, 0, none⟩ = some (.int .i64 lim) := c0
  have hwp : IntKind.i64.wrap ((p : Int) + 1) = (p : Int) + 1 := i64_wrap_eq ⟨by omega, by omega⟩
  obtain ⟨X, hX⟩ : ∃ X, X = w.setCell ⟨Q, 2, none⟩ (.int .i64 ((p : Int) + 1)) := ⟨_, rfl⟩
  have hXb : ∀ b, b ≠ Q → X.heap[b]? = w.heap[b]? := fun b hb => by rw [hX]; exact Below.heap_setCell _ _ _ _ hb
  have hXs : X.heap.size = w.heap.size := by rw [hX]; simp [World.setCell]
  have hXk : Keep (fun b => b = Q) w X := by
    refine ⟨by rw [hX]; rfl, by rw [hX]; rfl, by rw [hX]; rfl, by omega, fun k _ h2 => hXb k h2⟩
  have hXc : ∀ o, o ≠ 2 → X.cell? ⟨Q, o, none⟩ = w.cell? ⟨Q, o, none⟩ := fun o ho => by rw [hX, World.cell?_setCell_other _ _ _ _ (by simp <;> omega)]
  have hX2 : X.cell? ⟨Q, 2, none⟩ = some (.int .i64 ((p : Int) + 1)) := by rw [hX]; exact World.cell?_setCell_same _ _ _ c2
  have hXf : ∀ o, X.frozen? ⟨Q, o, none⟩ = w.frozen? ⟨Q, o, none⟩ := fun o => by rw [hX, World.frozen?_setCell]
  have harm : ∀ W, Below X.heap.size X W → Calls Try.prog 30 #[.pointer (some ⟨Q, 3, none⟩), .agg #[.int .i64 t, .int .i64 ((p : Int) + 1), .int .i64 item]] W fun e w' => e = .returned (.tuple #[]) ∧ w'.cell? ⟨Q, 2, none⟩ = some (.int .i64 ((p : Int) + 1)) ∧ PushPost w Q lim now p N l own ⟨t, (p : Int) + 1, item⟩ w' := by
    intro W hW
    have hQX : Q < X.heap.size := by rw [hXs]; exact h.Qlt
    have hs := hW.size
    have hWc : ∀ o, W.cell? ⟨Q, o, none⟩ = X.cell? ⟨Q, o, none⟩ := fun o => hW.cell (by exact hQX)
    have hWf : ∀ o, W.frozen? ⟨Q, o, none⟩ = X.frozen? ⟨Q, o, none⟩ := fun o => hW.frozen (by exact hQX)
    have hWk : Keep (fun b => b = Q) w W := hXk.trans (Below.keep hW (Nat.le_refl _) _)
    have haW : AddPre W Q N0 hh F v mv := ha.away hWk.size (fun o _ h2 => (hWc o).trans (hXc o h2)) (fun o => (hWf o).trans (hXf o)) (fun b _ h1 h2 => hWk.block b h1 h2)
    refine (add_all Q N0 hh F v mv ⟨t, (p : Int) + 1, item⟩ W haW hids hheap hcons (wfI_small (by simp only; omega) (by simp only; omega)) (by simpa using hnew) (by omega) (by omega)).mono ?_
    rintro e w6 ⟨rfl, hpost⟩
    refine ⟨rfl, ?_, ?_⟩
    · rw [hpost.cells 2 (by omega) (by omega), hWc]; exact hX2
    · exact push_fin h ha hN0 hp hown (by rw [← hp.length_eq, hL]; omega) (by omega) hpb hWk (fun o h2 => (hWc o).trans (hXc o h2)) ((hWc 2).trans hX2) (fun o => (hWf o).trans (hXf o)) hpost
  have HARM := Lib.hid harm
  have HX := Lib.hid hX
  have HXS := Lib.hid hXs
  have HH := Lib.hid h
  clear harm hX hXb hXs hXk hXc hXf h ha hheap hcons hown hids hnew hv hp hL
  go_enter Try.func13, Try.ntmps13
  go_wp2_with (fail)
  go_region
  all_goals
    go_wp2_with (fail)
    rw [← HX.out]
    have hS0 : X.drew.drew.cell? ⟨Q, 2, none⟩ = some (.int .i64 ((p : Int) + 1)) := hX2
    go_region_held_law (fun w' => w'.cell? ⟨Q, 2, none⟩ = some (.int .i64 ((p : Int) + 1))) (first | exact hS0 | assumption)
      ((first | (go_at_call 30; refine (HARM.out _ (Below.refl _ _).drew.drew).mono ?_; rintro e w6 ⟨rfl, hS6, hpost⟩)))
  all_goals
    go_wp2_with (fail)
    go_ret2
    exact ⟨by simp, by simpa using hpost⟩
end Go.Proofs.Ytknoigleejbjdaa
