/- A queue in memory. -/
import Derived.Test.YtknoigleejbjdaaAgK
namespace Go.Proofs.Ytknoigleejbjdaa
open Go.RowKit
set_option linter.unusedVariables false
set_option linter.unusedSimpArgs false

/-- a queue in memory: its limit, its time, how many were pushed, a bound for its map's clock, its events in some order; all that it holds is among own -/
structure QS (w : World) (Q : Nat) (lim now : Int) (p N : Nat) (l : List Ev) (own : Nat → Prop) : Prop where
  ex : ∃ (h : List Ev) (N0 : Nat) (F : Int → Option Nat) (v mv : Value), AddPre w Q N0 h F v mv ∧ N0 ≤ N ∧ h.Perm l ∧ Heap h ∧ Cons h F ∧ (∀ b, (b = Q ∨ v.ownBlock = some b ∨ mv = .map (some b)) → own b)
  c0 : w.cell? ⟨Q, 0, none⟩ = some (.int .i64 lim)
  c1 : w.cell? ⟨Q, 1, none⟩ = some (.int .i64 now)
  c2 : w.cell? ⟨Q, 2, none⟩ = some (.int .i64 (p : Int))
  fz : ∀ o, w.frozen? ⟨Q, o, none⟩ = false
  olt : ∀ b, own b → b < w.heap.size
  limb : lim ≤ 4096
  len : (l.length : Int) ≤ lim
  pb : p ≤ 1000000000
  ids : ∀ e ∈ l, 1 ≤ e.id ∧ e.id ≤ p
  nd : (l.map (·.id)).Nodup
  nowle : ∀ e ∈ l, now ≤ e.t
  now0 : 0 ≤ now
theorem wfI_small {k : Int} (h : -9223372036854775808 ≤ k) (h' : k ≤ 9223372036854775807) : wfI k := by
  simp [wfI, Lit.wf, IntKind.min, IntKind.max, IntKind.bits, IntKind.signed]; omega
theorem ids_of {l : List Ev} {p : Nat} (hp : p ≤ 1000000000) (h : ∀ e ∈ l, 1 ≤ e.id ∧ e.id ≤ p) (nd : (l.map (·.id)).Nodup) : Ids l := by
  constructor
  · intro a b ha hb e
    rw [gt_eq ha, gt_eq hb] at e
    rw [List.nodup_iff_pairwise_ne, List.pairwise_iff_getElem] at nd
    rcases Nat.lt_trichotomy a b with q | q | q
    · exact absurd (by rw [List.getElem_map, List.getElem_map]; exact e) (nd a b (by simpa using ha) (by simpa using hb) q)
    · exact q
    · exact absurd (by rw [List.getElem_map, List.getElem_map]; exact e.symm) (nd b a (by simpa using hb) (by simpa using ha) q)
  · intro j hj
    have := h _ (List.getElem_mem hj)
    rw [gt_eq hj]
    exact wfI_small (by omega) (by omega)
theorem QS.Qlt {w : World} {Q : Nat} {lim now : Int} {p N : Nat} {l : List Ev} {own : Nat → Prop} (h : QS w Q lim now p N l own) : Q < w.heap.size := by
  obtain ⟨_, _, _, _, _, q, _⟩ := h.ex; exact q.Qlt
theorem QS.ownQ {w : World} {Q : Nat} {lim now : Int} {p N : Nat} {l : List Ev} {own : Nat → Prop} (h : QS w Q lim now p N l own) : own Q := by
  obtain ⟨_, _, _, _, _, _, _, _, _, _, q⟩ := h.ex; exact q _ (.inl rfl)
theorem row_lt {B size : Nat} {w : World} {e : TypeId} {v : Value} {n : Nat} {xs : List Value} (h : w.ownsRow B e size v n xs) (b : Nat) (hb : v.ownBlock = some b) : b < w.heap.size := by
  rcases h.2 with q | ⟨b', c, cur, hvb, hb', hh, rest⟩
  · rw [q.1] at hb; cases hb
  · obtain rfl : b' = b := by rw [hvb] at hb; exact Option.some.inj hb
    rcases Nat.lt_or_ge b' w.heap.size with q | q
    · exact q
    · rw [Array.getElem?_eq_none q] at hh; cases hh
theorem AddPre.same {w w' : World} {Q N : Nat} {l : List Ev} {F : Int → Option Nat} {v mv : Value} (h : AddPre w Q N l F v mv) (hs : w.heap.size ≤ w'.heap.size) (hb : ∀ b, (b = Q ∨ v.ownBlock = some b ∨ mv = .map (some b)) → b < w.heap.size → w'.heap[b]? = w.heap[b]?) : AddPre w' Q N l F v mv := by
  have hQ := h.Qlt
  have c := hb Q (.inl rfl) hQ
  refine ⟨(World.cell?_of_block c).trans h.q3, (World.cell?_of_block c).trans h.q4, row_same h.row (fun g e => hb g (.inr (.inl e)) (row_lt h.row g e)), h.far, ?_, by omega, (World.frozen?_of_block c).trans h.f3, (World.frozen?_of_block c).trans h.f4⟩
  rcases h.map with q | ⟨bm, e, hM, r⟩
  · exact .inl q
  · exact .inr ⟨bm, e, hM.same (hb bm (.inr (.inr e)) hM.lt), r⟩
theorem QS.same {w w' : World} {Q : Nat} {lim now : Int} {p N : Nat} {l : List Ev} {own : Nat → Prop} (h : QS w Q lim now p N l own) (hs : w.heap.size ≤ w'.heap.size) (hb : ∀ b, own b → b < w.heap.size → w'.heap[b]? = w.heap[b]?) : QS w' Q lim now p N l own := by
  have hQ := h.Qlt
  have c := hb Q h.ownQ hQ
  obtain ⟨hh, N0, F, v, mv, a, b, c1, d, e, f⟩ := h.ex
  exact ⟨⟨hh, N0, F, v, mv, a.same hs (fun b q => hb b (f b q)), b, c1, d, e, f⟩, (World.cell?_of_block c).trans h.c0, (World.cell?_of_block c).trans h.c1, (World.cell?_of_block c).trans h.c2, fun o => (World.frozen?_of_block c).trans (h.fz o), fun b q => Nat.lt_of_lt_of_le (h.olt b q) hs, h.limb, h.len, h.pb, h.ids, h.nd, h.nowle, h.now0⟩
theorem QS.below {w w' : World} {Q : Nat} {lim now : Int} {p N : Nat} {l : List Ev} {own : Nat → Prop} (h : QS w Q lim now p N l own) (hb : Below w.heap.size w w') : QS w' Q lim now p N l own :=
  h.same hb.size (fun b _ q => hb.block b q)
/-- another queue's writes leave it -/
theorem QS.other {w w' : World} {Q : Nat} {lim now : Int} {p N : Nat} {l : List Ev} {own o2 : Nat → Prop} (h : QS w Q lim now p N l own) (hk : Keep o2 w w') (hd : ∀ b, own b → ¬ o2 b) : QS w' Q lim now p N l own :=
  h.same hk.size (fun b h1 h2 => hk.block b h2 (hd b h1))
theorem QS.perm {w : World} {Q : Nat} {lim now : Int} {p N : Nat} {l l' : List Ev} {own : Nat → Prop} (h : QS w Q lim now p N l own) (hp : l.Perm l') : QS w Q lim now p N l' own := by
  obtain ⟨hh, N0, F, v, mv, a, b, c, r⟩ := h.ex
  exact ⟨⟨hh, N0, F, v, mv, a, b, c.trans hp, r⟩, h.c0, h.c1, h.c2, h.fz, h.olt, h.limb, by rw [← hp.length_eq]; exact h.len, h.pb, fun e he => h.ids e (hp.mem_iff.2 he), (hp.map _).nodup_iff.1 h.nd, fun e he => h.nowle e (hp.mem_iff.2 he), h.now0⟩
theorem QS.mono {w : World} {Q : Nat} {lim now : Int} {p N N' : Nat} {l : List Ev} {own : Nat → Prop} (h : QS w Q lim now p N l own) (hN : N ≤ N') : QS w Q lim now p N' l own := by
  obtain ⟨hh, N0, F, v, mv, a, b, r⟩ := h.ex
  exact ⟨⟨hh, N0, F, v, mv, a, by omega, r⟩, h.c0, h.c1, h.c2, h.fz, h.olt, h.limb, h.len, h.pb, h.ids, h.nd, h.nowle, h.now0⟩
theorem QS.keepDraw {w : World} {Q : Nat} {lim now : Int} {p N : Nat} {l : List Ev} {own : Nat → Prop} (h : QS w Q lim now p N l own) : QS w.drew Q lim now p N l own := h.same (Nat.le_refl _) (fun _ _ _ => rfl)
theorem AddPre.sl {w : World} {Q N : Nat} {l : List Ev} {F : Int → Option Nat} {v mv : Value} (h : AddPre w Q N l F v mv) : ∃ ps c, v = .slice ps l.length c := by
  rcases h.row.2 with q | ⟨b', c, cur, hvb, _⟩
  · rcases q with ⟨q1, q2⟩
    exact ⟨none, 0, by rw [q1, q2]⟩
  · exact ⟨_, c, hvb⟩
theorem AddPre.hs {w : World} {Q N : Nat} {l : List Ev} {F : Int → Option Nat} {v mv : Value} (h : AddPre w Q N l F v mv) (hl : l ≠ []) : ∃ g cap bm, v = .slice (some ⟨g, 0, none⟩) l.length cap ∧ mv = .map (some bm) ∧ HS w Q g cap bm N l F := by
  rcases h.map with ⟨_, e, _⟩ | ⟨bm, rfl, hM, hne, hvb⟩
  · exact absurd e hl
  · rcases h.row.2 with q | ⟨g, c, cur, rfl, _⟩
    · exact absurd (List.eq_nil_of_length_eq_zero q.2) hl
    · exact ⟨g, c, bm, rfl, rfl, HS.ofRow h.row h.q3 h.q4 hM (fun e => h.far g rfl e.symm) hne (fun e => hvb (by rw [← e]; rfl)) h.Qlt⟩
/-- a queue that is empty: its slice's header -/
theorem QS.q3 {w : World} {Q : Nat} {lim now : Int} {p N : Nat} {l : List Ev} {own : Nat → Prop} (h : QS w Q lim now p N l own) : ∃ ps c, w.cell? ⟨Q, 3, none⟩ = some (.slice ps l.length c) := by
  obtain ⟨hh, N0, F, v, mv, a, b, hp, r⟩ := h.ex
  obtain ⟨ps, c, rfl⟩ := a.sl
  exact ⟨ps, c, by rw [a.q3, hp.length_eq]⟩
/-- a queue that is not empty: its heap, its first event -/
theorem QS.top {w : World} {Q : Nat} {lim now : Int} {p N : Nat} {l : List Ev} {own : Nat → Prop} (h : QS w Q lim now p N l own) (hl : l ≠ []) : ∃ (g cap bm N0 : Nat) (hh : List Ev) (F : Int → Option Nat), HS w Q g cap bm N0 hh F ∧ N0 ≤ N ∧ hh.Perm l ∧ Heap hh ∧ Cons hh F ∧ Ids hh ∧ own Q ∧ own g ∧ own bm := by
  obtain ⟨hh, N0, F, v, mv, a, b, hp, d, e, f⟩ := h.ex
  obtain ⟨g, cap, bm, rfl, rfl, hS⟩ := a.hs (fun q => hl (by rw [q] at hp; exact List.nil_perm.1 hp))
  exact ⟨g, cap, bm, N0, hh, F, hS, b, hp, d, e, (ids_of h.pb h.ids h.nd).perm hp, f Q (.inl rfl), f g (.inr (.inl rfl)), f bm (.inr (.inr rfl))⟩
/-- the first event of a queue -/
def Fst (l : List Ev) (m : Ev) : Prop := m ∈ l ∧ ∀ e ∈ l, e = m ∨ bef m e
theorem Fst.uniq {l : List Ev} {m m' : Ev} (h : Fst l m) (h' : Fst l m') : m = m' := by
  rcases h.2 m' h'.1 with q | q
  · exact q.symm
  · rcases h'.2 m h.1 with r | r
    · exact r
    · exact absurd q (bef_asymm r)
theorem Fst.perm {l l' : List Ev} {m : Ev} (h : Fst l m) (hp : l.Perm l') : Fst l' m := ⟨hp.mem_iff.1 h.1, fun e he => h.2 e (hp.mem_iff.2 he)⟩
theorem eq_of_id {l : List Ev} (nd : (l.map (·.id)).Nodup) {a b : Ev} (ha : a ∈ l) (hb : b ∈ l) (e : a.id = b.id) : a = b := by
  induction l with
  | nil => cases ha
  | cons x r ih =>
    rw [List.map_cons, List.nodup_cons] at nd
    rcases List.mem_cons.1 ha with q | q <;> rcases List.mem_cons.1 hb with z | z
    · rw [q, z]
    · exact absurd (List.mem_map.2 ⟨b, z, by rw [← e, q]⟩) nd.1
    · exact absurd (List.mem_map.2 ⟨a, q, by rw [e, z]⟩) nd.1
    · exact ih nd.2 q z
theorem erase_at {l : List Ev} (nd : l.Nodup) : ∀ (i : Nat) (hi : i < l.length), l.erase l[i] = l.eraseIdx i := by
  induction l with
  | nil => intro i hi; simp at hi
  | cons x r ih =>
    rw [List.nodup_cons] at nd
    intro i hi
    cases i with
    | zero => simp
    | succ i =>
      have hi' : i < r.length := by simpa using hi
      have hx : x ≠ r[i] := fun e => nd.1 (by rw [e]; exact List.getElem_mem hi')
      rw [List.getElem_cons_succ, List.erase_cons_tail (by simpa using hx), ih nd.2 i hi']
      rfl
theorem heap_fst {l : List Ev} (h : Heap l) (nd : (l.map (·.id)).Nodup) (hl : l ≠ []) : Fst l (gt l 0) := by
  have h0 : 0 < l.length := List.length_pos_iff.2 hl
  refine ⟨by rw [gt_eq h0]; exact List.getElem_mem h0, fun e he => ?_⟩
  obtain ⟨j, hj, rfl⟩ := List.mem_iff_getElem.1 he
  have hle := heap_top h j hj
  unfold Le at hle
  rw [← gt_eq hj]
  by_cases e : (gt l j).id = (gt l 0).id
  · exact .inl (eq_of_id nd (by rw [gt_eq hj]; exact he) (by rw [gt_eq h0]; exact List.getElem_mem h0) e)
  · right; unfold bef at *; omega
theorem erase_idx {l : List Ev} (nd : (l.map (·.id)).Nodup) {i : Nat} (hi : i < l.length) : (l.eraseIdx i).Perm (l.erase (gt l i)) := by
  rw [gt_eq hi]
  have : l.erase l[i] = l.eraseIdx i := by
    have hnd : l.Nodup := by
      rw [List.nodup_iff_pairwise_ne] at nd ⊢
      rw [List.pairwise_map] at nd
      exact nd.imp (fun h e => h (by rw [e]))
    exact erase_at hnd i hi
  rw [this]
theorem QS.eraseFacts {w : World} {Q : Nat} {lim now : Int} {p N : Nat} {l : List Ev} {own : Nat → Prop} (h : QS w Q lim now p N l own) (m : Ev) : ((l.erase m).length : Int) ≤ lim ∧ (∀ e ∈ l.erase m, 1 ≤ e.id ∧ e.id ≤ p) ∧ ((l.erase m).map (·.id)).Nodup := by
  refine ⟨?_, fun e he => h.ids e (List.mem_of_mem_erase he), h.nd.sublist (List.erase_sublist.map _)⟩
  have := h.len
  have := (List.erase_sublist (a := m) (l := l)).length_le
  omega
theorem QS.Qnil {w : World} {Q : Nat} {lim now : Int} {p N : Nat} {l : List Ev} {own : Nat → Prop} (h : QS w Q lim now p N l own) : l.length ≤ 4096 := by
  have := h.len; have := h.limb; omega

/-- a new queue in memory -/
theorem QS.new {w : World} {Q : Nat} {lim : Int} (hl : lim ≤ 4096) (h0 : 0 ≤ lim) (hQ : Q < w.heap.size) (c0 : w.cell? ⟨Q, 0, none⟩ = some (.int .i64 lim)) (c1 : w.cell? ⟨Q, 1, none⟩ = some (.int .i64 0)) (c2 : w.cell? ⟨Q, 2, none⟩ = some (.int .i64 0)) (c3 : w.cell? ⟨Q, 3, none⟩ = some (.slice none 0 0)) (c4 : w.cell? ⟨Q, 4, none⟩ = some (.map none)) (fz : ∀ o, w.frozen? ⟨Q, o, none⟩ = false) : QS w Q lim 0 0 0 [] (fun b => b = Q) := by
  refine ⟨⟨[], 0, fun _ => none, .slice none 0 0, .map none, ⟨c3, c4, World.ownsRow_nil _ _ _ _, by simp [Value.ownBlock], .inl ⟨rfl, rfl, rfl, rfl⟩, hQ, fz 3, fz 4⟩, Nat.le_refl _, .refl _, fun j _ hj => absurd hj (by simp), ⟨fun j hj => absurd hj (by simp), fun k hk => absurd rfl hk⟩, ?_⟩, c0, c1, c2, fz, fun b e => by rw [e]; exact hQ, hl, by simpa using h0, by omega, by simp, by simp, by simp, by omega⟩
  intro b q
  rcases q with q | q | q
  · exact q
  · simp [Value.ownBlock] at q
  · cases q
end Go.Proofs.Ytknoigleejbjdaa
