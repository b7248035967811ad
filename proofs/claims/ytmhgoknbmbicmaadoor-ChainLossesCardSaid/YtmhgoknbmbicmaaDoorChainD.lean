/- What drift.Check returns, and what Hear does. -/
import Derived.Test.YtmhgoknbmbicmaaDoorChainC
import Derived.Laws.OwnMore
import Derived.Deep.AppendLies
namespace Go.Proofs.YtmhgoknbmbicmaaDoor
open Go.RowKit
set_option linter.unusedVariables false
set_option linter.unusedSimpArgs false

/-- an interval that is refused -/
def ivBad (lo hi : Int) : Bool := decide (hi < lo ∨ lo < -8000000000000000000 ∨ 8000000000000000000 < hi)
theorem dcheck_any (lo hi : Int) (w : World) :
    Calls Tryd.prog 33 #[.agg #[.int .i64 lo, .int .i64 hi]] w fun e w' => e = .returned (.int .i64 (if ivBad lo hi = true then 3 else 0)) ∧ Below w.heap.size w w' := by
  have hb : Below w.heap.size w (w.alloc (.cells #[.int .i64 lo, .int .i64 hi] 46)) := (Below.refl _ _).alloc (Nat.le_refl _) _
  by_cases c0 : hi < lo
  · rw [show (if ivBad lo hi = true then (3 : Int) else 0) = 3 from if_pos (by unfold ivBad; rw [decide_eq_true_eq]; omega)]
    go_enter Tryd.func33, Tryd.ntmps33
    go_wp2_with (fail)
    go_ret
    exact ⟨rfl, hb⟩
  · by_cases c1 : lo < -8000000000000000000
    · rw [show (if ivBad lo hi = true then (3 : Int) else 0) = 3 from if_pos (by unfold ivBad; rw [decide_eq_true_eq]; omega)]
      go_enter Tryd.func33, Tryd.ntmps33
      go_wp2_with (fail)
      go_ret
      exact ⟨rfl, hb⟩
    · by_cases c2 : 8000000000000000000 < hi
      · rw [show (if ivBad lo hi = true then (3 : Int) else 0) = 3 from if_pos (by unfold ivBad; rw [decide_eq_true_eq]; omega)]
        go_enter Tryd.func33, Tryd.ntmps33
        go_wp2_with (fail)
        go_ret
        exact ⟨rfl, hb⟩
      · rw [show (if ivBad lo hi = true then (3 : Int) else 0) = 0 from if_neg (by unfold ivBad; rw [decide_eq_true_eq]; omega)]
        go_enter Tryd.func33, Tryd.ntmps33
        go_wp2_with (fail)
        go_ret
        exact ⟨rfl, hb⟩

theorem infoByte : (Tryd.prog.info? 5).map (fun i => (i.zero, i.size, i.bytes)) = some (some (.int .u8 0), 1, 1) := by kernel_rfl
theorem infoMsg : (Tryd.prog.info? 67).map (fun i => (i.zero, i.size, i.bytes)) = some (some (.agg #[.int .i64 0, .slice none 0 0, .int .u64 0]), 3, 40) := by kernel_rfl

theorem Below.grown' {w w' : World} (h : Below w.heap.size w w') (row : Option Nat) : w.grownBy w' row := ⟨h.os, h.tape, h.output, h.size, fun k hk _ => h.block k hk⟩

theorem owns_ints {k : IntKind} {w : World} {base : Nat} {e : TypeId} {v : Value} {n : Nat} {ys : List Int} (h : w.ownsRow base e 1 v n (ys.map (Value.int k))) :
    ∃ (x : Option Addr) (c : Nat), v = .slice x n c ∧ Ints k w w.heap.size x ys ∧ ys.length = n ∧ n ≤ c ∧ c ≤ 9223372036854775807 ∧ (x = none → n = 0 ∧ c = 0) ∧ (∀ a, x = some a → base ≤ a.block) := by
  have hlen : ys.length = n := by simpa using h.1
  have h0 := h
  obtain ⟨_, h2⟩ := h
  rcases h2 with ⟨rfl, rfl⟩ | ⟨g, cap, cur, rfl, hg, hh, hn, hcap, hsz, htake⟩
  · obtain rfl : ys = [] := List.eq_nil_of_length_eq_zero hlen
    exact ⟨none, 0, rfl, Ints.nil _ _ _ _, rfl, Nat.le_refl _, by omega, fun _ => ⟨rfl, rfl⟩, fun a h => by cases h⟩
  · refine ⟨some ⟨g, 0, none⟩, cap, rfl, ?_, hlen, hn, by unfold maxLen at hcap; exact hcap, (fun h => by cases h), (fun a h => by cases h; exact hg)⟩
    intro i hi
    refine ⟨_, rfl, (h0.lt g rfl).2, ?_⟩
    exact h0.cells (g := g) rfl i _ (by simp [List.getD_eq_getElem?_getD, List.getElem?_eq_getElem hi])

/-- a copy of a byte string -/
theorem run_copy_bytes (w : World) (x : Option Addr) (n c : Nat) (ys : List Int) (ty : TypeId) (B : Nat) (hy : Ints .u8 w B x ys) (hl : ys.length = n) (hn : n ≤ 1000000) (hnil : x = none → n = 0 ∧ c = 0) :
    ∃ p cap w', (Builtin.append_ #[36, 36] ty #[.slice none 0 0, .slice x n c]).run Tryd.prog w = .ok (.slice p n cap) w' ∧ Ints .u8 w' w'.heap.size p ys ∧ Below w.heap.size w w' ∧ n ≤ cap ∧ cap ≤ 9223372036854775807 ∧ (∀ a, p = some a → w.heap.size ≤ a.block ∧ a.block < w'.heap.size) ∧ (p = none → n = 0 ∧ cap = 0) := by
  obtain ⟨i0, hi, hz0, hz1, hz2⟩ := info_parts infoByte
  cases x with
  | none =>
    obtain ⟨rfl, rfl⟩ := hnil rfl
    obtain rfl : ys = [] := List.eq_nil_of_length_eq_zero hl
    have hr := run_append_owned_none (P := Tryd.prog) (w := w) 0 36 ty 5 i0 1 Tryd.underlying36 hi (.slice none 0 0) 0 [] (World.ownsRow_nil w 0 5 1)
    exact ⟨none, 0, w, hr, Ints.nil _ _ _ _, Below.refl _ _, Nat.le_refl _, by omega, (fun a h => by cases h), (fun _ => ⟨rfl, rfl⟩)⟩
  | some ad =>
    obtain ⟨v', w', hr, h2, h3, h4, h5⟩ := run_append_own_at (P := Tryd.prog) w w.heap.size 36 ty 5 i0 _ 1 1 Tryd.underlying36 hi hz0 hz1 hz2 rfl (by omega) (.slice none 0 0) 0 [] (World.ownsRow_nil _ _ _ _) ad n c (ys.map (Value.int .u8)) (by simp [hl])
      (by
        intro j u hu
        have hj : j < ys.length := by simpa using (List.getElem?_eq_some_iff.1 hu).1
        obtain ⟨a', e1, _, e3⟩ := hy j hj
        obtain rfl := Option.some.inj e1
        rw [e3, ← hu]
        simp [List.getD_eq_getElem?_getD, List.getElem?_eq_getElem hj]) (ints_oneCell .u8 ys) (by unfold maxLen; omega) (by omega) (Nat.le_refl _)
    rw [Nat.zero_add] at h2
    have hlt := h2.lt
    obtain ⟨p, cap, rfl, q1, q2, q3, q4, q5, q6⟩ := owns_ints (by simpa using h2)
    exact ⟨p, cap, w', hr, q1, ((Below.refl _ _).grown h3 (Nat.le_refl _) (fun k hk => by simp [Value.ownBlock] at hk)), q3, q4, (fun a ha => hlt a.block (by rw [ha]; rfl)), q5⟩

/-- .. at a step of a region that draws -/
theorem step_copy_bytes {w : World} {ops : Array Oper} {o : Oper} {a : Act} {K : Act → World → Prop} {Q : Exit → Act → World → Prop} {E : Prop} (hgd : o.guard = none) (s x : Operand)
    (ho : o.op = .call { callee := .builtin .append, args := #[s, x], argTypes := #[36, 36] }) (xo : Option Addr) (n c : Nat) (ys : List Int) (B : Nat) (hs : a.eval s = .slice none 0 0) (hx : a.eval x = .slice xo n c)
    (hy : Ints .u8 w B xo ys) (hl : ys.length = n) (hn : n ≤ 1000000) (hnil : xo = none → n = 0 ∧ c = 0)
    (h : ∀ p cap w', Ints .u8 w' w'.heap.size p ys → Below w.heap.size w w' → (n ≤ cap ∧ cap ≤ 9223372036854775807 ∧ (∀ a, p = some a → w.heap.size ≤ a.block ∧ a.block < w'.heap.size)) → K (a.put o.dst (.slice p n cap)) w') :
    if Region.wanted o (yielded ops a.tmps) = true then Oper.wp Tryd.prog o a w K Q else E := by
  obtain ⟨p, cap, w', hr, h1, h2, h3, h4, h5, _⟩ := run_copy_bytes w xo n c ys o.type B hy hl hn hnil
  have hw : Region.wanted o (yielded ops a.tmps) = true := by simp [Region.wanted, hgd]
  rw [if_pos hw]
  unfold Oper.wp execOp
  simp only [ho, resolve, invoke, builtin, Sem.run_bind, Sem.run_pure, Result.andThen_ok, List.map_toArray, List.map_cons, List.map_nil, hs, hx, hr]
  exact h p cap w' h1 h2 ⟨h3, h4, h5⟩

def hearE (s : RS) (i lo hi : Int) : Int :=
  if i < 1 ∨ s.co < i then 3 else if ivBad lo hi = true then 2 else if i + s.de ≤ ivI s.st s.sp s.de s.co hi then 17 else if i ≤ s.kn then 10 else if 64 ≤ s.l.length then 13 else 0

/-- the receiver behind a message that it holds -/
theorem recv_hear {w wa wb : World} {own : Nat → Prop} {R : Nat} {s : RS} (h : Recv w own R s) (m : Msg) (hv' : Value) (g cap : Nat)
    (ha : Below w.heap.size w wa) (hy : Ints .u8 wa wa.heap.size m.p m.b) (hm1 : m.b.length ≤ m.cap) (hm2 : m.cap ≤ 9223372036854775807) (hm3 : Bytes m.b) (hp : ∀ a, m.p = some a → w.heap.size ≤ a.block ∧ a.block < wa.heap.size)
    (hi1 : 1 ≤ m.iv) (hi2 : m.iv ≤ s.co) (hg : wa.grownBy wb s.hv.ownBlock) (hv : hv' = .slice (some ⟨g, 0, none⟩) (s.l.length + 1) cap) (hrow : wb.ownsRow 0 67 3 hv' (s.l.length + 1) (msgCells s.l ++ [.int .i64 m.iv, .slice m.p m.b.length m.cap, .int .u64 m.tag]))
    (hat : s.hv.ownBlock = some g ∨ g = wa.heap.size) (hlt : g < wb.heap.size) :
    Recv (wb.setCell ⟨R, 135, none⟩ hv') (grew own w (wb.setCell ⟨R, 135, none⟩ hv')) R { s with hv := hv', l := s.l ++ [m] } ∧ Keeps own w (wb.setCell ⟨R, 135, none⟩ hv') := by
  have hRw := h.low R h.ownR
  have hRa : R < wa.heap.size := Nat.lt_of_lt_of_le hRw ha.size
  have hRne : some R ≠ s.hv.ownBlock := fun e => (h.far R e.symm).2 rfl
  have hgR : g ≠ R := by
    rcases hat with hat | hat
    · exact (h.far g hat).2
    · omega
  have hob : ∀ k, s.hv.ownBlock = some k → k < w.heap.size := fun k hk => h.low k (h.far k hk).1
  have hsz : (wb.setCell ⟨R, 135, none⟩ hv').heap.size = wb.heap.size := by simp [World.setCell]
  have hbR : wb.heap[R]? = w.heap[R]? := (hg.block R hRa hRne).trans (ha.block R hRw)
  have hc : ∀ o, o ≠ 135 → (wb.setCell ⟨R, 135, none⟩ hv').cell? ⟨R, o, none⟩ = w.cell? ⟨R, o, none⟩ := fun o ho => by
    rw [World.cell?_setCell_other _ _ _ _ (by simp <;> omega)]
    exact World.cell?_of_block hbR
  have hblk : ∀ k, k < wb.heap.size → k ≠ R → (wb.setCell ⟨R, 135, none⟩ hv').heap[k]? = wb.heap[k]? := fun k _ hk => Below.heap_setCell _ _ _ _ hk
  have hold : ∀ k, k < w.heap.size → k ≠ R → s.hv.ownBlock ≠ some k → (wb.setCell ⟨R, 135, none⟩ hv').heap[k]? = w.heap[k]? := fun k hk hkR hkv => by
    rw [Below.heap_setCell _ _ _ _ hkR, hg.block k (Nat.lt_of_lt_of_le hk ha.size) (fun e => hkv e.symm), ha.block k hk]
  have hthb : There wb R 136 := by
    intro j hj
    obtain ⟨⟨v, q1⟩, q2⟩ := h.th j hj
    exact ⟨⟨v, (World.cell?_of_block hbR).trans q1⟩, (World.frozen?_of_block hbR).trans q2⟩
  have hown' : hv'.ownBlock = some g := by rw [hv]; rfl
  refine ⟨⟨h.ok, ?_, .inl h.ownR, ?_, ?_, ?_, ?_, ?_, ?_, ?_, hthb.setCell _ _, h.kco, ?_, ?_, ?_, ?_, ?_⟩, ⟨?_, ?_, ?_, ?_, ?_⟩⟩
  · intro k hk
    rcases hk with hk | hk
    · rw [hsz]; exact Nat.lt_of_lt_of_le (h.low k hk) (Nat.le_trans ha.size hg.size)
    · exact hk.2
  · exact (hc 0 (by omega)).trans h.c0
  · exact (hc 1 (by omega)).trans h.c1
  · exact (hc 2 (by omega)).trans h.c2
  · exact (hc 3 (by omega)).trans h.c3
  · exact (hc 4 (by omega)).trans h.c4
  · exact World.cell?_setCell_same (u := s.hv) _ _ _ ((World.cell?_of_block hbR).trans h.c5)
  · intro i hi
    have hi64 : i < 65 := hi
    exact ⟨(hc _ (by omega)).trans (h.keys i hi).1, (hc _ (by omega)).trans (h.keys i hi).2⟩
  · show World.ownsRow _ 0 _ 3 hv' (s.l ++ [m]).length (msgCells (s.l ++ [m]))
    rw [msgCells_append, List.length_append]
    refine World.ownsRow.kept (w := wb) (row := some R) hrow ⟨rfl, rfl, rfl, by simp [World.setCell], fun k _ hk => Below.heap_setCell _ _ _ _ (fun e => hk (by rw [e]))⟩ (.inr ?_)
    rw [hown']; simpa using hgR
  · intro k hk
    obtain rfl : g = k := by rw [hown'] at hk; simpa using hk
    refine ⟨?_, hgR⟩
    rcases hat with hat | hat
    · exact .inl (h.far g hat).1
    · exact .inr ⟨by rw [hat]; exact ha.size, by rw [hsz]; exact hlt⟩
  · intro q hq
    rcases List.mem_append.1 hq with hq | hq
    · exact h.ivs q hq
    · obtain rfl : q = m := by simpa using hq
      exact ⟨hi1, hi2⟩
  · intro q hq
    rcases List.mem_append.1 hq with hq | hq
    · obtain ⟨b1, b2, b3, b4⟩ := h.body q hq
      refine ⟨b1, b2, b3, ?_⟩
      intro i hi
      obtain ⟨a, e1, e2, e3⟩ := b4 i hi
      obtain ⟨f1, f2, f3⟩ := h.apart q hq a e1
      refine ⟨a, e1, by rw [hsz]; exact Nat.lt_of_lt_of_le e2 (Nat.le_trans ha.size hg.size), ?_⟩
      rw [World.cell?_of_block (w := w) (a := a.add i) (by rw [show (a.add i).block = a.block by unfold Addr.add; split <;> rfl]; exact hold _ e2 f2 f3)]
      exact e3
    · obtain rfl : q = m := by simpa using hq
      refine ⟨hm1, hm2, hm3, ?_⟩
      intro i hi
      obtain ⟨a, e1, e2, e3⟩ := hy i hi
      obtain ⟨p1, p2⟩ := hp a e1
      refine ⟨a, e1, by rw [hsz]; exact Nat.lt_of_lt_of_le e2 hg.size, ?_⟩
      rw [World.cell?_of_block (w := wa) (a := a.add i) ?_]
      · exact e3
      · rw [show (a.add i).block = a.block by unfold Addr.add; split <;> rfl, Below.heap_setCell _ _ _ _ (by show a.block ≠ R; omega), hg.block a.block e2 (fun e => by have := hob _ e.symm; omega)]
  · intro q hq a ha'
    rw [show ({ s with hv := hv', l := s.l ++ [m] } : RS).hv.ownBlock = some g from hown']
    rcases List.mem_append.1 hq with hq | hq
    · obtain ⟨f1, f2, f3⟩ := h.apart q hq a ha'
      refine ⟨.inl f1, f2, ?_⟩
      rcases hat with hat | hat
      · rw [← hat]; exact f3
      · have := h.low _ f1
        have := ha.size
        simp; omega
    · obtain rfl : q = m := by simpa using hq
      obtain ⟨p1, p2⟩ := hp a ha'
      refine ⟨.inr ⟨p1, by rw [hsz]; exact Nat.lt_of_lt_of_le p2 hg.size⟩, by omega, ?_⟩
      rcases hat with hat | hat
      · have := hob _ hat; simp; omega
      · simp; omega
  · exact hg.os.trans ha.os
  · exact hg.tape.trans ha.tape
  · exact hg.output.trans ha.output
  · rw [hsz]; exact Nat.le_trans ha.size hg.size
  · intro k hk hn
    exact hold k hk (fun e => hn (by rw [e]; exact h.ownR)) (fun e => hn (h.far k e).1)
end Go.Proofs.YtmhgoknbmbicmaaDoor
