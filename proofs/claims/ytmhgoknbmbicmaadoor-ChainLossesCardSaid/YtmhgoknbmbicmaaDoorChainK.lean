/- What Disclose releases. -/
import Derived.Test.YtmhgoknbmbicmaaDoorChainJ
namespace Go.Proofs.YtmhgoknbmbicmaaDoor
open Go.RowKit
set_option linter.unusedVariables false
set_option linter.unusedSimpArgs false

theorem drel_start {w1 : World} {own : Nat → Prop} {R g cap i : Nat} {s : RS} (h : Recv w1 own R s) (hv : s.hv = .slice (some ⟨g, 0, none⟩) s.l.length cap) (K : Nat → Int × Int) :
    DRel w1 w1.heap.size R g cap (i : Int) K s.l 0 (.slice none 0 0) (w1.setCell ⟨R, 135, none⟩ (.slice (some ⟨g, 0, none⟩) 0 cap)) := by
  have hgR : g ≠ R := (h.far g (by rw [hv]; rfl)).2
  rcases own_form h.row with ⟨q, _⟩ | ⟨g', cap', q, ho, hle, hc, hcells⟩
  · rw [hv] at q; cases q
  · rw [hv] at q
    obtain ⟨rfl, rfl⟩ : g = g' ∧ cap = cap' := by simpa using q
    have hother : ∀ o, (w1.setCell ⟨R, 135, none⟩ (.slice (some ⟨g, 0, none⟩) 0 cap)).cell? ⟨g, o, none⟩ = w1.cell? ⟨g, o, none⟩ := fun o => World.cell?_setCell_other _ _ _ _ (by first | (simp; done) | (simp; intro e; exact absurd e.symm hgR))
    refine ⟨ho.setCell _ _, ?_, ?_, ?_, ?_, h.th.setCell _ _, rfl, rfl, rfl, by simp [World.setCell], fun b _ hb _ => Below.heap_setCell _ _ _ _ hb, ?_⟩
    · intro j u hu; simp [keepM, msgCells] at hu
    · intro j m _ hm
      obtain ⟨q0, q1, q2⟩ := msgCells_at s.l j m hm
      exact ⟨by rw [hother]; exact hcells _ _ q0, by rw [hother]; exact hcells _ _ q1, by rw [hother]; exact hcells _ _ q2⟩
    · simp only [keepM, List.take_zero, List.filter_nil, List.length_nil]
      exact World.cell?_setCell_same _ _ _ h.c5
    · intro o ho'
      exact World.cell?_setCell_other _ _ _ _ (by simp <;> omega)
    · simp only [outM, List.take_zero, List.filter_nil, List.length_nil]
      exact World.ownsRow_nil _ _ _ _

theorem news_new (X : World) (cs : Array Value) (t : TypeId) (p : Nat) (hp : p = X.heap.size) : ∀ j u, cs.toList[j]? = some u → (X.alloc (.cells cs t)).cell? ((⟨p, 0, none⟩ : Addr).add j) = some u := by
  subst hp
  exact World.news_of_block (heap_alloc_new _ _)
theorem below_alloc' {w X : World} (h : Below w.heap.size w X) (o : Obj) : Below w.heap.size w (X.alloc o) := h.alloc h.size o
/-- a message that stays is written over the row's head -/
theorem step_keep {w1 X : World} {B R g cap : Nat} {i : Int} {K' : Nat → Int × Int} {l : List Msg} {k : Nat} {ov : Value} {ops : Array Oper} {o : Oper} {a : Act} {K : Act → World → Prop} {Q : Exit → Act → World → Prop} {E : Prop} (hgd : o.guard = none) (s x : Operand)
    (ho : o.op = .call { callee := .builtin .append, args := #[s, x], argTypes := #[62, 62] }) (hD : DRel w1 B R g cap i K' l k ov X) (hgR : g ≠ R) (hkc : k < cap) (n : Nat) (hn : (keepM i (l.take k)).length = n)
    (hs : a.eval s = .slice (some ⟨g, 0, none⟩) n cap) (ad : Addr) (c : Nat) (news : List Value) (hx : a.eval x = .slice (some ad) 1 c) (hl : news.length = 3) (hc : ∀ j u, news[j]? = some u → X.cell? (ad.add j) = some u) (h1 : ∀ u ∈ news, u.oneCell' = true)
    (h : ∀ W5 : World, W5 = X.setCells g (n * 3) news → W5.cell? ⟨R, 135, none⟩ = some (.slice (some ⟨g, 0, none⟩) n cap) → W5.frozen? ⟨R, 135, none⟩ = false → K (a.put o.dst (.slice (some ⟨g, 0, none⟩) (n + 1) cap)) W5) :
    if Region.wanted o (yielded ops a.tmps) = true then Oper.wp Tryd.prog o a X K Q else E := by
  obtain ⟨i0, hi, hz0, hz1, hz2⟩ := info_parts infoMsg
  have hnk : n ≤ k := by rw [← hn]; exact keepM_le i l k
  have hth := hD.own.there
  have c5 := hD.c5
  rw [hn] at c5
  refine step_append_room hgd s x 62 ho 67 i0 3 Tryd.underlying62 hi hz1 g 0 n cap hs ad 1 c news hx (by omega) hc h1 (by omega) (fun j hj => ?_) ?_
  · rw [Nat.zero_add]
    obtain ⟨⟨v, hv⟩, hf⟩ := hth (n * 3 + j) (by omega)
    exact ⟨by rw [hv]; rfl, hf⟩
  · rw [Nat.zero_add]
    refine h _ rfl ?_ ?_
    · rw [World.cell?_setCells_out g _ _ _ ⟨R, 135, none⟩ (fun e _ => absurd e.symm hgR)]; exact c5
    · rw [World.frozen?_setCells]; exact (hD.th 135 (by omega)).2

theorem DRel.ints {w1 : World} {own : Nat → Prop} {B R g cap : Nat} {i : Int} {K : Nat → Int × Int} {s : RS} {k : Nat} {ov : Value} {wr : World} (h : DRel w1 B R g cap i K s.l k ov wr) (hr : Recv w1 own R s) (hg : s.hv.ownBlock = some g) (m : Msg) (hm : m ∈ s.l) : Ints .u8 wr wr.heap.size m.p m.b := by
  obtain ⟨-, -, -, b4⟩ := hr.body m hm
  intro j hj
  obtain ⟨a, e1, e2, e3⟩ := b4 j hj
  obtain ⟨f1, f2, f3⟩ := hr.apart m hm a e1
  refine ⟨a, e1, Nat.lt_of_lt_of_le e2 h.size, ?_⟩
  rw [World.cell?_of_block (w := w1) (a := a.add j) (by rw [show (a.add j).block = a.block by unfold Addr.add; split <;> rfl]; exact h.block _ e2 f2 (fun e => f3 (by rw [hg, e])))]
  exact e3

/-- the receiver behind Disclose -/
theorem recv_disc {w1 wr : World} {own : Nat → Prop} {B R g cap n i : Nat} {K : Nat → Int × Int} {s : RS} {ov : Value} (hD : DRel w1 B R g cap (i : Int) K s.l s.l.length ov wr) (hr : Recv w1 own R s) (hv : s.hv = .slice (some ⟨g, 0, none⟩) s.l.length cap)
    (hn : (keepM (i : Int) s.l).length = n) (hnc : n ≤ cap) (hcap : cap ≤ 9223372036854775807) (hgB : g < B) (o0 : Nat) (ho0 : n * 3 ≤ o0) (cs : List Value) :
    Recv (wr.setCells g o0 cs) own R { s with hv := .slice (some ⟨g, 0, none⟩) n cap, l := keepM (i : Int) s.l } ∧ Keeps own w1 (wr.setCells g o0 cs) ∧
      (wr.setCells g o0 cs).ownsRow B 36 1 ov (outM K (i : Int) s.l).length (outCells (outM K (i : Int) s.l)) ∧ (∀ m ∈ s.l, Ints .u8 (wr.setCells g o0 cs) (wr.setCells g o0 cs).heap.size m.p m.b) := by
  have hgo : s.hv.ownBlock = some g := by rw [hv]; rfl
  obtain ⟨hog, hgR⟩ := hr.far g hgo
  have hc : ∀ o, (wr.setCells g o0 cs).cell? ⟨R, o, none⟩ = wr.cell? ⟨R, o, none⟩ := fun o => World.cell?_setCells_out g _ _ _ ⟨R, o, none⟩ (fun e _ => absurd e.symm hgR)
  have hsz := size_setCells g cs o0 wr
  have hos := outside_setCells g cs o0 wr
  have hcs : ∀ o, o ≠ 135 → (wr.setCells g o0 cs).cell? ⟨R, o, none⟩ = w1.cell? ⟨R, o, none⟩ := fun o ho => (hc o).trans (hD.cs o ho)
  have hk := hD.kept
  have h5 := hD.c5
  have hout := hD.out
  rw [List.take_length] at hk h5 hout
  rw [hn] at h5
  have hints : ∀ m ∈ s.l, Ints .u8 (wr.setCells g o0 cs) (wr.setCells g o0 cs).heap.size m.p m.b := by
    intro m hm j hj
    obtain ⟨a, e1, e2, e3⟩ := hD.ints hr hgo m hm j hj
    obtain ⟨f1, f2, f3⟩ := hr.apart m hm a e1
    refine ⟨a, e1, by rw [hsz]; exact e2, ?_⟩
    rw [World.cell?_of_block (w := wr) (a := a.add j) (by rw [show (a.add j).block = a.block by unfold Addr.add; split <;> rfl]; exact heap_setCells _ _ _ _ _ (fun e => f3 (by rw [hgo, e])))]
    exact e3
  refine ⟨⟨hr.ok, ?_, hr.ownR, (hcs 0 (by omega)).trans hr.c0, (hcs 1 (by omega)).trans hr.c1, (hcs 2 (by omega)).trans hr.c2, (hcs 3 (by omega)).trans hr.c3, (hcs 4 (by omega)).trans hr.c4, (hc 135).trans h5, ?_, hD.th.setCells _ _ _, hr.kco, ?_, ?_, ?_, ?_, ?_⟩, ⟨?_, ?_, ?_, ?_, ?_⟩, ?_, hints⟩
  · intro b hb; rw [hsz]; exact Nat.lt_of_lt_of_le (hr.low b hb) hD.size
  · intro j hj
    exact ⟨(hcs _ (by omega)).trans (hr.keys j hj).1, (hcs _ (by omega)).trans (hr.keys j hj).2⟩
  · show World.ownsRow _ 0 _ 3 (.slice (some ⟨g, 0, none⟩) n cap) (keepM (i : Int) s.l).length (msgCells (keepM (i : Int) s.l))
    rw [hn]
    refine (hD.own.setCells g cs o0).row (by rw [msgCells_len, hn]) hnc hcap (fun j u hu => ?_)
    have hj := (List.getElem?_eq_some_iff.1 hu).1
    rw [msgCells_len, hn] at hj
    rw [World.cell?_setCells_out g _ _ _ ⟨g, j, none⟩ (fun _ _ => by left; show j < o0; omega)]
    exact hk j u hu
  · intro b hb
    obtain rfl : g = b := by simpa [Value.ownBlock] using hb
    exact ⟨hog, hgR⟩
  · intro m hm; exact hr.ivs m (List.mem_filter.1 hm).1
  · intro m hm
    obtain ⟨b1, b2, b3, -⟩ := hr.body m (List.mem_filter.1 hm).1
    exact ⟨b1, b2, b3, hints m (List.mem_filter.1 hm).1⟩
  · intro m hm a ha
    obtain ⟨f1, f2, f3⟩ := hr.apart m (List.mem_filter.1 hm).1 a ha
    exact ⟨f1, f2, by rw [hgo] at f3; exact f3⟩
  · exact hos.1.trans hD.os
  · exact hos.2.1.trans hD.tape
  · exact hos.2.2.trans hD.output
  · rw [hsz]; exact hD.size
  · intro b h1 h2
    rw [heap_setCells _ _ _ _ _ (fun e => h2 (by rw [e]; exact hog))]
    exact hD.block b h1 (fun e => h2 (by rw [e]; exact hr.ownR)) (fun e => h2 (by rw [e]; exact hog))
  · refine ⟨hout.1, ?_⟩
    rcases hout.2 with q | ⟨b, c, cur, hvb, hb, hh, rest⟩
    · exact .inl q
    · exact .inr ⟨b, c, cur, hvb, hb, (heap_setCells _ _ _ _ _ (by omega)).trans hh, rest⟩

theorem row_base {w : World} {B B' : Nat} {e : TypeId} {size n : Nat} {v : Value} {xs : List Value} (h : w.ownsRow B e size v n xs) (hB : B' ≤ B) : w.ownsRow B' e size v n xs := by
  refine ⟨h.1, ?_⟩
  rcases h.2 with q | ⟨b, c, cur, hv, hb, rest⟩
  · exact .inl q
  · exact .inr ⟨b, c, cur, hv, Nat.le_trans hB hb, rest⟩

theorem infoSl : (Tryd.prog.info? 36).map (fun i => (i.zero, i.size, i.bytes)) = some (some (.slice none 0 0), 1, 24) := by kernel_rfl

set_option maxHeartbeats 8000000 in
theorem disc_some (R : Nat) (own : Nat → Prop) (s : RS) (i : Nat) (a b : Int) (g cap : Nat) (w : World) (h : Recv w own R s) (hi0 : s.kn < i) (hi1 : (i : Int) ≤ s.co) (hk : downN (i - s.kn) (a, b) = s.K s.kn) (hL : s.l.length ≤ 1000)
    (hhv : s.hv = .slice (some ⟨g, 0, none⟩) s.l.length cap) :
    Calls Tryd.prog 24 #[.pointer (some ⟨R, 0, none⟩), .int .i64 (i : Int), .agg #[.int .u64 a, .int .u64 b]] w fun e w' => ∃ ov hv',
      e = .returned (.tuple #[ov, .int .i64 0]) ∧ w'.ownsRow w.heap.size 36 1 ov (outM (putK s.kn i (a, b) s.K) i s.l).length (outCells (outM (putK s.kn i (a, b) s.K) i s.l)) ∧
      Recv w' own R { s with kn := i, K := putK s.kn i (a, b) s.K, hv := hv', l := keepM i s.l } ∧ Keeps own w w' ∧ (∀ m ∈ s.l, Ints .u8 w' w'.heap.size m.p m.b) := by
  have hRw := h.low R h.ownR
  obtain ⟨K', hK'⟩ : ∃ K', putK s.kn i (a, b) s.K = K' := ⟨_, rfl⟩
  have hb0 : Below w.heap.size w (w.alloc (.cells #[.int .u64 a, .int .u64 b] 34)) := (Below.refl _ _).alloc (Nat.le_refl _) _
  have C := prove_any R own s i a b _ (h.below hb0 (Nat.le_refl _)) hi0 hi1
  have HC := Lib.hid (C.mono fun e w' q => q.1 hk)
  rw [hK'] at HC ⊢
  have HK' := Lib.hid hK'
  clear hK' C hk
  obtain ⟨st, sp, de, co, kn, K, hv, l⟩ := s
  obtain ⟨-, -, -, c0, c1, c2, c3, c4, c5, -, -, -, -, -, -, -, -⟩ := id h
  simp only at c0 c1 c2 c3 c4 c5 hi1 hi0 hhv hL
  subst hhv
  have HR := Lib.hid h
  clear h
  have hne : R ≠ w.heap.size := by omega
  have hi2 : (1 : Int) ≤ i := by omega
  go_enter Tryd.func24, Tryd.ntmps24
  go_wp2_with (fail)
  refine HC.out.mono ?_
  rintro e w1 ⟨rfl, hr1, hk1⟩
  have d5 := hr1.c5
  have f5 := (hr1.th 135 (by omega)).2
  have hD := drel_start (i := i) hr1 rfl K'
  rcases own_form hr1.row with ⟨q, _⟩ | ⟨g', cap', q, ho, hle, hcap, -⟩
  · cases q
  obtain ⟨rfl, rfl⟩ : g = g' ∧ cap = cap' := by simpa using q
  simp only at hle d5 hD
  have HD := Lib.hid hD
  have HR1 := Lib.hid hr1
  have HK1 := Lib.hid hk1
  have HO := Lib.hid ho
  clear hD hr1 hk1 ho q c0 c1 c2 c3 c4 c5
  have hLi : ((l.length : Nat) : Int) ≤ 1000 := by omega
  go_wp2_with (fail)
  go_loopw [8, 54] (fun ov ki wr => ∃ k : Nat, k ≤ l.length ∧ ki = .int .i64 k ∧ DRel w1 w1.heap.size R g cap (i : Int) K' l k ov wr) (fun _ ki _ => l.length - (intOf ki).toNat)
  case atStart => exact ⟨0, by omega, rfl, HD.out⟩
  case round =>
    obtain ⟨k, hkL, rfl, hD⟩ := hrel
    have hgw : g < w1.heap.size := HR1.out.low g (HR1.out.far g rfl).1
    have hRw1 : R < w1.heap.size := HR1.out.low R HR1.out.ownR
    have hgR : g ≠ R := (HR1.out.far g rfl).2
    have hsw := hD.size
    have hRr : R < wr.heap.size := by omega
    have hgr : g < wr.heap.size := by omega
    by_cases hlt : k < l.length
    · obtain ⟨m, hm⟩ : ∃ m, l[k]? = some m := ⟨_, List.getElem?_eq_getElem hlt⟩
      obtain ⟨q0, q1, q2⟩ := hD.rest k m (Nat.le_refl _) hm
      have c4r : wr.cell? ⟨R, 4, none⟩ = some (.int .i64 (i : Int)) := (hD.cs 4 (by omega)).trans HR1.out.c4
      have d5r := hD.c5
      have hmem : m ∈ l := List.mem_of_getElem? hm
      obtain ⟨iv1, iv2⟩ := HR1.out.ivs m hmem
      obtain ⟨n, hn⟩ : ∃ n, (keepM (i : Int) (l.take k)).length = n := ⟨_, rfl⟩
      rw [hn] at d5r
      have hnk : n ≤ k := by rw [← hn]; exact keepM_le _ l k
      have HDD := Lib.hid hD
      have HN := Lib.hid hn
      have HM := Lib.hid hm
      clear hD hn hm
      have hkc : k < cap := by omega
      obtain ⟨bl, hbl⟩ : ∃ bl, m.b.length = bl := ⟨_, rfl⟩
      rw [hbl] at q1
      obtain ⟨iv, hiv⟩ : ∃ iv, m.iv = iv := ⟨_, rfl⟩
      rw [hiv] at q0 iv1 iv2
      obtain ⟨tg, htg⟩ : ∃ tg, m.tag = tg := ⟨_, rfl⟩
      rw [htg] at q2
      obtain ⟨mp, hmp⟩ : ∃ mp, m.p = mp := ⟨_, rfl⟩
      obtain ⟨mc, hmc⟩ : ∃ mc, m.cap = mc := ⟨_, rfl⟩
      rw [hmp, hmc] at q1
      have HBL := Lib.hid hbl
      have HIV := Lib.hid hiv
      have HTG := Lib.hid htg
      have HMP := Lib.hid hmp
      have HMC := Lib.hid hmc
      clear hbl hiv htg hmp hmc
      have hR1 : R ≠ wr.heap.size := by omega
      have hR2 : R ≠ wr.heap.size + 1 := by omega
      have hg1 : g ≠ wr.heap.size := by omega
      have hg2 : g ≠ wr.heap.size + 1 := by omega
      have hi64 : iv ≤ 64 := by have := (okC_iff.1 HR1.out.ok).2.2.2.2.2.2.2; simp only at this iv2; omega
      have hbx : Below wr.heap.size wr (wr.alloc (.cells #[.int .i64 iv, .slice mp bl mc, .int .u64 tg] 67)) := below_alloc' (Below.refl _ _) _
      by_cases hi : (i : Int) < iv
      · go_wp2_with (fail)
        go_quiet (fail)
        go_wp2_with (fail)
        have hbq := below_drewN hbx nq
        go_region_law ((first
          | (refine step_keep rfl (.tmp 69) (.tmp 71) rfl (HDD.out.below (by repeat (first | exact below_drewN hbx _ | refine Below.drew ?_ | refine below_alloc' ?_ _)) hRr hgr) hgR hkc n HN.out (by simp only [Act.eval, Act.put, List.setIfInBounds_toArray, List.set_cons_zero, List.set_cons_succ]; rfl) _ 1 [.int .i64 iv, .slice mp bl mc, .int .u64 tg] rfl rfl (news_new _ #[.int .i64 iv, .slice mp bl mc, .int .u64 tg] _ _ (by simp)) (by intro u hu; simp at hu; rcases hu with rfl | rfl | rfl <;> rfl) ?_; intro W5 hW5 hc5 hf5; have HW5 := Lib.hid hW5; clear hW5)))
        all_goals
          go_wp2_with (fail)
          go_roundw
          case rel =>
            refine ⟨k + 1, by omega, by go_num, ?_⟩
            have K1 := DRel.keep (HDD.out.below (below_alloc' (below_drewN hbx (nq + 1)) (.cells #[.int .i64 iv, .slice mp bl mc, .int .u64 tg] 67)) hRr hgr) HM.out (by rw [HIV.out]; exact hi) HN.out hgR hkc hgw hRw1
            rw [HIV.out, HMP.out, HBL.out, HMC.out, HTG.out] at K1
            rw [HW5.out]
            exact K1
          case measure => simp [intOf]; omega
      · obtain ⟨nv, rfl⟩ : ∃ nv : Nat, iv = nv := ⟨iv.toNat, by omega⟩
        obtain ⟨y0, y1⟩ := HR1.out.keys nv (by omega)
        have k0 : wr.cell? ⟨R, 5 + nv * 2, none⟩ = some (.int .u64 (K' nv).1) := (HDD.out.cs _ (by omega)).trans y0
        have k1 : wr.cell? ⟨R, 5 + nv * 2 + 1, none⟩ = some (.int .u64 (K' nv).2) := (HDD.out.cs _ (by omega)).trans y1
        obtain ⟨z1, z2, z3, -⟩ := HR1.out.body m hmem
        have hints := HDD.out.ints HR1.out rfl m hmem
        have C := right_any R nv (K' nv).1 (K' nv).2 tg m.p m.cap m.b
        rw [HBL.out, HMP.out, HMC.out] at C
        rw [HBL.out, HMC.out] at z1
        rw [HMC.out] at z2
        rw [HMP.out] at hints
        obtain ⟨D, hD⟩ : ∃ D, (rightTag ((K' nv).1, (K' nv).2) m.b == tg) = D := ⟨_, rfl⟩
        rw [hD] at C
        have HDT : Hid ((rightTag (K' m.iv.toNat) m.b == m.tag) = D) := by
          show _ = _
          rw [HIV.out, HTG.out, Int.toNat_natCast]
          exact hD
        have HC2 := Lib.hid C
        have HI := Lib.hid hints
        have HZ3 := Lib.hid z3
        clear C hD hints z3 y0 y1
        have HK0 := Lib.hid k0
        have HK1' := Lib.hid k1
        clear k0 k1
        go_wp2_with (fail)
        go_quiet (fail)
        go_wp2_with (fail)
        have hbq := below_drewN hbx nq
        refine (HC2.out _ (by simp; omega) (by omega) (by rw [hbq.cell (by exact hRr)]; exact HK0.out) (by rw [hbq.cell (by exact hRr)]; exact HK1'.out) (HI.out.below' hbq hbq.size) HZ3.out z1 z2).mono ?_
        rintro e w4 ⟨rfl, hb4⟩
        have hb4' := hbq.trans (hb4.mono hbq.size)
        have HD4 := Lib.hid (HDD.out.below hb4' hRr hgr)
        have hs4 := hb4.size
        simp at hs4
        have x1 : w4.cell? ⟨wr.heap.size, 1, none⟩ = some (.slice mp bl mc) := by rw [hb4.cell (by simp)]; simp
        have hw4 : wr.heap.size ≠ w4.heap.size := by omega
        clear hb4 q0 q1 q2 c4r d5r
        cases D with
        | false =>
          go_wp2_with (fail)
          go_roundw
          case rel => exact ⟨k + 1, by omega, by go_num, HD4.out.skip HM.out (by rw [HIV.out]; omega) HDT.out⟩
          case measure => simp [intOf]; omega
        | true =>
          obtain ⟨j0, hj, hjz0, hjz1, hjz2⟩ := info_parts infoSl
          obtain ⟨on, hon⟩ : ∃ on, (outM K' (i : Int) (l.take k)).length = on := ⟨_, rfl⟩
          have hol : on ≤ k := by rw [← hon]; exact Nat.le_trans (List.length_filter_le _ _) (by rw [List.length_take]; omega)
          have hrow := HD4.out.out
          rw [hon] at hrow
          have HROW := Lib.hid hrow
          have HON := Lib.hid hon
          clear hrow hon
          go_wp2_with (at_builtin; refine wpList_append_own_at _ rfl (.tmp 78) (.tmp 81) 42 rfl w1.heap.size 36 j0 _ 1 24 Tryd.underlying42 hj hjz0 hjz1 hjz2 rfl (by omega) u8 on (outCells (outM K' (i : Int) (l.take k))) rfl (HROW.out.alloc _) _ 1 1 [.slice mp bl mc] rfl rfl (news_new _ #[.slice mp bl mc] _ _ rfl) (by intro u hu; simp at hu; subst hu; rfl) (by unfold maxLen; omega) (by omega) (by simp; omega) ?_; intro ov' w6 hown6 hg6 hnil6 hat6)
          go_roundw
          case rel => exact ⟨k + 1, by omega, by go_num, DRel.give (HD4.out.below (below_alloc' (Below.refl _ _) (.cells #[.slice mp bl mc] 36)) (by omega) (by omega)) HM.out (by rw [HIV.out]; omega) HDT.out hgw hRw1 (by simp; omega) hg6 (Nat.le_refl _) (by rw [HON.out, HMP.out, HBL.out, HMC.out]; exact hown6)⟩
          case measure => simp [intOf]; omega
    · obtain rfl : k = l.length := by omega
      obtain ⟨n, hn⟩ : ∃ n, (keepM (i : Int) l).length = n := ⟨_, rfl⟩
      have hnk : n ≤ l.length := by rw [← hn]; exact List.length_filter_le _ _
      have d5r := hD.c5
      rw [List.take_length, hn] at d5r
      have HDD := Lib.hid hD
      have HN := Lib.hid hn
      clear hD hn
      have hnc : n ≤ cap := by omega
      have hni : (n : Int) ≤ l.length := by omega
      have hnci : (n : Int) ≤ cap := by omega
      have hth := HDD.out.own.there
      have HTH := Lib.hid hth
      clear hth
      by_cases hfull : n = cap
      · subst hfull
        have hLn : l.length = n := by omega
        obtain ⟨cs, hcl, hrun⟩ := run_clear_msgs wr 0 g 0 0 0 (fun j hj => by omega) (fun j hj => by omega)
        obtain rfl : cs = [] := List.eq_nil_of_length_eq_zero (by omega)
        rw [World.setCells] at hrun
        have HLn := Lib.hid hLn
        clear hcl hLn
        go_wp2_with (fail)
        go_ret2
        obtain ⟨r1, r2, r3, r4⟩ := recv_disc HDD.out HR1.out rfl HN.out hnc hcap hgw (n * 3) (Nat.le_refl _) []
        rw [World.setCells] at r1 r2 r3 r4
        have hs1 := HK1.out.size
        simp at hs1
        exact ⟨u8, _, rfl, row_base r3 (by omega), r1, (Below.keeps hb0 (Nat.le_refl _) own).trans (HK1.out.trans r2 (fun _ _ q => q)) (fun _ _ q => q), r4⟩
      · obtain ⟨cs, hcl, hrun⟩ := run_clear_msgs wr 0 g (n * 3) (l.length - n) (cap - n) (fun j hj => by obtain ⟨⟨v, hv⟩, hf⟩ := HTH.out (n * 3 + j) (by omega); rw [hv]; rfl) (fun j hj => (HTH.out (n * 3 + j) (by omega)).2)
        have HCL := Lib.hid hcl
        clear hcl
        go_wp2_with (fail)
        go_ret2
        obtain ⟨r1, r2, r3, r4⟩ := recv_disc HDD.out HR1.out rfl HN.out hnc hcap hgw (n * 3) (Nat.le_refl _) cs
        have hs1 := HK1.out.size
        simp at hs1
        exact ⟨u8, _, rfl, row_base r3 (by omega), r1, (Below.keeps hb0 (Nat.le_refl _) own).trans (HK1.out.trans r2 (fun _ _ q => q)) (fun _ _ q => q), r4⟩
end Go.Proofs.YtmhgoknbmbicmaaDoor
