/- The law AgendaSorts. -/
import Derived.Test.YtknoigleejbjdaaAgSa
namespace Go.Proofs.Ytknoigleejbjdaa
open Go.RowKit
set_option linter.unusedVariables false
set_option linter.unusedSimpArgs false

/-- a row of Booleans -/
def Bits (w : World) (g n : Nat) (f : Nat → Bool) : Prop := g < w.heap.size ∧ ∀ j, j < n → w.cell? ⟨g, j, none⟩ = some (.bool (f j)) ∧ w.frozen? ⟨g, j, none⟩ = false
theorem Bits.same {w w' : World} {g n : Nat} {f : Nat → Bool} (h : Bits w g n f) (hb : w'.heap[g]? = w.heap[g]?) (hs : w.heap.size ≤ w'.heap.size) : Bits w' g n f :=
  ⟨Nat.lt_of_lt_of_le h.1 hs, fun j hj => ⟨(World.cell?_of_block hb).trans (h.2 j hj).1, (World.frozen?_of_block hb).trans (h.2 j hj).2⟩⟩
theorem Bits.keep {w w' : World} {g n : Nat} {f : Nat → Bool} {own : Nat → Prop} (h : Bits w g n f) (hk : Keep own w w') (ho : ¬ own g) : Bits w' g n f := h.same (hk.block g h.1 ho) hk.size
theorem Bits.below {w w' : World} {g n : Nat} {f : Nat → Bool} (h : Bits w g n f) (hb : Below w.heap.size w w') : Bits w' g n f := h.same (hb.block g h.1) hb.size
theorem Bits.set {w : World} {g n : Nat} {f : Nat → Bool} (h : Bits w g n f) {i : Nat} (hi : i < n) (b : Bool) : Bits (w.setCell ⟨g, i, none⟩ (.bool b)) g n (fun j => if j = i then b else f j) := by
  refine ⟨by simpa [World.setCell] using h.1, fun j hj => ⟨?_, by rw [World.frozen?_setCell]; exact (h.2 j hj).2⟩⟩
  by_cases e : j = i
  · subst e; simp only [if_true]; exact World.cell?_setCell_same _ _ _ (h.2 j hj).1
  · simp only; rw [if_neg e, World.cell?_setCell_other _ _ _ _ (by simp [e])]; exact (h.2 j hj).1
theorem Bits.ofRow {w : World} {base : Nat} {g n : Nat} {c : Nat} {xs : List Value} {f : Nat → Bool} (h : w.ownsRow base 4 1 (.slice (some ⟨g, 0, none⟩) n c) n xs) (hf : ∀ j, j < n → xs[j]? = some (.bool (f j))) : Bits w g n f := by
  obtain ⟨h1, h2⟩ := h
  rcases h2 with ⟨q, -⟩ | ⟨g', cap, cur, q, hb, hh, hn, hcap, hsz, htake⟩
  · cases q
  · obtain ⟨rfl, rfl⟩ : g = g' ∧ c = cap := by simpa using q
    refine ⟨?_, fun j hj => ?_⟩
    · rcases Nat.lt_or_ge g w.heap.size with q | q
      · exact q
      · rw [Array.getElem?_eq_none q] at hh; cases hh
    · have := hf j hj
      rw [← htake, List.getElem?_take, if_pos (by omega), Array.getElem?_toList] at this
      exact ⟨by simp [World.cell?, hh, this], by simp [World.frozen?, hh]⟩
/-- three numbers in a block of their own -/
def Tri3 (w : World) (b : Nat) (x y z : Int) : Prop := b < w.heap.size ∧ (w.cell? ⟨b, 0, none⟩ = some (.int .i64 x) ∧ w.cell? ⟨b, 1, none⟩ = some (.int .i64 y) ∧ w.cell? ⟨b, 2, none⟩ = some (.int .i64 z)) ∧ w.frozen? ⟨b, 0, none⟩ = false ∧ w.frozen? ⟨b, 1, none⟩ = false ∧ w.frozen? ⟨b, 2, none⟩ = false
theorem Tri3.same {w w' : World} {b : Nat} {x y z : Int} (h : Tri3 w b x y z) (hb : w'.heap[b]? = w.heap[b]?) (hs : w.heap.size ≤ w'.heap.size) : Tri3 w' b x y z := by
  obtain ⟨h0, ⟨h1, h2, h3⟩, h4, h5, h6⟩ := h
  exact ⟨Nat.lt_of_lt_of_le h0 hs, ⟨(World.cell?_of_block hb).trans h1, (World.cell?_of_block hb).trans h2, (World.cell?_of_block hb).trans h3⟩, (World.frozen?_of_block hb).trans h4, (World.frozen?_of_block hb).trans h5, (World.frozen?_of_block hb).trans h6⟩
theorem Tri3.keep {w w' : World} {b : Nat} {x y z : Int} {own : Nat → Prop} (h : Tri3 w b x y z) (hk : Keep own w w') (ho : ¬ own b) : Tri3 w' b x y z := h.same (hk.block b h.1 ho) hk.size
theorem Tri3.below {w w' : World} {b : Nat} {x y z : Int} (h : Tri3 w b x y z) (hb : Below w.heap.size w w') : Tri3 w' b x y z := h.same (hb.block b h.1) hb.size
theorem Tri3.set {w : World} {b : Nat} {x y z : Int} (h : Tri3 w b x y z) (x' y' z' : Int) : Tri3 (((w.setCell ⟨b, 0, none⟩ (.int .i64 x')).setCell ⟨b, 1, none⟩ (.int .i64 y')).setCell ⟨b, 2, none⟩ (.int .i64 z')) b x' y' z' := by
  obtain ⟨h0, ⟨h1, h2, h3⟩, h4, h5, h6⟩ := h
  refine ⟨by simpa [World.setCell] using h0, ⟨?_, ?_, ?_⟩, by simpa [World.frozen?_setCell] using h4, by simpa [World.frozen?_setCell] using h5, by simpa [World.frozen?_setCell] using h6⟩
  · rw [World.cell?_setCell_other _ _ _ _ (by simp), World.cell?_setCell_other _ _ _ _ (by simp)]; exact World.cell?_setCell_same _ _ _ h1
  · rw [World.cell?_setCell_other _ _ _ _ (by simp)]; exact World.cell?_setCell_same (u := .int .i64 y) _ _ _ (by rw [World.cell?_setCell_other _ _ _ _ (by simp)]; exact h2)
  · exact World.cell?_setCell_same (u := .int .i64 z) _ _ _ (by rw [World.cell?_setCell_other _ _ _ _ (by simp), World.cell?_setCell_other _ _ _ _ (by simp)]; exact h3)
theorem infoBool : (Try.prog.info? 4).map (fun i => (i.zero, i.size, i.bytes)) = some (some (.bool false), 1, 1) := by kernel_rfl

set_option maxHeartbeats 8000000 in
set_option maxRecDepth 100000 in
theorem AgendaSorts_walk (v0 : Value) (w : World) (h0 : IsInts .u16 w v0) :
    Calls Try.prog 4 #[v0] w fun e w' => e = .returned (.bool true) ∧ Below w.heap.size w w' := by
  obtain ⟨x, n, c, ts, rfl, hT, hTw, hl, hnc, hc, hx⟩ := h0
  obtain ⟨m, hm⟩ : ∃ m, min n 300 = m := ⟨_, rfl⟩
  have hmn : m ≤ n := by omega
  have hm3 : m ≤ 300 := by omega
  have hmm : (min (n : Int) 300).toNat = m := by omega
  have HN := Lib.hid (new_QO w.heap.size (fun b => False) 300 w (by omega) (by omega) (Nat.le_refl _) (fun b h => h.elim))
  obtain ⟨T, hTe⟩ : ∃ T : Nat → Int, T = fun i => ts.getD i 0 := ⟨_, rfl⟩
  have hTb : ∀ i, i < m → 0 ≤ T i ∧ T i < 65536 ∧ IntKind.i64.wrap (T i) = T i := fun i hi => by
    have e : T i = ts[i]'(by omega) := by rw [hTe]; simp only; rw [List.getD_eq_getElem?_getD, List.getElem?_eq_getElem (by omega)]; rfl
    have := wf_u16 (hTw _ (List.getElem_mem (by omega : i < ts.length)))
    rw [e]
    exact ⟨this.1, this.2, i64_wrap_eq ⟨by omega, by omega⟩⟩
  have HTC := Lib.hid (show ∀ i, i < m → ∃ a : Addr, x = some a ∧ ∀ w', Below w.heap.size w w' → w'.cell? (a.add i) = some (.int .u16 (T i)) from fun i hi => by
    rw [hTe]
    exact hT.at' (show i < ts.length by omega))
  have HTB := Lib.hid hTb
  clear hT hTw hx hTe hTb
  go_enter Try.func4, Try.ntmps4
  go_wp2_with (fail)
  refine HN.out.mono ?_
  rintro e w1 ⟨rfl, hb1, hq1⟩
  have hs1 := hb1.size
  have HB1 := Lib.hid hb1
  have HQ1 := Lib.hid (show QT w.heap.size (fun _ => False) w1 w.heap.size ⟨300, 0, 0, 0, LS T 0⟩ from hq1)
  clear hb1 hq1
  go_wp2_with (fail)
  go_loopw [26] (fun ki wr => ∃ (k : Nat), k ≤ m ∧ ki = .int .i64 k ∧ Hid (QT w.heap.size (fun _ => False) wr w.heap.size ⟨300, 0, k, k * 20000, LS T k⟩) ∧ Hid (Below w.heap.size w wr)) (fun ki _ => m - (intOf ki).toNat)
  case atStart => exact ⟨0, by omega, rfl, HQ1, HB1⟩
  case round =>
    obtain ⟨k, hk, rfl, HQ, HBL⟩ := hrel
    have hkw : IntKind.i64.wrap ((k : Int) + 1) = (k : Int) + 1 := i64_wrap_eq ⟨by omega, by omega⟩
    by_cases hkm : k < m
    · obtain ⟨a, hxa, hca⟩ := HTC.out k hkm
      have z0 := hca wr HBL.out
      obtain ⟨t0, t1, hwt⟩ := HTB.out k hkm
      obtain ⟨t, ht⟩ : ∃ t, T k = t := ⟨_, rfl⟩
      rw [ht] at z0 t0 t1 hwt
      have hneg : IntKind.i64.wrap (-(k : Int)) = -(k : Int) := i64_wrap_eq ⟨by omega, by omega⟩
      have HTK := Lib.hid ht
      clear hca ht
      subst hxa
      have he : St.err ⟨300, 0, k, k * 20000, LS T k⟩ t = 0 := pe_ok (by show (0 : Int) ≤ 0; omega) t0 (by show ((LS T k).length : Int) < 300; rw [LS_len]; omega)
      have hd := QO.put HQ.out (fun b q => q.elim) (by simp only; omega) (by simp only; omega) t (-(k : Int)) (by simp only; omega) (by simp only; omega) (by simp only; rw [LS_len]; omega)
      have HC := Lib.hid hd
      clear hd he
      go_wp2_with (fail)
      refine HC.out.mono ?_
      rintro e w3 ⟨rfl, hq3, hk3⟩
      have hs3 := hk3.size
      have HB3 := Lib.hid (HBL.out.trans (hk3.low (show w.heap.size ≤ wr.heap.size from HBL.out.size)))
      have HQ3 := Lib.hid (show QT w.heap.size (fun _ => False) w3 w.heap.size ⟨300, 0, k + 1, k * 20000 + 10000, LS T (k + 1)⟩ by rw [LS_succ, HTK.out]; exact hq3)
      clear hq3 hk3
      have HC2 := Lib.hid (show Calls Try.prog 15 #[.pointer (some ⟨w.heap.size, 0, none⟩)] w3 fun r w' => r = .returned (.int .i64 ((k : Int) + 1)) ∧ Below w3.heap.size w3 w' by
        have := QO.len HQ3.out
        simp only at this
        rw [LS_len] at this
        exact this)
      go_wp2_with (fail)
      refine HC2.out.mono ?_
      rintro e w4 ⟨rfl, hb4⟩
      have HB4 := Lib.hid (HB3.out.trans (hb4.mono (by have := HB3.out.size; omega)))
      have HQ4 := Lib.hid (show QT w.heap.size (fun _ => False) w4 w.heap.size ⟨300, 0, k + 1, (k + 1) * 20000, LS T (k + 1)⟩ from (QO.below HQ3.out hb4).mono (by simp only; omega))
      clear hb4
      go_wp2_with (fail)
      go_roundw
      case rel => exact ⟨k + 1, by omega, by go_num, HQ4, HB4⟩
      case measure => simp [intOf]; omega
    · obtain rfl : k = m := by omega
      clear hkm
      obtain ⟨i0, hinf, hz0, hz1, hz2⟩ := info_parts infoBool
      obtain ⟨bl, hbl⟩ : ∃ b, wr.heap.size = b := ⟨_, rfl⟩
      obtain ⟨X1, hX1⟩ : ∃ X, X = wr.alloc (.cells #[.int .i64 (-1), .int .i64 0, .int .i64 0] 30) := ⟨_, rfl⟩
      have hx1 : X1.heap.size = bl + 1 := by rw [hX1, ← hbl]; simp
      have hbx1 : Below wr.heap.size wr X1 := by rw [hX1]; exact (Below.refl _ _).alloc (Nat.le_refl _) _
      have hwr : w.heap.size ≤ wr.heap.size := HBL.out.size
      have HQX := Lib.hid (show QT w.heap.size (fun b => b = bl) X1 w.heap.size ⟨300, 0, k, k * 20000, LS T k⟩ from QO.lay HQ.out hX1 (fun b q => .inr (q.trans hbl.symm)))
      have HL1 := Lib.hid (show Tri3 X1 bl (-1) 0 0 by
        rw [hX1, ← hbl]
        refine ⟨by simp, ⟨by simp, by simp, by simp⟩, by simp, by simp, by simp⟩)
      have HBX := Lib.hid (HBL.out.trans (hbx1.mono hwr))
      have HX1 := Lib.hid hX1
      have hkw : IntKind.i64.wrap ((k : Int) + 1) = (k : Int) + 1 := i64_wrap_eq ⟨by omega, by omega⟩
      clear hX1 hbx1
      go_wp2_with (at_make; refine (fun (h : Hid _) => h.out) ?_)
      refine Lib.hid ?_
      refine wpList_make_full _ rfl (.tmp 59) (.tmp 59) 36 rfl w.heap.size 4 i0 _ 1 Try.underlying36 hinf hz0 hz1 .i64 .i64 _ _ (k + 1) rfl rfl (by omega) (by omega) (by rw [hz2]; omega) (by unfold maxLen; omega) (by simp; omega) ?_
      intro w2 hown hgrow
      obtain ⟨bs, hbs⟩ : ∃ b, bl + 1 = b := ⟨_, rfl⟩
      have hXs : X1.heap.size = bs := by omega
      have hown2 : w2.ownsRow w.heap.size 4 1 (.slice (some ⟨bs, 0, none⟩) (k + 1) (k + 1)) (k + 1) (madeCells (Value.bool false).cells ((k + 1) * 1)).toList := by rw [← hXs, HX1.out]; exact hown
      have hgrow2 : X1.grownBy w2 none := by rw [HX1.out]; exact hgrow
      have hb2 : Below X1.heap.size X1 w2 := (Below.refl _ _).grown hgrow2 (Nat.le_refl _) (fun k hk => by cases hk)
      have HS2 := Lib.hid (show Bits w2 bs (k + 1) (fun _ => false) from Bits.ofRow hown2 (fun j hj => by simp [madeCells, Value.cells, hj, Nat.mod_one]))
      have HQ2 := Lib.hid (show QT w.heap.size (fun b => b = bl ∨ b = bs) w2 w.heap.size ⟨300, 0, k, k * 20000, LS T k⟩ from QO.below (QO.grow HQX.out (fun b q => q.imp id (fun e => by omega))) hb2)
      have HL2 := Lib.hid (HL1.out.below hb2)
      have HB2 := Lib.hid (HBX.out.trans (hb2.mono (by omega)))
      have HSL := Lib.hid (LS_SL T k (fun i hi => (HTB.out i hi).1))
      clear hown hgrow hown2 hgrow2 hb2 HX1 HQX HL1 HBX HQ HBL
      go_wp2_with (fail)
      go_loopw [63] (fun ki wr => ∃ (i : Nat) (s : St) (f : Nat → Bool) (a b c : Int), i ≤ k ∧ ki = .int .i64 i ∧ Hid (s.few (1000 + i) ∧ s.l.length = k - i ∧ SL T k f a b s.l) ∧ Hid (QT w.heap.size (fun b => b = bl ∨ b = bs) wr w.heap.size s) ∧ Hid (Bits wr bs (k + 1) f) ∧ Hid (Tri3 wr bl a b c) ∧ Hid (Below w.heap.size w wr)) (fun ki _ => k - (intOf ki).toNat)
      case atStart => exact ⟨0, ⟨300, 0, k, k * 20000, LS T k⟩, _, _, _, _, by omega, rfl, Lib.hid ⟨⟨by simp only; omega, by simp only; omega⟩, by simp only; rw [LS_len]; omega, HSL.out⟩, HQ2, HS2, HL2, HB2⟩
      clear HSL HQ2 HS2 HL2 HB2
      case round =>
        obtain ⟨i, s, f, a, b, c', hi, rfl, HF, HQ, HS, HLA, HBL⟩ := hrel
        have hiw : IntKind.i64.wrap ((i : Int) + 1) = (i : Int) + 1 := i64_wrap_eq ⟨by omega, by omega⟩
        by_cases hik : i < k
        · obtain ⟨hf, hlen, hsl⟩ := HF.out
          obtain ⟨e, hek, p1, p2, p3, p4, hfe, hlast, hsl'⟩ := hsl.pop (fun q => by rw [q] at hlen; simp at hlen; omega)
          obtain ⟨ad, hxa, hca⟩ := HTC.out e hek
          obtain ⟨t0, t1, hwt⟩ := HTB.out e hek
          obtain ⟨t, ht⟩ : ∃ t, T e = t := ⟨_, rfl⟩
          rw [ht] at p1 t0 t1 hwt hca hlast hsl'
          have HC1 := QO.peek HQ.out
          rw [p1, p2, p3, p4] at HC1
          have HCA := Lib.hid HC1
          have HC2 := Lib.hid (fun W oth ho hq => does_pop (B := w.heap.size) (Q := w.heap.size) (w := W) (s := s) hf (by omega) oth ho hq)
          rw [p1, p2, p3, p4] at HC2
          have HN' := Lib.hid (show s.pop.few (1000 + (i + 1)) ∧ s.pop.l.length = k - (i + 1) ∧ SL T k (fun j => if j = e + 1 then true else f j) t ((e : Int) + 1) s.pop.l from ⟨St.few_pop hf, by show (popL s.l).length = _; rw [popL_len, hlen]; omega, hsl'⟩)
          have HFE := Lib.hid hfe
          have HCAD := Lib.hid hca
          have HLAST := Lib.hid hlast
          clear hf hlen hsl p1 p2 p3 p4 hfe hlast hsl' hca HC1 ht
          subst hxa
          go_wp2_with (fail)
          refine HCA.out.mono ?_
          rintro ee w4 ⟨rfl, hb4⟩
          have hs4 := hb4.size
          have hwr : w.heap.size ≤ wr.heap.size := HBL.out.size
          obtain ⟨b4, hb4e⟩ : ∃ b, w4.heap.size = b := ⟨_, rfl⟩
          obtain ⟨X4, hX4⟩ : ∃ X, X = w4.alloc (.cells #[.int .i64 t, .int .i64 ((e : Int) + 1), .int .i64 (-(e : Int))] 30) := ⟨_, rfl⟩
          have hx4 : X4.heap.size = b4 + 1 := by rw [hX4, ← hb4e]; simp
          have hbx4 : Below w4.heap.size w4 X4 := by rw [hX4]; exact (Below.refl _ _).alloc (Nat.le_refl _) _
          have HQ4 := Lib.hid (show QT w.heap.size (fun b => (b = bl ∨ b = bs) ∨ b = b4) X4 w.heap.size s from QO.lay (QO.below HQ.out hb4) hX4 (fun b q => q.imp id (fun q => q.trans hb4e.symm)))
          have HO4 := Lib.hid (show ObAt X4 b4 _ by rw [← hb4e]; exact ObAt.lay hX4)
          have HS4 := Lib.hid ((HS.out.below hb4).below hbx4)
          have HL4 := Lib.hid ((HLA.out.below hb4).below hbx4)
          have HB4 := Lib.hid ((HBL.out.trans (hb4.mono hwr)).trans (hbx4.mono (by omega)))
          have hl4 := HL4.out.1
          have hss4 := HS4.out.1
          have hlb4 := HLA.out.1
          have hsb4 := HS.out.1
          have HX4 := Lib.hid hX4
          clear hX4 hb4 hbx4
          go_wp2_with (fail)
          rw [← HX4.out]
          refine (HC2.out X4 _ (fun b q => by omega) HQ4.out).mono ?_
          rintro ee w5 ⟨rfl, hq5, hk5⟩
          have hs5 := hk5.size
          obtain ⟨b5, hb5e⟩ : ∃ b, w5.heap.size = b := ⟨_, rfl⟩
          obtain ⟨X5, hX5⟩ : ∃ X, X = w5.alloc (.cells #[.int .i64 t, .int .i64 ((e : Int) + 1), .int .i64 (-(e : Int))] 30) := ⟨_, rfl⟩
          have hx5 : X5.heap.size = b5 + 1 := by rw [hX5, ← hb5e]; simp
          have hbx5 : Below w5.heap.size w5 X5 := by rw [hX5]; exact (Below.refl _ _).alloc (Nat.le_refl _) _
          have HQ5 := Lib.hid (show QT w.heap.size (fun b => b = bl ∨ b = bs) X5 w.heap.size s.pop from QO.lay hq5 hX5 (fun b q => .inl (.inl q)))
          have HX5 := Lib.hid hX5
          obtain ⟨g40, g41, g42⟩ := ((HO4.out.keep hk5 (fun q => q.2 (.inr rfl))).below hbx5).tri
          obtain ⟨g50, g51, g52⟩ := (show ObAt X5 b5 _ by rw [← hb5e]; exact ObAt.lay hX5).tri
          have HS5 := Lib.hid ((HS4.out.keep hk5 (fun q => q.2 (.inl (.inr rfl)))).below hbx5)
          have HL5 := Lib.hid ((HL4.out.keep hk5 (fun q => q.2 (.inl (.inl rfl)))).below hbx5)
          have HB5 := Lib.hid ((HB4.out.trans (hk5.low (by omega))).trans (hbx5.mono (by omega)))
          obtain ⟨l50, l51, l52⟩ := HL5.out.2.1
          obtain ⟨fz0, fz1, fz2⟩ := HL5.out.2.2
          obtain ⟨s50, s51⟩ := HS5.out.2 (e + 1) (by omega)
          rw [HFE.out] at s50
          have t50 := HCAD.out X5 HB5.out
          clear hX5 hq5 hk5 hbx5
          go_wp2_with (fail)
          rw [← HX5.out]
          have i1 : ((e : Int) + 1).toNat = e + 1 := by omega
          have i2 : IntKind.i64.wrap ((e : Int) + 1 - 1) = (e : Int) := by rw [show (e : Int) + 1 - 1 = e by omega]; exact i64_wrap_eq ⟨by omega, by omega⟩
          have i3 : IntKind.i64.wrap (1 - ((e : Int) + 1)) = -(e : Int) := by rw [show 1 - ((e : Int) + 1) = -(e : Int) by omega]; exact i64_wrap_eq ⟨by omega, by omega⟩
          have n1 : ¬ (e : Int) + 1 < 1 := by omega
          have n2 : ¬ (k : Int) < (e : Int) + 1 := by omega
          go_quiet (fail)
          have hbw := below_drewN (Below.refl X5.heap.size X5) nq
          obtain ⟨W, hW⟩ : ∃ W, X5.drewN nq = W := ⟨_, rfl⟩
          rw [hW] at hbw ⊢
          have hsW := hbw.size
          have HQW := Lib.hid (show QT w.heap.size (fun b => b = bl ∨ b = bs) W w.heap.size s.pop from QO.below HQ5.out hbw)
          have HSW := Lib.hid (HS5.out.below hbw)
          have HLW := Lib.hid (HL5.out.below hbw)
          have HBW := Lib.hid (HB5.out.trans (hbw.mono (by omega)))
          have y0 : W.cell? ⟨b4, 0, none⟩ = some (.int .i64 t) := by rw [hbw.cell (by simp only; omega)]; exact g40
          have y1 : W.cell? ⟨b4, 1, none⟩ = some (.int .i64 ((e : Int) + 1)) := by rw [hbw.cell (by simp only; omega)]; exact g41
          have y2 : W.cell? ⟨b4, 2, none⟩ = some (.int .i64 (-(e : Int))) := by rw [hbw.cell (by simp only; omega)]; exact g42
          obtain ⟨l60, l61, l62⟩ := HLW.out.2.1
          obtain ⟨fw0, fw1, fw2⟩ := HLW.out.2.2
          obtain ⟨s60, s61⟩ := HSW.out.2 (e + 1) (by omega)
          have b45 : b4 ≠ bs := by omega
          have b46 : b4 ≠ bl := by omega
          have bbl : bl ≠ bs := by omega
          have hwbs : w.heap.size ≤ bs := by omega
          have hwbl : w.heap.size ≤ bl := by omega
          have HFIN := Lib.hid (show QT w.heap.size (fun b => b = bl ∨ b = bs) ((((W.setCell ⟨bs, e + 1, none⟩ (.bool true)).setCell ⟨bl, 0, none⟩ (.int .i64 t)).setCell ⟨bl, 1, none⟩ (.int .i64 ((e : Int) + 1))).setCell ⟨bl, 2, none⟩ (.int .i64 (-(e : Int)))) w.heap.size s.pop ∧ Bits ((((W.setCell ⟨bs, e + 1, none⟩ (.bool true)).setCell ⟨bl, 0, none⟩ (.int .i64 t)).setCell ⟨bl, 1, none⟩ (.int .i64 ((e : Int) + 1))).setCell ⟨bl, 2, none⟩ (.int .i64 (-(e : Int)))) bs (k + 1) (fun j => if j = e + 1 then true else f j) ∧ Tri3 ((((W.setCell ⟨bs, e + 1, none⟩ (.bool true)).setCell ⟨bl, 0, none⟩ (.int .i64 t)).setCell ⟨bl, 1, none⟩ (.int .i64 ((e : Int) + 1))).setCell ⟨bl, 2, none⟩ (.int .i64 (-(e : Int)))) bl t ((e : Int) + 1) (-(e : Int)) ∧ Below w.heap.size w ((((W.setCell ⟨bs, e + 1, none⟩ (.bool true)).setCell ⟨bl, 0, none⟩ (.int .i64 t)).setCell ⟨bl, 1, none⟩ (.int .i64 ((e : Int) + 1))).setCell ⟨bl, 2, none⟩ (.int .i64 (-(e : Int)))) from by
            have k1 := keep_set (fun b => b = bl ∨ b = bs) bs (e + 1) (.bool true) W (.inr rfl)
            have k2 := keep_set (fun b => b = bl) bl 0 (.int .i64 t) (W.setCell ⟨bs, e + 1, none⟩ (.bool true)) rfl
            have k3 := keep_set (fun b => b = bl) bl 1 (.int .i64 ((e : Int) + 1)) ((W.setCell ⟨bs, e + 1, none⟩ (.bool true)).setCell ⟨bl, 0, none⟩ (.int .i64 t)) rfl
            have k4 := keep_set (fun b => b = bl) bl 2 (.int .i64 (-(e : Int))) (((W.setCell ⟨bs, e + 1, none⟩ (.bool true)).setCell ⟨bl, 0, none⟩ (.int .i64 t)).setCell ⟨bl, 1, none⟩ (.int .i64 ((e : Int) + 1))) rfl
            have k234 := (k2.trans k3).trans k4
            refine ⟨QO.keep (QO.keep HQW.out k1 (fun b q => q)) k234 (fun b q => .inl q), ((HSW.out.set (by omega) true).keep k234 (fun q => bbl q.symm)), (HLW.out.keep (keep_set (fun b => b = bs) bs (e + 1) (.bool true) W rfl) bbl).set t ((e : Int) + 1) (-(e : Int)), ?_⟩
            exact (((HBW.out.setCell hwbs _).setCell hwbl _).setCell hwbl _).setCell hwbl _)
          clear hW hbw g40 g41 g42 g50 g51 g52 l50 l51 l52 fz0 fz1 fz2 s50 s51 t50
          have hlast := HLAST.out
          rcases hlast with hlast | ⟨rfl, hlast⟩
          · have m1 : ¬ t < a := by omega
            have m2 : ¬ t = a := by omega
            go_wp2_with (fail)
            go_roundw
            case rel => exact ⟨i + 1, s.pop, _, _, _, _, by omega, by go_num, Lib.hid HN'.out, Lib.hid HFIN.out.1, Lib.hid HFIN.out.2.1, Lib.hid HFIN.out.2.2.1, Lib.hid HFIN.out.2.2.2⟩
            case measure => simp [intOf]; omega
          · have m1 : ¬ a < a := by omega
            have m2 : ¬ (e : Int) + 1 < b := by omega
            go_wp2_with (fail)
            go_roundw
            case rel => exact ⟨i + 1, s.pop, _, _, _, _, by omega, by go_num, Lib.hid HN'.out, Lib.hid HFIN.out.1, Lib.hid HFIN.out.2.1, Lib.hid HFIN.out.2.2.1, Lib.hid HFIN.out.2.2.2⟩
            case measure => simp [intOf]; omega
        · obtain rfl : i = k := by omega
          clear hik
          obtain ⟨hf, hlen, hsl⟩ := HF.out
          have hl0 : s.l = [] := List.eq_nil_of_length_eq_zero (by omega)
          have HC1 := Lib.hid (fun (oth : Nat → Prop) (ho : ∀ b, oth b → b < wr.heap.size) hq => does_pop (B := w.heap.size) (Q := w.heap.size) (w := wr) (s := s) hf (by omega) oth ho hq)
          rw [show popT s.l = 0 by rw [hl0]; rfl, show popId s.l = 0 by rw [hl0]; rfl, show popIt s.l = 0 by rw [hl0]; rfl, show popOk s.l = false by rw [hl0]; rfl] at HC1
          have HL0 := Lib.hid (show s.pop.l.length = 0 by show (popL s.l).length = 0; rw [hl0]; rfl)
          have hl1 := HLA.out.1
          have hl2 := HS.out.1
          have hwr : w.heap.size ≤ wr.heap.size := HBL.out.size
          clear hf hlen hsl hl0
          go_wp2_with (fail)
          refine (HC1.out _ (fun b q => by omega) HQ.out).mono ?_
          rintro ee w4 ⟨rfl, hq4, hk4⟩
          have hs4 := hk4.size
          obtain ⟨X4, hX4⟩ : ∃ X, X = w4.alloc (.cells #[.int .i64 0, .int .i64 0, .int .i64 0] 30) := ⟨_, rfl⟩
          have hbx4 : Below w4.heap.size w4 X4 := by rw [hX4]; exact (Below.refl _ _).alloc (Nat.le_refl _) _
          have HB4 := Lib.hid ((HBL.out.trans (hk4.low hwr)).trans (hbx4.mono (by omega)))
          have HC4 := Lib.hid (show Calls Try.prog 15 #[.pointer (some ⟨w.heap.size, 0, none⟩)] X4 fun r w' => r = .returned (.int .i64 0) ∧ Below X4.heap.size X4 w' by
            have := QO.len (QO.below hq4 hbx4)
            rw [HL0.out] at this
            exact this)
          have HX4 := Lib.hid hX4
          clear hX4 hbx4 hq4 hk4
          go_wp2_with (fail)
          rw [← HX4.out]
          refine HC4.out.mono ?_
          rintro ee w5 ⟨rfl, hb5⟩
          have hs5 : w.heap.size ≤ X4.heap.size := HB4.out.size
          have hs6 := hb5.size
          have HB5 := Lib.hid (HB4.out.trans (hb5.mono hs5))
          clear hb5
          go_wp2_with (fail)
          refine (awake_true _).mono ?_
          rintro ee w6 ⟨rfl, hb6⟩
          have HB6 := Lib.hid (HB5.out.trans (hb6.mono (by omega)))
          clear hb6
          go_wp2_with (fail)
          go_ret
          exact ⟨rfl, HB6.out⟩
end Go.Proofs.Ytknoigleejbjdaa
