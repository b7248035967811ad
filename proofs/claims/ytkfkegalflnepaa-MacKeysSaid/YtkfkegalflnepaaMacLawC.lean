/- The walk of the statement MacKeys. -/
import Derived.Test.YtkfkegalflnepaaMacLawB
namespace Go.Proofs.Ytkfkegalflnepaa
open Go.RowKit
set_option linter.unusedVariables false
set_option linter.unusedSimpArgs false

theorem KSt.alloc {w wr : World} {k0 k1 : Int} (h : KSt w k0 k1 wr) (o : Obj) : KSt w k0 k1 (wr.alloc o) := h.step ((Below.refl _ _).alloc (Nat.le_refl _) _)
theorem KSt.setCell {w wr : World} {k0 k1 : Int} (h : KSt w k0 k1 wr) {p : Addr} (hp : w.heap.size < p.block) (u : Value) : KSt w k0 k1 (wr.setCell p u) := by
  obtain ⟨h1, h2, h3, h4⟩ := h
  have hb : Below (w.heap.size + 1) wr (wr.setCell p u) := (Below.refl _ _).setCell hp u
  exact ⟨h1.trans (hb.mono (by omega)), Nat.le_trans h2 hb.size, by rw [hb.cell (by simp)]; exact h3, by rw [hb.cell (by simp)]; exact h4⟩
theorem KSt.three {w wr : World} {k0 k1 : Int} (h : KSt w k0 k1 wr) : wr.cell? ⟨w.heap.size, 0, none⟩ = some (.int .u64 k0) ∧ wr.cell? ⟨w.heap.size, 1, none⟩ = some (.int .u64 k1) ∧ KSt w k0 k1 wr := ⟨h.2.2.1, h.2.2.2, h⟩
theorem bcell {W w1 : World} (hb : Below W.heap.size W w1) : (∀ b o, b < W.heap.size → w1.cell? ⟨b, o, none⟩ = W.cell? ⟨b, o, none⟩) ∧ (∀ b o, b < W.heap.size → w1.frozen? ⟨b, o, none⟩ = W.frozen? ⟨b, o, none⟩) :=
  ⟨fun b o h => hb.cell (p := ⟨b, o, none⟩) h, fun b o h => hb.frozen (p := ⟨b, o, none⟩) h⟩
/-- a new block for a key -/
def FreshKey (w : World) (b : Nat) : Prop := w.cell? ⟨b, 0, none⟩ = some (.int .u64 0) ∧ w.cell? ⟨b, 1, none⟩ = some (.int .u64 0) ∧ w.frozen? ⟨b, 0, none⟩ = false ∧ w.frozen? ⟨b, 1, none⟩ = false
theorem FreshKey.below {W w1 : World} {b : Nat} (h : FreshKey W b) (hb : Below W.heap.size W w1) : FreshKey w1 b := by
  obtain ⟨h1, h2, h3, h4⟩ := h
  have hlt : b < W.heap.size := cells_lt h1
  exact ⟨by rw [hb.cell (by exact hlt)]; exact h1, by rw [hb.cell (by exact hlt)]; exact h2, by rw [hb.frozen (by exact hlt)]; exact h3, by rw [hb.frozen (by exact hlt)]; exact h4⟩
theorem FreshKey.apart {W : World} {b : Nat} (h : FreshKey W b) : b < W.heap.size ∧ b ≠ W.heap.size ∧ W.heap.size ≠ b := by
  have := cells_lt h.1
  simp at this
  omega
theorem FreshKey.alloc {W : World} {b : Nat} (h : FreshKey W b) (o : Obj) : FreshKey (W.alloc o) b := h.below ((Below.refl _ _).alloc (Nat.le_refl _) _)
theorem FreshKey.new (W : World) (t : TypeId) : FreshKey (W.alloc (.cells #[.int .u64 0, .int .u64 0] t)) W.heap.size := ⟨by simp, by simp, by simp, by simp⟩
theorem blkA {X w1 : World} {t : TypeId} (hb : Below (X.alloc (.cells #[.int .u64 0, .int .u64 0] t)).heap.size (X.alloc (.cells #[.int .u64 0, .int .u64 0] t)) w1) : FreshKey w1 X.heap.size := (FreshKey.new X t).below hb
theorem blkAA {X w1 : World} {t : TypeId} {o : Obj} (hb : Below ((X.alloc (.cells #[.int .u64 0, .int .u64 0] t)).alloc o).heap.size ((X.alloc (.cells #[.int .u64 0, .int .u64 0] t)).alloc o) w1) : FreshKey w1 X.heap.size := ((FreshKey.new X t).alloc o).below hb
theorem FreshKey.drew {W : World} {b : Nat} (h : FreshKey W b) : FreshKey W.drew b := h.below (Below.refl _ _).drew
theorem blkAd {X w1 : World} {t : TypeId} (hb : Below ((X.alloc (.cells #[.int .u64 0, .int .u64 0] t)).drew).heap.size ((X.alloc (.cells #[.int .u64 0, .int .u64 0] t)).drew) w1) : FreshKey w1 X.heap.size := (FreshKey.new X t).drew.below hb
theorem blkAAd {X w1 : World} {t : TypeId} {o : Obj} (hb : Below (((X.alloc (.cells #[.int .u64 0, .int .u64 0] t)).alloc o).drew).heap.size (((X.alloc (.cells #[.int .u64 0, .int .u64 0] t)).alloc o).drew) w1) : FreshKey w1 X.heap.size := ((FreshKey.new X t).alloc o).drew.below hb
theorem pderive_st2 (k0 k1 : Int) (x : Option Addr) (n c : Nat) (ys : List Int) (w wr : World) (hs : KSt w k0 k1 wr) (hy : Ints .u8 w w.heap.size x ys) (hby : Bytes ys) (hl : ys.length = n) (hnc : n ≤ c) (hcl : c ≤ 9223372036854775807) :
    Calls Try.prog 13 #[.agg #[.int .u64 k0, .int .u64 k1], .slice x n c] wr fun e w' => e = .returned (.agg #[.int .u64 (der0 k0 k1 ys), .int .u64 (der1 k0 k1 ys)]) ∧ KSt w k0 k1 w' ∧ Below wr.heap.size wr w' :=
  (pderive_any k0 k1 x n c ys wr (hs.ints hy) hby hl hnc hcl).mono fun _ _ h => ⟨h.1, hs.step h.2, h.2⟩

/-- what the law's two derived keys are in memory -/
def TwoKeys (w : World) (k0 k1 a0 a1 b0 b1 : Int) (s9 s10 : Value) (wx : World) : Prop :=
  ∃ g h : Nat, s9 = .pointer (some ⟨g, 0, none⟩) ∧ s10 = .pointer (some ⟨h, 0, none⟩) ∧ wx.cell? ⟨g, 0, none⟩ = some (.int .u64 a0) ∧ wx.cell? ⟨g, 1, none⟩ = some (.int .u64 a1) ∧
    wx.cell? ⟨h, 0, none⟩ = some (.int .u64 b0) ∧ wx.cell? ⟨h, 1, none⟩ = some (.int .u64 b1) ∧ KSt w k0 k1 wx

theorem ca0 {W : World} {g : Nat} {a b : Int} {t : TypeId} (h : g = W.heap.size) : (W.alloc (.cells #[.int .u64 a, .int .u64 b] t)).cell? ⟨g, 0, none⟩ = some (.int .u64 a) := by subst h; simp
theorem ca1 {W : World} {g : Nat} {a b : Int} {t : TypeId} (h : g = W.heap.size) : (W.alloc (.cells #[.int .u64 a, .int .u64 b] t)).cell? ⟨g, 1, none⟩ = some (.int .u64 b) := by subst h; simp
theorem cal {W : World} {g o : Nat} {v : Value} {ob : Obj} (h : g < W.heap.size) (e : W.cell? ⟨g, o, none⟩ = some v) : (W.alloc ob).cell? ⟨g, o, none⟩ = some v := by rw [World.cell?_alloc_lt _ _ _ (by exact h)]; exact e
theorem cso {W : World} {g o : Nat} {v u : Value} {p : Addr} (h : ¬ p = ⟨g, o, none⟩) (e : W.cell? ⟨g, o, none⟩ = some v) : (W.setCell p u).cell? ⟨g, o, none⟩ = some v := by rw [World.cell?_setCell_other _ _ _ _ h]; exact e
theorem css {W : World} {v u : Value} {p : Addr} (e : W.cell? p = some v) : (W.setCell p u).cell? p = some u := World.cell?_setCell_same _ _ _ e
theorem cdr {W : World} {v : Value} {p : Addr} (e : W.cell? p = some v) : W.drew.cell? p = some v := by simpa using e

/-- the law's key and its two derived keys -/
def TK (w : World) (k0 k1 a0 a1 b0 b1 : Int) (g h : Nat) (wx : World) : Prop :=
  KSt w k0 k1 wx ∧ wx.cell? ⟨g, 0, none⟩ = some (.int .u64 a0) ∧ wx.cell? ⟨g, 1, none⟩ = some (.int .u64 a1) ∧ wx.cell? ⟨h, 0, none⟩ = some (.int .u64 b0) ∧ wx.cell? ⟨h, 1, none⟩ = some (.int .u64 b1)
theorem TK.step {w wr wr' : World} {k0 k1 a0 a1 b0 b1 : Int} {g h : Nat} (t : TK w k0 k1 a0 a1 b0 b1 g h wr) (hb : Below wr.heap.size wr wr') : TK w k0 k1 a0 a1 b0 b1 g h wr' := by
  obtain ⟨h0, h1, h2, h3, h4⟩ := t
  exact ⟨h0.step hb, by rw [hb.cell (cells_lt h1)]; exact h1, by rw [hb.cell (cells_lt h2)]; exact h2, by rw [hb.cell (cells_lt h3)]; exact h3, by rw [hb.cell (cells_lt h4)]; exact h4⟩
theorem TK.six {w wx : World} {k0 k1 a0 a1 b0 b1 : Int} {g h : Nat} (t : TK w k0 k1 a0 a1 b0 b1 g h wx) :
    wx.cell? ⟨w.heap.size, 0, none⟩ = some (.int .u64 k0) ∧ wx.cell? ⟨w.heap.size, 1, none⟩ = some (.int .u64 k1) ∧ wx.cell? ⟨g, 0, none⟩ = some (.int .u64 a0) ∧ wx.cell? ⟨g, 1, none⟩ = some (.int .u64 a1) ∧
      wx.cell? ⟨h, 0, none⟩ = some (.int .u64 b0) ∧ wx.cell? ⟨h, 1, none⟩ = some (.int .u64 b1) ∧ TK w k0 k1 a0 a1 b0 b1 g h wx := ⟨t.1.2.2.1, t.1.2.2.2, t.2.1, t.2.2.1, t.2.2.2.1, t.2.2.2.2, t⟩
theorem pderive_tk (k0 k1 a0 a1 b0 b1 : Int) (g h : Nat) (x : Option Addr) (n c : Nat) (ys : List Int) (w wr : World) (hs : TK w k0 k1 a0 a1 b0 b1 g h wr) (hy : Ints .u8 w w.heap.size x ys) (hby : Bytes ys) (hl : ys.length = n) (hnc : n ≤ c) (hcl : c ≤ 9223372036854775807) :
    Calls Try.prog 13 #[.agg #[.int .u64 k0, .int .u64 k1], .slice x n c] wr fun e w' => e = .returned (.agg #[.int .u64 (der0 k0 k1 ys), .int .u64 (der1 k0 k1 ys)]) ∧ TK w k0 k1 a0 a1 b0 b1 g h w' :=
  (pderive_any k0 k1 x n c ys wr (hs.1.ints hy) hby hl hnc hcl).mono fun _ _ q => ⟨q.1, hs.step q.2⟩
theorem awake_tk (k0 k1 a0 a1 b0 b1 : Int) (g h : Nat) (w wr : World) (hs : TK w k0 k1 a0 a1 b0 b1 g h wr) :
    Calls Try.prog 9 #[] wr fun e w' => e = .returned (.bool true) ∧ TK w k0 k1 a0 a1 b0 b1 g h w' :=
  (awake_any wr).mono fun _ _ q => ⟨q.1, hs.step q.2⟩

set_option maxHeartbeats 16000000 in
theorem MacKeys_walk (v0 v1 v2 : Value) (w : World) (h0 : IsKey w v0) (h1 : IsInts .u8 w v1) (h2 : IsInts .u8 w v2) :
    Calls Try.prog 8 #[v0, v1, v2] w fun e w' => e = .returned (.bool true) ∧ Below w.heap.size w w' := by
  obtain ⟨k0, k1, rfl, hk0, hk1⟩ := h0
  obtain ⟨x, n, c, ys, rfl, hy, hwy, hl, hnc, hcl, hnl⟩ := h1
  obtain ⟨x2, n2, c2, zs, rfl, hy2, hwy2, hl2, hnc2, hcl2, hnl2⟩ := h2
  have hby : Bytes ys := fun y hy => wf_u8 (hwy y hy)
  have hby2 : Bytes zs := fun y hy => wf_u8 (hwy2 y hy)
  have HL := Lib.hid hl
  have HL2 := Lib.hid hl2
  clear hl hwy hl2 hwy2
  have hs := KSt.start w k0 k1
  by_cases hn : n ≠ n2
  · have hd : ((n : Int) != (n2 : Int)) = true := by rw [bne_iff_ne]; omega
    go_enter Try.func8, Try.ntmps8
    go_wp2_with (fail)
    refine (awake_any _).mono ?_
    rintro e w1 ⟨rfl, hb⟩
    go_wp2_with (fail)
    go_ret
    exact ⟨rfl, (hs.step hb).1⟩
  · obtain rfl : n = n2 := by omega
    clear hn
    by_cases hn : 8 < n
    · go_enter Try.func8, Try.ntmps8
      go_wp2_with (fail)
      refine (awake_any _).mono ?_
      rintro e w1 ⟨rfl, hb⟩
      go_wp2_with (fail)
      go_ret
      exact ⟨rfl, (hs.step hb).1⟩
    · go_enter Try.func8, Try.ntmps8
      go_wp2_with (fail)
      go_loopw [7, 8] (fun d i wr => ∃ k : Nat, k ≤ n ∧ i = .int .i64 k ∧ d = .bool (bd ys zs k) ∧ KSt w k0 k1 wr) (fun _ i _ => n - (intOf i).toNat)
      case atStart => exact ⟨0, by omega, rfl, by rw [bd_zero], hs⟩
      case round =>
        obtain ⟨k, hk, rfl, rfl, hs⟩ := hrel
        by_cases hlt : k < n
        · obtain ⟨a, v, ha, hv, hcell⟩ := hy.at hs.1 k (by rw [HL.out]; omega)
          obtain ⟨a2, v2, ha2, hv2, hcell2⟩ := hy2.at hs.1 k (by rw [HL2.out]; omega)
          subst ha ha2
          have HB := Lib.hid (bd_succ ys zs k (by rw [HL.out]; omega) (by rw [HL2.out]; omega) v v2 hv hv2)
          clear hv hv2
          cases hbd : bd ys zs k with
          | true =>
            have HBD := Lib.hid hbd
            clear hbd
            go_wp2_with (fail)
            go_quiet (fail)
            go_wp2_with (fail)
            go_roundw
            case rel => exact ⟨k + 1, by omega, by go_num, by rw [HB.out, HBD.out]; rfl, hs.step (below_drewN (Below.refl _ _) _)⟩
            case measure => simp [intOf]; omega
          | false =>
            have HBD := Lib.hid hbd
            clear hbd
            go_wp2_with (fail)
            go_quiet (fail)
            go_wp2_with (fail)
            go_roundw
            case rel => exact ⟨k + 1, by omega, by go_num, by rw [HB.out, HBD.out]; rfl, hs.step (below_drewN (Below.refl _ _) _)⟩
            case measure => simp [intOf]; omega
        · obtain rfl : k = n := by omega
          rw [bd_full ys zs k HL.out HL2.out]
          obtain ⟨a0, ha0⟩ : ∃ t, der0 k0 k1 ys = t := ⟨_, rfl⟩
          obtain ⟨a1, ha1⟩ : ∃ t, der1 k0 k1 ys = t := ⟨_, rfl⟩
          obtain ⟨b0, hb0⟩ : ∃ t, der0 k0 k1 zs = t := ⟨_, rfl⟩
          obtain ⟨b1, hb1⟩ : ∃ t, der1 k0 k1 zs = t := ⟨_, rfl⟩
          have hne : (a0 != a1) = true := by rw [bne_iff_ne, ← ha0, ← ha1]; exact der_ne k0 k1 ys
          have hq : (a0 == b0 && a1 == b1) = (decide (ys = zs)) := by
            rw [Bool.eq_iff_iff, Bool.and_eq_true, beq_iff_eq, beq_iff_eq, decide_eq_true_eq]
            subst ha0 ha1 hb0 hb1
            exact ⟨fun h => der_inj hby hby2 (by rw [HL.out, HL2.out]) (by rw [HL.out]; omega) h.1, fun h => by rw [h]; exact ⟨rfl, rfl⟩⟩
          have HA0 := Lib.hid ha0
          have HA1 := Lib.hid ha1
          have HB0 := Lib.hid hb0
          have HB1 := Lib.hid hb1
          clear ha0 ha1 hb0 hb1
          obtain ⟨D, hD⟩ : ∃ D, (!(decide (ys = zs))) = D := ⟨_, rfl⟩
          rw [hD]
          have HQ : Hid ((a0 == b0 && a1 == b1) = !D) := by show _ = _; rw [hq, ← hD, Bool.not_not]
          clear hq hD
          have hsd := hs.drew
          obtain ⟨q1, q2, q3, q4⟩ := id hsd
          have q5 : w.heap.size + 1 ≤ wr.heap.size := hs.2.1
          go_upto_region 8 with (fail)
          go_cut [9, 10] (fun s9 s10 wx => TwoKeys w k0 k1 a0 a1 b0 b1 s9 s10 wx)
          case first =>
            go_region_held3 (fun w' => w'.cell? ⟨w.heap.size, 0, none⟩ = some (.int .u64 k0) ∧ w'.cell? ⟨w.heap.size, 1, none⟩ = some (.int .u64 k1) ∧ KSt w k0 k1 w')
              (first | exact ⟨q3, q4, hsd⟩ | exact ⟨hc3, hc4, hsc⟩ | (refine KSt.three ?_; repeat (first | assumption | refine KSt.drew ?_ | refine KSt.alloc ?_ _ | refine KSt.setCell ?_ (by simp; omega) _)))
              ((first
                | (go_at_call_of 13 (Value.slice x k c); refine (pderive_st2 k0 k1 x k c ys w _ (by repeat (first | assumption | refine KSt.drew ?_ | refine KSt.alloc ?_ _ | refine KSt.setCell ?_ (by simp; omega) _)) hy hby HL.out hnc hcl).mono ?_; rintro e w1 ⟨rfl, hsc, hbl⟩; have hbz := hbl.size; (try simp at hbz); obtain ⟨hc1, hc2, hc3, hc4⟩ := id hsc; rw [HA0.out, HA1.out];
                    (try (have f := blkA hbl; (try simp at f); obtain ⟨_, _, _, _⟩ := id f; obtain ⟨_, _, _⟩ := FreshKey.apart f)); (try (have f := blkAA hbl; (try simp at f); obtain ⟨_, _, _, _⟩ := id f; obtain ⟨_, _, _⟩ := FreshKey.apart f)); (try (have f := blkAd hbl; (try simp at f); obtain ⟨_, _, _, _⟩ := id f; obtain ⟨_, _, _⟩ := FreshKey.apart f)); (try (have f := blkAAd hbl; (try simp at f); obtain ⟨_, _, _, _⟩ := id f; obtain ⟨_, _, _⟩ := FreshKey.apart f));
                    clear hbl)
                | (go_at_call_of 13 (Value.slice x2 k c2); refine (pderive_st2 k0 k1 x2 k c2 zs w _ (by repeat (first | assumption | refine KSt.drew ?_ | refine KSt.alloc ?_ _ | refine KSt.setCell ?_ (by simp; omega) _)) hy2 hby2 HL2.out hnc2 hcl2).mono ?_; rintro e w2 ⟨rfl, hsc, hbl⟩; have hbz2 := hbl.size; (try simp at hbz2); obtain ⟨hc1, hc2, hc3, hc4⟩ := id hsc; rw [HB0.out, HB1.out];
                    (try (have f := blkA hbl; (try simp at f); obtain ⟨_, _, _, _⟩ := id f; obtain ⟨_, _, _⟩ := FreshKey.apart f)); (try (have f := blkAA hbl; (try simp at f); obtain ⟨_, _, _, _⟩ := id f; obtain ⟨_, _, _⟩ := FreshKey.apart f)); (try (have f := blkAd hbl; (try simp at f); obtain ⟨_, _, _, _⟩ := id f; obtain ⟨_, _, _⟩ := FreshKey.apart f)); (try (have f := blkAAd hbl; (try simp at f); obtain ⟨_, _, _, _⟩ := id f; obtain ⟨_, _, _⟩ := FreshKey.apart f));
                    (try (have f := FreshKey.below (b := wr.heap.size) ?hf hbl; (case hf => (first | assumption | (apply FreshKey.alloc; assumption) | (apply FreshKey.drew; assumption) | (apply FreshKey.drew; apply FreshKey.alloc; assumption) | (apply FreshKey.alloc; apply FreshKey.alloc; assumption))); obtain ⟨_, _, _, _⟩ := id f; obtain ⟨_, _, _⟩ := FreshKey.apart f));
                    (try (have f := FreshKey.below (b := wr.heap.size + 1) ?hf hbl; (case hf => (first | assumption | (apply FreshKey.alloc; assumption) | (apply FreshKey.drew; assumption) | (apply FreshKey.drew; apply FreshKey.alloc; assumption) | (apply FreshKey.alloc; apply FreshKey.alloc; assumption))); obtain ⟨_, _, _, _⟩ := id f; obtain ⟨_, _, _⟩ := FreshKey.apart f));
                    clear hbl)))
            all_goals
              go_wp2_with (fail)
              go_meet
              rename_i hHeld
              refine ⟨_, _, rfl, rfl, ?_, ?_, ?_, ?_, hHeld.2.2⟩
            all_goals (repeat' (with_reducible first | assumption | refine css (v := .int .u64 0) ?_ | (refine cso ?hne ?_; (case hne => first | (simp; done) | (simp <;> omega))) | (refine ca0 ?heq; (case heq => simp; done)) | (refine ca1 ?heq; (case heq => simp; done)) | (refine cal ?hlt ?_; (case hlt => first | (simp; done) | (simp <;> omega))) | refine cdr ?_))
          case rest =>
            obtain ⟨g, h, rfl, rfl, g0, g1, h0, h1, hsc⟩ := hcut
            have ht : TK w k0 k1 a0 a1 b0 b1 g h wc := ⟨hsc, g0, g1, h0, h1⟩
            have htd := ht.step (Below.refl _ _).drew
            have h6 := htd.six
            clear g0 g1 h0 h1 hsc ht
            cases D
            case' false => have hb : (a0 == b0 && a1 == b1) = true := HQ.out
            case' true => have hb : (a0 == b0 && a1 == b1) = false := HQ.out
            all_goals
              go_wp2_with (fail)
              go_region_held3 (fun w' => w'.cell? ⟨w.heap.size, 0, none⟩ = some (.int .u64 k0) ∧ w'.cell? ⟨w.heap.size, 1, none⟩ = some (.int .u64 k1) ∧ w'.cell? ⟨g, 0, none⟩ = some (.int .u64 a0) ∧ w'.cell? ⟨g, 1, none⟩ = some (.int .u64 a1) ∧
                  w'.cell? ⟨h, 0, none⟩ = some (.int .u64 b0) ∧ w'.cell? ⟨h, 1, none⟩ = some (.int .u64 b1) ∧ TK w k0 k1 a0 a1 b0 b1 g h w')
                (first | exact h6 | exact k6)
                ((first
                  | (go_at_call 13; refine (pderive_tk k0 k1 a0 a1 b0 b1 g h x k c ys w _ (by assumption) hy hby HL.out hnc hcl).mono ?_; rintro e w1 ⟨rfl, htk⟩; have k6 := htk.six; rw [HA0.out, HA1.out])
                  | (go_at_call 9; refine (awake_tk k0 k1 a0 a1 b0 b1 g h w _ (by assumption)).mono ?_; rintro e w1 ⟨rfl, htk⟩; have k6 := htk.six)))
              all_goals
                go_wp2
                go_ret
                exact ⟨rfl, htk.1.1⟩
end Go.Proofs.Ytkfkegalflnepaa
