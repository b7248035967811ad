/- The examples of the chapter chain: awake returns true. -/
import Derived.Test.YtmhgoknbmbicmaaDoorChainO
namespace Go.Proofs.YtmhgoknbmbicmaaDoor
open Go.RowKit
set_option linter.unusedVariables false
set_option linter.unusedSimpArgs false

/-- the configuration of the examples lies in the package's variable -/
def ConfAt (w : World) : Prop := w.cell? ⟨0, 0, none⟩ = some (.int .i64 1000) ∧ w.cell? ⟨0, 1, none⟩ = some (.int .i64 100) ∧ w.cell? ⟨0, 2, none⟩ = some (.int .i64 2) ∧ w.cell? ⟨0, 3, none⟩ = some (.int .i64 10) ∧ 0 < w.heap.size
theorem ConfAt.same {w w' : World} (h : ConfAt w) (hb : w'.heap[0]? = w.heap[0]?) (hs : w.heap.size ≤ w'.heap.size) : ConfAt w' := by
  obtain ⟨h0, h1, h2, h3, h4⟩ := h
  have c : ∀ o, w'.cell? ⟨0, o, none⟩ = w.cell? ⟨0, o, none⟩ := fun o => World.cell?_of_block hb
  exact ⟨(c _).trans h0, (c _).trans h1, (c _).trans h2, (c _).trans h3, by omega⟩
/-- what awake keeps: the configuration, the keys of the reference -/
structure AwSt (w : World) (B g n : Nat) (K : Nat → Int × Int) (wr : World) : Prop where
  bel : Below w.heap.size w wr
  conf : ConfAt wr
  keys : Keys wr B ⟨g, 0, none⟩ n K
  size : B ≤ wr.heap.size
  pos : 0 < B
  wB : w.heap.size ≤ B
theorem AwSt.step {w wr wr' : World} {B g n : Nat} {K : Nat → Int × Int} (h : AwSt w B g n K wr) (hb : Below wr.heap.size wr wr') : AwSt w B g n K wr' :=
  ⟨h.bel.trans (hb.mono h.bel.size), h.conf.same (hb.block 0 h.conf.2.2.2.2) hb.size, h.keys.below h.size hb, Nat.le_trans h.size hb.size, h.pos, h.wB⟩
theorem AwSt.keeps {own : Nat → Prop} {w wr wr' : World} {B g n : Nat} {K : Nat → Int × Int} (h : AwSt w B g n K wr) (hk : Keeps own wr wr') (ho : ∀ q, own q → B ≤ q) : AwSt w B g n K wr' := by
  refine ⟨h.bel.trans (hk.toBelow (fun q hq => Nat.le_trans h.wB (ho q hq)) h.bel.size), h.conf.same (hk.block 0 h.conf.2.2.2.2 (fun q => by have := ho _ q; have := h.pos; omega)) hk.size, ⟨h.keys.1, fun i hi => ?_⟩, Nat.le_trans h.size hk.size, h.pos, h.wB⟩
  have hg : g < B := h.keys.1
  have c : ∀ o, wr'.cell? ⟨g, o, none⟩ = wr.cell? ⟨g, o, none⟩ := fun o => World.cell?_of_block (hk.block g (Nat.lt_of_lt_of_le hg h.size) (fun q => by have := ho _ q; omega))
  obtain ⟨q0, q1⟩ := h.keys.2 i hi
  exact ⟨(c _).trans q0, (c _).trans q1⟩
theorem AwSt.key {w wr : World} {B g n : Nat} {K : Nat → Int × Int} (h : AwSt w B g n K wr) (i : Nat) (hi : i < n) (a b : Int) (hk : K i = (a, b)) : wr.cell? ⟨g, i * 2, none⟩ = some (.int .u64 a) ∧ wr.cell? ⟨g, i * 2 + 1, none⟩ = some (.int .u64 b) := by
  obtain ⟨q0, q1⟩ := h.keys.2 i hi
  rw [hk] at q0 q1
  simp only [Nat.zero_add] at q0 q1
  exact ⟨q0, q1⟩
theorem AwSt.six {w wr : World} {B g n : Nat} {K : Nat → Int × Int} (h : AwSt w B g n K wr) (i : Nat) (hi : i < n) (a b : Int) (hk : K i = (a, b)) :
    wr.cell? ⟨0, 0, none⟩ = some (.int .i64 1000) ∧ wr.cell? ⟨0, 1, none⟩ = some (.int .i64 100) ∧ wr.cell? ⟨0, 2, none⟩ = some (.int .i64 2) ∧ wr.cell? ⟨0, 3, none⟩ = some (.int .i64 10) ∧ wr.cell? ⟨g, i * 2, none⟩ = some (.int .u64 a) ∧ wr.cell? ⟨g, i * 2 + 1, none⟩ = some (.int .u64 b) :=
  ⟨h.conf.1, h.conf.2.1, h.conf.2.2.1, h.conf.2.2.2.1, (h.key i hi a b hk).1, (h.key i hi a b hk).2⟩

theorem six_low {w w' : World} {B C G o4 o5 : Nat} {x0 x1 x2 x3 x4 x5 : Value} (hb : Below B w w') (hC : C < B) (hG : G < B)
    (h : w.cell? ⟨C, 0, none⟩ = some x0 ∧ w.cell? ⟨C, 1, none⟩ = some x1 ∧ w.cell? ⟨C, 2, none⟩ = some x2 ∧ w.cell? ⟨C, 3, none⟩ = some x3 ∧ w.cell? ⟨G, o4, none⟩ = some x4 ∧ w.cell? ⟨G, o5, none⟩ = some x5) :
    w'.cell? ⟨C, 0, none⟩ = some x0 ∧ w'.cell? ⟨C, 1, none⟩ = some x1 ∧ w'.cell? ⟨C, 2, none⟩ = some x2 ∧ w'.cell? ⟨C, 3, none⟩ = some x3 ∧ w'.cell? ⟨G, o4, none⟩ = some x4 ∧ w'.cell? ⟨G, o5, none⟩ = some x5 := by
  obtain ⟨h0, h1, h2, h3, h4, h5⟩ := h
  exact ⟨by rw [hb.cell (by exact hC)]; exact h0, by rw [hb.cell (by exact hC)]; exact h1, by rw [hb.cell (by exact hC)]; exact h2, by rw [hb.cell (by exact hC)]; exact h3, by rw [hb.cell (by exact hG)]; exact h4, by rw [hb.cell (by exact hG)]; exact h5⟩
theorem Ints.keep {k : IntKind} {own : Nat → Prop} {W W' : World} {g : Nat} {l : List Int} (h : Ints k W W.heap.size (some ⟨g, 0, none⟩) l) (hk : Keeps own W W') (hg : ¬ own g) : Ints k W' W'.heap.size (some ⟨g, 0, none⟩) l := by
  intro i hi
  obtain ⟨a, e, h2, h3⟩ := h i hi
  obtain rfl := Option.some.inj e
  refine ⟨_, rfl, Nat.lt_of_lt_of_le h2 hk.size, ?_⟩
  rw [World.cell?_of_block (w := W) (a := (⟨g, 0, none⟩ : Addr).add i) (by rw [show ((⟨g, 0, none⟩ : Addr).add i).block = g by unfold Addr.add; split <;> rfl]; exact hk.block g h2 hg)]
  exact h3
def msg3 : List Int := [1, 2, 3]
theorem msg3_bytes : Bytes msg3 := by unfold Bytes msg3; decide
theorem pair_ex (k : Int × Int) : ∃ a b, k = (a, b) := ⟨k.1, k.2, rfl⟩

set_option maxHeartbeats 8000000 in
set_option maxRecDepth 100000 in
theorem awake_any (w : World) (hc : ConfAt w) : Calls Tryd.prog 17 #[] w fun e w' => e = .returned (.bool true) ∧ Below w.heap.size w w' := by
  obtain ⟨K, hK⟩ : ∃ K, keyI 7 10 = K := ⟨_, rfl⟩
  have hne : K 3 ≠ K 4 := by rw [← hK]; exact key34
  have hdn : ∀ i m : Nat, i + m ≤ 10 → downN m (K (i + m)) = K i := by
    intro i m h
    rw [← hK]
    clear hK hne hc
    induction m generalizing i with
    | zero => rfl
    | succ m ih =>
      rw [downN_succ, show i + (m + 1) = (i + 1) + m by omega, ih (i + 1) (by omega)]
      exact (keyI_below 7 10 i (by omega)).symm
  have C1 := rmake_some 7 10 w (by omega) (by omega)
  rw [show ((10 : Nat) : Int) = 10 from rfl, hK] at C1
  have C2 : ∀ W, Calls Tryd.prog 13 #[.int .u64 7, .int .i64 10] W _ := fun W => make_some 7 10 W (by omega) (by omega)
  rw [hK] at C2
  have HC1 := Lib.hid C1
  have HC2 := Lib.hid C2
  have HK := Lib.hid hK
  have HDN := Lib.hid hdn
  have HNE := Lib.hid hne
  clear C1 C2 hdn hne hK
  go_enter Tryd.func17, Tryd.ntmps17
  go_wp2_with (fail)
  refine HC1.out.mono ?_
  rintro e w1 ⟨g, cap, rfl, hcap1, hcap2, hgw, hk1, hb1⟩
  have A1 : AwSt w w1.heap.size g 11 K w1 := ⟨hb1, hc.same (hb1.block 0 hc.2.2.2.2) hb1.size, hk1, Nat.le_refl _, by have := hc.2.2.2.2; have := hb1.size; omega, hb1.size⟩
  have HA1 := Lib.hid A1
  have hc1 : (11 : Int) ≤ cap := by omega
  clear A1 hk1 hb1
  go_wp2_with (fail)
  refine (HC2.out _).mono ?_
  rintro e w2 ⟨g2, rfl, hg2, hk2, hb2⟩
  have HA2 := Lib.hid (HA1.out.step hb2)
  have HS := Lib.hid (same_true g g2 11 cap 11 K w2 ⟨Nat.lt_of_lt_of_le HA2.out.keys.1 HA2.out.size, HA2.out.keys.2⟩ hk2 (by omega))
  clear hk2 hb2
  go_wp2_with (fail)
  refine HS.out.mono ?_
  rintro e w3 ⟨rfl, hb3⟩
  have HA3 := Lib.hid (HA2.out.step hb3)
  clear hb3
  obtain ⟨c0, c1, c2, c3, -⟩ := id HA3.out.conf
  have IV : ∀ t r, t ≤ 9223372036854775807 → ivI 1000 100 2 10 t = r → ∀ W, Calls Tryd.prog 15 #[.agg #[.int .i64 1000, .int .i64 100, .int .i64 2, .int .i64 10], .int .i64 t] W fun e w' => e = .returned (.int .i64 r) ∧ Below W.heap.size W w' := fun t r ht hr W => by
    have C := piv_any 1000 100 2 10 t W ht
    rw [hr] at C
    exact C
  have HIV := Lib.hid IV
  clear IV
  go_wp2_with (fail)
  refine (HIV.out 999 0 (by decide) (by decide) _).mono ?_
  rintro e w4 ⟨rfl, hb4⟩
  have HA4 := Lib.hid (HA3.out.step hb4)
  clear hb4 c0 c1 c2 c3
  obtain ⟨c0, c1, c2, c3, -⟩ := id HA4.out.conf
  go_wp2_with (fail)
  refine (HIV.out 1099 1 (by decide) (by decide) _).mono ?_
  rintro e w5 ⟨rfl, hb5⟩
  have HA5 := Lib.hid (HA4.out.step hb5)
  clear hb5 c0 c1 c2 c3
  obtain ⟨c0, c1, c2, c3, -⟩ := id HA5.out.conf
  go_wp2_with (fail)
  refine (HIV.out 1100 2 (by decide) (by decide) _).mono ?_
  rintro e w6 ⟨rfl, hb6⟩
  have HA6 := Lib.hid (HA5.out.step hb6)
  clear hb6 c0 c1 c2 c3
  obtain ⟨c0, c1, c2, c3, -⟩ := id HA6.out.conf
  go_wp2_with (fail)
  refine (HIV.out 1999 10 (by decide) (by decide) _).mono ?_
  rintro e w7 ⟨rfl, hb7⟩
  have HA7 := Lib.hid (HA6.out.step hb7)
  clear hb7 c0 c1 c2 c3
  obtain ⟨c0, c1, c2, c3, -⟩ := id HA7.out.conf
  go_wp2_with (fail)
  refine (HIV.out 2000 11 (by decide) (by decide) _).mono ?_
  rintro e w8 ⟨rfl, hb8⟩
  have HA8 := Lib.hid (HA7.out.step hb8)
  clear hb8 c0 c1 c2 c3
  obtain ⟨a0, b0, hk0⟩ := pair_ex (K 0)
  obtain ⟨a3, b3, hk3⟩ := pair_ex (K 3)
  obtain ⟨a4, b4, hk4⟩ := pair_ex (K 4)
  obtain ⟨a5, b5, hk5⟩ := pair_ex (K 5)
  have HK0 := Lib.hid hk0
  have HK3 := Lib.hid hk3
  have HK4 := Lib.hid hk4
  have HK5 := Lib.hid hk5
  clear hk0 hk3 hk4 hk5
  have hA9 := HA8.out.step (Below.refl _ _).drew
  have h6 := hA9.six 0 (by omega) a0 b0 HK0.out
  simp only [Nat.zero_mul, Nat.zero_add] at h6
  have HA9 := Lib.hid hA9
  have h0s : 0 < w8.drew.heap.size := hA9.conf.2.2.2.2
  have hgs : g < w8.drew.heap.size := Nat.lt_of_lt_of_le hA9.keys.1 hA9.size
  clear hA9
  go_wp2_with (fail)
  go_region_held_law (fun w' => w'.cell? ⟨0, 0, none⟩ = some (.int .i64 1000) ∧ w'.cell? ⟨0, 1, none⟩ = some (.int .i64 100) ∧ w'.cell? ⟨0, 2, none⟩ = some (.int .i64 2) ∧ w'.cell? ⟨0, 3, none⟩ = some (.int .i64 10) ∧ w'.cell? ⟨g, 0, none⟩ = some (.int .u64 a0) ∧ w'.cell? ⟨g, 1, none⟩ = some (.int .u64 b0))
    (first | exact h6 | assumption)
    ((first | (go_at_call 19; refine (new_any 1000 100 2 10 a0 b0 _ (by decide)).mono ?_; rintro e w10 ⟨R, rfl, hR10, hr10, hb10⟩; have h7 := six_low hb10 h0s hgs h6)))
  have HA10 := Lib.hid (HA9.out.step hb10)
  have HR10 := Lib.hid hr10
  obtain ⟨j0, j1⟩ := HA10.out.key 0 (by omega) a0 b0 HK0.out
  simp only [Nat.zero_mul, Nat.zero_add] at j0 j1
  have HB10 := Lib.hid hb10
  have hsz10 := hb10.size
  clear hr10 hb10 h6 h7
  go_wp2_with (fail)
  refine (new_bad 0 0 0 0 a0 b0 _ (by decide)).mono ?_
  rintro e w11 ⟨rfl, hb11⟩
  have HA11 := Lib.hid (HA10.out.step hb11)
  have HR11 := Lib.hid (HR10.out.below hb11 (Nat.le_refl _))
  have hs11 := hb11.size
  clear hb11 j0 j1
  have hbl : Below w11.heap.size w11 (w11.alloc (.cells #[.int .u8 1, .int .u8 2, .int .u8 3] 5)) := (Below.refl _ _).alloc (Nat.le_refl _) _
  have HA12 := Lib.hid (HA11.out.step hbl)
  have HR12 := Lib.hid (HR11.out.below hbl (Nat.le_refl _))
  have y0 : (w11.alloc (.cells #[.int .u8 1, .int .u8 2, .int .u8 3] 5)).cell? ⟨g, 6, none⟩ = some (.int .u64 a3) := (HA12.out.key 3 (by omega) a3 b3 HK3.out).1
  have y1 : (w11.alloc (.cells #[.int .u8 1, .int .u8 2, .int .u8 3] 5)).cell? ⟨g, 7, none⟩ = some (.int .u64 b3) := (HA12.out.key 3 (by omega) a3 b3 HK3.out).2
  have hlit := Ints.lit .u8 w11 msg3 5 (0, 0)
  have HLIT : Hid (Ints .u8 (w11.alloc (.cells #[.int .u8 1, .int .u8 2, .int .u8 3] 5)) (w11.alloc (.cells #[.int .u8 1, .int .u8 2, .int .u8 3] 5)).heap.size (some ⟨w11.heap.size, 0, none⟩) msg3) := Lib.hid (hlit.mono (by simp))
  have kc := Lib.run_convert_bytes_const (P := Tryd.prog) (w11.alloc (.cells #[.int .u8 1, .int .u8 2, .int .u8 3] 5)) 36 5 #[.int .u8 109, .int .u8 97, .int .u8 99] 3 3 Tryd.underlying36 Tryd.underlying5
  have hd := Ints.lit .u8 (w11.alloc (.cells #[.int .u8 1, .int .u8 2, .int .u8 3] 5)) macL 5 (3, 4)
  have HD := Lib.hid hd
  have hsX : (w11.alloc (.cells #[.int .u8 1, .int .u8 2, .int .u8 3] 5)).heap.size = w11.heap.size + 1 := by simp
  have hbX : Below (w11.alloc (.cells #[.int .u8 1, .int .u8 2, .int .u8 3] 5)).heap.size (w11.alloc (.cells #[.int .u8 1, .int .u8 2, .int .u8 3] 5)) ((w11.alloc (.cells #[.int .u8 1, .int .u8 2, .int .u8 3] 5)).alloc (.cells #[.int .u8 109, .int .u8 97, .int .u8 99] 5 (3, 4))) := (Below.refl _ _).alloc (Nat.le_refl _) _
  have HBX := Lib.hid hbX
  have hbl2 : Below w11.heap.size w11 ((w11.alloc (.cells #[.int .u8 1, .int .u8 2, .int .u8 3] 5)).alloc (.cells #[.int .u8 109, .int .u8 97, .int .u8 99] 5 (3, 4))) := hbl.alloc (by simp) _
  have CD := rderive_any a3 b3 (some ⟨w11.heap.size + 1, 0, none⟩) 3 3 macL ((w11.alloc (.cells #[.int .u8 1, .int .u8 2, .int .u8 3] 5)).alloc (.cells #[.int .u8 109, .int .u8 97, .int .u8 99] 5 (3, 4))) (by rw [← hsX]; exact hd.mono (by simp)) macL_bytes rfl (Nat.le_refl _) (by omega)
  obtain ⟨d0, hd0⟩ : ∃ d0, der0 a3 b3 macL = d0 := ⟨_, rfl⟩
  obtain ⟨d1, hd1⟩ : ∃ d1, der1 a3 b3 macL = d1 := ⟨_, rfl⟩
  rw [hd0, hd1] at CD
  obtain ⟨T, hT⟩ : ∃ T, tagI d0 d1 msg3 = T := ⟨_, rfl⟩
  have HRT : Hid (rightTag (K 3) msg3 = T) := by show _ = _; unfold rightTag; rw [HK3.out]; show tagI (der0 a3 b3 macL) (der1 a3 b3 macL) msg3 = T; rw [hd0, hd1]; exact hT
  have HCD := Lib.hid CD
  have HT := Lib.hid hT
  have HBL := Lib.hid hbl
  have HBL2 := Lib.hid hbl2
  clear hlit hd CD hd0 hd1 hT hbl hbl2 hbX
  rw [hsX] at kc
  go_wp2_with (fail)
  refine HCD.out.mono ?_
  rintro e w13 ⟨rfl, hb13⟩
  have hX13 := HBX.out.trans (hb13.mono HBX.out.size)
  have HI13 := Lib.hid (HLIT.out.below' hX13 hX13.size)
  have HA13 := Lib.hid (HA12.out.step hX13)
  have HR13 := Lib.hid (HR12.out.below hX13 (Nat.le_refl _))
  have hs13 := hX13.size
  rw [hsX] at hs13
  have CT := rtag_any d0 d1 (some ⟨w11.heap.size, 0, none⟩) 3 3 msg3 w13 HI13.out msg3_bytes rfl (Nat.le_refl _) (by omega)
  rw [HT.out] at CT
  have HCT := Lib.hid CT
  clear hb13 kc y0 y1 hX13 CT
  go_wp2_with (fail)
  refine HCT.out.mono ?_
  rintro e w14 ⟨rfl, hb14⟩
  have HI14 := Lib.hid (HI13.out.below' hb14 hb14.size)
  have HA14 := Lib.hid (HA13.out.step hb14)
  have HR14 := Lib.hid (HR13.out.below hb14 (Nat.le_refl _))
  have hs14 := hb14.size
  have C1 := hear_any R _ (newRS 1000 100 2 10 a0 b0) 3 T 1250 1400 (some ⟨w11.heap.size, 0, none⟩) 3 3 msg3 w14 HR14.out HI14.out msg3_bytes rfl (by omega) (by simp)
  rw [show hearE (newRS 1000 100 2 10 a0 b0) 3 1250 1400 = 17 from rfl] at C1
  have HC1 := Lib.hid (C1.mono fun e w' q => (⟨q.1, q.2.1 (by omega)⟩ : _ ∧ Below w14.heap.size w14 w'))
  clear hb14 C1
  go_wp2_with (fail)
  refine HC1.out.mono ?_
  rintro e w15 ⟨rfl, hb15⟩
  have HI15 := Lib.hid (HI14.out.below' hb15 hb15.size)
  have HA15 := Lib.hid (HA14.out.step hb15)
  have HR15 := Lib.hid (HR14.out.below hb15 (Nat.le_refl _))
  have hs15 := hb15.size
  have C2 := hear_any R _ (newRS 1000 100 2 10 a0 b0) 3 T 1250 1399 (some ⟨w11.heap.size, 0, none⟩) 3 3 msg3 w15 HR15.out HI15.out msg3_bytes rfl (by omega) (by simp)
  rw [show hearE (newRS 1000 100 2 10 a0 b0) 3 1250 1399 = 0 from rfl] at C2
  have HC2' := Lib.hid (C2.mono fun e w' q => (⟨q.1, q.2.2 rfl⟩ : _ ∧ _))
  clear hb15 C2
  go_wp2_with (fail)
  refine HC2'.out.mono ?_
  rintro e w16 ⟨rfl, hk16, mp, mc, hv, hr16⟩
  have hs16 := hk16.size
  have hown : ∀ q, (w8.drew.heap.size ≤ q ∧ q < w10.heap.size) → w1.heap.size ≤ q := fun q h => Nat.le_trans HA9.out.size h.1
  have HA16 := Lib.hid (HA15.out.keeps hk16 hown)
  have HI16 := Lib.hid (HI15.out.keep hk16 (fun h => by have := h.2; omega))
  have hown2 : ∀ q, grew (fun q => w8.drew.heap.size ≤ q ∧ q < w10.heap.size) w15 w16 q → w1.heap.size ≤ q := fun q h => by
    rcases h with h | h
    · exact hown q h
    · exact Nat.le_trans HA15.out.size h.1
  have hnot : ¬ grew (fun q => w8.drew.heap.size ≤ q ∧ q < w10.heap.size) w15 w16 w11.heap.size := fun h => by
    rcases h with h | h
    · have := h.2; omega
    · have := h.1; omega
  have hr16' : Recv w16 (grew (fun q => w8.drew.heap.size ≤ q ∧ q < w10.heap.size) w15 w16) R ⟨1000, 100, 2, 10, 0, fun i => if i = 0 then (a0, b0) else (0, 0), hv, [⟨3, mp, mc, msg3, T⟩]⟩ := hr16
  obtain ⟨own, hown'⟩ : ∃ own, grew (fun q => w8.drew.heap.size ≤ q ∧ q < w10.heap.size) w15 w16 = own := ⟨_, rfl⟩
  rw [hown'] at hr16' hown2 hnot
  have HR16 := Lib.hid hr16'
  have HO := Lib.hid hown2
  have CH := held_any R own _ w16 HR16.out
  simp only [List.length_cons, List.length_nil] at CH
  have HCH := Lib.hid CH
  clear hr16 hr16' hk16 hown hown2 hown' CH
  go_wp2_with (fail)
  refine HCH.out.mono ?_
  rintro e w17 ⟨rfl, rfl⟩
  have y0 : w16.cell? ⟨g, 8, none⟩ = some (.int .u64 a4) := (HA16.out.key 4 (by omega) a4 b4 HK4.out).1
  have y1 : w16.cell? ⟨g, 9, none⟩ = some (.int .u64 b4) := (HA16.out.key 4 (by omega) a4 b4 HK4.out).2
  have hput3 : putK 0 4 (a4, b4) (fun i => if i = 0 then (a0, b0) else (0, 0)) 3 = K 3 := by
    show (if 0 < 3 ∧ 3 ≤ 4 then downN (4 - 3) (a4, b4) else _) = _
    rw [if_pos ⟨by omega, by omega⟩, ← HK4.out]
    exact HDN.out 3 1 (by omega)
  have hput4 : putK 0 4 (a4, b4) (fun i => if i = 0 then (a0, b0) else (0, 0)) 4 = K 4 := by
    show (if 0 < 4 ∧ 4 ≤ 4 then downN (4 - 4) (a4, b4) else _) = _
    rw [if_pos ⟨by omega, by omega⟩, ← HK4.out]
    rfl
  have CD1 := disc_yes R own ⟨1000, 100, 2, 10, 0, fun i => if i = 0 then (a0, b0) else (0, 0), hv, [⟨3, mp, mc, msg3, T⟩]⟩ 4 a4 b4 w16 HR16.out (by show 0 < 4; omega) (by show (4 : Int) ≤ 10; omega)
    (by show downN 4 (a4, b4) = (a0, b0); rw [← HK4.out, ← HK0.out]; exact HDN.out 0 4 (by omega)) (by show 1 ≤ 1000; omega)
  simp only at CD1
  obtain ⟨KP, hKP⟩ : ∃ KP, putK 0 4 (a4, b4) (fun i => if i = 0 then (a0, b0) else (0, 0)) = KP := ⟨_, rfl⟩
  rw [hKP] at CD1 hput3 hput4
  have hO : outM KP ((4 : Nat) : Int) [⟨3, mp, mc, msg3, T⟩] = [⟨3, mp, mc, msg3, T⟩] := by
    unfold outM
    rw [List.filter_cons, if_pos]
    · rfl
    · show (decide ((3 : Int) ≤ 4) && (rightTag (KP 3) msg3 == T)) = true
      rw [hput3, HRT.out]; simp
  have hkp : keepM ((4 : Nat) : Int) [⟨3, mp, mc, msg3, T⟩] = [] := by
    unfold keepM; rw [List.filter_cons, if_neg]
    · rfl
    · show ¬ decide ((4 : Int) < 3) = true
      decide
  rw [hO, hkp] at CD1
  have HCD1 := Lib.hid CD1
  have HP4 := Lib.hid hput4
  clear CD1 hput3 hput4 hO hkp hKP
  go_wp2_with (fail)
  refine HCD1.out.mono ?_
  rintro e w18 ⟨ov, hv', rfl, hrow, hr18, hk18, hi18⟩
  have hs18 := hk18.size
  have HA18 := Lib.hid (HA16.out.keeps hk18 HO.out)
  have HI18 := Lib.hid (HI16.out.keep hk18 hnot)
  have hIm := hi18 ⟨3, mp, mc, msg3, T⟩ (by simp)
  simp only at hIm
  have HR18 := Lib.hid hr18
  have HIM := Lib.hid hIm
  obtain ⟨po, pc, hov, hpc1, hpc2⟩ := row_form hrow
  obtain ⟨go, hgo, hpo⟩ : ∃ go, go < w18.heap.size ∧ po = some ⟨go, 0, none⟩ := row_some (hov ▸ hrow) (Nat.succ_pos _)
  subst hpo
  subst hov
  have hcell := hrow.cells (g := go) rfl 0 (.slice mp 3 mc) rfl
  have hcell' : w18.cell? ⟨go, 0, none⟩ = some (.slice mp 3 mc) := hcell
  have y0 : w18.cell? ⟨g, 6, none⟩ = some (.int .u64 a3) := (HA18.out.key 3 (by omega) a3 b3 HK3.out).1
  have y1 : w18.cell? ⟨g, 7, none⟩ = some (.int .u64 b3) := (HA18.out.key 3 (by omega) a3 b3 HK3.out).2
  have HCELL := Lib.hid hcell'
  have C3 := disc_twice R own _ 3 a3 b3 w18 HR18.out (by omega) (by show (3 : Int) ≤ 10; omega) (by show (3 : Int) ≤ 4; omega)
  have HC3 := Lib.hid C3
  clear hrow hr18 hk18 hi18 hIm hcell hcell' C3
  go_wp2_with (fail)
  refine HC3.out.mono ?_
  rintro e w19 ⟨rfl, hb19⟩
  have HA19 := Lib.hid (HA18.out.step hb19)
  have HI19 := Lib.hid (HI18.out.below' hb19 hb19.size)
  have HIM19 := Lib.hid (HIM.out.below' hb19 hb19.size)
  have HR19 := Lib.hid (HR18.out.below hb19 (Nat.le_refl _))
  have hgo19 : go < w19.heap.size := Nat.lt_of_lt_of_le hgo hb19.size
  have HCELL19 : Hid (w19.cell? ⟨go, 0, none⟩ = some (.slice mp 3 mc)) := Lib.hid (by rw [hb19.cell (by exact hgo)]; exact HCELL.out)
  have C4 := disc_tag R own _ 6 a5 b5 w19 HR19.out (by show 4 < 6; omega) (by show (6 : Int) ≤ 10; omega) (by
    show downN 2 (a5, b5) ≠ KP 4
    rw [HP4.out, ← HK5.out, HDN.out 3 2 (by omega)]
    exact HNE.out)
  have HC4 := Lib.hid C4
  clear hb19 C4 y0 y1
  have y0 : w19.cell? ⟨g, 10, none⟩ = some (.int .u64 a5) := (HA19.out.key 5 (by omega) a5 b5 HK5.out).1
  have y1 : w19.cell? ⟨g, 11, none⟩ = some (.int .u64 b5) := (HA19.out.key 5 (by omega) a5 b5 HK5.out).2
  go_wp2_with (fail)
  refine HC4.out.mono ?_
  rintro e w20 ⟨rfl, hb20⟩
  have HA20 := Lib.hid (HA19.out.step hb20)
  have HI20 := Lib.hid (HI19.out.below' hb20 hb20.size)
  have HIM20 := Lib.hid (HIM19.out.below' hb20 hb20.size)
  have HR20 := Lib.hid (HR19.out.below hb20 (Nat.le_refl _))
  have z0 : w20.cell? ⟨go, 0, none⟩ = some (.slice mp 3 mc) := by rw [hb20.cell (by exact hgo19)]; exact HCELL19.out
  have HE := Lib.hid (equal_true mp (some ⟨w11.heap.size, 0, none⟩) 3 mc 3 msg3 w20 HIM20.out HI20.out rfl (by omega))
  clear hb20 y0 y1
  go_wp2_with (fail)
  refine HE.out.mono ?_
  rintro e w21 ⟨rfl, hb21⟩
  have HA21 := Lib.hid (HA20.out.step hb21)
  have HR21 := Lib.hid (HR20.out.below hb21 (Nat.le_refl _))
  have HKN := Lib.hid (known_any R own _ w21 HR21.out)
  have CH := held_any R own _ w21 HR21.out
  simp only [List.length_nil] at CH
  have HHE := Lib.hid CH
  clear hb21 CH
  go_wp2_with (fail)
  refine HKN.out.mono ?_
  rintro e w22 ⟨rfl, rfl⟩
  go_wp2_with (fail)
  refine HHE.out.mono ?_
  rintro e w22 ⟨rfl, rfl⟩
  go_wp2_with (fail)
  go_ret
  exact ⟨rfl, HA21.out.bel⟩
end Go.Proofs.YtmhgoknbmbicmaaDoor
