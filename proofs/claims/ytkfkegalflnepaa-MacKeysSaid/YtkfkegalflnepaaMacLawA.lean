/- The walks of the statements MacTags and MacDerives. -/
import Derived.Test.YtkfkegalflnepaaMacAwake
import Derived.Test.YtkfkegalflnepaaMacOpen
import Derived.Deep.RegionHeld3
namespace Go.Proofs.Ytkfkegalflnepaa
open Go.RowKit
set_option linter.unusedVariables false
set_option linter.unusedSimpArgs false

/-- what is kept from call to call: the key, in the law's first block -/
def KSt (w : World) (k0 k1 : Int) (wr : World) : Prop :=
  Below w.heap.size w wr ∧ w.heap.size + 1 ≤ wr.heap.size ∧ wr.cell? ⟨w.heap.size, 0, none⟩ = some (.int .u64 k0) ∧ wr.cell? ⟨w.heap.size, 1, none⟩ = some (.int .u64 k1)
theorem KSt.start (w : World) (k0 k1 : Int) : KSt w k0 k1 (w.alloc (Obj.cells #[.int .u64 k0, .int .u64 k1] 24)) :=
  ⟨(Below.refl _ _).alloc (Nat.le_refl _) _, by simp, by simp, by simp⟩
theorem KSt.step {w wr wr' : World} {k0 k1 : Int} (h : KSt w k0 k1 wr) (hb : Below wr.heap.size wr wr') : KSt w k0 k1 wr' := by
  obtain ⟨h1, h2, h3, h4⟩ := h
  exact ⟨h1.trans (hb.mono h1.size), Nat.le_trans h2 hb.size, by rw [hb.cell (by show w.heap.size < _; omega)]; exact h3, by rw [hb.cell (by show w.heap.size < _; omega)]; exact h4⟩
theorem KSt.ints {w wr : World} {k0 k1 : Int} (h : KSt w k0 k1 wr) {k : IntKind} {x : Option Addr} {ys : List Int} (hy : Ints k w w.heap.size x ys) : Ints k wr wr.heap.size x ys :=
  (hy.below (Nat.le_refl _) h.1).mono h.1.size
theorem KSt.drew {w wr : World} {k0 k1 : Int} (h : KSt w k0 k1 wr) : KSt w k0 k1 wr.drew := h.step ((Below.refl _ _).drew)

theorem pderive_st (k0 k1 : Int) (x : Option Addr) (n c : Nat) (ys : List Int) (w wr : World) (hs : KSt w k0 k1 wr) (hy : Ints .u8 w w.heap.size x ys) (hby : Bytes ys) (hl : ys.length = n) (hnc : n ≤ c) (hcl : c ≤ 9223372036854775807) :
    Calls Try.prog 13 #[.agg #[.int .u64 k0, .int .u64 k1], .slice x n c] wr fun e w' => e = .returned (.agg #[.int .u64 (der0 k0 k1 ys), .int .u64 (der1 k0 k1 ys)]) ∧ KSt w k0 k1 w' :=
  (pderive_any k0 k1 x n c ys wr (hs.ints hy) hby hl hnc hcl).mono fun _ _ h => ⟨h.1, hs.step h.2⟩
theorem rderive_st (k0 k1 : Int) (x : Option Addr) (n c : Nat) (ys : List Int) (w wr : World) (hs : KSt w k0 k1 wr) (hy : Ints .u8 w w.heap.size x ys) (hby : Bytes ys) (hl : ys.length = n) (hnc : n ≤ c) (hcl : n ≤ 4611686018427387904) :
    Calls Try.prog 14 #[.agg #[.int .u64 k0, .int .u64 k1], .slice x n c] wr fun e w' => e = .returned (.agg #[.int .u64 (der0 k0 k1 ys), .int .u64 (der1 k0 k1 ys)]) ∧ KSt w k0 k1 w' :=
  (rderive_any k0 k1 x n c ys wr (hs.ints hy) hby hl hnc hcl).mono fun _ _ h => ⟨h.1, hs.step h.2⟩
theorem awake_st (k0 k1 : Int) (w wr : World) (hs : KSt w k0 k1 wr) :
    Calls Try.prog 9 #[] wr fun e w' => e = .returned (.bool true) ∧ KSt w k0 k1 w' :=
  (awake_any wr).mono fun _ _ h => ⟨h.1, hs.step h.2⟩

set_option maxHeartbeats 1000000 in
theorem MacTags_walk (v0 v1 v2 : Value) (w : World) (h0 : IsKey w v0) (h1 : IsInts .u8 w v1) (h2 : IsInt .u64 w v2) :
    Calls Try.prog 3 #[v0, v1, v2] w fun e w' => e = .returned (.bool true) ∧ Below w.heap.size w w' := by
  obtain ⟨k0, k1, rfl, hk0, hk1⟩ := h0
  obtain ⟨x, n, c, ys, rfl, hy, hwy, hl, hnc, hcl, hnl⟩ := h1
  obtain ⟨t, rfl, ht⟩ := h2
  have hby : Bytes ys := fun y hy => wf_u8 (hwy y hy)
  have HL := Lib.hid hl
  clear hl hwy
  have hs := KSt.start w k0 k1
  by_cases hn : 2000 < n
  · go_enter Try.func3, Try.ntmps3
    go_wp2_with (fail)
    refine (awake_any _).mono ?_
    rintro e w1 ⟨rfl, hb⟩
    go_wp2_with (fail)
    go_ret
    exact ⟨rfl, (hs.step hb).1⟩
  · go_enter Try.func3, Try.ntmps3
    go_wp2_with (fail)
    refine (rtag_any k0 k1 x n c ys _ (hs.ints hy) hby HL.out hnc (by omega)).mono ?_
    rintro e w1 ⟨rfl, hb1⟩
    have hs := hs.step hb1
    clear hb1
    obtain ⟨h1, h2, h3, h4⟩ := id hs
    obtain ⟨tg, htg⟩ : ∃ tg, tagI k0 k1 ys = tg := ⟨_, rfl⟩
    rw [htg]
    have HT := Lib.hid htg
    clear htg
    go_wp2_with (fail)
    have C2 := ptag_any k0 k1 x n c ys w1 (hs.ints hy) hby HL.out hnc hcl
    rw [HT.out] at C2
    refine C2.mono ?_
    rintro e w2 ⟨rfl, hb2⟩
    have hs := hs.step hb2
    clear C2 hb2 h1 h2 h3 h4
    obtain ⟨h1, h2, h3, h4⟩ := id hs
    go_wp2_with (fail)
    have C3 := check_any k0 k1 t x n c ys w2 (hs.ints hy) hby HL.out hnc hcl
    rw [HT.out] at C3
    refine C3.mono ?_
    rintro e w3 ⟨rfl, hb3⟩
    have hs := hs.step hb3
    clear C3 hb3 h1 h2 h3 h4
    obtain ⟨h1, h2, h3, h4⟩ := id hs
    go_wp2_with (fail)
    have C4 := check_any k0 k1 tg x n c ys w3 (hs.ints hy) hby HL.out hnc hcl
    rw [HT.out, beq_self_eq_true] at C4
    refine C4.mono ?_
    rintro e w4 ⟨rfl, hb4⟩
    have hs := hs.step hb4
    clear C4 hb4 h1 h2 h3 h4
    go_wp2_with (fail)
    refine (awake_any _).mono ?_
    rintro e w5 ⟨rfl, hb⟩
    go_wp2_with (fail)
    go_ret
    exact ⟨rfl, (hs.step hb).1⟩

set_option maxHeartbeats 1000000 in
theorem MacDerives_walk (v0 v1 : Value) (w : World) (h0 : IsKey w v0) (h1 : IsInts .u8 w v1) :
    Calls Try.prog 4 #[v0, v1] w fun e w' => e = .returned (.bool true) ∧ Below w.heap.size w w' := by
  obtain ⟨k0, k1, rfl, hk0, hk1⟩ := h0
  obtain ⟨x, n, c, ys, rfl, hy, hwy, hl, hnc, hcl, hnl⟩ := h1
  have hby : Bytes ys := fun y hy => wf_u8 (hwy y hy)
  have HL := Lib.hid hl
  clear hl hwy
  have hs := KSt.start w k0 k1
  by_cases hn : 2000 < n
  · go_enter Try.func4, Try.ntmps4
    go_wp2_with (fail)
    refine (awake_any _).mono ?_
    rintro e w1 ⟨rfl, hb⟩
    go_wp2_with (fail)
    go_ret
    exact ⟨rfl, (hs.step hb).1⟩
  · obtain ⟨a0, ha0⟩ : ∃ a, der0 k0 k1 ys = a := ⟨_, rfl⟩
    obtain ⟨a1, ha1⟩ : ∃ a, der1 k0 k1 ys = a := ⟨_, rfl⟩
    have H0 := Lib.hid ha0
    have H1 := Lib.hid ha1
    clear ha0 ha1
    go_enter Try.func4, Try.ntmps4
    go_wp2_with (fail)
    have hsd := hs.drew
    obtain ⟨g1, g2, g3, g4⟩ := id hsd
    go_region_held3 (fun w' => w'.cell? ⟨w.heap.size, 0, none⟩ = some (.int .u64 k0) ∧ w'.cell? ⟨w.heap.size, 1, none⟩ = some (.int .u64 k1) ∧ KSt w k0 k1 w')
      (first | exact ⟨g3, g4, hsd⟩ | exact ⟨hc3, hc4, hsc⟩)
      ((first
        | (go_at_call 13; refine (pderive_st k0 k1 x n c ys w _ (by assumption) hy hby HL.out hnc hcl).mono ?_; rintro e w1 ⟨rfl, hsc⟩; obtain ⟨hc1, hc2, hc3, hc4⟩ := id hsc; rw [H0.out, H1.out])
        | (go_at_call 14; refine (rderive_st k0 k1 x n c ys w _ (by assumption) hy hby HL.out hnc (by omega)).mono ?_; rintro e w1 ⟨rfl, hsc⟩; obtain ⟨hc1, hc2, hc3, hc4⟩ := id hsc; rw [H0.out, H1.out])
        | (go_at_call 9; refine (awake_st k0 k1 w _ (by assumption)).mono ?_; rintro e w1 ⟨rfl, hsc⟩; obtain ⟨hc1, hc2, hc3, hc4⟩ := id hsc)))
    go_wp2
    go_ret
    exact ⟨rfl, hc1⟩
end Go.Proofs.Ytkfkegalflnepaa
