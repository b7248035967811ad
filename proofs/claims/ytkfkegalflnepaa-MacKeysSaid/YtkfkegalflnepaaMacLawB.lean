/- The walk of the statement MacShort. -/
import Derived.Test.YtkfkegalflnepaaMacLawA
import Derived.Deep.DeepCutAuto
namespace Go.Proofs.Ytkfkegalflnepaa
open Go.RowKit
set_option linter.unusedVariables false
set_option linter.unusedSimpArgs false

/-- do the first k elements differ? -/
def bd (ys zs : List Int) (k : Nat) : Bool := !(decide (ys.take k = zs.take k))
theorem bd_zero (ys zs : List Int) : bd ys zs 0 = false := by simp [bd]
theorem bd_succ (ys zs : List Int) (k : Nat) (h1 : k < ys.length) (h2 : k < zs.length) (a b : Int) (ha : ys.getD k 0 = a) (hb : zs.getD k 0 = b) : bd ys zs (k + 1) = (bd ys zs k || !(decide (a = b))) := by
  unfold bd
  rw [take_snoc ys k h1, take_snoc zs k h2, ha, hb, ← Bool.not_and]
  congr 1
  rw [Bool.eq_iff_iff]
  simp only [decide_eq_true_eq, Bool.and_eq_true]
  constructor
  · intro h
    have := List.append_inj h (by simp; omega)
    exact ⟨this.1, by simpa using this.2⟩
  · rintro ⟨e, rfl⟩
    rw [e]
theorem bd_full (ys zs : List Int) (n : Nat) (h1 : ys.length = n) (h2 : zs.length = n) : bd ys zs n = !(decide (ys = zs)) := by
  unfold bd
  rw [List.take_of_length_le (by omega), List.take_of_length_le (by omega)]

theorem ptag_st (k0 k1 : Int) (x : Option Addr) (n c : Nat) (ys : List Int) (w wr : World) (hs : KSt w k0 k1 wr) (hy : Ints .u8 w w.heap.size x ys) (hby : Bytes ys) (hl : ys.length = n) (hnc : n ≤ c) (hcl : c ≤ 9223372036854775807) :
    Calls Try.prog 11 #[.agg #[.int .u64 k0, .int .u64 k1], .slice x n c] wr fun e w' => e = .returned (.int .u64 (tagI k0 k1 ys)) ∧ KSt w k0 k1 w' :=
  (ptag_any k0 k1 x n c ys wr (hs.ints hy) hby hl hnc hcl).mono fun _ _ h => ⟨h.1, hs.step h.2⟩
theorem check_st (k0 k1 t : Int) (x : Option Addr) (n c : Nat) (ys : List Int) (w wr : World) (hs : KSt w k0 k1 wr) (hy : Ints .u8 w w.heap.size x ys) (hby : Bytes ys) (hl : ys.length = n) (hnc : n ≤ c) (hcl : c ≤ 9223372036854775807) :
    Calls Try.prog 12 #[.agg #[.int .u64 k0, .int .u64 k1], .slice x n c, .int .u64 t] wr fun e w' => e = .returned (.bool (tagI k0 k1 ys == t)) ∧ KSt w k0 k1 w' :=
  (check_any k0 k1 t x n c ys wr (hs.ints hy) hby hl hnc hcl).mono fun _ _ h => ⟨h.1, hs.step h.2⟩

theorem Ints.at {k : IntKind} {w wr : World} {x : Option Addr} {ys : List Int} (hy : Ints k w w.heap.size x ys) (hb : Below w.heap.size w wr) (i : Nat) (hi : i < ys.length) :
    ∃ (a : Addr) (v : Int), x = some a ∧ ys.getD i 0 = v ∧ wr.cell? (a.add i) = some (.int k v) := by
  obtain ⟨a, h1, h2, h3⟩ := hy i hi
  refine ⟨a, _, h1, rfl, ?_⟩
  rw [hb.cell (p := a.add i) (by unfold Addr.add; split <;> first | omega | (simp; omega))]
  exact h3

set_option maxHeartbeats 1000000 in
theorem MacShort_walk (v0 v1 v2 : Value) (w : World) (h0 : IsKey w v0) (h1 : IsInts .u8 w v1) (h2 : IsInts .u8 w v2) :
    Calls Try.prog 7 #[v0, v1, v2] w fun e w' => e = .returned (.bool true) ∧ Below w.heap.size w w' := by
  obtain ⟨k0, k1, rfl, hk0, hk1⟩ := h0
  obtain ⟨x, n, c, ys, rfl, hy, hwy, hl, hnc, hcl, hnl⟩ := h1
  obtain ⟨x2, n2, c2, zs, rfl, hy2, hwy2, hl2, hnc2, hcl2, hnl2⟩ := h2
  have hby : Bytes ys := fun y hy => wf_u8 (hwy y hy)
  have hby2 : Bytes zs := fun y hy => wf_u8 (hwy2 y hy)
  have HL := Lib.hid hl
  have HL2 := Lib.hid hl2
  clear hl hwy hl2 hwy2
  have hs := KSt.start w k0 k1
  by_cases hn : n ≠ n2
  · have hd : ((n : Int) != (n2 : Int)) = true := by rw [bne_iff_ne]; omega
    go_enter Try.func7, Try.ntmps7
    go_wp2_with (fail)
    refine (awake_any _).mono ?_
    rintro e w1 ⟨rfl, hb⟩
    go_wp2_with (fail)
    go_ret
    exact ⟨rfl, (hs.step hb).1⟩
  · obtain rfl : n = n2 := by omega
    clear hn
    by_cases hn : 8 < n
    · go_enter Try.func7, Try.ntmps7
      go_wp2_with (fail)
      refine (awake_any _).mono ?_
      rintro e w1 ⟨rfl, hb⟩
      go_wp2_with (fail)
      go_ret
      exact ⟨rfl, (hs.step hb).1⟩
    · go_enter Try.func7, Try.ntmps7
      go_wp2_with (fail)
      go_loopw [7, 8] (fun d i wr => ∃ k : Nat, k ≤ n ∧ i = .int .i64 k ∧ d = .bool (bd ys zs k) ∧ KSt w k0 k1 wr) (fun _ i _ => n - (intOf i).toNat)
      case atStart => exact ⟨0, by omega, rfl, by rw [bd_zero], hs⟩
      case round =>
        obtain ⟨k, hk, rfl, rfl, hs⟩ := hrel
        by_cases hlt : k < n
        · obtain ⟨a, v, ha, hv, hcell⟩ := hy.at hs.1 k (by rw [HL.out]; omega)
          obtain ⟨a2, v2, ha2, hv2, hcell2⟩ := hy2.at hs.1 k (by rw [HL2.out]; omega)
          subst ha ha2
          have HB := Lib.hid (bd_succ ys zs k (by rw [HL.out]; omega) (by rw [HL2.out]; omega) v v2 hv hv2)
          clear hv hv2
          cases hbd : bd ys zs k with
          | true =>
            have HBD := Lib.hid hbd
            clear hbd
            go_wp2_with (fail)
            go_quiet (fail)
            go_wp2_with (fail)
            go_roundw
            case rel => exact ⟨k + 1, by omega, by go_num, by rw [HB.out, HBD.out]; rfl, hs.step (below_drewN (Below.refl _ _) _)⟩
            case measure => simp [intOf]; omega
          | false =>
            have HBD := Lib.hid hbd
            clear hbd
            go_wp2_with (fail)
            go_quiet (fail)
            go_wp2_with (fail)
            go_roundw
            case rel => exact ⟨k + 1, by omega, by go_num, by rw [HB.out, HBD.out]; rfl, hs.step (below_drewN (Below.refl _ _) _)⟩
            case measure => simp [intOf]; omega
        · obtain rfl : k = n := by omega
          rw [bd_full ys zs k HL.out HL2.out]
          obtain ⟨t1, ht1⟩ : ∃ t, tagI k0 k1 ys = t := ⟨_, rfl⟩
          obtain ⟨t2, ht2⟩ : ∃ t, tagI k0 k1 zs = t := ⟨_, rfl⟩
          have hq : (t1 == t2) = (decide (ys = zs)) := by
            rw [Bool.eq_iff_iff, beq_iff_eq, decide_eq_true_eq]
            subst ht1 ht2
            exact ⟨fun h => tagI_inj hby hby2 (by rw [HL.out, HL2.out]) (by rw [HL.out]; omega) h, fun h => by rw [h]⟩
          have hq2 : (t2 == t1) = (t1 == t2) := by rw [Bool.eq_iff_iff, beq_iff_eq, beq_iff_eq]; exact eq_comm
          have HT1 := Lib.hid ht1
          have HT2 := Lib.hid ht2
          clear ht1 ht2
          rw [← hq]
          have HQ2 := Lib.hid hq2
          clear hq hq2
          have hsd := hs.drew
          obtain ⟨q1, q2, q3, q4⟩ := id hsd
          cases hb : (t1 == t2) <;> rw [hb] at HQ2
          all_goals
            go_wp2_with (fail)
            go_region_held3 (fun w' => w'.cell? ⟨w.heap.size, 0, none⟩ = some (.int .u64 k0) ∧ w'.cell? ⟨w.heap.size, 1, none⟩ = some (.int .u64 k1) ∧ KSt w k0 k1 w')
              (first | exact ⟨q3, q4, hsd⟩ | exact ⟨hc3, hc4, hsc⟩)
              ((first
                | (go_at_call_of 11 (Value.slice x k c); refine (ptag_st k0 k1 x k c ys w _ (by assumption) hy hby HL.out hnc hcl).mono ?_; rintro e w1 ⟨rfl, hsc⟩; obtain ⟨hc1, hc2, hc3, hc4⟩ := id hsc; rw [HT1.out])
                | (go_at_call_of 11 (Value.slice x2 k c2); refine (ptag_st k0 k1 x2 k c2 zs w _ (by assumption) hy2 hby2 HL2.out hnc2 hcl2).mono ?_; rintro e w1 ⟨rfl, hsc⟩; obtain ⟨hc1, hc2, hc3, hc4⟩ := id hsc; rw [HT2.out])))
            go_wp2_with (fail)
            have C4 := check_st k0 k1 t1 x2 k c2 zs w w1 hsc hy2 hby2 HL2.out hnc2 hcl2
            rw [HT2.out, HQ2.out] at C4
            refine C4.mono ?_
            rintro e w4 ⟨rfl, hs4⟩
            clear C4
            go_wp2_with (fail)
            refine (awake_any _).mono ?_
            rintro e w5 ⟨rfl, hb5⟩
            go_wp2_with (fail)
            go_ret
            exact ⟨rfl, (hs4.step hb5).1⟩

end Go.Proofs.Ytkfkegalflnepaa
