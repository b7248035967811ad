/- The law AgendaLimits. -/
import Derived.Test.YtknoigleejbjdaaAgT
namespace Go.Proofs.Ytknoigleejbjdaa
open Go.RowKit
set_option linter.unusedVariables false
set_option linter.unusedSimpArgs false

theorem best_eq {l : List Ev} {m : Ev} (nd : (l.map (·.id)).Nodup) (h : Fst l m) : best l = some m := by
  cases hb : best l with
  | none => rw [best_none hb] at h; exact absurd h.1 (by simp)
  | some m' => rw [(best_fst nd hb).uniq h]
/-- k events of one time -/
def same (t : Int) (k : Nat) : List Ev := (List.range k).map fun i => ⟨t, ((i + 1 : Nat) : Int), 0⟩
theorem same_len (t : Int) (k : Nat) : (same t k).length = k := by simp [same]
theorem same_succ (t : Int) (k : Nat) : same t (k + 1) = same t k ++ [⟨t, ((k + 1 : Nat) : Int), 0⟩] := by
  unfold same
  rw [List.range_succ, List.map_append]
  rfl
theorem same_nd (t : Int) (k : Nat) : ((same t k).map (·.id)).Nodup := by
  unfold same
  rw [List.map_map, List.nodup_iff_pairwise_ne, List.pairwise_map]
  exact List.nodup_range.imp (fun {a b} h e => h (by have e' : ((a + 1 : Nat) : Int) = ((b + 1 : Nat) : Int) := e; omega))
theorem same_best (t : Int) (k : Nat) : best (same t (k + 1)) = some ⟨t, 1, 0⟩ := by
  refine best_eq (same_nd t _) ⟨?_, fun e he => ?_⟩
  · unfold same
    exact List.mem_map.2 ⟨0, by simp, rfl⟩
  · unfold same at he
    obtain ⟨i, hi, rfl⟩ := List.mem_map.1 he
    cases i with
    | zero => exact .inl rfl
    | succ i => exact .inr (.inr ⟨rfl, by show (1 : Int) < ((i + 1 + 1 : Nat) : Int); omega⟩)
theorem pe_ok {lim now len t : Int} (h0 : 0 ≤ now) (h1 : now ≤ t) (h2 : len < lim) : pushErr lim now len t = 0 := by
  unfold pushErr
  rw [if_neg (by omega), if_neg (by omega), if_neg (by omega)]
theorem pe_full {lim now len t : Int} (h0 : 0 ≤ now) (h1 : now ≤ t) (h2 : lim ≤ len) : pushErr lim now len t = 13 := by
  unfold pushErr
  rw [if_neg (by omega), if_neg (by omega), if_pos h2]
/-- a push that is taken -/
theorem QO.put {B : Nat} {oth : Nat → Prop} {w : World} {Q : Nat} {lim now : Int} {p N : Nat} {l : List Ev} (h : QO B oth w Q lim now p N l) (hoth : ∀ b, oth b → b < w.heap.size) (hN : N ≤ 1000000000) (hp : p < 1000000000) (t item : Int) (h0 : 0 ≤ now) (h1 : now ≤ t) (h2 : (l.length : Int) < lim) : Calls Try.prog 13 #[.pointer (some ⟨Q, 0, none⟩), .int .i64 t, .int .i64 item] w fun r w' => r = .returned (.tuple #[.int .i64 ((p : Int) + 1), .int .i64 0]) ∧ QO B oth w' Q lim now (p + 1) (N + 10000) (l ++ [⟨t, ((p + 1 : Nat) : Int), item⟩]) ∧ Keep (Mine B oth) w w' := by
  have he := pe_ok h0 h1 h2
  exact h.push' hoth hN hp t item _ _ _ _ (by unfold pushId; rw [if_pos he]; rfl) he (by unfold pushP; rw [if_pos he]) (by unfold pushL; rw [if_pos he])

set_option maxHeartbeats 4000000 in
theorem limits_bad (lim t : Int) (w : World) (h : lim < 1 ∨ 4096 < lim) :
    Calls Try.prog 3 #[.int .i64 lim, .int .u16 t] w fun e w' => e = .returned (.bool true) ∧ Below w.heap.size w w' := by
  by_cases h1 : lim < 1
  all_goals
    have HN := Lib.hid (new_bad lim w h)
    have h2 : ¬ lim < 1 → 4096 < lim := fun q => by omega
    try have h3 := h2 h1
    clear h2 h
    go_enter Try.func3, Try.ntmps3
    go_wp2_with (fail)
    refine HN.out.mono ?_
    rintro e w1 ⟨rfl, hb1⟩
    have hs1 := hb1.size
    go_wp2_with (fail)
    refine (awake_true _).mono ?_
    rintro e w2 ⟨rfl, hb2⟩
    go_wp2_with (fail)
    go_ret
    exact ⟨rfl, hb1.trans (hb2.mono hs1)⟩

set_option maxHeartbeats 8000000 in
theorem limits_good (n : Nat) (t : Int) (w : World) (hn0 : 1 ≤ n) (hn : n ≤ 4096) (ht : 0 ≤ t) (ht' : t < 65536) :
    Calls Try.prog 3 #[.int .i64 n, .int .u16 t] w fun e w' => e = .returned (.bool true) ∧ Below w.heap.size w w' := by
  have h1 : ¬ (n : Int) < 1 := by omega
  have h2 : ¬ (4096 : Int) < n := by omega
  have hwt : IntKind.i64.wrap t = t := i64_wrap_eq ⟨by omega, by omega⟩
  have hwn : IntKind.i64.wrap ((n : Int) + 1) = (n : Int) + 1 := i64_wrap_eq ⟨by omega, by omega⟩
  have HN := Lib.hid (new_QO w.heap.size (fun _ => False) n w (by omega) (by omega) (Nat.le_refl _) (fun _ h => h.elim))
  go_enter Try.func3, Try.ntmps3
  go_wp2_with (fail)
  refine HN.out.mono ?_
  rintro e w1 ⟨rfl, hb1, hq1⟩
  have hs1 := hb1.size
  have HB1 := Lib.hid hb1
  have HQ1 := Lib.hid hq1
  clear hb1 hq1
  go_wp2_with (fail)
  go_loopw [31] (fun ki wr => ∃ k : Nat, k ≤ n ∧ ki = .int .i64 k ∧ Hid (QO w.heap.size (fun _ => False) wr w.heap.size n 0 k (k * 10000) (same t k)) ∧ Hid (Below w.heap.size w wr)) (fun ki _ => n - (intOf ki).toNat)
  case atStart => exact ⟨0, by omega, rfl, Lib.hid HQ1.out, Lib.hid HB1.out⟩
  case round =>
    obtain ⟨k, hk, rfl, HQ, HB⟩ := hrel
    have hkw : IntKind.i64.wrap ((k : Int) + 1) = (k : Int) + 1 := i64_wrap_eq ⟨by omega, by omega⟩
    go_wp2_with (fail)
    · have hlt : k < n := by omega
      refine (HQ.out.put (fun _ h => h.elim) (by omega) (by omega) t 0 (by omega) (by omega) (by rw [same_len]; omega)).mono ?_
      rintro e w2 ⟨rfl, hq2, hk2⟩
      have HQ2 := Lib.hid hq2
      have HB2 := Lib.hid (HB.out.trans (hk2.low HQ.out.B))
      clear hq2 hk2
      go_wp2_with (fail)
      go_roundw
      case rel => exact ⟨k + 1, by omega, by go_num, Lib.hid (by rw [same_succ]; exact HQ2.out.mono (by omega)), HB2⟩
      case measure => simp [intOf]; omega
    · obtain rfl : k = n := by omega
      have HPF := Lib.hid (HQ.out.push' (fun _ h => h.elim) (by omega) (by omega) t 0 0 13 k (same t k) (by unfold pushId; rw [pe_full (by omega) (by omega) (by rw [same_len]; omega), if_neg (by omega)]) (pe_full (by omega) (by omega) (by rw [same_len]; omega)) (by unfold pushP; rw [pe_full (by omega) (by omega) (by rw [same_len]; omega), if_neg (by omega)]) (by unfold pushL; rw [pe_full (by omega) (by omega) (by rw [same_len]; omega), if_neg (by omega)]))
      go_wp2_with (fail)
      refine HPF.out.mono ?_
      rintro e w2 ⟨rfl, hq2, hk2⟩
      have HB2 := Lib.hid (HB.out.trans (hk2.low HQ.out.B))
      obtain ⟨j, rfl⟩ : ∃ j, k = j + 1 := ⟨k - 1, by omega⟩
      have hbest := same_best t j
      have HP2 := Lib.hid (hq2.pop' (by omega) t 1 0 t true ((same t (j + 1)).erase ⟨t, 1, 0⟩) (by unfold popT; rw [hbest]) (by unfold popId; rw [hbest]) (by unfold popIt; rw [hbest]) (by unfold popOk; rw [hbest]; rfl) (by unfold popNow; rw [hbest]) (by unfold popL; rw [hbest]))
      have hln : ((same t (j + 1)).erase ⟨t, 1, 0⟩).length = j := by
        rw [List.length_erase_of_mem (best_fst (same_nd t _) hbest).1, same_len]; rfl
      have HLN := Lib.hid hln
      have hs2 := hk2.size
      have hB2 := hq2.B
      clear hq2 hk2 hbest hln
      go_wp2_with (fail)
      refine HP2.out.mono ?_
      rintro e w3 ⟨rfl, hq3, hk3⟩
      have HB3 := Lib.hid (HB2.out.trans (hk3.low hB2))
      obtain ⟨X3, hX3⟩ : ∃ X, X = w3.alloc (.cells #[.int .i64 t, .int .i64 1, .int .i64 0] 30) := ⟨_, rfl⟩
      obtain ⟨b3, hb3⟩ : ∃ b, w3.heap.size = b := ⟨_, rfl⟩
      have hx3 : X3.heap.size = b3 + 1 := by rw [hX3, ← hb3]; simp
      have hs3 := hk3.size
      have HQX3 := Lib.hid (show QO w.heap.size (fun b => b = b3) X3 _ _ _ _ _ _ from hq3.lay hX3 (fun b q => .inr (q.trans hb3.symm)))
      have hbx3 : Below w3.heap.size w3 X3 := by rw [hX3]; exact (Below.refl _ _).alloc (Nat.le_refl _) _
      have HEX3 := Lib.hid (show EvAt X3 b3 t 1 0 by rw [← hb3]; exact EvAt.lay hX3)
      have HBX3 := Lib.hid (HB3.out.trans (hbx3.mono (by omega)))
      have HX3 := Lib.hid hX3
      clear hbx3 hX3 hq3 hk3
      go_wp2_with (fail)
      rw [← HX3.out]
      refine (HQX3.out.put (fun b q => by omega) (by omega) (by omega) t 0 (by omega) (by omega) (by rw [HLN.out]; omega)).mono ?_
      rintro e w4 ⟨rfl, hq4, hk4⟩
      have hs4 := hk4.size
      have HB4 := Lib.hid (HBX3.out.trans (hk4.low HQX3.out.B))
      obtain ⟨e0, e1, e2⟩ := (HEX3.out.keep hk4 (fun q => q.2 rfl)).cells
      have HQ4 := Lib.hid hq4
      clear hq4 hk4
      go_wp2_with (fail)
      refine HQ4.out.len.mono ?_
      rintro e w5 ⟨rfl, hb5⟩
      have hs5 := hb5.size
      have HB5 := Lib.hid (HB4.out.trans (hb5.mono HQ4.out.B))
      have hl5 : ((same t (j + 1)).erase (Ev.mk t 1 0) ++ [Ev.mk t ((j + 1 + 1 : Nat) : Int) 0]).length = j + 1 := by rw [List.length_append, HLN.out]; rfl
      rw [hl5]
      clear hb5
      go_wp2_with (fail)
      refine (awake_true _).mono ?_
      rintro e w6 ⟨rfl, hb6⟩
      have hss : w.heap.size ≤ w5.heap.size := HB5.out.size
      have HB6 := Lib.hid (HB5.out.trans (hb6.mono hss))
      clear hb6
      go_wp2_with (fail)
      go_ret
      exact ⟨rfl, HB6.out⟩
theorem AgendaLimits_walk (v0 v1 : Value) (w : World) (h0 : IsInt .i64 w v0) (h1 : IsInt .u16 w v1) :
    Calls Try.prog 3 #[v0, v1] w fun e w' => e = .returned (.bool true) ∧ Below w.heap.size w w' := by
  obtain ⟨lim, rfl, -⟩ := h0
  obtain ⟨t, rfl, hw⟩ := h1
  obtain ⟨t0, t1⟩ := wf_u16 hw
  by_cases h : lim < 1 ∨ 4096 < lim
  · exact limits_bad lim t w h
  · obtain ⟨n, rfl⟩ : ∃ n : Nat, lim = n := ⟨lim.toNat, by omega⟩
    exact limits_good n t w (by omega) (by omega) t0 t1
end Go.Proofs.Ytknoigleejbjdaa
