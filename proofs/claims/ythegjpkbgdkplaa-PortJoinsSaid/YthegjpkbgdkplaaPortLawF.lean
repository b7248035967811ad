/- The walk of the statement PortJoins. -/
import Derived.Test.YthegjpkbgdkplaaPortAwake
import Derived.Test.YthegjpkbgdkplaaPortConcat
namespace Go.Proofs.Ythegjpkbgdkplaa
open Go.RowKit
set_option linter.unusedVariables false
set_option linter.unusedSimpArgs false

/-- the state after events, each by Next -/
def stepI (s : Int) (zs : List (Int × Bool)) : Int := zs.foldl (fun s z => nextI s z.1 z.2) s
theorem next_known (s e : Int) (b : Bool) (hs : knownI s = true) (he : happI e = true) : knownI (nextI s e b) = true :=
  by_table (fun s e b => knownI (nextI s e b) = true) (by decide +kernel) s e b hs he
theorem next_unknown (s e : Int) (b : Bool) (hs : knownI s = false) : nextI s e b = 0 := by unfold nextI; rw [if_neg (by simp [hs])]
theorem stepI_zero (zs : List (Int × Bool)) : stepI 0 zs = 0 := by
  induction zs with
  | nil => rfl
  | cons a r ih => show stepI (nextI 0 a.1 a.2) r = 0; rw [next_unknown 0 _ _ rfl]; exact ih
theorem runI_step : ∀ (zs : List (Int × Bool)) (s : Int), runI s zs = stepI s zs
  | [], s => rfl
  | a :: r, s => by
    show (if nextI s a.1 a.2 = 0 then 0 else runI (nextI s a.1 a.2) r) = stepI (nextI s a.1 a.2) r
    by_cases h : nextI s a.1 a.2 = 0
    · rw [if_pos h, h, stepI_zero]
    · rw [if_neg h]; exact runI_step r _
/-- from the state, or from 0 for an unknown one -/
def s0I (s : Int) : Int := if knownI s = true then s else 0
theorem runAll_step (s : Int) (zs : List (Int × Bool)) : runAll s zs = stepI (s0I s) zs := by
  unfold runAll s0I
  cases h : knownI s with
  | true => rw [if_pos rfl, if_pos rfl, runI_step]
  | false => rw [if_neg (by simp), if_neg (by simp), stepI_zero]
theorem stepI_snoc (s : Int) (zs : List (Int × Bool)) (e : Int) (b : Bool) : stepI s (zs ++ [(e, b)]) = nextI (stepI s zs) e b := by unfold stepI; rw [List.foldl_append]; rfl
theorem stepI_append (s : Int) (zs ys : List (Int × Bool)) : stepI s (zs ++ ys) = stepI (stepI s zs) ys := by unfold stepI; rw [List.foldl_append]
theorem step_known : ∀ (zs : List (Int × Bool)) (s : Int), knownI s = true ∨ s = 0 → knownI (stepI s zs) = true ∨ stepI s zs = 0
  | [], s, h => h
  | a :: r, s, h => by
    refine step_known r (nextI s a.1 a.2) ?_
    rcases h with h | h
    · cases hh : happI a.1 with
      | true => exact .inl (next_known s a.1 a.2 h hh)
      | false => exact .inr (by unfold nextI; rw [if_neg (by simp [hh])])
    · subst h; exact .inr (next_unknown 0 _ _ rfl)
theorem s0_step (s : Int) (zs : List (Int × Bool)) : s0I (stepI (s0I s) zs) = stepI (s0I s) zs := by
  have h : knownI (s0I s) = true ∨ s0I s = 0 := by
    unfold s0I
    cases h : knownI s with
    | true => rw [if_pos rfl]; exact .inl h
    | false => rw [if_neg (by simp)]; exact .inr rfl
  rcases step_known zs (s0I s) h with h | h
  · rw [s0I, if_pos h]
  · rw [h]; rfl
theorem runAll_join (s : Int) (zs ys : List (Int × Bool)) : runAll (runAll s zs) ys = runAll s (zs ++ ys) := by
  rw [runAll_step (runAll s zs), runAll_step s zs, runAll_step s (zs ++ ys), s0_step, stepI_append]

theorem take_snoc (l : List (Int × Bool)) (k : Nat) (h : k < l.length) : l.take (k + 1) = l.take k ++ [l.getD k (0, false)] := by
  rw [List.take_succ_eq_append_getElem h, List.getD_eq_getElem?_getD, List.getElem?_eq_getElem h]; rfl

set_option maxHeartbeats 4000000 in
theorem PortJoins_walk (v0 v1 v2 : Value) (w : World) (h0 : IsInt .i64 w v0) (h1 : IsEvs w v1) (h2 : IsEvs w v2) :
    Calls Try.prog 9 #[v0, v1, v2] w fun e w' => e = .returned (.bool true) ∧ Below w.heap.size w w' := by
  obtain ⟨s, rfl, _⟩ := h0
  obtain ⟨x, n1, c, zs1, rfl, hz, _, hl, hnc1, hcl, hxn1⟩ := h1
  obtain ⟨y, m1, d, ys1, rfl, hy, _, hly, hmd1, hdl, hyn1⟩ := h2
  have hl2 : (zs1.take 300).length = min n1 300 := by rw [List.length_take, hl]; omega
  have hly2 : (ys1.take 300).length = min m1 300 := by rw [List.length_take, hly]; omega
  have hz := hz.take 300
  have hy := hy.take 300
  have hxn : x = none → min n1 300 = 0 ∧ c = 0 := fun h => by have := hxn1 h; omega
  have hyn : y = none → min m1 300 = 0 ∧ d = 0 := fun h => by have := hyn1 h; omega
  generalize zs1.take 300 = zs at *
  generalize ys1.take 300 = ys at *
  have F1 := first_any x n1 c w hnc1 hcl
  have F2 := first_any y m1 d w hmd1 hdl
  have hn3 : min n1 300 ≤ 300 := Nat.min_le_right _ _
  have hm3 : min m1 300 ≤ 300 := Nat.min_le_right _ _
  have hnc : min n1 300 ≤ c := by omega
  have hmd : min m1 300 ≤ d := by omega
  generalize min n1 300 = n at *
  generalize min m1 300 = m at *
  clear hl hly hxn1 hyn1
  have HL := Lib.hid hl2
  have HLY := Lib.hid hly2
  clear hl2 hly2
  obtain ⟨R, hR⟩ : ∃ R, runAll s zs = R := ⟨_, rfl⟩
  obtain ⟨E, hE⟩ : ∃ E, runAll s (zs ++ ys) = E := ⟨_, rfl⟩
  have hRE : runAll R ys = E := by rw [← hR, ← hE]; exact runAll_join s zs ys
  have HR := Lib.hid hR
  have HE := Lib.hid hE
  have HRE := Lib.hid hRE
  have HS : Hid (runAll s [] = stepI (s0I s) (zs.take 0)) := runAll_step s []
  have HT : Hid (R = stepI (s0I s) zs) := by show _ = _; rw [← hR]; exact runAll_step s zs
  clear hR hE hRE
  go_enter Try.func9, Try.ntmps9
  go_wp2_with (fail)
  refine F1.mono ?_
  rintro en w1 ⟨rfl, rfl⟩
  go_wp2_with (fail)
  refine F2.mono ?_
  rintro en w1 ⟨rfl, rfl⟩
  clear F1 F2
  go_wp2_with (fail)
  have C1 := prun_any s x n c zs w hz HL.out hnc (by omega)
  rw [HR.out] at C1
  refine C1.mono ?_
  rintro en w1 ⟨rfl, hb⟩
  clear C1
  go_wp2_with (fail)
  have C2 := prun_any s none 0 0 [] w1 (Evs.nil _ _ _) rfl (Nat.le_refl _) (by omega)
  rw [HS.out] at C2
  refine C2.mono ?_
  rintro en w2 ⟨rfl, hb2⟩
  have hb := hb.trans (hb2.mono hb.size)
  clear C2 hb2
  go_wp2_with (fail)
  go_loopw [8, 10, 22] (fun st p i wr => ∃ k : Nat, k ≤ n ∧ i = .int .i64 k ∧ st = .int .i64 (stepI (s0I s) (zs.take k)) ∧ Below w.heap.size w wr) (fun _ _ i _ => n - (intOf i).toNat)
  case atStart => exact ⟨0, by omega, rfl, rfl, hb⟩
  case round =>
    obtain ⟨k, hk, rfl, rfl, hb⟩ := hrel
    have hsz := hb.size
    by_cases hlt : k < n
    · obtain ⟨a, ha, hab, c0, c1⟩ := (hz.below (Nat.le_refl _) hb) k (by rw [HL.out]; omega)
      subst ha
      have HTS := Lib.hid (take_snoc zs k (by rw [HL.out]; omega))
      obtain ⟨e, b, heb⟩ : ∃ e b, zs.getD k (0, false) = (e, b) := ⟨_, _, rfl⟩
      rw [heb] at c0 c1 HTS
      clear heb
      go_wp2_with (fail)
      refine (pnext_any _ e b _).mono ?_
      rintro en w3 ⟨rfl, hb1⟩
      have hb1' := (hb.alloc hsz _).trans (hb1.mono (by simp; omega))
      clear hb1 c0 c1
      go_wp2_with (fail)
      go_roundw
      case rel => exact ⟨k + 1, by omega, by go_num, by rw [HTS.out, stepI_snoc], hb1'⟩
      case measure => simp [intOf]; omega
    · obtain rfl : k = n := by omega
      rw [List.take_of_length_le (by rw [HL.out]; omega), ← HT.out]
      have hz' := (hz.below (Nat.le_refl _) hb)
      have hy' := (hy.below (Nat.le_refl _) hb)
      go_wp2_with (fail)
      have C3 := prun_any R y m d ys wr (hy'.mono hsz) HLY.out hmd (by omega)
      rw [HRE.out] at C3
      refine C3.mono ?_
      rintro en w3 ⟨rfl, hb3⟩
      have hb3' := hb.trans (hb3.mono hsz)
      clear C3 hb3
      go_wp2_with (fail)
      have hsz3 := hb3'.size
      have hb4 := hb3'.alloc hsz3 (Obj.cells #[Value.slice x k c, Value.slice y m d] 27)
      refine (concat_any w3.heap.size x y k m c d zs ys _ (by simp) (by simp) ((hz.below (Nat.le_refl _) hb4).mono hb4.size) ((hy.below (Nat.le_refl _) hb4).mono hb4.size) HL.out HLY.out hn3 hm3 hxn hyn).mono ?_
      rintro en w4 ⟨v, rfl, hown, hb5⟩
      have hb5' := hb4.trans (hb5.mono hb4.size)
      obtain ⟨x5, c5, rfl, hy5, hl5, hnc5, _⟩ := owns_evs hown
      have HL5 := Lib.hid hl5
      clear hl5 hown hb5
      go_wp2_with (fail)
      have C5 := prun_any s x5 (k + m) c5 (zs ++ ys) w4 hy5 HL5.out hnc5 (by omega)
      rw [HE.out] at C5
      refine C5.mono ?_
      rintro en w5 ⟨rfl, hb6⟩
      have hb6' := hb5'.trans (hb6.mono hb5'.size)
      clear C5 hb6
      go_wp2_with (fail)
      refine (awake_any _).mono ?_
      rintro en w6 ⟨rfl, hb7⟩
      go_wp2_with (fail)
      go_ret
      exact ⟨rfl, hb6'.trans (hb7.mono hb6'.size)⟩
end Go.Proofs.Ythegjpkbgdkplaa
