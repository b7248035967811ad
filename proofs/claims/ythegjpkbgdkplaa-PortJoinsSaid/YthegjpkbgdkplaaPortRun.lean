/- What Name and Run of package port and of its reference return. -/
import Derived.Test.YthegjpkbgdkplaaPortRef
import Derived.BigQuiet
import Derived.Deep.QuietTactic
namespace Go.Proofs.Ythegjpkbgdkplaa
open Go.RowKit
set_option linter.unusedVariables false
set_option linter.unusedSimpArgs false

def nameI (s : Int) : ByteArray :=
  if s = 1 then ⟨#[105, 110, 105, 116, 105, 97, 108, 105, 122, 105, 110, 103]⟩ else if s = 2 then ⟨#[102, 97, 117, 108, 116, 121]⟩ else if s = 3 then ⟨#[100, 105, 115, 97, 98, 108, 101, 100]⟩
  else if s = 4 then ⟨#[108, 105, 115, 116, 101, 110, 105, 110, 103]⟩ else if s = 5 then ⟨#[112, 114, 101, 109, 97, 115, 116, 101, 114]⟩ else if s = 6 then ⟨#[109, 97, 115, 116, 101, 114]⟩
  else if s = 7 then ⟨#[112, 97, 115, 115, 105, 118, 101]⟩ else if s = 8 then ⟨#[117, 110, 99, 97, 108, 105, 98, 114, 97, 116, 101, 100]⟩ else if s = 9 then ⟨#[115, 108, 97, 118, 101]⟩ else ⟨#[]⟩

theorem nameI_none (s : Int) (h : knownI s = false) : nameI s = ⟨#[]⟩ := by
  simp [knownI] at h
  unfold nameI
  rw [if_neg (by omega), if_neg (by omega), if_neg (by omega), if_neg (by omega), if_neg (by omega), if_neg (by omega), if_neg (by omega), if_neg (by omega), if_neg (by omega)]

set_option maxHeartbeats 8000000 in
theorem pname_any (s : Int) (w : World) : Calls Try.prog 16 #[.int .i64 s] w fun e w' => e = .returned (.string (nameI s)) ∧ Below w.heap.size w w' := by
  have C := known_any s w
  cases hk : knownI s with
  | false =>
    have HN := Lib.hid (nameI_none s hk)
    rw [hk] at C
    clear hk
    go_enter Try.func16, Try.ntmps16
    go_wp2_with (fail)
    refine C.mono ?_
    rintro en w1 ⟨rfl, rfl⟩
    go_wp2_with (fail)
    go_ret
    exact ⟨by rw [HN.out]; rfl, Below.refl _ _⟩
  | true =>
    rw [hk] at C
    have HK := Lib.hid hk
    clear hk
    rcases cases9 s HK.out with rfl | rfl | rfl | rfl | rfl | rfl | rfl | rfl | rfl
    all_goals
      go_enter Try.func16, Try.ntmps16
      go_wp2_with (fail)
      refine C.mono ?_
      rintro en w1 ⟨rfl, rfl⟩
      go_wp2_with (fail)
      go_ret
      exact ⟨rfl, (Below.refl _ _).alloc (Nat.le_refl _) _⟩

theorem rname_any (s : Int) (w : World) : Calls Try.prog 17 #[.int .i64 s] w fun e w' => e = .returned (.string (nameI s)) ∧ w = w' := by
  cases hk : knownI s with
  | false =>
    have HN := Lib.hid (nameI_none s hk)
    simp [knownI] at hk
    have d1 : (s == 1) = false := by simp; omega
    have d2 : (s == 2) = false := by simp; omega
    have d3 : (s == 3) = false := by simp; omega
    have d4 : (s == 4) = false := by simp; omega
    have d5 : (s == 5) = false := by simp; omega
    have d6 : (s == 6) = false := by simp; omega
    have d7 : (s == 7) = false := by simp; omega
    have d8 : (s == 8) = false := by simp; omega
    have d9 : (s == 9) = false := by simp; omega
    clear hk
    go_enter Try.func17, Try.ntmps17
    go_wp2_with (fail)
    go_ret
    exact ⟨by rw [HN.out]; rfl, rfl⟩
  | true =>
    rcases cases9 s hk with rfl | rfl | rfl | rfl | rfl | rfl | rfl | rfl | rfl
    all_goals
      go_enter Try.func17, Try.ntmps17
      go_wp2_with (fail)
      go_ret
      exact ⟨rfl, rfl⟩

/-- some events lie in a row, in a block below B -/
def Evs (w : World) (B : Nat) (x : Option Addr) (zs : List (Int × Bool)) : Prop :=
  ∀ i, i < zs.length → ∃ (a : Addr), x = some a ∧ a.block < B ∧ w.cell? (a.add (i * 2)) = some (.int .i64 (zs.getD i (0, false)).1) ∧ w.cell? ⟨(a.add (i * 2)).block, (a.add (i * 2)).off + 1, none⟩ = some (.bool (zs.getD i (0, false)).2)

theorem add_block (a : Addr) (n : Nat) : (a.add n).block = a.block := by unfold Addr.add; split <;> rfl

theorem Evs.below {w w' : World} {B B' : Nat} {x : Option Addr} {zs : List (Int × Bool)} (h : Evs w B x zs) (hB : B ≤ B') (hb : Below B' w w') : Evs w' B x zs := by
  intro i hi
  obtain ⟨a, h1, h2, h3, h4⟩ := h i hi
  refine ⟨a, h1, h2, ?_, ?_⟩
  · rw [hb.cell (p := a.add (i * 2)) (by rw [add_block]; omega)]; exact h3
  · rw [hb.cell (by show (a.add (i * 2)).block < _; rw [add_block]; omega)]; exact h4
theorem Evs.mono {w : World} {B B' : Nat} {x : Option Addr} {zs : List (Int × Bool)} (h : Evs w B x zs) (hB : B ≤ B') : Evs w B' x zs := by
  intro i hi
  obtain ⟨a, h1, h2, h3, h4⟩ := h i hi
  exact ⟨a, h1, by omega, h3, h4⟩
theorem Evs.take {w : World} {B : Nat} {x : Option Addr} {zs : List (Int × Bool)} (h : Evs w B x zs) (n : Nat) : Evs w B x (zs.take n) := by
  intro i hi
  rw [List.length_take] at hi
  obtain ⟨a, h1, h2, h3, h4⟩ := h i (by omega)
  have e : (zs.take n).getD i (0, false) = zs.getD i (0, false) := by
    rw [List.getD_eq_getElem?_getD, List.getD_eq_getElem?_getD, List.getElem?_take, if_pos (by omega)]
  exact ⟨a, h1, h2, by rw [e]; exact h3, by rw [e]; exact h4⟩
theorem Evs.nil (w : World) (B : Nat) (x : Option Addr) : Evs w B x [] := fun i hi => by simp at hi

theorem runI_drop (s : Int) (zs : List (Int × Bool)) (k : Nat) (hk : k < zs.length) (e : Int) (b : Bool) (he : zs.getD k (0, false) = (e, b)) :
    runI s (zs.drop k) = if nextI s e b = 0 then 0 else runI (nextI s e b) (zs.drop (k + 1)) := by
  have hd : zs.drop k = (e, b) :: zs.drop (k + 1) := by
    rw [List.drop_eq_getElem_cons hk, ← he, List.getD_eq_getElem?_getD, List.getElem?_eq_getElem hk]
    rfl
  rw [hd]
  rfl

def runAll (s : Int) (zs : List (Int × Bool)) : Int := if knownI s = true then runI s zs else 0

set_option maxHeartbeats 1000000 in
theorem prun_any (s : Int) (x : Option Addr) (n c : Nat) (zs : List (Int × Bool)) (w : World) (hz : Evs w w.heap.size x zs) (hl : zs.length = n) (hnc : n ≤ c) (hn : n ≤ 4611686018427387904) :
    Calls Try.prog 20 #[.int .i64 s, .slice x n c] w fun e w' => e = .returned (.int .i64 (runAll s zs)) ∧ Below w.heap.size w w' := by
  have HL := Lib.hid hl
  clear hl
  have C := known_any s w
  cases hk : knownI s with
  | false =>
    have HR : Hid (runAll s zs = 0) := by show _ = _; simp [runAll, hk]
    rw [hk] at C
    clear hk
    go_enter Try.func20, Try.ntmps20
    go_wp2_with (fail)
    refine C.mono ?_
    rintro en w1 ⟨rfl, rfl⟩
    go_wp2_with (fail)
    go_ret
    exact ⟨by rw [HR.out]; rfl, Below.refl _ _⟩
  | true =>
    have HR : Hid (runAll s zs = runI s (zs.drop 0)) := by show _ = _; simp [runAll, hk]
    rw [hk] at C
    clear hk
    obtain ⟨R, hR⟩ : ∃ R, runAll s zs = R := ⟨_, rfl⟩
    rw [hR] at HR ⊢
    clear hR
    go_enter Try.func20, Try.ntmps20
    go_wp2_with (fail)
    refine C.mono ?_
    rintro en w1 ⟨rfl, rfl⟩
    go_wp2_with (fail)
    go_loopw [0, 6, 12] (fun st p i wr => ∃ (k : Nat) (q : Int), k ≤ n ∧ i = .int .i64 k ∧ st = .int .i64 q ∧ R = runI q (zs.drop k) ∧ Below w.heap.size w wr) (fun _ _ i _ => n - (intOf i).toNat)
    case atStart => exact ⟨0, s, by omega, rfl, rfl, HR.out, Below.refl _ _⟩
    case round =>
      obtain ⟨k, q, hk, rfl, rfl, hR, hb⟩ := hrel
      have HRR := Lib.hid hR
      clear hR
      have hsz := hb.size
      by_cases hlt : k < n
      · obtain ⟨a, ha, hab, c0, c1⟩ := (hz.below (Nat.le_refl _) hb) k (by rw [HL.out]; omega)
        subst ha
        obtain ⟨e, b, heb⟩ : ∃ e b, zs.getD k (0, false) = (e, b) := ⟨_, _, rfl⟩
        rw [heb] at c0 c1
        have HD := Lib.hid (runI_drop q zs k (by rw [HL.out]; omega) e b heb)
        clear heb
        go_wp2_with (fail)
        refine (pnext_any q e b _).mono ?_
        rintro en w1 ⟨rfl, hb1⟩
        have hb1' := (hb.alloc hsz _).trans (hb1.mono (by simp; omega))
        clear hb1 c0 c1
        obtain ⟨q', hq'⟩ : ∃ q', nextI q e b = q' := ⟨_, rfl⟩
        rw [hq'] at HD ⊢
        clear hq'
        by_cases h0 : q' = 0
        · subst h0
          have HQ : Hid (R = 0) := by show _ = _; rw [HRR.out, HD.out]; rfl
          go_wp2_with (fail)
          go_ret
          exact ⟨by rw [HQ.out]; rfl, hb1'⟩
        · have hd : (q' == 0) = false := by simpa using h0
          have HQ : Hid (R = runI q' (zs.drop (k + 1))) := by show _ = _; rw [HRR.out, HD.out, if_neg h0]
          clear h0
          go_wp2_with (fail)
          go_roundw
          case rel => exact ⟨k + 1, q', by omega, by go_num, rfl, HQ.out, hb1'⟩
          case measure => simp [intOf]; omega
      · obtain rfl : k = n := by omega
        have HQ : Hid (R = q) := by show _ = _; rw [HRR.out, List.drop_of_length_le (by rw [HL.out]; omega)]; rfl
        go_wp2_with (fail)
        go_ret
        exact ⟨by rw [HQ.out]; rfl, hb⟩

set_option maxHeartbeats 1000000 in
theorem rrun_any (s : Int) (x : Option Addr) (n c : Nat) (zs : List (Int × Bool)) (w : World) (hz : Evs w w.heap.size x zs) (hl : zs.length = n) (hnc : n ≤ c) (hn : n ≤ 4611686018427387904) :
    Calls Try.prog 21 #[.int .i64 s, .slice x n c] w fun e w' => e = .returned (.int .i64 (runAll s zs)) ∧ Below w.heap.size w w' := by
  have HL := Lib.hid hl
  clear hl
  have C := rknown_any s w
  cases hk : knownI s with
  | false =>
    have HR : Hid (runAll s zs = 0) := by show _ = _; simp [runAll, hk]
    rw [hk] at C
    clear hk
    go_enter Try.func21, Try.ntmps21
    go_wp2_with (fail)
    refine C.mono ?_
    rintro en w1 ⟨rfl, rfl⟩
    go_wp2_with (fail)
    go_ret
    exact ⟨by rw [HR.out]; rfl, Below.refl _ _⟩
  | true =>
    have HR : Hid (runAll s zs = runI s (zs.drop 0)) := by show _ = _; simp [runAll, hk]
    rw [hk] at C
    clear hk
    obtain ⟨R, hR⟩ : ∃ R, runAll s zs = R := ⟨_, rfl⟩
    rw [hR] at HR ⊢
    clear hR
    go_enter Try.func21, Try.ntmps21
    go_wp2_with (fail)
    refine C.mono ?_
    rintro en w1 ⟨rfl, rfl⟩
    go_wp2_with (fail)
    go_loopw [0, 5] (fun st i wr => ∃ (k : Nat) (q : Int), k ≤ n ∧ i = .int .i64 k ∧ st = .int .i64 q ∧ R = runI q (zs.drop k) ∧ Below w.heap.size w wr) (fun _ i _ => n - (intOf i).toNat)
    case atStart => exact ⟨0, s, by omega, rfl, rfl, HR.out, Below.refl _ _⟩
    case round =>
      obtain ⟨k, q, hk, rfl, rfl, hR, hb⟩ := hrel
      have HRR := Lib.hid hR
      clear hR
      have hsz := hb.size
      by_cases hlt : k < n
      · obtain ⟨a, ha, hab, c0, c1⟩ := (hz.below (Nat.le_refl _) hb) k (by rw [HL.out]; omega)
        subst ha
        obtain ⟨e, b, heb⟩ : ∃ e b, zs.getD k (0, false) = (e, b) := ⟨_, _, rfl⟩
        rw [heb] at c0 c1
        have HD := Lib.hid (runI_drop q zs k (by rw [HL.out]; omega) e b heb)
        clear heb
        obtain ⟨q', hq'⟩ : ∃ q', nextI q e b = q' := ⟨_, rfl⟩
        have CN : ∀ w, Calls Try.prog 11 #[.int .i64 q, .int .i64 e, .bool b] w fun en w' => en = .returned (.int .i64 q') ∧ w' = w := by
          intro w
          rw [← hq', ← rnext_eq]
          exact (rnext_any q e b w).mono fun _ _ h => ⟨h.1, h.2.symm⟩
        have HCN := Lib.hid CN
        rw [hq'] at HD
        clear hq' CN
        by_cases h0 : q' = 0
        · subst h0
          have HQ : Hid (R = 0) := by show _ = _; rw [HRR.out, HD.out]; rfl
          go_wp2_with (fail)
          go_quiet ((go_at_call 11; exact Calls.quiet_of_same (HCN.out _)))
          go_wp2_with (fail)
          go_ret
          exact ⟨by rw [HQ.out]; rfl, below_drewN hb _⟩
        · have hd : (q' == 0) = false := by simpa using h0
          have HQ : Hid (R = runI q' (zs.drop (k + 1))) := by show _ = _; rw [HRR.out, HD.out, if_neg h0]
          clear h0
          go_wp2_with (fail)
          go_quiet ((go_at_call 11; exact Calls.quiet_of_same (HCN.out _)))
          go_wp2_with (fail)
          go_roundw
          case rel => exact ⟨k + 1, q', by omega, by go_num, rfl, HQ.out, below_drewN hb _⟩
          case measure => simp [intOf]; omega
      · obtain rfl : k = n := by omega
        have HQ : Hid (R = q) := by show _ = _; rw [HRR.out, List.drop_of_length_le (by rw [HL.out]; omega)]; rfl
        go_wp2_with (fail)
        go_ret
        exact ⟨by rw [HQ.out]; rfl, hb⟩

/-- 'first' -/
theorem first_any (x : Option Addr) (n c : Nat) (w : World) (hnc : n ≤ c) (hcl : c ≤ 9223372036854775807) :
    Calls Try.prog 19 #[.slice x n c] w fun e w' => e = .returned (.slice x (min n 300) c) ∧ w = w' := by
  go_enter Try.func19, Try.ntmps19
  go_wp2_with (fail)
  · go_ret
    exact ⟨by rw [Nat.min_eq_right (by omega)]; rfl, rfl⟩
  · go_ret
    exact ⟨by rw [Nat.min_eq_left (by omega)]; rfl, rfl⟩
end Go.Proofs.Ythegjpkbgdkplaa
