/- What the functions of package mac and prng.Mix return, and that they write nothing that was there. -/
import Derived.Test.YtmhgoknbmbicmaaDoorProg
import Derived.WalkKit
import Derived.BigQuiet
import Derived.Deep.QuietTactic
import Derived.WalkSmall
import Derived.Lib.Hide
import Derived.ChangeKeysEq
import Derived.Test.YtmhgoknbmbicmaaDoorMacPlain
namespace Go.Proofs.YtmhgoknbmbicmaaDoor
open Go.RowKit
set_option linter.unusedVariables false
set_option linter.unusedSimpArgs false

/-- some numbers of a kind lie in a row, in a block below B -/
def Ints (k : IntKind) (w : World) (B : Nat) (x : Option Addr) (zs : List Int) : Prop :=
  ∀ i, i < zs.length → ∃ a : Addr, x = some a ∧ a.block < B ∧ w.cell? (a.add i) = some (.int k (zs.getD i 0))

theorem Ints.below {k : IntKind} {w w' : World} {B B' : Nat} {x : Option Addr} {zs : List Int} (h : Ints k w B x zs) (hB : B ≤ B') (hb : Below B' w w') : Ints k w' B x zs := by
  intro i hi
  obtain ⟨a, h1, h2, h3⟩ := h i hi
  refine ⟨a, h1, h2, ?_⟩
  rw [hb.cell (p := a.add i) (by unfold Addr.add; split <;> first | omega | (simp; omega))]
  exact h3

theorem Ints.mono {k : IntKind} {w : World} {B B' : Nat} {x : Option Addr} {zs : List Int} (h : Ints k w B x zs) (hB : B ≤ B') : Ints k w B' x zs := by
  intro i hi
  obtain ⟨a, h1, h2, h3⟩ := h i hi
  exact ⟨a, h1, by omega, h3⟩

theorem Ints.nil (k : IntKind) (w : World) (B : Nat) (x : Option Addr) : Ints k w B x [] := fun i hi => by simp at hi

/-- the address behind some cells of a row; at the end of the capacity it stays -/
def dropAddr (x : Option Addr) (m c : Nat) : Option Addr := x.map fun a => if c = m then a else a.add m

theorem Ints.drop {k : IntKind} {w : World} {B : Nat} {x : Option Addr} {zs : List Int} (h : Ints k w B x zs) (m c : Nat) (hc : zs.length ≤ c) : Ints k w B (dropAddr x m c) (zs.drop m) := by
  intro i hi
  simp only [List.length_drop] at hi
  obtain ⟨a, h1, h2, h3⟩ := h (m + i) (by omega)
  subst h1
  have hm : c ≠ m := by omega
  refine ⟨a.add m, by simp [dropAddr, hm], by unfold Addr.add; split <;> first | omega | (simp; omega), ?_⟩
  have e : (a.add m).add i = a.add (m + i) := by
    unfold Addr.add
    by_cases h1 : m = 0
    · subst h1; simp
    · by_cases h2 : i = 0
      · subst h2; simp [h1]
      · simp [h1, h2]; omega
  rw [e, h3]
  simp [List.getD_eq_getElem?_getD, List.getElem?_drop]

set_option maxHeartbeats 400000 in
theorem pmix_any (a b : Int) (w : World) :
    Calls Tryd.prog 26 #[.int .u64 a, .int .u64 b] w fun e w' => e = .returned (.int .u64 (mxi a b)) ∧ Below w.heap.size w w' := by
  go_enter Tryd.func26, Tryd.ntmps26
  go_wp2
  go_loopw [6, 8, 18] (fun x p i wr => ∃ k : Nat, k ≤ 2 ∧ i = .int .i64 k ∧ x = .int .u64 (mxk a b k) ∧ Below w.heap.size w wr) (fun x p i wr => 2 - (intOf i).toNat)
  case atStart => exact ⟨0, by omega, rfl, rfl, (Below.refl _ _).alloc (Nat.le_refl _) _⟩
  case round =>
    obtain ⟨k, hk, rfl, rfl, hb⟩ := hrel
    have hz : w.heap.size ≤ wr.heap.size := hb.size
    have i0 : ∀ w, Sem.run Tryd.prog (Instr.index 74 (.agg #[.int .i64 30, .int .u64 13787848793156543929, .int .i64 27, .int .u64 10723151780598845931]) (.int .i64 0)) w = .ok (.agg #[.int .i64 30, .int .u64 13787848793156543929]) w := fun _ => by kernel_rfl
    have i1 : ∀ w, Sem.run Tryd.prog (Instr.index 74 (.agg #[.int .i64 30, .int .u64 13787848793156543929, .int .i64 27, .int .u64 10723151780598845931]) (.int .i64 1)) w = .ok (.agg #[.int .i64 27, .int .u64 10723151780598845931]) w := fun _ => by kernel_rfl
    rcases (show k = 0 ∨ k = 1 ∨ k = 2 by omega) with rfl | rfl | rfl
    · go_wp2
      go_quiet (fail)
      go_wp2
      go_roundw
      case rel => exact ⟨1, by omega, rfl, rfl, below_drewN (hb.alloc hz _) _⟩
      case measure => simp [intOf]
    · go_wp2
      go_quiet (fail)
      go_wp2
      go_roundw
      case rel => exact ⟨2, by omega, rfl, rfl, below_drewN (hb.alloc hz _) _⟩
      case measure => simp [intOf]
    · go_wp2
      go_ret
      exact ⟨by rw [mxi_eq]; rfl, hb⟩

/-- the closure's step where bytes are left -/
theorem next_some (Bc : Nat) (x : Option Addr) (n c : Nat) (ys : List Int) (B : Nat) (w : World) (hc : w.cell? ⟨Bc, 0, none⟩ = some (.slice x n c)) (hf : w.frozen? ⟨Bc, 0, none⟩ = false)
    (hy : Ints .u8 w B x ys) (hby : Bytes ys) (hl : ys.length = n) (hn : 0 < n) (hnc : n ≤ c) (hcl : c ≤ 9223372036854775807) :
    Calls Tryd.prog 38 #[.pointer (some ⟨Bc, 0, none⟩)] w fun e w' => e = .returned (.tuple #[.int .u64 (wordOf (ys.take 8)), .bool true]) ∧
      w' = w.setCell ⟨Bc, 0, none⟩ (.slice (dropAddr x (min 8 n) c) (n - min 8 n) (c - min 8 n)) := by
  have h0 : ((n : Int) == 0) = false := by simp; omega
  go_enter Tryd.func38, Tryd.ntmps38
  by_cases h8 : 8 ≤ n
  · go_wp2
    go_loop [4, 5, 13] (fun u _ i => ∃ k : Nat, k ≤ 8 ∧ i = .int .i64 k ∧ u = .int .u64 (wordOf (ys.take k))) (fun _ _ i => 8 - (intOf i).toNat)
    case atStart => exact ⟨0, by omega, rfl, rfl⟩
    case round =>
      obtain ⟨k, hk, rfl, rfl⟩ := hrel
      by_cases hlt : k < 8
      · obtain ⟨a, ha, _, hcell⟩ := hy k (by omega)
        subst ha
        obtain ⟨v, hv⟩ : ∃ v, ys.getD k 0 = v := ⟨_, rfl⟩
        rw [hv] at hcell
        have HS := Lib.hid (or_step ys hby k v hv (by omega) (by omega))
        clear hv
        go_wp2
        go_round
        case rel => exact ⟨k + 1, by omega, by go_num, by rw [HS.out]⟩
        case measure => simp [intOf]; omega
      · obtain rfl : k = 8 := by omega
        obtain ⟨a, ha, _, hcell⟩ := hy 0 (by omega)
        subst ha
        go_wp2
        all_goals
          go_ret2
          exact ⟨rfl, by simp [dropAddr, Addr.add, *]⟩
  · go_wp2
    go_loop [4, 5, 13] (fun u _ i => ∃ k : Nat, k ≤ n ∧ i = .int .i64 k ∧ u = .int .u64 (wordOf (ys.take k))) (fun _ _ i => n - (intOf i).toNat)
    case atStart => exact ⟨0, by omega, rfl, rfl⟩
    case round =>
      obtain ⟨k, hk, rfl, rfl⟩ := hrel
      by_cases hlt : k < n
      · obtain ⟨a, ha, _, hcell⟩ := hy k (by omega)
        subst ha
        obtain ⟨v, hv⟩ : ∃ v, ys.getD k 0 = v := ⟨_, rfl⟩
        rw [hv] at hcell
        have HS := Lib.hid (or_step ys hby k v hv (by omega) (by omega))
        clear hv
        go_wp2
        go_round
        case rel => exact ⟨k + 1, by omega, by go_num, by rw [HS.out]⟩
        case measure => simp [intOf]; omega
      · obtain rfl : k = n := by omega
        obtain ⟨a, ha, _, hcell⟩ := hy 0 (by omega)
        subst ha
        have hw : wordOf (ys.take 8) = wordOf (ys.take k) := by rw [List.take_of_length_le (by omega), List.take_of_length_le (by omega)]
        have HW := Lib.hid hw
        clear hw
        have hm : min 8 k = k := by omega
        have HM := Lib.hid hm
        clear hm
        go_wp2
        all_goals
          go_ret2
          rw [HW.out, HM.out]
          have hk0 : k ≠ 0 := by omega
          exact ⟨rfl, by simp [dropAddr, Addr.add, *]⟩

/-- the closure's step where no bytes are left -/
theorem next_none (Bc : Nat) (x : Option Addr) (c : Nat) (w : World) (hc : w.cell? ⟨Bc, 0, none⟩ = some (.slice x 0 c)) :
    Calls Tryd.prog 38 #[.pointer (some ⟨Bc, 0, none⟩)] w fun e w' => e = .returned (.tuple #[.int .u64 0, .bool false]) ∧ w = w' := by
  go_enter Tryd.func38, Tryd.ntmps38
  go_wp2
  go_ret2
  exact ⟨rfl, rfl⟩

theorem words_any (x : Option Addr) (n c : Nat) (w : World) :
    Calls Tryd.prog 34 #[.slice x n c] w fun e w' => e = .returned (.func (Fn.func 38) #[] #[.pointer (some ⟨w.heap.size, 0, none⟩)]) ∧ w' = w.alloc (.cells #[.slice x n c] 36) := by
  go_enter Tryd.func34, Tryd.ntmps34
  go_wp2
  go_ret
  exact ⟨rfl, rfl⟩

/-- what holds ahead of each round of Tag's loop -/
def TagRel (BC : Nat) (w : World) (H : Int) (h wd ok : Value) (wr : World) : Prop :=
  ∃ (x : Option Addr) (n c : Nat) (ys : List Int) (hv wv : Int) (b : Bool), h = .int .u64 hv ∧ wd = .int .u64 wv ∧ ok = .bool b ∧
    wr.cell? ⟨BC, 0, none⟩ = some (.slice x n c) ∧ wr.frozen? ⟨BC, 0, none⟩ = false ∧ Ints .u8 wr w.heap.size x ys ∧ Bytes ys ∧ ys.length = n ∧ n ≤ c ∧ c ≤ 9223372036854775807 ∧
    Below w.heap.size w wr ∧ BC < wr.heap.size ∧ (if b then (wordsOf ys).foldl mxi (mxi hv wv) else hv) = H
def slLen : Option Value → Nat | some (.slice _ n _) => n | _ => 0
def bNat : Value → Nat | .bool true => 1 | _ => 0

/-- what a step of the closure comes to -/
def NextPost (Bc B n c : Nat) (ys : List Int) (w : World) (e : Ending) (w' : World) : Prop :=
  ∃ (wv : Int) (b : Bool) (x' : Option Addr) (n' c' : Nat) (ys' : List Int), e = .returned (.tuple #[.int .u64 wv, .bool b]) ∧ (∀ B', B' ≤ Bc → Below B' w w') ∧
    w'.cell? ⟨Bc, 0, none⟩ = some (.slice x' n' c') ∧ w'.frozen? ⟨Bc, 0, none⟩ = false ∧ Ints .u8 w B x' ys' ∧ Bytes ys' ∧ ys'.length = n' ∧ n' ≤ c' ∧ c' ≤ c ∧
    (∀ h, (if b then (wordsOf ys').foldl mxi (mxi h wv) else h) = (wordsOf ys).foldl mxi h) ∧ n' + b.toNat < n + 1

theorem next_any (Bc : Nat) (x : Option Addr) (n c : Nat) (ys : List Int) (B : Nat) (w : World) (hc : w.cell? ⟨Bc, 0, none⟩ = some (.slice x n c)) (hf : w.frozen? ⟨Bc, 0, none⟩ = false)
    (hy : Ints .u8 w B x ys) (hby : Bytes ys) (hl : ys.length = n) (hnc : n ≤ c) (hcl : c ≤ 9223372036854775807) :
    Calls Tryd.prog 38 #[.pointer (some ⟨Bc, 0, none⟩)] w (NextPost Bc B n c ys w) := by
  by_cases hn : n = 0
  · subst hn
    refine (next_none Bc x c w hc).mono ?_
    rintro e w' ⟨rfl, rfl⟩
    obtain rfl : ys = [] := List.eq_nil_of_length_eq_zero hl
    exact ⟨0, false, x, 0, c, [], rfl, fun B' _ => Below.refl _ _, hc, hf, hy, hby, hl, hnc, Nat.le_refl _, fun h => by simp [wordsOf_nil], by simp⟩
  · refine (next_some Bc x n c ys B w hc hf hy hby hl (by omega) hnc hcl).mono ?_
    rintro e w' ⟨rfl, rfl⟩
    have hne : ys ≠ [] := by rintro rfl; simp at hl; omega
    have hd : ys.drop (min 8 n) = ys.drop 8 := by
      by_cases h8 : 8 ≤ n
      · rw [Nat.min_eq_left h8]
      · rw [Nat.min_eq_right (by omega), List.drop_of_length_le (by omega), List.drop_of_length_le (by omega)]
    refine ⟨wordOf (ys.take 8), true, dropAddr x (min 8 n) c, n - min 8 n, c - min 8 n, ys.drop 8, rfl, fun B' h => (Below.refl _ _).setCell h _, World.cell?_setCell_same _ _ _ hc, by rw [World.frozen?_setCell]; exact hf, ?_, hby.drop 8, ?_, by omega, by omega, ?_, ?_⟩
    · rw [← hd]; exact hy.drop _ _ (by omega)
    · simp; omega
    · intro h; rw [wordsOf_cons hne]; rfl
    · simp; omega

set_option maxHeartbeats 400000 in
theorem ptag_any (k0 k1 : Int) (x : Option Addr) (n c : Nat) (ys : List Int) (w : World) (hy : Ints .u8 w w.heap.size x ys) (hby : Bytes ys) (hl : ys.length = n) (hnc : n ≤ c) (hcl : c ≤ 9223372036854775807) :
    Calls Tryd.prog 21 #[.agg #[.int .u64 k0, .int .u64 k1], .slice x n c] w fun e w' => e = .returned (.int .u64 (tagI k0 k1 ys)) ∧ Below w.heap.size w w' := by
  have HL := Lib.hid hl
  clear hl
  have HT : Hid (tagI k0 k1 ys = mxi ((wordsOf ys).foldl mxi (mxi k0 k1)) n) := by rw [← HL.out]; exact rfl
  go_enter Tryd.func21, Tryd.ntmps21
  go_wp2_with (fail)
  refine (pmix_any _ _ _).mono ?_
  rintro e w1 ⟨rfl, hb1⟩
  have hz1 := hb1.size
  simp at hz1 hb1
  have hbw1 : Below w.heap.size w w1 := ((Below.refl _ _).alloc (Nat.le_refl _) _).trans (hb1.mono (by omega))
  go_wp2_with (fail)
  refine (words_any _ _ _ _).mono ?_
  rintro e w2 ⟨rfl, rfl⟩
  go_wp2_with (fail)
  have hb2 : Below w.heap.size w (w1.alloc (Obj.cells #[Value.slice x n c] 36)) := hbw1.alloc (by omega) _
  refine (next_any w1.heap.size x n c ys w.heap.size _ (by simp) (by simp) (hy.below (Nat.le_refl _) hb2) hby HL.out hnc hcl).mono ?_
  rintro e w3 ⟨wv, b, x', n', c', ys', rfl, hb3, hc3, hf3, hy3, hby3, hl3, hnc3, hcl3, hH, hlt⟩
  have HH := Lib.hid (hH (mxi k0 k1))
  clear hH hlt
  have HL3 := Lib.hid hl3
  clear hl3
  have hz3 := (hb3 0 (by omega)).size
  simp at hz3
  have hb3' := hb2.trans (hb3 w.heap.size (by omega))
  go_wp2_with (fail)
  go_loopw [5, 7, 8] (fun h wd ok wr => TagRel w1.heap.size w ((wordsOf ys).foldl mxi (mxi k0 k1)) h wd ok wr) (fun _ _ ok wr => slLen (wr.cell? ⟨w1.heap.size, 0, none⟩) + bNat ok)
  case atStart => exact ⟨x', n', c', ys', mxi k0 k1, wv, b, rfl, rfl, rfl, hc3, hf3, hy3.below (Nat.le_refl _) (hb3 w.heap.size (by omega)), hby3, HL3.out, hnc3, by omega, hb3', by omega, HH.out⟩
  case round =>
    obtain ⟨x, m, d, zs, hv, wv, b, rfl, rfl, rfl, hc, hf, hy, hby, hl, hnc, hcl, hb, hlt, hH⟩ := hrel
    have HHr := Lib.hid hH
    have HLr := Lib.hid hl
    clear hH hl
    cases b with
    | false =>
      go_wp2_with (fail)
      refine (pmix_any _ _ _).mono ?_
      rintro e w4 ⟨rfl, hb4⟩
      go_wp2_with (fail)
      go_ret
      have e1 : hv = (wordsOf ys).foldl mxi (mxi k0 k1) := HHr.out
      have e2 : IntKind.u64.wrap (n : Int) = n := u64_wrap_eq ⟨by omega, by omega⟩
      refine ⟨?_, hb.trans (hb4.mono hb.size)⟩
      rw [HT.out, ← e1]
      first | rfl | rw [e2]
    | true =>
      go_wp2_with (fail)
      refine (pmix_any _ _ _).mono ?_
      rintro e w4 ⟨rfl, hb4⟩
      have hz4 := hb4.size
      go_wp2_with (fail)
      have hbw4 := hb.trans (hb4.mono hb.size)
      refine (next_any w1.heap.size x m d zs w.heap.size w4 (by rw [hb4.cell hlt]; exact hc) (by rw [hb4.frozen hlt]; exact hf) (hy.below hb.size hb4) hby HLr.out hnc hcl).mono ?_
      rintro e w5 ⟨wv5, b5, x5, n5, c5, ys5, rfl, hb5, hc5, hf5, hy5, hby5, hl5, hnc5, hcl5, hH5, hlt5⟩
      have HH5 := Lib.hid (hH5 (mxi hv wv))
      have HL5 := Lib.hid hl5
      have HC := Lib.hid hc
      have HC5 := Lib.hid hc5
      clear hH5 hl5 hc
      have hz5 := (hb5 0 (by omega)).size
      have hbw5 := hbw4.trans (hb5 w.heap.size (by omega))
      go_wp2_with (fail)
      go_roundw
      case rel => exact ⟨x5, n5, c5, ys5, _, wv5, b5, rfl, rfl, rfl, HC5.out, hf5, hy5.below (Nat.le_refl _) (hb5 w.heap.size (by omega)), hby5, HL5.out, hnc5, by omega, hbw5, by omega, by rw [HH5.out]; exact HHr.out⟩
      case measure =>
        rw [HC.out, HC5.out]
        cases b5 <;> simp [slLen, bNat] at hlt5 ⊢ <;> omega

set_option maxHeartbeats 400000 in
theorem pderive_any (k0 k1 : Int) (x : Option Addr) (n c : Nat) (ys : List Int) (w : World) (hy : Ints .u8 w w.heap.size x ys) (hby : Bytes ys) (hl : ys.length = n) (hnc : n ≤ c) (hcl : c ≤ 9223372036854775807) :
    Calls Tryd.prog 18 #[.agg #[.int .u64 k0, .int .u64 k1], .slice x n c] w fun e w' => e = .returned (.agg #[.int .u64 (der0 k0 k1 ys), .int .u64 (der1 k0 k1 ys)]) ∧ Below w.heap.size w w' := by
  have HL := Lib.hid hl
  clear hl
  go_enter Tryd.func18, Tryd.ntmps18
  go_wp2_with (fail)
  have hb0 : Below w.heap.size w ((w.alloc (Obj.cells #[.int .u64 k0, .int .u64 k1] 34)).alloc (Obj.cells #[.int .u64 0, .int .u64 0] 34)) := ((Below.refl _ _).alloc (Nat.le_refl _) _).alloc (by simp) _
  refine (ptag_any k0 k1 x n c ys _ ((hy.below (Nat.le_refl _) hb0).mono (by simp; omega)) hby HL.out hnc hcl).mono ?_
  rintro e w1 ⟨rfl, hb1⟩
  go_wp2_with (fail)
  refine (pmix_any _ _ _).mono ?_
  rintro e w2 ⟨rfl, hb2⟩
  go_wp2_with (fail)
  refine (pmix_any _ _ _).mono ?_
  rintro e w3 ⟨rfl, hb3⟩
  have hb := hb1.trans ((hb2.mono hb1.size).trans (hb3.mono (Nat.le_trans hb1.size hb2.size)))
  have c0 : w3.cell? ⟨w.heap.size + 1, 0, none⟩ = some (.int .u64 0) := by rw [hb.cell (by simp)]; simp
  have c1 : w3.cell? ⟨w.heap.size + 1, 1, none⟩ = some (.int .u64 0) := by rw [hb.cell (by simp)]; simp
  have f0 : w3.frozen? ⟨w.heap.size + 1, 0, none⟩ = false := by rw [hb.frozen (by simp)]; simp
  have f1 : w3.frozen? ⟨w.heap.size + 1, 1, none⟩ = false := by rw [hb.frozen (by simp)]; simp
  have hz := hb.size
  simp at hz
  go_wp2_with (fail)
  refine bodyPost_ret (v := .agg #[.int .u64 (der0 k0 k1 ys), .int .u64 (der1 k0 k1 ys)]) ?_ rfl ⟨rfl, ?_⟩
  · simp [results, Tryd.results18, go_sem, c0, c1]
    exact ⟨rfl, rfl⟩
  · exact ((hb0.trans (hb.mono (by simp; omega))).setCell (by simp) _).setCell (by simp) _

/-! ### '==' of two keys -/
theorem underKey : Tryd.prog.underlying 34 = some (.array 2 24) := by kernel_rfl
theorem infoU64 : ∃ i, Tryd.prog.info? 24 = some i := by
  have : (Tryd.prog.info? 24).isSome = true := by kernel_rfl
  exact Option.isSome_iff_exists.mp this
theorem cellsU64 : Tryd.prog.cellsOf 24 = 1 := by kernel_rfl
theorem key_eqm (m : Nat) (a b c d : Int) (w : World) : Sem.run Tryd.prog (Op.equalIn (m + 2) 34 (.agg #[.int .u64 a, .int .u64 b]) (.agg #[.int .u64 c, .int .u64 d])) w = .ok (a == c && b == d) w := by
  obtain ⟨i, hi⟩ := infoU64
  rw [run_equalIn_array w (m + 1) _ _ underKey hi]
  simp [Op.eqItems, go_sem, List.range, List.range.loop, cellsU64]
  by_cases h1 : a = c <;> by_cases h2 : b = d <;> simp [h1, h2]
@[go_sem] theorem key_eq (a b c d : Int) (w : World) : Sem.run Tryd.prog (Op.equalIn 10000 34 (.agg #[.int .u64 a, .int .u64 b]) (.agg #[.int .u64 c, .int .u64 d])) w = .ok (a == c && b == d) w := key_eqm 9998 a b c d w
end Go.Proofs.YtmhgoknbmbicmaaDoor
