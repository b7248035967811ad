/- slices.Grow of nil, and slices.Concat of two lists of events. -/
import Derived.Test.YthegjpkbgdkplaaPortOpen
import Derived.Laws.AppendOwnNone
import Derived.Lib.AppendZeros
namespace Go.Proofs.Ythegjpkbgdkplaa
open Go.RowKit
set_option linter.unusedVariables false
set_option linter.unusedSimpArgs false

def evCells (zs : List (Int × Bool)) : List Value := zs.flatMap fun z => [.int .i64 z.1, .bool z.2]
theorem evCells_len (zs : List (Int × Bool)) : (evCells zs).length = zs.length * 2 := by
  induction zs with
  | nil => rfl
  | cons a r ih => simp only [evCells, List.flatMap_cons, List.length_append] at ih ⊢; simp [ih]; omega
theorem evCells_append (a b : List (Int × Bool)) : evCells (a ++ b) = evCells a ++ evCells b := by simp [evCells]
theorem evCells_at : ∀ (zs : List (Int × Bool)) (i : Nat), i < zs.length → (evCells zs)[i * 2]? = some (.int .i64 (zs.getD i (0, false)).1) ∧ (evCells zs)[i * 2 + 1]? = some (.bool (zs.getD i (0, false)).2)
  | [], i, h => by simp at h
  | a :: r, 0, _ => by simp [evCells]
  | a :: r, i + 1, h => by
    have ih := evCells_at r i (by simpa using h)
    have e : evCells (a :: r) = [.int .i64 a.1, .bool a.2] ++ evCells r := by simp [evCells]
    rw [e, List.getElem?_append_right (by simp; omega), List.getElem?_append_right (by simp; omega)]
    simp only [List.length_cons, List.length_nil, List.getD_cons_succ]
    rw [show (i + 1) * 2 - (0 + 1 + 1) = i * 2 by omega, show (i + 1) * 2 + 1 - (0 + 1 + 1) = i * 2 + 1 by omega]
    exact ih
theorem evCells_one (zs : List (Int × Bool)) : ∀ u ∈ evCells zs, u.oneCell' = true := by
  intro u hu
  obtain ⟨z, _, h⟩ := List.mem_flatMap.1 hu
  simp at h
  rcases h with rfl | rfl <;> rfl

theorem infoEv : (Try.prog.info? 32).map (fun i => (i.zero, i.size, i.bytes)) = some (some (.agg #[.int .i64 0, .bool false]), 2, 16) := by kernel_rfl

/-- an append whose run is known -/
theorem wpList_append_run {P : Program} {w : World} {ops : Array Oper} {rest : List Oper} {o : Oper} {a : Act} {Q : Exit → Act → World → Prop} (hg : o.guard = none) (s x : Operand) (t u : TypeId)
    (hop : o.op = Op.call { callee := Callee.builtin Builtin.append, args := #[s, x], argTypes := #[t, u] }) (vs vx v' : Value) (w' : World) (hs : a.eval s = vs) (hx : a.eval x = vx)
    (hrun : (Builtin.append_ #[t, u] o.type #[vs, vx]).run P w = .ok v' w') (hK : wpList P ops Q rest (a.put o.dst v') w') : wpList P ops Q (o :: rest) a w := by
  refine wpList_plain hg fun K hK' => ?_
  unfold Oper.wp
  simp [execOp, hop, resolve, invoke, builtin, hs, hx, hrun, Result.andThen]
  exact hK' _ _ hK

set_option maxHeartbeats 1000000 in
theorem grow_any (k : Nat) (hk : k ≤ 1000) (w : World) :
    Calls Try.prog 30 #[.slice none 0 0, .int .i64 k] w fun e w' => ∃ v, e = .returned v ∧ w'.ownsRow w.heap.size 32 2 v 0 [] ∧ Below w.heap.size w w' := by
  by_cases h0 : 0 < k
  · obtain ⟨i0, hi, hz0, hz1, hz2⟩ := info_parts infoEv
    have hrun := Lib.run_append_nil_zeros w 27 3 27 32 i0 _ .i64 .i64 Try.underlying27 Try.underlying3 hi hz0 k h0 (by rw [hz1]; omega) (by omega) (by rw [hz2]; omega)
    have hcap := grownCap_le_maxLen w k 0 32 (by unfold maxLen; omega)
    have hge := grownCap_ge w k 0 32
    obtain ⟨cap, hcp⟩ : ∃ cap, grownCap w k 0 32 = cap := ⟨_, rfl⟩
    rw [hcp] at hrun hcap hge
    obtain ⟨cur, hcur⟩ : ∃ cur, Builtin.zeroCells (Value.agg #[.int .i64 0, .bool false]).cells k ++ Builtin.zeroCells (Value.agg #[.int .i64 0, .bool false]).cells (cap - k) = cur := ⟨_, rfl⟩
    have hsz : cur.size = cap * 2 := by
      rw [← hcur, Array.size_append, size_zeroCells, size_zeroCells]
      show k * 2 + (cap - k) * 2 = cap * 2
      omega
    rw [hcur] at hrun
    have hc2 : cap ≤ 9223372036854775807 := by unfold maxLen at hcap; exact hcap
    have HSZ := Lib.hid hsz
    clear hcur hcp hsz
    go_enter Try.func30, Try.ntmps30
    go_wp2_with (at_builtin; refine wpList_append_run rfl (.tmp 20) (.tmp 21) 27 3 rfl (.slice none 0 0) (.int .i64 k) _ _ rfl rfl hrun ?_)
    go_ret
    exact ⟨_, rfl, World.ownsRow_made w.drew cur cap (Nat.le_refl _) hcap HSZ.out, (Below.refl _ _).drew.alloc (Nat.le_refl _) _⟩
  · obtain rfl : k = 0 := by omega
    go_enter Try.func30, Try.ntmps30
    go_wp2_with (fail)
    go_ret
    exact ⟨_, rfl, World.ownsRow_nil _ _ _ _, Below.refl _ _⟩

theorem Evs.grown {w w' : World} {B : Nat} {x : Option Addr} {zs : List (Int × Bool)} {row : Option Nat} (h : Evs w B x zs) (hg : w.grownBy w' row) (hr : ∀ g, row = some g → B ≤ g) : Evs w' B x zs := by
  intro i hi
  obtain ⟨a, h1, h2, h3, h4⟩ := h i hi
  refine ⟨a, h1, h2, hg.cell h3 ?_, hg.cell h4 ?_⟩
  · intro e; have := hr _ e.symm; rw [add_block] at this; omega
  · intro e; have := hr _ e.symm; simp only [add_block] at this; omega

/-- the cells of a list of events, one after the other -/
theorem Evs.cells {w : World} {B : Nat} {ad : Addr} {zs : List (Int × Bool)} (h : Evs w B (some ad) zs) : ∀ j u, (evCells zs)[j]? = some u → w.cell? (ad.add j) = some u := by
  intro j u hu
  have hj : j < zs.length * 2 := by
    have := (List.getElem?_eq_some_iff.1 hu).1
    rwa [evCells_len] at this
  obtain ⟨a, e, _, h3, h4⟩ := h (j / 2) (by omega)
  obtain rfl := Option.some.inj e
  obtain ⟨g0, g1⟩ := evCells_at zs (j / 2) (by omega)
  rcases (show j = j / 2 * 2 ∨ j = j / 2 * 2 + 1 by omega) with hj2 | hj2
  · rw [← hj2] at g0 h3
    rw [h3, ← hu, g0]
  · rw [← hj2] at g1
    rw [← hu, g1, ← h4]
    congr 1
    generalize j / 2 = q at *
    subst hj2
    unfold Addr.add
    by_cases h0 : q * 2 = 0
    · rw [if_pos h0, if_neg (by omega), h0]
    · rw [if_neg h0, if_neg (by omega)]; simp [Nat.add_assoc]

theorem owns_evs {w : World} {base : Nat} {e : TypeId} {v : Value} {n : Nat} {zs : List (Int × Bool)} (h : w.ownsRow base e 2 v n (evCells zs)) :
    ∃ (x : Option Addr) (c : Nat), v = .slice x n c ∧ Evs w w.heap.size x zs ∧ zs.length = n ∧ n ≤ c ∧ c ≤ 9223372036854775807 := by
  have hlen : zs.length = n := by have := h.1; rw [evCells_len] at this; omega
  have h0 := h
  obtain ⟨_, h2⟩ := h
  rcases h2 with ⟨rfl, rfl⟩ | ⟨g, cap, cur, rfl, hg, hh, hn, hcap, hsz, htake⟩
  · obtain rfl : zs = [] := List.eq_nil_of_length_eq_zero hlen
    exact ⟨none, 0, rfl, Evs.nil _ _ _, rfl, Nat.le_refl _, by omega⟩
  · refine ⟨some ⟨g, 0, none⟩, cap, rfl, ?_, hlen, hn, by unfold maxLen at hcap; exact hcap⟩
    intro i hi
    obtain ⟨g0, g1⟩ := evCells_at zs i hi
    refine ⟨_, rfl, (h0.lt g rfl).2, h0.cells (g := g) rfl _ _ g0, ?_⟩
    have := h0.cells (g := g) rfl _ _ g1
    rw [← this]
    congr 1
    unfold Addr.add
    by_cases h0 : i * 2 = 0
    · rw [if_pos h0, if_neg (by omega), h0]
    · rw [if_neg h0, if_neg (by omega)]; simp

theorem wpList_append_evs {P : Program} {w : World} {ops : Array Oper} {rest : List Oper} {o : Oper} {a : Act} {Q : Exit → Act → World → Prop} (hgd : o.guard = none) (s x : Operand) (t : TypeId)
    (ho : o.op = .call { callee := .builtin .append, args := #[s, x], argTypes := #[t, t] })
    (base : Nat) (e : TypeId) (i : TypeInfo) (z : Value) (ht : P.underlying t = some (.slice e)) (hi : P.info? e = some i) (hz : i.zero = some z)
    (hsize : i.size = 2) (hby : i.bytes = 16) (hzs : z.cells.size = 2)
    (v : Value) (n : Nat) (xs : List Value) (hs : a.eval s = v) (hown : w.ownsRow base e 2 v n xs)
    (B : Nat) (xo : Option Addr) (m c : Nat) (ys : List (Int × Bool)) (hx : a.eval x = .slice xo m c) (hnil : xo = none → m = 0 ∧ c = 0) (hy : Evs w B xo ys) (hl : ys.length = m)
    (h63 : n + m ≤ 100000) (hbase : base ≤ w.heap.size)
    (h : ∀ v' w', w'.ownsRow base e 2 v' (n + m) (xs ++ evCells ys) → w.grownBy w' v.ownBlock → wpList P ops Q rest (a.put o.dst v') w') : wpList P ops Q (o :: rest) a w := by
  cases xo with
  | none =>
    obtain ⟨rfl, rfl⟩ := hnil rfl
    obtain rfl : ys = [] := List.eq_nil_of_length_eq_zero hl
    exact wpList_append_own_none hgd s x t ho base e i 2 ht hi v n xs hs hown hx (h v w (by simpa [evCells] using hown) (World.grownBy.refl _ _))
  | some ad =>
    exact wpList_append_own w hgd s x t ho base e i z 2 16 ht hi hz hsize hby hzs (by omega) v n xs hs hown ad m c (evCells ys) hx (by rw [evCells_len, hl]) hy.cells (evCells_one ys) (by unfold maxLen; omega) (by omega) hbase fun v' w' h1 h2 _ => h v' w' h1 h2

def catTot (n m : Nat) : Nat → Nat
  | 0 => 0
  | 1 => n
  | _ => n + m
def catPart (zs ys : List (Int × Bool)) : Nat → List (Int × Bool)
  | 0 => []
  | 1 => zs
  | _ => zs ++ ys
def CatRel (w : World) (zs ys : List (Int × Bool)) (n m k : Nat) (v : Value) (wr : World) : Prop :=
  wr.ownsRow w.heap.size 32 2 v (catTot n m k) (evCells (catPart zs ys k)) ∧ Below w.heap.size w wr

set_option maxHeartbeats 1000000 in
theorem concat_any (B : Nat) (x y : Option Addr) (n m c d : Nat) (zs ys : List (Int × Bool)) (w : World) (c0 : w.cell? ⟨B, 0, none⟩ = some (.slice x n c)) (c1 : w.cell? ⟨B, 1, none⟩ = some (.slice y m d))
    (hz : Evs w w.heap.size x zs) (hy : Evs w w.heap.size y ys) (hlz : zs.length = n) (hly : ys.length = m) (hn : n ≤ 300) (hm : m ≤ 300) (hxn : x = none → n = 0 ∧ c = 0) (hyn : y = none → m = 0 ∧ d = 0) :
    Calls Try.prog 22 #[.slice (some ⟨B, 0, none⟩) 2 2] w fun e w' => ∃ v, e = .returned v ∧ w'.ownsRow w.heap.size 32 2 v (n + m) (evCells (zs ++ ys)) ∧ Below w.heap.size w w' := by
  have HLZ := Lib.hid hlz
  have HLY := Lib.hid hly
  have hB := World.block_lt_of_cell? w _ c0
  simp at hB
  obtain ⟨i0, hi, hz0, hz1, hz2⟩ := info_parts infoEv
  clear hlz hly
  go_enter Try.func22, Try.ntmps22
  go_wp2_with (fail)
  go_loop [3, 5, 11] (fun sz p i => ∃ k : Nat, k ≤ 2 ∧ i = .int .i64 k ∧ sz = .int .i64 (if k = 0 then 0 else if k = 1 then (n : Int) else (n : Int) + m)) (fun _ _ i => 2 - (intOf i).toNat)
  case atStart => exact ⟨0, by omega, rfl, rfl⟩
  case round =>
    obtain ⟨k, hk, rfl, rfl⟩ := hrel
    rcases (show k = 0 ∨ k = 1 ∨ k = 2 by omega) with rfl | rfl | rfl
    · go_wp2_with (fail)
      go_round
      case rel => exact ⟨1, by omega, by go_num, by simp⟩
      case measure => simp [intOf]
    · go_wp2_with (fail)
      go_round
      case rel => exact ⟨2, by omega, by go_num, by simp⟩
      case measure => simp [intOf]
    · go_wp2_with (fail)
      have C := grow_any (n + m) (by omega) w
      rw [Int.natCast_add] at C
      refine C.mono ?_
      rintro en w1 ⟨v, rfl, hown, hb⟩
      clear C
      go_wp2_with (fail)
      go_loopw [6, 8, 27] (fun v p i wr => ∃ k : Nat, k ≤ 2 ∧ i = .int .i64 k ∧ CatRel w zs ys n m k v wr) (fun _ _ i _ => 2 - (intOf i).toNat)
      case atStart => exact ⟨0, by omega, rfl, hown, hb⟩
      case round =>
        obtain ⟨k, hk, rfl, hown, hb⟩ := hrel
        have hsz := hb.size
        have hlt := hown.lt
        rw [← hb.cell (by exact hB)] at c0 c1
        have hz1' := hz.below (Nat.le_refl _) hb
        have hy1' := hy.below (Nat.le_refl _) hb
        rcases (show k = 0 ∨ k = 1 ∨ k = 2 by omega) with rfl | rfl | rfl
        · go_wp2_with (at_builtin; refine wpList_append_evs rfl (.tmp 31) (.tmp 32) 27 rfl w.heap.size 32 i0 _ Try.underlying27 hi hz0 hz1 hz2 rfl u6 0 [] rfl hown w.heap.size x n c zs rfl hxn hz1' HLZ.out (by omega) (by omega) ?_; intro v' w2 hown2 hgrow)
          go_roundw
          case rel => exact ⟨1, by omega, by go_num, by simp at hown2; exact hown2, hb.grown hgrow hsz (fun g hg => (hlt g hg).1)⟩
          case measure => simp [intOf]
        · go_wp2_with (at_builtin; refine wpList_append_evs rfl (.tmp 31) (.tmp 32) 27 rfl w.heap.size 32 i0 _ Try.underlying27 hi hz0 hz1 hz2 rfl u6 n (evCells zs) rfl hown w.heap.size y m d ys rfl hyn hy1' HLY.out (by omega) (by omega) ?_; intro v' w2 hown2 hgrow)
          go_roundw
          case rel => exact ⟨2, by omega, by go_num, by rw [← evCells_append] at hown2; exact hown2, hb.grown hgrow hsz (fun g hg => (hlt g hg).1)⟩
          case measure => simp [intOf]
        · go_wp2_with (fail)
          go_ret
          exact ⟨_, rfl, hown, hb⟩
end Go.Proofs.Ythegjpkbgdkplaa
