/- Appending numbers to a slice that the call itself made; alike. -/
import Derived.Test.YtmhgoknbmbicmaaDoorChainV
import Derived.Laws.AppendOwnNone
namespace Go.Proofs.YtmhgoknbmbicmaaDoor
open Go.RowKit
set_option linter.unusedVariables false
set_option linter.unusedSimpArgs false

theorem Ints.one (k : IntKind) (w : World) (t : Int) (e : TypeId) : Ints k (w.alloc (.cells #[.int k t] e)) (w.heap.size + 1) (some ⟨w.heap.size, 0, none⟩) [t] := by
  intro i hi
  obtain rfl : i = 0 := by simpa using hi
  exact ⟨_, rfl, by simp, by simp [Addr.add]⟩

theorem Ints.grown {k : IntKind} {w w' : World} {B : Nat} {x : Option Addr} {ys : List Int} {row : Option Nat} (h : Ints k w B x ys) (hg : w.grownBy w' row) (hr : ∀ g, row = some g → B ≤ g) : Ints k w' B x ys := by
  intro i hi
  obtain ⟨a, h1, h2, h3⟩ := h i hi
  refine ⟨a, h1, h2, hg.cell h3 ?_⟩
  intro e
  have := hr _ e.symm
  unfold Addr.add at this
  split at this <;> first | omega | (simp at this; omega)

theorem wpList_append_ints {P : Program} {w : World} {ops : Array Oper} {rest : List Oper} {o : Oper} {a : Act} {Q : Exit → Act → World → Prop} (hgd : o.guard = none) (s x : Operand) (t : TypeId)
    (ho : o.op = .call { callee := .builtin .append, args := #[s, x], argTypes := #[t, t] })
    (base : Nat) (e : TypeId) (i : TypeInfo) (z : Value) (bytes : Nat) (ht : P.underlying t = some (.slice e)) (hi : P.info? e = some i) (hz : i.zero = some z)
    (hsize : i.size = 1) (hby : i.bytes = bytes) (hzs : z.cells.size = 1)
    (v : Value) (n : Nat) (xs : List Value) (hs : a.eval s = v) (hown : w.ownsRow base e 1 v n xs)
    (k : IntKind) (B : Nat) (xo : Option Addr) (m c : Nat) (ys : List Int) (hx : a.eval x = .slice xo m c) (hnil : xo = none → m = 0 ∧ c = 0) (hy : Ints k w B xo ys) (hl : ys.length = m)
    (h63 : n + m ≤ 9223372036854775807) (hbytes : (n + m) * bytes ≤ 140737488355328) (hbase : base ≤ w.heap.size)
    (h : ∀ v' w', w'.ownsRow base e 1 v' (n + m) (xs ++ ys.map (Value.int k)) → w.grownBy w' v.ownBlock → wpList P ops Q rest (a.put o.dst v') w') : wpList P ops Q (o :: rest) a w := by
  cases xo with
  | none =>
    obtain ⟨rfl, rfl⟩ := hnil rfl
    obtain rfl : ys = [] := List.eq_nil_of_length_eq_zero hl
    exact wpList_append_own_none hgd s x t ho base e i 1 ht hi v n xs hs hown hx (h v w (by simpa using hown) (World.grownBy.refl _ _))
  | some ad =>
    refine wpList_append_own w hgd s x t ho base e i z 1 bytes ht hi hz hsize hby hzs (by omega) v n xs hs hown ad m c (ys.map (Value.int k)) hx (by simp [hl]) ?_ (ints_oneCell k ys) (by unfold maxLen; omega) hbytes hbase fun v' w' h1 h2 _ => h v' w' h1 h2
    intro j u hu
    have hj : j < ys.length := by simpa using (List.getElem?_eq_some_iff.1 hu).1
    obtain ⟨a', e1, _, e3⟩ := hy j hj
    obtain rfl := Option.some.inj e1
    rw [e3, ← hu]
    simp [List.getD_eq_getElem?_getD, List.getElem?_eq_getElem hj]

theorem twoc_step {w w' : World} {B C G o1 o2 : Nat} {x1 x2 : Value} (hb : Below B w w') (hC : C < B) (hG : G < B) (h : w.cell? ⟨C, o1, none⟩ = some x1 ∧ w.cell? ⟨G, o2, none⟩ = some x2) :
    w'.cell? ⟨C, o1, none⟩ = some x1 ∧ w'.cell? ⟨G, o2, none⟩ = some x2 := ⟨by rw [hb.cell (by exact hC)]; exact h.1, by rw [hb.cell (by exact hG)]; exact h.2⟩
/-- two byte strings of two rows are alike -/
def AlikeAt (w : World) (x1 x2 : Option Addr) (j : Nat) : Prop := ∃ (ga gb : Nat) (p1 p2 : Option Addr) (c1 c2 n : Nat) (b : List Int), x1 = some ⟨ga, 0, none⟩ ∧ x2 = some ⟨gb, 0, none⟩ ∧ ga < w.heap.size ∧ gb < w.heap.size ∧
  w.cell? ⟨ga, j, none⟩ = some (.slice p1 n c1) ∧ w.cell? ⟨gb, j, none⟩ = some (.slice p2 n c2) ∧ Ints .u8 w w.heap.size p1 b ∧ Ints .u8 w w.heap.size p2 b ∧ b.length = n ∧ n ≤ 1000000

set_option maxHeartbeats 2000000 in
theorem alike_true (x1 x2 : Option Addr) (n c1 c2 : Nat) (w : World) (hA : ∀ j, j < n → AlikeAt w x1 x2 j) (hn : n ≤ 1000) :
    Calls Tryd.prog 25 #[.slice x1 n c1, .slice x2 n c2] w fun e w' => e = .returned (.bool true) ∧ Below w.heap.size w w' := by
  have HA := Lib.hid hA
  clear hA
  go_enter Tryd.func25, Tryd.ntmps25
  go_wp2_with (fail)
  go_loopw [5] (fun ki wr => Below w.heap.size w wr ∧ ∃ k : Nat, k ≤ n ∧ ki = .int .i64 k) (fun ki _ => n - (intOf ki).toNat)
  case atStart => exact ⟨Below.refl _ _, 0, by omega, rfl⟩
  case round =>
    obtain ⟨hb, k, hk, rfl⟩ := hrel
    by_cases hlt : k < n
    · obtain ⟨ga, gb, p1, p2, d1, d2, m, b, rfl, rfl, l1, l2, e1, e2, i1, i2, hm, hm2⟩ := HA.out k hlt
      have hsz := hb.size
      have hga : ga < wr.drew.heap.size := by simp; omega
      have hgb : gb < wr.drew.heap.size := by simp; omega
      have hS : wr.drew.cell? ⟨ga, k, none⟩ = some (.slice p1 m d1) ∧ wr.drew.cell? ⟨gb, k, none⟩ = some (.slice p2 m d2) := twoc_step hb.drew l1 l2 ⟨e1, e2⟩
      have HE := Lib.hid (equal_true p1 p2 m d1 d2 b wr.drew (i1.below' hb.drew hb.drew.size) (i2.below' hb.drew hb.drew.size) hm hm2)
      have HBD := Lib.hid hb.drew
      clear e1 e2 i1 i2 hb
      go_wp2_with (fail)
      go_region_held_law (fun w' => w'.cell? ⟨ga, k, none⟩ = some (.slice p1 m d1) ∧ w'.cell? ⟨gb, k, none⟩ = some (.slice p2 m d2))
        (first | exact hS | assumption)
        ((first | (go_at_call 32; refine HE.out.mono ?_; rintro e w2 ⟨rfl, hb2⟩; have hS2 := twoc_step hb2 hga hgb hS; have hbw2 := HBD.out.trans (hb2.mono HBD.out.size))))
      all_goals
        go_wp2_with (fail)
        go_roundw
        case rel => exact ⟨hbw2, k + 1, by omega, by go_num⟩
        case measure => simp [intOf]; omega
    · obtain rfl : k = n := by omega
      go_wp2_with (fail)
      go_ret
      exact ⟨rfl, hb⟩
end Go.Proofs.YtmhgoknbmbicmaaDoor
