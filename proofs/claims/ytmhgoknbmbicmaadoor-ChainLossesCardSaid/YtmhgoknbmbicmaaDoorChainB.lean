/- What chain.Make returns: the keys of a chain. -/
import Derived.Test.YtmhgoknbmbicmaaDoorChainA
namespace Go.Proofs.YtmhgoknbmbicmaaDoor
open Go.RowKit
set_option linter.unusedVariables false
set_option linter.unusedSimpArgs false

/-- the key n, and those below it -/
noncomputable def topKey (seed n : Int) : Int × Int := (mxi seed n, mxi seed (n + 4294967296))
noncomputable def downN : Nat → Int × Int → Int × Int
  | 0, k => k
  | m + 1, k => downN m (belowI k)
theorem downN_succ (m : Nat) (k : Int × Int) : downN (m + 1) k = belowI (downN m k) := by
  induction m generalizing k with
  | zero => rfl
  | succ m ih => exact ih (belowI k)
/-- key i of the chain of n -/
noncomputable def keyI (seed : Int) (n i : Nat) : Int × Int := downN (n - i) (topKey seed n)
theorem keyI_below (seed : Int) (n i : Nat) (h : i < n) : keyI seed n i = belowI (keyI seed n (i + 1)) := by
  unfold keyI
  rw [show n - i = (n - (i + 1)) + 1 by omega, downN_succ]
theorem keyI_u64 (seed : Int) (n i : Nat) : isU64 (keyI seed n i) := by
  unfold keyI
  cases h : n - i with
  | zero => exact ⟨mxi_u64 _ _, mxi_u64 _ _⟩
  | succ m => rw [downN_succ]; exact below_u64 _

/-- some keys lie in a row, in a block below B -/
def Keys (w : World) (B : Nat) (a : Addr) (n : Nat) (K : Nat → Int × Int) : Prop :=
  a.block < B ∧ ∀ i, i < n → w.cell? ⟨a.block, a.off + i * 2, none⟩ = some (.int .u64 (K i).1) ∧ w.cell? ⟨a.block, a.off + i * 2 + 1, none⟩ = some (.int .u64 (K i).2)
theorem Keys.below {w w' : World} {B B' : Nat} {a : Addr} {n : Nat} {K : Nat → Int × Int} (h : Keys w B a n K) (hB : B ≤ B') (hb : Below B' w w') : Keys w' B a n K := by
  obtain ⟨h0, h1⟩ := h
  refine ⟨h0, fun i hi => ?_⟩
  obtain ⟨c0, c1⟩ := h1 i hi
  exact ⟨by rw [hb.cell (by show a.block < _; omega)]; exact c0, by rw [hb.cell (by show a.block < _; omega)]; exact c1⟩

theorem infoKey : (Tryd.prog.info? 34).map (fun i => (i.zero, i.size, i.bytes)) = some (some (.agg #[.int .u64 0, .int .u64 0]), 2, 16) := by kernel_rfl

/-- n cells are there in a block, and may be written -/
def There (w : World) (g n : Nat) : Prop := ∀ j, j < n → (∃ v, w.cell? ⟨g, j, none⟩ = some v) ∧ w.frozen? ⟨g, j, none⟩ = false
theorem There.below {w w' : World} {g n : Nat} (h : There w g n) (hb : Below w.heap.size w w') (hg : g < w.heap.size) : There w' g n := by
  intro j hj
  obtain ⟨⟨v, hv⟩, hf⟩ := h j hj
  exact ⟨⟨v, by rw [hb.cell (by exact hg)]; exact hv⟩, by rw [hb.frozen (by exact hg)]; exact hf⟩
theorem There.setCell {w : World} {g n : Nat} (h : There w g n) (p : Addr) (u : Value) : There (w.setCell p u) g n := by
  intro j hj
  obtain ⟨⟨v, hv⟩, hf⟩ := h j hj
  refine ⟨?_, by rw [World.frozen?_setCell]; exact hf⟩
  by_cases he : p = ⟨g, j, none⟩
  · subst he; exact ⟨u, World.cell?_setCell_same _ _ _ hv⟩
  · exact ⟨v, by rw [World.cell?_setCell_other _ _ _ _ he]; exact hv⟩
theorem own_there {w : World} {base : Nat} {e : TypeId} {size : Nat} {n : Nat} {xs : List Value} {v : Value} (h : w.ownsRow base e size v n xs) {g : Nat} (hg : v.ownBlock = some g) : There w g (n * size) := by
  obtain ⟨_, h2⟩ := h
  rcases h2 with ⟨rfl, rfl⟩ | ⟨g', cap, cur, rfl, hb, hh, hn, hcap, hsz, htake⟩
  · simp [Value.ownBlock] at hg
  · simp [Value.ownBlock] at hg
    subst hg
    intro j hj
    have hj2 : j < cur.size := by rw [hsz]; exact Nat.lt_of_lt_of_le hj (Nat.mul_le_mul_right _ hn)
    refine ⟨⟨cur[j], ?_⟩, ?_⟩
    · rw [cell_of_row w g' j cur e (0, 0) hh]; simp [hj2]
    · simp [World.frozen?, hh]

/-- outside the bounds nothing is made -/
theorem make_none (seed n : Int) (w : World) (h : n < 1 ∨ 64 < n) :
    Calls Tryd.prog 13 #[.int .u64 seed, .int .i64 n] w fun e w' => e = .returned (.slice none 0 0) ∧ w = w' := by
  rcases h with h | h
  · go_enter Tryd.func13, Tryd.ntmps13
    go_wp2_with (fail)
    go_ret
    exact ⟨rfl, rfl⟩
  · have h' : ¬ n < 1 := by omega
    go_enter Tryd.func13, Tryd.ntmps13
    go_wp2_with (fail)
    go_ret
    exact ⟨rfl, rfl⟩

/-- what holds ahead of each round of Make's loop: the keys from m on are laid -/
def MakeRel (w : World) (g n : Nat) (K : Nat → Int × Int) (m : Nat) (wr : World) : Prop :=
  (∀ j, m ≤ j → j ≤ n → wr.cell? ⟨g, j * 2, none⟩ = some (.int .u64 (K j).1) ∧ wr.cell? ⟨g, j * 2 + 1, none⟩ = some (.int .u64 (K j).2)) ∧ There wr g ((n + 1) * 2) ∧ g < wr.heap.size ∧ Below w.heap.size w wr

theorem put_key {w : World} {g n m : Nat} {K : Nat → Int × Int} {u v : Value} {a b : Int} (h : ∀ j, m < j → j ≤ n → w.cell? ⟨g, j * 2, none⟩ = some (.int .u64 (K j).1) ∧ w.cell? ⟨g, j * 2 + 1, none⟩ = some (.int .u64 (K j).2))
    (h0 : w.cell? ⟨g, m * 2, none⟩ = some u) (h1 : w.cell? ⟨g, m * 2 + 1, none⟩ = some v) (ha : a = (K m).1) (hb : b = (K m).2) :
    ∀ j, m ≤ j → j ≤ n → ((w.setCell ⟨g, m * 2, none⟩ (.int .u64 a)).setCell ⟨g, m * 2 + 1, none⟩ (.int .u64 b)).cell? ⟨g, j * 2, none⟩ = some (.int .u64 (K j).1) ∧
      ((w.setCell ⟨g, m * 2, none⟩ (.int .u64 a)).setCell ⟨g, m * 2 + 1, none⟩ (.int .u64 b)).cell? ⟨g, j * 2 + 1, none⟩ = some (.int .u64 (K j).2) := by
  intro j h2 h3
  by_cases hj : j = m
  · subst hj
    refine ⟨?_, ?_⟩
    · rw [World.cell?_setCell_other _ _ _ _ (by simp), World.cell?_setCell_same _ _ _ h0, ha]
    · rw [World.cell?_setCell_same (u := v) _ _ _ (by rw [World.cell?_setCell_other _ _ _ _ (by simp)]; exact h1), hb]
  · obtain ⟨q0, q1⟩ := h j (by omega) h3
    refine ⟨?_, ?_⟩
    · rw [World.cell?_setCell_other _ _ _ _ (by simp <;> omega), World.cell?_setCell_other _ _ _ _ (by simp <;> omega)]; exact q0
    · rw [World.cell?_setCell_other _ _ _ _ (by simp <;> omega), World.cell?_setCell_other _ _ _ _ (by simp <;> omega)]; exact q1

set_option maxHeartbeats 2000000 in
theorem make_some (seed : Int) (n : Nat) (w : World) (h1 : 1 ≤ n) (h2 : n ≤ 64) :
    Calls Tryd.prog 13 #[.int .u64 seed, .int .i64 n] w fun e w' => ∃ g : Nat, e = .returned (.slice (some ⟨g, 0, none⟩) (n + 1) (n + 1)) ∧ w.heap.size ≤ g ∧ Keys w' w'.heap.size ⟨g, 0, none⟩ (n + 1) (keyI seed n) ∧ Below w.heap.size w w' := by
  obtain ⟨i0, hi, hz0, hz1, hz2⟩ := info_parts infoKey
  have d1 : ¬ (n : Int) < 1 := by omega
  go_enter Tryd.func13, Tryd.ntmps13
  go_wp2_with (at_make; refine wpList_make_full w rfl (.tmp 14) (.tmp 14) 28 rfl w.heap.size 34 i0 _ 2 Tryd.underlying28 hi hz0 hz1 .i64 .i64 _ _ (n + 1) rfl rfl (by omega) (by omega) (by rw [hz2]; omega) (by unfold maxLen; omega) (Nat.le_refl _) ?_; intro w1 hown hgrow)
  have hb1 : Below w.heap.size w w1 := (Below.refl _ _).grown hgrow (Nat.le_refl _) (fun k hk => by cases hk)
  have hlt := (hown.lt w.heap.size rfl).2
  have hth := own_there hown (g := w.heap.size) rfl
  clear hown hgrow
  refine (pmix_any _ _ _).mono ?_
  rintro e w2 ⟨rfl, hb2⟩
  have hth := hth.below hb2 hlt
  have hlt := Nat.lt_of_lt_of_le hlt hb2.size
  have hb2 := hb1.trans (hb2.mono hb1.size)
  go_wp2_with (fail)
  refine (pmix_any _ _ _).mono ?_
  rintro e w3 ⟨rfl, hb3⟩
  have hth := hth.below hb3 hlt
  have hlt := Nat.lt_of_lt_of_le hlt hb3.size
  have hb3 := hb2.trans (hb3.mono hb2.size)
  clear hb1 hb2
  obtain ⟨⟨a0, ha0⟩, f0⟩ := hth (n * 2) (by omega)
  obtain ⟨⟨a1, ha1⟩, f1⟩ := hth (n * 2 + 1) (by omega)
  go_wp2_with (fail)
  have hu64 : IntKind.u64.wrap (n : Int) = n := u64_wrap_eq ⟨by omega, by omega⟩
  have hr0 : MakeRel w w.heap.size n (keyI seed n) n ((w3.setCell ⟨w.heap.size, n * 2, none⟩ (.int .u64 (mxi seed n))).setCell ⟨w.heap.size, n * 2 + 1, none⟩ (.int .u64 (mxi seed (n + 4294967296)))) := by
    refine ⟨?_, (hth.setCell _ _).setCell _ _, by simpa using hlt, (hb3.setCell (Nat.le_refl _) _).setCell (Nat.le_refl _) _⟩
    refine put_key (fun j h1 h2 => by omega) ha0 ha1 (by unfold keyI; rw [Nat.sub_self]; rfl) (by unfold keyI; rw [Nat.sub_self]; rfl)
  clear hu64
  go_loopw [6] (fun i wr => ∃ m : Nat, m ≤ n ∧ i = .int .i64 m ∧ MakeRel w w.heap.size n (keyI seed n) m wr) (fun i _ => (intOf i).toNat)
  case atStart => exact ⟨n, Nat.le_refl _, rfl, hr0⟩
  case round =>
    obtain ⟨i, hin, rfl, hk, hth, hlt, hb⟩ := hrel
    clear hr0 ha0 ha1 f0 f1
    cases i with
    | zero =>
      go_wp2_with (fail)
      go_ret
      exact ⟨_, rfl, Nat.le_refl _, ⟨hlt, fun j hj => by have := hk j (by omega) (by omega); simpa using this⟩, hb⟩
    | succ m =>
      obtain ⟨c0, c1⟩ := hk (m + 1) (by omega) hin
      have HK := Lib.hid hk
      clear hk
      have HB := Lib.hid (keyI_below seed n m (by omega))
      obtain ⟨ka, hka⟩ : ∃ ka, (keyI seed n (m + 1)).1 = ka := ⟨_, rfl⟩
      obtain ⟨kb, hkb⟩ : ∃ kb, (keyI seed n (m + 1)).2 = kb := ⟨_, rfl⟩
      rw [hka] at c0
      rw [hkb] at c1
      have hpair : keyI seed n (m + 1) = (ka, kb) := by rw [← hka, ← hkb]
      rw [hpair] at HB
      clear hka hkb hpair
      go_wp2_with (fail)
      refine (below_any ka kb _).mono ?_
      rintro e w4 ⟨rfl, hb4⟩
      have hth4 := hth.below hb4 hlt
      have hlt4 := Nat.lt_of_lt_of_le hlt hb4.size
      have hbw4 := hb.trans (hb4.mono hb.size)
      have hk4 : ∀ j, m + 1 ≤ j → j ≤ n → w4.cell? ⟨w.heap.size, j * 2, none⟩ = some (.int .u64 (keyI seed n j).1) ∧ w4.cell? ⟨w.heap.size, j * 2 + 1, none⟩ = some (.int .u64 (keyI seed n j).2) := by
        intro j h1 h2
        obtain ⟨q0, q1⟩ := HK.out j h1 h2
        exact ⟨by rw [hb4.cell (by exact hlt)]; exact q0, by rw [hb4.cell (by exact hlt)]; exact q1⟩
      have HK4 := Lib.hid hk4
      clear HK hk4 hb4 c0 c1 hth
      obtain ⟨⟨a0, ha0⟩, f0⟩ := hth4 (m * 2) (by omega)
      obtain ⟨⟨a1, ha1⟩, f1⟩ := hth4 (m * 2 + 1) (by omega)
      obtain ⟨ba, hba⟩ : ∃ ba, (belowI (ka, kb)).1 = ba := ⟨_, rfl⟩
      obtain ⟨bb, hbb⟩ : ∃ bb, (belowI (ka, kb)).2 = bb := ⟨_, rfl⟩
      rw [hba, hbb]
      have HBA : Hid ((keyI seed n m).1 = ba) := by show _ = _; rw [HB.out]; exact hba
      have HBB : Hid ((keyI seed n m).2 = bb) := by show _ = _; rw [HB.out]; exact hbb
      clear hba hbb
      go_wp2_with (fail)
      go_roundw
      case rel => exact ⟨m, by omega, by go_num, put_key (fun j h1 h2 => HK4.out j (by omega) h2) ha0 ha1 HBA.out.symm HBB.out.symm, (hth4.setCell _ _).setCell _ _, by simpa using hlt4, (hbw4.setCell (Nat.le_refl _) _).setCell (Nat.le_refl _) _⟩
      case measure => simp [intOf]
end Go.Proofs.YtmhgoknbmbicmaaDoor
