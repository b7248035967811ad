/- What the reference of package chain returns: Check, Interval, the keys of a chain. -/
import Derived.Test.YtmhgoknbmbicmaaDoorChainL
import Derived.Test.YtmhgoknbmbicmaaDoorMacCoreRef
namespace Go.Proofs.YtmhgoknbmbicmaaDoor
open Go.RowKit
set_option linter.unusedVariables false
set_option linter.unusedSimpArgs false

set_option maxHeartbeats 2000000 in
theorem rcheck_any (st sp de co : Int) (w : World) :
    Calls Tryd.prog 11 #[.agg #[.int .i64 st, .int .i64 sp, .int .i64 de, .int .i64 co]] w fun e w' => e = .returned (.int .i64 (errC st sp de co)) ∧ Below w.heap.size w w' := by
  have hb : Below w.heap.size w (w.alloc (.cells #[.int .i64 st, .int .i64 sp, .int .i64 de, .int .i64 co] 23)) := (Below.refl _ _).alloc (Nat.le_refl _) _
  have h3 : ¬ okC st sp de co = true → errC st sp de co = 3 := fun h => by unfold errC; rw [if_neg h]
  have H3 := Lib.hid h3
  clear h3
  by_cases c0 : st < 0
  · have HR : Hid (errC st sp de co = 3) := H3.out (by rw [okC_iff]; omega)
    go_enter Tryd.func11, Tryd.ntmps11
    go_wp2_with (fail)
    go_ret
    exact ⟨by rw [HR.out]; rfl, hb⟩
  · have d0 : 0 ≤ st := by omega
    by_cases c1 : 1125899906842624 < st
    · have HR : Hid (errC st sp de co = 3) := H3.out (by rw [okC_iff]; omega)
      go_enter Tryd.func11, Tryd.ntmps11
      go_wp2_with (fail)
      go_ret
      exact ⟨by rw [HR.out]; rfl, hb⟩
    · have d1 : st ≤ 1125899906842624 := by omega
      by_cases c2 : sp < 1
      · have HR : Hid (errC st sp de co = 3) := H3.out (by rw [okC_iff]; omega)
        go_enter Tryd.func11, Tryd.ntmps11
        go_wp2_with (fail)
        go_ret
        exact ⟨by rw [HR.out]; rfl, hb⟩
      · have d2 : 1 ≤ sp := by omega
        by_cases c3 : 1125899906842624 < sp
        · have HR : Hid (errC st sp de co = 3) := H3.out (by rw [okC_iff]; omega)
          go_enter Tryd.func11, Tryd.ntmps11
          go_wp2_with (fail)
          go_ret
          exact ⟨by rw [HR.out]; rfl, hb⟩
        · have d3 : sp ≤ 1125899906842624 := by omega
          by_cases c4 : de < 1
          · have HR : Hid (errC st sp de co = 3) := H3.out (by rw [okC_iff]; omega)
            go_enter Tryd.func11, Tryd.ntmps11
            go_wp2_with (fail)
            go_ret
            exact ⟨by rw [HR.out]; rfl, hb⟩
          · have d4 : 1 ≤ de := by omega
            by_cases c5 : 8 < de
            · have HR : Hid (errC st sp de co = 3) := H3.out (by rw [okC_iff]; omega)
              go_enter Tryd.func11, Tryd.ntmps11
              go_wp2_with (fail)
              go_ret
              exact ⟨by rw [HR.out]; rfl, hb⟩
            · have d5 : de ≤ 8 := by omega
              by_cases c6 : co < 1
              · have HR : Hid (errC st sp de co = 3) := H3.out (by rw [okC_iff]; omega)
                go_enter Tryd.func11, Tryd.ntmps11
                go_wp2_with (fail)
                go_ret
                exact ⟨by rw [HR.out]; rfl, hb⟩
              · have d6 : 1 ≤ co := by omega
                by_cases c7 : 64 < co
                · have HR : Hid (errC st sp de co = 3) := H3.out (by rw [okC_iff]; omega)
                  go_enter Tryd.func11, Tryd.ntmps11
                  go_wp2_with (fail)
                  go_ret
                  exact ⟨by rw [HR.out]; rfl, hb⟩
                · have d7 : co ≤ 64 := by omega
                  have HR : Hid (errC st sp de co = 0) := by show _ = _; unfold errC; rw [if_pos (by rw [okC_iff]; omega)]
                  go_enter Tryd.func11, Tryd.ntmps11
                  go_wp2_with (fail)
                  go_ret
                  exact ⟨by rw [HR.out]; rfl, hb⟩

set_option maxHeartbeats 1000000 in
theorem rbelow_any (a b : Int) (w : World) :
    Calls Tryd.prog 37 #[.agg #[.int .u64 a, .int .u64 b]] w fun e w' => e = .returned (.agg #[.int .u64 (belowI (a, b)).1, .int .u64 (belowI (a, b)).2]) ∧ Below w.heap.size w w' := by
  obtain ⟨X, hX⟩ : ∃ X, X = (w.alloc (.cells #[.int .u64 a, .int .u64 b] 34)).alloc (.cells #[.int .u64 0, .int .u64 0] 34) := ⟨_, rfl⟩
  have hXs : X.heap.size = w.heap.size + 1 + 1 := by rw [hX]; simp
  have kc := Lib.run_convert_bytes_const (P := Tryd.prog) X 36 5 #[.int .u8 100, .int .u8 111, .int .u8 119, .int .u8 110] 4 4 Tryd.underlying36 Tryd.underlying5
  have hd := Ints.lit .u8 X down 5 (4, 5)
  have hbX : Below w.heap.size w X := by rw [hX]; exact ((Below.refl _ _).alloc (Nat.le_refl _) _).alloc (by simp) _
  have hbY : Below w.heap.size w (X.alloc (.cells #[.int .u8 100, .int .u8 111, .int .u8 119, .int .u8 110] 5 (4, 5))) := hbX.alloc (by omega) _
  rw [hXs] at kc hd
  have C := rderive_any a b (some ⟨w.heap.size + 1 + 1, 0, none⟩) 4 4 down _ (hd.mono (by simp; omega)) down_bytes rfl (Nat.le_refl _) (by omega)
  obtain ⟨d0, hd0⟩ : ∃ d0, (belowI (a, b)).1 = d0 := ⟨_, rfl⟩
  obtain ⟨d1, hd1⟩ : ∃ d1, (belowI (a, b)).2 = d1 := ⟨_, rfl⟩
  rw [show der0 a b down = d0 from hd0, show der1 a b down = d1 from hd1] at C
  rw [hd0, hd1]
  have e0 : X.cell? ⟨w.heap.size + 1, 0, none⟩ = some (.int .u64 0) := by rw [hX]; simp
  have e1 : X.cell? ⟨w.heap.size + 1, 1, none⟩ = some (.int .u64 0) := by rw [hX]; simp
  have e2 : X.frozen? ⟨w.heap.size + 1, 0, none⟩ = false := by rw [hX]; simp
  have e3 : X.frozen? ⟨w.heap.size + 1, 1, none⟩ = false := by rw [hX]; simp
  have HC := Lib.hid C
  have hsz : (X.alloc (.cells #[.int .u8 100, .int .u8 111, .int .u8 119, .int .u8 110] 5 (4, 5))).heap.size = w.heap.size + 1 + 1 + 1 := by simp [hXs]
  have HSZ := Lib.hid hsz
  have hbXY : Below X.heap.size X (X.alloc (.cells #[.int .u8 100, .int .u8 111, .int .u8 119, .int .u8 110] 5 (4, 5))) := (Below.refl _ _).alloc (Nat.le_refl _) _
  have lt1 : (⟨w.heap.size + 1, 0, none⟩ : Addr).block < X.heap.size := by rw [hXs]; simp
  have HX := Lib.hid hX
  have HXS := Lib.hid hXs
  have HD0 := Lib.hid hd0
  have HD1 := Lib.hid hd1
  clear C hd hd0 hd1 hsz hXs
  rw [hX] at kc
  clear hX
  go_enter Tryd.func37, Tryd.ntmps37
  go_wp2_with (fail)
  rw [← HX.out]
  refine HC.out.mono ?_
  rintro e w1 ⟨rfl, hb⟩
  have hb2 := hbXY.trans (hb.mono hbXY.size)
  have c0 : w1.cell? ⟨w.heap.size + 1, 0, none⟩ = some (.int .u64 0) := by rw [hb2.cell lt1]; exact e0
  have c1 : w1.cell? ⟨w.heap.size + 1, 1, none⟩ = some (.int .u64 0) := by rw [hb2.cell lt1]; exact e1
  have f0 : w1.frozen? ⟨w.heap.size + 1, 0, none⟩ = false := by rw [hb2.frozen lt1]; exact e2
  have f1 : w1.frozen? ⟨w.heap.size + 1, 1, none⟩ = false := by rw [hb2.frozen lt1]; exact e3
  have hbw := hbY.trans (hb.mono hbY.size)
  clear hb hb2 kc hbXY e0 e1 e2 e3
  go_wp2_with (fail)
  refine bodyPost_ret (v := .agg #[.int .u64 d0, .int .u64 d1]) ?_ rfl ⟨rfl, ?_⟩
  · simp [results, Tryd.results37, go_sem, c0, c1]
  · exact (hbw.setCell (by simp) _).setCell (by simp) _

theorem own_new {X : World} {base : Nat} {e : TypeId} {size n : Nat} (cs : List Value) (h : cs.length = n * size) (hb : base ≤ X.heap.size) (hn : n ≤ 1000) :
    (X.alloc (.cells cs.toArray e)).ownsRow base e size (.slice (some ⟨X.heap.size, 0, none⟩) n n) n cs := by
  have hh : (X.alloc (.cells cs.toArray e)).heap[X.heap.size]? = some (.cells cs.toArray e (0, 0)) := heap_alloc_new _ _
  exact ⟨h, .inr ⟨X.heap.size, n, cs.toArray, rfl, hb, hh, Nat.le_refl _, by unfold maxLen; omega, by simp [h], by rw [← h]; simp⟩⟩

theorem row_some {w : World} {base : Nat} {e : TypeId} {size n c : Nat} {po : Option Addr} {xs : List Value} (h : w.ownsRow base e size (.slice po n c) n xs) (hn : 0 < n) : ∃ g, g < w.heap.size ∧ po = some ⟨g, 0, none⟩ := by
  rcases h.2 with ⟨e, q⟩ | ⟨g, cap, cur, e, hb, hh, _⟩
  · omega
  · obtain ⟨rfl, _, rfl⟩ : po = some ⟨g, 0, none⟩ ∧ True ∧ c = cap := by simpa using e
    exact ⟨g, (h.lt g rfl).2, rfl⟩
theorem keys_of_row {w : World} {base g n : Nat} {cap : Nat} {K : Nat → Int × Int} (h : w.ownsRow base 34 2 (.slice (some ⟨g, 0, none⟩) n cap) n (keyCells K n)) : Keys w w.heap.size ⟨g, 0, none⟩ n K := by
  refine ⟨(h.lt g rfl).2, fun i hi => ?_⟩
  obtain ⟨k0, k1⟩ := keyCells_at K n i hi
  have c0 := h.cells (g := g) rfl _ _ k0
  have c1 := h.cells (g := g) rfl _ _ k1
  have hadd : ∀ j, (⟨g, 0, none⟩ : Addr).add j = ⟨g, j, none⟩ := fun j => by unfold Addr.add; split <;> simp_all
  rw [hadd] at c0 c1
  simp only [Nat.zero_add]
  exact ⟨c0, c1⟩
theorem keyCells_cons (K : Nat → Int × Int) (k : Int × Int) : ∀ n, [Value.int .u64 k.1, .int .u64 k.2] ++ keyCells K n = keyCells (fun j => if j = 0 then k else K (j - 1)) (n + 1)
  | 0 => by simp [keyCells]
  | n + 1 => by
    have ih := keyCells_cons K k n
    show [Value.int .u64 k.1, .int .u64 k.2] ++ (keyCells K n ++ [.int .u64 (K n).1, .int .u64 (K n).2]) = _
    rw [← List.append_assoc, ih]
    show _ = keyCells _ (n + 1) ++ _
    simp
theorem keyCells_congr {K K' : Nat → Int × Int} : ∀ n, (∀ j, j < n → K j = K' j) → keyCells K n = keyCells K' n
  | 0, _ => rfl
  | n + 1, h => by
    show keyCells K n ++ _ = keyCells K' n ++ _
    rw [keyCells_congr n (fun j hj => h j (by omega)), h n (by omega)]

set_option maxHeartbeats 2000000 in
theorem rchain_any (a b : Int) (n : Nat) (w : World) (hn : n ≤ 64) :
    Calls Tryd.prog 28 #[.agg #[.int .u64 a, .int .u64 b], .int .i64 n] w fun e w' => ∃ g cap : Nat, e = .returned (.slice (some ⟨g, 0, none⟩) (n + 1) cap) ∧ n + 1 ≤ cap ∧ cap ≤ 9223372036854775807 ∧ w.heap.size ≤ g ∧
      Keys w' w'.heap.size ⟨g, 0, none⟩ (n + 1) (fun j => downN (n - j) (a, b)) ∧ Below w.heap.size w w' := by
  obtain ⟨i0, hi, hz0, hz1, hz2⟩ := info_parts infoKey
  go_enter Tryd.func28, Tryd.ntmps28
  go_wp2_with (fail)
  go_loopw [5, 6] (fun lv ki wr => ∃ k cap : Nat, k ≤ n ∧ ki = .int .i64 k ∧ ∃ g, lv = .slice (some ⟨g, 0, none⟩) (k + 1) cap ∧ k + 1 ≤ cap ∧ cap ≤ 9223372036854775807 ∧ w.heap.size ≤ g ∧ Keys wr wr.heap.size ⟨g, 0, none⟩ (k + 1) (fun j => downN (k - j) (a, b)) ∧ Below w.heap.size w wr) (fun _ ki _ => n - (intOf ki).toNat)
  case atStart =>
    refine ⟨0, 1, by omega, rfl, _, rfl, by omega, by omega, by omega, ⟨by simp, fun i hi => ?_⟩, ((Below.refl _ _).alloc (Nat.le_refl _) _).alloc (by simp) _⟩
    obtain rfl : i = 0 := by omega
    simp [downN]
  case round =>
    obtain ⟨k, cap, hkn, rfl, g, rfl, hc1, hc2, hgw, hk, hb⟩ := hrel
    by_cases hlt : k < n
    · obtain ⟨c0, c1⟩ := hk.2 0 (by omega)
      simp only [Nat.zero_mul, Nat.add_zero, Nat.zero_add, Nat.sub_zero] at c0 c1
      obtain ⟨ka, hka⟩ : ∃ ka, (downN k (a, b)).1 = ka := ⟨_, rfl⟩
      obtain ⟨kb, hkb⟩ : ∃ kb, (downN k (a, b)).2 = kb := ⟨_, rfl⟩
      rw [hka] at c0
      rw [hkb] at c1
      have hpair : downN k (a, b) = (ka, kb) := Prod.ext hka hkb
      obtain ⟨ba, hba⟩ : ∃ ba, (belowI (ka, kb)).1 = ba := ⟨_, rfl⟩
      obtain ⟨bb, hbb⟩ : ∃ bb, (belowI (ka, kb)).2 = bb := ⟨_, rfl⟩
      have hnext : downN (k + 1) (a, b) = (ba, bb) := by rw [downN_succ, hpair]; exact Prod.ext hba hbb
      have CB := rbelow_any ka kb wr
      rw [hba, hbb] at CB
      have HCB := Lib.hid CB
      have HNEXT := Lib.hid hnext
      have HK := Lib.hid hk
      clear CB hnext hpair hka hkb hba hbb hk
      go_wp2_with (fail)
      refine HCB.out.mono ?_
      rintro e w2 ⟨rfl, hb2⟩
      have hs2 := hb2.size
      have hown := own_new (X := w2) (base := w.heap.size) (e := 34) (size := 2) (n := 1) [.int .u64 ba, .int .u64 bb] rfl (by have := hb.size; omega) (by omega)
      have hK2 := HK.out.below (Nat.le_refl _) hb2
      have hg2 : g < w2.heap.size := Nat.lt_of_lt_of_le HK.out.1 hs2
      have hnews : ∀ j u, (keyCells (fun j => downN (k - j) (a, b)) (k + 1))[j]? = some u → (w2.alloc (.cells #[.int .u64 ba, .int .u64 bb] 34)).cell? ((⟨g, 0, none⟩ : Addr).add j) = some u := by
        intro j u hu
        have hj := (List.getElem?_eq_some_iff.1 hu).1
        rw [keyCells_len] at hj
        have hadd : (⟨g, 0, none⟩ : Addr).add j = ⟨g, j, none⟩ := by unfold Addr.add; split <;> simp_all
        rw [hadd, World.cell?_of_block (w := w2) (heap_alloc_old _ _ hg2)]
        obtain ⟨q0, q1⟩ := keyCells_at (fun j => downN (k - j) (a, b)) (k + 1) (j / 2) (by omega)
        obtain ⟨r0, r1⟩ := hK2.2 (j / 2) (by omega)
        simp only [Nat.zero_add] at r0 r1
        rcases (show j = j / 2 * 2 ∨ j = j / 2 * 2 + 1 by omega) with e | e
        · rw [e] at hu ⊢; rw [q0] at hu; rw [r0]; exact hu
        · rw [e] at hu ⊢; rw [q1] at hu; rw [r1]; exact hu
      have HOWN := Lib.hid hown
      have HNEWS := Lib.hid hnews
      clear hown hnews hK2 c0 c1
      obtain ⟨NW, hNW⟩ : ∃ NW, keyCells (fun j => downN (k - j) (a, b)) (k + 1) = NW := ⟨_, rfl⟩
      have hNl : NW.length = (k + 1) * 2 := by rw [← hNW, keyCells_len]
      have hN1 : ∀ v ∈ NW, v.oneCell' = true := by rw [← hNW]; exact keyCells_one _ _
      rw [hNW] at HNEWS
      have HNW := Lib.hid hNW
      clear hNW
      go_wp2_with (at_builtin; refine wpList_append_own_at _ rfl (.tmp 18) (.tmp 19) 28 rfl w.heap.size 34 i0 _ 2 16 Tryd.underlying28 hi hz0 hz1 hz2 rfl (by omega) (.slice (some ⟨w2.heap.size, 0, none⟩) 1 1) 1 [.int .u64 ba, .int .u64 bb] rfl HOWN.out _ (k + 1) cap NW rfl hNl HNEWS.out hN1 (by unfold maxLen; omega) (by omega) (by simp; omega) ?_; intro v' w5 hown5 hg5 hnil5 hat5)
      go_roundw
      case rel =>
        obtain ⟨p, cap', rfl, hcc1, hcc2⟩ := row_form hown5
        obtain ⟨g', hgl, rfl⟩ : ∃ g, g < w5.heap.size ∧ p = some ⟨g, 0, none⟩ := row_some hown5 (by omega)
        have hcells : [Value.int .u64 ba, .int .u64 bb] ++ NW = keyCells (fun j => downN (k + 1 - j) (a, b)) (k + 1 + 1) := by
          rw [← HNW.out, show [Value.int .u64 ba, .int .u64 bb] = [Value.int .u64 (ba, bb).1, .int .u64 (ba, bb).2] from rfl, keyCells_cons]
          refine keyCells_congr _ fun j hj => ?_
          by_cases h0 : j = 0
          · subst h0; rw [if_pos rfl, Nat.sub_zero, HNEXT.out]
          · rw [if_neg h0]
            show downN (k - (j - 1)) (a, b) = downN (k + 1 - j) (a, b)
            rw [show k - (j - 1) = k + 1 - j by omega]
        rw [hcells, show 1 + (k + 1) = k + 1 + 1 by omega] at hown5
        have hgb : w.heap.size ≤ g' := (hown5.lt g' rfl).1
        refine ⟨k + 1, cap', by omega, by go_num, g', by rw [show 1 + (k + 1) = k + 1 + 1 by omega], by omega, hcc2, hgb, keys_of_row hown5, ?_⟩
        exact ((hb.trans (hb2.mono hb.size)).alloc (by have := hb.size; omega) _).grown hg5 (by have := hb.size; simp; omega) (fun q e => by have := hb.size; obtain rfl : w2.heap.size = q := Option.some.inj e; omega)
      case measure => simp [intOf]; omega
    · obtain rfl : k = n := by omega
      go_wp2_with (fail)
      go_ret
      exact ⟨g, cap, rfl, hc1, hc2, hgw, hk, hb⟩

theorem rmake_none (seed n : Int) (w : World) (h : n < 1 ∨ 64 < n) :
    Calls Tryd.prog 14 #[.int .u64 seed, .int .i64 n] w fun e w' => e = .returned (.slice none 0 0) ∧ w = w' := by
  by_cases h1 : n < 1
  · go_enter Tryd.func14, Tryd.ntmps14
    go_wp2_with (fail)
    go_ret
    exact ⟨rfl, rfl⟩
  · have h2 : 64 < n := by omega
    go_enter Tryd.func14, Tryd.ntmps14
    go_wp2_with (fail)
    go_ret
    exact ⟨rfl, rfl⟩

theorem rmake_some (seed : Int) (n : Nat) (w : World) (h1 : 1 ≤ n) (h2 : n ≤ 64) :
    Calls Tryd.prog 14 #[.int .u64 seed, .int .i64 n] w fun e w' => ∃ g cap : Nat, e = .returned (.slice (some ⟨g, 0, none⟩) (n + 1) cap) ∧ n + 1 ≤ cap ∧ cap ≤ 9223372036854775807 ∧ w.heap.size ≤ g ∧
      Keys w' w'.heap.size ⟨g, 0, none⟩ (n + 1) (keyI seed n) ∧ Below w.heap.size w w' := by
  have d1 : ¬ (n : Int) < 1 := by omega
  have d2 : ¬ 64 < (n : Int) := by omega
  have hu64 : IntKind.u64.wrap (n : Int) = n := u64_wrap_eq ⟨by omega, by omega⟩
  have hu65 : IntKind.u64.wrap ((n : Int) + 4294967296) = n + 4294967296 := u64_wrap_eq ⟨by omega, by omega⟩
  go_enter Tryd.func14, Tryd.ntmps14
  go_wp2_with (fail)
  refine (rmix_any _ _ _).mono ?_
  rintro e w2 ⟨rfl, rfl⟩
  go_wp2_with (fail)
  refine (rmix_any _ _ _).mono ?_
  rintro e w2 ⟨rfl, rfl⟩
  obtain ⟨ta, hta⟩ : ∃ ta, mxi seed n = ta := ⟨_, rfl⟩
  obtain ⟨tb, htb⟩ : ∃ tb, mxi seed (n + 4294967296) = tb := ⟨_, rfl⟩
  have hkey : ∀ j, keyI seed n j = downN (n - j) (ta, tb) := fun j => by unfold keyI topKey; rw [hta, htb]
  have HKEY := Lib.hid hkey
  have CC := rchain_any ta tb n w h2
  have HCC := Lib.hid CC
  rw [hta]
  try rw [htb]
  clear CC hkey hta htb
  go_wp2_with (fail)
  refine HCC.out.mono ?_
  rintro e w3 ⟨g, cap, rfl, q1, q2, q3, q4, q5⟩
  go_wp2_with (fail)
  go_ret
  exact ⟨g, cap, rfl, q1, q2, q3, by rw [show keyI seed n = fun j => downN (n - j) (ta, tb) from funext HKEY.out]; exact q4, q5⟩
end Go.Proofs.YtmhgoknbmbicmaaDoor
