/- What right returns. -/
import Derived.Test.YtmhgoknbmbicmaaDoorChainF
namespace Go.Proofs.YtmhgoknbmbicmaaDoor
open Go.RowKit
set_option linter.unusedVariables false
set_option linter.unusedSimpArgs false

def macL : List Int := [109, 97, 99]
theorem macL_bytes : Bytes macL := by unfold Bytes macL; decide
/-- the tag that is right under a key -/
noncomputable def rightTag (k : Int × Int) (b : List Int) : Int := tagI (der0 k.1 k.2 macL) (der1 k.1 k.2 macL) b

theorem box_step {w w' : World} {B C R : Nat} {x0 x1 x2 x3 x4 : Value} {o3 o4 : Nat} (hb : Below B w w') (hC : C < B) (hR : R < B)
    (h : w.cell? ⟨C, 0, none⟩ = some x0 ∧ w.cell? ⟨C, 1, none⟩ = some x1 ∧ w.cell? ⟨C, 2, none⟩ = some x2 ∧ w.cell? ⟨R, o3, none⟩ = some x3 ∧ w.cell? ⟨R, o4, none⟩ = some x4) :
    w'.cell? ⟨C, 0, none⟩ = some x0 ∧ w'.cell? ⟨C, 1, none⟩ = some x1 ∧ w'.cell? ⟨C, 2, none⟩ = some x2 ∧ w'.cell? ⟨R, o3, none⟩ = some x3 ∧ w'.cell? ⟨R, o4, none⟩ = some x4 := by
  obtain ⟨h0, h1, h2, h3, h4⟩ := h
  exact ⟨by rw [hb.cell (by exact hC)]; exact h0, by rw [hb.cell (by exact hC)]; exact h1, by rw [hb.cell (by exact hC)]; exact h2, by rw [hb.cell (by exact hR)]; exact h3, by rw [hb.cell (by exact hR)]; exact h4⟩

theorem Ints.below' {k : IntKind} {w w' : World} {B : Nat} {x : Option Addr} {zs : List Int} (h : Ints k w B x zs) (hb : Below B w w') (hs : B ≤ w'.heap.size) : Ints k w' w'.heap.size x zs := (h.below (Nat.le_refl _) hb).mono hs

set_option maxHeartbeats 4000000 in
theorem right_any (R : Nat) (n : Nat) (ka kb tag : Int) (p : Option Addr) (cap : Nat) (b : List Int) (w : World) (hR : R < w.heap.size) (hn : n < 65)
    (k0 : w.cell? ⟨R, 5 + n * 2, none⟩ = some (.int .u64 ka)) (k1 : w.cell? ⟨R, 5 + n * 2 + 1, none⟩ = some (.int .u64 kb))
    (hy : Ints .u8 w w.heap.size p b) (hby : Bytes b) (hcap : b.length ≤ cap) (hcl : cap ≤ 9223372036854775807) :
    Calls Tryd.prog 36 #[.pointer (some ⟨R, 0, none⟩), .agg #[.int .i64 (n : Int), .slice p b.length cap, .int .u64 tag]] w fun e w' =>
      e = .returned (.bool (rightTag (ka, kb) b == tag)) ∧ Below w.heap.size w w' := by
  obtain ⟨l, hl⟩ : ∃ l, b.length = l := ⟨_, rfl⟩
  rw [hl] at hcap ⊢
  have HL := Lib.hid hl
  have HY := Lib.hid hy
  obtain ⟨X, hX⟩ : ∃ X, X = w.alloc (.cells #[.int .i64 (n : Int), .slice p l cap, .int .u64 tag] 67) := ⟨_, rfl⟩
  have hXs : X.heap.size = w.heap.size + 1 := by rw [hX]; simp
  have hbX : Below w.heap.size w X := by rw [hX]; exact (Below.refl _ _).alloc (Nat.le_refl _) _
  have kc : Sem.run Tryd.prog (convert 36 36 (.slice (some ⟨X.heap.size, 0, none⟩) 3 3)) (X.alloc (.cells #[.int .u8 109, .int .u8 97, .int .u8 99] 5)).drew = .ok (.slice (some ⟨X.heap.size, 0, none⟩) 3 3) (X.alloc (.cells #[.int .u8 109, .int .u8 97, .int .u8 99] 5 (3, 4))).drew := Lib.run_convert_bytes_const (P := Tryd.prog) X.drew 36 5 #[.int .u8 109, .int .u8 97, .int .u8 99] 3 3 Tryd.underlying36 Tryd.underlying5
  have hd : Ints .u8 (X.alloc (.cells #[.int .u8 109, .int .u8 97, .int .u8 99] 5 (3, 4))).drew (X.heap.size + 1) (some ⟨X.heap.size, 0, none⟩) macL := Ints.lit .u8 X.drew macL 5 (3, 4)
  have hbY : Below X.heap.size X (X.alloc (.cells #[.int .u8 109, .int .u8 97, .int .u8 99] 5 (3, 4))).drew := ((Below.refl _ _).alloc (Nat.le_refl _) _).drew
  have h5 : X.cell? ⟨w.heap.size, 0, none⟩ = some (.int .i64 (n : Int)) ∧ X.cell? ⟨w.heap.size, 1, none⟩ = some (.slice p l cap) ∧ X.cell? ⟨w.heap.size, 2, none⟩ = some (.int .u64 tag) ∧ X.cell? ⟨R, 5 + n * 2, none⟩ = some (.int .u64 ka) ∧ X.cell? ⟨R, 5 + n * 2 + 1, none⟩ = some (.int .u64 kb) := by
    refine ⟨by rw [hX]; simp, by rw [hX]; simp, by rw [hX]; simp, ?_, ?_⟩
    · rw [hbX.cell (by exact hR)]; exact k0
    · rw [hbX.cell (by exact hR)]; exact k1
  obtain ⟨T, hT⟩ : ∃ T, rightTag (ka, kb) b = T := ⟨_, rfl⟩
  obtain ⟨d0, hd0⟩ : ∃ d0, der0 ka kb macL = d0 := ⟨_, rfl⟩
  obtain ⟨d1, hd1⟩ : ∃ d1, der1 ka kb macL = d1 := ⟨_, rfl⟩
  have hT2 : tagI d0 d1 b = T := by rw [← hT, ← hd0, ← hd1]; rfl
  have CD := pderive_any ka kb (some ⟨X.heap.size, 0, none⟩) 3 3 macL _ (hd.mono (by simp)) macL_bytes rfl (Nat.le_refl _) (by omega)
  rw [hd0, hd1] at CD
  have HCD := Lib.hid CD
  have HT2 := Lib.hid hT2
  rw [hT]
  clear hd0 hd1 CD hT hT2 hy hl hd k0 k1
  have h6 := box_step hbY (by omega) (by omega) h5
  have h7 := box_step ((Below.refl X.heap.size X).alloc (Nat.le_refl _) (.cells #[.int .u8 109, .int .u8 97, .int .u8 99] 5)).drew (by omega) (by omega) h5
  have h4 := box_step (Below.refl X.heap.size X).drew (by omega) (by omega) h5
  have HXS := Lib.hid hXs
  have hbw2 : Below w.heap.size w (X.alloc (.cells #[.int .u8 109, .int .u8 97, .int .u8 99] 5 (3, 4))).drew := hbX.trans (hbY.mono (by omega))
  have hYs : (X.alloc (.cells #[.int .u8 109, .int .u8 97, .int .u8 99] 5 (3, 4))).drew.heap.size = w.heap.size + 2 := by simp [hXs]
  have HYS := Lib.hid hYs
  have HBW2 := Lib.hid hbw2
  clear hYs hbw2 hbY
  rw [hXs] at kc HCD
  rw [hX] at kc HCD h4 h5 h6 h7 HYS HBW2
  clear hX hXs hbX
  have hn0 : (0 : Int) ≤ (n : Int) := by omega
  have hn1 : (n : Int) < 65 := by omega
  have hn2 : (n : Int) ≤ 65 := by omega
  go_enter Tryd.func36, Tryd.ntmps36
  go_upto_region 1 with (fail)
  go_region_held_law (fun w' => w'.cell? ⟨w.heap.size, 0, none⟩ = some (.int .i64 (n : Int)) ∧ w'.cell? ⟨w.heap.size, 1, none⟩ = some (.slice p l cap) ∧ w'.cell? ⟨w.heap.size, 2, none⟩ = some (.int .u64 tag) ∧ w'.cell? ⟨R, 5 + n * 2, none⟩ = some (.int .u64 ka) ∧ w'.cell? ⟨R, 5 + n * 2 + 1, none⟩ = some (.int .u64 kb))
    (first | exact h4 | exact h5 | exact h6 | exact h7 | assumption)
    ((first
      | (go_at_call 18; refine HCD.out.mono ?_; rintro e w2 ⟨rfl, hb2⟩; have h8 := box_step hb2 (by have := HYS.out; omega) (by have := HYS.out; omega) h6; have hbw := HBW2.out.trans (hb2.mono (by have := HYS.out; omega)); have hsw := hbw.size; have hs2 := hb2.size; rw [HYS.out] at hs2; have hsC : w.heap.size < w2.heap.size := (by omega); have hsR : R < w2.heap.size := (by omega))
      | (go_at_call 21; refine (ptag_any d0 d1 p l cap b _ (HY.out.below' (by assumption) (by assumption)) hby HL.out hcap hcl).mono ?_; rintro e w3 ⟨rfl, hb3⟩; rw [HT2.out]; have h9 := box_step (C := w.heap.size) (R := R) hb3 (by assumption) (by assumption) (by assumption))))
  all_goals
    go_wp2_with (fail)
    go_ret
    exact ⟨rfl, hbw.trans (hb3.mono hbw.size)⟩
end Go.Proofs.YtmhgoknbmbicmaaDoor
