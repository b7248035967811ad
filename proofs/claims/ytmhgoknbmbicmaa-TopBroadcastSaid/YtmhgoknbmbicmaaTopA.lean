/- What timesynctop.right returns. -/
import Derived.Test.YtmhgoknbmbicmaaChainL
namespace Go.Proofs.Ytmhgoknbmbicmaa
open Go.RowKit
set_option linter.unusedVariables false
set_option linter.unusedSimpArgs false

set_option maxHeartbeats 2000000 in
theorem tright_any (G N i : Nat) (K : Nat → Int × Int) (p : Option Addr) (cap : Nat) (b : List Int) (w : World) (hK : Keys w w.heap.size ⟨G, 0, none⟩ N K) (hi : i < N)
    (hy : Ints .u8 w w.heap.size p b) (hby : Bytes b) (hcap : b.length ≤ cap) (hcl : cap ≤ 9223372036854775807) :
    Calls Try.prog 7 #[.slice (some ⟨G, 0, none⟩) N N, .int .i64 (i : Int), .slice p b.length cap] w fun e w' => e = .returned (.int .u64 (rightTag (K i) b)) ∧ Below w.heap.size w w' := by
  obtain ⟨k0, k1⟩ := hK.2 i hi
  simp only [Nat.zero_add] at k0 k1
  obtain ⟨ka, hka⟩ : ∃ ka, (K i).1 = ka := ⟨_, rfl⟩
  obtain ⟨kb, hkb⟩ : ∃ kb, (K i).2 = kb := ⟨_, rfl⟩
  rw [hka] at k0
  rw [hkb] at k1
  have hpair : K i = (ka, kb) := Prod.ext hka hkb
  rw [hpair]
  obtain ⟨T, hT⟩ : ∃ T, rightTag (ka, kb) b = T := ⟨_, rfl⟩
  obtain ⟨d0, hd0⟩ : ∃ d0, der0 ka kb macL = d0 := ⟨_, rfl⟩
  obtain ⟨d1, hd1⟩ : ∃ d1, der1 ka kb macL = d1 := ⟨_, rfl⟩
  have hT2 : tagI d0 d1 b = T := by rw [← hT, ← hd0, ← hd1]; rfl
  rw [hT]
  obtain ⟨l, hl⟩ : ∃ l, b.length = l := ⟨_, rfl⟩
  rw [hl] at hcap ⊢
  have kc := Lib.run_convert_bytes_const (P := Try.prog) w 35 5 #[.int .u8 109, .int .u8 97, .int .u8 99] 3 3 Try.underlying35 Try.underlying5
  have hd := Ints.lit .u8 w macL 5 (3, 4)
  have CD := pderive_any ka kb (some ⟨w.heap.size, 0, none⟩) 3 3 macL _ (hd.mono (by simp)) macL_bytes rfl (Nat.le_refl _) (by omega)
  rw [hd0, hd1] at CD
  have hbY : Below w.heap.size w (w.alloc (.cells #[.int .u8 109, .int .u8 97, .int .u8 99] 5 (3, 4))) := (Below.refl _ _).alloc (Nat.le_refl _) _
  have hii : (i : Int) < N := by omega
  have HCD := Lib.hid CD
  have HT2 := Lib.hid hT2
  have HL := Lib.hid hl
  have HY := Lib.hid hy
  clear hK hka hkb hpair hT hd0 hd1 hT2 hl hd CD hy
  go_enter Try.func7, Try.ntmps7
  go_wp2_with (fail)
  refine HCD.out.mono ?_
  rintro e w2 ⟨rfl, hb2⟩
  have hbw := hbY.trans (hb2.mono hbY.size)
  go_wp2_with (fail)
  refine (ptag_any d0 d1 p l cap b _ (HY.out.below' hbw hbw.size) hby HL.out hcap hcl).mono ?_
  rintro e w3 ⟨rfl, hb3⟩
  rw [HT2.out]
  go_wp2_with (fail)
  go_ret
  exact ⟨rfl, hbw.trans (hb3.mono hbw.size)⟩
end Go.Proofs.Ytmhgoknbmbicmaa
