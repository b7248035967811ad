/- The walk of the statement MacMixes. -/
import Derived.Test.YtkfkegalflnepaaMacLawB
import Derived.Test.YtkfkegalflnepaaMacOwn
namespace Go.Proofs.Ytkfkegalflnepaa
open Go.RowKit
set_option linter.unusedVariables false
set_option linter.unusedSimpArgs false

/-- the first k bytes of a word, the least significant one first -/
def leb (v : Int) (k : Nat) : List Int := (List.range k).map fun j => v / 256 ^ j % 256
theorem leb_succ (v : Int) (k : Nat) : leb v (k + 1) = leb v k ++ [v / 256 ^ k % 256] := by simp [leb, List.range_succ]
theorem leb_len (v : Int) (k : Nat) : (leb v k).length = k := by simp [leb]
theorem leb_bytes (v : Int) (k : Nat) : Bytes (leb v k) := by
  intro b hb
  obtain ⟨j, _, rfl⟩ := List.mem_map.1 hb
  omega
theorem leb_word (v : Int) (h : U64 v) : wordOf (leb v 8) = v := by
  unfold U64 at h
  simp [leb, List.range, List.range.loop, wordOf]
  omega
def bytesOf : List Int → List Int
  | [] => []
  | v :: r => leb v 8 ++ bytesOf r
theorem bytesOf_snoc (l : List Int) (v : Int) : bytesOf (l ++ [v]) = bytesOf l ++ leb v 8 := by
  induction l with
  | nil => simp [bytesOf]
  | cons a r ih => simp [bytesOf, ih]
theorem bytesOf_len (l : List Int) : (bytesOf l).length = 8 * l.length := by
  induction l with
  | nil => rfl
  | cons a r ih => simp [bytesOf, leb_len, ih]; omega
theorem bytesOf_bytes (l : List Int) : Bytes (bytesOf l) := by
  induction l with
  | nil => intro b hb; cases hb
  | cons a r ih =>
    intro b hb
    rcases List.mem_append.1 hb with h | h
    · exact leb_bytes a 8 b h
    · exact ih b h
theorem words_bytesOf (l : List Int) (h : ∀ v ∈ l, U64 v) : wordsOf (bytesOf l) = l := by
  induction l with
  | nil => exact wordsOf_nil
  | cons a r ih =>
    have hne : leb a 8 ++ bytesOf r ≠ [] := by
      intro e
      have := congrArg List.length e
      simp [leb_len] at this
    show wordsOf (leb a 8 ++ bytesOf r) = _
    have h8 := leb_len a 8
    rw [wordsOf_cons hne, show (leb a 8 ++ bytesOf r).take 8 = leb a 8 from by rw [List.take_append_of_le_length (by omega), List.take_of_length_le (by omega)],
      show (leb a 8 ++ bytesOf r).drop 8 = bytesOf r from by rw [List.drop_append_of_le_length (by omega), List.drop_of_length_le (by omega)]; rfl,
      leb_word a (h a (by simp)), ih fun v hv => h v (by simp [hv])]
theorem shr_byte (v : Int) (k : Nat) (h : U64 v) (hk : k < 8) : IntKind.u8.wrap (v / 2 ^ (8 * k)) = v / 256 ^ k % 256 := by
  rw [IntKind.wrap_u8]
  rcases (show k = 0 ∨ k = 1 ∨ k = 2 ∨ k = 3 ∨ k = 4 ∨ k = 5 ∨ k = 6 ∨ k = 7 by omega) with rfl | rfl | rfl | rfl | rfl | rfl | rfl | rfl <;> simp

theorem infoU8s : (Try.prog.info? 5).map (fun i => (i.zero, i.size, i.bytes)) = some (some (.int .u8 0), 1, 1) := by kernel_rfl

theorem KSt.grown {w wr wr' : World} {k0 k1 : Int} {row : Option Nat} (h : KSt w k0 k1 wr) (hg : wr.grownBy wr' row) (hr : ∀ g, row = some g → w.heap.size + 1 ≤ g) : KSt w k0 k1 wr' := by
  obtain ⟨h1, h2, h3, h4⟩ := h
  exact ⟨h1.grown hg h1.size (fun g e => by have := hr g e; omega), Nat.le_trans h2 hg.size, hg.cell h3 (fun e => by have := hr _ e.symm; simp at this; omega), hg.cell h4 (fun e => by have := hr _ e.symm; simp at this; omega)⟩
theorem KSt.alloc' {w wr : World} {k0 k1 : Int} (h : KSt w k0 k1 wr) (o : Obj) : KSt w k0 k1 (wr.alloc o) := h.step ((Below.refl _ _).alloc (Nat.le_refl _) _)

def HidE (a b : Int) : Prop := a = b
theorem HidE.out {a b : Int} (h : HidE a b) : a = b := h
def MixRel (w : World) (k0 k1 : Int) (ws : List Int) (j : Nat) (b h : Value) (wr : World) : Prop :=
  h = .int .u64 ((ws.take j).foldl mxi (mxi k0 k1)) ∧ wr.ownsRow (w.heap.size + 1) 5 1 b (8 * j) ((bytesOf (ws.take j)).map (Value.int .u8)) ∧ KSt w k0 k1 wr
def MixIn (w : World) (k0 k1 : Int) (l : List Int) (j k : Nat) (v : Int) (b : Value) (wr : World) : Prop :=
  wr.ownsRow (w.heap.size + 1) 5 1 b (8 * j + k) ((bytesOf l ++ leb v k).map (Value.int .u8)) ∧ KSt w k0 k1 wr

set_option maxHeartbeats 1000000 in
theorem MacMixes_walk (v0 v1 : Value) (w : World) (h0 : IsKey w v0) (h1 : IsInts .u64 w v1) :
    Calls Try.prog 6 #[v0, v1] w fun e w' => e = .returned (.bool true) ∧ Below w.heap.size w w' := by
  obtain ⟨k0, k1, rfl, hk0, hk1⟩ := h0
  obtain ⟨x, n, c, ys, rfl, hy, hwy, hl, hnc, hcl, hnl⟩ := h1
  have hw64 : ∀ v ∈ ys, U64 v := fun v hv => wf_u64 (hwy v hv)
  have HL := Lib.hid hl
  clear hl hwy
  have hs := KSt.start w k0 k1
  by_cases hn : 200 < n
  · go_enter Try.func6, Try.ntmps6
    go_wp2_with (fail)
    refine (awake_any _).mono ?_
    rintro e w1 ⟨rfl, hb⟩
    go_wp2_with (fail)
    go_ret
    exact ⟨rfl, (hs.step hb).1⟩
  · obtain ⟨i0, hi, hz0, hz1, hz2⟩ := info_parts infoU8s
    go_enter Try.func6, Try.ntmps6
    go_wp2_with (fail)
    refine (pmix_any _ _ _).mono ?_
    rintro e w1 ⟨rfl, hb1⟩
    have hs1 := hs.step hb1
    clear hb1 hs
    go_wp2_with (fail)
    go_loopw [5, 6, 7] (fun b h i wr => ∃ j : Nat, j ≤ n ∧ i = .int .i64 j ∧ MixRel w k0 k1 ys j b h wr) (fun _ _ i _ => n - (intOf i).toNat)
    case atStart => exact ⟨0, by omega, rfl, rfl, World.ownsRow_nil _ _ _ _, hs1⟩
    case round =>
      obtain ⟨j, hj, rfl, rfl, hown, hs⟩ := hrel
      by_cases hlt : j < n
      · obtain ⟨wo, rfl⟩ : ∃ wo : World, wo = wr := ⟨_, rfl⟩
        go_wp2_with (fail)
        obtain ⟨a, v, ha, hv, hcell0⟩ := hy.at hs.1 j (by rw [HL.out]; omega)
        subst ha
        have hv64 : U64 v := by rw [← hv, getD_lt _ _ _ (by rw [HL.out]; omega)]; exact hw64 _ (List.getElem_mem _)
        have HT := Lib.hid (take_snoc ys j (by rw [HL.out]; omega))
        rw [hv] at HT
        have HV := Lib.hid hv
        clear hv hcell0
        go_loopw [5, 8] (fun b i wr => ∃ k : Nat, k ≤ 8 ∧ i = .int .i64 k ∧ MixIn w k0 k1 (ys.take j) j k v b wr) (fun _ i _ => 8 - (intOf i).toNat)
        case atStart => exact ⟨0, by omega, rfl, by simpa [leb] using hown, hs⟩
        case round =>
          obtain ⟨k, hk, rfl, hown, hs⟩ := hrel
          obtain ⟨a', v', ha', hv', hcell⟩ := hy.at hs.1 j (by rw [HL.out]; omega)
          obtain rfl := Option.some.inj ha'
          obtain rfl : v = v' := HV.out.symm.trans hv'
          clear hv' ha'
          have hs2 := hs.2.1
          by_cases h8 : k < 8
          · have HSB := Lib.hid (shr_byte v k hv64 h8)
            have hlt0 := hown.lt
            have hbase : w.heap.size + 1 ≤ wr.heap.size := hs.2.1
            go_wp2_with (at_builtin; refine wpList_append_ints rfl (.tmp 29) (.tmp 38) 25 rfl (w.heap.size + 1) 5 i0 (.int .u8 0) 1 Try.underlying25 hi hz0 hz1 hz2 rfl u5 (8 * j + k) ((bytesOf (ys.take j) ++ leb v k).map (Value.int .u8)) rfl (hown.alloc _) .u8 _ _ 1 1 [IntKind.u8.wrap (v / 2 ^ (8 * k))] rfl (fun h => by cases h) (Ints.one .u8 _ _ _) rfl (by omega) (by omega) (by simp; omega) ?_; intro v' w2 hown2 hgrow)
            go_roundw
            case rel => exact ⟨k + 1, by omega, by go_num, by rw [leb_succ, ← HSB.out]; simpa [Nat.add_assoc] using hown2, (hs.alloc' _).grown hgrow (fun g e => (hlt0 g e).1)⟩
            case measure => simp [intOf]; omega
          · obtain rfl : k = 8 := by omega
            go_wp2_with (fail)
            refine (pmix_any _ _ _).mono ?_
            rintro e w3 ⟨rfl, hb3⟩
            have hs3 := hs.step hb3
            have hown3 := hown.kept (w' := w3) (row := none) ⟨hb3.os, hb3.tape, hb3.output, hb3.size, fun q hq _ => hb3.block q hq⟩ (by cases u5.ownBlock <;> simp)
            clear hb3
            go_wp2_with (fail)
            go_roundw
            case rel => exact ⟨j + 1, by omega, by go_num, by rw [HT.out, List.foldl_append]; rfl, by rw [HT.out, bytesOf_snoc]; exact hown3, hs3⟩
            case measure => simp [intOf]; omega
      · obtain rfl : j = n := by omega
        rw [List.take_of_length_le (by rw [HL.out]; omega)] at hown ⊢
        obtain ⟨x5, c5, rfl, hy5, hl5, hnc5, hcl5, _, _⟩ := owns_ints hown
        have hw : wordsOf (bytesOf ys) = ys := words_bytesOf ys hw64
        have ht : tagI k0 k1 (bytesOf ys) = mxi (ys.foldl mxi (mxi k0 k1)) (8 * j : Nat) := by unfold tagI; rw [hw, hl5]
        obtain ⟨t, ht'⟩ : ∃ t, tagI k0 k1 (bytesOf ys) = t := ⟨_, rfl⟩
        rw [ht'] at ht
        have HT' := Lib.hid ht'
        have HT := Lib.hid ht
        have HL5 := Lib.hid hl5
        clear hw ht ht' hl5 hown
        have h8 : HidE (mxi (ys.foldl mxi (mxi k0 k1)) (8 * (j : Int))) t := by
          show _ = _
          rw [HT.out]; congr 1
        obtain ⟨q1, q2, q3, q4⟩ := id hs
        go_wp2_with (fail)
        refine (pmix_any _ _ _).mono ?_
        rintro e w2 ⟨rfl, hb2⟩
        rw [HidE.out h8]
        have hs2 := hs.step hb2
        have hy2 := (hy5.below (Nat.le_refl _) hb2).mono hb2.size
        clear hb2 q1 q2 q3 q4 hy5
        obtain ⟨q1, q2, q3, q4⟩ := id hs2
        go_wp2_with (fail)
        have C2 := ptag_any k0 k1 x5 (8 * j) c5 (bytesOf ys) w2 hy2 (bytesOf_bytes ys) HL5.out hnc5 hcl5
        rw [HT'.out] at C2
        refine C2.mono ?_
        rintro e w3 ⟨rfl, hb3⟩
        have hs3 := hs2.step hb3
        have hy3 := (hy2.below (Nat.le_refl _) hb3).mono hb3.size
        clear C2 hb3 q1 q2 q3 q4 hy2
        obtain ⟨q1, q2, q3, q4⟩ := id hs3
        go_wp2_with (fail)
        have C3 := pderive_any k0 k1 x5 (8 * j) c5 (bytesOf ys) w3 hy3 (bytesOf_bytes ys) HL5.out hnc5 hcl5
        rw [show der0 k0 k1 (bytesOf ys) = mxi t 1 from by unfold der0; rw [HT'.out], show der1 k0 k1 (bytesOf ys) = mxi t 2 from by unfold der1; rw [HT'.out]] at C3
        refine C3.mono ?_
        rintro e w4 ⟨rfl, hb4⟩
        have hs4 := hs3.step hb4
        clear C3 hb4 q1 q2 q3 q4 hy3
        go_wp2_with (fail)
        refine (pmix_any _ _ _).mono ?_
        rintro e w5 ⟨rfl, hb5⟩
        have hs5 := hs4.step hb5
        clear hb5
        go_wp2_with (fail)
        refine (pmix_any _ _ _).mono ?_
        rintro e w6 ⟨rfl, hb6⟩
        have hs6 := hs5.step hb6
        clear hb6
        go_wp2_with (fail)
        refine (awake_any _).mono ?_
        rintro e w7 ⟨rfl, hb7⟩
        go_wp2_with (fail)
        go_ret
        exact ⟨rfl, (hs6.step hb7).1⟩
end Go.Proofs.Ytkfkegalflnepaa
