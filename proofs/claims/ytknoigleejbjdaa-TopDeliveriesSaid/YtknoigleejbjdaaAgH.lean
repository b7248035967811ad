/- What remove does. -/
import Derived.Test.YtknoigleejbjdaaAgG
namespace Go.Proofs.Ytknoigleejbjdaa
open Go.RowKit
set_option linter.unusedVariables false
set_option linter.unusedSimpArgs false

theorem HS.cut {w : World} {Q g cap bm N : Nat} {l : List Ev} {F : Int → Option Nat} (h : HS w Q g cap bm N l F) : HS (w.setCell ⟨Q, 3, none⟩ (.slice (some ⟨g, 0, none⟩) (l.length - 1) cap)) Q g cap bm N (cutR l) F := by
  have hb : ∀ b, b ≠ Q → (w.setCell ⟨Q, 3, none⟩ (.slice (some ⟨g, 0, none⟩) (l.length - 1) cap)).heap[b]? = w.heap[b]? := fun b hb => Below.heap_setCell _ _ _ _ hb
  have c2 : ∀ o, (w.setCell ⟨Q, 3, none⟩ (.slice (some ⟨g, 0, none⟩) (l.length - 1) cap)).cell? ⟨g, o, none⟩ = w.cell? ⟨g, o, none⟩ := fun o => World.cell?_of_block (hb g (fun e => h.ne1 e.symm))
  refine ⟨by rw [cutR_len]; exact World.cell?_setCell_same _ _ _ h.q3, by rw [World.cell?_setCell_other _ _ _ _ (by simp)]; exact h.q4, own_set h.own _ _, ?_, by rw [cutR_len]; have := h.le; omega, h.capb, h.map.same (hb bm (fun e => h.ne2 e.symm)), h.ne1, h.ne2, h.ne3, by have := h.Qlt; simpa [World.setCell] using this⟩
  intro j hj
  rw [cutR_len] at hj
  obtain ⟨a0, a1, a2⟩ := h.at' j (by omega)
  rw [gt_cut hj]
  exact ⟨(c2 _).trans a0, (c2 _).trans a1, (c2 _).trans a2⟩

structure RmPost (w : World) (Q g cap bm N : Nat) (l : List Ev) (i : Nat) (w' : World) : Prop where
  ex : ∃ (v : List Ev) (F : Int → Option Nat) (N' : Nat), HS w' Q g cap bm N' v F ∧ N' ≤ N + 2 * l.length + 5 ∧ v.Perm (l.eraseIdx i) ∧ Heap v ∧ Cons v F
  keep : Keep (fun q => q = Q ∨ q = g ∨ q = bm) w w'
  cells : ∀ o, o ≠ 3 → w'.cell? ⟨Q, o, none⟩ = w.cell? ⟨Q, o, none⟩
  froz : ∀ o, w'.frozen? ⟨Q, o, none⟩ = w.frozen? ⟨Q, o, none⟩

theorem RmPost.fin {w V : World} {Q g cap bm N i b : Nat} {l : List Ev} (h : RmPost w Q g cap bm N l i V) (hb : w.heap.size ≤ b) (hQ : Q < w.heap.size) (hg : g < w.heap.size) (hbm : bm < w.heap.size) (a0 a1 a2 : Value) :
    RmPost w Q g cap bm N l i (((V.setCell ⟨b, 0, none⟩ a0).setCell ⟨b, 1, none⟩ a1).setCell ⟨b, 2, none⟩ a2) := by
  have e : ∀ k, k ≠ b → (((V.setCell ⟨b, 0, none⟩ a0).setCell ⟨b, 1, none⟩ a1).setCell ⟨b, 2, none⟩ a2).heap[k]? = V.heap[k]? := fun k hk => by
    rw [Below.heap_setCell _ _ _ _ hk, Below.heap_setCell _ _ _ _ hk, Below.heap_setCell _ _ _ _ hk]
  have hs : (((V.setCell ⟨b, 0, none⟩ a0).setCell ⟨b, 1, none⟩ a1).setCell ⟨b, 2, none⟩ a2).heap.size = V.heap.size := by simp [World.setCell]
  obtain ⟨v, F, N', h1, h2⟩ := h.ex
  refine ⟨⟨v, F, N', h1.same (e Q (by omega)) (e g (by omega)) (e bm (by omega)) (by omega), h2⟩, ⟨h.keep.os, h.keep.tape, h.keep.output, by rw [hs]; exact h.keep.size, fun k hk hn => (e k (by omega)).trans (h.keep.block k hk hn)⟩, fun o ho => (World.cell?_of_block (e Q (by omega))).trans (h.cells o ho), fun o => (World.frozen?_of_block (e Q (by omega))).trans (h.froz o)⟩

set_option maxHeartbeats 8000000 in
theorem remove_any (Q g cap bm N i : Nat) (l : List Ev) (F : Int → Option Nat) (w : World) (h : HS w Q g cap bm N l F) (hfz : w.frozen? ⟨Q, 3, none⟩ = false) (hi : i < l.length) (hids : Ids l) (hheap : Heap l) (hcons : Cons l F) (hN : N < 10000000000) (hlen : l.length ≤ 1000000) :
    Calls Try.prog 31 #[.pointer (some ⟨Q, 3, none⟩), .int .i64 i] w fun e w' => e = .returned (.agg #[.int .i64 (gt l i).t, .int .i64 (gt l i).id, .int .i64 (gt l i).item]) ∧ RmPost w Q g cap bm N l i w' := by
  obtain ⟨x, hx⟩ : ∃ x, gt l i = x := ⟨_, rfl⟩
  obtain ⟨y, hy⟩ : ∃ y, gt l (l.length - 1) = y := ⟨_, rfl⟩
  obtain ⟨z0, z1, z2⟩ := h.at' i hi
  obtain ⟨y0, y1, y2⟩ := h.at' (l.length - 1) (by omega)
  rw [hx] at z0 z1 z2 ⊢
  rw [hy] at y0 y1 y2
  have hwx : wfI x.id := by rw [← hx]; exact hids.2 i hi
  have hwy : wfI y.id := by rw [← hy]; exact hids.2 _ (by omega)
  obtain ⟨t, id, item⟩ := x
  obtain ⟨yt, yid, yitem⟩ := y
  simp only at z0 z1 z2 y0 y1 y2 hwx hwy ⊢
  have q3 := h.q3
  have hQ := h.Qlt
  have hg := h.glt
  have hbm := h.map.lt
  obtain ⟨L, hL⟩ : ∃ L, l.length = L := ⟨_, rfl⟩
  obtain ⟨M, hM⟩ : ∃ M, L - 1 = M := ⟨_, rfl⟩
  rw [hL] at q3 y0 y1 y2
  rw [hM] at y0 y1 y2
  have hiL : i < L := by omega
  have hil : (i : Int) < (L : Int) := by omega
  have hLM : (L : Int) - 1 = M := by omega
  have hwL : IntKind.i64.wrap ((L : Int) - 1) = M := by rw [hLM]; exact i64_wrap_eq ⟨by omega, by omega⟩
  have hML : (M : Int) < (L : Int) := by omega
  have hML' : M < L := by omega
  have hM0 : (0 : Int) ≤ (M : Int) := by omega
  have HH := Lib.hid h
  have HX := Lib.hid hx
  have HY := Lib.hid hy
  have HLL := Lib.hid hL
  have HMM := Lib.hid hM
  have HIDS := Lib.hid hids
  have HHEAP := Lib.hid hheap
  have HCONS := Lib.hid hcons
  have hwM : IntKind.i64.wrap (M : Int) = M := i64_wrap_eq ⟨by omega, by omega⟩
  obtain ⟨X, hX⟩ : ∃ X, X = (w.alloc (.cells #[.int .i64 0, .int .i64 0, .int .i64 0] 69)).alloc (.cells #[.int .i64 t, .int .i64 id, .int .i64 item] 69) := ⟨_, rfl⟩
  have hbX : Below w.heap.size w X := by rw [hX]; exact ((Below.refl _ _).alloc (Nat.le_refl _) _).alloc (by simp) _
  have hXs : X.heap.size = w.heap.size + 2 := by rw [hX]; simp
  have hHX := h.below hbX
  have a0 : X.cell? ⟨w.heap.size + 1, 0, none⟩ = some (.int .i64 t) := by rw [hX]; simp
  have a1 : X.cell? ⟨w.heap.size + 1, 1, none⟩ = some (.int .i64 id) := by rw [hX]; simp
  have a2 : X.cell? ⟨w.heap.size + 1, 2, none⟩ = some (.int .i64 item) := by rw [hX]; simp
  have b0 : X.cell? ⟨w.heap.size, 0, none⟩ = some (.int .i64 0) := by rw [hX]; simp
  have b1 : X.cell? ⟨w.heap.size, 1, none⟩ = some (.int .i64 0) := by rw [hX]; simp
  have b2 : X.cell? ⟨w.heap.size, 2, none⟩ = some (.int .i64 0) := by rw [hX]; simp
  have b3 : ∀ o, X.frozen? ⟨w.heap.size, o, none⟩ = false := fun o => by rw [hX]; simp
  have X3 : X.cell? ⟨Q, 3, none⟩ = some (.slice (some ⟨g, 0, none⟩) L cap) := by rw [← hL]; exact hHX.q3
  have Xy0 : X.cell? ⟨g, M * 3, none⟩ = some (.int .i64 yt) := by rw [hbX.cell (by exact hg)]; exact y0
  have Xy1 : X.cell? ⟨g, M * 3 + 1, none⟩ = some (.int .i64 yid) := by rw [hbX.cell (by exact hg)]; exact y1
  have Xy2 : X.cell? ⟨g, M * 3 + 2, none⟩ = some (.int .i64 yitem) := by rw [hbX.cell (by exact hg)]; exact y2
  have Xf : X.frozen? ⟨Q, 3, none⟩ = false := by rw [hbX.frozen (by exact hQ)]; exact hfz
  have hQX : Q ≠ X.heap.size := by omega
  have hgX : g ≠ X.heap.size := by omega
  have hbZ : Below X.heap.size X (X.alloc (.cells #[.int .i64 0, .int .i64 0, .int .i64 0] 69)) := (Below.refl _ _).alloc (Nat.le_refl _) _
  have Z3 : (X.alloc (.cells #[.int .i64 0, .int .i64 0, .int .i64 0] 69)).cell? ⟨Q, 3, none⟩ = some (.slice (some ⟨g, 0, none⟩) L cap) := by rw [hbZ.cell (by show Q < _; omega)]; exact X3
  have Zy0 : (X.alloc (.cells #[.int .i64 0, .int .i64 0, .int .i64 0] 69)).cell? ⟨g, M * 3, none⟩ = some (.int .i64 yt) := by rw [hbZ.cell (by show g < _; omega)]; exact Xy0
  have Zy1 : (X.alloc (.cells #[.int .i64 0, .int .i64 0, .int .i64 0] 69)).cell? ⟨g, M * 3 + 1, none⟩ = some (.int .i64 yid) := by rw [hbZ.cell (by show g < _; omega)]; exact Xy1
  have Zy2 : (X.alloc (.cells #[.int .i64 0, .int .i64 0, .int .i64 0] 69)).cell? ⟨g, M * 3 + 2, none⟩ = some (.int .i64 yitem) := by rw [hbZ.cell (by show g < _; omega)]; exact Xy2
  have HHX := Lib.hid hHX
  have HXX := Lib.hid hX
  have HBX := Lib.hid hbX
  have HB3 := Lib.hid b3
  clear h hx hy hids hheap hcons hHX hX hbX b3
  go_enter Try.func31, Try.ntmps31
  go_wp2_with (fail)
  rw [← HXX.out]
  clear z0 z1 z2 y0 y1 y2 q3
  go_region
  obtain ⟨Z, hZ⟩ : ∃ Z, Z = X.alloc (.cells #[.int .i64 yt, .int .i64 yid, .int .i64 yitem] 69) := ⟨_, rfl⟩
  have hbZ' : Below X.heap.size X Z := by rw [hZ]; exact (Below.refl _ _).alloc (Nat.le_refl _) _
  have hZs : Z.heap.size = w.heap.size + 3 := by rw [hZ]; simp [hXs]
  have e0 : Z.cell? ⟨w.heap.size + 2, 0, none⟩ = some (.int .i64 yt) := by rw [hZ, ← hXs]; simp
  have e1 : Z.cell? ⟨w.heap.size + 2, 1, none⟩ = some (.int .i64 yid) := by rw [hZ, ← hXs]; simp
  have e2 : Z.cell? ⟨w.heap.size + 2, 2, none⟩ = some (.int .i64 yitem) := by rw [hZ, ← hXs]; simp
  have c0 : Z.cell? ⟨w.heap.size + 1, 0, none⟩ = some (.int .i64 t) := by rw [hbZ'.cell (by show w.heap.size + 1 < _; omega)]; exact a0
  have c1 : Z.cell? ⟨w.heap.size + 1, 1, none⟩ = some (.int .i64 id) := by rw [hbZ'.cell (by show w.heap.size + 1 < _; omega)]; exact a1
  have c2 : Z.cell? ⟨w.heap.size + 1, 2, none⟩ = some (.int .i64 item) := by rw [hbZ'.cell (by show w.heap.size + 1 < _; omega)]; exact a2
  have n0 : Z.cell? ⟨w.heap.size, 0, none⟩ = some (.int .i64 0) := by rw [hbZ'.cell (by show w.heap.size < _; omega)]; exact b0
  have n1 : Z.cell? ⟨w.heap.size, 1, none⟩ = some (.int .i64 0) := by rw [hbZ'.cell (by show w.heap.size < _; omega)]; exact b1
  have n2 : Z.cell? ⟨w.heap.size, 2, none⟩ = some (.int .i64 0) := by rw [hbZ'.cell (by show w.heap.size < _; omega)]; exact b2
  have n3 : ∀ o, Z.frozen? ⟨w.heap.size, o, none⟩ = false := fun o => by rw [hbZ'.frozen (by show w.heap.size < _; omega)]; exact HB3.out o
  have q3 : Z.cell? ⟨Q, 3, none⟩ = some (.slice (some ⟨g, 0, none⟩) L cap) := by rw [hbZ'.cell (by show Q < _; omega)]; exact X3
  have qf : Z.frozen? ⟨Q, 3, none⟩ = false := by rw [hbZ'.frozen (by show Q < _; omega)]; exact Xf
  have HZZ := Lib.hid hZ
  have HHZ := Lib.hid (HHX.out.below hbZ')
  have HBZ := Lib.hid hbZ'
  have HN3 := Lib.hid n3
  have hcap : L ≤ cap := by have := HH.out.le; rw [HLL.out] at this; exact this
  have hMc : (M : Int) ≤ (cap : Int) := by omega
  have hMc' : M ≤ cap := by omega
  rw [← hZ]
  clear hZ hbZ' n3 Z3 Zy0 Zy1 Zy2 X3 Xy0 Xy1 Xy2 Xf a0 a1 a2 b0 b1 b2 hbZ
  go_wp2_with (fail)
  go_region
  obtain ⟨U, hU⟩ : ∃ U, U = Z.setCell ⟨Q, 3, none⟩ (.slice (some ⟨g, 0, none⟩) M cap) := ⟨_, rfl⟩
  have hU0 := HHZ.out.cut
  rw [HLL.out, HMM.out, ← hU] at hU0
  have hUb : ∀ b, b ≠ Q → U.heap[b]? = Z.heap[b]? := fun b hb => by rw [hU]; exact Below.heap_setCell _ _ _ _ hb
  have hUs : U.heap.size = w.heap.size + 3 := by rw [hU]; simpa [World.setCell] using hZs
  have hUc : ∀ o, o ≠ 3 → U.cell? ⟨Q, o, none⟩ = Z.cell? ⟨Q, o, none⟩ := fun o ho => by rw [hU]; exact World.cell?_setCell_other _ _ _ _ (by simp <;> omega)
  have hUf : ∀ o, U.frozen? ⟨Q, o, none⟩ = Z.frozen? ⟨Q, o, none⟩ := fun o => by rw [hU, World.frozen?_setCell]
  have hUk : Keep (fun q => q = Q ∨ q = g ∨ q = bm) w U := ((Below.keep HBX.out (Nat.le_refl _) _).trans (Below.keep HBZ.out (Nat.le_refl _) _)).trans (by rw [hU]; exact keep_set _ Q _ _ _ (.inl rfl))
  have cU : ∀ b o, b ≠ Q → U.cell? ⟨b, o, none⟩ = Z.cell? ⟨b, o, none⟩ := fun b o hb => World.cell?_of_block (hUb b hb)
  have u0 := (cU (w.heap.size + 1) 0 (by omega)).trans c0
  have u1 := (cU (w.heap.size + 1) 1 (by omega)).trans c1
  have u2 := (cU (w.heap.size + 1) 2 (by omega)).trans c2
  have p0 := (cU (w.heap.size + 2) 0 (by omega)).trans e0
  have p1 := (cU (w.heap.size + 2) 1 (by omega)).trans e1
  have p2 := (cU (w.heap.size + 2) 2 (by omega)).trans e2
  have m0 := (cU w.heap.size 0 (by omega)).trans n0
  have m1 := (cU w.heap.size 1 (by omega)).trans n1
  have m2 := (cU w.heap.size 2 (by omega)).trans n2
  have m3 : ∀ o, U.frozen? ⟨w.heap.size, o, none⟩ = false := fun o => by rw [hU, World.frozen?_setCell]; exact HN3.out o
  have hSU : U.drew.drew.drew.cell? ⟨w.heap.size + 1, 0, none⟩ = some (.int .i64 t) ∧ U.drew.drew.drew.cell? ⟨w.heap.size + 1, 1, none⟩ = some (.int .i64 id) ∧ U.drew.drew.drew.cell? ⟨w.heap.size + 1, 2, none⟩ = some (.int .i64 item) ∧ U.drew.drew.drew.cell? ⟨Q, 4, none⟩ = some (.map (some bm)) := ⟨u0, u1, u2, hU0.q4⟩
  have hwU : w.heap.size + 1 < U.drew.drew.drew.heap.size := by simp; omega
  have hQU : Q < U.drew.drew.drew.heap.size := by simp; omega
  have HU0 := Lib.hid hU0
  have hgQ : g ≠ Q := fun e => HH.out.ne1 e.symm
  have hbQ : bm ≠ Q := fun e => HH.out.ne2 e.symm
  have harm : ∀ w3, Below U.drew.drew.drew.heap.size U.drew.drew.drew w3 → ∃ w4, (Builtin.delete_ #[49, 3] 0 #[.map (some bm), .int .i64 id]).run Try.prog w3 = .ok (.tuple #[]) w4 ∧ HS w4 Q g cap bm N (cutR l) (upd F id none) ∧ Keep (fun q => q = g ∨ q = bm) U w4 ∧
      (w3.cell? ⟨w.heap.size + 1, 0, none⟩ = some (.int .i64 t) ∧ w3.cell? ⟨w.heap.size + 1, 1, none⟩ = some (.int .i64 id) ∧ w3.cell? ⟨w.heap.size + 1, 2, none⟩ = some (.int .i64 item) ∧ w3.cell? ⟨Q, 4, none⟩ = some (.map (some bm))) ∧
      (w4.cell? ⟨w.heap.size + 1, 0, none⟩ = some (.int .i64 t) ∧ w4.cell? ⟨w.heap.size + 1, 1, none⟩ = some (.int .i64 id) ∧ w4.cell? ⟨w.heap.size + 1, 2, none⟩ = some (.int .i64 item) ∧ w4.cell? ⟨Q, 4, none⟩ = some (.map (some bm))) := by
    intro w3 hb3
    have hS3 := four_low hb3 hwU hQU hSU
    have hH3 := (HU0.out.below ((Below.refl U.heap.size U).drew.drew.drew)).below hb3
    obtain ⟨w4, hrun, hM4, hg4⟩ := hH3.map.del id hwx 0
    have hs3 := hb3.size
    have hS4 := four_grown hg4 (by omega) (by omega) (fun e => by omega) HU0.out.ne2 hS3
    have hk3 : Keep (fun q => q = g ∨ q = bm) U w3 := (Below.keep ((Below.refl U.heap.size U).drew.drew.drew) (Nat.le_refl _) _).trans (Below.keep hb3 (Nat.le_refl _) _)
    exact ⟨w4, hrun, hH3.setMap hg4 hM4, hk3.trans (grown_keep hg4 (.inr rfl)), hS3, hS4⟩
  have HARM := Lib.hid harm
  have HUU := Lib.hid hU
  have HUC := Lib.hid hUc
  have HUF := Lib.hid hUf
  have HUK := Lib.hid hUk
  have HM3 := Lib.hid m3
  rw [← hU]
  clear harm hU hU0 hUb hUc hUf hUk cU m3 e0 e1 e2 c0 c1 c2 n0 n1 n2 q3 qf
  go_wp2_with (fail)
  go_region_held_law (fun w' => w'.cell? ⟨w.heap.size + 1, 0, none⟩ = some (.int .i64 t) ∧ w'.cell? ⟨w.heap.size + 1, 1, none⟩ = some (.int .i64 id) ∧ w'.cell? ⟨w.heap.size + 1, 2, none⟩ = some (.int .i64 item) ∧ w'.cell? ⟨Q, 4, none⟩ = some (.map (some bm)))
    (first | exact hSU | assumption)
    ((first | (go_at_call 60; refine (number_any ⟨t, id, item⟩ _).mono ?_; rintro e w3 ⟨rfl, hb3⟩; obtain ⟨w4, hrun, hH4, hk4, hS3, hS4⟩ := HARM.out w3 hb3)))
  have hH5 := hH4.q3
  rw [cutR_len, HLL.out, HMM.out] at hH5
  obtain ⟨s0, s1, s2, s4⟩ := hS4
  have hbU : ∀ b, b < U.heap.size → ¬ (b = g ∨ b = bm) → w4.heap[b]? = U.heap[b]? := hk4.block
  have v0 : w4.cell? ⟨w.heap.size + 2, 0, none⟩ = some (.int .i64 yt) := (World.cell?_of_block (hbU (w.heap.size + 2) (by omega) (by omega))).trans p0
  have v1 : w4.cell? ⟨w.heap.size + 2, 1, none⟩ = some (.int .i64 yid) := (World.cell?_of_block (hbU (w.heap.size + 2) (by omega) (by omega))).trans p1
  have v2 : w4.cell? ⟨w.heap.size + 2, 2, none⟩ = some (.int .i64 yitem) := (World.cell?_of_block (hbU (w.heap.size + 2) (by omega) (by omega))).trans p2
  have r0 : w4.cell? ⟨w.heap.size, 0, none⟩ = some (.int .i64 0) := (World.cell?_of_block (hbU w.heap.size (by omega) (by omega))).trans m0
  have r1 : w4.cell? ⟨w.heap.size, 1, none⟩ = some (.int .i64 0) := (World.cell?_of_block (hbU w.heap.size (by omega) (by omega))).trans m1
  have r2 : w4.cell? ⟨w.heap.size, 2, none⟩ = some (.int .i64 0) := (World.cell?_of_block (hbU w.heap.size (by omega) (by omega))).trans m2
  have rf0 : w4.frozen? ⟨w.heap.size, 0, none⟩ = false := (World.frozen?_of_block (hbU w.heap.size (by omega) (by omega))).trans (HM3.out 0)
  have rf1 : w4.frozen? ⟨w.heap.size, 1, none⟩ = false := (World.frozen?_of_block (hbU w.heap.size (by omega) (by omega))).trans (HM3.out 1)
  have rf2 : w4.frozen? ⟨w.heap.size, 2, none⟩ = false := (World.frozen?_of_block (hbU w.heap.size (by omega) (by omega))).trans (HM3.out 2)
  have hkw : Keep (fun q => q = Q ∨ q = g ∨ q = bm) w w4 := HUK.out.trans ⟨hk4.os, hk4.tape, hk4.output, hk4.size, fun b h1 h2 => hk4.block b h1 (fun q => h2 (.inr q))⟩
  have hcQ : ∀ o, o ≠ 3 → w4.cell? ⟨Q, o, none⟩ = w.cell? ⟨Q, o, none⟩ := fun o ho => by
    rw [World.cell?_of_block (hbU Q (by omega) (by omega)), HUC.out o ho, HBZ.out.cell (by show Q < _; omega), HBX.out.cell (by exact hQ)]
  have hfQ : ∀ o, w4.frozen? ⟨Q, o, none⟩ = w.frozen? ⟨Q, o, none⟩ := fun o => by
    rw [World.frozen?_of_block (hbU Q (by omega) (by omega)), HUF.out o, HBZ.out.frozen (by show Q < _; omega), HBX.out.frozen (by exact hQ)]
  have HH4 := Lib.hid hH4
  have HKW := Lib.hid hkw
  have HCQ := Lib.hid hcQ
  have HFQ := Lib.hid hfQ
  have hs4 := hk4.size
  clear hH4 hk4 hkw hcQ hfQ hbU hS3 hSU hb3 u0 u1 u2 p0 p1 p2 m0 m1 m2
  by_cases hlt : i < M
  · have hlti : (i : Int) < (M : Int) := by omega
    have hltd : decide (i < M) = true := decide_eq_true hlt
    have HC := Lib.hid (put_any Q g cap bm N i (cutR l) (upd F id none) ⟨yt, yid, yitem⟩ w4 HH4.out (by rw [cutR_len]; omega) hwy (by omega) (by rw [cutR_len]; omega))
    go_wp2_with (fail)
    refine HC.out.mono ?_
    rintro e w5 ⟨rfl, hp5, hk5⟩
    have hil1 : i < l.length - 1 := by rw [HLL.out, HMM.out]; exact hlt
    have hfl : (cutR l).set i ⟨yt, yid, yitem⟩ = fillR l i := by unfold fillR; rw [HY.out]
    rw [hfl] at hp5
    have hcons5 : Cons (fillR l i) (upd (upd F id none) yid (some i)) := by
      have := HCONS.out.fill HIDS.out hil1
      rw [HX.out, HY.out] at this
      exact this
    have hgi : gt (fillR l i) i = ⟨yt, yid, yitem⟩ := by rw [gt_fill hil1 hil1, if_pos rfl, HY.out]
    have hids5 := HIDS.out.fill hil1
    have HCU := Lib.hid (up_any Q g cap bm (N + 1) i (fillR l i) _ False w5 hp5 (by rw [fillR_len]; exact hil1) hids5 (HHEAP.out.fill hil1) (fun h => h.elim) (hcons5.ex i) (by omega) (by rw [fillR_len]; omega))
    have HK5 := Lib.hid hk5
    have HIDS5 := Lib.hid hids5
    have HGI := Lib.hid hgi
    clear hp5 hk5 hfl hcons5 hids5 hgi
    go_wp2_with (fail)
    refine HCU.out.mono ?_
    rintro e w6 ⟨rfl, hup⟩
    obtain ⟨v6, F6, N6, k, hH6, hN6, hperm6, hk6, hat6, hdn6, -, hcons6⟩ := hup.ex
    rw [HGI.out] at hat6
    have hkeep6 := HK5.out.trans hup.keep
    have hs6 := hkeep6.size
    have hbU : ∀ b, b < w4.heap.size → ¬ (b = g ∨ b = bm) → w6.heap[b]? = w4.heap[b]? := hkeep6.block
    have f0 : w6.drew.cell? ⟨w.heap.size + 2, 0, none⟩ = some (.int .i64 yt) := (World.cell?_of_block (hbU (w.heap.size + 2) (by omega) (by omega))).trans v0
    have f1 : w6.drew.cell? ⟨w.heap.size + 2, 1, none⟩ = some (.int .i64 yid) := (World.cell?_of_block (hbU (w.heap.size + 2) (by omega) (by omega))).trans v1
    have f2 : w6.drew.cell? ⟨w.heap.size + 2, 2, none⟩ = some (.int .i64 yitem) := (World.cell?_of_block (hbU (w.heap.size + 2) (by omega) (by omega))).trans v2
    have hS6 : w6.drew.cell? ⟨w.heap.size + 2, 0, none⟩ = some (.int .i64 yt) ∧ w6.drew.cell? ⟨w.heap.size + 2, 1, none⟩ = some (.int .i64 yid) ∧ w6.drew.cell? ⟨w.heap.size + 2, 2, none⟩ = some (.int .i64 yitem) ∧ w6.drew.cell? ⟨Q, 4, none⟩ = some (.map (some bm)) := ⟨f0, f1, f2, hH6.q4⟩
    have hw6 : w.heap.size + 2 < w6.drew.heap.size := by simp; omega
    have hQ6 : Q < w6.drew.heap.size := by simp; omega
    have hF6 : F6 yid = some k := by have := hcons6.1 k hk6; rw [hat6] at this; exact this
    have hids6 := HIDS5.out.perm hperm6
    have hlen6 : v6.length ≤ 1000000 := by rw [hperm6.length_eq, fillR_len]; omega
    have harm8 : ∀ w7, Below w6.drew.heap.size w6.drew w7 → (Instr.lookup 49 (.map (some bm)) (.int .i64 yid) false).run Try.prog w7 = .ok (.int .i64 (k : Int)) w7 ∧ HS w7 Q g cap bm N6 v6 F6 ∧ Keep (fun q => q = g ∨ q = bm) w4 w7 ∧
        (w7.cell? ⟨w.heap.size + 2, 0, none⟩ = some (.int .i64 yt) ∧ w7.cell? ⟨w.heap.size + 2, 1, none⟩ = some (.int .i64 yid) ∧ w7.cell? ⟨w.heap.size + 2, 2, none⟩ = some (.int .i64 yitem) ∧ w7.cell? ⟨Q, 4, none⟩ = some (.map (some bm))) := by
      intro w7 hb7
      have hH7 := (hH6.below ((Below.refl w6.heap.size w6).drew)).below hb7
      have hrun := hH7.map.look yid hwy
      rw [hF6] at hrun
      exact ⟨hrun, hH7, (hkeep6.trans (Below.keep ((Below.refl w6.heap.size w6).drew) (Nat.le_refl _) _)).trans (Below.keep hb7 (Nat.le_refl _) _), four_low hb7 hw6 hQ6 hS6⟩
    have CDN : ∀ w7, HS w7 Q g cap bm N6 v6 F6 → Keep (fun q => q = g ∨ q = bm) w4 w7 → (w7.cell? ⟨w.heap.size + 2, 0, none⟩ = some (.int .i64 yt) ∧ w7.cell? ⟨w.heap.size + 2, 1, none⟩ = some (.int .i64 yid) ∧ w7.cell? ⟨w.heap.size + 2, 2, none⟩ = some (.int .i64 yitem) ∧ w7.cell? ⟨Q, 4, none⟩ = some (.map (some bm))) →
        Calls Try.prog 41 #[.pointer (some ⟨Q, 3, none⟩), .int .i64 k] w7 fun e w' => e = .returned (.tuple #[]) ∧ DnPost w7 Q g cap bm N6 v6 w' ∧ Keep (fun q => q = g ∨ q = bm) w4 w' ∧
          (w'.cell? ⟨w.heap.size + 2, 0, none⟩ = some (.int .i64 yt) ∧ w'.cell? ⟨w.heap.size + 2, 1, none⟩ = some (.int .i64 yid) ∧ w'.cell? ⟨w.heap.size + 2, 2, none⟩ = some (.int .i64 yitem) ∧ w'.cell? ⟨Q, 4, none⟩ = some (.map (some bm))) := fun w7 h1 h2 h3 => by
      refine (down_any Q g cap bm N6 k v6 F6 w7 h1 hk6 hids6 hdn6 (hcons6.ex k) (by omega) hlen6).mono fun e w' q => ⟨q.1, q.2, h2.trans q.2.keep, ?_⟩
      have hs7 := h2.size
      have hb8 := q.2.keep.block
      obtain ⟨g0, g1, g2, g3⟩ := h3
      exact ⟨(World.cell?_of_block (hb8 (w.heap.size + 2) (by omega) (by omega))).trans g0, (World.cell?_of_block (hb8 (w.heap.size + 2) (by omega) (by omega))).trans g1, (World.cell?_of_block (hb8 (w.heap.size + 2) (by omega) (by omega))).trans g2, (World.cell?_of_block (hb8 Q (by omega) (by omega))).trans g3⟩
    have HARM8 := Lib.hid harm8
    have HCDN := Lib.hid CDN
    have HPERM := Lib.hid (hperm6.trans (fill_perm hil1))
    have HLEN6 := Lib.hid (show v6.length = l.length - 1 by rw [hperm6.length_eq, fillR_len])
    have HN6 := Lib.hid hN6
    clear harm8 CDN f0 f1 f2 hH6 hup hkeep6 hbU hdn6 hcons6 hids6 hperm6 hat6
    go_wp2_with (fail)
    go_region_held_law (fun w' => w'.cell? ⟨w.heap.size + 2, 0, none⟩ = some (.int .i64 yt) ∧ w'.cell? ⟨w.heap.size + 2, 1, none⟩ = some (.int .i64 yid) ∧ w'.cell? ⟨w.heap.size + 2, 2, none⟩ = some (.int .i64 yitem) ∧ w'.cell? ⟨Q, 4, none⟩ = some (.map (some bm)))
      (first | exact hS6 | assumption)
      ((first
        | (go_at_call 60; refine (number_any ⟨yt, yid, yitem⟩ _).mono ?_; rintro e w7 ⟨rfl, hb7⟩; obtain ⟨hrun7, hH7, hk7, hS7⟩ := HARM8.out w7 hb7; have HH7 := Lib.hid hH7; clear hH7)
        | (go_at_call 41; refine (HCDN.out _ HH7.out hk7 hS7).mono ?_; rintro e w8 ⟨rfl, hdp, hk8, hS8⟩)))
    all_goals
      obtain ⟨v8, F8, N8, hH8, hN8, hperm8, hheap8, hcons8⟩ := hdp.ex
      have hs8 := hk8.size
      have hb8 : ∀ b, b < w4.heap.size → ¬ (b = g ∨ b = bm) → w8.heap[b]? = w4.heap[b]? := hk8.block
      have R0 : w8.cell? ⟨w.heap.size, 0, none⟩ = some (.int .i64 0) := (World.cell?_of_block (hb8 w.heap.size (by omega) (by omega))).trans r0
      have R1 : w8.cell? ⟨w.heap.size, 1, none⟩ = some (.int .i64 0) := (World.cell?_of_block (hb8 w.heap.size (by omega) (by omega))).trans r1
      have R2 : w8.cell? ⟨w.heap.size, 2, none⟩ = some (.int .i64 0) := (World.cell?_of_block (hb8 w.heap.size (by omega) (by omega))).trans r2
      have RF0 : w8.frozen? ⟨w.heap.size, 0, none⟩ = false := (World.frozen?_of_block (hb8 w.heap.size (by omega) (by omega))).trans rf0
      have RF1 : w8.frozen? ⟨w.heap.size, 1, none⟩ = false := (World.frozen?_of_block (hb8 w.heap.size (by omega) (by omega))).trans rf1
      have RF2 : w8.frozen? ⟨w.heap.size, 2, none⟩ = false := (World.frozen?_of_block (hb8 w.heap.size (by omega) (by omega))).trans rf2
      have S0 : w8.cell? ⟨w.heap.size + 1, 0, none⟩ = some (.int .i64 t) := (World.cell?_of_block (hb8 (w.heap.size + 1) (by omega) (by omega))).trans s0
      have S1 : w8.cell? ⟨w.heap.size + 1, 1, none⟩ = some (.int .i64 id) := (World.cell?_of_block (hb8 (w.heap.size + 1) (by omega) (by omega))).trans s1
      have S2 : w8.cell? ⟨w.heap.size + 1, 2, none⟩ = some (.int .i64 item) := (World.cell?_of_block (hb8 (w.heap.size + 1) (by omega) (by omega))).trans s2
      have HRM : Hid (RmPost w Q g cap bm N l i w8) := Lib.hid ⟨⟨v8, F8, N8, hH8, by have := HN6.out; have := HLEN6.out; omega, hperm8.trans HPERM.out, hheap8, hcons8⟩, HKW.out.trans ⟨hk8.os, hk8.tape, hk8.output, hk8.size, fun b h1 h2 => hk8.block b h1 (fun q => h2 (.inr q))⟩, fun o ho => (World.cell?_of_block (hb8 Q (by omega) (by omega))).trans (HCQ.out o ho), fun o => (World.frozen?_of_block (hb8 Q (by omega) (by omega))).trans (HFQ.out o)⟩
      clear hb8 hk8 hdp hS8
      go_wp2_with (fail)
      refine bodyPost_ret (v := .agg #[.int .i64 t, .int .i64 id, .int .i64 item]) ?_ rfl ⟨rfl, ?_⟩
      · simp [results, Try.results31, go_sem, R0, R1, R2]
      · exact HRM.out.fin (Nat.le_refl _) hQ hg hbm _ _ _
  · have hlti : ¬ (i : Int) < (M : Int) := by omega
    have hltd : decide (i < M) = false := decide_eq_false hlt
    have hLi : ¬ i < l.length - 1 := by rw [HLL.out, HMM.out]; exact hlt
    have HRM : Hid (RmPost w Q g cap bm N l i w4) := Lib.hid ⟨⟨cutR l, _, N, HH4.out, by omega, by rw [cut_erase (by rw [HLL.out]; exact hiL) hLi], HHEAP.out.cut, by have := HCONS.out.cut HIDS.out (by rw [HLL.out]; exact hiL) hLi; rw [HX.out] at this; exact this⟩, HKW.out, HCQ.out, HFQ.out⟩
    go_wp2_with (fail)
    refine bodyPost_ret (v := .agg #[.int .i64 t, .int .i64 id, .int .i64 item]) ?_ rfl ⟨rfl, ?_⟩
    · simp [results, Try.results31, go_sem, r0, r1, r2]
    · exact HRM.out.fin (Nat.le_refl _) hQ hg hbm _ _ _
end Go.Proofs.Ytknoigleejbjdaa
