/- The plain mathematics of mixing: words of a byte string, tags, derived keys, folded lists, and that mixing is one to one in each argument. No program here. -/
import Derived.Laws.Entries
import Derived.Laws.Bits64
import Derived.Laws.Bits64b
import Derived.Laws.BitsLemmas
namespace Go.Proofs.YtmhgoknbmbicmaaDoor
set_option linter.unusedVariables false
set_option linter.unusedSimpArgs false

/-- one step: '(x ^ x>>s) * f', d being 2^s -/
def mstep (x : Int) (d f : Int) : Int := IntKind.u64.wrap (bits BinOp.xor IntKind.u64 x (x / d) * f)
def mx0 (a b : Int) : Int := IntKind.u64.wrap (a + IntKind.u64.wrap (11400714819323198485 * IntKind.u64.wrap (b + 1)))
def mxk (a b : Int) : Nat → Int
  | 0 => mx0 a b
  | 1 => mstep (mx0 a b) 1073741824 13787848793156543929
  | _ => mstep (mstep (mx0 a b) 1073741824 13787848793156543929) 134217728 10723151780598845931
/-- Mix, laid open -/
def mxd (a b : Int) : Int := bits BinOp.xor IntKind.u64 (mxk a b 2) (mxk a b 2 / 2147483648)
theorem mxi_exists : ∃ f : Int → Int → Int, ∀ a b, f a b = mxd a b := ⟨mxd, fun _ _ => rfl⟩
/-- Mix, by a name that nothing unfolds -/
noncomputable def mxi : Int → Int → Int := Classical.choose mxi_exists
theorem mxi_eq (a b : Int) : mxi a b = mxd a b := Classical.choose_spec mxi_exists a b

/-- a number of the kind u64 -/
def U64 (x : Int) : Prop := 0 ≤ x ∧ x < 18446744073709551616

theorem u64_nat {x : Int} (h : U64 x) : ∃ n : Nat, n < 18446744073709551616 ∧ x = n := ⟨x.toNat, by unfold U64 at h; omega, by unfold U64 at h; omega⟩
theorem u64_wrap (x : Int) : U64 (IntKind.u64.wrap x) := by rw [IntKind.wrap_u64]; unfold U64; omega
theorem u64_wrap_eq {x : Int} (h : U64 x) : IntKind.u64.wrap x = x := by rw [IntKind.wrap_u64]; unfold U64 at h; omega
theorem mstep_u64 (x d f : Int) : U64 (mstep x d f) := u64_wrap _
theorem xs_u64 {x : Int} (h : U64 x) (s : Nat) : U64 (bits BinOp.xor IntKind.u64 x (x / (s : Int))) := by
  obtain ⟨n, hn, rfl⟩ := u64_nat h
  rw [xorShift_u64 n s hn]
  have := Nat.xor_lt_two_pow (n := 64) (x := n) (y := n / s) (by omega) (Nat.lt_of_le_of_lt (Nat.div_le_self _ _) (by omega))
  unfold U64; omega
theorem mxk_u64 (a b : Int) (k : Nat) : U64 (mxk a b k) := by
  unfold mxk
  split
  · exact u64_wrap _
  · exact u64_wrap _
  · exact u64_wrap _
theorem mxi_u64 (a b : Int) : U64 (mxi a b) := by rw [mxi_eq]; exact xs_u64 (mxk_u64 a b 2) 2147483648

/-! ### one to one -/
theorem xor_shift_inj (x y : BitVec 64) (s : Nat) (hs : 0 < s) (h : x ^^^ (x >>> s) = y ^^^ (y >>> s)) : x = y := by
  have key : ∀ d : Nat, ∀ i, 64 - i ≤ d → x.getLsbD i = y.getLsbD i := by
    intro d
    induction d with
    | zero =>
      intro i hi
      rw [BitVec.getLsbD_of_ge x i (by omega), BitVec.getLsbD_of_ge y i (by omega)]
    | succ d ih =>
      intro i hi
      by_cases hl : 64 ≤ i
      · rw [BitVec.getLsbD_of_ge x i hl, BitVec.getLsbD_of_ge y i hl]
      · have e := congrArg (fun v : BitVec 64 => v.getLsbD i) h
        simp only [BitVec.getLsbD_xor, BitVec.getLsbD_ushiftRight] at e
        rw [ih (s + i) (by omega)] at e
        revert e
        cases x.getLsbD i <;> cases y.getLsbD i <;> cases y.getLsbD (s + i) <;> simp
  apply BitVec.eq_of_getLsbD_eq
  intro i hi
  exact key 64 i (by omega)

theorem xs_inj {x y : Int} (hx : U64 x) (hy : U64 y) (s : Nat) (hs : 0 < s) (h : bits BinOp.xor IntKind.u64 x (x / ((2 ^ s : Nat) : Int)) = bits BinOp.xor IntKind.u64 y (y / ((2 ^ s : Nat) : Int))) : x = y := by
  obtain ⟨n, hn, rfl⟩ := u64_nat hx
  obtain ⟨m, hm, rfl⟩ := u64_nat hy
  rw [xorShift_u64 n _ hn, xorShift_u64 m _ hm] at h
  have h' : n ^^^ n / 2 ^ s = m ^^^ m / 2 ^ s := by exact_mod_cast h
  have e := xor_shift_inj (BitVec.ofNat 64 n) (BitVec.ofNat 64 m) s hs (by
    apply BitVec.eq_of_toNat_eq
    simp only [BitVec.toNat_xor, BitVec.toNat_ushiftRight, BitVec.toNat_ofNat, Nat.shiftRight_eq_div_pow]
    rw [Nat.mod_eq_of_lt (by omega), Nat.mod_eq_of_lt (by omega)]
    exact h')
  have e' := congrArg BitVec.toNat e
  simp only [BitVec.toNat_ofNat] at e'
  rw [Nat.mod_eq_of_lt (by omega), Nat.mod_eq_of_lt (by omega)] at e'
  omega

theorem mul_inj {x y f g : Int} (hx : U64 x) (hy : U64 y) (hfg : f * g % 18446744073709551616 = 1) (h : IntKind.u64.wrap (x * f) = IntKind.u64.wrap (y * f)) : x = y := by
  rw [IntKind.wrap_u64, IntKind.wrap_u64] at h
  have e : (x * f * g) % 18446744073709551616 = (y * f * g) % 18446744073709551616 := by
    rw [Int.mul_emod (x * f), h, ← Int.mul_emod]
  rw [Int.mul_assoc, Int.mul_assoc, Int.mul_emod x, Int.mul_emod y, hfg] at e
  unfold U64 at hx hy
  omega

theorem mstep_inj {x y f g : Int} (s : Nat) (hs : 0 < s) (hx : U64 x) (hy : U64 y) (hfg : f * g % 18446744073709551616 = 1) (h : mstep x ((2 ^ s : Nat) : Int) f = mstep y ((2 ^ s : Nat) : Int) f) : x = y :=
  xs_inj hx hy s hs (mul_inj (xs_u64 hx _) (xs_u64 hy _) hfg h)

theorem mx0_of_mxi {a b c d : Int} (h : mxi a b = mxi c d) : mx0 a b = mx0 c d := by
  rw [mxi_eq, mxi_eq] at h
  have h2 : mxk a b 2 = mxk c d 2 := xs_inj (mxk_u64 _ _ _) (mxk_u64 _ _ _) 31 (by omega) h
  have h1 : mxk a b 1 = mxk c d 1 := mstep_inj (g := 3573116690164977347) 27 (by omega) (mxk_u64 _ _ 1) (mxk_u64 _ _ 1) (by decide +kernel) h2
  exact mstep_inj (g := 10871156337175269513) 30 (by omega) (mxk_u64 _ _ 0) (mxk_u64 _ _ 0) (by decide +kernel) h1

theorem mxi_inj_right {a b c : Int} (hb : U64 b) (hc : U64 c) (h : mxi a b = mxi a c) : b = c := by
  have h0 := mx0_of_mxi h
  unfold mx0 at h0
  have h1 : IntKind.u64.wrap (IntKind.u64.wrap (b + 1) * 11400714819323198485) = IntKind.u64.wrap (IntKind.u64.wrap (c + 1) * 11400714819323198485) := by
    have u1 := u64_wrap (11400714819323198485 * IntKind.u64.wrap (b + 1))
    have u2 := u64_wrap (11400714819323198485 * IntKind.u64.wrap (c + 1))
    rw [Int.mul_comm _ 11400714819323198485, Int.mul_comm _ 11400714819323198485]
    unfold U64 at u1 u2
    rw [IntKind.wrap_u64 (a + _), IntKind.wrap_u64 (a + _)] at h0
    omega
  have h2 := mul_inj (g := 17428512612931826493) (u64_wrap _) (u64_wrap _) (by decide +kernel) h1
  rw [IntKind.wrap_u64, IntKind.wrap_u64] at h2
  unfold U64 at hb hc
  omega

theorem mxi_inj_left {a b c : Int} (ha : U64 a) (hc : U64 c) (h : mxi a b = mxi c b) : a = c := by
  have h0 := mx0_of_mxi h
  unfold mx0 at h0
  rw [IntKind.wrap_u64 (a + _), IntKind.wrap_u64 (c + _)] at h0
  unfold U64 at ha hc
  omega

/-! ### words -/
/-- the number of some bytes, the least significant one first -/
def wordOf : List Int → Int
  | [] => 0
  | b :: r => b + 256 * wordOf r
/-- the words of a byte string -/
def wordsOf (l : List Int) : List Int := if l = [] then [] else wordOf (l.take 8) :: wordsOf (l.drop 8)
termination_by l.length
decreasing_by
  rename_i h
  have : 0 < l.length := List.length_pos_iff.mpr h
  simp only [List.length_drop]; omega

theorem wordsOf_nil : wordsOf [] = [] := by rw [wordsOf]; simp
theorem wordsOf_cons {l : List Int} (h : l ≠ []) : wordsOf l = wordOf (l.take 8) :: wordsOf (l.drop 8) := by rw [wordsOf, if_neg h]

theorem getD_lt {α : Type} (l : List α) (d : α) (i : Nat) (h : i < l.length) : l.getD i d = l[i] := by
  rw [List.getD_eq_getElem?_getD, List.getElem?_eq_getElem h]; rfl
theorem getD_ge {α : Type} (l : List α) (d : α) (i : Nat) (h : l.length ≤ i) : l.getD i d = d := by
  rw [List.getD_eq_getElem?_getD, List.getElem?_eq_none h]; rfl

/-- the bytes of a list are bytes -/
def Bytes (l : List Int) : Prop := ∀ b ∈ l, 0 ≤ b ∧ b < 256

theorem Bytes.take {l : List Int} (h : Bytes l) (n : Nat) : Bytes (l.take n) := fun b hb => h b (List.mem_of_mem_take hb)
theorem Bytes.drop {l : List Int} (h : Bytes l) (n : Nat) : Bytes (l.drop n) := fun b hb => h b (List.mem_of_mem_drop hb)
theorem Bytes.getD {l : List Int} (h : Bytes l) (i : Nat) : 0 ≤ l.getD i 0 ∧ l.getD i 0 < 256 := by
  by_cases hi : i < l.length
  · rw [getD_lt _ _ _ hi]; exact h _ (List.getElem_mem hi)
  · rw [getD_ge _ _ _ (by omega)]; omega

theorem wordOf_bd : ∀ {l : List Int}, Bytes l → 0 ≤ wordOf l ∧ wordOf l < 256 ^ l.length
  | [], _ => by simp [wordOf]
  | b :: r, h => by
    have hb := h b (by simp)
    have hr := wordOf_bd (l := r) fun c hc => h c (by simp [hc])
    simp only [wordOf, List.length_cons, Int.pow_succ]
    omega

theorem wordOf_snoc : ∀ (l : List Int) (b : Int), wordOf (l ++ [b]) = wordOf l + b * 256 ^ l.length
  | [], b => by simp [wordOf]
  | a :: r, b => by
    simp only [List.cons_append, wordOf, wordOf_snoc r b, List.length_cons, Int.pow_succ]
    rw [Int.mul_add, ← Int.add_assoc, Int.mul_comm 256 (b * _), Int.mul_assoc]

theorem take_snoc (l : List Int) (k : Nat) (h : k < l.length) : l.take (k + 1) = l.take k ++ [l.getD k 0] := by
  rw [List.take_succ_eq_append_getElem h, getD_lt _ _ _ h]

theorem wordOf_take_succ (l : List Int) (k : Nat) (h : k < l.length) : wordOf (l.take (k + 1)) = wordOf (l.take k) + l.getD k 0 * 256 ^ k := by
  rw [take_snoc l k h, wordOf_snoc, List.length_take, Nat.min_eq_left (by omega)]

theorem wordOf_inj : ∀ {l m : List Int}, Bytes l → Bytes m → l.length = m.length → wordOf l = wordOf m → l = m
  | [], [], _, _, _, _ => rfl
  | [], _ :: _, _, _, h, _ => by simp at h
  | _ :: _, [], _, _, h, _ => by simp at h
  | a :: r, b :: s, hl, hm, h, e => by
    have ha := hl a (by simp)
    have hb := hm b (by simp)
    simp only [wordOf] at e
    have e1 : a = b := by omega
    have e2 : wordOf r = wordOf s := by omega
    rw [e1, wordOf_inj (fun c hc => hl c (by simp [hc])) (fun c hc => hm c (by simp [hc])) (by simpa using h) e2]

/-- the two ways in which the texts add a byte to a word -/
theorem byte_at (l : List Int) (h : Bytes l) (k : Nat) (b : Int) (hv : l.getD k 0 = b) (hk : k < l.length) (h8 : k < 8) : IntKind.u64.wrap (IntKind.u64.wrap b * 2 ^ (8 * k)) = b * 256 ^ k ∧ (b * 256 ^ k : Int) < 18446744073709551616 := by
  have hb := h.getD k
  rw [hv] at hb
  rw [u64_wrap_eq (x := b) (by unfold U64; omega), IntKind.wrap_u64]
  rcases (show k = 0 ∨ k = 1 ∨ k = 2 ∨ k = 3 ∨ k = 4 ∨ k = 5 ∨ k = 6 ∨ k = 7 by omega) with rfl | rfl | rfl | rfl | rfl | rfl | rfl | rfl <;> (simp; omega)
theorem or_step (l : List Int) (h : Bytes l) (k : Nat) (v : Int) (hv : l.getD k 0 = v) (hk : k < l.length) (h8 : k < 8) :
    bits BinOp.or IntKind.u64 (wordOf (l.take k)) (IntKind.u64.wrap (IntKind.u64.wrap v * 2 ^ (8 * k))) = wordOf (l.take (k + 1)) := by
  obtain ⟨e, lt⟩ := byte_at l h k v hv hk h8
  rw [e, wordOf_take_succ l k hk, hv]
  have hw := wordOf_bd (h.take k)
  rw [List.length_take, Nat.min_eq_left (by omega)] at hw
  have hb := h.getD k
  rw [hv] at hb
  clear hv
  generalize wordOf (l.take k) = a at *
  obtain ⟨A, rfl⟩ : ∃ A : Nat, a = A := ⟨a.toNat, by omega⟩
  obtain ⟨b, rfl⟩ : ∃ b : Nat, v = b := ⟨v.toNat, by omega⟩
  have e2 : ((b : Int) * 256 ^ k) = ((2 ^ (8 * k) * b : Nat) : Int) := by
    rw [Int.natCast_mul, Int.natCast_pow, Int.pow_mul, Int.mul_comm]; rfl
  have hA : A < 2 ^ (8 * k) := by
    have : (A : Int) < ((2 ^ (8 * k) : Nat) : Int) := by rw [Int.natCast_pow, Int.pow_mul]; exact hw.2
    omega
  have pl : (256 : Int) ^ k ≤ 18446744073709551616 := by
    rcases (show k = 0 ∨ k = 1 ∨ k = 2 ∨ k = 3 ∨ k = 4 ∨ k = 5 ∨ k = 6 ∨ k = 7 by omega) with rfl | rfl | rfl | rfl | rfl | rfl | rfl | rfl <;> decide
  rw [e2] at lt ⊢
  rw [bits_or_u64_nat A (2 ^ (8 * k) * b) (by omega) (by omega), Nat.or_comm, ← Nat.two_pow_add_eq_or_of_lt hA]
  omega
theorem add_step (l : List Int) (h : Bytes l) (k : Nat) (v : Int) (hv : l.getD k 0 = v) (hk : k < l.length) (h8 : k < 8) :
    IntKind.u64.wrap (wordOf (l.take k) + IntKind.u64.wrap (IntKind.u64.wrap v * 2 ^ (8 * k))) = wordOf (l.take (k + 1)) := by
  obtain ⟨e, lt⟩ := byte_at l h k v hv hk h8
  rw [e, ← hv, ← wordOf_take_succ l k hk]
  have := wordOf_bd (h.take (k + 1))
  rw [List.length_take, Nat.min_eq_left (by omega)] at this
  refine u64_wrap_eq ⟨this.1, Int.lt_of_lt_of_le this.2 ?_⟩
  rcases (show k = 0 ∨ k = 1 ∨ k = 2 ∨ k = 3 ∨ k = 4 ∨ k = 5 ∨ k = 6 ∨ k = 7 by omega) with rfl | rfl | rfl | rfl | rfl | rfl | rfl | rfl <;> decide

/-! ### tags, keys, lists -/
noncomputable def tagI (k0 k1 : Int) (l : List Int) : Int := mxi ((wordsOf l).foldl mxi (mxi k0 k1)) l.length
noncomputable def der0 (k0 k1 : Int) (l : List Int) : Int := mxi (tagI k0 k1 l) 1
noncomputable def der1 (k0 k1 : Int) (l : List Int) : Int := mxi (tagI k0 k1 l) 2
noncomputable def foldI (l : List Int) : Int := l.foldl mxi 0

theorem tagI_u64 (k0 k1 : Int) (l : List Int) : U64 (tagI k0 k1 l) := mxi_u64 _ _
theorem foldl_mxi_u64 (l : List Int) : ∀ h : Int, U64 h → U64 (l.foldl mxi h) := by
  induction l with
  | nil => exact fun h hh => hh
  | cons a r ih => exact fun h _ => ih _ (mxi_u64 h a)
theorem foldI_u64 (l : List Int) : U64 (foldI l) := foldl_mxi_u64 l 0 (by unfold U64; omega)
theorem foldI_snoc (l : List Int) (x : Int) : foldI (l ++ [x]) = mxi (foldI l) x := by unfold foldI; rw [List.foldl_append]; rfl

theorem pow256_le (n : Nat) (h : n ≤ 8) : (256 : Int) ^ n ≤ 18446744073709551616 := by
  rcases (show n = 0 ∨ n = 1 ∨ n = 2 ∨ n = 3 ∨ n = 4 ∨ n = 5 ∨ n = 6 ∨ n = 7 ∨ n = 8 by omega) with rfl | rfl | rfl | rfl | rfl | rfl | rfl | rfl | rfl <;> decide
theorem wordOf_u64 {l : List Int} (h : Bytes l) (h8 : l.length ≤ 8) : U64 (wordOf l) := by
  have hb := wordOf_bd h
  have hp := pow256_le l.length h8
  unfold U64
  omega

/-- two byte strings of one length of at most eight bytes that differ have different tags under one key -/
theorem tagI_inj {k0 k1 : Int} {l m : List Int} (hl : Bytes l) (hm : Bytes m) (h : l.length = m.length) (h8 : l.length ≤ 8) (e : tagI k0 k1 l = tagI k0 k1 m) : l = m := by
  by_cases h0 : l = []
  · subst h0
    exact (List.eq_nil_of_length_eq_zero (by simpa using h.symm)).symm
  · have h1 : m ≠ [] := by
      intro hm0; subst hm0
      exact h0 (List.eq_nil_of_length_eq_zero (by simpa using h))
    unfold tagI at e
    have one : ∀ q : List Int, q ≠ [] → q.length ≤ 8 → (wordsOf q).foldl mxi (mxi k0 k1) = mxi (mxi k0 k1) (wordOf q) := by
      intro q hq h8
      rw [wordsOf_cons hq, List.drop_of_length_le h8, List.take_of_length_le h8, wordsOf_nil]; rfl
    rw [one l h0 h8, one m h1 (by omega), h] at e
    have e1 := mxi_inj_left (mxi_u64 _ _) (mxi_u64 _ _) e
    have e2 := mxi_inj_right (wordOf_u64 hl h8) (wordOf_u64 hm (by omega)) e1
    exact wordOf_inj hl hm h e2

theorem der_ne (k0 k1 : Int) (l : List Int) : der0 k0 k1 l ≠ der1 k0 k1 l := by
  intro e
  have := mxi_inj_right (a := tagI k0 k1 l) (b := 1) (c := 2) (by unfold U64; omega) (by unfold U64; omega) e
  omega
theorem der_inj {k0 k1 : Int} {l m : List Int} (hl : Bytes l) (hm : Bytes m) (h : l.length = m.length) (h8 : l.length ≤ 8) (e : der0 k0 k1 l = der0 k0 k1 m) : l = m :=
  tagI_inj hl hm h h8 (mxi_inj_left (tagI_u64 _ _ _) (tagI_u64 _ _ _) e)

end Go.Proofs.YtmhgoknbmbicmaaDoor
