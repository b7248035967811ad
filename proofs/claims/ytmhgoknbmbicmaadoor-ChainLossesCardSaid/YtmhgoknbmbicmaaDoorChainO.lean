/- The numbers of the chapter's example: two keys of the chain of 7 differ. -/
import Derived.Test.YtmhgoknbmbicmaaDoorChainN
namespace Go.Proofs.YtmhgoknbmbicmaaDoor
open Go.RowKit
set_option linter.unusedVariables false
set_option linter.unusedSimpArgs false

/-- below, laid open -/
def cbl (k : Int × Int) : Int × Int := (mxd (mxd (mxd (mxd k.1 k.2) 1853321060) 4) 1, mxd (mxd (mxd (mxd k.1 k.2) 1853321060) 4) 2)
theorem down_words : wordsOf down = [1853321060] := by
  rw [wordsOf_cons (by decide), show (down.drop 8) = [] from rfl, wordsOf_nil]; decide +kernel
theorem belowI_cbl (k : Int × Int) : belowI k = cbl k := by
  unfold belowI cbl der0 der1 tagI
  rw [down_words]
  simp only [List.foldl_cons, List.foldl_nil, mxi_eq]
  rfl
def cdn : Nat → Int × Int → Int × Int
  | 0, k => k
  | n + 1, k => cbl (cdn n k)
theorem downN_cdn (n : Nat) (k : Int × Int) : downN n k = cdn n k := by
  induction n with
  | zero => rfl
  | succ n ih => rw [downN_succ, ih, belowI_cbl]; rfl
theorem ne34 : (cdn 7 (mxd 7 10, mxd 7 (10 + 4294967296))).1 ≠ (cdn 6 (mxd 7 10, mxd 7 (10 + 4294967296))).1 := by decide +kernel
theorem key34 : keyI 7 10 3 ≠ keyI 7 10 4 := by
  unfold keyI topKey
  rw [downN_cdn, downN_cdn, mxi_eq, mxi_eq]
  intro e
  exact ne34 (congrArg Prod.fst e)
end Go.Proofs.YtmhgoknbmbicmaaDoor
