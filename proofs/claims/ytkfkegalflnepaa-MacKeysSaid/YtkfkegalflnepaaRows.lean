/-
  No cell of these rows narrows 'for every input' (looked for: loops, veiled, ifaces, maps, wideKeys, modest, calm, conditions, laid).
  DERIVED. THE GIVEN ROWS OF THIS SEAT. 6 by the template 'for every input the law returns true; each argument reads behind the call as it read before'; 0 by the template 'total and deterministic' (their statements: YtkfkegalflnepaaTotals.lean).
  GIVEN WITH THE SEED: the statements are not yours to turn. If you find one false, say at which input.
  Laid BY PROGRAM, IN A SANDBOX (cutbox-rows.mjs): the forced cells as the released guide's own fill.sh prints them over the translation a71e0e8511fd2d14… (all of the seat's roots in one cut). By AI agents, Wed Nov 11 2026. No macro, syntax, notation, axiom, sorry.
-/
import Derived.Test.YtkfkegalflnepaaChecked
import GoSem.Claim
import GoSem.ClaimJoined
import GoSem.ClaimMapViews
import Derived.JoinedTies
import Derived.KernelRfl
namespace Go.Proofs.Ytkfkegalflnepaa
/- THE CELL 'sum', in the pinned program and in every row, IS THE sha256 OF THE DUMP (.gsa) THAT YtkfkegalflnepaaProg.lean LOADS. Nothing in Lean hashes anything: it is a label: what it is worth is what the hold of that sum in a sandbox is worth. -/
noncomputable def Try.pinned : Pinned := { name := "ytkfkegalflnepaa", sum := "a71e0e8511fd2d149a0b9f5061a02964708a623e45310cf4834d6edfd2c4af46", checked := Try.checked }
namespace Rows
def none {H : Type} : Left H := { results := [], args := [] }

/-- 'timesynclaw43.MacTags': WHATEVER THE INPUT: true; the input reads as it did. -/
def macTagsSpec : ChangeSpec := { name := "macTags", fn := fun _ => fun
  | [d1, d2, d3] => { results := [.lit (.bool true)], args := [d1, d2, d3] }
  | _ => none }
def macTagsRow : OpenClaim := { program := "ytkfkegalflnepaa", sum := "a71e0e8511fd2d149a0b9f5061a02964708a623e45310cf4834d6edfd2c4af46", func := "timesync/timesynclaw43.MacTags", spec := "macTags", unfollowed := true, recurses := true, apart := false }
def MacTagsSaid : Prop := macTagsRow.holds Try.pinned (OpenSpec.ofChange macTagsSpec)

/-- ITS FALSE NEIGHBOUR: 'it returns false'. Refute it at one input. -/
def macTagsWrong : ChangeSpec := { name := "macTags", fn := fun _ => fun
  | [d1, d2, d3] => { results := [.lit (.bool false)], args := [d1, d2, d3] }
  | _ => none }
def MacTagsWrongFalsely : Prop := macTagsRow.holds Try.pinned (OpenSpec.ofChange macTagsWrong)

/-- 'timesynclaw43.MacDerives': WHATEVER THE INPUT: true; the input reads as it did. -/
def macDerivesSpec : ChangeSpec := { name := "macDerives", fn := fun _ => fun
  | [d1, d2] => { results := [.lit (.bool true)], args := [d1, d2] }
  | _ => none }
def macDerivesRow : OpenClaim := { program := "ytkfkegalflnepaa", sum := "a71e0e8511fd2d149a0b9f5061a02964708a623e45310cf4834d6edfd2c4af46", func := "timesync/timesynclaw43.MacDerives", spec := "macDerives", unfollowed := true, recurses := true, apart := false }
def MacDerivesSaid : Prop := macDerivesRow.holds Try.pinned (OpenSpec.ofChange macDerivesSpec)

/-- ITS FALSE NEIGHBOUR: 'it returns false'. Refute it at one input. -/
def macDerivesWrong : ChangeSpec := { name := "macDerives", fn := fun _ => fun
  | [d1, d2] => { results := [.lit (.bool false)], args := [d1, d2] }
  | _ => none }
def MacDerivesWrongFalsely : Prop := macDerivesRow.holds Try.pinned (OpenSpec.ofChange macDerivesWrong)

/-- 'timesynclaw43.MacFolds': WHATEVER THE INPUT: true; the input reads as it did. -/
def macFoldsSpec : ChangeSpec := { name := "macFolds", fn := fun _ => fun
  | [d1, d2] => { results := [.lit (.bool true)], args := [d1, d2] }
  | _ => none }
def macFoldsRow : OpenClaim := { program := "ytkfkegalflnepaa", sum := "a71e0e8511fd2d149a0b9f5061a02964708a623e45310cf4834d6edfd2c4af46", func := "timesync/timesynclaw43.MacFolds", spec := "macFolds", unfollowed := true, recurses := true, apart := false }
def MacFoldsSaid : Prop := macFoldsRow.holds Try.pinned (OpenSpec.ofChange macFoldsSpec)

/-- ITS FALSE NEIGHBOUR: 'it returns false'. Refute it at one input. -/
def macFoldsWrong : ChangeSpec := { name := "macFolds", fn := fun _ => fun
  | [d1, d2] => { results := [.lit (.bool false)], args := [d1, d2] }
  | _ => none }
def MacFoldsWrongFalsely : Prop := macFoldsRow.holds Try.pinned (OpenSpec.ofChange macFoldsWrong)

/-- 'timesynclaw43.MacMixes': WHATEVER THE INPUT: true; the input reads as it did. -/
def macMixesSpec : ChangeSpec := { name := "macMixes", fn := fun _ => fun
  | [d1, d2] => { results := [.lit (.bool true)], args := [d1, d2] }
  | _ => none }
def macMixesRow : OpenClaim := { program := "ytkfkegalflnepaa", sum := "a71e0e8511fd2d149a0b9f5061a02964708a623e45310cf4834d6edfd2c4af46", func := "timesync/timesynclaw43.MacMixes", spec := "macMixes", unfollowed := true, recurses := true, apart := false }
def MacMixesSaid : Prop := macMixesRow.holds Try.pinned (OpenSpec.ofChange macMixesSpec)

/-- ITS FALSE NEIGHBOUR: 'it returns false'. Refute it at one input. -/
def macMixesWrong : ChangeSpec := { name := "macMixes", fn := fun _ => fun
  | [d1, d2] => { results := [.lit (.bool false)], args := [d1, d2] }
  | _ => none }
def MacMixesWrongFalsely : Prop := macMixesRow.holds Try.pinned (OpenSpec.ofChange macMixesWrong)

/-- 'timesynclaw43.MacShort': WHATEVER THE INPUT: true; the input reads as it did. -/
def macShortSpec : ChangeSpec := { name := "macShort", fn := fun _ => fun
  | [d1, d2, d3] => { results := [.lit (.bool true)], args := [d1, d2, d3] }
  | _ => none }
def macShortRow : OpenClaim := { program := "ytkfkegalflnepaa", sum := "a71e0e8511fd2d149a0b9f5061a02964708a623e45310cf4834d6edfd2c4af46", func := "timesync/timesynclaw43.MacShort", spec := "macShort", unfollowed := true, recurses := true, apart := false }
def MacShortSaid : Prop := macShortRow.holds Try.pinned (OpenSpec.ofChange macShortSpec)

/-- ITS FALSE NEIGHBOUR: 'it returns false'. Refute it at one input. -/
def macShortWrong : ChangeSpec := { name := "macShort", fn := fun _ => fun
  | [d1, d2, d3] => { results := [.lit (.bool false)], args := [d1, d2, d3] }
  | _ => none }
def MacShortWrongFalsely : Prop := macShortRow.holds Try.pinned (OpenSpec.ofChange macShortWrong)

/-- 'timesynclaw43.MacKeys': WHATEVER THE INPUT: true; the input reads as it did. -/
def macKeysSpec : ChangeSpec := { name := "macKeys", fn := fun _ => fun
  | [d1, d2, d3] => { results := [.lit (.bool true)], args := [d1, d2, d3] }
  | _ => none }
def macKeysRow : OpenClaim := { program := "ytkfkegalflnepaa", sum := "a71e0e8511fd2d149a0b9f5061a02964708a623e45310cf4834d6edfd2c4af46", func := "timesync/timesynclaw43.MacKeys", spec := "macKeys", unfollowed := true, recurses := true, apart := false }
def MacKeysSaid : Prop := macKeysRow.holds Try.pinned (OpenSpec.ofChange macKeysSpec)

/-- ITS FALSE NEIGHBOUR: 'it returns false'. Refute it at one input. -/
def macKeysWrong : ChangeSpec := { name := "macKeys", fn := fun _ => fun
  | [d1, d2, d3] => { results := [.lit (.bool false)], args := [d1, d2, d3] }
  | _ => none }
def MacKeysWrongFalsely : Prop := macKeysRow.holds Try.pinned (OpenSpec.ofChange macKeysWrong)

/- THE SECOND FORM. 'bulk': how many values and letters a reading holds, each counted each time it is reached (what is shared counts as often as it is met; a slice's spare places count too). A statement '..UptoSaid' is the law's where the arguments, and the package variables that the reading takes, are together of bulk at most 1048576: NARROWER than '..Said'. Prove '..Said' where nothing that the law and all that it calls make is longer than what came in: it says more and counts as full. Else prove '..UptoSaid'. A law counts once. -/
mutual
def uptoBulk {H : Type} : DataW H → Nat
  | .lit (.string bytes) => bytes.length + 1
  | .lit _ => 1
  | .nil => 1
  | .ptr d => uptoBulk d + 1
  | .slice elems spare => uptoBulkAll elems + uptoBulkAll spare + 1
  | .agg parts => uptoBulkAll parts + 1
  | .iface _ d => uptoBulk d + 1
  | .map entries => uptoBulkEntries entries + 1
  | .held _ => 1
def uptoBulkAll {H : Type} : List (DataW H) → Nat
  | [] => 0
  | d :: r => uptoBulk d + uptoBulkAll r
def uptoBulkEntries {H : Type} : List (Lit × DataW H) → Nat
  | [] => 0
  | x :: r => uptoBulkEntry x + uptoBulkEntries r
def uptoBulkEntry {H : Type} : Lit × DataW H → Nat
  | (.string bytes, d) => bytes.length + uptoBulk d + 1
  | (_, d) => uptoBulk d + 1
 end
def uptoSmall : (H : Type) → List (DataW H) → Bool := fun _ ds => decide (uptoBulkAll ds ≤ 1048576)
def OpenSpec.upto (s : _root_.Go.ChangeSpec) : _root_.Go.OpenSpec := { _root_.Go.OpenSpec.ofChange s with cond := some uptoSmall }

/-- 'timesynclaw43.MacTags', WHERE WHAT IT READS IS OF BULK AT MOST 1048576: true; the input reads as it did. -/
def macTagsUptoRow : OpenClaim := { program := "ytkfkegalflnepaa", sum := "a71e0e8511fd2d149a0b9f5061a02964708a623e45310cf4834d6edfd2c4af46", func := "timesync/timesynclaw43.MacTags", spec := "macTags", unfollowed := true, recurses := true, apart := false, narrowed := true }
def MacTagsUptoSaid : Prop := macTagsUptoRow.holds Try.pinned (OpenSpec.upto macTagsSpec)

/-- 'timesynclaw43.MacDerives', WHERE WHAT IT READS IS OF BULK AT MOST 1048576: true; the input reads as it did. -/
def macDerivesUptoRow : OpenClaim := { program := "ytkfkegalflnepaa", sum := "a71e0e8511fd2d149a0b9f5061a02964708a623e45310cf4834d6edfd2c4af46", func := "timesync/timesynclaw43.MacDerives", spec := "macDerives", unfollowed := true, recurses := true, apart := false, narrowed := true }
def MacDerivesUptoSaid : Prop := macDerivesUptoRow.holds Try.pinned (OpenSpec.upto macDerivesSpec)

/-- 'timesynclaw43.MacFolds', WHERE WHAT IT READS IS OF BULK AT MOST 1048576: true; the input reads as it did. -/
def macFoldsUptoRow : OpenClaim := { program := "ytkfkegalflnepaa", sum := "a71e0e8511fd2d149a0b9f5061a02964708a623e45310cf4834d6edfd2c4af46", func := "timesync/timesynclaw43.MacFolds", spec := "macFolds", unfollowed := true, recurses := true, apart := false, narrowed := true }
def MacFoldsUptoSaid : Prop := macFoldsUptoRow.holds Try.pinned (OpenSpec.upto macFoldsSpec)

/-- 'timesynclaw43.MacMixes', WHERE WHAT IT READS IS OF BULK AT MOST 1048576: true; the input reads as it did. -/
def macMixesUptoRow : OpenClaim := { program := "ytkfkegalflnepaa", sum := "a71e0e8511fd2d149a0b9f5061a02964708a623e45310cf4834d6edfd2c4af46", func := "timesync/timesynclaw43.MacMixes", spec := "macMixes", unfollowed := true, recurses := true, apart := false, narrowed := true }
def MacMixesUptoSaid : Prop := macMixesUptoRow.holds Try.pinned (OpenSpec.upto macMixesSpec)

/-- 'timesynclaw43.MacShort', WHERE WHAT IT READS IS OF BULK AT MOST 1048576: true; the input reads as it did. -/
def macShortUptoRow : OpenClaim := { program := "ytkfkegalflnepaa", sum := "a71e0e8511fd2d149a0b9f5061a02964708a623e45310cf4834d6edfd2c4af46", func := "timesync/timesynclaw43.MacShort", spec := "macShort", unfollowed := true, recurses := true, apart := false, narrowed := true }
def MacShortUptoSaid : Prop := macShortUptoRow.holds Try.pinned (OpenSpec.upto macShortSpec)

/-- 'timesynclaw43.MacKeys', WHERE WHAT IT READS IS OF BULK AT MOST 1048576: true; the input reads as it did. -/
def macKeysUptoRow : OpenClaim := { program := "ytkfkegalflnepaa", sum := "a71e0e8511fd2d149a0b9f5061a02964708a623e45310cf4834d6edfd2c4af46", func := "timesync/timesynclaw43.MacKeys", spec := "macKeys", unfollowed := true, recurses := true, apart := false, narrowed := true }
def MacKeysUptoSaid : Prop := macKeysUptoRow.holds Try.pinned (OpenSpec.upto macKeysSpec)

end Rows
end Go.Proofs.Ytkfkegalflnepaa
