/-
  No cell of these rows narrows 'for every input' (looked for: loops, veiled, ifaces, maps, wideKeys, modest, calm, conditions, laid).
  DERIVED. THE GIVEN ROWS OF THIS SEAT. 7 by the template 'for every input the law returns true; each argument reads behind the call as it read before'; 0 by the template 'total and deterministic' (their statements: YthegjpkbgdkplaaTotals.lean).
  GIVEN WITH THE SEED: the statements are not yours to turn. If you find one false, say at which input.
  Laid BY PROGRAM, IN A SANDBOX (cutbox-rows.mjs): the forced cells as the released guide's own fill.sh prints them over the translation e552cdf782068c01… (all of the seat's roots in one cut). By AI agents, Wed Nov 11 2026. No macro, syntax, notation, axiom, sorry.
-/
import Derived.Test.YthegjpkbgdkplaaChecked
import GoSem.Claim
import GoSem.ClaimJoined
import GoSem.ClaimMapViews
import Derived.JoinedTies
import Derived.KernelRfl
namespace Go.Proofs.Ythegjpkbgdkplaa
/- THE CELL 'sum', in the pinned program and in every row, IS THE sha256 OF THE DUMP (.gsa) THAT YthegjpkbgdkplaaProg.lean LOADS. Nothing in Lean hashes anything: it is a label: what it is worth is what the hold of that sum in a sandbox is worth. -/
noncomputable def Try.pinned : Pinned := { name := "ythegjpkbgdkplaa", sum := "e552cdf782068c01b3f4abe3aa1e31eee1329b395617acde187c57cf4a8ae910", checked := Try.checked }
namespace Rows
def none {H : Type} : Left H := { results := [], args := [] }

/-- 'timesynclaw37.PortNexts': WHATEVER THE INPUT: true; the input reads as it did. -/
def portNextsSpec : ChangeSpec := { name := "portNexts", fn := fun _ => fun
  | [d1, d2, d3] => { results := [.lit (.bool true)], args := [d1, d2, d3] }
  | _ => none }
def portNextsRow : OpenClaim := { program := "ythegjpkbgdkplaa", sum := "e552cdf782068c01b3f4abe3aa1e31eee1329b395617acde187c57cf4a8ae910", func := "timesync/timesynclaw37.PortNexts", spec := "portNexts", apart := false }
def PortNextsSaid : Prop := portNextsRow.holds Try.pinned (OpenSpec.ofChange portNextsSpec)

/-- ITS FALSE NEIGHBOUR: 'it returns false'. Refute it at one input. -/
def portNextsWrong : ChangeSpec := { name := "portNexts", fn := fun _ => fun
  | [d1, d2, d3] => { results := [.lit (.bool false)], args := [d1, d2, d3] }
  | _ => none }
def PortNextsWrongFalsely : Prop := portNextsRow.holds Try.pinned (OpenSpec.ofChange portNextsWrong)

/-- 'timesynclaw37.PortRuns': WHATEVER THE INPUT: true; the input reads as it did. -/
def portRunsSpec : ChangeSpec := { name := "portRuns", fn := fun _ => fun
  | [d1, d2] => { results := [.lit (.bool true)], args := [d1, d2] }
  | _ => none }
def portRunsRow : OpenClaim := { program := "ythegjpkbgdkplaa", sum := "e552cdf782068c01b3f4abe3aa1e31eee1329b395617acde187c57cf4a8ae910", func := "timesync/timesynclaw37.PortRuns", spec := "portRuns", apart := false }
def PortRunsSaid : Prop := portRunsRow.holds Try.pinned (OpenSpec.ofChange portRunsSpec)

/-- ITS FALSE NEIGHBOUR: 'it returns false'. Refute it at one input. -/
def portRunsWrong : ChangeSpec := { name := "portRuns", fn := fun _ => fun
  | [d1, d2] => { results := [.lit (.bool false)], args := [d1, d2] }
  | _ => none }
def PortRunsWrongFalsely : Prop := portRunsRow.holds Try.pinned (OpenSpec.ofChange portRunsWrong)

/-- 'timesynclaw37.PortEnters': WHATEVER THE INPUT: true; the input reads as it did. -/
def portEntersSpec : ChangeSpec := { name := "portEnters", fn := fun _ => fun
  | [d1, d2] => { results := [.lit (.bool true)], args := [d1, d2] }
  | _ => none }
def portEntersRow : OpenClaim := { program := "ythegjpkbgdkplaa", sum := "e552cdf782068c01b3f4abe3aa1e31eee1329b395617acde187c57cf4a8ae910", func := "timesync/timesynclaw37.PortEnters", spec := "portEnters", apart := false }
def PortEntersSaid : Prop := portEntersRow.holds Try.pinned (OpenSpec.ofChange portEntersSpec)

/-- ITS FALSE NEIGHBOUR: 'it returns false'. Refute it at one input. -/
def portEntersWrong : ChangeSpec := { name := "portEnters", fn := fun _ => fun
  | [d1, d2] => { results := [.lit (.bool false)], args := [d1, d2] }
  | _ => none }
def PortEntersWrongFalsely : Prop := portEntersRow.holds Try.pinned (OpenSpec.ofChange portEntersWrong)

/-- 'timesynclaw37.PortLeaves': WHATEVER THE INPUT: true; the input reads as it did. -/
def portLeavesSpec : ChangeSpec := { name := "portLeaves", fn := fun _ => fun
  | [d1, d2] => { results := [.lit (.bool true)], args := [d1, d2] }
  | _ => none }
def portLeavesRow : OpenClaim := { program := "ythegjpkbgdkplaa", sum := "e552cdf782068c01b3f4abe3aa1e31eee1329b395617acde187c57cf4a8ae910", func := "timesync/timesynclaw37.PortLeaves", spec := "portLeaves", apart := false }
def PortLeavesSaid : Prop := portLeavesRow.holds Try.pinned (OpenSpec.ofChange portLeavesSpec)

/-- ITS FALSE NEIGHBOUR: 'it returns false'. Refute it at one input. -/
def portLeavesWrong : ChangeSpec := { name := "portLeaves", fn := fun _ => fun
  | [d1, d2] => { results := [.lit (.bool false)], args := [d1, d2] }
  | _ => none }
def PortLeavesWrongFalsely : Prop := portLeavesRow.holds Try.pinned (OpenSpec.ofChange portLeavesWrong)

/-- 'timesynclaw37.PortDecides': WHATEVER THE INPUT: true; the input reads as it did. -/
def portDecidesSpec : ChangeSpec := { name := "portDecides", fn := fun _ => fun
  | [d1, d2, d3] => { results := [.lit (.bool true)], args := [d1, d2, d3] }
  | _ => none }
def portDecidesRow : OpenClaim := { program := "ythegjpkbgdkplaa", sum := "e552cdf782068c01b3f4abe3aa1e31eee1329b395617acde187c57cf4a8ae910", func := "timesync/timesynclaw37.PortDecides", spec := "portDecides", apart := false }
def PortDecidesSaid : Prop := portDecidesRow.holds Try.pinned (OpenSpec.ofChange portDecidesSpec)

/-- ITS FALSE NEIGHBOUR: 'it returns false'. Refute it at one input. -/
def portDecidesWrong : ChangeSpec := { name := "portDecides", fn := fun _ => fun
  | [d1, d2, d3] => { results := [.lit (.bool false)], args := [d1, d2, d3] }
  | _ => none }
def PortDecidesWrongFalsely : Prop := portDecidesRow.holds Try.pinned (OpenSpec.ofChange portDecidesWrong)

/-- 'timesynclaw37.PortNames': WHATEVER THE INPUT: true; the input reads as it did. -/
def portNamesSpec : ChangeSpec := { name := "portNames", fn := fun _ => fun
  | [d1, d2] => { results := [.lit (.bool true)], args := [d1, d2] }
  | _ => none }
def portNamesRow : OpenClaim := { program := "ythegjpkbgdkplaa", sum := "e552cdf782068c01b3f4abe3aa1e31eee1329b395617acde187c57cf4a8ae910", func := "timesync/timesynclaw37.PortNames", spec := "portNames", apart := false }
def PortNamesSaid : Prop := portNamesRow.holds Try.pinned (OpenSpec.ofChange portNamesSpec)

/-- ITS FALSE NEIGHBOUR: 'it returns false'. Refute it at one input. -/
def portNamesWrong : ChangeSpec := { name := "portNames", fn := fun _ => fun
  | [d1, d2] => { results := [.lit (.bool false)], args := [d1, d2] }
  | _ => none }
def PortNamesWrongFalsely : Prop := portNamesRow.holds Try.pinned (OpenSpec.ofChange portNamesWrong)

/-- 'timesynclaw37.PortJoins': WHATEVER THE INPUT: true; the input reads as it did. -/
def portJoinsSpec : ChangeSpec := { name := "portJoins", fn := fun _ => fun
  | [d1, d2, d3] => { results := [.lit (.bool true)], args := [d1, d2, d3] }
  | _ => none }
def portJoinsRow : OpenClaim := { program := "ythegjpkbgdkplaa", sum := "e552cdf782068c01b3f4abe3aa1e31eee1329b395617acde187c57cf4a8ae910", func := "timesync/timesynclaw37.PortJoins", spec := "portJoins", apart := false }
def PortJoinsSaid : Prop := portJoinsRow.holds Try.pinned (OpenSpec.ofChange portJoinsSpec)

/-- ITS FALSE NEIGHBOUR: 'it returns false'. Refute it at one input. -/
def portJoinsWrong : ChangeSpec := { name := "portJoins", fn := fun _ => fun
  | [d1, d2, d3] => { results := [.lit (.bool false)], args := [d1, d2, d3] }
  | _ => none }
def PortJoinsWrongFalsely : Prop := portJoinsRow.holds Try.pinned (OpenSpec.ofChange portJoinsWrong)

/- THE SECOND FORM. 'bulk': how many values and letters a reading holds, each counted each time it is reached (what is shared counts as often as it is met; a slice's spare places count too). A statement '..UptoSaid' is the law's where the arguments, and the package variables that the reading takes, are together of bulk at most 1048576: NARROWER than '..Said'. Prove '..Said' where nothing that the law and all that it calls make is longer than what came in: it says more and counts as full. Else prove '..UptoSaid'. A law counts once. -/
mutual
def uptoBulk {H : Type} : DataW H → Nat
  | .lit (.string bytes) => bytes.length + 1
  | .lit _ => 1
  | .nil => 1
  | .ptr d => uptoBulk d + 1
  | .slice elems spare => uptoBulkAll elems + uptoBulkAll spare + 1
  | .agg parts => uptoBulkAll parts + 1
  | .iface _ d => uptoBulk d + 1
  | .map entries => uptoBulkEntries entries + 1
  | .held _ => 1
def uptoBulkAll {H : Type} : List (DataW H) → Nat
  | [] => 0
  | d :: r => uptoBulk d + uptoBulkAll r
def uptoBulkEntries {H : Type} : List (Lit × DataW H) → Nat
  | [] => 0
  | x :: r => uptoBulkEntry x + uptoBulkEntries r
def uptoBulkEntry {H : Type} : Lit × DataW H → Nat
  | (.string bytes, d) => bytes.length + uptoBulk d + 1
  | (_, d) => uptoBulk d + 1
 end
def uptoSmall : (H : Type) → List (DataW H) → Bool := fun _ ds => decide (uptoBulkAll ds ≤ 1048576)
def OpenSpec.upto (s : _root_.Go.ChangeSpec) : _root_.Go.OpenSpec := { _root_.Go.OpenSpec.ofChange s with cond := some uptoSmall }

/-- 'timesynclaw37.PortNexts', WHERE WHAT IT READS IS OF BULK AT MOST 1048576: true; the input reads as it did. -/
def portNextsUptoRow : OpenClaim := { program := "ythegjpkbgdkplaa", sum := "e552cdf782068c01b3f4abe3aa1e31eee1329b395617acde187c57cf4a8ae910", func := "timesync/timesynclaw37.PortNexts", spec := "portNexts", apart := false, narrowed := true }
def PortNextsUptoSaid : Prop := portNextsUptoRow.holds Try.pinned (OpenSpec.upto portNextsSpec)

/-- 'timesynclaw37.PortRuns', WHERE WHAT IT READS IS OF BULK AT MOST 1048576: true; the input reads as it did. -/
def portRunsUptoRow : OpenClaim := { program := "ythegjpkbgdkplaa", sum := "e552cdf782068c01b3f4abe3aa1e31eee1329b395617acde187c57cf4a8ae910", func := "timesync/timesynclaw37.PortRuns", spec := "portRuns", apart := false, narrowed := true }
def PortRunsUptoSaid : Prop := portRunsUptoRow.holds Try.pinned (OpenSpec.upto portRunsSpec)

/-- 'timesynclaw37.PortEnters', WHERE WHAT IT READS IS OF BULK AT MOST 1048576: true; the input reads as it did. -/
def portEntersUptoRow : OpenClaim := { program := "ythegjpkbgdkplaa", sum := "e552cdf782068c01b3f4abe3aa1e31eee1329b395617acde187c57cf4a8ae910", func := "timesync/timesynclaw37.PortEnters", spec := "portEnters", apart := false, narrowed := true }
def PortEntersUptoSaid : Prop := portEntersUptoRow.holds Try.pinned (OpenSpec.upto portEntersSpec)

/-- 'timesynclaw37.PortLeaves', WHERE WHAT IT READS IS OF BULK AT MOST 1048576: true; the input reads as it did. -/
def portLeavesUptoRow : OpenClaim := { program := "ythegjpkbgdkplaa", sum := "e552cdf782068c01b3f4abe3aa1e31eee1329b395617acde187c57cf4a8ae910", func := "timesync/timesynclaw37.PortLeaves", spec := "portLeaves", apart := false, narrowed := true }
def PortLeavesUptoSaid : Prop := portLeavesUptoRow.holds Try.pinned (OpenSpec.upto portLeavesSpec)

/-- 'timesynclaw37.PortDecides', WHERE WHAT IT READS IS OF BULK AT MOST 1048576: true; the input reads as it did. -/
def portDecidesUptoRow : OpenClaim := { program := "ythegjpkbgdkplaa", sum := "e552cdf782068c01b3f4abe3aa1e31eee1329b395617acde187c57cf4a8ae910", func := "timesync/timesynclaw37.PortDecides", spec := "portDecides", apart := false, narrowed := true }
def PortDecidesUptoSaid : Prop := portDecidesUptoRow.holds Try.pinned (OpenSpec.upto portDecidesSpec)

/-- 'timesynclaw37.PortNames', WHERE WHAT IT READS IS OF BULK AT MOST 1048576: true; the input reads as it did. -/
def portNamesUptoRow : OpenClaim := { program := "ythegjpkbgdkplaa", sum := "e552cdf782068c01b3f4abe3aa1e31eee1329b395617acde187c57cf4a8ae910", func := "timesync/timesynclaw37.PortNames", spec := "portNames", apart := false, narrowed := true }
def PortNamesUptoSaid : Prop := portNamesUptoRow.holds Try.pinned (OpenSpec.upto portNamesSpec)

/-- 'timesynclaw37.PortJoins', WHERE WHAT IT READS IS OF BULK AT MOST 1048576: true; the input reads as it did. -/
def portJoinsUptoRow : OpenClaim := { program := "ythegjpkbgdkplaa", sum := "e552cdf782068c01b3f4abe3aa1e31eee1329b395617acde187c57cf4a8ae910", func := "timesync/timesynclaw37.PortJoins", spec := "portJoins", apart := false, narrowed := true }
def PortJoinsUptoSaid : Prop := portJoinsUptoRow.holds Try.pinned (OpenSpec.upto portJoinsSpec)

end Rows
end Go.Proofs.Ythegjpkbgdkplaa
