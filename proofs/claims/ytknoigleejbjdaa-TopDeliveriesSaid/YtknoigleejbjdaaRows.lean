/-
  No cell of these rows narrows 'for every input' (looked for: loops, veiled, ifaces, maps, wideKeys, modest, calm, conditions, laid).
  DERIVED. THE GIVEN ROWS OF THIS SEAT. 8 by the template 'for every input the law returns true; each argument reads behind the call as it read before'; 0 by the template 'total and deterministic' (their statements: YtknoigleejbjdaaTotals.lean).
  GIVEN WITH THE SEED: the statements are not yours to turn. If you find one false, say at which input.
  Laid BY PROGRAM, IN A SANDBOX (cutbox-rows.mjs): the forced cells as the released guide's own fill.sh prints them over the translation fdb531236407674f… (all of the seat's roots in one cut). By AI agents, Wed Nov 11 2026. No macro, syntax, notation, axiom, sorry.
-/
import Derived.Test.YtknoigleejbjdaaChecked
import GoSem.Claim
import GoSem.ClaimJoined
import GoSem.ClaimMapViews
import Derived.JoinedTies
import Derived.KernelRfl
namespace Go.Proofs.Ytknoigleejbjdaa
/- THE CELL 'sum', in the pinned program and in every row, IS THE sha256 OF THE DUMP (.gsa) THAT YtknoigleejbjdaaProg.lean LOADS. Nothing in Lean hashes anything: it is a label: what it is worth is what the hold of that sum in a sandbox is worth. -/
noncomputable def Try.pinned : Pinned := { name := "ytknoigleejbjdaa", sum := "fdb531236407674fa35182ce9102d878927bac3b5ab368ceb072641c9be076a8", checked := Try.checked }
namespace Rows
def none {H : Type} : Left H := { results := [], args := [] }

/-- 'timesynclaw15.AgendaLimits': WHATEVER THE INPUT: true; the input reads as it did. -/
def agendaLimitsSpec : ChangeSpec := { name := "agendaLimits", fn := fun _ => fun
  | [d1, d2] => { results := [.lit (.bool true)], args := [d1, d2] }
  | _ => none }
def agendaLimitsRow : OpenClaim := { program := "ytknoigleejbjdaa", sum := "fdb531236407674fa35182ce9102d878927bac3b5ab368ceb072641c9be076a8", func := "timesync/timesynclaw15.AgendaLimits", spec := "agendaLimits", unfollowed := true, recurses := true, apart := false }
def AgendaLimitsSaid : Prop := agendaLimitsRow.holds Try.pinned (OpenSpec.ofChange agendaLimitsSpec)

/-- ITS FALSE NEIGHBOUR: 'it returns false'. Refute it at one input. -/
def agendaLimitsWrong : ChangeSpec := { name := "agendaLimits", fn := fun _ => fun
  | [d1, d2] => { results := [.lit (.bool false)], args := [d1, d2] }
  | _ => none }
def AgendaLimitsWrongFalsely : Prop := agendaLimitsRow.holds Try.pinned (OpenSpec.ofChange agendaLimitsWrong)

/-- 'timesynclaw15.AgendaSorts': WHATEVER THE INPUT: true; the input reads as it did. -/
def agendaSortsSpec : ChangeSpec := { name := "agendaSorts", fn := fun _ => fun
  | [d] => { results := [.lit (.bool true)], args := [d] }
  | _ => none }
def agendaSortsRow : OpenClaim := { program := "ytknoigleejbjdaa", sum := "fdb531236407674fa35182ce9102d878927bac3b5ab368ceb072641c9be076a8", func := "timesync/timesynclaw15.AgendaSorts", spec := "agendaSorts", unfollowed := true, recurses := true, apart := false }
def AgendaSortsSaid : Prop := agendaSortsRow.holds Try.pinned (OpenSpec.ofChange agendaSortsSpec)

/-- ITS FALSE NEIGHBOUR: 'it returns false'. Refute it at one input. -/
def agendaSortsWrong : ChangeSpec := { name := "agendaSorts", fn := fun _ => fun
  | [d] => { results := [.lit (.bool false)], args := [d] }
  | _ => none }
def AgendaSortsWrongFalsely : Prop := agendaSortsRow.holds Try.pinned (OpenSpec.ofChange agendaSortsWrong)

/-- 'timesynclaw15.AgendaOnce': WHATEVER THE INPUT: true; the input reads as it did. -/
def agendaOnceSpec : ChangeSpec := { name := "agendaOnce", fn := fun _ => fun
  | [d1, d2] => { results := [.lit (.bool true)], args := [d1, d2] }
  | _ => none }
def agendaOnceRow : OpenClaim := { program := "ytknoigleejbjdaa", sum := "fdb531236407674fa35182ce9102d878927bac3b5ab368ceb072641c9be076a8", func := "timesync/timesynclaw15.AgendaOnce", spec := "agendaOnce", unfollowed := true, recurses := true, apart := false }
def AgendaOnceSaid : Prop := agendaOnceRow.holds Try.pinned (OpenSpec.ofChange agendaOnceSpec)

/-- ITS FALSE NEIGHBOUR: 'it returns false'. Refute it at one input. -/
def agendaOnceWrong : ChangeSpec := { name := "agendaOnce", fn := fun _ => fun
  | [d1, d2] => { results := [.lit (.bool false)], args := [d1, d2] }
  | _ => none }
def AgendaOnceWrongFalsely : Prop := agendaOnceRow.holds Try.pinned (OpenSpec.ofChange agendaOnceWrong)

/-- 'timesynclaw15.AgendaCancels': WHATEVER THE INPUT: true; the input reads as it did. -/
def agendaCancelsSpec : ChangeSpec := { name := "agendaCancels", fn := fun _ => fun
  | [d1, d2] => { results := [.lit (.bool true)], args := [d1, d2] }
  | _ => none }
def agendaCancelsRow : OpenClaim := { program := "ytknoigleejbjdaa", sum := "fdb531236407674fa35182ce9102d878927bac3b5ab368ceb072641c9be076a8", func := "timesync/timesynclaw15.AgendaCancels", spec := "agendaCancels", unfollowed := true, recurses := true, apart := false }
def AgendaCancelsSaid : Prop := agendaCancelsRow.holds Try.pinned (OpenSpec.ofChange agendaCancelsSpec)

/-- ITS FALSE NEIGHBOUR: 'it returns false'. Refute it at one input. -/
def agendaCancelsWrong : ChangeSpec := { name := "agendaCancels", fn := fun _ => fun
  | [d1, d2] => { results := [.lit (.bool false)], args := [d1, d2] }
  | _ => none }
def AgendaCancelsWrongFalsely : Prop := agendaCancelsRow.holds Try.pinned (OpenSpec.ofChange agendaCancelsWrong)

/-- 'timesynclaw15.AgendaPlays': WHATEVER THE INPUT: true; the input reads as it did. -/
def agendaPlaysSpec : ChangeSpec := { name := "agendaPlays", fn := fun _ => fun
  | [d1, d2] => { results := [.lit (.bool true)], args := [d1, d2] }
  | _ => none }
def agendaPlaysRow : OpenClaim := { program := "ytknoigleejbjdaa", sum := "fdb531236407674fa35182ce9102d878927bac3b5ab368ceb072641c9be076a8", func := "timesync/timesynclaw15.AgendaPlays", spec := "agendaPlays", unfollowed := true, recurses := true, apart := false }
def AgendaPlaysSaid : Prop := agendaPlaysRow.holds Try.pinned (OpenSpec.ofChange agendaPlaysSpec)

/-- ITS FALSE NEIGHBOUR: 'it returns false'. Refute it at one input. -/
def agendaPlaysWrong : ChangeSpec := { name := "agendaPlays", fn := fun _ => fun
  | [d1, d2] => { results := [.lit (.bool false)], args := [d1, d2] }
  | _ => none }
def AgendaPlaysWrongFalsely : Prop := agendaPlaysRow.holds Try.pinned (OpenSpec.ofChange agendaPlaysWrong)

/-- 'timesynclaw15.AgendaPeeks': WHATEVER THE INPUT: true; the input reads as it did. -/
def agendaPeeksSpec : ChangeSpec := { name := "agendaPeeks", fn := fun _ => fun
  | [d1, d2] => { results := [.lit (.bool true)], args := [d1, d2] }
  | _ => none }
def agendaPeeksRow : OpenClaim := { program := "ytknoigleejbjdaa", sum := "fdb531236407674fa35182ce9102d878927bac3b5ab368ceb072641c9be076a8", func := "timesync/timesynclaw15.AgendaPeeks", spec := "agendaPeeks", unfollowed := true, recurses := true, apart := false }
def AgendaPeeksSaid : Prop := agendaPeeksRow.holds Try.pinned (OpenSpec.ofChange agendaPeeksSpec)

/-- ITS FALSE NEIGHBOUR: 'it returns false'. Refute it at one input. -/
def agendaPeeksWrong : ChangeSpec := { name := "agendaPeeks", fn := fun _ => fun
  | [d1, d2] => { results := [.lit (.bool false)], args := [d1, d2] }
  | _ => none }
def AgendaPeeksWrongFalsely : Prop := agendaPeeksRow.holds Try.pinned (OpenSpec.ofChange agendaPeeksWrong)

/-- 'timesynclaw15.AgendaNobody': WHATEVER THE INPUT: true; the input reads as it did. -/
def agendaNobodySpec : ChangeSpec := { name := "agendaNobody", fn := fun _ => fun
  | [d1, d2] => { results := [.lit (.bool true)], args := [d1, d2] }
  | _ => none }
def agendaNobodyRow : OpenClaim := { program := "ytknoigleejbjdaa", sum := "fdb531236407674fa35182ce9102d878927bac3b5ab368ceb072641c9be076a8", func := "timesync/timesynclaw15.AgendaNobody", spec := "agendaNobody", unfollowed := true, recurses := true, apart := false }
def AgendaNobodySaid : Prop := agendaNobodyRow.holds Try.pinned (OpenSpec.ofChange agendaNobodySpec)

/-- ITS FALSE NEIGHBOUR: 'it returns false'. Refute it at one input. -/
def agendaNobodyWrong : ChangeSpec := { name := "agendaNobody", fn := fun _ => fun
  | [d1, d2] => { results := [.lit (.bool false)], args := [d1, d2] }
  | _ => none }
def AgendaNobodyWrongFalsely : Prop := agendaNobodyRow.holds Try.pinned (OpenSpec.ofChange agendaNobodyWrong)

/-- 'timesynctop.TopDeliveries': WHATEVER THE INPUT: true; the input reads as it did. -/
def topDeliveriesSpec : ChangeSpec := { name := "topDeliveries", fn := fun _ => fun
  | [d1, d2, d3] => { results := [.lit (.bool true)], args := [d1, d2, d3] }
  | _ => none }
def topDeliveriesRow : OpenClaim := { program := "ytknoigleejbjdaa", sum := "fdb531236407674fa35182ce9102d878927bac3b5ab368ceb072641c9be076a8", func := "timesync/timesynctop.TopDeliveries", spec := "topDeliveries", unfollowed := true, recurses := true, apart := false }
def TopDeliveriesSaid : Prop := topDeliveriesRow.holds Try.pinned (OpenSpec.ofChange topDeliveriesSpec)

/-- ITS FALSE NEIGHBOUR: 'it returns false'. Refute it at one input. -/
def topDeliveriesWrong : ChangeSpec := { name := "topDeliveries", fn := fun _ => fun
  | [d1, d2, d3] => { results := [.lit (.bool false)], args := [d1, d2, d3] }
  | _ => none }
def TopDeliveriesWrongFalsely : Prop := topDeliveriesRow.holds Try.pinned (OpenSpec.ofChange topDeliveriesWrong)

/- THE SECOND FORM. 'bulk': how many values and letters a reading holds, each counted each time it is reached (what is shared counts as often as it is met; a slice's spare places count too). A statement '..UptoSaid' is the law's where the arguments, and the package variables that the reading takes, are together of bulk at most 1048576: NARROWER than '..Said'. Prove '..Said' where nothing that the law and all that it calls make is longer than what came in: it says more and counts as full. Else prove '..UptoSaid'. A law counts once. -/
mutual
def uptoBulk {H : Type} : DataW H → Nat
  | .lit (.string bytes) => bytes.length + 1
  | .lit _ => 1
  | .nil => 1
  | .ptr d => uptoBulk d + 1
  | .slice elems spare => uptoBulkAll elems + uptoBulkAll spare + 1
  | .agg parts => uptoBulkAll parts + 1
  | .iface _ d => uptoBulk d + 1
  | .map entries => uptoBulkEntries entries + 1
  | .held _ => 1
def uptoBulkAll {H : Type} : List (DataW H) → Nat
  | [] => 0
  | d :: r => uptoBulk d + uptoBulkAll r
def uptoBulkEntries {H : Type} : List (Lit × DataW H) → Nat
  | [] => 0
  | x :: r => uptoBulkEntry x + uptoBulkEntries r
def uptoBulkEntry {H : Type} : Lit × DataW H → Nat
  | (.string bytes, d) => bytes.length + uptoBulk d + 1
  | (_, d) => uptoBulk d + 1
 end
def uptoSmall : (H : Type) → List (DataW H) → Bool := fun _ ds => decide (uptoBulkAll ds ≤ 1048576)
def OpenSpec.upto (s : _root_.Go.ChangeSpec) : _root_.Go.OpenSpec := { _root_.Go.OpenSpec.ofChange s with cond := some uptoSmall }

/-- 'timesynclaw15.AgendaLimits', WHERE WHAT IT READS IS OF BULK AT MOST 1048576: true; the input reads as it did. -/
def agendaLimitsUptoRow : OpenClaim := { program := "ytknoigleejbjdaa", sum := "fdb531236407674fa35182ce9102d878927bac3b5ab368ceb072641c9be076a8", func := "timesync/timesynclaw15.AgendaLimits", spec := "agendaLimits", unfollowed := true, recurses := true, apart := false, narrowed := true }
def AgendaLimitsUptoSaid : Prop := agendaLimitsUptoRow.holds Try.pinned (OpenSpec.upto agendaLimitsSpec)

/-- 'timesynclaw15.AgendaSorts', WHERE WHAT IT READS IS OF BULK AT MOST 1048576: true; the input reads as it did. -/
def agendaSortsUptoRow : OpenClaim := { program := "ytknoigleejbjdaa", sum := "fdb531236407674fa35182ce9102d878927bac3b5ab368ceb072641c9be076a8", func := "timesync/timesynclaw15.AgendaSorts", spec := "agendaSorts", unfollowed := true, recurses := true, apart := false, narrowed := true }
def AgendaSortsUptoSaid : Prop := agendaSortsUptoRow.holds Try.pinned (OpenSpec.upto agendaSortsSpec)

/-- 'timesynclaw15.AgendaOnce', WHERE WHAT IT READS IS OF BULK AT MOST 1048576: true; the input reads as it did. -/
def agendaOnceUptoRow : OpenClaim := { program := "ytknoigleejbjdaa", sum := "fdb531236407674fa35182ce9102d878927bac3b5ab368ceb072641c9be076a8", func := "timesync/timesynclaw15.AgendaOnce", spec := "agendaOnce", unfollowed := true, recurses := true, apart := false, narrowed := true }
def AgendaOnceUptoSaid : Prop := agendaOnceUptoRow.holds Try.pinned (OpenSpec.upto agendaOnceSpec)

/-- 'timesynclaw15.AgendaCancels', WHERE WHAT IT READS IS OF BULK AT MOST 1048576: true; the input reads as it did. -/
def agendaCancelsUptoRow : OpenClaim := { program := "ytknoigleejbjdaa", sum := "fdb531236407674fa35182ce9102d878927bac3b5ab368ceb072641c9be076a8", func := "timesync/timesynclaw15.AgendaCancels", spec := "agendaCancels", unfollowed := true, recurses := true, apart := false, narrowed := true }
def AgendaCancelsUptoSaid : Prop := agendaCancelsUptoRow.holds Try.pinned (OpenSpec.upto agendaCancelsSpec)

/-- 'timesynclaw15.AgendaPlays', WHERE WHAT IT READS IS OF BULK AT MOST 1048576: true; the input reads as it did. -/
def agendaPlaysUptoRow : OpenClaim := { program := "ytknoigleejbjdaa", sum := "fdb531236407674fa35182ce9102d878927bac3b5ab368ceb072641c9be076a8", func := "timesync/timesynclaw15.AgendaPlays", spec := "agendaPlays", unfollowed := true, recurses := true, apart := false, narrowed := true }
def AgendaPlaysUptoSaid : Prop := agendaPlaysUptoRow.holds Try.pinned (OpenSpec.upto agendaPlaysSpec)

/-- 'timesynclaw15.AgendaPeeks', WHERE WHAT IT READS IS OF BULK AT MOST 1048576: true; the input reads as it did. -/
def agendaPeeksUptoRow : OpenClaim := { program := "ytknoigleejbjdaa", sum := "fdb531236407674fa35182ce9102d878927bac3b5ab368ceb072641c9be076a8", func := "timesync/timesynclaw15.AgendaPeeks", spec := "agendaPeeks", unfollowed := true, recurses := true, apart := false, narrowed := true }
def AgendaPeeksUptoSaid : Prop := agendaPeeksUptoRow.holds Try.pinned (OpenSpec.upto agendaPeeksSpec)

/-- 'timesynclaw15.AgendaNobody', WHERE WHAT IT READS IS OF BULK AT MOST 1048576: true; the input reads as it did. -/
def agendaNobodyUptoRow : OpenClaim := { program := "ytknoigleejbjdaa", sum := "fdb531236407674fa35182ce9102d878927bac3b5ab368ceb072641c9be076a8", func := "timesync/timesynclaw15.AgendaNobody", spec := "agendaNobody", unfollowed := true, recurses := true, apart := false, narrowed := true }
def AgendaNobodyUptoSaid : Prop := agendaNobodyUptoRow.holds Try.pinned (OpenSpec.upto agendaNobodySpec)

/-- 'timesynctop.TopDeliveries', WHERE WHAT IT READS IS OF BULK AT MOST 1048576: true; the input reads as it did. -/
def topDeliveriesUptoRow : OpenClaim := { program := "ytknoigleejbjdaa", sum := "fdb531236407674fa35182ce9102d878927bac3b5ab368ceb072641c9be076a8", func := "timesync/timesynctop.TopDeliveries", spec := "topDeliveries", unfollowed := true, recurses := true, apart := false, narrowed := true }
def TopDeliveriesUptoSaid : Prop := topDeliveriesUptoRow.holds Try.pinned (OpenSpec.upto topDeliveriesSpec)

end Rows
end Go.Proofs.Ytknoigleejbjdaa
