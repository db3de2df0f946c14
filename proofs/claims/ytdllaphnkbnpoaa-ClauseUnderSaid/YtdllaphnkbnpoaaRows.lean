/-
  No cell of these rows narrows 'for every input' (looked for: loops, veiled, ifaces, maps, wideKeys, modest, calm, conditions, laid).
  DERIVED. THE GIVEN ROWS OF THIS SEAT. 6 by the template 'for every input the law returns true; each argument reads behind the call as it read before'; 0 by the template 'total and deterministic' (their statements: YtdllaphnkbnpoaaTotals.lean).
  GIVEN WITH THE SEED: the statements are not yours to turn. If you find one false, say at which input.
  Laid BY PROGRAM, IN A SANDBOX (cutbox-rows.mjs): the forced cells as the released guide's own fill.sh prints them over the translation c4af73e5e64162f2… (all of the seat's roots in one cut). By AI agents, Wed Nov 11 2026. No macro, syntax, notation, axiom, sorry.
-/
import Derived.Test.YtdllaphnkbnpoaaChecked
import GoSem.Claim
import GoSem.ClaimJoined
import GoSem.ClaimMapViews
import Derived.JoinedTies
import Derived.KernelRfl
namespace Go.Proofs.Ytdllaphnkbnpoaa
/- THE CELL 'sum', in the pinned program and in every row, IS THE sha256 OF THE DUMP (.gsa) THAT YtdllaphnkbnpoaaProg.lean LOADS. Nothing in Lean hashes anything: it is a label: what it is worth is what the hold of that sum in a sandbox is worth. -/
noncomputable def Try.pinned : Pinned := { name := "ytdllaphnkbnpoaa", sum := "c4af73e5e64162f2b9eef1f03941ef857eeb0b5930908004cd869a8e32c35c83", checked := Try.checked }
namespace Rows
def none {H : Type} : Left H := { results := [], args := [] }

/-- 'plinthlaw32.ClauseSolve': WHATEVER THE INPUT: true; the input reads as it did. -/
def clauseSolveSpec : ChangeSpec := { name := "clauseSolve", fn := fun _ => fun
  | [d] => { results := [.lit (.bool true)], args := [d] }
  | _ => none }
def clauseSolveRow : OpenClaim := { program := "ytdllaphnkbnpoaa", sum := "c4af73e5e64162f2b9eef1f03941ef857eeb0b5930908004cd869a8e32c35c83", func := "plinth/plinthlaw32.ClauseSolve", spec := "clauseSolve", unfollowed := true, recurses := true, apart := false }
def ClauseSolveSaid : Prop := clauseSolveRow.holds Try.pinned (OpenSpec.ofChange clauseSolveSpec)

/-- ITS FALSE NEIGHBOUR: 'it returns false'. Refute it at one input. -/
def clauseSolveWrong : ChangeSpec := { name := "clauseSolve", fn := fun _ => fun
  | [d] => { results := [.lit (.bool false)], args := [d] }
  | _ => none }
def ClauseSolveWrongFalsely : Prop := clauseSolveRow.holds Try.pinned (OpenSpec.ofChange clauseSolveWrong)

/-- 'plinthlaw32.ClauseFuel': WHATEVER THE INPUT: true; the input reads as it did. -/
def clauseFuelSpec : ChangeSpec := { name := "clauseFuel", fn := fun _ => fun
  | [d1, d2] => { results := [.lit (.bool true)], args := [d1, d2] }
  | _ => none }
def clauseFuelRow : OpenClaim := { program := "ytdllaphnkbnpoaa", sum := "c4af73e5e64162f2b9eef1f03941ef857eeb0b5930908004cd869a8e32c35c83", func := "plinth/plinthlaw32.ClauseFuel", spec := "clauseFuel", unfollowed := true, recurses := true, apart := false }
def ClauseFuelSaid : Prop := clauseFuelRow.holds Try.pinned (OpenSpec.ofChange clauseFuelSpec)

/-- ITS FALSE NEIGHBOUR: 'it returns false'. Refute it at one input. -/
def clauseFuelWrong : ChangeSpec := { name := "clauseFuel", fn := fun _ => fun
  | [d1, d2] => { results := [.lit (.bool false)], args := [d1, d2] }
  | _ => none }
def ClauseFuelWrongFalsely : Prop := clauseFuelRow.holds Try.pinned (OpenSpec.ofChange clauseFuelWrong)

/-- 'plinthlaw32.ClauseCore': WHATEVER THE INPUT: true; the input reads as it did. -/
def clauseCoreSpec : ChangeSpec := { name := "clauseCore", fn := fun _ => fun
  | [d] => { results := [.lit (.bool true)], args := [d] }
  | _ => none }
def clauseCoreRow : OpenClaim := { program := "ytdllaphnkbnpoaa", sum := "c4af73e5e64162f2b9eef1f03941ef857eeb0b5930908004cd869a8e32c35c83", func := "plinth/plinthlaw32.ClauseCore", spec := "clauseCore", unfollowed := true, recurses := true, apart := false }
def ClauseCoreSaid : Prop := clauseCoreRow.holds Try.pinned (OpenSpec.ofChange clauseCoreSpec)

/-- ITS FALSE NEIGHBOUR: 'it returns false'. Refute it at one input. -/
def clauseCoreWrong : ChangeSpec := { name := "clauseCore", fn := fun _ => fun
  | [d] => { results := [.lit (.bool false)], args := [d] }
  | _ => none }
def ClauseCoreWrongFalsely : Prop := clauseCoreRow.holds Try.pinned (OpenSpec.ofChange clauseCoreWrong)

/-- 'plinthlaw32.ClauseLogs': WHATEVER THE INPUT: true; the input reads as it did. -/
def clauseLogsSpec : ChangeSpec := { name := "clauseLogs", fn := fun _ => fun
  | [d1, d2] => { results := [.lit (.bool true)], args := [d1, d2] }
  | _ => none }
def clauseLogsRow : OpenClaim := { program := "ytdllaphnkbnpoaa", sum := "c4af73e5e64162f2b9eef1f03941ef857eeb0b5930908004cd869a8e32c35c83", func := "plinth/plinthlaw32.ClauseLogs", spec := "clauseLogs", unfollowed := true, recurses := true, apart := false }
def ClauseLogsSaid : Prop := clauseLogsRow.holds Try.pinned (OpenSpec.ofChange clauseLogsSpec)

/-- ITS FALSE NEIGHBOUR: 'it returns false'. Refute it at one input. -/
def clauseLogsWrong : ChangeSpec := { name := "clauseLogs", fn := fun _ => fun
  | [d1, d2] => { results := [.lit (.bool false)], args := [d1, d2] }
  | _ => none }
def ClauseLogsWrongFalsely : Prop := clauseLogsRow.holds Try.pinned (OpenSpec.ofChange clauseLogsWrong)

/-- 'plinthlaw32.ClauseUnder': WHATEVER THE INPUT: true; the input reads as it did. -/
def clauseUnderSpec : ChangeSpec := { name := "clauseUnder", fn := fun _ => fun
  | [d1, d2] => { results := [.lit (.bool true)], args := [d1, d2] }
  | _ => none }
def clauseUnderRow : OpenClaim := { program := "ytdllaphnkbnpoaa", sum := "c4af73e5e64162f2b9eef1f03941ef857eeb0b5930908004cd869a8e32c35c83", func := "plinth/plinthlaw32.ClauseUnder", spec := "clauseUnder", unfollowed := true, recurses := true, apart := false }
def ClauseUnderSaid : Prop := clauseUnderRow.holds Try.pinned (OpenSpec.ofChange clauseUnderSpec)

/-- ITS FALSE NEIGHBOUR: 'it returns false'. Refute it at one input. -/
def clauseUnderWrong : ChangeSpec := { name := "clauseUnder", fn := fun _ => fun
  | [d1, d2] => { results := [.lit (.bool false)], args := [d1, d2] }
  | _ => none }
def ClauseUnderWrongFalsely : Prop := clauseUnderRow.holds Try.pinned (OpenSpec.ofChange clauseUnderWrong)

/-- 'plinthlaw32.ClauseUnits': WHATEVER THE INPUT: true; the input reads as it did. -/
def clauseUnitsSpec : ChangeSpec := { name := "clauseUnits", fn := fun _ => fun
  | [d1, d2] => { results := [.lit (.bool true)], args := [d1, d2] }
  | _ => none }
def clauseUnitsRow : OpenClaim := { program := "ytdllaphnkbnpoaa", sum := "c4af73e5e64162f2b9eef1f03941ef857eeb0b5930908004cd869a8e32c35c83", func := "plinth/plinthlaw32.ClauseUnits", spec := "clauseUnits", unfollowed := true, recurses := true, apart := false }
def ClauseUnitsSaid : Prop := clauseUnitsRow.holds Try.pinned (OpenSpec.ofChange clauseUnitsSpec)

/-- ITS FALSE NEIGHBOUR: 'it returns false'. Refute it at one input. -/
def clauseUnitsWrong : ChangeSpec := { name := "clauseUnits", fn := fun _ => fun
  | [d1, d2] => { results := [.lit (.bool false)], args := [d1, d2] }
  | _ => none }
def ClauseUnitsWrongFalsely : Prop := clauseUnitsRow.holds Try.pinned (OpenSpec.ofChange clauseUnitsWrong)

/- THE SECOND FORM. 'bulk': how many values and letters a reading holds, each counted each time it is reached (what is shared counts as often as it is met; a slice's spare places count too). A statement '..UptoSaid' is the law's where the arguments, and the package variables that the reading takes, are together of bulk at most 1048576: NARROWER than '..Said'. Prove '..Said' where nothing that the law and all that it calls make is longer than what came in: it says more and counts as full. Else prove '..UptoSaid'. A law counts once. -/
mutual
def uptoBulk {H : Type} : DataW H → Nat
  | .lit (.string bytes) => bytes.length + 1
  | .lit _ => 1
  | .nil => 1
  | .ptr d => uptoBulk d + 1
  | .slice elems spare => uptoBulkAll elems + uptoBulkAll spare + 1
  | .agg parts => uptoBulkAll parts + 1
  | .iface _ d => uptoBulk d + 1
  | .map entries => uptoBulkEntries entries + 1
  | .held _ => 1
def uptoBulkAll {H : Type} : List (DataW H) → Nat
  | [] => 0
  | d :: r => uptoBulk d + uptoBulkAll r
def uptoBulkEntries {H : Type} : List (Lit × DataW H) → Nat
  | [] => 0
  | x :: r => uptoBulkEntry x + uptoBulkEntries r
def uptoBulkEntry {H : Type} : Lit × DataW H → Nat
  | (.string bytes, d) => bytes.length + uptoBulk d + 1
  | (_, d) => uptoBulk d + 1
 end
def uptoSmall : (H : Type) → List (DataW H) → Bool := fun _ ds => decide (uptoBulkAll ds ≤ 1048576)
def OpenSpec.upto (s : _root_.Go.ChangeSpec) : _root_.Go.OpenSpec := { _root_.Go.OpenSpec.ofChange s with cond := some uptoSmall }

/-- 'plinthlaw32.ClauseSolve', WHERE WHAT IT READS IS OF BULK AT MOST 1048576: true; the input reads as it did. -/
def clauseSolveUptoRow : OpenClaim := { program := "ytdllaphnkbnpoaa", sum := "c4af73e5e64162f2b9eef1f03941ef857eeb0b5930908004cd869a8e32c35c83", func := "plinth/plinthlaw32.ClauseSolve", spec := "clauseSolve", unfollowed := true, recurses := true, apart := false, narrowed := true }
def ClauseSolveUptoSaid : Prop := clauseSolveUptoRow.holds Try.pinned (OpenSpec.upto clauseSolveSpec)

/-- 'plinthlaw32.ClauseFuel', WHERE WHAT IT READS IS OF BULK AT MOST 1048576: true; the input reads as it did. -/
def clauseFuelUptoRow : OpenClaim := { program := "ytdllaphnkbnpoaa", sum := "c4af73e5e64162f2b9eef1f03941ef857eeb0b5930908004cd869a8e32c35c83", func := "plinth/plinthlaw32.ClauseFuel", spec := "clauseFuel", unfollowed := true, recurses := true, apart := false, narrowed := true }
def ClauseFuelUptoSaid : Prop := clauseFuelUptoRow.holds Try.pinned (OpenSpec.upto clauseFuelSpec)

/-- 'plinthlaw32.ClauseCore', WHERE WHAT IT READS IS OF BULK AT MOST 1048576: true; the input reads as it did. -/
def clauseCoreUptoRow : OpenClaim := { program := "ytdllaphnkbnpoaa", sum := "c4af73e5e64162f2b9eef1f03941ef857eeb0b5930908004cd869a8e32c35c83", func := "plinth/plinthlaw32.ClauseCore", spec := "clauseCore", unfollowed := true, recurses := true, apart := false, narrowed := true }
def ClauseCoreUptoSaid : Prop := clauseCoreUptoRow.holds Try.pinned (OpenSpec.upto clauseCoreSpec)

/-- 'plinthlaw32.ClauseLogs', WHERE WHAT IT READS IS OF BULK AT MOST 1048576: true; the input reads as it did. -/
def clauseLogsUptoRow : OpenClaim := { program := "ytdllaphnkbnpoaa", sum := "c4af73e5e64162f2b9eef1f03941ef857eeb0b5930908004cd869a8e32c35c83", func := "plinth/plinthlaw32.ClauseLogs", spec := "clauseLogs", unfollowed := true, recurses := true, apart := false, narrowed := true }
def ClauseLogsUptoSaid : Prop := clauseLogsUptoRow.holds Try.pinned (OpenSpec.upto clauseLogsSpec)

/-- 'plinthlaw32.ClauseUnder', WHERE WHAT IT READS IS OF BULK AT MOST 1048576: true; the input reads as it did. -/
def clauseUnderUptoRow : OpenClaim := { program := "ytdllaphnkbnpoaa", sum := "c4af73e5e64162f2b9eef1f03941ef857eeb0b5930908004cd869a8e32c35c83", func := "plinth/plinthlaw32.ClauseUnder", spec := "clauseUnder", unfollowed := true, recurses := true, apart := false, narrowed := true }
def ClauseUnderUptoSaid : Prop := clauseUnderUptoRow.holds Try.pinned (OpenSpec.upto clauseUnderSpec)

/-- 'plinthlaw32.ClauseUnits', WHERE WHAT IT READS IS OF BULK AT MOST 1048576: true; the input reads as it did. -/
def clauseUnitsUptoRow : OpenClaim := { program := "ytdllaphnkbnpoaa", sum := "c4af73e5e64162f2b9eef1f03941ef857eeb0b5930908004cd869a8e32c35c83", func := "plinth/plinthlaw32.ClauseUnits", spec := "clauseUnits", unfollowed := true, recurses := true, apart := false, narrowed := true }
def ClauseUnitsUptoSaid : Prop := clauseUnitsUptoRow.holds Try.pinned (OpenSpec.upto clauseUnitsSpec)

end Rows
end Go.Proofs.Ytdllaphnkbnpoaa
