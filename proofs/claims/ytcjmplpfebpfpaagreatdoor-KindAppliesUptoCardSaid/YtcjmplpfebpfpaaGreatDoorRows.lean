/-
  NARROWER THAN 'FOR EVERY INPUT', by the rows' own cells (each row's printed sentence says how): KindApplies: loops, laid · KindUnifiesAll: loops, laid · KindUnifies: loops, laid · KindGeneral: loops, laid · KindInstances: loops, laid · KindNames: loops, laid · KindChecks: loops, laid.
  DERIVED. THE GIVEN ROWS OF THIS SEAT. 7 by the template 'for every input the law returns true; each argument reads behind the call as it read before'; 0 by the template 'total and deterministic' (their statements: YtcjmplpfebpfpaaGreatDoorTotals.lean).
  GIVEN WITH THE SEED: the statements are not yours to turn. If you find one false, say at which input.
  Laid BY PROGRAM, IN A SANDBOX (cutbox-rows.mjs): the forced cells as the released guide's own fill.sh prints them over the translation 62109e6e938d10bf… (all of the seat's roots in one cut). By AI agents, Wed Nov 11 2026. No macro, syntax, notation, axiom, sorry.
-/
import Derived.Test.YtcjmplpfebpfpaaGreatDoorChecked
import GoSem.PinnedTables
import GoSem.Claim
import GoSem.ClaimJoined
import GoSem.ClaimMapViews
import Derived.JoinedTies
import Derived.KernelRfl
namespace Go.Proofs.YtcjmplpfebpfpaaGreatDoor
/- THE CELL 'sum', in the pinned program and in every row, IS THE sha256 OF THE DUMP (.gsa) THAT YtcjmplpfebpfpaaGreatDoorProg.lean LOADS. Nothing in Lean hashes anything: it is a label: what it is worth is what the hold of that sum in a sandbox is worth. -/
noncomputable def Tryz.pinned : Pinned := { name := "ytcjmplpfebpfpaagreatdoor", sum := "62109e6e938d10bf8843a99a89b9e7cd6b3c69980bd7225151fd95be4daab9ec", checked := Tryz.checked }
namespace Rows
def none {H : Type} : Left H := { results := [], args := [] }

/- WHAT THE LISTED PACKAGE-LEVEL VARIABLES READ AS WHEN THE CALL BEGINS. Each datum BY PROGRAM (the guide's laid-datum.mjs) off the statement by which the dump's own 'gosem.cut.vars' lays the variable. In a bare row this is a premise. The card (YtcjmplpfebpfpaaGreatDoorCards.lean) ties it to the program's text. -/
def laid_unicode_utf8_acceptRanges {H : Type} : DataW H := .agg [.agg [.lit (.int .u8 128), .lit (.int .u8 191)], .agg [.lit (.int .u8 160), .lit (.int .u8 191)], .agg [.lit (.int .u8 128), .lit (.int .u8 159)], .agg [.lit (.int .u8 144), .lit (.int .u8 191)], .agg [.lit (.int .u8 128), .lit (.int .u8 143)], .agg [.lit (.int .u8 0), .lit (.int .u8 0)], .agg [.lit (.int .u8 0), .lit (.int .u8 0)], .agg [.lit (.int .u8 0), .lit (.int .u8 0)], .agg [.lit (.int .u8 0), .lit (.int .u8 0)], .agg [.lit (.int .u8 0), .lit (.int .u8 0)], .agg [.lit (.int .u8 0), .lit (.int .u8 0)], .agg [.lit (.int .u8 0), .lit (.int .u8 0)], .agg [.lit (.int .u8 0), .lit (.int .u8 0)], .agg [.lit (.int .u8 0), .lit (.int .u8 0)], .agg [.lit (.int .u8 0), .lit (.int .u8 0)], .agg [.lit (.int .u8 0), .lit (.int .u8 0)]]
/-- One of Go's own tables, pinned by name: the form's constant. -/
def laid_unicode_utf8_first : DataW Unit := Go.Pinned.utf8First

/-- 'plinthlaw03.KindApplies': WHATEVER THE INPUT: true; the input reads as it did. -/
def kindAppliesSpec : ChangeSpec := { name := "kindApplies", fn := fun _ => fun
  | [d1, d2, d3] => { results := [.lit (.bool true)], args := [d1, d2, d3] }
  | _ => none }
def kindAppliesRow : OpenClaim := { program := "ytcjmplpfebpfpaagreatdoor", sum := "62109e6e938d10bf8843a99a89b9e7cd6b3c69980bd7225151fd95be4daab9ec", func := "plinth/plinthlaw03.KindApplies", spec := "kindApplies", inPlace := ["internal/bytealg.IndexByteString", "internal/bytealg.IndexString"], unfollowed := true, recurses := true, named := ["unicode/utf8.first", "unicode/utf8.acceptRanges", "internal/bytealg.MaxLen"], loops := true, apart := false, laid := [("unicode/utf8.acceptRanges", laid_unicode_utf8_acceptRanges), ("unicode/utf8.first", laid_unicode_utf8_first)] }
def KindAppliesSaid : Prop := kindAppliesRow.holds Tryz.pinned (OpenSpec.ofChange kindAppliesSpec)

/-- ITS FALSE NEIGHBOUR: 'it returns false'. Refute it at one input. -/
def kindAppliesWrong : ChangeSpec := { name := "kindApplies", fn := fun _ => fun
  | [d1, d2, d3] => { results := [.lit (.bool false)], args := [d1, d2, d3] }
  | _ => none }
def KindAppliesWrongFalsely : Prop := kindAppliesRow.holds Tryz.pinned (OpenSpec.ofChange kindAppliesWrong)

/-- 'plinthlaw03.KindUnifiesAll': WHATEVER THE INPUT: true; the input reads as it did. -/
def kindUnifiesAllSpec : ChangeSpec := { name := "kindUnifiesAll", fn := fun _ => fun
  | [d1, d2, d3] => { results := [.lit (.bool true)], args := [d1, d2, d3] }
  | _ => none }
def kindUnifiesAllRow : OpenClaim := { program := "ytcjmplpfebpfpaagreatdoor", sum := "62109e6e938d10bf8843a99a89b9e7cd6b3c69980bd7225151fd95be4daab9ec", func := "plinth/plinthlaw03.KindUnifiesAll", spec := "kindUnifiesAll", inPlace := ["internal/bytealg.IndexByteString", "internal/bytealg.IndexString"], unfollowed := true, recurses := true, named := ["unicode/utf8.first", "unicode/utf8.acceptRanges", "internal/bytealg.MaxLen"], loops := true, apart := false, laid := [("unicode/utf8.acceptRanges", laid_unicode_utf8_acceptRanges), ("unicode/utf8.first", laid_unicode_utf8_first)] }
def KindUnifiesAllSaid : Prop := kindUnifiesAllRow.holds Tryz.pinned (OpenSpec.ofChange kindUnifiesAllSpec)

/-- ITS FALSE NEIGHBOUR: 'it returns false'. Refute it at one input. -/
def kindUnifiesAllWrong : ChangeSpec := { name := "kindUnifiesAll", fn := fun _ => fun
  | [d1, d2, d3] => { results := [.lit (.bool false)], args := [d1, d2, d3] }
  | _ => none }
def KindUnifiesAllWrongFalsely : Prop := kindUnifiesAllRow.holds Tryz.pinned (OpenSpec.ofChange kindUnifiesAllWrong)

/-- 'plinthlaw03.KindUnifies': WHATEVER THE INPUT: true; the input reads as it did. -/
def kindUnifiesSpec : ChangeSpec := { name := "kindUnifies", fn := fun _ => fun
  | [d1, d2, d3] => { results := [.lit (.bool true)], args := [d1, d2, d3] }
  | _ => none }
def kindUnifiesRow : OpenClaim := { program := "ytcjmplpfebpfpaagreatdoor", sum := "62109e6e938d10bf8843a99a89b9e7cd6b3c69980bd7225151fd95be4daab9ec", func := "plinth/plinthlaw03.KindUnifies", spec := "kindUnifies", inPlace := ["internal/bytealg.IndexByteString", "internal/bytealg.IndexString"], unfollowed := true, recurses := true, named := ["unicode/utf8.first", "unicode/utf8.acceptRanges", "internal/bytealg.MaxLen"], loops := true, apart := false, laid := [("unicode/utf8.acceptRanges", laid_unicode_utf8_acceptRanges), ("unicode/utf8.first", laid_unicode_utf8_first)] }
def KindUnifiesSaid : Prop := kindUnifiesRow.holds Tryz.pinned (OpenSpec.ofChange kindUnifiesSpec)

/-- ITS FALSE NEIGHBOUR: 'it returns false'. Refute it at one input. -/
def kindUnifiesWrong : ChangeSpec := { name := "kindUnifies", fn := fun _ => fun
  | [d1, d2, d3] => { results := [.lit (.bool false)], args := [d1, d2, d3] }
  | _ => none }
def KindUnifiesWrongFalsely : Prop := kindUnifiesRow.holds Tryz.pinned (OpenSpec.ofChange kindUnifiesWrong)

/-- 'plinthlaw03.KindGeneral': WHATEVER THE INPUT: true; the input reads as it did. -/
def kindGeneralSpec : ChangeSpec := { name := "kindGeneral", fn := fun _ => fun
  | [d1, d2, d3] => { results := [.lit (.bool true)], args := [d1, d2, d3] }
  | _ => none }
def kindGeneralRow : OpenClaim := { program := "ytcjmplpfebpfpaagreatdoor", sum := "62109e6e938d10bf8843a99a89b9e7cd6b3c69980bd7225151fd95be4daab9ec", func := "plinth/plinthlaw03.KindGeneral", spec := "kindGeneral", inPlace := ["internal/bytealg.IndexByteString", "internal/bytealg.IndexString"], unfollowed := true, recurses := true, named := ["unicode/utf8.first", "unicode/utf8.acceptRanges", "internal/bytealg.MaxLen"], loops := true, apart := false, laid := [("unicode/utf8.acceptRanges", laid_unicode_utf8_acceptRanges), ("unicode/utf8.first", laid_unicode_utf8_first)] }
def KindGeneralSaid : Prop := kindGeneralRow.holds Tryz.pinned (OpenSpec.ofChange kindGeneralSpec)

/-- ITS FALSE NEIGHBOUR: 'it returns false'. Refute it at one input. -/
def kindGeneralWrong : ChangeSpec := { name := "kindGeneral", fn := fun _ => fun
  | [d1, d2, d3] => { results := [.lit (.bool false)], args := [d1, d2, d3] }
  | _ => none }
def KindGeneralWrongFalsely : Prop := kindGeneralRow.holds Tryz.pinned (OpenSpec.ofChange kindGeneralWrong)

/-- 'plinthlaw03.KindInstances': WHATEVER THE INPUT: true; the input reads as it did. -/
def kindInstancesSpec : ChangeSpec := { name := "kindInstances", fn := fun _ => fun
  | [d1, d2, d3] => { results := [.lit (.bool true)], args := [d1, d2, d3] }
  | _ => none }
def kindInstancesRow : OpenClaim := { program := "ytcjmplpfebpfpaagreatdoor", sum := "62109e6e938d10bf8843a99a89b9e7cd6b3c69980bd7225151fd95be4daab9ec", func := "plinth/plinthlaw03.KindInstances", spec := "kindInstances", inPlace := ["internal/bytealg.IndexByteString", "internal/bytealg.IndexString"], unfollowed := true, recurses := true, named := ["unicode/utf8.first", "unicode/utf8.acceptRanges", "internal/bytealg.MaxLen"], loops := true, apart := false, laid := [("unicode/utf8.acceptRanges", laid_unicode_utf8_acceptRanges), ("unicode/utf8.first", laid_unicode_utf8_first)] }
def KindInstancesSaid : Prop := kindInstancesRow.holds Tryz.pinned (OpenSpec.ofChange kindInstancesSpec)

/-- ITS FALSE NEIGHBOUR: 'it returns false'. Refute it at one input. -/
def kindInstancesWrong : ChangeSpec := { name := "kindInstances", fn := fun _ => fun
  | [d1, d2, d3] => { results := [.lit (.bool false)], args := [d1, d2, d3] }
  | _ => none }
def KindInstancesWrongFalsely : Prop := kindInstancesRow.holds Tryz.pinned (OpenSpec.ofChange kindInstancesWrong)

/-- 'plinthlaw03.KindNames': WHATEVER THE INPUT: true; the input reads as it did. -/
def kindNamesSpec : ChangeSpec := { name := "kindNames", fn := fun _ => fun
  | [d1, d2] => { results := [.lit (.bool true)], args := [d1, d2] }
  | _ => none }
def kindNamesRow : OpenClaim := { program := "ytcjmplpfebpfpaagreatdoor", sum := "62109e6e938d10bf8843a99a89b9e7cd6b3c69980bd7225151fd95be4daab9ec", func := "plinth/plinthlaw03.KindNames", spec := "kindNames", inPlace := ["internal/bytealg.IndexByteString", "internal/bytealg.IndexString"], unfollowed := true, recurses := true, named := ["unicode/utf8.first", "unicode/utf8.acceptRanges", "internal/bytealg.MaxLen"], loops := true, apart := false, laid := [("unicode/utf8.acceptRanges", laid_unicode_utf8_acceptRanges), ("unicode/utf8.first", laid_unicode_utf8_first)] }
def KindNamesSaid : Prop := kindNamesRow.holds Tryz.pinned (OpenSpec.ofChange kindNamesSpec)

/-- ITS FALSE NEIGHBOUR: 'it returns false'. Refute it at one input. -/
def kindNamesWrong : ChangeSpec := { name := "kindNames", fn := fun _ => fun
  | [d1, d2] => { results := [.lit (.bool false)], args := [d1, d2] }
  | _ => none }
def KindNamesWrongFalsely : Prop := kindNamesRow.holds Tryz.pinned (OpenSpec.ofChange kindNamesWrong)

/-- 'plinthlaw03.KindChecks': WHATEVER THE INPUT: true; the input reads as it did. -/
def kindChecksSpec : ChangeSpec := { name := "kindChecks", fn := fun _ => fun
  | [d1, d2] => { results := [.lit (.bool true)], args := [d1, d2] }
  | _ => none }
def kindChecksRow : OpenClaim := { program := "ytcjmplpfebpfpaagreatdoor", sum := "62109e6e938d10bf8843a99a89b9e7cd6b3c69980bd7225151fd95be4daab9ec", func := "plinth/plinthlaw03.KindChecks", spec := "kindChecks", inPlace := ["internal/bytealg.IndexByteString", "internal/bytealg.IndexString"], unfollowed := true, recurses := true, named := ["unicode/utf8.first", "unicode/utf8.acceptRanges", "internal/bytealg.MaxLen"], loops := true, apart := false, laid := [("unicode/utf8.acceptRanges", laid_unicode_utf8_acceptRanges), ("unicode/utf8.first", laid_unicode_utf8_first)] }
def KindChecksSaid : Prop := kindChecksRow.holds Tryz.pinned (OpenSpec.ofChange kindChecksSpec)

/-- ITS FALSE NEIGHBOUR: 'it returns false'. Refute it at one input. -/
def kindChecksWrong : ChangeSpec := { name := "kindChecks", fn := fun _ => fun
  | [d1, d2] => { results := [.lit (.bool false)], args := [d1, d2] }
  | _ => none }
def KindChecksWrongFalsely : Prop := kindChecksRow.holds Tryz.pinned (OpenSpec.ofChange kindChecksWrong)

/- THE SECOND FORM. 'bulk': how many values and letters a reading holds, each counted each time it is reached (what is shared counts as often as it is met; a slice's spare places count too). A statement '..UptoSaid' is the law's where the arguments, and the package variables that the reading takes, are together of bulk at most 1048576: NARROWER than '..Said'. Prove '..Said' where nothing that the law and all that it calls make is longer than what came in: it says more and counts as full. Else prove '..UptoSaid'. A law counts once. -/
mutual
def uptoBulk {H : Type} : DataW H → Nat
  | .lit (.string bytes) => bytes.length + 1
  | .lit _ => 1
  | .nil => 1
  | .ptr d => uptoBulk d + 1
  | .slice elems spare => uptoBulkAll elems + uptoBulkAll spare + 1
  | .agg parts => uptoBulkAll parts + 1
  | .iface _ d => uptoBulk d + 1
  | .map entries => uptoBulkEntries entries + 1
  | .held _ => 1
def uptoBulkAll {H : Type} : List (DataW H) → Nat
  | [] => 0
  | d :: r => uptoBulk d + uptoBulkAll r
def uptoBulkEntries {H : Type} : List (Lit × DataW H) → Nat
  | [] => 0
  | x :: r => uptoBulkEntry x + uptoBulkEntries r
def uptoBulkEntry {H : Type} : Lit × DataW H → Nat
  | (.string bytes, d) => bytes.length + uptoBulk d + 1
  | (_, d) => uptoBulk d + 1
 end
def uptoSmall : (H : Type) → List (DataW H) → Bool := fun _ ds => decide (uptoBulkAll ds ≤ 1048576)
def OpenSpec.upto (s : _root_.Go.ChangeSpec) : _root_.Go.OpenSpec := { _root_.Go.OpenSpec.ofChange s with cond := some uptoSmall }

/-- 'plinthlaw03.KindApplies', WHERE WHAT IT READS IS OF BULK AT MOST 1048576: true; the input reads as it did. -/
def kindAppliesUptoRow : OpenClaim := { program := "ytcjmplpfebpfpaagreatdoor", sum := "62109e6e938d10bf8843a99a89b9e7cd6b3c69980bd7225151fd95be4daab9ec", func := "plinth/plinthlaw03.KindApplies", spec := "kindApplies", inPlace := ["internal/bytealg.IndexByteString", "internal/bytealg.IndexString"], unfollowed := true, recurses := true, named := ["unicode/utf8.first", "unicode/utf8.acceptRanges", "internal/bytealg.MaxLen"], loops := true, apart := false, laid := [("unicode/utf8.acceptRanges", laid_unicode_utf8_acceptRanges), ("unicode/utf8.first", laid_unicode_utf8_first)], narrowed := true }
def KindAppliesUptoSaid : Prop := kindAppliesUptoRow.holds Tryz.pinned (OpenSpec.upto kindAppliesSpec)

/-- 'plinthlaw03.KindUnifiesAll', WHERE WHAT IT READS IS OF BULK AT MOST 1048576: true; the input reads as it did. -/
def kindUnifiesAllUptoRow : OpenClaim := { program := "ytcjmplpfebpfpaagreatdoor", sum := "62109e6e938d10bf8843a99a89b9e7cd6b3c69980bd7225151fd95be4daab9ec", func := "plinth/plinthlaw03.KindUnifiesAll", spec := "kindUnifiesAll", inPlace := ["internal/bytealg.IndexByteString", "internal/bytealg.IndexString"], unfollowed := true, recurses := true, named := ["unicode/utf8.first", "unicode/utf8.acceptRanges", "internal/bytealg.MaxLen"], loops := true, apart := false, laid := [("unicode/utf8.acceptRanges", laid_unicode_utf8_acceptRanges), ("unicode/utf8.first", laid_unicode_utf8_first)], narrowed := true }
def KindUnifiesAllUptoSaid : Prop := kindUnifiesAllUptoRow.holds Tryz.pinned (OpenSpec.upto kindUnifiesAllSpec)

/-- 'plinthlaw03.KindUnifies', WHERE WHAT IT READS IS OF BULK AT MOST 1048576: true; the input reads as it did. -/
def kindUnifiesUptoRow : OpenClaim := { program := "ytcjmplpfebpfpaagreatdoor", sum := "62109e6e938d10bf8843a99a89b9e7cd6b3c69980bd7225151fd95be4daab9ec", func := "plinth/plinthlaw03.KindUnifies", spec := "kindUnifies", inPlace := ["internal/bytealg.IndexByteString", "internal/bytealg.IndexString"], unfollowed := true, recurses := true, named := ["unicode/utf8.first", "unicode/utf8.acceptRanges", "internal/bytealg.MaxLen"], loops := true, apart := false, laid := [("unicode/utf8.acceptRanges", laid_unicode_utf8_acceptRanges), ("unicode/utf8.first", laid_unicode_utf8_first)], narrowed := true }
def KindUnifiesUptoSaid : Prop := kindUnifiesUptoRow.holds Tryz.pinned (OpenSpec.upto kindUnifiesSpec)

/-- 'plinthlaw03.KindGeneral', WHERE WHAT IT READS IS OF BULK AT MOST 1048576: true; the input reads as it did. -/
def kindGeneralUptoRow : OpenClaim := { program := "ytcjmplpfebpfpaagreatdoor", sum := "62109e6e938d10bf8843a99a89b9e7cd6b3c69980bd7225151fd95be4daab9ec", func := "plinth/plinthlaw03.KindGeneral", spec := "kindGeneral", inPlace := ["internal/bytealg.IndexByteString", "internal/bytealg.IndexString"], unfollowed := true, recurses := true, named := ["unicode/utf8.first", "unicode/utf8.acceptRanges", "internal/bytealg.MaxLen"], loops := true, apart := false, laid := [("unicode/utf8.acceptRanges", laid_unicode_utf8_acceptRanges), ("unicode/utf8.first", laid_unicode_utf8_first)], narrowed := true }
def KindGeneralUptoSaid : Prop := kindGeneralUptoRow.holds Tryz.pinned (OpenSpec.upto kindGeneralSpec)

/-- 'plinthlaw03.KindInstances', WHERE WHAT IT READS IS OF BULK AT MOST 1048576: true; the input reads as it did. -/
def kindInstancesUptoRow : OpenClaim := { program := "ytcjmplpfebpfpaagreatdoor", sum := "62109e6e938d10bf8843a99a89b9e7cd6b3c69980bd7225151fd95be4daab9ec", func := "plinth/plinthlaw03.KindInstances", spec := "kindInstances", inPlace := ["internal/bytealg.IndexByteString", "internal/bytealg.IndexString"], unfollowed := true, recurses := true, named := ["unicode/utf8.first", "unicode/utf8.acceptRanges", "internal/bytealg.MaxLen"], loops := true, apart := false, laid := [("unicode/utf8.acceptRanges", laid_unicode_utf8_acceptRanges), ("unicode/utf8.first", laid_unicode_utf8_first)], narrowed := true }
def KindInstancesUptoSaid : Prop := kindInstancesUptoRow.holds Tryz.pinned (OpenSpec.upto kindInstancesSpec)

/-- 'plinthlaw03.KindNames', WHERE WHAT IT READS IS OF BULK AT MOST 1048576: true; the input reads as it did. -/
def kindNamesUptoRow : OpenClaim := { program := "ytcjmplpfebpfpaagreatdoor", sum := "62109e6e938d10bf8843a99a89b9e7cd6b3c69980bd7225151fd95be4daab9ec", func := "plinth/plinthlaw03.KindNames", spec := "kindNames", inPlace := ["internal/bytealg.IndexByteString", "internal/bytealg.IndexString"], unfollowed := true, recurses := true, named := ["unicode/utf8.first", "unicode/utf8.acceptRanges", "internal/bytealg.MaxLen"], loops := true, apart := false, laid := [("unicode/utf8.acceptRanges", laid_unicode_utf8_acceptRanges), ("unicode/utf8.first", laid_unicode_utf8_first)], narrowed := true }
def KindNamesUptoSaid : Prop := kindNamesUptoRow.holds Tryz.pinned (OpenSpec.upto kindNamesSpec)

/-- 'plinthlaw03.KindChecks', WHERE WHAT IT READS IS OF BULK AT MOST 1048576: true; the input reads as it did. -/
def kindChecksUptoRow : OpenClaim := { program := "ytcjmplpfebpfpaagreatdoor", sum := "62109e6e938d10bf8843a99a89b9e7cd6b3c69980bd7225151fd95be4daab9ec", func := "plinth/plinthlaw03.KindChecks", spec := "kindChecks", inPlace := ["internal/bytealg.IndexByteString", "internal/bytealg.IndexString"], unfollowed := true, recurses := true, named := ["unicode/utf8.first", "unicode/utf8.acceptRanges", "internal/bytealg.MaxLen"], loops := true, apart := false, laid := [("unicode/utf8.acceptRanges", laid_unicode_utf8_acceptRanges), ("unicode/utf8.first", laid_unicode_utf8_first)], narrowed := true }
def KindChecksUptoSaid : Prop := kindChecksUptoRow.holds Tryz.pinned (OpenSpec.upto kindChecksSpec)

end Rows
end Go.Proofs.YtcjmplpfebpfpaaGreatDoor
