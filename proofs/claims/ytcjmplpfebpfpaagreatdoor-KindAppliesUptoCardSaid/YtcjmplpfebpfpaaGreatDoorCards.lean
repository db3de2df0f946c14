/-
  DERIVED. GIVEN WITH THE SEED: THE CARDS: each row of YtcjmplpfebpfpaaGreatDoorRows.lean that lists a variable, with what it lists TIED to the program's text (the seventh form; the later family's looks); each row that meets fmt, with fmt's text TOLD by the authors' own Lean function (tested against real Go, not proved from fmt's source: count such statements apart). THE CARD IS WHAT COUNTS. Prove the row's statement (the work); the ties are given (YtcjmplpfebpfpaaGreatDoorTie.lean); close each card by the builder's one call (the guide's Derived/Test/ToyasCard.lean, 'card_holds'). Laid BY PROGRAM, IN A SANDBOX (cutbox-door.mjs). By AI agents, Wed Nov 11 2026. No macro, syntax, notation, axiom, sorry.
-/
import Derived.Test.YtcjmplpfebpfpaaGreatDoorRows
import GoSem.ClaimSeven
namespace Go.Proofs.YtcjmplpfebpfpaaGreatDoor
namespace Rows

/-- THE TIED CARD OF 'plinthlaw03.KindApplies'. -/
def kindAppliesCard : Claim7 := { stood := { row := kindAppliesRow, standIns := [], harness := (true, "c9f56087364c78aeecea016089c629c8c9d1c9f01938efe4acdcc8c3129e0734"), looks := true }, kinds := [], alts := [], laidByText := true, laidKinds := [.data, .pinned], laidTests := true, laidLooks := .later }
def KindAppliesCardSaid : Prop := Claim7.holds Tryz.pinned (.plain (OpenSpec.ofChange kindAppliesSpec)) kindAppliesCard

/-- THE TIED CARD OF 'plinthlaw03.KindUnifiesAll'. -/
def kindUnifiesAllCard : Claim7 := { stood := { row := kindUnifiesAllRow, standIns := [], harness := (true, "c9f56087364c78aeecea016089c629c8c9d1c9f01938efe4acdcc8c3129e0734"), looks := true }, kinds := [], alts := [], laidByText := true, laidKinds := [.data, .pinned], laidTests := true, laidLooks := .later }
def KindUnifiesAllCardSaid : Prop := Claim7.holds Tryz.pinned (.plain (OpenSpec.ofChange kindUnifiesAllSpec)) kindUnifiesAllCard

/-- THE TIED CARD OF 'plinthlaw03.KindUnifies'. -/
def kindUnifiesCard : Claim7 := { stood := { row := kindUnifiesRow, standIns := [], harness := (true, "c9f56087364c78aeecea016089c629c8c9d1c9f01938efe4acdcc8c3129e0734"), looks := true }, kinds := [], alts := [], laidByText := true, laidKinds := [.data, .pinned], laidTests := true, laidLooks := .later }
def KindUnifiesCardSaid : Prop := Claim7.holds Tryz.pinned (.plain (OpenSpec.ofChange kindUnifiesSpec)) kindUnifiesCard

/-- THE TIED CARD OF 'plinthlaw03.KindGeneral'. -/
def kindGeneralCard : Claim7 := { stood := { row := kindGeneralRow, standIns := [], harness := (true, "c9f56087364c78aeecea016089c629c8c9d1c9f01938efe4acdcc8c3129e0734"), looks := true }, kinds := [], alts := [], laidByText := true, laidKinds := [.data, .pinned], laidTests := true, laidLooks := .later }
def KindGeneralCardSaid : Prop := Claim7.holds Tryz.pinned (.plain (OpenSpec.ofChange kindGeneralSpec)) kindGeneralCard

/-- THE TIED CARD OF 'plinthlaw03.KindInstances'. -/
def kindInstancesCard : Claim7 := { stood := { row := kindInstancesRow, standIns := [], harness := (true, "c9f56087364c78aeecea016089c629c8c9d1c9f01938efe4acdcc8c3129e0734"), looks := true }, kinds := [], alts := [], laidByText := true, laidKinds := [.data, .pinned], laidTests := true, laidLooks := .later }
def KindInstancesCardSaid : Prop := Claim7.holds Tryz.pinned (.plain (OpenSpec.ofChange kindInstancesSpec)) kindInstancesCard

/-- THE TIED CARD OF 'plinthlaw03.KindNames'. -/
def kindNamesCard : Claim7 := { stood := { row := kindNamesRow, standIns := [], harness := (true, "c9f56087364c78aeecea016089c629c8c9d1c9f01938efe4acdcc8c3129e0734"), looks := true }, kinds := [], alts := [], laidByText := true, laidKinds := [.data, .pinned], laidTests := true, laidLooks := .later }
def KindNamesCardSaid : Prop := Claim7.holds Tryz.pinned (.plain (OpenSpec.ofChange kindNamesSpec)) kindNamesCard

/-- THE TIED CARD OF 'plinthlaw03.KindChecks'. -/
def kindChecksCard : Claim7 := { stood := { row := kindChecksRow, standIns := [], harness := (true, "c9f56087364c78aeecea016089c629c8c9d1c9f01938efe4acdcc8c3129e0734"), looks := true }, kinds := [], alts := [], laidByText := true, laidKinds := [.data, .pinned], laidTests := true, laidLooks := .later }
def KindChecksCardSaid : Prop := Claim7.holds Tryz.pinned (.plain (OpenSpec.ofChange kindChecksSpec)) kindChecksCard

/-- THE SECOND FORM's CARD OF 'plinthlaw03.KindApplies'. -/
def kindAppliesUptoCard : Claim7 := { stood := { row := kindAppliesUptoRow, standIns := [], harness := (true, "c9f56087364c78aeecea016089c629c8c9d1c9f01938efe4acdcc8c3129e0734"), looks := true }, kinds := [], alts := [], laidByText := true, laidKinds := [.data, .pinned], laidTests := true, laidLooks := .later }
def KindAppliesUptoCardSaid : Prop := Claim7.holds Tryz.pinned (.plain (OpenSpec.upto kindAppliesSpec)) kindAppliesUptoCard

/-- THE SECOND FORM's CARD OF 'plinthlaw03.KindUnifiesAll'. -/
def kindUnifiesAllUptoCard : Claim7 := { stood := { row := kindUnifiesAllUptoRow, standIns := [], harness := (true, "c9f56087364c78aeecea016089c629c8c9d1c9f01938efe4acdcc8c3129e0734"), looks := true }, kinds := [], alts := [], laidByText := true, laidKinds := [.data, .pinned], laidTests := true, laidLooks := .later }
def KindUnifiesAllUptoCardSaid : Prop := Claim7.holds Tryz.pinned (.plain (OpenSpec.upto kindUnifiesAllSpec)) kindUnifiesAllUptoCard

/-- THE SECOND FORM's CARD OF 'plinthlaw03.KindUnifies'. -/
def kindUnifiesUptoCard : Claim7 := { stood := { row := kindUnifiesUptoRow, standIns := [], harness := (true, "c9f56087364c78aeecea016089c629c8c9d1c9f01938efe4acdcc8c3129e0734"), looks := true }, kinds := [], alts := [], laidByText := true, laidKinds := [.data, .pinned], laidTests := true, laidLooks := .later }
def KindUnifiesUptoCardSaid : Prop := Claim7.holds Tryz.pinned (.plain (OpenSpec.upto kindUnifiesSpec)) kindUnifiesUptoCard

/-- THE SECOND FORM's CARD OF 'plinthlaw03.KindGeneral'. -/
def kindGeneralUptoCard : Claim7 := { stood := { row := kindGeneralUptoRow, standIns := [], harness := (true, "c9f56087364c78aeecea016089c629c8c9d1c9f01938efe4acdcc8c3129e0734"), looks := true }, kinds := [], alts := [], laidByText := true, laidKinds := [.data, .pinned], laidTests := true, laidLooks := .later }
def KindGeneralUptoCardSaid : Prop := Claim7.holds Tryz.pinned (.plain (OpenSpec.upto kindGeneralSpec)) kindGeneralUptoCard

/-- THE SECOND FORM's CARD OF 'plinthlaw03.KindInstances'. -/
def kindInstancesUptoCard : Claim7 := { stood := { row := kindInstancesUptoRow, standIns := [], harness := (true, "c9f56087364c78aeecea016089c629c8c9d1c9f01938efe4acdcc8c3129e0734"), looks := true }, kinds := [], alts := [], laidByText := true, laidKinds := [.data, .pinned], laidTests := true, laidLooks := .later }
def KindInstancesUptoCardSaid : Prop := Claim7.holds Tryz.pinned (.plain (OpenSpec.upto kindInstancesSpec)) kindInstancesUptoCard

/-- THE SECOND FORM's CARD OF 'plinthlaw03.KindNames'. -/
def kindNamesUptoCard : Claim7 := { stood := { row := kindNamesUptoRow, standIns := [], harness := (true, "c9f56087364c78aeecea016089c629c8c9d1c9f01938efe4acdcc8c3129e0734"), looks := true }, kinds := [], alts := [], laidByText := true, laidKinds := [.data, .pinned], laidTests := true, laidLooks := .later }
def KindNamesUptoCardSaid : Prop := Claim7.holds Tryz.pinned (.plain (OpenSpec.upto kindNamesSpec)) kindNamesUptoCard

/-- THE SECOND FORM's CARD OF 'plinthlaw03.KindChecks'. -/
def kindChecksUptoCard : Claim7 := { stood := { row := kindChecksUptoRow, standIns := [], harness := (true, "c9f56087364c78aeecea016089c629c8c9d1c9f01938efe4acdcc8c3129e0734"), looks := true }, kinds := [], alts := [], laidByText := true, laidKinds := [.data, .pinned], laidTests := true, laidLooks := .later }
def KindChecksUptoCardSaid : Prop := Claim7.holds Tryz.pinned (.plain (OpenSpec.upto kindChecksSpec)) kindChecksUptoCard
end Rows
end Go.Proofs.YtcjmplpfebpfpaaGreatDoor
