/-
  DERIVED. GIVEN WITH THE SEED: THE CARDS: each row of YtbibjlaepmfoeaaDoorRows.lean that lists a variable, with what it lists TIED to the program's text (the seventh form; the later family's looks); each row that meets fmt, with fmt's text TOLD by the authors' own Lean function (tested against real Go, not proved from fmt's source: count such statements apart). THE CARD IS WHAT COUNTS. Prove the row's statement (the work); the ties are given (YtbibjlaepmfoeaaDoorTie.lean); close each card by the builder's one call (the guide's Derived/Test/ToyasCard.lean, 'card_holds'). Laid BY PROGRAM, IN A SANDBOX (cutbox-door.mjs). By AI agents, Wed Nov 11 2026. No macro, syntax, notation, axiom, sorry.
-/
import Derived.Test.YtbibjlaepmfoeaaDoorRows
import GoSem.ClaimSeven
namespace Go.Proofs.YtbibjlaepmfoeaaDoor
namespace Rows

/-- THE TIED CARD OF 'ostlerlaw24.PbNegate'. -/
def pbNegateCard : Claim7 := { stood := { row := pbNegateRow, standIns := [], harness := (true, "88aae9111e3bf736b06cfaaa40f145d0f739e05eb2ca0b45edc0fef2cef538e4"), looks := false }, kinds := [], alts := [], laidByText := true, laidKinds := [.data, .data, .data], laidTests := true, laidLooks := .later }
def PbNegateCardSaid : Prop := Claim7.holds Tryd.pinned (.plain (OpenSpec.ofChange pbNegateSpec)) pbNegateCard

/-- THE TIED CARD OF 'ostlerlaw24.PbUnits'. -/
def pbUnitsCard : Claim7 := { stood := { row := pbUnitsRow, standIns := [], harness := (true, "88aae9111e3bf736b06cfaaa40f145d0f739e05eb2ca0b45edc0fef2cef538e4"), looks := false }, kinds := [], alts := [], laidByText := true, laidKinds := [.data, .data, .data], laidTests := true, laidLooks := .later }
def PbUnitsCardSaid : Prop := Claim7.holds Tryd.pinned (.plain (OpenSpec.ofChange pbUnitsSpec)) pbUnitsCard

/-- THE TIED CARD OF 'ostlerlaw24.PbClause'. -/
def pbClauseCard : Claim7 := { stood := { row := pbClauseRow, standIns := [], harness := (true, "88aae9111e3bf736b06cfaaa40f145d0f739e05eb2ca0b45edc0fef2cef538e4"), looks := false }, kinds := [], alts := [], laidByText := true, laidKinds := [.data, .data, .data], laidTests := true, laidLooks := .later }
def PbClauseCardSaid : Prop := Claim7.holds Tryd.pinned (.plain (OpenSpec.ofChange pbClauseSpec)) pbClauseCard

/-- THE TIED CARD OF 'ostlerlaw24.PbGrows'. -/
def pbGrowsCard : Claim7 := { stood := { row := pbGrowsRow, standIns := [], harness := (true, "88aae9111e3bf736b06cfaaa40f145d0f739e05eb2ca0b45edc0fef2cef538e4"), looks := false }, kinds := [], alts := [], laidByText := true, laidKinds := [.data, .data, .data], laidTests := true, laidLooks := .later }
def PbGrowsCardSaid : Prop := Claim7.holds Tryd.pinned (.plain (OpenSpec.ofChange pbGrowsSpec)) pbGrowsCard

/-- THE TIED CARD OF 'ostlerlaw24.PbWrong'. -/
def pbWrongCard : Claim7 := { stood := { row := pbWrongRow, standIns := [], harness := (true, "88aae9111e3bf736b06cfaaa40f145d0f739e05eb2ca0b45edc0fef2cef538e4"), looks := false }, kinds := [], alts := [], laidByText := true, laidKinds := [.data, .data, .data], laidTests := true, laidLooks := .later }
def PbWrongCardSaid : Prop := Claim7.holds Tryd.pinned (.plain (OpenSpec.ofChange pbWrongSpec)) pbWrongCard

/-- THE TIED CARD OF 'ostlerlaw24.PbTells'. -/
def pbTellsCard : Claim7 := { stood := { row := pbTellsRow, standIns := [], harness := (true, "88aae9111e3bf736b06cfaaa40f145d0f739e05eb2ca0b45edc0fef2cef538e4"), looks := false }, kinds := [], alts := [], laidByText := true, laidKinds := [.data, .data, .data], laidTests := true, laidLooks := .later }
def PbTellsCardSaid : Prop := Claim7.holds Tryd.pinned (.plain (OpenSpec.ofChange pbTellsSpec)) pbTellsCard

/-- THE TIED CARD OF 'ostlerlaw24.PbNorm'. -/
def pbNormCard : Claim7 := { stood := { row := pbNormRow, standIns := [], harness := (true, "88aae9111e3bf736b06cfaaa40f145d0f739e05eb2ca0b45edc0fef2cef538e4"), looks := false }, kinds := [], alts := [], laidByText := true, laidKinds := [.data, .data, .data], laidTests := true, laidLooks := .later }
def PbNormCardSaid : Prop := Claim7.holds Tryd.pinned (.plain (OpenSpec.ofChange pbNormSpec)) pbNormCard

/-- THE SECOND FORM's CARD OF 'ostlerlaw24.PbNegate'. -/
def pbNegateUptoCard : Claim7 := { stood := { row := pbNegateUptoRow, standIns := [], harness := (true, "88aae9111e3bf736b06cfaaa40f145d0f739e05eb2ca0b45edc0fef2cef538e4"), looks := false }, kinds := [], alts := [], laidByText := true, laidKinds := [.data, .data, .data], laidTests := true, laidLooks := .later }
def PbNegateUptoCardSaid : Prop := Claim7.holds Tryd.pinned (.plain (OpenSpec.upto pbNegateSpec)) pbNegateUptoCard

/-- THE SECOND FORM's CARD OF 'ostlerlaw24.PbUnits'. -/
def pbUnitsUptoCard : Claim7 := { stood := { row := pbUnitsUptoRow, standIns := [], harness := (true, "88aae9111e3bf736b06cfaaa40f145d0f739e05eb2ca0b45edc0fef2cef538e4"), looks := false }, kinds := [], alts := [], laidByText := true, laidKinds := [.data, .data, .data], laidTests := true, laidLooks := .later }
def PbUnitsUptoCardSaid : Prop := Claim7.holds Tryd.pinned (.plain (OpenSpec.upto pbUnitsSpec)) pbUnitsUptoCard

/-- THE SECOND FORM's CARD OF 'ostlerlaw24.PbClause'. -/
def pbClauseUptoCard : Claim7 := { stood := { row := pbClauseUptoRow, standIns := [], harness := (true, "88aae9111e3bf736b06cfaaa40f145d0f739e05eb2ca0b45edc0fef2cef538e4"), looks := false }, kinds := [], alts := [], laidByText := true, laidKinds := [.data, .data, .data], laidTests := true, laidLooks := .later }
def PbClauseUptoCardSaid : Prop := Claim7.holds Tryd.pinned (.plain (OpenSpec.upto pbClauseSpec)) pbClauseUptoCard

/-- THE SECOND FORM's CARD OF 'ostlerlaw24.PbGrows'. -/
def pbGrowsUptoCard : Claim7 := { stood := { row := pbGrowsUptoRow, standIns := [], harness := (true, "88aae9111e3bf736b06cfaaa40f145d0f739e05eb2ca0b45edc0fef2cef538e4"), looks := false }, kinds := [], alts := [], laidByText := true, laidKinds := [.data, .data, .data], laidTests := true, laidLooks := .later }
def PbGrowsUptoCardSaid : Prop := Claim7.holds Tryd.pinned (.plain (OpenSpec.upto pbGrowsSpec)) pbGrowsUptoCard

/-- THE SECOND FORM's CARD OF 'ostlerlaw24.PbWrong'. -/
def pbWrongUptoCard : Claim7 := { stood := { row := pbWrongUptoRow, standIns := [], harness := (true, "88aae9111e3bf736b06cfaaa40f145d0f739e05eb2ca0b45edc0fef2cef538e4"), looks := false }, kinds := [], alts := [], laidByText := true, laidKinds := [.data, .data, .data], laidTests := true, laidLooks := .later }
def PbWrongUptoCardSaid : Prop := Claim7.holds Tryd.pinned (.plain (OpenSpec.upto pbWrongSpec)) pbWrongUptoCard

/-- THE SECOND FORM's CARD OF 'ostlerlaw24.PbTells'. -/
def pbTellsUptoCard : Claim7 := { stood := { row := pbTellsUptoRow, standIns := [], harness := (true, "88aae9111e3bf736b06cfaaa40f145d0f739e05eb2ca0b45edc0fef2cef538e4"), looks := false }, kinds := [], alts := [], laidByText := true, laidKinds := [.data, .data, .data], laidTests := true, laidLooks := .later }
def PbTellsUptoCardSaid : Prop := Claim7.holds Tryd.pinned (.plain (OpenSpec.upto pbTellsSpec)) pbTellsUptoCard

/-- THE SECOND FORM's CARD OF 'ostlerlaw24.PbNorm'. -/
def pbNormUptoCard : Claim7 := { stood := { row := pbNormUptoRow, standIns := [], harness := (true, "88aae9111e3bf736b06cfaaa40f145d0f739e05eb2ca0b45edc0fef2cef538e4"), looks := false }, kinds := [], alts := [], laidByText := true, laidKinds := [.data, .data, .data], laidTests := true, laidLooks := .later }
def PbNormUptoCardSaid : Prop := Claim7.holds Tryd.pinned (.plain (OpenSpec.upto pbNormSpec)) pbNormUptoCard
end Rows
end Go.Proofs.YtbibjlaepmfoeaaDoor
