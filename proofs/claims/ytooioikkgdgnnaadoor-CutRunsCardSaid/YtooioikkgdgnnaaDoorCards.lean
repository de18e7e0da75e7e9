/-
  DERIVED. GIVEN WITH THE SEED: THE CARDS: each row of YtooioikkgdgnnaaDoorRows.lean that lists a variable, with what it lists TIED to the program's text (the seventh form; the later family's looks); each row that meets fmt, with fmt's text TOLD by the authors' own Lean function (tested against real Go, not proved from fmt's source: count such statements apart). THE CARD IS WHAT COUNTS. Prove the row's statement (the work); the ties are given (YtooioikkgdgnnaaDoorTie.lean); close each card by the builder's one call (the guide's Derived/Test/ToyasCard.lean, 'card_holds'). Laid BY PROGRAM, IN A SANDBOX (cutbox-door.mjs). By AI agents, Wed Nov 11 2026. No macro, syntax, notation, axiom, sorry.
-/
import Derived.Test.YtooioikkgdgnnaaDoorRows
import GoSem.ClaimSeven
namespace Go.Proofs.YtooioikkgdgnnaaDoor
namespace Rows

/-- THE TIED CARD OF 'ostlerlaw25.CutTells'. -/
def cutTellsCard : Claim7 := { stood := { row := cutTellsRow, standIns := [], harness := (true, "28fb12ea59867c0778391def0ee282d292290d43da54d04869a7d18822716f79"), looks := false }, kinds := [], alts := [], laidByText := true, laidKinds := [.data, .data, .data], laidTests := true, laidLooks := .later }
def CutTellsCardSaid : Prop := Claim7.holds Tryd.pinned (.plain (OpenSpec.ofChange cutTellsSpec)) cutTellsCard

/-- THE TIED CARD OF 'ostlerlaw25.CutRuns'. -/
def cutRunsCard : Claim7 := { stood := { row := cutRunsRow, standIns := [], harness := (true, "28fb12ea59867c0778391def0ee282d292290d43da54d04869a7d18822716f79"), looks := false }, kinds := [], alts := [], laidByText := true, laidKinds := [.data, .data, .data], laidTests := true, laidLooks := .later }
def CutRunsCardSaid : Prop := Claim7.holds Tryd.pinned (.plain (OpenSpec.ofChange cutRunsSpec)) cutRunsCard

/-- THE TIED CARD OF 'ostlerlaw25.CutWrong'. -/
def cutWrongCard : Claim7 := { stood := { row := cutWrongRow, standIns := [], harness := (true, "28fb12ea59867c0778391def0ee282d292290d43da54d04869a7d18822716f79"), looks := false }, kinds := [], alts := [], laidByText := true, laidKinds := [.data, .data, .data], laidTests := true, laidLooks := .later }
def CutWrongCardSaid : Prop := Claim7.holds Tryd.pinned (.plain (OpenSpec.ofChange cutWrongSpec)) cutWrongCard

/-- THE TIED CARD OF 'ostlerlaw25.CutSound'. -/
def cutSoundCard : Claim7 := { stood := { row := cutSoundRow, standIns := [], harness := (true, "28fb12ea59867c0778391def0ee282d292290d43da54d04869a7d18822716f79"), looks := false }, kinds := [], alts := [], laidByText := true, laidKinds := [.data, .data, .data], laidTests := true, laidLooks := .later }
def CutSoundCardSaid : Prop := Claim7.holds Tryd.pinned (.plain (OpenSpec.ofChange cutSoundSpec)) cutSoundCard

/-- THE TIED CARD OF 'ostlerlaw25.CutProof'. -/
def cutProofCard : Claim7 := { stood := { row := cutProofRow, standIns := [], harness := (true, "28fb12ea59867c0778391def0ee282d292290d43da54d04869a7d18822716f79"), looks := false }, kinds := [], alts := [], laidByText := true, laidKinds := [.data, .data, .data], laidTests := true, laidLooks := .later }
def CutProofCardSaid : Prop := Claim7.holds Tryd.pinned (.plain (OpenSpec.ofChange cutProofSpec)) cutProofCard

/-- THE TIED CARD OF 'ostlerlaw25.CutResolves'. -/
def cutResolvesCard : Claim7 := { stood := { row := cutResolvesRow, standIns := [], harness := (true, "28fb12ea59867c0778391def0ee282d292290d43da54d04869a7d18822716f79"), looks := false }, kinds := [], alts := [], laidByText := true, laidKinds := [.data, .data, .data], laidTests := true, laidLooks := .later }
def CutResolvesCardSaid : Prop := Claim7.holds Tryd.pinned (.plain (OpenSpec.ofChange cutResolvesSpec)) cutResolvesCard

/-- THE TIED CARD OF 'ostlerlaw25.CutEqual'. -/
def cutEqualCard : Claim7 := { stood := { row := cutEqualRow, standIns := [], harness := (true, "28fb12ea59867c0778391def0ee282d292290d43da54d04869a7d18822716f79"), looks := false }, kinds := [], alts := [], laidByText := true, laidKinds := [.data, .data, .data], laidTests := true, laidLooks := .later }
def CutEqualCardSaid : Prop := Claim7.holds Tryd.pinned (.plain (OpenSpec.ofChange cutEqualSpec)) cutEqualCard

/-- THE TIED CARD OF 'ostlerlaw25.CutPigeons'. -/
def cutPigeonsCard : Claim7 := { stood := { row := cutPigeonsRow, standIns := [], harness := (true, "28fb12ea59867c0778391def0ee282d292290d43da54d04869a7d18822716f79"), looks := false }, kinds := [], alts := [], laidByText := true, laidKinds := [.data, .data, .data], laidTests := true, laidLooks := .later }
def CutPigeonsCardSaid : Prop := Claim7.holds Tryd.pinned (.plain (OpenSpec.ofChange cutPigeonsSpec)) cutPigeonsCard

/-- THE SECOND FORM's CARD OF 'ostlerlaw25.CutTells'. -/
def cutTellsUptoCard : Claim7 := { stood := { row := cutTellsUptoRow, standIns := [], harness := (true, "28fb12ea59867c0778391def0ee282d292290d43da54d04869a7d18822716f79"), looks := false }, kinds := [], alts := [], laidByText := true, laidKinds := [.data, .data, .data], laidTests := true, laidLooks := .later }
def CutTellsUptoCardSaid : Prop := Claim7.holds Tryd.pinned (.plain (OpenSpec.upto cutTellsSpec)) cutTellsUptoCard

/-- THE SECOND FORM's CARD OF 'ostlerlaw25.CutRuns'. -/
def cutRunsUptoCard : Claim7 := { stood := { row := cutRunsUptoRow, standIns := [], harness := (true, "28fb12ea59867c0778391def0ee282d292290d43da54d04869a7d18822716f79"), looks := false }, kinds := [], alts := [], laidByText := true, laidKinds := [.data, .data, .data], laidTests := true, laidLooks := .later }
def CutRunsUptoCardSaid : Prop := Claim7.holds Tryd.pinned (.plain (OpenSpec.upto cutRunsSpec)) cutRunsUptoCard

/-- THE SECOND FORM's CARD OF 'ostlerlaw25.CutWrong'. -/
def cutWrongUptoCard : Claim7 := { stood := { row := cutWrongUptoRow, standIns := [], harness := (true, "28fb12ea59867c0778391def0ee282d292290d43da54d04869a7d18822716f79"), looks := false }, kinds := [], alts := [], laidByText := true, laidKinds := [.data, .data, .data], laidTests := true, laidLooks := .later }
def CutWrongUptoCardSaid : Prop := Claim7.holds Tryd.pinned (.plain (OpenSpec.upto cutWrongSpec)) cutWrongUptoCard

/-- THE SECOND FORM's CARD OF 'ostlerlaw25.CutSound'. -/
def cutSoundUptoCard : Claim7 := { stood := { row := cutSoundUptoRow, standIns := [], harness := (true, "28fb12ea59867c0778391def0ee282d292290d43da54d04869a7d18822716f79"), looks := false }, kinds := [], alts := [], laidByText := true, laidKinds := [.data, .data, .data], laidTests := true, laidLooks := .later }
def CutSoundUptoCardSaid : Prop := Claim7.holds Tryd.pinned (.plain (OpenSpec.upto cutSoundSpec)) cutSoundUptoCard

/-- THE SECOND FORM's CARD OF 'ostlerlaw25.CutProof'. -/
def cutProofUptoCard : Claim7 := { stood := { row := cutProofUptoRow, standIns := [], harness := (true, "28fb12ea59867c0778391def0ee282d292290d43da54d04869a7d18822716f79"), looks := false }, kinds := [], alts := [], laidByText := true, laidKinds := [.data, .data, .data], laidTests := true, laidLooks := .later }
def CutProofUptoCardSaid : Prop := Claim7.holds Tryd.pinned (.plain (OpenSpec.upto cutProofSpec)) cutProofUptoCard

/-- THE SECOND FORM's CARD OF 'ostlerlaw25.CutResolves'. -/
def cutResolvesUptoCard : Claim7 := { stood := { row := cutResolvesUptoRow, standIns := [], harness := (true, "28fb12ea59867c0778391def0ee282d292290d43da54d04869a7d18822716f79"), looks := false }, kinds := [], alts := [], laidByText := true, laidKinds := [.data, .data, .data], laidTests := true, laidLooks := .later }
def CutResolvesUptoCardSaid : Prop := Claim7.holds Tryd.pinned (.plain (OpenSpec.upto cutResolvesSpec)) cutResolvesUptoCard

/-- THE SECOND FORM's CARD OF 'ostlerlaw25.CutEqual'. -/
def cutEqualUptoCard : Claim7 := { stood := { row := cutEqualUptoRow, standIns := [], harness := (true, "28fb12ea59867c0778391def0ee282d292290d43da54d04869a7d18822716f79"), looks := false }, kinds := [], alts := [], laidByText := true, laidKinds := [.data, .data, .data], laidTests := true, laidLooks := .later }
def CutEqualUptoCardSaid : Prop := Claim7.holds Tryd.pinned (.plain (OpenSpec.upto cutEqualSpec)) cutEqualUptoCard

/-- THE SECOND FORM's CARD OF 'ostlerlaw25.CutPigeons'. -/
def cutPigeonsUptoCard : Claim7 := { stood := { row := cutPigeonsUptoRow, standIns := [], harness := (true, "28fb12ea59867c0778391def0ee282d292290d43da54d04869a7d18822716f79"), looks := false }, kinds := [], alts := [], laidByText := true, laidKinds := [.data, .data, .data], laidTests := true, laidLooks := .later }
def CutPigeonsUptoCardSaid : Prop := Claim7.holds Tryd.pinned (.plain (OpenSpec.upto cutPigeonsSpec)) cutPigeonsUptoCard
end Rows
end Go.Proofs.YtooioikkgdgnnaaDoor
