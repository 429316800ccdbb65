/-
  DERIVED. GIVEN WITH THE SEED: THE CARDS: each row of YtgnjjocafmofaaaGreatDoorRows.lean that lists a variable, with what it lists TIED to the program's text (the seventh form; the later family's looks); each row that meets fmt, with fmt's text TOLD by the authors' own Lean function (tested against real Go, not proved from fmt's source: count such statements apart). THE CARD IS WHAT COUNTS. Prove the row's statement (the work); the ties are given (YtgnjjocafmofaaaGreatDoorTie.lean); close each card by the builder's one call (the guide's Derived/Test/ToyasCard.lean, 'card_holds'). Laid BY PROGRAM, IN A SANDBOX (cutbox-door.mjs). By AI agents, Wed Nov 11 2026. No macro, syntax, notation, axiom, sorry.
-/
import Derived.Test.YtgnjjocafmofaaaGreatDoorRows
import GoSem.ClaimSeven
namespace Go.Proofs.YtgnjjocafmofaaaGreatDoor
namespace Rows

/-- THE TIED CARD OF 'postillaw08.GalleySets'. -/
def galleySetsCard : Claim7 := { stood := { row := galleySetsRow, standIns := [], harness := (true, "18b1af13f98e41c6768701598d5e321ab823bcfd34936803595a412bf2d3e157"), looks := false }, kinds := [], alts := [], laidByText := true, laidKinds := [.funcs], laidTests := true, laidLooks := .later }
def GalleySetsCardSaid : Prop := Claim7.holds Tryz.pinned (.plain (OpenSpec.ofChange galleySetsSpec)) galleySetsCard

/-- THE TIED CARD OF 'postillaw03.SlipExamples'. -/
def slipExamplesCard : Claim7 := { stood := { row := slipExamplesRow, standIns := [], harness := (true, "18b1af13f98e41c6768701598d5e321ab823bcfd34936803595a412bf2d3e157"), looks := false }, kinds := [], alts := [], laidByText := true, laidKinds := [.data, .funcs, .funcs, .pinned], laidTests := true, laidLooks := .later }
def SlipExamplesCardSaid : Prop := Claim7.holds Tryz.pinned (.plain (OpenSpec.ofChange slipExamplesSpec)) slipExamplesCard

/-- THE TIED CARD OF 'postillaw03.SlipOrder'. -/
def slipOrderCard : Claim7 := { stood := { row := slipOrderRow, standIns := [], harness := (true, "18b1af13f98e41c6768701598d5e321ab823bcfd34936803595a412bf2d3e157"), looks := false }, kinds := [], alts := [], laidByText := true, laidKinds := [.data, .funcs, .funcs, .pinned], laidTests := true, laidLooks := .later }
def SlipOrderCardSaid : Prop := Claim7.holds Tryz.pinned (.plain (OpenSpec.ofChange slipOrderSpec)) slipOrderCard

/-- THE TIED CARD OF 'postillaw03.SlipWrong'. -/
def slipWrongCard : Claim7 := { stood := { row := slipWrongRow, standIns := [], harness := (true, "18b1af13f98e41c6768701598d5e321ab823bcfd34936803595a412bf2d3e157"), looks := false }, kinds := [], alts := [], laidByText := true, laidKinds := [.data, .funcs, .funcs, .pinned], laidTests := true, laidLooks := .later }
def SlipWrongCardSaid : Prop := Claim7.holds Tryz.pinned (.plain (OpenSpec.ofChange slipWrongSpec)) slipWrongCard

/-- THE TIED CARD OF 'postillaw03.SlipLongest'. -/
def slipLongestCard : Claim7 := { stood := { row := slipLongestRow, standIns := [], harness := (true, "18b1af13f98e41c6768701598d5e321ab823bcfd34936803595a412bf2d3e157"), looks := false }, kinds := [], alts := [], laidByText := true, laidKinds := [.data, .funcs, .funcs, .pinned], laidTests := true, laidLooks := .later }
def SlipLongestCardSaid : Prop := Claim7.holds Tryz.pinned (.plain (OpenSpec.ofChange slipLongestSpec)) slipLongestCard

/-- THE TIED CARD OF 'postillaw03.SlipWider'. -/
def slipWiderCard : Claim7 := { stood := { row := slipWiderRow, standIns := [], harness := (true, "18b1af13f98e41c6768701598d5e321ab823bcfd34936803595a412bf2d3e157"), looks := false }, kinds := [], alts := [], laidByText := true, laidKinds := [.data, .funcs, .funcs, .pinned], laidTests := true, laidLooks := .later }
def SlipWiderCardSaid : Prop := Claim7.holds Tryz.pinned (.plain (OpenSpec.ofChange slipWiderSpec)) slipWiderCard

/-- THE TIED CARD OF 'postillaw03.SlipSides'. -/
def slipSidesCard : Claim7 := { stood := { row := slipSidesRow, standIns := [], harness := (true, "18b1af13f98e41c6768701598d5e321ab823bcfd34936803595a412bf2d3e157"), looks := false }, kinds := [], alts := [], laidByText := true, laidKinds := [.data, .funcs, .funcs, .pinned], laidTests := true, laidLooks := .later }
def SlipSidesCardSaid : Prop := Claim7.holds Tryz.pinned (.plain (OpenSpec.ofChange slipSidesSpec)) slipSidesCard

/-- THE TIED CARD OF 'postillaw03.SlipParts'. -/
def slipPartsCard : Claim7 := { stood := { row := slipPartsRow, standIns := [], harness := (true, "18b1af13f98e41c6768701598d5e321ab823bcfd34936803595a412bf2d3e157"), looks := false }, kinds := [], alts := [], laidByText := true, laidKinds := [.data, .funcs, .funcs, .pinned], laidTests := true, laidLooks := .later }
def SlipPartsCardSaid : Prop := Claim7.holds Tryz.pinned (.plain (OpenSpec.ofChange slipPartsSpec)) slipPartsCard

/-- THE TIED CARD OF 'postillaw03.SlipCopied'. -/
def slipCopiedCard : Claim7 := { stood := { row := slipCopiedRow, standIns := [], harness := (true, "18b1af13f98e41c6768701598d5e321ab823bcfd34936803595a412bf2d3e157"), looks := false }, kinds := [], alts := [], laidByText := true, laidKinds := [.data, .funcs, .funcs, .pinned], laidTests := true, laidLooks := .later }
def SlipCopiedCardSaid : Prop := Claim7.holds Tryz.pinned (.plain (OpenSpec.ofChange slipCopiedSpec)) slipCopiedCard

/-- THE TIED CARD OF 'postillaw03.SlipEach'. -/
def slipEachCard : Claim7 := { stood := { row := slipEachRow, standIns := [], harness := (true, "18b1af13f98e41c6768701598d5e321ab823bcfd34936803595a412bf2d3e157"), looks := false }, kinds := [], alts := [], laidByText := true, laidKinds := [.data, .funcs, .funcs, .pinned], laidTests := true, laidLooks := .later }
def SlipEachCardSaid : Prop := Claim7.holds Tryz.pinned (.plain (OpenSpec.ofChange slipEachSpec)) slipEachCard

/-- THE TIED CARD OF 'postillaw03.SlipWhere'. -/
def slipWhereCard : Claim7 := { stood := { row := slipWhereRow, standIns := [], harness := (true, "18b1af13f98e41c6768701598d5e321ab823bcfd34936803595a412bf2d3e157"), looks := false }, kinds := [], alts := [], laidByText := true, laidKinds := [.data, .funcs, .funcs, .pinned], laidTests := true, laidLooks := .later }
def SlipWhereCardSaid : Prop := Claim7.holds Tryz.pinned (.plain (OpenSpec.ofChange slipWhereSpec)) slipWhereCard

/-- THE TIED CARD OF 'postillaw03.SlipMoved'. -/
def slipMovedCard : Claim7 := { stood := { row := slipMovedRow, standIns := [], harness := (true, "18b1af13f98e41c6768701598d5e321ab823bcfd34936803595a412bf2d3e157"), looks := false }, kinds := [], alts := [], laidByText := true, laidKinds := [.data, .funcs, .funcs, .pinned], laidTests := true, laidLooks := .later }
def SlipMovedCardSaid : Prop := Claim7.holds Tryz.pinned (.plain (OpenSpec.ofChange slipMovedSpec)) slipMovedCard

/-- THE SECOND FORM's CARD OF 'postillaw08.GalleySets'. -/
def galleySetsUptoCard : Claim7 := { stood := { row := galleySetsUptoRow, standIns := [], harness := (true, "18b1af13f98e41c6768701598d5e321ab823bcfd34936803595a412bf2d3e157"), looks := false }, kinds := [], alts := [], laidByText := true, laidKinds := [.funcs], laidTests := true, laidLooks := .later }
def GalleySetsUptoCardSaid : Prop := Claim7.holds Tryz.pinned (.plain (OpenSpec.upto galleySetsSpec)) galleySetsUptoCard

/-- THE SECOND FORM's CARD OF 'postillaw03.SlipExamples'. -/
def slipExamplesUptoCard : Claim7 := { stood := { row := slipExamplesUptoRow, standIns := [], harness := (true, "18b1af13f98e41c6768701598d5e321ab823bcfd34936803595a412bf2d3e157"), looks := false }, kinds := [], alts := [], laidByText := true, laidKinds := [.data, .funcs, .funcs, .pinned], laidTests := true, laidLooks := .later }
def SlipExamplesUptoCardSaid : Prop := Claim7.holds Tryz.pinned (.plain (OpenSpec.upto slipExamplesSpec)) slipExamplesUptoCard

/-- THE SECOND FORM's CARD OF 'postillaw03.SlipOrder'. -/
def slipOrderUptoCard : Claim7 := { stood := { row := slipOrderUptoRow, standIns := [], harness := (true, "18b1af13f98e41c6768701598d5e321ab823bcfd34936803595a412bf2d3e157"), looks := false }, kinds := [], alts := [], laidByText := true, laidKinds := [.data, .funcs, .funcs, .pinned], laidTests := true, laidLooks := .later }
def SlipOrderUptoCardSaid : Prop := Claim7.holds Tryz.pinned (.plain (OpenSpec.upto slipOrderSpec)) slipOrderUptoCard

/-- THE SECOND FORM's CARD OF 'postillaw03.SlipWrong'. -/
def slipWrongUptoCard : Claim7 := { stood := { row := slipWrongUptoRow, standIns := [], harness := (true, "18b1af13f98e41c6768701598d5e321ab823bcfd34936803595a412bf2d3e157"), looks := false }, kinds := [], alts := [], laidByText := true, laidKinds := [.data, .funcs, .funcs, .pinned], laidTests := true, laidLooks := .later }
def SlipWrongUptoCardSaid : Prop := Claim7.holds Tryz.pinned (.plain (OpenSpec.upto slipWrongSpec)) slipWrongUptoCard

/-- THE SECOND FORM's CARD OF 'postillaw03.SlipLongest'. -/
def slipLongestUptoCard : Claim7 := { stood := { row := slipLongestUptoRow, standIns := [], harness := (true, "18b1af13f98e41c6768701598d5e321ab823bcfd34936803595a412bf2d3e157"), looks := false }, kinds := [], alts := [], laidByText := true, laidKinds := [.data, .funcs, .funcs, .pinned], laidTests := true, laidLooks := .later }
def SlipLongestUptoCardSaid : Prop := Claim7.holds Tryz.pinned (.plain (OpenSpec.upto slipLongestSpec)) slipLongestUptoCard

/-- THE SECOND FORM's CARD OF 'postillaw03.SlipWider'. -/
def slipWiderUptoCard : Claim7 := { stood := { row := slipWiderUptoRow, standIns := [], harness := (true, "18b1af13f98e41c6768701598d5e321ab823bcfd34936803595a412bf2d3e157"), looks := false }, kinds := [], alts := [], laidByText := true, laidKinds := [.data, .funcs, .funcs, .pinned], laidTests := true, laidLooks := .later }
def SlipWiderUptoCardSaid : Prop := Claim7.holds Tryz.pinned (.plain (OpenSpec.upto slipWiderSpec)) slipWiderUptoCard

/-- THE SECOND FORM's CARD OF 'postillaw03.SlipSides'. -/
def slipSidesUptoCard : Claim7 := { stood := { row := slipSidesUptoRow, standIns := [], harness := (true, "18b1af13f98e41c6768701598d5e321ab823bcfd34936803595a412bf2d3e157"), looks := false }, kinds := [], alts := [], laidByText := true, laidKinds := [.data, .funcs, .funcs, .pinned], laidTests := true, laidLooks := .later }
def SlipSidesUptoCardSaid : Prop := Claim7.holds Tryz.pinned (.plain (OpenSpec.upto slipSidesSpec)) slipSidesUptoCard

/-- THE SECOND FORM's CARD OF 'postillaw03.SlipParts'. -/
def slipPartsUptoCard : Claim7 := { stood := { row := slipPartsUptoRow, standIns := [], harness := (true, "18b1af13f98e41c6768701598d5e321ab823bcfd34936803595a412bf2d3e157"), looks := false }, kinds := [], alts := [], laidByText := true, laidKinds := [.data, .funcs, .funcs, .pinned], laidTests := true, laidLooks := .later }
def SlipPartsUptoCardSaid : Prop := Claim7.holds Tryz.pinned (.plain (OpenSpec.upto slipPartsSpec)) slipPartsUptoCard

/-- THE SECOND FORM's CARD OF 'postillaw03.SlipCopied'. -/
def slipCopiedUptoCard : Claim7 := { stood := { row := slipCopiedUptoRow, standIns := [], harness := (true, "18b1af13f98e41c6768701598d5e321ab823bcfd34936803595a412bf2d3e157"), looks := false }, kinds := [], alts := [], laidByText := true, laidKinds := [.data, .funcs, .funcs, .pinned], laidTests := true, laidLooks := .later }
def SlipCopiedUptoCardSaid : Prop := Claim7.holds Tryz.pinned (.plain (OpenSpec.upto slipCopiedSpec)) slipCopiedUptoCard

/-- THE SECOND FORM's CARD OF 'postillaw03.SlipEach'. -/
def slipEachUptoCard : Claim7 := { stood := { row := slipEachUptoRow, standIns := [], harness := (true, "18b1af13f98e41c6768701598d5e321ab823bcfd34936803595a412bf2d3e157"), looks := false }, kinds := [], alts := [], laidByText := true, laidKinds := [.data, .funcs, .funcs, .pinned], laidTests := true, laidLooks := .later }
def SlipEachUptoCardSaid : Prop := Claim7.holds Tryz.pinned (.plain (OpenSpec.upto slipEachSpec)) slipEachUptoCard

/-- THE SECOND FORM's CARD OF 'postillaw03.SlipWhere'. -/
def slipWhereUptoCard : Claim7 := { stood := { row := slipWhereUptoRow, standIns := [], harness := (true, "18b1af13f98e41c6768701598d5e321ab823bcfd34936803595a412bf2d3e157"), looks := false }, kinds := [], alts := [], laidByText := true, laidKinds := [.data, .funcs, .funcs, .pinned], laidTests := true, laidLooks := .later }
def SlipWhereUptoCardSaid : Prop := Claim7.holds Tryz.pinned (.plain (OpenSpec.upto slipWhereSpec)) slipWhereUptoCard

/-- THE SECOND FORM's CARD OF 'postillaw03.SlipMoved'. -/
def slipMovedUptoCard : Claim7 := { stood := { row := slipMovedUptoRow, standIns := [], harness := (true, "18b1af13f98e41c6768701598d5e321ab823bcfd34936803595a412bf2d3e157"), looks := false }, kinds := [], alts := [], laidByText := true, laidKinds := [.data, .funcs, .funcs, .pinned], laidTests := true, laidLooks := .later }
def SlipMovedUptoCardSaid : Prop := Claim7.holds Tryz.pinned (.plain (OpenSpec.upto slipMovedSpec)) slipMovedUptoCard
end Rows
end Go.Proofs.YtgnjjocafmofaaaGreatDoor
