/-
  DERIVED. GIVEN WITH THE SEED: THE CARDS: each row of YtpijeomnplmakaaGreatDoorRows.lean that lists a variable, with what it lists TIED to the program's text (the seventh form; the later family's looks); each row that meets fmt, with fmt's text TOLD by the authors' own Lean function (tested against real Go, not proved from fmt's source: count such statements apart). THE CARD IS WHAT COUNTS. Prove the row's statement (the work); the ties are given (YtpijeomnplmakaaGreatDoorTie.lean); close each card by the builder's one call (the guide's Derived/Test/ToyasCard.lean, 'card_holds'). Laid BY PROGRAM, IN A SANDBOX (cutbox-door.mjs). By AI agents, Wed Nov 11 2026. No macro, syntax, notation, axiom, sorry.
-/
import Derived.Test.YtpijeomnplmakaaGreatDoorRows
import GoSem.ClaimSeven
namespace Go.Proofs.YtpijeomnplmakaaGreatDoor
namespace Rows

/-- THE TIED CARD OF 'postillaw06.RackExamples'. -/
def rackExamplesCard : Claim7 := { stood := { row := rackExamplesRow, standIns := [], harness := (true, "873788417fb31b6cd7754b0b7081e95c32d43887b8f36cd76cd7997c06a7b0e9"), looks := false }, kinds := [], alts := [], laidByText := true, laidKinds := [.data, .funcs, .pinned], laidTests := true, laidLooks := .later }
def RackExamplesCardSaid : Prop := Claim7.holds Tryz.pinned (.plain (OpenSpec.ofChange rackExamplesSpec)) rackExamplesCard

/-- THE TIED CARD OF 'postillaw06.RackSorted'. -/
def rackSortedCard : Claim7 := { stood := { row := rackSortedRow, standIns := [], harness := (true, "873788417fb31b6cd7754b0b7081e95c32d43887b8f36cd76cd7997c06a7b0e9"), looks := false }, kinds := [], alts := [], laidByText := true, laidKinds := [.data, .funcs, .pinned], laidTests := true, laidLooks := .later }
def RackSortedCardSaid : Prop := Claim7.holds Tryz.pinned (.plain (OpenSpec.ofChange rackSortedSpec)) rackSortedCard

/-- THE TIED CARD OF 'postillaw06.RackFewest'. -/
def rackFewestCard : Claim7 := { stood := { row := rackFewestRow, standIns := [], harness := (true, "873788417fb31b6cd7754b0b7081e95c32d43887b8f36cd76cd7997c06a7b0e9"), looks := false }, kinds := [], alts := [], laidByText := true, laidKinds := [.data, .funcs, .pinned], laidTests := true, laidLooks := .later }
def RackFewestCardSaid : Prop := Claim7.holds Tryz.pinned (.plain (OpenSpec.ofChange rackFewestSpec)) rackFewestCard

/-- THE TIED CARD OF 'postillaw06.RackRuns'. -/
def rackRunsCard : Claim7 := { stood := { row := rackRunsRow, standIns := [], harness := (true, "873788417fb31b6cd7754b0b7081e95c32d43887b8f36cd76cd7997c06a7b0e9"), looks := false }, kinds := [], alts := [], laidByText := true, laidKinds := [.data, .funcs, .pinned], laidTests := true, laidLooks := .later }
def RackRunsCardSaid : Prop := Claim7.holds Tryz.pinned (.plain (OpenSpec.ofChange rackRunsSpec)) rackRunsCard

/-- THE TIED CARD OF 'postillaw06.RackBoxes'. -/
def rackBoxesCard : Claim7 := { stood := { row := rackBoxesRow, standIns := [], harness := (true, "873788417fb31b6cd7754b0b7081e95c32d43887b8f36cd76cd7997c06a7b0e9"), looks := false }, kinds := [], alts := [], laidByText := true, laidKinds := [.data, .funcs, .pinned], laidTests := true, laidLooks := .later }
def RackBoxesCardSaid : Prop := Claim7.holds Tryz.pinned (.plain (OpenSpec.ofChange rackBoxesSpec)) rackBoxesCard

/-- THE TIED CARD OF 'postillaw06.RackMended'. -/
def rackMendedCard : Claim7 := { stood := { row := rackMendedRow, standIns := [], harness := (true, "873788417fb31b6cd7754b0b7081e95c32d43887b8f36cd76cd7997c06a7b0e9"), looks := false }, kinds := [], alts := [], laidByText := true, laidKinds := [.data, .funcs, .pinned], laidTests := true, laidLooks := .later }
def RackMendedCardSaid : Prop := Claim7.holds Tryz.pinned (.plain (OpenSpec.ofChange rackMendedSpec)) rackMendedCard

/-- THE TIED CARD OF 'postillaw06.RackChains'. -/
def rackChainsCard : Claim7 := { stood := { row := rackChainsRow, standIns := [], harness := (true, "873788417fb31b6cd7754b0b7081e95c32d43887b8f36cd76cd7997c06a7b0e9"), looks := false }, kinds := [], alts := [], laidByText := true, laidKinds := [.data, .funcs, .pinned], laidTests := true, laidLooks := .later }
def RackChainsCardSaid : Prop := Claim7.holds Tryz.pinned (.plain (OpenSpec.ofChange rackChainsSpec)) rackChainsCard

/-- THE TIED CARD OF 'postillaw06.RackFell'. -/
def rackFellCard : Claim7 := { stood := { row := rackFellRow, standIns := [], harness := (true, "873788417fb31b6cd7754b0b7081e95c32d43887b8f36cd76cd7997c06a7b0e9"), looks := false }, kinds := [], alts := [], laidByText := true, laidKinds := [.data, .funcs, .pinned], laidTests := true, laidLooks := .later }
def RackFellCardSaid : Prop := Claim7.holds Tryz.pinned (.plain (OpenSpec.ofChange rackFellSpec)) rackFellCard

/-- THE TIED CARD OF 'postillaw06.RackFiled'. -/
def rackFiledCard : Claim7 := { stood := { row := rackFiledRow, standIns := [], harness := (true, "873788417fb31b6cd7754b0b7081e95c32d43887b8f36cd76cd7997c06a7b0e9"), looks := false }, kinds := [], alts := [], laidByText := true, laidKinds := [.data, .funcs, .funcs, .pinned], laidTests := true, laidLooks := .later }
def RackFiledCardSaid : Prop := Claim7.holds Tryz.pinned (.plain (OpenSpec.ofChange rackFiledSpec)) rackFiledCard

/-- THE TIED CARD OF 'postillaw06.RackWords'. -/
def rackWordsCard : Claim7 := { stood := { row := rackWordsRow, standIns := [], harness := (true, "873788417fb31b6cd7754b0b7081e95c32d43887b8f36cd76cd7997c06a7b0e9"), looks := false }, kinds := [], alts := [], laidByText := true, laidKinds := [.data, .funcs, .funcs, .pinned], laidTests := true, laidLooks := .later }
def RackWordsCardSaid : Prop := Claim7.holds Tryz.pinned (.plain (OpenSpec.ofChange rackWordsSpec)) rackWordsCard

/-- THE SECOND FORM's CARD OF 'postillaw06.RackExamples'. -/
def rackExamplesUptoCard : Claim7 := { stood := { row := rackExamplesUptoRow, standIns := [], harness := (true, "873788417fb31b6cd7754b0b7081e95c32d43887b8f36cd76cd7997c06a7b0e9"), looks := false }, kinds := [], alts := [], laidByText := true, laidKinds := [.data, .funcs, .pinned], laidTests := true, laidLooks := .later }
def RackExamplesUptoCardSaid : Prop := Claim7.holds Tryz.pinned (.plain (OpenSpec.upto rackExamplesSpec)) rackExamplesUptoCard

/-- THE SECOND FORM's CARD OF 'postillaw06.RackSorted'. -/
def rackSortedUptoCard : Claim7 := { stood := { row := rackSortedUptoRow, standIns := [], harness := (true, "873788417fb31b6cd7754b0b7081e95c32d43887b8f36cd76cd7997c06a7b0e9"), looks := false }, kinds := [], alts := [], laidByText := true, laidKinds := [.data, .funcs, .pinned], laidTests := true, laidLooks := .later }
def RackSortedUptoCardSaid : Prop := Claim7.holds Tryz.pinned (.plain (OpenSpec.upto rackSortedSpec)) rackSortedUptoCard

/-- THE SECOND FORM's CARD OF 'postillaw06.RackFewest'. -/
def rackFewestUptoCard : Claim7 := { stood := { row := rackFewestUptoRow, standIns := [], harness := (true, "873788417fb31b6cd7754b0b7081e95c32d43887b8f36cd76cd7997c06a7b0e9"), looks := false }, kinds := [], alts := [], laidByText := true, laidKinds := [.data, .funcs, .pinned], laidTests := true, laidLooks := .later }
def RackFewestUptoCardSaid : Prop := Claim7.holds Tryz.pinned (.plain (OpenSpec.upto rackFewestSpec)) rackFewestUptoCard

/-- THE SECOND FORM's CARD OF 'postillaw06.RackRuns'. -/
def rackRunsUptoCard : Claim7 := { stood := { row := rackRunsUptoRow, standIns := [], harness := (true, "873788417fb31b6cd7754b0b7081e95c32d43887b8f36cd76cd7997c06a7b0e9"), looks := false }, kinds := [], alts := [], laidByText := true, laidKinds := [.data, .funcs, .pinned], laidTests := true, laidLooks := .later }
def RackRunsUptoCardSaid : Prop := Claim7.holds Tryz.pinned (.plain (OpenSpec.upto rackRunsSpec)) rackRunsUptoCard

/-- THE SECOND FORM's CARD OF 'postillaw06.RackBoxes'. -/
def rackBoxesUptoCard : Claim7 := { stood := { row := rackBoxesUptoRow, standIns := [], harness := (true, "873788417fb31b6cd7754b0b7081e95c32d43887b8f36cd76cd7997c06a7b0e9"), looks := false }, kinds := [], alts := [], laidByText := true, laidKinds := [.data, .funcs, .pinned], laidTests := true, laidLooks := .later }
def RackBoxesUptoCardSaid : Prop := Claim7.holds Tryz.pinned (.plain (OpenSpec.upto rackBoxesSpec)) rackBoxesUptoCard

/-- THE SECOND FORM's CARD OF 'postillaw06.RackMended'. -/
def rackMendedUptoCard : Claim7 := { stood := { row := rackMendedUptoRow, standIns := [], harness := (true, "873788417fb31b6cd7754b0b7081e95c32d43887b8f36cd76cd7997c06a7b0e9"), looks := false }, kinds := [], alts := [], laidByText := true, laidKinds := [.data, .funcs, .pinned], laidTests := true, laidLooks := .later }
def RackMendedUptoCardSaid : Prop := Claim7.holds Tryz.pinned (.plain (OpenSpec.upto rackMendedSpec)) rackMendedUptoCard

/-- THE SECOND FORM's CARD OF 'postillaw06.RackChains'. -/
def rackChainsUptoCard : Claim7 := { stood := { row := rackChainsUptoRow, standIns := [], harness := (true, "873788417fb31b6cd7754b0b7081e95c32d43887b8f36cd76cd7997c06a7b0e9"), looks := false }, kinds := [], alts := [], laidByText := true, laidKinds := [.data, .funcs, .pinned], laidTests := true, laidLooks := .later }
def RackChainsUptoCardSaid : Prop := Claim7.holds Tryz.pinned (.plain (OpenSpec.upto rackChainsSpec)) rackChainsUptoCard

/-- THE SECOND FORM's CARD OF 'postillaw06.RackFell'. -/
def rackFellUptoCard : Claim7 := { stood := { row := rackFellUptoRow, standIns := [], harness := (true, "873788417fb31b6cd7754b0b7081e95c32d43887b8f36cd76cd7997c06a7b0e9"), looks := false }, kinds := [], alts := [], laidByText := true, laidKinds := [.data, .funcs, .pinned], laidTests := true, laidLooks := .later }
def RackFellUptoCardSaid : Prop := Claim7.holds Tryz.pinned (.plain (OpenSpec.upto rackFellSpec)) rackFellUptoCard

/-- THE SECOND FORM's CARD OF 'postillaw06.RackFiled'. -/
def rackFiledUptoCard : Claim7 := { stood := { row := rackFiledUptoRow, standIns := [], harness := (true, "873788417fb31b6cd7754b0b7081e95c32d43887b8f36cd76cd7997c06a7b0e9"), looks := false }, kinds := [], alts := [], laidByText := true, laidKinds := [.data, .funcs, .funcs, .pinned], laidTests := true, laidLooks := .later }
def RackFiledUptoCardSaid : Prop := Claim7.holds Tryz.pinned (.plain (OpenSpec.upto rackFiledSpec)) rackFiledUptoCard

/-- THE SECOND FORM's CARD OF 'postillaw06.RackWords'. -/
def rackWordsUptoCard : Claim7 := { stood := { row := rackWordsUptoRow, standIns := [], harness := (true, "873788417fb31b6cd7754b0b7081e95c32d43887b8f36cd76cd7997c06a7b0e9"), looks := false }, kinds := [], alts := [], laidByText := true, laidKinds := [.data, .funcs, .funcs, .pinned], laidTests := true, laidLooks := .later }
def RackWordsUptoCardSaid : Prop := Claim7.holds Tryz.pinned (.plain (OpenSpec.upto rackWordsSpec)) rackWordsUptoCard
end Rows
end Go.Proofs.YtpijeomnplmakaaGreatDoor
