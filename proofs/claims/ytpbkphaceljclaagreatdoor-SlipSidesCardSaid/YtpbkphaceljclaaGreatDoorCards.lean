/-
  DERIVED. GIVEN WITH THE SEED: THE CARDS: each row of YtpbkphaceljclaaGreatDoorRows.lean that lists a variable, with what it lists TIED to the program's text (the seventh form; the later family's looks); each row that meets fmt, with fmt's text TOLD by the authors' own Lean function (tested against real Go, not proved from fmt's source: count such statements apart). THE CARD IS WHAT COUNTS. Prove the row's statement (the work); the ties are given (YtpbkphaceljclaaGreatDoorTie.lean); close each card by the builder's one call (the guide's Derived/Test/ToyasCard.lean, 'card_holds'). Laid BY PROGRAM, IN A SANDBOX (cutbox-door.mjs). By AI agents, Wed Nov 11 2026. No macro, syntax, notation, axiom, sorry.
-/
import Derived.Test.YtpbkphaceljclaaGreatDoorRows
import GoSem.ClaimSeven
namespace Go.Proofs.YtpbkphaceljclaaGreatDoor
namespace Rows

/-- THE TIED CARD OF 'postillaw08.GalleySets'. -/
def galleySetsCard : Claim7 := { stood := { row := galleySetsRow, standIns := [], harness := (true, "10b423010c00029b7c3c58a36ee18b51ac9ddea64beded0302d80334c91ddf93"), looks := false }, kinds := [], alts := [], laidByText := true, laidKinds := [.funcs], laidTests := true, laidLooks := .later }
def GalleySetsCardSaid : Prop := Claim7.holds Tryz.pinned (.plain (OpenSpec.ofChange galleySetsSpec)) galleySetsCard

/-- THE TIED CARD OF 'postillaw03.SlipLongest'. -/
def slipLongestCard : Claim7 := { stood := { row := slipLongestRow, standIns := [], harness := (true, "10b423010c00029b7c3c58a36ee18b51ac9ddea64beded0302d80334c91ddf93"), looks := false }, kinds := [], alts := [], laidByText := true, laidKinds := [.data, .funcs, .funcs, .pinned], laidTests := true, laidLooks := .later }
def SlipLongestCardSaid : Prop := Claim7.holds Tryz.pinned (.plain (OpenSpec.ofChange slipLongestSpec)) slipLongestCard

/-- THE TIED CARD OF 'postillaw03.SlipWider'. -/
def slipWiderCard : Claim7 := { stood := { row := slipWiderRow, standIns := [], harness := (true, "10b423010c00029b7c3c58a36ee18b51ac9ddea64beded0302d80334c91ddf93"), looks := false }, kinds := [], alts := [], laidByText := true, laidKinds := [.data, .funcs, .funcs, .pinned], laidTests := true, laidLooks := .later }
def SlipWiderCardSaid : Prop := Claim7.holds Tryz.pinned (.plain (OpenSpec.ofChange slipWiderSpec)) slipWiderCard

/-- THE TIED CARD OF 'postillaw03.SlipSides'. -/
def slipSidesCard : Claim7 := { stood := { row := slipSidesRow, standIns := [], harness := (true, "10b423010c00029b7c3c58a36ee18b51ac9ddea64beded0302d80334c91ddf93"), looks := false }, kinds := [], alts := [], laidByText := true, laidKinds := [.data, .funcs, .funcs, .pinned], laidTests := true, laidLooks := .later }
def SlipSidesCardSaid : Prop := Claim7.holds Tryz.pinned (.plain (OpenSpec.ofChange slipSidesSpec)) slipSidesCard

/-- THE SECOND FORM's CARD OF 'postillaw08.GalleySets'. -/
def galleySetsUptoCard : Claim7 := { stood := { row := galleySetsUptoRow, standIns := [], harness := (true, "10b423010c00029b7c3c58a36ee18b51ac9ddea64beded0302d80334c91ddf93"), looks := false }, kinds := [], alts := [], laidByText := true, laidKinds := [.funcs], laidTests := true, laidLooks := .later }
def GalleySetsUptoCardSaid : Prop := Claim7.holds Tryz.pinned (.plain (OpenSpec.upto galleySetsSpec)) galleySetsUptoCard

/-- THE SECOND FORM's CARD OF 'postillaw03.SlipLongest'. -/
def slipLongestUptoCard : Claim7 := { stood := { row := slipLongestUptoRow, standIns := [], harness := (true, "10b423010c00029b7c3c58a36ee18b51ac9ddea64beded0302d80334c91ddf93"), looks := false }, kinds := [], alts := [], laidByText := true, laidKinds := [.data, .funcs, .funcs, .pinned], laidTests := true, laidLooks := .later }
def SlipLongestUptoCardSaid : Prop := Claim7.holds Tryz.pinned (.plain (OpenSpec.upto slipLongestSpec)) slipLongestUptoCard

/-- THE SECOND FORM's CARD OF 'postillaw03.SlipWider'. -/
def slipWiderUptoCard : Claim7 := { stood := { row := slipWiderUptoRow, standIns := [], harness := (true, "10b423010c00029b7c3c58a36ee18b51ac9ddea64beded0302d80334c91ddf93"), looks := false }, kinds := [], alts := [], laidByText := true, laidKinds := [.data, .funcs, .funcs, .pinned], laidTests := true, laidLooks := .later }
def SlipWiderUptoCardSaid : Prop := Claim7.holds Tryz.pinned (.plain (OpenSpec.upto slipWiderSpec)) slipWiderUptoCard

/-- THE SECOND FORM's CARD OF 'postillaw03.SlipSides'. -/
def slipSidesUptoCard : Claim7 := { stood := { row := slipSidesUptoRow, standIns := [], harness := (true, "10b423010c00029b7c3c58a36ee18b51ac9ddea64beded0302d80334c91ddf93"), looks := false }, kinds := [], alts := [], laidByText := true, laidKinds := [.data, .funcs, .funcs, .pinned], laidTests := true, laidLooks := .later }
def SlipSidesUptoCardSaid : Prop := Claim7.holds Tryz.pinned (.plain (OpenSpec.upto slipSidesSpec)) slipSidesUptoCard
end Rows
end Go.Proofs.YtpbkphaceljclaaGreatDoor
