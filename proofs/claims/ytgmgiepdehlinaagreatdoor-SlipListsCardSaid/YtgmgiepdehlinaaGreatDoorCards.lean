/-
  DERIVED. GIVEN WITH THE SEED: THE CARDS: each row of YtgmgiepdehlinaaGreatDoorRows.lean that lists a variable, with what it lists TIED to the program's text (the seventh form; the later family's looks); each row that meets fmt, with fmt's text TOLD by the authors' own Lean function (tested against real Go, not proved from fmt's source: count such statements apart). THE CARD IS WHAT COUNTS. Prove the row's statement (the work); the ties are given (YtgmgiepdehlinaaGreatDoorTie.lean); close each card by the builder's one call (the guide's Derived/Test/ToyasCard.lean, 'card_holds'). Laid BY PROGRAM, IN A SANDBOX (cutbox-door.mjs). By AI agents, Wed Nov 11 2026. No macro, syntax, notation, axiom, sorry.
-/
import Derived.Test.YtgmgiepdehlinaaGreatDoorRows
import GoSem.ClaimSeven
namespace Go.Proofs.YtgmgiepdehlinaaGreatDoor
namespace Rows

/-- THE TIED CARD OF 'postillaw03.SlipLists'. -/
def slipListsCard : Claim7 := { stood := { row := slipListsRow, standIns := [], harness := (true, "058cd10475d5d212c276cdb82978caeffa900cf1975a6a0b9a2acb878435395b"), looks := false }, kinds := [], alts := [], laidByText := true, laidKinds := [.data, .funcs, .pinned], laidTests := true, laidLooks := .later }
def SlipListsCardSaid : Prop := Claim7.holds Tryz.pinned (.plain (OpenSpec.ofChange slipListsSpec)) slipListsCard

/-- THE SECOND FORM's CARD OF 'postillaw03.SlipLists'. -/
def slipListsUptoCard : Claim7 := { stood := { row := slipListsUptoRow, standIns := [], harness := (true, "058cd10475d5d212c276cdb82978caeffa900cf1975a6a0b9a2acb878435395b"), looks := false }, kinds := [], alts := [], laidByText := true, laidKinds := [.data, .funcs, .pinned], laidTests := true, laidLooks := .later }
def SlipListsUptoCardSaid : Prop := Claim7.holds Tryz.pinned (.plain (OpenSpec.upto slipListsSpec)) slipListsUptoCard
end Rows
end Go.Proofs.YtgmgiepdehlinaaGreatDoor
