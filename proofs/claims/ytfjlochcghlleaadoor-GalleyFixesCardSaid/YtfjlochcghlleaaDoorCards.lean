/-
  DERIVED. GIVEN WITH THE SEED: THE CARDS: each row of YtfjlochcghlleaaDoorRows.lean that lists a variable, with what it lists TIED to the program's text (the seventh form; the later family's looks); each row that meets fmt, with fmt's text TOLD by the authors' own Lean function (tested against real Go, not proved from fmt's source: count such statements apart). THE CARD IS WHAT COUNTS. Prove the row's statement (the work); the ties are given (YtfjlochcghlleaaDoorTie.lean); close each card by the builder's one call (the guide's Derived/Test/ToyasCard.lean, 'card_holds'). Laid BY PROGRAM, IN A SANDBOX (cutbox-door.mjs). By AI agents, Wed Nov 11 2026. No macro, syntax, notation, axiom, sorry.
-/
import Derived.Test.YtfjlochcghlleaaDoorRows
import GoSem.ClaimSeven
namespace Go.Proofs.YtfjlochcghlleaaDoor
namespace Rows

/-- THE TIED CARD OF 'postillaw08.GalleyTells'. -/
def galleyTellsCard : Claim7 := { stood := { row := galleyTellsRow, standIns := [], harness := (true, "41f7876ab1d3ae85832603a56427b9f09811d39f1ca7b676f2bf07ddd770c9c8"), looks := false }, kinds := [], alts := [], laidByText := true, laidKinds := [.funcs, .data], laidTests := true, laidLooks := .later }
def GalleyTellsCardSaid : Prop := Claim7.holds Tryd.pinned (.plain (OpenSpec.ofChange galleyTellsSpec)) galleyTellsCard

/-- THE TIED CARD OF 'postillaw08.GalleyPlaced'. -/
def galleyPlacedCard : Claim7 := { stood := { row := galleyPlacedRow, standIns := [], harness := (true, "41f7876ab1d3ae85832603a56427b9f09811d39f1ca7b676f2bf07ddd770c9c8"), looks := false }, kinds := [], alts := [], laidByText := true, laidKinds := [.funcs], laidTests := true, laidLooks := .later }
def GalleyPlacedCardSaid : Prop := Claim7.holds Tryd.pinned (.plain (OpenSpec.ofChange galleyPlacedSpec)) galleyPlacedCard

/-- THE TIED CARD OF 'postillaw08.GalleyFixes'. -/
def galleyFixesCard : Claim7 := { stood := { row := galleyFixesRow, standIns := [], harness := (true, "41f7876ab1d3ae85832603a56427b9f09811d39f1ca7b676f2bf07ddd770c9c8"), looks := false }, kinds := [], alts := [], laidByText := true, laidKinds := [.funcs, .data], laidTests := true, laidLooks := .later }
def GalleyFixesCardSaid : Prop := Claim7.holds Tryd.pinned (.plain (OpenSpec.ofChange galleyFixesSpec)) galleyFixesCard

/-- THE SECOND FORM's CARD OF 'postillaw08.GalleyTells'. -/
def galleyTellsUptoCard : Claim7 := { stood := { row := galleyTellsUptoRow, standIns := [], harness := (true, "41f7876ab1d3ae85832603a56427b9f09811d39f1ca7b676f2bf07ddd770c9c8"), looks := false }, kinds := [], alts := [], laidByText := true, laidKinds := [.funcs, .data], laidTests := true, laidLooks := .later }
def GalleyTellsUptoCardSaid : Prop := Claim7.holds Tryd.pinned (.plain (OpenSpec.upto galleyTellsSpec)) galleyTellsUptoCard

/-- THE SECOND FORM's CARD OF 'postillaw08.GalleyPlaced'. -/
def galleyPlacedUptoCard : Claim7 := { stood := { row := galleyPlacedUptoRow, standIns := [], harness := (true, "41f7876ab1d3ae85832603a56427b9f09811d39f1ca7b676f2bf07ddd770c9c8"), looks := false }, kinds := [], alts := [], laidByText := true, laidKinds := [.funcs], laidTests := true, laidLooks := .later }
def GalleyPlacedUptoCardSaid : Prop := Claim7.holds Tryd.pinned (.plain (OpenSpec.upto galleyPlacedSpec)) galleyPlacedUptoCard

/-- THE SECOND FORM's CARD OF 'postillaw08.GalleyFixes'. -/
def galleyFixesUptoCard : Claim7 := { stood := { row := galleyFixesUptoRow, standIns := [], harness := (true, "41f7876ab1d3ae85832603a56427b9f09811d39f1ca7b676f2bf07ddd770c9c8"), looks := false }, kinds := [], alts := [], laidByText := true, laidKinds := [.funcs, .data], laidTests := true, laidLooks := .later }
def GalleyFixesUptoCardSaid : Prop := Claim7.holds Tryd.pinned (.plain (OpenSpec.upto galleyFixesSpec)) galleyFixesUptoCard
end Rows
end Go.Proofs.YtfjlochcghlleaaDoor
