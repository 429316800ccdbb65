/-
  DERIVED. GIVEN WITH THE SEED: THE CARDS: each row of YtfebegbjggoijaaGreatDoorRows.lean that lists a variable, with what it lists TIED to the program's text (the seventh form; the later family's looks); each row that meets fmt, with fmt's text TOLD by the authors' own Lean function (tested against real Go, not proved from fmt's source: count such statements apart). THE CARD IS WHAT COUNTS. Prove the row's statement (the work); the ties are given (YtfebegbjggoijaaGreatDoorTie.lean); close each card by the builder's one call (the guide's Derived/Test/ToyasCard.lean, 'card_holds'). Laid BY PROGRAM, IN A SANDBOX (cutbox-door.mjs). By AI agents, Wed Nov 11 2026. No macro, syntax, notation, axiom, sorry.
-/
import Derived.Test.YtfebegbjggoijaaGreatDoorRows
import GoSem.ClaimSeven
namespace Go.Proofs.YtfebegbjggoijaaGreatDoor
namespace Rows

/-- THE TIED CARD OF 'postillaw08.GalleyRules'. -/
def galleyRulesCard : Claim7 := { stood := { row := galleyRulesRow, standIns := [], harness := (true, "6eaa3f68e4ca3cd5c08abfa5ead2de5b2f636fba87e63d17374ef9200698d44c"), looks := false }, kinds := [], alts := [], laidByText := true, laidKinds := [.funcs, .funcs, .data], laidTests := true, laidLooks := .later }
def GalleyRulesCardSaid : Prop := Claim7.holds Tryz.pinned (.plain (OpenSpec.ofChange galleyRulesSpec)) galleyRulesCard

/-- THE TIED CARD OF 'postillaw08.GalleyLeast'. -/
def galleyLeastCard : Claim7 := { stood := { row := galleyLeastRow, standIns := [], harness := (true, "6eaa3f68e4ca3cd5c08abfa5ead2de5b2f636fba87e63d17374ef9200698d44c"), looks := false }, kinds := [], alts := [], laidByText := true, laidKinds := [.funcs, .funcs, .data], laidTests := true, laidLooks := .later }
def GalleyLeastCardSaid : Prop := Claim7.holds Tryz.pinned (.plain (OpenSpec.ofChange galleyLeastSpec)) galleyLeastCard

/-- THE TIED CARD OF 'postillaw08.GalleyFixed'. -/
def galleyFixedCard : Claim7 := { stood := { row := galleyFixedRow, standIns := [], harness := (true, "6eaa3f68e4ca3cd5c08abfa5ead2de5b2f636fba87e63d17374ef9200698d44c"), looks := false }, kinds := [], alts := [], laidByText := true, laidKinds := [.funcs, .funcs, .data], laidTests := true, laidLooks := .later }
def GalleyFixedCardSaid : Prop := Claim7.holds Tryz.pinned (.plain (OpenSpec.ofChange galleyFixedSpec)) galleyFixedCard

/-- THE TIED CARD OF 'postillaw08.GalleyCheapest'. -/
def galleyCheapestCard : Claim7 := { stood := { row := galleyCheapestRow, standIns := [], harness := (true, "6eaa3f68e4ca3cd5c08abfa5ead2de5b2f636fba87e63d17374ef9200698d44c"), looks := false }, kinds := [], alts := [], laidByText := true, laidKinds := [.funcs, .funcs, .data], laidTests := true, laidLooks := .later }
def GalleyCheapestCardSaid : Prop := Claim7.holds Tryz.pinned (.plain (OpenSpec.ofChange galleyCheapestSpec)) galleyCheapestCard

/-- THE TIED CARD OF 'postillaw08.GalleyTurned'. -/
def galleyTurnedCard : Claim7 := { stood := { row := galleyTurnedRow, standIns := [], harness := (true, "6eaa3f68e4ca3cd5c08abfa5ead2de5b2f636fba87e63d17374ef9200698d44c"), looks := false }, kinds := [], alts := [], laidByText := true, laidKinds := [.funcs, .funcs, .data], laidTests := true, laidLooks := .later }
def GalleyTurnedCardSaid : Prop := Claim7.holds Tryz.pinned (.plain (OpenSpec.ofChange galleyTurnedSpec)) galleyTurnedCard

/-- THE TIED CARD OF 'postillaw08.GalleyTorn'. -/
def galleyTornCard : Claim7 := { stood := { row := galleyTornRow, standIns := [], harness := (true, "6eaa3f68e4ca3cd5c08abfa5ead2de5b2f636fba87e63d17374ef9200698d44c"), looks := false }, kinds := [], alts := [], laidByText := true, laidKinds := [.funcs, .funcs, .data], laidTests := true, laidLooks := .later }
def GalleyTornCardSaid : Prop := Claim7.holds Tryz.pinned (.plain (OpenSpec.ofChange galleyTornSpec)) galleyTornCard

/-- THE TIED CARD OF 'postillaw08.GalleyExamples'. -/
def galleyExamplesCard : Claim7 := { stood := { row := galleyExamplesRow, standIns := [], harness := (true, "6eaa3f68e4ca3cd5c08abfa5ead2de5b2f636fba87e63d17374ef9200698d44c"), looks := false }, kinds := [], alts := [], laidByText := true, laidKinds := [.funcs, .funcs, .data], laidTests := true, laidLooks := .later }
def GalleyExamplesCardSaid : Prop := Claim7.holds Tryz.pinned (.plain (OpenSpec.ofChange galleyExamplesSpec)) galleyExamplesCard

/-- THE TIED CARD OF 'postillaw08.GalleySlips'. -/
def galleySlipsCard : Claim7 := { stood := { row := galleySlipsRow, standIns := [], harness := (true, "6eaa3f68e4ca3cd5c08abfa5ead2de5b2f636fba87e63d17374ef9200698d44c"), looks := false }, kinds := [], alts := [], laidByText := true, laidKinds := [.funcs, .funcs, .data], laidTests := true, laidLooks := .later }
def GalleySlipsCardSaid : Prop := Claim7.holds Tryz.pinned (.plain (OpenSpec.ofChange galleySlipsSpec)) galleySlipsCard

/-- THE SECOND FORM's CARD OF 'postillaw08.GalleyRules'. -/
def galleyRulesUptoCard : Claim7 := { stood := { row := galleyRulesUptoRow, standIns := [], harness := (true, "6eaa3f68e4ca3cd5c08abfa5ead2de5b2f636fba87e63d17374ef9200698d44c"), looks := false }, kinds := [], alts := [], laidByText := true, laidKinds := [.funcs, .funcs, .data], laidTests := true, laidLooks := .later }
def GalleyRulesUptoCardSaid : Prop := Claim7.holds Tryz.pinned (.plain (OpenSpec.upto galleyRulesSpec)) galleyRulesUptoCard

/-- THE SECOND FORM's CARD OF 'postillaw08.GalleyLeast'. -/
def galleyLeastUptoCard : Claim7 := { stood := { row := galleyLeastUptoRow, standIns := [], harness := (true, "6eaa3f68e4ca3cd5c08abfa5ead2de5b2f636fba87e63d17374ef9200698d44c"), looks := false }, kinds := [], alts := [], laidByText := true, laidKinds := [.funcs, .funcs, .data], laidTests := true, laidLooks := .later }
def GalleyLeastUptoCardSaid : Prop := Claim7.holds Tryz.pinned (.plain (OpenSpec.upto galleyLeastSpec)) galleyLeastUptoCard

/-- THE SECOND FORM's CARD OF 'postillaw08.GalleyFixed'. -/
def galleyFixedUptoCard : Claim7 := { stood := { row := galleyFixedUptoRow, standIns := [], harness := (true, "6eaa3f68e4ca3cd5c08abfa5ead2de5b2f636fba87e63d17374ef9200698d44c"), looks := false }, kinds := [], alts := [], laidByText := true, laidKinds := [.funcs, .funcs, .data], laidTests := true, laidLooks := .later }
def GalleyFixedUptoCardSaid : Prop := Claim7.holds Tryz.pinned (.plain (OpenSpec.upto galleyFixedSpec)) galleyFixedUptoCard

/-- THE SECOND FORM's CARD OF 'postillaw08.GalleyCheapest'. -/
def galleyCheapestUptoCard : Claim7 := { stood := { row := galleyCheapestUptoRow, standIns := [], harness := (true, "6eaa3f68e4ca3cd5c08abfa5ead2de5b2f636fba87e63d17374ef9200698d44c"), looks := false }, kinds := [], alts := [], laidByText := true, laidKinds := [.funcs, .funcs, .data], laidTests := true, laidLooks := .later }
def GalleyCheapestUptoCardSaid : Prop := Claim7.holds Tryz.pinned (.plain (OpenSpec.upto galleyCheapestSpec)) galleyCheapestUptoCard

/-- THE SECOND FORM's CARD OF 'postillaw08.GalleyTurned'. -/
def galleyTurnedUptoCard : Claim7 := { stood := { row := galleyTurnedUptoRow, standIns := [], harness := (true, "6eaa3f68e4ca3cd5c08abfa5ead2de5b2f636fba87e63d17374ef9200698d44c"), looks := false }, kinds := [], alts := [], laidByText := true, laidKinds := [.funcs, .funcs, .data], laidTests := true, laidLooks := .later }
def GalleyTurnedUptoCardSaid : Prop := Claim7.holds Tryz.pinned (.plain (OpenSpec.upto galleyTurnedSpec)) galleyTurnedUptoCard

/-- THE SECOND FORM's CARD OF 'postillaw08.GalleyTorn'. -/
def galleyTornUptoCard : Claim7 := { stood := { row := galleyTornUptoRow, standIns := [], harness := (true, "6eaa3f68e4ca3cd5c08abfa5ead2de5b2f636fba87e63d17374ef9200698d44c"), looks := false }, kinds := [], alts := [], laidByText := true, laidKinds := [.funcs, .funcs, .data], laidTests := true, laidLooks := .later }
def GalleyTornUptoCardSaid : Prop := Claim7.holds Tryz.pinned (.plain (OpenSpec.upto galleyTornSpec)) galleyTornUptoCard

/-- THE SECOND FORM's CARD OF 'postillaw08.GalleyExamples'. -/
def galleyExamplesUptoCard : Claim7 := { stood := { row := galleyExamplesUptoRow, standIns := [], harness := (true, "6eaa3f68e4ca3cd5c08abfa5ead2de5b2f636fba87e63d17374ef9200698d44c"), looks := false }, kinds := [], alts := [], laidByText := true, laidKinds := [.funcs, .funcs, .data], laidTests := true, laidLooks := .later }
def GalleyExamplesUptoCardSaid : Prop := Claim7.holds Tryz.pinned (.plain (OpenSpec.upto galleyExamplesSpec)) galleyExamplesUptoCard

/-- THE SECOND FORM's CARD OF 'postillaw08.GalleySlips'. -/
def galleySlipsUptoCard : Claim7 := { stood := { row := galleySlipsUptoRow, standIns := [], harness := (true, "6eaa3f68e4ca3cd5c08abfa5ead2de5b2f636fba87e63d17374ef9200698d44c"), looks := false }, kinds := [], alts := [], laidByText := true, laidKinds := [.funcs, .funcs, .data], laidTests := true, laidLooks := .later }
def GalleySlipsUptoCardSaid : Prop := Claim7.holds Tryz.pinned (.plain (OpenSpec.upto galleySlipsSpec)) galleySlipsUptoCard
end Rows
end Go.Proofs.YtfebegbjggoijaaGreatDoor
