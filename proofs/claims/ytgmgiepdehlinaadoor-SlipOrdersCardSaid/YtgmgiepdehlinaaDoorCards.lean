/-
  DERIVED. GIVEN WITH THE SEED: THE CARDS: each row of YtgmgiepdehlinaaDoorRows.lean that lists a variable, with what it lists TIED to the program's text (the seventh form; the later family's looks); each row that meets fmt, with fmt's text TOLD by the authors' own Lean function (tested against real Go, not proved from fmt's source: count such statements apart). THE CARD IS WHAT COUNTS. Prove the row's statement (the work); the ties are given (YtgmgiepdehlinaaDoorTie.lean); close each card by the builder's one call (the guide's Derived/Test/ToyasCard.lean, 'card_holds'). Laid BY PROGRAM, IN A SANDBOX (cutbox-door.mjs). By AI agents, Wed Nov 11 2026. No macro, syntax, notation, axiom, sorry.
-/
import Derived.Test.YtgmgiepdehlinaaDoorRows
import GoSem.ClaimSeven
namespace Go.Proofs.YtgmgiepdehlinaaDoor
namespace Rows

/-- THE TIED CARD OF 'postillaw03.SlipMakes'. -/
def slipMakesCard : Claim7 := { stood := { row := slipMakesRow, standIns := [], harness := (true, "8b48e0a66c931e35adc2ae2b18ef02a9d179d5282ae6ad5ce8b6bb771dfca34a"), looks := false }, kinds := [], alts := [], laidByText := true, laidKinds := [.funcs], laidTests := true, laidLooks := .later }
def SlipMakesCardSaid : Prop := Claim7.holds Tryd.pinned (.plain (OpenSpec.ofChange slipMakesSpec)) slipMakesCard

/-- THE TIED CARD OF 'postillaw03.SlipOrders'. -/
def slipOrdersCard : Claim7 := { stood := { row := slipOrdersRow, standIns := [], harness := (true, "8b48e0a66c931e35adc2ae2b18ef02a9d179d5282ae6ad5ce8b6bb771dfca34a"), looks := false }, kinds := [], alts := [], laidByText := true, laidKinds := [.data, .funcs, .pinned], laidTests := true, laidLooks := .later }
def SlipOrdersCardSaid : Prop := Claim7.holds Tryd.pinned (.plain (OpenSpec.ofChange slipOrdersSpec)) slipOrdersCard

/-- THE SECOND FORM's CARD OF 'postillaw03.SlipMakes'. -/
def slipMakesUptoCard : Claim7 := { stood := { row := slipMakesUptoRow, standIns := [], harness := (true, "8b48e0a66c931e35adc2ae2b18ef02a9d179d5282ae6ad5ce8b6bb771dfca34a"), looks := false }, kinds := [], alts := [], laidByText := true, laidKinds := [.funcs], laidTests := true, laidLooks := .later }
def SlipMakesUptoCardSaid : Prop := Claim7.holds Tryd.pinned (.plain (OpenSpec.upto slipMakesSpec)) slipMakesUptoCard

/-- THE SECOND FORM's CARD OF 'postillaw03.SlipOrders'. -/
def slipOrdersUptoCard : Claim7 := { stood := { row := slipOrdersUptoRow, standIns := [], harness := (true, "8b48e0a66c931e35adc2ae2b18ef02a9d179d5282ae6ad5ce8b6bb771dfca34a"), looks := false }, kinds := [], alts := [], laidByText := true, laidKinds := [.data, .funcs, .pinned], laidTests := true, laidLooks := .later }
def SlipOrdersUptoCardSaid : Prop := Claim7.holds Tryd.pinned (.plain (OpenSpec.upto slipOrdersSpec)) slipOrdersUptoCard
end Rows
end Go.Proofs.YtgmgiepdehlinaaDoor
