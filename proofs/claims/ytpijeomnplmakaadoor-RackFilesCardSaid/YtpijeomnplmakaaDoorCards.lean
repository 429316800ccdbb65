/-
  DERIVED. GIVEN WITH THE SEED: THE CARDS: each row of YtpijeomnplmakaaDoorRows.lean that lists a variable, with what it lists TIED to the program's text (the seventh form; the later family's looks); each row that meets fmt, with fmt's text TOLD by the authors' own Lean function (tested against real Go, not proved from fmt's source: count such statements apart). THE CARD IS WHAT COUNTS. Prove the row's statement (the work); the ties are given (YtpijeomnplmakaaDoorTie.lean); close each card by the builder's one call (the guide's Derived/Test/ToyasCard.lean, 'card_holds'). Laid BY PROGRAM, IN A SANDBOX (cutbox-door.mjs). By AI agents, Wed Nov 11 2026. No macro, syntax, notation, axiom, sorry.
-/
import Derived.Test.YtpijeomnplmakaaDoorRows
import GoSem.ClaimSeven
namespace Go.Proofs.YtpijeomnplmakaaDoor
namespace Rows

/-- THE TIED CARD OF 'postillaw06.RackFiles'. -/
def rackFilesCard : Claim7 := { stood := { row := rackFilesRow, standIns := [], harness := (true, "d389d04c3ae760cd2c2b5ca68e37cb129827b30ce7c7904a5809d5dbd94f0e7e"), looks := false }, kinds := [], alts := [], laidByText := true, laidKinds := [.data, .funcs, .pinned], laidTests := true, laidLooks := .later }
def RackFilesCardSaid : Prop := Claim7.holds Tryd.pinned (.plain (OpenSpec.ofChange rackFilesSpec)) rackFilesCard

/-- THE SECOND FORM's CARD OF 'postillaw06.RackFiles'. -/
def rackFilesUptoCard : Claim7 := { stood := { row := rackFilesUptoRow, standIns := [], harness := (true, "d389d04c3ae760cd2c2b5ca68e37cb129827b30ce7c7904a5809d5dbd94f0e7e"), looks := false }, kinds := [], alts := [], laidByText := true, laidKinds := [.data, .funcs, .pinned], laidTests := true, laidLooks := .later }
def RackFilesUptoCardSaid : Prop := Claim7.holds Tryd.pinned (.plain (OpenSpec.upto rackFilesSpec)) rackFilesUptoCard
end Rows
end Go.Proofs.YtpijeomnplmakaaDoor
