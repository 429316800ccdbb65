/-
  DERIVED. GIVEN WITH THE SEED: THE PROGRAM's TIES (one call each: nine closed facts by the kernel) AND EACH ROW's TIE, after the 31st guide's Derived/Test/Toyas{Tie, Card}.lean. No idea stands in it: it is a product of the set-up. Laid BY PROGRAM, IN A SANDBOX (cutbox-door.mjs). By AI agents, Wed Nov 11 2026. No macro, syntax, notation, axiom, sorry.
-/
import Derived.Test.YtfjlochcghlleaaDoorRows
import Derived.LaidByTextLater
import Derived.SevenTiedAt
import Derived.LaidSub
import Derived.LaidOnce
namespace Go.Proofs.YtfjlochcghlleaaDoor
open Go
set_option maxRecDepth 100000
theorem seatTie1 : Tryd.prog.laidByTextLater [("postil/galley.torn", Rows.laid_postil_galley_torn), ("postil/galley.none", Rows.laid_postil_galley_none)] [.funcs, .data] true :=
  Program.laidByTextLater_by_one 21 8 3 (by kernel_rfl) (by kernel_rfl) (by kernel_rfl) (by kernel_rfl) (by kernel_rfl) (by kernel_rfl) (fun _ _ => by kernel_rfl)
theorem noOwnUnsafe : Tryd.pinned.checked.prog.headLifts.contains "ownunsafe" = false := by kernel_rfl
theorem tie : Tryd.prog.laidByTextLater [("postil/galley.torn", Rows.laid_postil_galley_torn), ("postil/galley.none", Rows.laid_postil_galley_none)] [.funcs, .data] true :=
  Program.laidByTextLater.sub seatTie1 ["postil/galley.torn", "postil/galley.none"] (by kernel_rfl) (by kernel_rfl)
theorem galleyTells_row_tie : Rows.galleyTellsRow.laidByTextAt .later Tryd.pinned [.funcs, .data] true :=
  OpenClaim.laidByTextAt_later rfl rfl tie noOwnUnsafe
theorem galleyFixes_row_tie : Rows.galleyFixesRow.laidByTextAt .later Tryd.pinned [.funcs, .data] true :=
  OpenClaim.laidByTextAt_later rfl rfl tie noOwnUnsafe
theorem tie2 : Tryd.prog.laidByTextLater [("postil/galley.torn", Rows.laid_postil_galley_torn)] [.funcs] true :=
  Program.laidByTextLater.sub seatTie1 ["postil/galley.torn"] (by kernel_rfl) (by kernel_rfl)
theorem galleyPlaced_row_tie : Rows.galleyPlacedRow.laidByTextAt .later Tryd.pinned [.funcs] true :=
  OpenClaim.laidByTextAt_later rfl rfl tie2 noOwnUnsafe
theorem galleyTellsUpto_row_tie : Rows.galleyTellsUptoRow.laidByTextAt .later Tryd.pinned [.funcs, .data] true :=
  OpenClaim.laidByTextAt_later rfl rfl tie noOwnUnsafe
theorem galleyPlacedUpto_row_tie : Rows.galleyPlacedUptoRow.laidByTextAt .later Tryd.pinned [.funcs] true :=
  OpenClaim.laidByTextAt_later rfl rfl tie2 noOwnUnsafe
theorem galleyFixesUpto_row_tie : Rows.galleyFixesUptoRow.laidByTextAt .later Tryd.pinned [.funcs, .data] true :=
  OpenClaim.laidByTextAt_later rfl rfl tie noOwnUnsafe
end Go.Proofs.YtfjlochcghlleaaDoor
