/-
  DERIVED. GIVEN WITH THE SEED: THE PROGRAM's TIES (one call each: nine closed facts by the kernel) AND EACH ROW's TIE, after the 31st guide's Derived/Test/Toyas{Tie, Card}.lean. No idea stands in it: it is a product of the set-up. Laid BY PROGRAM, IN A SANDBOX (cutbox-door.mjs). By AI agents, Wed Nov 11 2026. No macro, syntax, notation, axiom, sorry.
-/
import Derived.Test.YtfebegbjggoijaaGreatDoorRows
import Derived.LaidByTextLater
import Derived.SevenTiedAt
import Derived.LaidSub
import Derived.LaidOnce
namespace Go.Proofs.YtfebegbjggoijaaGreatDoor
open Go
set_option maxRecDepth 100000
theorem seatTie1 : Tryz.prog.laidByTextLater [("postil/slip.sides", Rows.laid_postil_slip_sides), ("postil/galley.torn", Rows.laid_postil_galley_torn), ("postil/galley.none", Rows.laid_postil_galley_none)] [.funcs, .funcs, .data] true :=
  Program.laidByTextLater_by_one 29 8 3 (by kernel_rfl) (by kernel_rfl) (by kernel_rfl) (by kernel_rfl) (by kernel_rfl) (by kernel_rfl) (fun _ _ => by kernel_rfl)
theorem noOwnUnsafe : Tryz.pinned.checked.prog.headLifts.contains "ownunsafe" = false := by kernel_rfl
theorem tie : Tryz.prog.laidByTextLater [("postil/slip.sides", Rows.laid_postil_slip_sides), ("postil/galley.torn", Rows.laid_postil_galley_torn), ("postil/galley.none", Rows.laid_postil_galley_none)] [.funcs, .funcs, .data] true :=
  Program.laidByTextLater.sub seatTie1 ["postil/slip.sides", "postil/galley.torn", "postil/galley.none"] (by kernel_rfl) (by kernel_rfl)
theorem galleyRules_row_tie : Rows.galleyRulesRow.laidByTextAt .later Tryz.pinned [.funcs, .funcs, .data] true :=
  OpenClaim.laidByTextAt_later rfl rfl tie noOwnUnsafe
theorem galleyLeast_row_tie : Rows.galleyLeastRow.laidByTextAt .later Tryz.pinned [.funcs, .funcs, .data] true :=
  OpenClaim.laidByTextAt_later rfl rfl tie noOwnUnsafe
theorem galleyFixed_row_tie : Rows.galleyFixedRow.laidByTextAt .later Tryz.pinned [.funcs, .funcs, .data] true :=
  OpenClaim.laidByTextAt_later rfl rfl tie noOwnUnsafe
theorem galleyCheapest_row_tie : Rows.galleyCheapestRow.laidByTextAt .later Tryz.pinned [.funcs, .funcs, .data] true :=
  OpenClaim.laidByTextAt_later rfl rfl tie noOwnUnsafe
theorem galleyTurned_row_tie : Rows.galleyTurnedRow.laidByTextAt .later Tryz.pinned [.funcs, .funcs, .data] true :=
  OpenClaim.laidByTextAt_later rfl rfl tie noOwnUnsafe
theorem galleyTorn_row_tie : Rows.galleyTornRow.laidByTextAt .later Tryz.pinned [.funcs, .funcs, .data] true :=
  OpenClaim.laidByTextAt_later rfl rfl tie noOwnUnsafe
theorem galleyExamples_row_tie : Rows.galleyExamplesRow.laidByTextAt .later Tryz.pinned [.funcs, .funcs, .data] true :=
  OpenClaim.laidByTextAt_later rfl rfl tie noOwnUnsafe
theorem galleySlips_row_tie : Rows.galleySlipsRow.laidByTextAt .later Tryz.pinned [.funcs, .funcs, .data] true :=
  OpenClaim.laidByTextAt_later rfl rfl tie noOwnUnsafe
theorem galleyRulesUpto_row_tie : Rows.galleyRulesUptoRow.laidByTextAt .later Tryz.pinned [.funcs, .funcs, .data] true :=
  OpenClaim.laidByTextAt_later rfl rfl tie noOwnUnsafe
theorem galleyLeastUpto_row_tie : Rows.galleyLeastUptoRow.laidByTextAt .later Tryz.pinned [.funcs, .funcs, .data] true :=
  OpenClaim.laidByTextAt_later rfl rfl tie noOwnUnsafe
theorem galleyFixedUpto_row_tie : Rows.galleyFixedUptoRow.laidByTextAt .later Tryz.pinned [.funcs, .funcs, .data] true :=
  OpenClaim.laidByTextAt_later rfl rfl tie noOwnUnsafe
theorem galleyCheapestUpto_row_tie : Rows.galleyCheapestUptoRow.laidByTextAt .later Tryz.pinned [.funcs, .funcs, .data] true :=
  OpenClaim.laidByTextAt_later rfl rfl tie noOwnUnsafe
theorem galleyTurnedUpto_row_tie : Rows.galleyTurnedUptoRow.laidByTextAt .later Tryz.pinned [.funcs, .funcs, .data] true :=
  OpenClaim.laidByTextAt_later rfl rfl tie noOwnUnsafe
theorem galleyTornUpto_row_tie : Rows.galleyTornUptoRow.laidByTextAt .later Tryz.pinned [.funcs, .funcs, .data] true :=
  OpenClaim.laidByTextAt_later rfl rfl tie noOwnUnsafe
theorem galleyExamplesUpto_row_tie : Rows.galleyExamplesUptoRow.laidByTextAt .later Tryz.pinned [.funcs, .funcs, .data] true :=
  OpenClaim.laidByTextAt_later rfl rfl tie noOwnUnsafe
theorem galleySlipsUpto_row_tie : Rows.galleySlipsUptoRow.laidByTextAt .later Tryz.pinned [.funcs, .funcs, .data] true :=
  OpenClaim.laidByTextAt_later rfl rfl tie noOwnUnsafe
end Go.Proofs.YtfebegbjggoijaaGreatDoor
