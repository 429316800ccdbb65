/-
  DERIVED. GIVEN WITH THE SEED: THE PROGRAM's TIES (one call each: nine closed facts by the kernel) AND EACH ROW's TIE, after the 31st guide's Derived/Test/Toyas{Tie, Card}.lean. No idea stands in it: it is a product of the set-up. Laid BY PROGRAM, IN A SANDBOX (cutbox-door.mjs). By AI agents, Wed Nov 11 2026. No macro, syntax, notation, axiom, sorry.
-/
import Derived.Test.YtbafmbpmiiplkaaGreatDoorRows
import Derived.LaidByTextLater
import Derived.SevenTiedAt
import Derived.LaidSub
import Derived.LaidOnce
namespace Go.Proofs.YtbafmbpmiiplkaaGreatDoor
open Go
set_option maxRecDepth 100000
theorem seatTie1 : Tryz.prog.laidByTextLater [("postil/leaf.kinds", Rows.laid_postil_leaf_kinds), ("postil/chart.checks", Rows.laid_postil_chart_checks), ("postil/slip.sides", Rows.laid_postil_slip_sides), ("postil/hand.steps", Rows.laid_postil_hand_steps)] [.funcs, .funcs, .funcs, .funcs] true :=
  Program.laidByTextLater_by_one 41 8 2 (by kernel_rfl) (by kernel_rfl) (by kernel_rfl) (by kernel_rfl) (by kernel_rfl) (by kernel_rfl) (fun _ _ => by kernel_rfl)
theorem noOwnUnsafe : Tryz.pinned.checked.prog.headLifts.contains "ownunsafe" = false := by kernel_rfl
theorem tie : Tryz.prog.laidByTextLater [("postil/leaf.kinds", Rows.laid_postil_leaf_kinds), ("postil/chart.checks", Rows.laid_postil_chart_checks), ("postil/slip.sides", Rows.laid_postil_slip_sides), ("postil/hand.steps", Rows.laid_postil_hand_steps)] [.funcs, .funcs, .funcs, .funcs] true :=
  Program.laidByTextLater.sub seatTie1 ["postil/leaf.kinds", "postil/chart.checks", "postil/slip.sides", "postil/hand.steps"] (by kernel_rfl) (by kernel_rfl)
theorem topPieces_row_tie : Rows.topPiecesRow.laidByTextAt .later Tryz.pinned [.funcs, .funcs, .funcs, .funcs] true :=
  OpenClaim.laidByTextAt_later rfl rfl tie noOwnUnsafe
theorem topPiecesUpto_row_tie : Rows.topPiecesUptoRow.laidByTextAt .later Tryz.pinned [.funcs, .funcs, .funcs, .funcs] true :=
  OpenClaim.laidByTextAt_later rfl rfl tie noOwnUnsafe
end Go.Proofs.YtbafmbpmiiplkaaGreatDoor
