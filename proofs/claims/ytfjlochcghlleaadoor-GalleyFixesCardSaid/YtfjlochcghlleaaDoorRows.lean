/-
  NARROWER THAN 'FOR EVERY INPUT', by the rows' own cells (each row's printed sentence says how): GalleyTells: laid · GalleyPlaced: laid · GalleyFixes: laid.
  DERIVED. THE GIVEN ROWS OF THIS SEAT. 3 by the template 'for every input the law returns true; each argument reads behind the call as it read before'; 0 by the template 'total and deterministic' (their statements: YtfjlochcghlleaaDoorTotals.lean).
  GIVEN WITH THE SEED: the statements are not yours to turn. If you find one false, say at which input.
  Laid BY PROGRAM, IN A SANDBOX (cutbox-rows.mjs): the forced cells as the released guide's own fill.sh prints them over the translation 86dcd3ef00f616be… (all of the seat's roots in one cut). By AI agents, Wed Nov 11 2026. No macro, syntax, notation, axiom, sorry.
-/
import Derived.Test.YtfjlochcghlleaaDoorChecked
import GoSem.Claim
import GoSem.ClaimJoined
import GoSem.ClaimMapViews
import Derived.JoinedTies
import Derived.KernelRfl
namespace Go.Proofs.YtfjlochcghlleaaDoor
/- THE CELL 'sum', in the pinned program and in every row, IS THE sha256 OF THE DUMP (.gsa) THAT YtfjlochcghlleaaDoorProg.lean LOADS. Nothing in Lean hashes anything: it is a label: what it is worth is what the hold of that sum in a sandbox is worth. -/
noncomputable def Tryd.pinned : Pinned := { name := "ytfjlochcghlleaadoor", sum := "86dcd3ef00f616be6149a7d88b5578d6f7ee35922d539dc9a6b9477ea49dbcd1", checked := Tryd.checked }
namespace Rows
def none {H : Type} : Left H := { results := [], args := [] }

/- WHAT THE LISTED PACKAGE-LEVEL VARIABLES READ AS WHEN THE CALL BEGINS. Each datum BY PROGRAM (the guide's laid-datum.mjs) off the statement by which the dump's own 'gosem.cut.vars' lays the variable. In a bare row this is a premise. The card (YtfjlochcghlleaaDoorCards.lean) ties it to the program's text. -/
def laid_postil_galley_torn {H : Type} : DataW H := .iface "func table" (.agg [.agg [.iface "func" (.lit (.string [112, 111, 115, 116, 105, 108, 47, 103, 97, 108, 108, 101, 121, 46, 116, 111, 114, 110, 36, 49]))], .agg [.iface "func" (.lit (.string [112, 111, 115, 116, 105, 108, 47, 103, 97, 108, 108, 101, 121, 46, 116, 111, 114, 110, 36, 50]))]])
def laid_postil_galley_none {H : Type} : DataW H := .agg [.lit (.int .i64 (-1)), .lit (.int .i64 (-1))]

/-- 'postillaw08.GalleyTells': WHATEVER THE INPUT: true; the input reads as it did. -/
def galleyTellsSpec : ChangeSpec := { name := "galleyTells", fn := fun _ => fun
  | [d] => { results := [.lit (.bool true)], args := [d] }
  | _ => none }
def galleyTellsRow : OpenClaim := { program := "ytfjlochcghlleaadoor", sum := "86dcd3ef00f616be6149a7d88b5578d6f7ee35922d539dc9a6b9477ea49dbcd1", func := "postil/postillaw08.GalleyTells", spec := "galleyTells", unfollowed := true, recurses := true, named := ["postil/galley.torn", "postil/galley.none"], apart := false, laid := [("postil/galley.torn", laid_postil_galley_torn), ("postil/galley.none", laid_postil_galley_none)] }
def GalleyTellsSaid : Prop := galleyTellsRow.holds Tryd.pinned (OpenSpec.ofChange galleyTellsSpec)

/-- ITS FALSE NEIGHBOUR: 'it returns false'. Refute it at one input. -/
def galleyTellsWrong : ChangeSpec := { name := "galleyTells", fn := fun _ => fun
  | [d] => { results := [.lit (.bool false)], args := [d] }
  | _ => none }
def GalleyTellsWrongFalsely : Prop := galleyTellsRow.holds Tryd.pinned (OpenSpec.ofChange galleyTellsWrong)

/-- 'postillaw08.GalleyPlaced': WHATEVER THE INPUT: true; the input reads as it did. -/
def galleyPlacedSpec : ChangeSpec := { name := "galleyPlaced", fn := fun _ => fun
  | [d1, d2, d3, d4] => { results := [.lit (.bool true)], args := [d1, d2, d3, d4] }
  | _ => none }
def galleyPlacedRow : OpenClaim := { program := "ytfjlochcghlleaadoor", sum := "86dcd3ef00f616be6149a7d88b5578d6f7ee35922d539dc9a6b9477ea49dbcd1", func := "postil/postillaw08.GalleyPlaced", spec := "galleyPlaced", unfollowed := true, recurses := true, named := ["postil/galley.torn"], apart := false, laid := [("postil/galley.torn", laid_postil_galley_torn)] }
def GalleyPlacedSaid : Prop := galleyPlacedRow.holds Tryd.pinned (OpenSpec.ofChange galleyPlacedSpec)

/-- ITS FALSE NEIGHBOUR: 'it returns false'. Refute it at one input. -/
def galleyPlacedWrong : ChangeSpec := { name := "galleyPlaced", fn := fun _ => fun
  | [d1, d2, d3, d4] => { results := [.lit (.bool false)], args := [d1, d2, d3, d4] }
  | _ => none }
def GalleyPlacedWrongFalsely : Prop := galleyPlacedRow.holds Tryd.pinned (OpenSpec.ofChange galleyPlacedWrong)

/-- 'postillaw08.GalleyFixes': WHATEVER THE INPUT: true; the input reads as it did. -/
def galleyFixesSpec : ChangeSpec := { name := "galleyFixes", fn := fun _ => fun
  | [d1, d2, d3, d4] => { results := [.lit (.bool true)], args := [d1, d2, d3, d4] }
  | _ => none }
def galleyFixesRow : OpenClaim := { program := "ytfjlochcghlleaadoor", sum := "86dcd3ef00f616be6149a7d88b5578d6f7ee35922d539dc9a6b9477ea49dbcd1", func := "postil/postillaw08.GalleyFixes", spec := "galleyFixes", unfollowed := true, recurses := true, named := ["postil/galley.torn", "postil/galley.none"], apart := false, laid := [("postil/galley.torn", laid_postil_galley_torn), ("postil/galley.none", laid_postil_galley_none)] }
def GalleyFixesSaid : Prop := galleyFixesRow.holds Tryd.pinned (OpenSpec.ofChange galleyFixesSpec)

/-- ITS FALSE NEIGHBOUR: 'it returns false'. Refute it at one input. -/
def galleyFixesWrong : ChangeSpec := { name := "galleyFixes", fn := fun _ => fun
  | [d1, d2, d3, d4] => { results := [.lit (.bool false)], args := [d1, d2, d3, d4] }
  | _ => none }
def GalleyFixesWrongFalsely : Prop := galleyFixesRow.holds Tryd.pinned (OpenSpec.ofChange galleyFixesWrong)

/- THE SECOND FORM. 'bulk': how many values and letters a reading holds, each counted each time it is reached (what is shared counts as often as it is met; a slice's spare places count too). A statement '..UptoSaid' is the law's where the arguments, and the package variables that the reading takes, are together of bulk at most 1048576: NARROWER than '..Said'. Prove '..Said' where nothing that the law and all that it calls make is longer than what came in: it says more and counts as full. Else prove '..UptoSaid'. A law counts once. -/
mutual
def uptoBulk {H : Type} : DataW H → Nat
  | .lit (.string bytes) => bytes.length + 1
  | .lit _ => 1
  | .nil => 1
  | .ptr d => uptoBulk d + 1
  | .slice elems spare => uptoBulkAll elems + uptoBulkAll spare + 1
  | .agg parts => uptoBulkAll parts + 1
  | .iface _ d => uptoBulk d + 1
  | .map entries => uptoBulkEntries entries + 1
  | .held _ => 1
def uptoBulkAll {H : Type} : List (DataW H) → Nat
  | [] => 0
  | d :: r => uptoBulk d + uptoBulkAll r
def uptoBulkEntries {H : Type} : List (Lit × DataW H) → Nat
  | [] => 0
  | x :: r => uptoBulkEntry x + uptoBulkEntries r
def uptoBulkEntry {H : Type} : Lit × DataW H → Nat
  | (.string bytes, d) => bytes.length + uptoBulk d + 1
  | (_, d) => uptoBulk d + 1
 end
def uptoSmall : (H : Type) → List (DataW H) → Bool := fun _ ds => decide (uptoBulkAll ds ≤ 1048576)
def OpenSpec.upto (s : _root_.Go.ChangeSpec) : _root_.Go.OpenSpec := { _root_.Go.OpenSpec.ofChange s with cond := some uptoSmall }

/-- 'postillaw08.GalleyTells', WHERE WHAT IT READS IS OF BULK AT MOST 1048576: true; the input reads as it did. -/
def galleyTellsUptoRow : OpenClaim := { program := "ytfjlochcghlleaadoor", sum := "86dcd3ef00f616be6149a7d88b5578d6f7ee35922d539dc9a6b9477ea49dbcd1", func := "postil/postillaw08.GalleyTells", spec := "galleyTells", unfollowed := true, recurses := true, named := ["postil/galley.torn", "postil/galley.none"], apart := false, laid := [("postil/galley.torn", laid_postil_galley_torn), ("postil/galley.none", laid_postil_galley_none)], narrowed := true }
def GalleyTellsUptoSaid : Prop := galleyTellsUptoRow.holds Tryd.pinned (OpenSpec.upto galleyTellsSpec)

/-- 'postillaw08.GalleyPlaced', WHERE WHAT IT READS IS OF BULK AT MOST 1048576: true; the input reads as it did. -/
def galleyPlacedUptoRow : OpenClaim := { program := "ytfjlochcghlleaadoor", sum := "86dcd3ef00f616be6149a7d88b5578d6f7ee35922d539dc9a6b9477ea49dbcd1", func := "postil/postillaw08.GalleyPlaced", spec := "galleyPlaced", unfollowed := true, recurses := true, named := ["postil/galley.torn"], apart := false, laid := [("postil/galley.torn", laid_postil_galley_torn)], narrowed := true }
def GalleyPlacedUptoSaid : Prop := galleyPlacedUptoRow.holds Tryd.pinned (OpenSpec.upto galleyPlacedSpec)

/-- 'postillaw08.GalleyFixes', WHERE WHAT IT READS IS OF BULK AT MOST 1048576: true; the input reads as it did. -/
def galleyFixesUptoRow : OpenClaim := { program := "ytfjlochcghlleaadoor", sum := "86dcd3ef00f616be6149a7d88b5578d6f7ee35922d539dc9a6b9477ea49dbcd1", func := "postil/postillaw08.GalleyFixes", spec := "galleyFixes", unfollowed := true, recurses := true, named := ["postil/galley.torn", "postil/galley.none"], apart := false, laid := [("postil/galley.torn", laid_postil_galley_torn), ("postil/galley.none", laid_postil_galley_none)], narrowed := true }
def GalleyFixesUptoSaid : Prop := galleyFixesUptoRow.holds Tryd.pinned (OpenSpec.upto galleyFixesSpec)

end Rows
end Go.Proofs.YtfjlochcghlleaaDoor
