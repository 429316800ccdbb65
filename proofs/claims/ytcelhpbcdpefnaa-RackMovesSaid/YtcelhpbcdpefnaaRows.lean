/-
  No cell of these rows narrows 'for every input' (looked for: loops, veiled, ifaces, maps, wideKeys, modest, calm, conditions, laid).
  DERIVED. THE GIVEN ROWS OF THIS SEAT. 3 by the template 'for every input the law returns true; each argument reads behind the call as it read before'; 0 by the template 'total and deterministic' (their statements: YtcelhpbcdpefnaaTotals.lean).
  GIVEN WITH THE SEED: the statements are not yours to turn. If you find one false, say at which input.
  Laid BY PROGRAM, IN A SANDBOX (cutbox-rows.mjs): the forced cells as the released guide's own fill.sh prints them over the translation e3e32de470f5a05f… (all of the seat's roots in one cut). By AI agents, Wed Nov 11 2026. No macro, syntax, notation, axiom, sorry.
-/
import Derived.Test.YtcelhpbcdpefnaaChecked
import GoSem.Claim
import GoSem.ClaimJoined
import GoSem.ClaimMapViews
import Derived.JoinedTies
import Derived.KernelRfl
namespace Go.Proofs.Ytcelhpbcdpefnaa
/- THE CELL 'sum', in the pinned program and in every row, IS THE sha256 OF THE DUMP (.gsa) THAT YtcelhpbcdpefnaaProg.lean LOADS. Nothing in Lean hashes anything: it is a label: what it is worth is what the hold of that sum in a sandbox is worth. -/
noncomputable def Try.pinned : Pinned := { name := "ytcelhpbcdpefnaa", sum := "e3e32de470f5a05f2bf447dd18e06a6e68b267e5a881665a9e11bfc182295d13", checked := Try.checked }
namespace Rows
def none {H : Type} : Left H := { results := [], args := [] }

/-- 'postillaw06.RackSorts': WHATEVER THE INPUT: true; the input reads as it did. -/
def rackSortsSpec : ChangeSpec := { name := "rackSorts", fn := fun _ => fun
  | [d1, d2, d3] => { results := [.lit (.bool true)], args := [d1, d2, d3] }
  | _ => none }
def rackSortsRow : OpenClaim := { program := "ytcelhpbcdpefnaa", sum := "e3e32de470f5a05f2bf447dd18e06a6e68b267e5a881665a9e11bfc182295d13", func := "postil/postillaw06.RackSorts", spec := "rackSorts", unfollowed := true, recurses := true, apart := false }
def RackSortsSaid : Prop := rackSortsRow.holds Try.pinned (OpenSpec.ofChange rackSortsSpec)

/-- ITS FALSE NEIGHBOUR: 'it returns false'. Refute it at one input. -/
def rackSortsWrong : ChangeSpec := { name := "rackSorts", fn := fun _ => fun
  | [d1, d2, d3] => { results := [.lit (.bool false)], args := [d1, d2, d3] }
  | _ => none }
def RackSortsWrongFalsely : Prop := rackSortsRow.holds Try.pinned (OpenSpec.ofChange rackSortsWrong)

/-- 'postillaw06.RackTells': WHATEVER THE INPUT: true; the input reads as it did. -/
def rackTellsSpec : ChangeSpec := { name := "rackTells", fn := fun _ => fun
  | [d1, d2] => { results := [.lit (.bool true)], args := [d1, d2] }
  | _ => none }
def rackTellsRow : OpenClaim := { program := "ytcelhpbcdpefnaa", sum := "e3e32de470f5a05f2bf447dd18e06a6e68b267e5a881665a9e11bfc182295d13", func := "postil/postillaw06.RackTells", spec := "rackTells", unfollowed := true, recurses := true, apart := false }
def RackTellsSaid : Prop := rackTellsRow.holds Try.pinned (OpenSpec.ofChange rackTellsSpec)

/-- ITS FALSE NEIGHBOUR: 'it returns false'. Refute it at one input. -/
def rackTellsWrong : ChangeSpec := { name := "rackTells", fn := fun _ => fun
  | [d1, d2] => { results := [.lit (.bool false)], args := [d1, d2] }
  | _ => none }
def RackTellsWrongFalsely : Prop := rackTellsRow.holds Try.pinned (OpenSpec.ofChange rackTellsWrong)

/-- 'postillaw06.RackMoves': WHATEVER THE INPUT: true; the input reads as it did. -/
def rackMovesSpec : ChangeSpec := { name := "rackMoves", fn := fun _ => fun
  | [d1, d2] => { results := [.lit (.bool true)], args := [d1, d2] }
  | _ => none }
def rackMovesRow : OpenClaim := { program := "ytcelhpbcdpefnaa", sum := "e3e32de470f5a05f2bf447dd18e06a6e68b267e5a881665a9e11bfc182295d13", func := "postil/postillaw06.RackMoves", spec := "rackMoves", inPlace := ["slices.overlaps[int]"], unfollowed := true, recurses := true, apart := false }
def RackMovesSaid : Prop := rackMovesRow.holds Try.pinned (OpenSpec.ofChange rackMovesSpec)

/-- ITS FALSE NEIGHBOUR: 'it returns false'. Refute it at one input. -/
def rackMovesWrong : ChangeSpec := { name := "rackMoves", fn := fun _ => fun
  | [d1, d2] => { results := [.lit (.bool false)], args := [d1, d2] }
  | _ => none }
def RackMovesWrongFalsely : Prop := rackMovesRow.holds Try.pinned (OpenSpec.ofChange rackMovesWrong)

/- THE SECOND FORM. 'bulk': how many values and letters a reading holds, each counted each time it is reached (what is shared counts as often as it is met; a slice's spare places count too). A statement '..UptoSaid' is the law's where the arguments, and the package variables that the reading takes, are together of bulk at most 1048576: NARROWER than '..Said'. Prove '..Said' where nothing that the law and all that it calls make is longer than what came in: it says more and counts as full. Else prove '..UptoSaid'. A law counts once. -/
mutual
def uptoBulk {H : Type} : DataW H → Nat
  | .lit (.string bytes) => bytes.length + 1
  | .lit _ => 1
  | .nil => 1
  | .ptr d => uptoBulk d + 1
  | .slice elems spare => uptoBulkAll elems + uptoBulkAll spare + 1
  | .agg parts => uptoBulkAll parts + 1
  | .iface _ d => uptoBulk d + 1
  | .map entries => uptoBulkEntries entries + 1
  | .held _ => 1
def uptoBulkAll {H : Type} : List (DataW H) → Nat
  | [] => 0
  | d :: r => uptoBulk d + uptoBulkAll r
def uptoBulkEntries {H : Type} : List (Lit × DataW H) → Nat
  | [] => 0
  | x :: r => uptoBulkEntry x + uptoBulkEntries r
def uptoBulkEntry {H : Type} : Lit × DataW H → Nat
  | (.string bytes, d) => bytes.length + uptoBulk d + 1
  | (_, d) => uptoBulk d + 1
 end
def uptoSmall : (H : Type) → List (DataW H) → Bool := fun _ ds => decide (uptoBulkAll ds ≤ 1048576)
def OpenSpec.upto (s : _root_.Go.ChangeSpec) : _root_.Go.OpenSpec := { _root_.Go.OpenSpec.ofChange s with cond := some uptoSmall }

/-- 'postillaw06.RackSorts', WHERE WHAT IT READS IS OF BULK AT MOST 1048576: true; the input reads as it did. -/
def rackSortsUptoRow : OpenClaim := { program := "ytcelhpbcdpefnaa", sum := "e3e32de470f5a05f2bf447dd18e06a6e68b267e5a881665a9e11bfc182295d13", func := "postil/postillaw06.RackSorts", spec := "rackSorts", unfollowed := true, recurses := true, apart := false, narrowed := true }
def RackSortsUptoSaid : Prop := rackSortsUptoRow.holds Try.pinned (OpenSpec.upto rackSortsSpec)

/-- 'postillaw06.RackTells', WHERE WHAT IT READS IS OF BULK AT MOST 1048576: true; the input reads as it did. -/
def rackTellsUptoRow : OpenClaim := { program := "ytcelhpbcdpefnaa", sum := "e3e32de470f5a05f2bf447dd18e06a6e68b267e5a881665a9e11bfc182295d13", func := "postil/postillaw06.RackTells", spec := "rackTells", unfollowed := true, recurses := true, apart := false, narrowed := true }
def RackTellsUptoSaid : Prop := rackTellsUptoRow.holds Try.pinned (OpenSpec.upto rackTellsSpec)

/-- 'postillaw06.RackMoves', WHERE WHAT IT READS IS OF BULK AT MOST 1048576: true; the input reads as it did. -/
def rackMovesUptoRow : OpenClaim := { program := "ytcelhpbcdpefnaa", sum := "e3e32de470f5a05f2bf447dd18e06a6e68b267e5a881665a9e11bfc182295d13", func := "postil/postillaw06.RackMoves", spec := "rackMoves", inPlace := ["slices.overlaps[int]"], unfollowed := true, recurses := true, apart := false, narrowed := true }
def RackMovesUptoSaid : Prop := rackMovesUptoRow.holds Try.pinned (OpenSpec.upto rackMovesSpec)

end Rows
end Go.Proofs.Ytcelhpbcdpefnaa
