/-
  NARROWER THAN 'FOR EVERY INPUT', by the rows' own cells (each row's printed sentence says how): GalleyRules: laid · GalleyLeast: laid · GalleyFixed: laid · GalleyCheapest: laid · GalleyTurned: laid · GalleyTorn: laid · GalleyExamples: laid · GalleySlips: laid.
  DERIVED. THE GIVEN ROWS OF THIS SEAT. 8 by the template 'for every input the law returns true; each argument reads behind the call as it read before'; 0 by the template 'total and deterministic' (their statements: YtfebegbjggoijaaGreatDoorTotals.lean).
  GIVEN WITH THE SEED: the statements are not yours to turn. If you find one false, say at which input.
  Laid BY PROGRAM, IN A SANDBOX (cutbox-rows.mjs): the forced cells as the released guide's own fill.sh prints them over the translation 40d268e3001f69c4… (all of the seat's roots in one cut). By AI agents, Wed Nov 11 2026. No macro, syntax, notation, axiom, sorry.
-/
import Derived.Test.YtfebegbjggoijaaGreatDoorChecked
import GoSem.Claim
import GoSem.ClaimJoined
import GoSem.ClaimMapViews
import Derived.JoinedTies
import Derived.KernelRfl
namespace Go.Proofs.YtfebegbjggoijaaGreatDoor
/- THE CELL 'sum', in the pinned program and in every row, IS THE sha256 OF THE DUMP (.gsa) THAT YtfebegbjggoijaaGreatDoorProg.lean LOADS. Nothing in Lean hashes anything: it is a label: what it is worth is what the hold of that sum in a sandbox is worth. -/
noncomputable def Tryz.pinned : Pinned := { name := "ytfebegbjggoijaagreatdoor", sum := "40d268e3001f69c435677e2324fe337f9cc1f1003b13efb24c5cd337589c920c", checked := Tryz.checked }
namespace Rows
def none {H : Type} : Left H := { results := [], args := [] }

/- WHAT THE LISTED PACKAGE-LEVEL VARIABLES READ AS WHEN THE CALL BEGINS. Each datum BY PROGRAM (the guide's laid-datum.mjs) off the statement by which the dump's own 'gosem.cut.vars' lays the variable. In a bare row this is a premise. The card (YtfebegbjggoijaaGreatDoorCards.lean) ties it to the program's text. -/
def laid_postil_slip_sides {H : Type} : DataW H := .iface "func table" (.agg [.agg [.nil], .agg [.iface "func" (.lit (.string [112, 111, 115, 116, 105, 108, 47, 115, 108, 105, 112, 46, 115, 105, 100, 101, 115, 36, 49]))], .agg [.iface "func" (.lit (.string [112, 111, 115, 116, 105, 108, 47, 115, 108, 105, 112, 46, 115, 105, 100, 101, 115, 36, 50]))], .agg [.iface "func" (.lit (.string [112, 111, 115, 116, 105, 108, 47, 115, 108, 105, 112, 46, 115, 105, 100, 101, 115, 36, 51]))]])
def laid_postil_galley_torn {H : Type} : DataW H := .iface "func table" (.agg [.agg [.iface "func" (.lit (.string [112, 111, 115, 116, 105, 108, 47, 103, 97, 108, 108, 101, 121, 46, 116, 111, 114, 110, 36, 49]))], .agg [.iface "func" (.lit (.string [112, 111, 115, 116, 105, 108, 47, 103, 97, 108, 108, 101, 121, 46, 116, 111, 114, 110, 36, 50]))]])
def laid_postil_galley_none {H : Type} : DataW H := .agg [.lit (.int .i64 (-1)), .lit (.int .i64 (-1))]

/-- 'postillaw08.GalleyRules': WHATEVER THE INPUT: true; the input reads as it did. -/
def galleyRulesSpec : ChangeSpec := { name := "galleyRules", fn := fun _ => fun
  | [d1, d2] => { results := [.lit (.bool true)], args := [d1, d2] }
  | _ => none }
def galleyRulesRow : OpenClaim := { program := "ytfebegbjggoijaagreatdoor", sum := "40d268e3001f69c435677e2324fe337f9cc1f1003b13efb24c5cd337589c920c", func := "postil/postillaw08.GalleyRules", spec := "galleyRules", inPlace := ["internal/abi.NoEscape", "internal/bytealg.MakeNoZero"], unfollowed := true, recurses := true, named := ["postil/galley.torn", "postil/galley.none", "postil/slip.sides"], apart := false, laid := [("postil/slip.sides", laid_postil_slip_sides), ("postil/galley.torn", laid_postil_galley_torn), ("postil/galley.none", laid_postil_galley_none)] }
def GalleyRulesSaid : Prop := galleyRulesRow.holds Tryz.pinned (OpenSpec.ofChange galleyRulesSpec)

/-- ITS FALSE NEIGHBOUR: 'it returns false'. Refute it at one input. -/
def galleyRulesWrong : ChangeSpec := { name := "galleyRules", fn := fun _ => fun
  | [d1, d2] => { results := [.lit (.bool false)], args := [d1, d2] }
  | _ => none }
def GalleyRulesWrongFalsely : Prop := galleyRulesRow.holds Tryz.pinned (OpenSpec.ofChange galleyRulesWrong)

/-- 'postillaw08.GalleyLeast': WHATEVER THE INPUT: true; the input reads as it did. -/
def galleyLeastSpec : ChangeSpec := { name := "galleyLeast", fn := fun _ => fun
  | [d1, d2] => { results := [.lit (.bool true)], args := [d1, d2] }
  | _ => none }
def galleyLeastRow : OpenClaim := { program := "ytfebegbjggoijaagreatdoor", sum := "40d268e3001f69c435677e2324fe337f9cc1f1003b13efb24c5cd337589c920c", func := "postil/postillaw08.GalleyLeast", spec := "galleyLeast", inPlace := ["internal/abi.NoEscape", "internal/bytealg.MakeNoZero"], unfollowed := true, recurses := true, named := ["postil/galley.torn", "postil/galley.none", "postil/slip.sides"], apart := false, laid := [("postil/slip.sides", laid_postil_slip_sides), ("postil/galley.torn", laid_postil_galley_torn), ("postil/galley.none", laid_postil_galley_none)] }
def GalleyLeastSaid : Prop := galleyLeastRow.holds Tryz.pinned (OpenSpec.ofChange galleyLeastSpec)

/-- ITS FALSE NEIGHBOUR: 'it returns false'. Refute it at one input. -/
def galleyLeastWrong : ChangeSpec := { name := "galleyLeast", fn := fun _ => fun
  | [d1, d2] => { results := [.lit (.bool false)], args := [d1, d2] }
  | _ => none }
def GalleyLeastWrongFalsely : Prop := galleyLeastRow.holds Tryz.pinned (OpenSpec.ofChange galleyLeastWrong)

/-- 'postillaw08.GalleyFixed': WHATEVER THE INPUT: true; the input reads as it did. -/
def galleyFixedSpec : ChangeSpec := { name := "galleyFixed", fn := fun _ => fun
  | [d1, d2, d3, d4] => { results := [.lit (.bool true)], args := [d1, d2, d3, d4] }
  | _ => none }
def galleyFixedRow : OpenClaim := { program := "ytfebegbjggoijaagreatdoor", sum := "40d268e3001f69c435677e2324fe337f9cc1f1003b13efb24c5cd337589c920c", func := "postil/postillaw08.GalleyFixed", spec := "galleyFixed", inPlace := ["internal/abi.NoEscape", "internal/bytealg.MakeNoZero"], unfollowed := true, recurses := true, named := ["postil/galley.torn", "postil/galley.none", "postil/slip.sides"], apart := false, laid := [("postil/slip.sides", laid_postil_slip_sides), ("postil/galley.torn", laid_postil_galley_torn), ("postil/galley.none", laid_postil_galley_none)] }
def GalleyFixedSaid : Prop := galleyFixedRow.holds Tryz.pinned (OpenSpec.ofChange galleyFixedSpec)

/-- ITS FALSE NEIGHBOUR: 'it returns false'. Refute it at one input. -/
def galleyFixedWrong : ChangeSpec := { name := "galleyFixed", fn := fun _ => fun
  | [d1, d2, d3, d4] => { results := [.lit (.bool false)], args := [d1, d2, d3, d4] }
  | _ => none }
def GalleyFixedWrongFalsely : Prop := galleyFixedRow.holds Tryz.pinned (OpenSpec.ofChange galleyFixedWrong)

/-- 'postillaw08.GalleyCheapest': WHATEVER THE INPUT: true; the input reads as it did. -/
def galleyCheapestSpec : ChangeSpec := { name := "galleyCheapest", fn := fun _ => fun
  | [d1, d2, d3, d4, d5] => { results := [.lit (.bool true)], args := [d1, d2, d3, d4, d5] }
  | _ => none }
def galleyCheapestRow : OpenClaim := { program := "ytfebegbjggoijaagreatdoor", sum := "40d268e3001f69c435677e2324fe337f9cc1f1003b13efb24c5cd337589c920c", func := "postil/postillaw08.GalleyCheapest", spec := "galleyCheapest", inPlace := ["internal/abi.NoEscape", "internal/bytealg.MakeNoZero"], unfollowed := true, recurses := true, named := ["postil/galley.torn", "postil/galley.none", "postil/slip.sides"], apart := false, laid := [("postil/slip.sides", laid_postil_slip_sides), ("postil/galley.torn", laid_postil_galley_torn), ("postil/galley.none", laid_postil_galley_none)] }
def GalleyCheapestSaid : Prop := galleyCheapestRow.holds Tryz.pinned (OpenSpec.ofChange galleyCheapestSpec)

/-- ITS FALSE NEIGHBOUR: 'it returns false'. Refute it at one input. -/
def galleyCheapestWrong : ChangeSpec := { name := "galleyCheapest", fn := fun _ => fun
  | [d1, d2, d3, d4, d5] => { results := [.lit (.bool false)], args := [d1, d2, d3, d4, d5] }
  | _ => none }
def GalleyCheapestWrongFalsely : Prop := galleyCheapestRow.holds Tryz.pinned (OpenSpec.ofChange galleyCheapestWrong)

/-- 'postillaw08.GalleyTurned': WHATEVER THE INPUT: true; the input reads as it did. -/
def galleyTurnedSpec : ChangeSpec := { name := "galleyTurned", fn := fun _ => fun
  | [d1, d2] => { results := [.lit (.bool true)], args := [d1, d2] }
  | _ => none }
def galleyTurnedRow : OpenClaim := { program := "ytfebegbjggoijaagreatdoor", sum := "40d268e3001f69c435677e2324fe337f9cc1f1003b13efb24c5cd337589c920c", func := "postil/postillaw08.GalleyTurned", spec := "galleyTurned", inPlace := ["internal/abi.NoEscape", "internal/bytealg.MakeNoZero"], unfollowed := true, recurses := true, named := ["postil/galley.torn", "postil/galley.none", "postil/slip.sides"], apart := false, laid := [("postil/slip.sides", laid_postil_slip_sides), ("postil/galley.torn", laid_postil_galley_torn), ("postil/galley.none", laid_postil_galley_none)] }
def GalleyTurnedSaid : Prop := galleyTurnedRow.holds Tryz.pinned (OpenSpec.ofChange galleyTurnedSpec)

/-- ITS FALSE NEIGHBOUR: 'it returns false'. Refute it at one input. -/
def galleyTurnedWrong : ChangeSpec := { name := "galleyTurned", fn := fun _ => fun
  | [d1, d2] => { results := [.lit (.bool false)], args := [d1, d2] }
  | _ => none }
def GalleyTurnedWrongFalsely : Prop := galleyTurnedRow.holds Tryz.pinned (OpenSpec.ofChange galleyTurnedWrong)

/-- 'postillaw08.GalleyTorn': WHATEVER THE INPUT: true; the input reads as it did. -/
def galleyTornSpec : ChangeSpec := { name := "galleyTorn", fn := fun _ => fun
  | [d1, d2] => { results := [.lit (.bool true)], args := [d1, d2] }
  | _ => none }
def galleyTornRow : OpenClaim := { program := "ytfebegbjggoijaagreatdoor", sum := "40d268e3001f69c435677e2324fe337f9cc1f1003b13efb24c5cd337589c920c", func := "postil/postillaw08.GalleyTorn", spec := "galleyTorn", inPlace := ["internal/abi.NoEscape", "internal/bytealg.MakeNoZero"], unfollowed := true, recurses := true, named := ["postil/galley.torn", "postil/galley.none", "postil/slip.sides"], apart := false, laid := [("postil/slip.sides", laid_postil_slip_sides), ("postil/galley.torn", laid_postil_galley_torn), ("postil/galley.none", laid_postil_galley_none)] }
def GalleyTornSaid : Prop := galleyTornRow.holds Tryz.pinned (OpenSpec.ofChange galleyTornSpec)

/-- ITS FALSE NEIGHBOUR: 'it returns false'. Refute it at one input. -/
def galleyTornWrong : ChangeSpec := { name := "galleyTorn", fn := fun _ => fun
  | [d1, d2] => { results := [.lit (.bool false)], args := [d1, d2] }
  | _ => none }
def GalleyTornWrongFalsely : Prop := galleyTornRow.holds Tryz.pinned (OpenSpec.ofChange galleyTornWrong)

/-- 'postillaw08.GalleyExamples': WHATEVER THE INPUT: true; the input reads as it did. -/
def galleyExamplesSpec : ChangeSpec := { name := "galleyExamples", fn := fun _ => fun
  | [] => { results := [.lit (.bool true)], args := [] }
  | _ => none }
def galleyExamplesRow : OpenClaim := { program := "ytfebegbjggoijaagreatdoor", sum := "40d268e3001f69c435677e2324fe337f9cc1f1003b13efb24c5cd337589c920c", func := "postil/postillaw08.GalleyExamples", spec := "galleyExamples", inPlace := ["internal/abi.NoEscape", "internal/bytealg.MakeNoZero"], unfollowed := true, recurses := true, named := ["postil/galley.torn", "postil/galley.none", "postil/slip.sides"], apart := false, laid := [("postil/slip.sides", laid_postil_slip_sides), ("postil/galley.torn", laid_postil_galley_torn), ("postil/galley.none", laid_postil_galley_none)] }
def GalleyExamplesSaid : Prop := galleyExamplesRow.holds Tryz.pinned (OpenSpec.ofChange galleyExamplesSpec)

/-- ITS FALSE NEIGHBOUR: 'it returns false'. Refute it at one input. -/
def galleyExamplesWrong : ChangeSpec := { name := "galleyExamples", fn := fun _ => fun
  | [] => { results := [.lit (.bool false)], args := [] }
  | _ => none }
def GalleyExamplesWrongFalsely : Prop := galleyExamplesRow.holds Tryz.pinned (OpenSpec.ofChange galleyExamplesWrong)

/-- 'postillaw08.GalleySlips': WHATEVER THE INPUT: true; the input reads as it did. -/
def galleySlipsSpec : ChangeSpec := { name := "galleySlips", fn := fun _ => fun
  | [d1, d2, d3] => { results := [.lit (.bool true)], args := [d1, d2, d3] }
  | _ => none }
def galleySlipsRow : OpenClaim := { program := "ytfebegbjggoijaagreatdoor", sum := "40d268e3001f69c435677e2324fe337f9cc1f1003b13efb24c5cd337589c920c", func := "postil/postillaw08.GalleySlips", spec := "galleySlips", inPlace := ["internal/abi.NoEscape", "internal/bytealg.MakeNoZero"], unfollowed := true, recurses := true, named := ["postil/galley.torn", "postil/galley.none", "postil/slip.sides"], apart := false, laid := [("postil/slip.sides", laid_postil_slip_sides), ("postil/galley.torn", laid_postil_galley_torn), ("postil/galley.none", laid_postil_galley_none)] }
def GalleySlipsSaid : Prop := galleySlipsRow.holds Tryz.pinned (OpenSpec.ofChange galleySlipsSpec)

/-- ITS FALSE NEIGHBOUR: 'it returns false'. Refute it at one input. -/
def galleySlipsWrong : ChangeSpec := { name := "galleySlips", fn := fun _ => fun
  | [d1, d2, d3] => { results := [.lit (.bool false)], args := [d1, d2, d3] }
  | _ => none }
def GalleySlipsWrongFalsely : Prop := galleySlipsRow.holds Tryz.pinned (OpenSpec.ofChange galleySlipsWrong)

/- THE SECOND FORM. 'bulk': how many values and letters a reading holds, each counted each time it is reached (what is shared counts as often as it is met; a slice's spare places count too). A statement '..UptoSaid' is the law's where the arguments, and the package variables that the reading takes, are together of bulk at most 1048576: NARROWER than '..Said'. Prove '..Said' where nothing that the law and all that it calls make is longer than what came in: it says more and counts as full. Else prove '..UptoSaid'. A law counts once. -/
mutual
def uptoBulk {H : Type} : DataW H → Nat
  | .lit (.string bytes) => bytes.length + 1
  | .lit _ => 1
  | .nil => 1
  | .ptr d => uptoBulk d + 1
  | .slice elems spare => uptoBulkAll elems + uptoBulkAll spare + 1
  | .agg parts => uptoBulkAll parts + 1
  | .iface _ d => uptoBulk d + 1
  | .map entries => uptoBulkEntries entries + 1
  | .held _ => 1
def uptoBulkAll {H : Type} : List (DataW H) → Nat
  | [] => 0
  | d :: r => uptoBulk d + uptoBulkAll r
def uptoBulkEntries {H : Type} : List (Lit × DataW H) → Nat
  | [] => 0
  | x :: r => uptoBulkEntry x + uptoBulkEntries r
def uptoBulkEntry {H : Type} : Lit × DataW H → Nat
  | (.string bytes, d) => bytes.length + uptoBulk d + 1
  | (_, d) => uptoBulk d + 1
 end
def uptoSmall : (H : Type) → List (DataW H) → Bool := fun _ ds => decide (uptoBulkAll ds ≤ 1048576)
def OpenSpec.upto (s : _root_.Go.ChangeSpec) : _root_.Go.OpenSpec := { _root_.Go.OpenSpec.ofChange s with cond := some uptoSmall }

/-- 'postillaw08.GalleyRules', WHERE WHAT IT READS IS OF BULK AT MOST 1048576: true; the input reads as it did. -/
def galleyRulesUptoRow : OpenClaim := { program := "ytfebegbjggoijaagreatdoor", sum := "40d268e3001f69c435677e2324fe337f9cc1f1003b13efb24c5cd337589c920c", func := "postil/postillaw08.GalleyRules", spec := "galleyRules", inPlace := ["internal/abi.NoEscape", "internal/bytealg.MakeNoZero"], unfollowed := true, recurses := true, named := ["postil/galley.torn", "postil/galley.none", "postil/slip.sides"], apart := false, laid := [("postil/slip.sides", laid_postil_slip_sides), ("postil/galley.torn", laid_postil_galley_torn), ("postil/galley.none", laid_postil_galley_none)], narrowed := true }
def GalleyRulesUptoSaid : Prop := galleyRulesUptoRow.holds Tryz.pinned (OpenSpec.upto galleyRulesSpec)

/-- 'postillaw08.GalleyLeast', WHERE WHAT IT READS IS OF BULK AT MOST 1048576: true; the input reads as it did. -/
def galleyLeastUptoRow : OpenClaim := { program := "ytfebegbjggoijaagreatdoor", sum := "40d268e3001f69c435677e2324fe337f9cc1f1003b13efb24c5cd337589c920c", func := "postil/postillaw08.GalleyLeast", spec := "galleyLeast", inPlace := ["internal/abi.NoEscape", "internal/bytealg.MakeNoZero"], unfollowed := true, recurses := true, named := ["postil/galley.torn", "postil/galley.none", "postil/slip.sides"], apart := false, laid := [("postil/slip.sides", laid_postil_slip_sides), ("postil/galley.torn", laid_postil_galley_torn), ("postil/galley.none", laid_postil_galley_none)], narrowed := true }
def GalleyLeastUptoSaid : Prop := galleyLeastUptoRow.holds Tryz.pinned (OpenSpec.upto galleyLeastSpec)

/-- 'postillaw08.GalleyFixed', WHERE WHAT IT READS IS OF BULK AT MOST 1048576: true; the input reads as it did. -/
def galleyFixedUptoRow : OpenClaim := { program := "ytfebegbjggoijaagreatdoor", sum := "40d268e3001f69c435677e2324fe337f9cc1f1003b13efb24c5cd337589c920c", func := "postil/postillaw08.GalleyFixed", spec := "galleyFixed", inPlace := ["internal/abi.NoEscape", "internal/bytealg.MakeNoZero"], unfollowed := true, recurses := true, named := ["postil/galley.torn", "postil/galley.none", "postil/slip.sides"], apart := false, laid := [("postil/slip.sides", laid_postil_slip_sides), ("postil/galley.torn", laid_postil_galley_torn), ("postil/galley.none", laid_postil_galley_none)], narrowed := true }
def GalleyFixedUptoSaid : Prop := galleyFixedUptoRow.holds Tryz.pinned (OpenSpec.upto galleyFixedSpec)

/-- 'postillaw08.GalleyCheapest', WHERE WHAT IT READS IS OF BULK AT MOST 1048576: true; the input reads as it did. -/
def galleyCheapestUptoRow : OpenClaim := { program := "ytfebegbjggoijaagreatdoor", sum := "40d268e3001f69c435677e2324fe337f9cc1f1003b13efb24c5cd337589c920c", func := "postil/postillaw08.GalleyCheapest", spec := "galleyCheapest", inPlace := ["internal/abi.NoEscape", "internal/bytealg.MakeNoZero"], unfollowed := true, recurses := true, named := ["postil/galley.torn", "postil/galley.none", "postil/slip.sides"], apart := false, laid := [("postil/slip.sides", laid_postil_slip_sides), ("postil/galley.torn", laid_postil_galley_torn), ("postil/galley.none", laid_postil_galley_none)], narrowed := true }
def GalleyCheapestUptoSaid : Prop := galleyCheapestUptoRow.holds Tryz.pinned (OpenSpec.upto galleyCheapestSpec)

/-- 'postillaw08.GalleyTurned', WHERE WHAT IT READS IS OF BULK AT MOST 1048576: true; the input reads as it did. -/
def galleyTurnedUptoRow : OpenClaim := { program := "ytfebegbjggoijaagreatdoor", sum := "40d268e3001f69c435677e2324fe337f9cc1f1003b13efb24c5cd337589c920c", func := "postil/postillaw08.GalleyTurned", spec := "galleyTurned", inPlace := ["internal/abi.NoEscape", "internal/bytealg.MakeNoZero"], unfollowed := true, recurses := true, named := ["postil/galley.torn", "postil/galley.none", "postil/slip.sides"], apart := false, laid := [("postil/slip.sides", laid_postil_slip_sides), ("postil/galley.torn", laid_postil_galley_torn), ("postil/galley.none", laid_postil_galley_none)], narrowed := true }
def GalleyTurnedUptoSaid : Prop := galleyTurnedUptoRow.holds Tryz.pinned (OpenSpec.upto galleyTurnedSpec)

/-- 'postillaw08.GalleyTorn', WHERE WHAT IT READS IS OF BULK AT MOST 1048576: true; the input reads as it did. -/
def galleyTornUptoRow : OpenClaim := { program := "ytfebegbjggoijaagreatdoor", sum := "40d268e3001f69c435677e2324fe337f9cc1f1003b13efb24c5cd337589c920c", func := "postil/postillaw08.GalleyTorn", spec := "galleyTorn", inPlace := ["internal/abi.NoEscape", "internal/bytealg.MakeNoZero"], unfollowed := true, recurses := true, named := ["postil/galley.torn", "postil/galley.none", "postil/slip.sides"], apart := false, laid := [("postil/slip.sides", laid_postil_slip_sides), ("postil/galley.torn", laid_postil_galley_torn), ("postil/galley.none", laid_postil_galley_none)], narrowed := true }
def GalleyTornUptoSaid : Prop := galleyTornUptoRow.holds Tryz.pinned (OpenSpec.upto galleyTornSpec)

/-- 'postillaw08.GalleyExamples', WHERE WHAT IT READS IS OF BULK AT MOST 1048576: true; the input reads as it did. -/
def galleyExamplesUptoRow : OpenClaim := { program := "ytfebegbjggoijaagreatdoor", sum := "40d268e3001f69c435677e2324fe337f9cc1f1003b13efb24c5cd337589c920c", func := "postil/postillaw08.GalleyExamples", spec := "galleyExamples", inPlace := ["internal/abi.NoEscape", "internal/bytealg.MakeNoZero"], unfollowed := true, recurses := true, named := ["postil/galley.torn", "postil/galley.none", "postil/slip.sides"], apart := false, laid := [("postil/slip.sides", laid_postil_slip_sides), ("postil/galley.torn", laid_postil_galley_torn), ("postil/galley.none", laid_postil_galley_none)], narrowed := true }
def GalleyExamplesUptoSaid : Prop := galleyExamplesUptoRow.holds Tryz.pinned (OpenSpec.upto galleyExamplesSpec)

/-- 'postillaw08.GalleySlips', WHERE WHAT IT READS IS OF BULK AT MOST 1048576: true; the input reads as it did. -/
def galleySlipsUptoRow : OpenClaim := { program := "ytfebegbjggoijaagreatdoor", sum := "40d268e3001f69c435677e2324fe337f9cc1f1003b13efb24c5cd337589c920c", func := "postil/postillaw08.GalleySlips", spec := "galleySlips", inPlace := ["internal/abi.NoEscape", "internal/bytealg.MakeNoZero"], unfollowed := true, recurses := true, named := ["postil/galley.torn", "postil/galley.none", "postil/slip.sides"], apart := false, laid := [("postil/slip.sides", laid_postil_slip_sides), ("postil/galley.torn", laid_postil_galley_torn), ("postil/galley.none", laid_postil_galley_none)], narrowed := true }
def GalleySlipsUptoSaid : Prop := galleySlipsUptoRow.holds Tryz.pinned (OpenSpec.upto galleySlipsSpec)

end Rows
end Go.Proofs.YtfebegbjggoijaaGreatDoor
