/-
  NARROWER THAN 'FOR EVERY INPUT', by the rows' own cells (each row's printed sentence says how): GalleySets: laid · SlipExamples: laid · SlipOrder: laid · SlipWrong: laid · SlipLongest: laid · SlipWider: laid · SlipSides: laid · SlipParts: laid · SlipCopied: laid · SlipEach: laid · SlipWhere: laid · SlipMoved: laid.
  DERIVED. THE GIVEN ROWS OF THIS SEAT. 12 by the template 'for every input the law returns true; each argument reads behind the call as it read before'; 0 by the template 'total and deterministic' (their statements: YtgnjjocafmofaaaGreatDoorTotals.lean).
  GIVEN WITH THE SEED: the statements are not yours to turn. If you find one false, say at which input.
  Laid BY PROGRAM, IN A SANDBOX (cutbox-rows.mjs): the forced cells as the released guide's own fill.sh prints them over the translation f3c32f7e44328f75… (all of the seat's roots in one cut). By AI agents, Wed Nov 11 2026. No macro, syntax, notation, axiom, sorry.
-/
import Derived.Test.YtgnjjocafmofaaaGreatDoorChecked
import GoSem.PinnedTables
import GoSem.Claim
import GoSem.ClaimJoined
import GoSem.ClaimMapViews
import Derived.JoinedTies
import Derived.KernelRfl
namespace Go.Proofs.YtgnjjocafmofaaaGreatDoor
/- THE CELL 'sum', in the pinned program and in every row, IS THE sha256 OF THE DUMP (.gsa) THAT YtgnjjocafmofaaaGreatDoorProg.lean LOADS. Nothing in Lean hashes anything: it is a label: what it is worth is what the hold of that sum in a sandbox is worth. -/
noncomputable def Tryz.pinned : Pinned := { name := "ytgnjjocafmofaaagreatdoor", sum := "f3c32f7e44328f7570a2aba80f5a44b313b433ed0024d20adf899a9ea436b060", checked := Tryz.checked }
namespace Rows
def none {H : Type} : Left H := { results := [], args := [] }

/- WHAT THE LISTED PACKAGE-LEVEL VARIABLES READ AS WHEN THE CALL BEGINS. Each datum BY PROGRAM (the guide's laid-datum.mjs) off the statement by which the dump's own 'gosem.cut.vars' lays the variable. In a bare row this is a premise. The card (YtgnjjocafmofaaaGreatDoorCards.lean) ties it to the program's text. -/
def laid_postil_slip_sides {H : Type} : DataW H := .iface "func table" (.agg [.agg [.nil], .agg [.iface "func" (.lit (.string [112, 111, 115, 116, 105, 108, 47, 115, 108, 105, 112, 46, 115, 105, 100, 101, 115, 36, 49]))], .agg [.iface "func" (.lit (.string [112, 111, 115, 116, 105, 108, 47, 115, 108, 105, 112, 46, 115, 105, 100, 101, 115, 36, 50]))], .agg [.iface "func" (.lit (.string [112, 111, 115, 116, 105, 108, 47, 115, 108, 105, 112, 46, 115, 105, 100, 101, 115, 36, 51]))]])
def laid_unicode_utf8_acceptRanges {H : Type} : DataW H := .agg [.agg [.lit (.int .u8 128), .lit (.int .u8 191)], .agg [.lit (.int .u8 160), .lit (.int .u8 191)], .agg [.lit (.int .u8 128), .lit (.int .u8 159)], .agg [.lit (.int .u8 144), .lit (.int .u8 191)], .agg [.lit (.int .u8 128), .lit (.int .u8 143)], .agg [.lit (.int .u8 0), .lit (.int .u8 0)], .agg [.lit (.int .u8 0), .lit (.int .u8 0)], .agg [.lit (.int .u8 0), .lit (.int .u8 0)], .agg [.lit (.int .u8 0), .lit (.int .u8 0)], .agg [.lit (.int .u8 0), .lit (.int .u8 0)], .agg [.lit (.int .u8 0), .lit (.int .u8 0)], .agg [.lit (.int .u8 0), .lit (.int .u8 0)], .agg [.lit (.int .u8 0), .lit (.int .u8 0)], .agg [.lit (.int .u8 0), .lit (.int .u8 0)], .agg [.lit (.int .u8 0), .lit (.int .u8 0)], .agg [.lit (.int .u8 0), .lit (.int .u8 0)]]
def laid_postil_leaf_kinds {H : Type} : DataW H := .iface "func table" (.agg [.agg [.lit (.int .i64 0), .nil, .nil], .agg [.lit (.int .i64 0), .iface "func" (.lit (.string [112, 111, 115, 116, 105, 108, 47, 108, 101, 97, 102, 46, 107, 105, 110, 100, 115, 36, 49])), .iface "func" (.lit (.string [112, 111, 115, 116, 105, 108, 47, 108, 101, 97, 102, 46, 107, 105, 110, 100, 115, 36, 50]))], .agg [.lit (.int .i64 1), .iface "func" (.lit (.string [112, 111, 115, 116, 105, 108, 47, 108, 101, 97, 102, 46, 107, 105, 110, 100, 115, 36, 51])), .iface "func" (.lit (.string [112, 111, 115, 116, 105, 108, 47, 108, 101, 97, 102, 46, 107, 105, 110, 100, 115, 36, 52]))], .agg [.lit (.int .i64 0), .iface "func" (.lit (.string [112, 111, 115, 116, 105, 108, 47, 108, 101, 97, 102, 46, 107, 105, 110, 100, 115, 36, 53])), .iface "func" (.lit (.string [112, 111, 115, 116, 105, 108, 47, 108, 101, 97, 102, 46, 107, 105, 110, 100, 115, 36, 54]))]])
/-- One of Go's own tables, pinned by name: the form's constant. -/
def laid_unicode_utf8_first : DataW Unit := Go.Pinned.utf8First

/-- 'postillaw08.GalleySets': WHATEVER THE INPUT: true; the input reads as it did. -/
def galleySetsSpec : ChangeSpec := { name := "galleySets", fn := fun _ => fun
  | [d1, d2, d3] => { results := [.lit (.bool true)], args := [d1, d2, d3] }
  | _ => none }
def galleySetsRow : OpenClaim := { program := "ytgnjjocafmofaaagreatdoor", sum := "f3c32f7e44328f7570a2aba80f5a44b313b433ed0024d20adf899a9ea436b060", func := "postil/postillaw08.GalleySets", spec := "galleySets", inPlace := ["internal/abi.NoEscape", "internal/bytealg.MakeNoZero"], unfollowed := true, recurses := true, named := ["postil/slip.sides"], plainKeys := false, apart := false, laid := [("postil/slip.sides", laid_postil_slip_sides)] }
def GalleySetsSaid : Prop := galleySetsRow.holds Tryz.pinned (OpenSpec.ofChange galleySetsSpec)

/-- ITS FALSE NEIGHBOUR: 'it returns false'. Refute it at one input. -/
def galleySetsWrong : ChangeSpec := { name := "galleySets", fn := fun _ => fun
  | [d1, d2, d3] => { results := [.lit (.bool false)], args := [d1, d2, d3] }
  | _ => none }
def GalleySetsWrongFalsely : Prop := galleySetsRow.holds Tryz.pinned (OpenSpec.ofChange galleySetsWrong)

/-- 'postillaw03.SlipExamples': WHATEVER THE INPUT: true; the input reads as it did. -/
def slipExamplesSpec : ChangeSpec := { name := "slipExamples", fn := fun _ => fun
  | [] => { results := [.lit (.bool true)], args := [] }
  | _ => none }
def slipExamplesRow : OpenClaim := { program := "ytgnjjocafmofaaagreatdoor", sum := "f3c32f7e44328f7570a2aba80f5a44b313b433ed0024d20adf899a9ea436b060", func := "postil/postillaw03.SlipExamples", spec := "slipExamples", inPlace := ["internal/abi.NoEscape", "internal/bytealg.MakeNoZero", "internal/bytealg.CountString", "internal/bytealg.IndexByteString", "internal/bytealg.IndexString"], unfollowed := true, recurses := true, named := ["postil/slip.sides", "unicode/utf8.first", "unicode/utf8.acceptRanges", "internal/bytealg.MaxLen", "postil/leaf.kinds"], plainKeys := false, apart := false, laid := [("unicode/utf8.acceptRanges", laid_unicode_utf8_acceptRanges), ("postil/leaf.kinds", laid_postil_leaf_kinds), ("postil/slip.sides", laid_postil_slip_sides), ("unicode/utf8.first", laid_unicode_utf8_first)] }
def SlipExamplesSaid : Prop := slipExamplesRow.holds Tryz.pinned (OpenSpec.ofChange slipExamplesSpec)

/-- ITS FALSE NEIGHBOUR: 'it returns false'. Refute it at one input. -/
def slipExamplesWrong : ChangeSpec := { name := "slipExamples", fn := fun _ => fun
  | [] => { results := [.lit (.bool false)], args := [] }
  | _ => none }
def SlipExamplesWrongFalsely : Prop := slipExamplesRow.holds Tryz.pinned (OpenSpec.ofChange slipExamplesWrong)

/-- 'postillaw03.SlipOrder': WHATEVER THE INPUT: true; the input reads as it did. -/
def slipOrderSpec : ChangeSpec := { name := "slipOrder", fn := fun _ => fun
  | [d1, d2, d3] => { results := [.lit (.bool true)], args := [d1, d2, d3] }
  | _ => none }
def slipOrderRow : OpenClaim := { program := "ytgnjjocafmofaaagreatdoor", sum := "f3c32f7e44328f7570a2aba80f5a44b313b433ed0024d20adf899a9ea436b060", func := "postil/postillaw03.SlipOrder", spec := "slipOrder", inPlace := ["internal/abi.NoEscape", "internal/bytealg.MakeNoZero", "internal/bytealg.CountString", "internal/bytealg.IndexByteString", "internal/bytealg.IndexString"], unfollowed := true, recurses := true, named := ["postil/slip.sides", "unicode/utf8.first", "unicode/utf8.acceptRanges", "internal/bytealg.MaxLen", "postil/leaf.kinds"], plainKeys := false, apart := false, laid := [("unicode/utf8.acceptRanges", laid_unicode_utf8_acceptRanges), ("postil/leaf.kinds", laid_postil_leaf_kinds), ("postil/slip.sides", laid_postil_slip_sides), ("unicode/utf8.first", laid_unicode_utf8_first)] }
def SlipOrderSaid : Prop := slipOrderRow.holds Tryz.pinned (OpenSpec.ofChange slipOrderSpec)

/-- ITS FALSE NEIGHBOUR: 'it returns false'. Refute it at one input. -/
def slipOrderWrong : ChangeSpec := { name := "slipOrder", fn := fun _ => fun
  | [d1, d2, d3] => { results := [.lit (.bool false)], args := [d1, d2, d3] }
  | _ => none }
def SlipOrderWrongFalsely : Prop := slipOrderRow.holds Tryz.pinned (OpenSpec.ofChange slipOrderWrong)

/-- 'postillaw03.SlipWrong': WHATEVER THE INPUT: true; the input reads as it did. -/
def slipWrongSpec : ChangeSpec := { name := "slipWrong", fn := fun _ => fun
  | [d1, d2, d3] => { results := [.lit (.bool true)], args := [d1, d2, d3] }
  | _ => none }
def slipWrongRow : OpenClaim := { program := "ytgnjjocafmofaaagreatdoor", sum := "f3c32f7e44328f7570a2aba80f5a44b313b433ed0024d20adf899a9ea436b060", func := "postil/postillaw03.SlipWrong", spec := "slipWrong", inPlace := ["internal/abi.NoEscape", "internal/bytealg.MakeNoZero", "internal/bytealg.CountString", "internal/bytealg.IndexByteString", "internal/bytealg.IndexString"], unfollowed := true, recurses := true, named := ["postil/slip.sides", "unicode/utf8.first", "unicode/utf8.acceptRanges", "internal/bytealg.MaxLen", "postil/leaf.kinds"], plainKeys := false, apart := false, laid := [("unicode/utf8.acceptRanges", laid_unicode_utf8_acceptRanges), ("postil/leaf.kinds", laid_postil_leaf_kinds), ("postil/slip.sides", laid_postil_slip_sides), ("unicode/utf8.first", laid_unicode_utf8_first)] }
def SlipWrongSaid : Prop := slipWrongRow.holds Tryz.pinned (OpenSpec.ofChange slipWrongSpec)

/-- ITS FALSE NEIGHBOUR: 'it returns false'. Refute it at one input. -/
def slipWrongWrong : ChangeSpec := { name := "slipWrong", fn := fun _ => fun
  | [d1, d2, d3] => { results := [.lit (.bool false)], args := [d1, d2, d3] }
  | _ => none }
def SlipWrongWrongFalsely : Prop := slipWrongRow.holds Tryz.pinned (OpenSpec.ofChange slipWrongWrong)

/-- 'postillaw03.SlipLongest': WHATEVER THE INPUT: true; the input reads as it did. -/
def slipLongestSpec : ChangeSpec := { name := "slipLongest", fn := fun _ => fun
  | [d1, d2, d3] => { results := [.lit (.bool true)], args := [d1, d2, d3] }
  | _ => none }
def slipLongestRow : OpenClaim := { program := "ytgnjjocafmofaaagreatdoor", sum := "f3c32f7e44328f7570a2aba80f5a44b313b433ed0024d20adf899a9ea436b060", func := "postil/postillaw03.SlipLongest", spec := "slipLongest", inPlace := ["internal/abi.NoEscape", "internal/bytealg.MakeNoZero", "internal/bytealg.CountString", "internal/bytealg.IndexByteString", "internal/bytealg.IndexString"], unfollowed := true, recurses := true, named := ["postil/slip.sides", "unicode/utf8.first", "unicode/utf8.acceptRanges", "internal/bytealg.MaxLen", "postil/leaf.kinds"], plainKeys := false, apart := false, laid := [("unicode/utf8.acceptRanges", laid_unicode_utf8_acceptRanges), ("postil/leaf.kinds", laid_postil_leaf_kinds), ("postil/slip.sides", laid_postil_slip_sides), ("unicode/utf8.first", laid_unicode_utf8_first)] }
def SlipLongestSaid : Prop := slipLongestRow.holds Tryz.pinned (OpenSpec.ofChange slipLongestSpec)

/-- ITS FALSE NEIGHBOUR: 'it returns false'. Refute it at one input. -/
def slipLongestWrong : ChangeSpec := { name := "slipLongest", fn := fun _ => fun
  | [d1, d2, d3] => { results := [.lit (.bool false)], args := [d1, d2, d3] }
  | _ => none }
def SlipLongestWrongFalsely : Prop := slipLongestRow.holds Tryz.pinned (OpenSpec.ofChange slipLongestWrong)

/-- 'postillaw03.SlipWider': WHATEVER THE INPUT: true; the input reads as it did. -/
def slipWiderSpec : ChangeSpec := { name := "slipWider", fn := fun _ => fun
  | [d1, d2, d3, d4] => { results := [.lit (.bool true)], args := [d1, d2, d3, d4] }
  | _ => none }
def slipWiderRow : OpenClaim := { program := "ytgnjjocafmofaaagreatdoor", sum := "f3c32f7e44328f7570a2aba80f5a44b313b433ed0024d20adf899a9ea436b060", func := "postil/postillaw03.SlipWider", spec := "slipWider", inPlace := ["internal/abi.NoEscape", "internal/bytealg.MakeNoZero", "internal/bytealg.CountString", "internal/bytealg.IndexByteString", "internal/bytealg.IndexString"], unfollowed := true, recurses := true, named := ["postil/slip.sides", "unicode/utf8.first", "unicode/utf8.acceptRanges", "internal/bytealg.MaxLen", "postil/leaf.kinds"], plainKeys := false, apart := false, laid := [("unicode/utf8.acceptRanges", laid_unicode_utf8_acceptRanges), ("postil/leaf.kinds", laid_postil_leaf_kinds), ("postil/slip.sides", laid_postil_slip_sides), ("unicode/utf8.first", laid_unicode_utf8_first)] }
def SlipWiderSaid : Prop := slipWiderRow.holds Tryz.pinned (OpenSpec.ofChange slipWiderSpec)

/-- ITS FALSE NEIGHBOUR: 'it returns false'. Refute it at one input. -/
def slipWiderWrong : ChangeSpec := { name := "slipWider", fn := fun _ => fun
  | [d1, d2, d3, d4] => { results := [.lit (.bool false)], args := [d1, d2, d3, d4] }
  | _ => none }
def SlipWiderWrongFalsely : Prop := slipWiderRow.holds Tryz.pinned (OpenSpec.ofChange slipWiderWrong)

/-- 'postillaw03.SlipSides': WHATEVER THE INPUT: true; the input reads as it did. -/
def slipSidesSpec : ChangeSpec := { name := "slipSides", fn := fun _ => fun
  | [d1, d2, d3] => { results := [.lit (.bool true)], args := [d1, d2, d3] }
  | _ => none }
def slipSidesRow : OpenClaim := { program := "ytgnjjocafmofaaagreatdoor", sum := "f3c32f7e44328f7570a2aba80f5a44b313b433ed0024d20adf899a9ea436b060", func := "postil/postillaw03.SlipSides", spec := "slipSides", inPlace := ["internal/abi.NoEscape", "internal/bytealg.MakeNoZero", "internal/bytealg.CountString", "internal/bytealg.IndexByteString", "internal/bytealg.IndexString"], unfollowed := true, recurses := true, named := ["postil/slip.sides", "unicode/utf8.first", "unicode/utf8.acceptRanges", "internal/bytealg.MaxLen", "postil/leaf.kinds"], plainKeys := false, apart := false, laid := [("unicode/utf8.acceptRanges", laid_unicode_utf8_acceptRanges), ("postil/leaf.kinds", laid_postil_leaf_kinds), ("postil/slip.sides", laid_postil_slip_sides), ("unicode/utf8.first", laid_unicode_utf8_first)] }
def SlipSidesSaid : Prop := slipSidesRow.holds Tryz.pinned (OpenSpec.ofChange slipSidesSpec)

/-- ITS FALSE NEIGHBOUR: 'it returns false'. Refute it at one input. -/
def slipSidesWrong : ChangeSpec := { name := "slipSides", fn := fun _ => fun
  | [d1, d2, d3] => { results := [.lit (.bool false)], args := [d1, d2, d3] }
  | _ => none }
def SlipSidesWrongFalsely : Prop := slipSidesRow.holds Tryz.pinned (OpenSpec.ofChange slipSidesWrong)

/-- 'postillaw03.SlipParts': WHATEVER THE INPUT: true; the input reads as it did. -/
def slipPartsSpec : ChangeSpec := { name := "slipParts", fn := fun _ => fun
  | [d1, d2, d3, d4, d5] => { results := [.lit (.bool true)], args := [d1, d2, d3, d4, d5] }
  | _ => none }
def slipPartsRow : OpenClaim := { program := "ytgnjjocafmofaaagreatdoor", sum := "f3c32f7e44328f7570a2aba80f5a44b313b433ed0024d20adf899a9ea436b060", func := "postil/postillaw03.SlipParts", spec := "slipParts", inPlace := ["internal/abi.NoEscape", "internal/bytealg.MakeNoZero", "internal/bytealg.CountString", "internal/bytealg.IndexByteString", "internal/bytealg.IndexString"], unfollowed := true, recurses := true, named := ["postil/slip.sides", "unicode/utf8.first", "unicode/utf8.acceptRanges", "internal/bytealg.MaxLen", "postil/leaf.kinds"], plainKeys := false, apart := false, laid := [("unicode/utf8.acceptRanges", laid_unicode_utf8_acceptRanges), ("postil/leaf.kinds", laid_postil_leaf_kinds), ("postil/slip.sides", laid_postil_slip_sides), ("unicode/utf8.first", laid_unicode_utf8_first)] }
def SlipPartsSaid : Prop := slipPartsRow.holds Tryz.pinned (OpenSpec.ofChange slipPartsSpec)

/-- ITS FALSE NEIGHBOUR: 'it returns false'. Refute it at one input. -/
def slipPartsWrong : ChangeSpec := { name := "slipParts", fn := fun _ => fun
  | [d1, d2, d3, d4, d5] => { results := [.lit (.bool false)], args := [d1, d2, d3, d4, d5] }
  | _ => none }
def SlipPartsWrongFalsely : Prop := slipPartsRow.holds Tryz.pinned (OpenSpec.ofChange slipPartsWrong)

/-- 'postillaw03.SlipCopied': WHATEVER THE INPUT: true; the input reads as it did. -/
def slipCopiedSpec : ChangeSpec := { name := "slipCopied", fn := fun _ => fun
  | [d1, d2, d3, d4] => { results := [.lit (.bool true)], args := [d1, d2, d3, d4] }
  | _ => none }
def slipCopiedRow : OpenClaim := { program := "ytgnjjocafmofaaagreatdoor", sum := "f3c32f7e44328f7570a2aba80f5a44b313b433ed0024d20adf899a9ea436b060", func := "postil/postillaw03.SlipCopied", spec := "slipCopied", inPlace := ["internal/abi.NoEscape", "internal/bytealg.MakeNoZero", "internal/bytealg.CountString", "internal/bytealg.IndexByteString", "internal/bytealg.IndexString"], unfollowed := true, recurses := true, named := ["postil/slip.sides", "unicode/utf8.first", "unicode/utf8.acceptRanges", "internal/bytealg.MaxLen", "postil/leaf.kinds"], plainKeys := false, apart := false, laid := [("unicode/utf8.acceptRanges", laid_unicode_utf8_acceptRanges), ("postil/leaf.kinds", laid_postil_leaf_kinds), ("postil/slip.sides", laid_postil_slip_sides), ("unicode/utf8.first", laid_unicode_utf8_first)] }
def SlipCopiedSaid : Prop := slipCopiedRow.holds Tryz.pinned (OpenSpec.ofChange slipCopiedSpec)

/-- ITS FALSE NEIGHBOUR: 'it returns false'. Refute it at one input. -/
def slipCopiedWrong : ChangeSpec := { name := "slipCopied", fn := fun _ => fun
  | [d1, d2, d3, d4] => { results := [.lit (.bool false)], args := [d1, d2, d3, d4] }
  | _ => none }
def SlipCopiedWrongFalsely : Prop := slipCopiedRow.holds Tryz.pinned (OpenSpec.ofChange slipCopiedWrong)

/-- 'postillaw03.SlipEach': WHATEVER THE INPUT: true; the input reads as it did. -/
def slipEachSpec : ChangeSpec := { name := "slipEach", fn := fun _ => fun
  | [d1, d2, d3] => { results := [.lit (.bool true)], args := [d1, d2, d3] }
  | _ => none }
def slipEachRow : OpenClaim := { program := "ytgnjjocafmofaaagreatdoor", sum := "f3c32f7e44328f7570a2aba80f5a44b313b433ed0024d20adf899a9ea436b060", func := "postil/postillaw03.SlipEach", spec := "slipEach", inPlace := ["internal/abi.NoEscape", "internal/bytealg.MakeNoZero", "internal/bytealg.CountString", "internal/bytealg.IndexByteString", "internal/bytealg.IndexString"], unfollowed := true, recurses := true, named := ["postil/slip.sides", "unicode/utf8.first", "unicode/utf8.acceptRanges", "internal/bytealg.MaxLen", "postil/leaf.kinds"], plainKeys := false, apart := false, laid := [("unicode/utf8.acceptRanges", laid_unicode_utf8_acceptRanges), ("postil/leaf.kinds", laid_postil_leaf_kinds), ("postil/slip.sides", laid_postil_slip_sides), ("unicode/utf8.first", laid_unicode_utf8_first)] }
def SlipEachSaid : Prop := slipEachRow.holds Tryz.pinned (OpenSpec.ofChange slipEachSpec)

/-- ITS FALSE NEIGHBOUR: 'it returns false'. Refute it at one input. -/
def slipEachWrong : ChangeSpec := { name := "slipEach", fn := fun _ => fun
  | [d1, d2, d3] => { results := [.lit (.bool false)], args := [d1, d2, d3] }
  | _ => none }
def SlipEachWrongFalsely : Prop := slipEachRow.holds Tryz.pinned (OpenSpec.ofChange slipEachWrong)

/-- 'postillaw03.SlipWhere': WHATEVER THE INPUT: true; the input reads as it did. -/
def slipWhereSpec : ChangeSpec := { name := "slipWhere", fn := fun _ => fun
  | [d1, d2, d3, d4] => { results := [.lit (.bool true)], args := [d1, d2, d3, d4] }
  | _ => none }
def slipWhereRow : OpenClaim := { program := "ytgnjjocafmofaaagreatdoor", sum := "f3c32f7e44328f7570a2aba80f5a44b313b433ed0024d20adf899a9ea436b060", func := "postil/postillaw03.SlipWhere", spec := "slipWhere", inPlace := ["internal/abi.NoEscape", "internal/bytealg.MakeNoZero", "internal/bytealg.CountString", "internal/bytealg.IndexByteString", "internal/bytealg.IndexString"], unfollowed := true, recurses := true, named := ["postil/slip.sides", "unicode/utf8.first", "unicode/utf8.acceptRanges", "internal/bytealg.MaxLen", "postil/leaf.kinds"], plainKeys := false, apart := false, laid := [("unicode/utf8.acceptRanges", laid_unicode_utf8_acceptRanges), ("postil/leaf.kinds", laid_postil_leaf_kinds), ("postil/slip.sides", laid_postil_slip_sides), ("unicode/utf8.first", laid_unicode_utf8_first)] }
def SlipWhereSaid : Prop := slipWhereRow.holds Tryz.pinned (OpenSpec.ofChange slipWhereSpec)

/-- ITS FALSE NEIGHBOUR: 'it returns false'. Refute it at one input. -/
def slipWhereWrong : ChangeSpec := { name := "slipWhere", fn := fun _ => fun
  | [d1, d2, d3, d4] => { results := [.lit (.bool false)], args := [d1, d2, d3, d4] }
  | _ => none }
def SlipWhereWrongFalsely : Prop := slipWhereRow.holds Tryz.pinned (OpenSpec.ofChange slipWhereWrong)

/-- 'postillaw03.SlipMoved': WHATEVER THE INPUT: true; the input reads as it did. -/
def slipMovedSpec : ChangeSpec := { name := "slipMoved", fn := fun _ => fun
  | [d1, d2, d3, d4] => { results := [.lit (.bool true)], args := [d1, d2, d3, d4] }
  | _ => none }
def slipMovedRow : OpenClaim := { program := "ytgnjjocafmofaaagreatdoor", sum := "f3c32f7e44328f7570a2aba80f5a44b313b433ed0024d20adf899a9ea436b060", func := "postil/postillaw03.SlipMoved", spec := "slipMoved", inPlace := ["internal/abi.NoEscape", "internal/bytealg.MakeNoZero", "internal/bytealg.CountString", "internal/bytealg.IndexByteString", "internal/bytealg.IndexString"], unfollowed := true, recurses := true, named := ["postil/slip.sides", "unicode/utf8.first", "unicode/utf8.acceptRanges", "internal/bytealg.MaxLen", "postil/leaf.kinds"], plainKeys := false, apart := false, laid := [("unicode/utf8.acceptRanges", laid_unicode_utf8_acceptRanges), ("postil/leaf.kinds", laid_postil_leaf_kinds), ("postil/slip.sides", laid_postil_slip_sides), ("unicode/utf8.first", laid_unicode_utf8_first)] }
def SlipMovedSaid : Prop := slipMovedRow.holds Tryz.pinned (OpenSpec.ofChange slipMovedSpec)

/-- ITS FALSE NEIGHBOUR: 'it returns false'. Refute it at one input. -/
def slipMovedWrong : ChangeSpec := { name := "slipMoved", fn := fun _ => fun
  | [d1, d2, d3, d4] => { results := [.lit (.bool false)], args := [d1, d2, d3, d4] }
  | _ => none }
def SlipMovedWrongFalsely : Prop := slipMovedRow.holds Tryz.pinned (OpenSpec.ofChange slipMovedWrong)

/- THE SECOND FORM. 'bulk': how many values and letters a reading holds, each counted each time it is reached (what is shared counts as often as it is met; a slice's spare places count too). A statement '..UptoSaid' is the law's where the arguments, and the package variables that the reading takes, are together of bulk at most 1048576: NARROWER than '..Said'. Prove '..Said' where nothing that the law and all that it calls make is longer than what came in: it says more and counts as full. Else prove '..UptoSaid'. A law counts once. -/
mutual
def uptoBulk {H : Type} : DataW H → Nat
  | .lit (.string bytes) => bytes.length + 1
  | .lit _ => 1
  | .nil => 1
  | .ptr d => uptoBulk d + 1
  | .slice elems spare => uptoBulkAll elems + uptoBulkAll spare + 1
  | .agg parts => uptoBulkAll parts + 1
  | .iface _ d => uptoBulk d + 1
  | .map entries => uptoBulkEntries entries + 1
  | .held _ => 1
def uptoBulkAll {H : Type} : List (DataW H) → Nat
  | [] => 0
  | d :: r => uptoBulk d + uptoBulkAll r
def uptoBulkEntries {H : Type} : List (Lit × DataW H) → Nat
  | [] => 0
  | x :: r => uptoBulkEntry x + uptoBulkEntries r
def uptoBulkEntry {H : Type} : Lit × DataW H → Nat
  | (.string bytes, d) => bytes.length + uptoBulk d + 1
  | (_, d) => uptoBulk d + 1
 end
def uptoSmall : (H : Type) → List (DataW H) → Bool := fun _ ds => decide (uptoBulkAll ds ≤ 1048576)
def OpenSpec.upto (s : _root_.Go.ChangeSpec) : _root_.Go.OpenSpec := { _root_.Go.OpenSpec.ofChange s with cond := some uptoSmall }

/-- 'postillaw08.GalleySets', WHERE WHAT IT READS IS OF BULK AT MOST 1048576: true; the input reads as it did. -/
def galleySetsUptoRow : OpenClaim := { program := "ytgnjjocafmofaaagreatdoor", sum := "f3c32f7e44328f7570a2aba80f5a44b313b433ed0024d20adf899a9ea436b060", func := "postil/postillaw08.GalleySets", spec := "galleySets", inPlace := ["internal/abi.NoEscape", "internal/bytealg.MakeNoZero"], unfollowed := true, recurses := true, named := ["postil/slip.sides"], plainKeys := false, apart := false, laid := [("postil/slip.sides", laid_postil_slip_sides)], narrowed := true }
def GalleySetsUptoSaid : Prop := galleySetsUptoRow.holds Tryz.pinned (OpenSpec.upto galleySetsSpec)

/-- 'postillaw03.SlipExamples', WHERE WHAT IT READS IS OF BULK AT MOST 1048576: true; the input reads as it did. -/
def slipExamplesUptoRow : OpenClaim := { program := "ytgnjjocafmofaaagreatdoor", sum := "f3c32f7e44328f7570a2aba80f5a44b313b433ed0024d20adf899a9ea436b060", func := "postil/postillaw03.SlipExamples", spec := "slipExamples", inPlace := ["internal/abi.NoEscape", "internal/bytealg.MakeNoZero", "internal/bytealg.CountString", "internal/bytealg.IndexByteString", "internal/bytealg.IndexString"], unfollowed := true, recurses := true, named := ["postil/slip.sides", "unicode/utf8.first", "unicode/utf8.acceptRanges", "internal/bytealg.MaxLen", "postil/leaf.kinds"], plainKeys := false, apart := false, laid := [("unicode/utf8.acceptRanges", laid_unicode_utf8_acceptRanges), ("postil/leaf.kinds", laid_postil_leaf_kinds), ("postil/slip.sides", laid_postil_slip_sides), ("unicode/utf8.first", laid_unicode_utf8_first)], narrowed := true }
def SlipExamplesUptoSaid : Prop := slipExamplesUptoRow.holds Tryz.pinned (OpenSpec.upto slipExamplesSpec)

/-- 'postillaw03.SlipOrder', WHERE WHAT IT READS IS OF BULK AT MOST 1048576: true; the input reads as it did. -/
def slipOrderUptoRow : OpenClaim := { program := "ytgnjjocafmofaaagreatdoor", sum := "f3c32f7e44328f7570a2aba80f5a44b313b433ed0024d20adf899a9ea436b060", func := "postil/postillaw03.SlipOrder", spec := "slipOrder", inPlace := ["internal/abi.NoEscape", "internal/bytealg.MakeNoZero", "internal/bytealg.CountString", "internal/bytealg.IndexByteString", "internal/bytealg.IndexString"], unfollowed := true, recurses := true, named := ["postil/slip.sides", "unicode/utf8.first", "unicode/utf8.acceptRanges", "internal/bytealg.MaxLen", "postil/leaf.kinds"], plainKeys := false, apart := false, laid := [("unicode/utf8.acceptRanges", laid_unicode_utf8_acceptRanges), ("postil/leaf.kinds", laid_postil_leaf_kinds), ("postil/slip.sides", laid_postil_slip_sides), ("unicode/utf8.first", laid_unicode_utf8_first)], narrowed := true }
def SlipOrderUptoSaid : Prop := slipOrderUptoRow.holds Tryz.pinned (OpenSpec.upto slipOrderSpec)

/-- 'postillaw03.SlipWrong', WHERE WHAT IT READS IS OF BULK AT MOST 1048576: true; the input reads as it did. -/
def slipWrongUptoRow : OpenClaim := { program := "ytgnjjocafmofaaagreatdoor", sum := "f3c32f7e44328f7570a2aba80f5a44b313b433ed0024d20adf899a9ea436b060", func := "postil/postillaw03.SlipWrong", spec := "slipWrong", inPlace := ["internal/abi.NoEscape", "internal/bytealg.MakeNoZero", "internal/bytealg.CountString", "internal/bytealg.IndexByteString", "internal/bytealg.IndexString"], unfollowed := true, recurses := true, named := ["postil/slip.sides", "unicode/utf8.first", "unicode/utf8.acceptRanges", "internal/bytealg.MaxLen", "postil/leaf.kinds"], plainKeys := false, apart := false, laid := [("unicode/utf8.acceptRanges", laid_unicode_utf8_acceptRanges), ("postil/leaf.kinds", laid_postil_leaf_kinds), ("postil/slip.sides", laid_postil_slip_sides), ("unicode/utf8.first", laid_unicode_utf8_first)], narrowed := true }
def SlipWrongUptoSaid : Prop := slipWrongUptoRow.holds Tryz.pinned (OpenSpec.upto slipWrongSpec)

/-- 'postillaw03.SlipLongest', WHERE WHAT IT READS IS OF BULK AT MOST 1048576: true; the input reads as it did. -/
def slipLongestUptoRow : OpenClaim := { program := "ytgnjjocafmofaaagreatdoor", sum := "f3c32f7e44328f7570a2aba80f5a44b313b433ed0024d20adf899a9ea436b060", func := "postil/postillaw03.SlipLongest", spec := "slipLongest", inPlace := ["internal/abi.NoEscape", "internal/bytealg.MakeNoZero", "internal/bytealg.CountString", "internal/bytealg.IndexByteString", "internal/bytealg.IndexString"], unfollowed := true, recurses := true, named := ["postil/slip.sides", "unicode/utf8.first", "unicode/utf8.acceptRanges", "internal/bytealg.MaxLen", "postil/leaf.kinds"], plainKeys := false, apart := false, laid := [("unicode/utf8.acceptRanges", laid_unicode_utf8_acceptRanges), ("postil/leaf.kinds", laid_postil_leaf_kinds), ("postil/slip.sides", laid_postil_slip_sides), ("unicode/utf8.first", laid_unicode_utf8_first)], narrowed := true }
def SlipLongestUptoSaid : Prop := slipLongestUptoRow.holds Tryz.pinned (OpenSpec.upto slipLongestSpec)

/-- 'postillaw03.SlipWider', WHERE WHAT IT READS IS OF BULK AT MOST 1048576: true; the input reads as it did. -/
def slipWiderUptoRow : OpenClaim := { program := "ytgnjjocafmofaaagreatdoor", sum := "f3c32f7e44328f7570a2aba80f5a44b313b433ed0024d20adf899a9ea436b060", func := "postil/postillaw03.SlipWider", spec := "slipWider", inPlace := ["internal/abi.NoEscape", "internal/bytealg.MakeNoZero", "internal/bytealg.CountString", "internal/bytealg.IndexByteString", "internal/bytealg.IndexString"], unfollowed := true, recurses := true, named := ["postil/slip.sides", "unicode/utf8.first", "unicode/utf8.acceptRanges", "internal/bytealg.MaxLen", "postil/leaf.kinds"], plainKeys := false, apart := false, laid := [("unicode/utf8.acceptRanges", laid_unicode_utf8_acceptRanges), ("postil/leaf.kinds", laid_postil_leaf_kinds), ("postil/slip.sides", laid_postil_slip_sides), ("unicode/utf8.first", laid_unicode_utf8_first)], narrowed := true }
def SlipWiderUptoSaid : Prop := slipWiderUptoRow.holds Tryz.pinned (OpenSpec.upto slipWiderSpec)

/-- 'postillaw03.SlipSides', WHERE WHAT IT READS IS OF BULK AT MOST 1048576: true; the input reads as it did. -/
def slipSidesUptoRow : OpenClaim := { program := "ytgnjjocafmofaaagreatdoor", sum := "f3c32f7e44328f7570a2aba80f5a44b313b433ed0024d20adf899a9ea436b060", func := "postil/postillaw03.SlipSides", spec := "slipSides", inPlace := ["internal/abi.NoEscape", "internal/bytealg.MakeNoZero", "internal/bytealg.CountString", "internal/bytealg.IndexByteString", "internal/bytealg.IndexString"], unfollowed := true, recurses := true, named := ["postil/slip.sides", "unicode/utf8.first", "unicode/utf8.acceptRanges", "internal/bytealg.MaxLen", "postil/leaf.kinds"], plainKeys := false, apart := false, laid := [("unicode/utf8.acceptRanges", laid_unicode_utf8_acceptRanges), ("postil/leaf.kinds", laid_postil_leaf_kinds), ("postil/slip.sides", laid_postil_slip_sides), ("unicode/utf8.first", laid_unicode_utf8_first)], narrowed := true }
def SlipSidesUptoSaid : Prop := slipSidesUptoRow.holds Tryz.pinned (OpenSpec.upto slipSidesSpec)

/-- 'postillaw03.SlipParts', WHERE WHAT IT READS IS OF BULK AT MOST 1048576: true; the input reads as it did. -/
def slipPartsUptoRow : OpenClaim := { program := "ytgnjjocafmofaaagreatdoor", sum := "f3c32f7e44328f7570a2aba80f5a44b313b433ed0024d20adf899a9ea436b060", func := "postil/postillaw03.SlipParts", spec := "slipParts", inPlace := ["internal/abi.NoEscape", "internal/bytealg.MakeNoZero", "internal/bytealg.CountString", "internal/bytealg.IndexByteString", "internal/bytealg.IndexString"], unfollowed := true, recurses := true, named := ["postil/slip.sides", "unicode/utf8.first", "unicode/utf8.acceptRanges", "internal/bytealg.MaxLen", "postil/leaf.kinds"], plainKeys := false, apart := false, laid := [("unicode/utf8.acceptRanges", laid_unicode_utf8_acceptRanges), ("postil/leaf.kinds", laid_postil_leaf_kinds), ("postil/slip.sides", laid_postil_slip_sides), ("unicode/utf8.first", laid_unicode_utf8_first)], narrowed := true }
def SlipPartsUptoSaid : Prop := slipPartsUptoRow.holds Tryz.pinned (OpenSpec.upto slipPartsSpec)

/-- 'postillaw03.SlipCopied', WHERE WHAT IT READS IS OF BULK AT MOST 1048576: true; the input reads as it did. -/
def slipCopiedUptoRow : OpenClaim := { program := "ytgnjjocafmofaaagreatdoor", sum := "f3c32f7e44328f7570a2aba80f5a44b313b433ed0024d20adf899a9ea436b060", func := "postil/postillaw03.SlipCopied", spec := "slipCopied", inPlace := ["internal/abi.NoEscape", "internal/bytealg.MakeNoZero", "internal/bytealg.CountString", "internal/bytealg.IndexByteString", "internal/bytealg.IndexString"], unfollowed := true, recurses := true, named := ["postil/slip.sides", "unicode/utf8.first", "unicode/utf8.acceptRanges", "internal/bytealg.MaxLen", "postil/leaf.kinds"], plainKeys := false, apart := false, laid := [("unicode/utf8.acceptRanges", laid_unicode_utf8_acceptRanges), ("postil/leaf.kinds", laid_postil_leaf_kinds), ("postil/slip.sides", laid_postil_slip_sides), ("unicode/utf8.first", laid_unicode_utf8_first)], narrowed := true }
def SlipCopiedUptoSaid : Prop := slipCopiedUptoRow.holds Tryz.pinned (OpenSpec.upto slipCopiedSpec)

/-- 'postillaw03.SlipEach', WHERE WHAT IT READS IS OF BULK AT MOST 1048576: true; the input reads as it did. -/
def slipEachUptoRow : OpenClaim := { program := "ytgnjjocafmofaaagreatdoor", sum := "f3c32f7e44328f7570a2aba80f5a44b313b433ed0024d20adf899a9ea436b060", func := "postil/postillaw03.SlipEach", spec := "slipEach", inPlace := ["internal/abi.NoEscape", "internal/bytealg.MakeNoZero", "internal/bytealg.CountString", "internal/bytealg.IndexByteString", "internal/bytealg.IndexString"], unfollowed := true, recurses := true, named := ["postil/slip.sides", "unicode/utf8.first", "unicode/utf8.acceptRanges", "internal/bytealg.MaxLen", "postil/leaf.kinds"], plainKeys := false, apart := false, laid := [("unicode/utf8.acceptRanges", laid_unicode_utf8_acceptRanges), ("postil/leaf.kinds", laid_postil_leaf_kinds), ("postil/slip.sides", laid_postil_slip_sides), ("unicode/utf8.first", laid_unicode_utf8_first)], narrowed := true }
def SlipEachUptoSaid : Prop := slipEachUptoRow.holds Tryz.pinned (OpenSpec.upto slipEachSpec)

/-- 'postillaw03.SlipWhere', WHERE WHAT IT READS IS OF BULK AT MOST 1048576: true; the input reads as it did. -/
def slipWhereUptoRow : OpenClaim := { program := "ytgnjjocafmofaaagreatdoor", sum := "f3c32f7e44328f7570a2aba80f5a44b313b433ed0024d20adf899a9ea436b060", func := "postil/postillaw03.SlipWhere", spec := "slipWhere", inPlace := ["internal/abi.NoEscape", "internal/bytealg.MakeNoZero", "internal/bytealg.CountString", "internal/bytealg.IndexByteString", "internal/bytealg.IndexString"], unfollowed := true, recurses := true, named := ["postil/slip.sides", "unicode/utf8.first", "unicode/utf8.acceptRanges", "internal/bytealg.MaxLen", "postil/leaf.kinds"], plainKeys := false, apart := false, laid := [("unicode/utf8.acceptRanges", laid_unicode_utf8_acceptRanges), ("postil/leaf.kinds", laid_postil_leaf_kinds), ("postil/slip.sides", laid_postil_slip_sides), ("unicode/utf8.first", laid_unicode_utf8_first)], narrowed := true }
def SlipWhereUptoSaid : Prop := slipWhereUptoRow.holds Tryz.pinned (OpenSpec.upto slipWhereSpec)

/-- 'postillaw03.SlipMoved', WHERE WHAT IT READS IS OF BULK AT MOST 1048576: true; the input reads as it did. -/
def slipMovedUptoRow : OpenClaim := { program := "ytgnjjocafmofaaagreatdoor", sum := "f3c32f7e44328f7570a2aba80f5a44b313b433ed0024d20adf899a9ea436b060", func := "postil/postillaw03.SlipMoved", spec := "slipMoved", inPlace := ["internal/abi.NoEscape", "internal/bytealg.MakeNoZero", "internal/bytealg.CountString", "internal/bytealg.IndexByteString", "internal/bytealg.IndexString"], unfollowed := true, recurses := true, named := ["postil/slip.sides", "unicode/utf8.first", "unicode/utf8.acceptRanges", "internal/bytealg.MaxLen", "postil/leaf.kinds"], plainKeys := false, apart := false, laid := [("unicode/utf8.acceptRanges", laid_unicode_utf8_acceptRanges), ("postil/leaf.kinds", laid_postil_leaf_kinds), ("postil/slip.sides", laid_postil_slip_sides), ("unicode/utf8.first", laid_unicode_utf8_first)], narrowed := true }
def SlipMovedUptoSaid : Prop := slipMovedUptoRow.holds Tryz.pinned (OpenSpec.upto slipMovedSpec)

end Rows
end Go.Proofs.YtgnjjocafmofaaaGreatDoor
