/-
  NARROWER THAN 'FOR EVERY INPUT', by the rows' own cells (each row's printed sentence says how): GalleySets: laid · SlipLongest: laid · SlipWider: laid · SlipSides: laid.
  DERIVED. THE GIVEN ROWS OF THIS SEAT. 4 by the template 'for every input the law returns true; each argument reads behind the call as it read before'; 0 by the template 'total and deterministic' (their statements: YtpbkphaceljclaaGreatDoorTotals.lean).
  GIVEN WITH THE SEED: the statements are not yours to turn. If you find one false, say at which input.
  Laid BY PROGRAM, IN A SANDBOX (cutbox-rows.mjs): the forced cells as the released guide's own fill.sh prints them over the translation 8af96fd42c0e7614… (all of the seat's roots in one cut). By AI agents, Wed Nov 11 2026. No macro, syntax, notation, axiom, sorry.
-/
import Derived.Test.YtpbkphaceljclaaGreatDoorChecked
import GoSem.PinnedTables
import GoSem.Claim
import GoSem.ClaimJoined
import GoSem.ClaimMapViews
import Derived.JoinedTies
import Derived.KernelRfl
namespace Go.Proofs.YtpbkphaceljclaaGreatDoor
/- THE CELL 'sum', in the pinned program and in every row, IS THE sha256 OF THE DUMP (.gsa) THAT YtpbkphaceljclaaGreatDoorProg.lean LOADS. Nothing in Lean hashes anything: it is a label: what it is worth is what the hold of that sum in a sandbox is worth. -/
noncomputable def Tryz.pinned : Pinned := { name := "ytpbkphaceljclaagreatdoor", sum := "8af96fd42c0e761447673eafef3addc03458529d256c9d684fa9cda3396f6e0a", checked := Tryz.checked }
namespace Rows
def none {H : Type} : Left H := { results := [], args := [] }

/- WHAT THE LISTED PACKAGE-LEVEL VARIABLES READ AS WHEN THE CALL BEGINS. Each datum BY PROGRAM (the guide's laid-datum.mjs) off the statement by which the dump's own 'gosem.cut.vars' lays the variable. In a bare row this is a premise. The card (YtpbkphaceljclaaGreatDoorCards.lean) ties it to the program's text. -/
def laid_postil_slip_sides {H : Type} : DataW H := .iface "func table" (.agg [.agg [.nil], .agg [.iface "func" (.lit (.string [112, 111, 115, 116, 105, 108, 47, 115, 108, 105, 112, 46, 115, 105, 100, 101, 115, 36, 49]))], .agg [.iface "func" (.lit (.string [112, 111, 115, 116, 105, 108, 47, 115, 108, 105, 112, 46, 115, 105, 100, 101, 115, 36, 50]))], .agg [.iface "func" (.lit (.string [112, 111, 115, 116, 105, 108, 47, 115, 108, 105, 112, 46, 115, 105, 100, 101, 115, 36, 51]))]])
def laid_unicode_utf8_acceptRanges {H : Type} : DataW H := .agg [.agg [.lit (.int .u8 128), .lit (.int .u8 191)], .agg [.lit (.int .u8 160), .lit (.int .u8 191)], .agg [.lit (.int .u8 128), .lit (.int .u8 159)], .agg [.lit (.int .u8 144), .lit (.int .u8 191)], .agg [.lit (.int .u8 128), .lit (.int .u8 143)], .agg [.lit (.int .u8 0), .lit (.int .u8 0)], .agg [.lit (.int .u8 0), .lit (.int .u8 0)], .agg [.lit (.int .u8 0), .lit (.int .u8 0)], .agg [.lit (.int .u8 0), .lit (.int .u8 0)], .agg [.lit (.int .u8 0), .lit (.int .u8 0)], .agg [.lit (.int .u8 0), .lit (.int .u8 0)], .agg [.lit (.int .u8 0), .lit (.int .u8 0)], .agg [.lit (.int .u8 0), .lit (.int .u8 0)], .agg [.lit (.int .u8 0), .lit (.int .u8 0)], .agg [.lit (.int .u8 0), .lit (.int .u8 0)], .agg [.lit (.int .u8 0), .lit (.int .u8 0)]]
def laid_postil_leaf_kinds {H : Type} : DataW H := .iface "func table" (.agg [.agg [.lit (.int .i64 0), .nil, .nil], .agg [.lit (.int .i64 0), .iface "func" (.lit (.string [112, 111, 115, 116, 105, 108, 47, 108, 101, 97, 102, 46, 107, 105, 110, 100, 115, 36, 49])), .iface "func" (.lit (.string [112, 111, 115, 116, 105, 108, 47, 108, 101, 97, 102, 46, 107, 105, 110, 100, 115, 36, 50]))], .agg [.lit (.int .i64 1), .iface "func" (.lit (.string [112, 111, 115, 116, 105, 108, 47, 108, 101, 97, 102, 46, 107, 105, 110, 100, 115, 36, 51])), .iface "func" (.lit (.string [112, 111, 115, 116, 105, 108, 47, 108, 101, 97, 102, 46, 107, 105, 110, 100, 115, 36, 52]))], .agg [.lit (.int .i64 0), .iface "func" (.lit (.string [112, 111, 115, 116, 105, 108, 47, 108, 101, 97, 102, 46, 107, 105, 110, 100, 115, 36, 53])), .iface "func" (.lit (.string [112, 111, 115, 116, 105, 108, 47, 108, 101, 97, 102, 46, 107, 105, 110, 100, 115, 36, 54]))]])
/-- One of Go's own tables, pinned by name: the form's constant. -/
def laid_unicode_utf8_first : DataW Unit := Go.Pinned.utf8First

/-- 'postillaw08.GalleySets': WHATEVER THE INPUT: true; the input reads as it did. -/
def galleySetsSpec : ChangeSpec := { name := "galleySets", fn := fun _ => fun
  | [d1, d2, d3] => { results := [.lit (.bool true)], args := [d1, d2, d3] }
  | _ => none }
def galleySetsRow : OpenClaim := { program := "ytpbkphaceljclaagreatdoor", sum := "8af96fd42c0e761447673eafef3addc03458529d256c9d684fa9cda3396f6e0a", func := "postil/postillaw08.GalleySets", spec := "galleySets", inPlace := ["internal/abi.NoEscape", "internal/bytealg.MakeNoZero"], unfollowed := true, recurses := true, named := ["postil/slip.sides"], plainKeys := false, apart := false, laid := [("postil/slip.sides", laid_postil_slip_sides)] }
def GalleySetsSaid : Prop := galleySetsRow.holds Tryz.pinned (OpenSpec.ofChange galleySetsSpec)

/-- ITS FALSE NEIGHBOUR: 'it returns false'. Refute it at one input. -/
def galleySetsWrong : ChangeSpec := { name := "galleySets", fn := fun _ => fun
  | [d1, d2, d3] => { results := [.lit (.bool false)], args := [d1, d2, d3] }
  | _ => none }
def GalleySetsWrongFalsely : Prop := galleySetsRow.holds Tryz.pinned (OpenSpec.ofChange galleySetsWrong)

/-- 'postillaw03.SlipLongest': WHATEVER THE INPUT: true; the input reads as it did. -/
def slipLongestSpec : ChangeSpec := { name := "slipLongest", fn := fun _ => fun
  | [d1, d2, d3] => { results := [.lit (.bool true)], args := [d1, d2, d3] }
  | _ => none }
def slipLongestRow : OpenClaim := { program := "ytpbkphaceljclaagreatdoor", sum := "8af96fd42c0e761447673eafef3addc03458529d256c9d684fa9cda3396f6e0a", func := "postil/postillaw03.SlipLongest", spec := "slipLongest", inPlace := ["internal/abi.NoEscape", "internal/bytealg.MakeNoZero", "internal/bytealg.CountString", "internal/bytealg.IndexByteString", "internal/bytealg.IndexString"], unfollowed := true, recurses := true, named := ["postil/slip.sides", "unicode/utf8.first", "unicode/utf8.acceptRanges", "internal/bytealg.MaxLen", "postil/leaf.kinds"], plainKeys := false, apart := false, laid := [("unicode/utf8.acceptRanges", laid_unicode_utf8_acceptRanges), ("postil/leaf.kinds", laid_postil_leaf_kinds), ("postil/slip.sides", laid_postil_slip_sides), ("unicode/utf8.first", laid_unicode_utf8_first)] }
def SlipLongestSaid : Prop := slipLongestRow.holds Tryz.pinned (OpenSpec.ofChange slipLongestSpec)

/-- ITS FALSE NEIGHBOUR: 'it returns false'. Refute it at one input. -/
def slipLongestWrong : ChangeSpec := { name := "slipLongest", fn := fun _ => fun
  | [d1, d2, d3] => { results := [.lit (.bool false)], args := [d1, d2, d3] }
  | _ => none }
def SlipLongestWrongFalsely : Prop := slipLongestRow.holds Tryz.pinned (OpenSpec.ofChange slipLongestWrong)

/-- 'postillaw03.SlipWider': WHATEVER THE INPUT: true; the input reads as it did. -/
def slipWiderSpec : ChangeSpec := { name := "slipWider", fn := fun _ => fun
  | [d1, d2, d3, d4] => { results := [.lit (.bool true)], args := [d1, d2, d3, d4] }
  | _ => none }
def slipWiderRow : OpenClaim := { program := "ytpbkphaceljclaagreatdoor", sum := "8af96fd42c0e761447673eafef3addc03458529d256c9d684fa9cda3396f6e0a", func := "postil/postillaw03.SlipWider", spec := "slipWider", inPlace := ["internal/abi.NoEscape", "internal/bytealg.MakeNoZero", "internal/bytealg.CountString", "internal/bytealg.IndexByteString", "internal/bytealg.IndexString"], unfollowed := true, recurses := true, named := ["postil/slip.sides", "unicode/utf8.first", "unicode/utf8.acceptRanges", "internal/bytealg.MaxLen", "postil/leaf.kinds"], plainKeys := false, apart := false, laid := [("unicode/utf8.acceptRanges", laid_unicode_utf8_acceptRanges), ("postil/leaf.kinds", laid_postil_leaf_kinds), ("postil/slip.sides", laid_postil_slip_sides), ("unicode/utf8.first", laid_unicode_utf8_first)] }
def SlipWiderSaid : Prop := slipWiderRow.holds Tryz.pinned (OpenSpec.ofChange slipWiderSpec)

/-- ITS FALSE NEIGHBOUR: 'it returns false'. Refute it at one input. -/
def slipWiderWrong : ChangeSpec := { name := "slipWider", fn := fun _ => fun
  | [d1, d2, d3, d4] => { results := [.lit (.bool false)], args := [d1, d2, d3, d4] }
  | _ => none }
def SlipWiderWrongFalsely : Prop := slipWiderRow.holds Tryz.pinned (OpenSpec.ofChange slipWiderWrong)

/-- 'postillaw03.SlipSides': WHATEVER THE INPUT: true; the input reads as it did. -/
def slipSidesSpec : ChangeSpec := { name := "slipSides", fn := fun _ => fun
  | [d1, d2, d3] => { results := [.lit (.bool true)], args := [d1, d2, d3] }
  | _ => none }
def slipSidesRow : OpenClaim := { program := "ytpbkphaceljclaagreatdoor", sum := "8af96fd42c0e761447673eafef3addc03458529d256c9d684fa9cda3396f6e0a", func := "postil/postillaw03.SlipSides", spec := "slipSides", inPlace := ["internal/abi.NoEscape", "internal/bytealg.MakeNoZero", "internal/bytealg.CountString", "internal/bytealg.IndexByteString", "internal/bytealg.IndexString"], unfollowed := true, recurses := true, named := ["postil/slip.sides", "unicode/utf8.first", "unicode/utf8.acceptRanges", "internal/bytealg.MaxLen", "postil/leaf.kinds"], plainKeys := false, apart := false, laid := [("unicode/utf8.acceptRanges", laid_unicode_utf8_acceptRanges), ("postil/leaf.kinds", laid_postil_leaf_kinds), ("postil/slip.sides", laid_postil_slip_sides), ("unicode/utf8.first", laid_unicode_utf8_first)] }
def SlipSidesSaid : Prop := slipSidesRow.holds Tryz.pinned (OpenSpec.ofChange slipSidesSpec)

/-- ITS FALSE NEIGHBOUR: 'it returns false'. Refute it at one input. -/
def slipSidesWrong : ChangeSpec := { name := "slipSides", fn := fun _ => fun
  | [d1, d2, d3] => { results := [.lit (.bool false)], args := [d1, d2, d3] }
  | _ => none }
def SlipSidesWrongFalsely : Prop := slipSidesRow.holds Tryz.pinned (OpenSpec.ofChange slipSidesWrong)

/- THE SECOND FORM. 'bulk': how many values and letters a reading holds, each counted each time it is reached (what is shared counts as often as it is met; a slice's spare places count too). A statement '..UptoSaid' is the law's where the arguments, and the package variables that the reading takes, are together of bulk at most 1048576: NARROWER than '..Said'. Prove '..Said' where nothing that the law and all that it calls make is longer than what came in: it says more and counts as full. Else prove '..UptoSaid'. A law counts once. -/
mutual
def uptoBulk {H : Type} : DataW H → Nat
  | .lit (.string bytes) => bytes.length + 1
  | .lit _ => 1
  | .nil => 1
  | .ptr d => uptoBulk d + 1
  | .slice elems spare => uptoBulkAll elems + uptoBulkAll spare + 1
  | .agg parts => uptoBulkAll parts + 1
  | .iface _ d => uptoBulk d + 1
  | .map entries => uptoBulkEntries entries + 1
  | .held _ => 1
def uptoBulkAll {H : Type} : List (DataW H) → Nat
  | [] => 0
  | d :: r => uptoBulk d + uptoBulkAll r
def uptoBulkEntries {H : Type} : List (Lit × DataW H) → Nat
  | [] => 0
  | x :: r => uptoBulkEntry x + uptoBulkEntries r
def uptoBulkEntry {H : Type} : Lit × DataW H → Nat
  | (.string bytes, d) => bytes.length + uptoBulk d + 1
  | (_, d) => uptoBulk d + 1
 end
def uptoSmall : (H : Type) → List (DataW H) → Bool := fun _ ds => decide (uptoBulkAll ds ≤ 1048576)
def OpenSpec.upto (s : _root_.Go.ChangeSpec) : _root_.Go.OpenSpec := { _root_.Go.OpenSpec.ofChange s with cond := some uptoSmall }

/-- 'postillaw08.GalleySets', WHERE WHAT IT READS IS OF BULK AT MOST 1048576: true; the input reads as it did. -/
def galleySetsUptoRow : OpenClaim := { program := "ytpbkphaceljclaagreatdoor", sum := "8af96fd42c0e761447673eafef3addc03458529d256c9d684fa9cda3396f6e0a", func := "postil/postillaw08.GalleySets", spec := "galleySets", inPlace := ["internal/abi.NoEscape", "internal/bytealg.MakeNoZero"], unfollowed := true, recurses := true, named := ["postil/slip.sides"], plainKeys := false, apart := false, laid := [("postil/slip.sides", laid_postil_slip_sides)], narrowed := true }
def GalleySetsUptoSaid : Prop := galleySetsUptoRow.holds Tryz.pinned (OpenSpec.upto galleySetsSpec)

/-- 'postillaw03.SlipLongest', WHERE WHAT IT READS IS OF BULK AT MOST 1048576: true; the input reads as it did. -/
def slipLongestUptoRow : OpenClaim := { program := "ytpbkphaceljclaagreatdoor", sum := "8af96fd42c0e761447673eafef3addc03458529d256c9d684fa9cda3396f6e0a", func := "postil/postillaw03.SlipLongest", spec := "slipLongest", inPlace := ["internal/abi.NoEscape", "internal/bytealg.MakeNoZero", "internal/bytealg.CountString", "internal/bytealg.IndexByteString", "internal/bytealg.IndexString"], unfollowed := true, recurses := true, named := ["postil/slip.sides", "unicode/utf8.first", "unicode/utf8.acceptRanges", "internal/bytealg.MaxLen", "postil/leaf.kinds"], plainKeys := false, apart := false, laid := [("unicode/utf8.acceptRanges", laid_unicode_utf8_acceptRanges), ("postil/leaf.kinds", laid_postil_leaf_kinds), ("postil/slip.sides", laid_postil_slip_sides), ("unicode/utf8.first", laid_unicode_utf8_first)], narrowed := true }
def SlipLongestUptoSaid : Prop := slipLongestUptoRow.holds Tryz.pinned (OpenSpec.upto slipLongestSpec)

/-- 'postillaw03.SlipWider', WHERE WHAT IT READS IS OF BULK AT MOST 1048576: true; the input reads as it did. -/
def slipWiderUptoRow : OpenClaim := { program := "ytpbkphaceljclaagreatdoor", sum := "8af96fd42c0e761447673eafef3addc03458529d256c9d684fa9cda3396f6e0a", func := "postil/postillaw03.SlipWider", spec := "slipWider", inPlace := ["internal/abi.NoEscape", "internal/bytealg.MakeNoZero", "internal/bytealg.CountString", "internal/bytealg.IndexByteString", "internal/bytealg.IndexString"], unfollowed := true, recurses := true, named := ["postil/slip.sides", "unicode/utf8.first", "unicode/utf8.acceptRanges", "internal/bytealg.MaxLen", "postil/leaf.kinds"], plainKeys := false, apart := false, laid := [("unicode/utf8.acceptRanges", laid_unicode_utf8_acceptRanges), ("postil/leaf.kinds", laid_postil_leaf_kinds), ("postil/slip.sides", laid_postil_slip_sides), ("unicode/utf8.first", laid_unicode_utf8_first)], narrowed := true }
def SlipWiderUptoSaid : Prop := slipWiderUptoRow.holds Tryz.pinned (OpenSpec.upto slipWiderSpec)

/-- 'postillaw03.SlipSides', WHERE WHAT IT READS IS OF BULK AT MOST 1048576: true; the input reads as it did. -/
def slipSidesUptoRow : OpenClaim := { program := "ytpbkphaceljclaagreatdoor", sum := "8af96fd42c0e761447673eafef3addc03458529d256c9d684fa9cda3396f6e0a", func := "postil/postillaw03.SlipSides", spec := "slipSides", inPlace := ["internal/abi.NoEscape", "internal/bytealg.MakeNoZero", "internal/bytealg.CountString", "internal/bytealg.IndexByteString", "internal/bytealg.IndexString"], unfollowed := true, recurses := true, named := ["postil/slip.sides", "unicode/utf8.first", "unicode/utf8.acceptRanges", "internal/bytealg.MaxLen", "postil/leaf.kinds"], plainKeys := false, apart := false, laid := [("unicode/utf8.acceptRanges", laid_unicode_utf8_acceptRanges), ("postil/leaf.kinds", laid_postil_leaf_kinds), ("postil/slip.sides", laid_postil_slip_sides), ("unicode/utf8.first", laid_unicode_utf8_first)], narrowed := true }
def SlipSidesUptoSaid : Prop := slipSidesUptoRow.holds Tryz.pinned (OpenSpec.upto slipSidesSpec)

end Rows
end Go.Proofs.YtpbkphaceljclaaGreatDoor
