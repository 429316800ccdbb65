/-
  NARROWER THAN 'FOR EVERY INPUT', by the rows' own cells (each row's printed sentence says how): RackExamples: laid · RackSorted: laid · RackFewest: laid · RackRuns: laid · RackBoxes: laid · RackMended: laid · RackChains: laid · RackFell: laid · RackFiled: laid · RackWords: laid.
  DERIVED. THE GIVEN ROWS OF THIS SEAT. 10 by the template 'for every input the law returns true; each argument reads behind the call as it read before'; 0 by the template 'total and deterministic' (their statements: YtpijeomnplmakaaGreatDoorTotals.lean).
  GIVEN WITH THE SEED: the statements are not yours to turn. If you find one false, say at which input.
  Laid BY PROGRAM, IN A SANDBOX (cutbox-rows.mjs): the forced cells as the released guide's own fill.sh prints them over the translation f26c5dd1112638f9… (all of the seat's roots in one cut). By AI agents, Wed Nov 11 2026. No macro, syntax, notation, axiom, sorry.
-/
import Derived.Test.YtpijeomnplmakaaGreatDoorChecked
import GoSem.PinnedTables
import GoSem.Claim
import GoSem.ClaimJoined
import GoSem.ClaimMapViews
import Derived.JoinedTies
import Derived.KernelRfl
namespace Go.Proofs.YtpijeomnplmakaaGreatDoor
/- THE CELL 'sum', in the pinned program and in every row, IS THE sha256 OF THE DUMP (.gsa) THAT YtpijeomnplmakaaGreatDoorProg.lean LOADS. Nothing in Lean hashes anything: it is a label: what it is worth is what the hold of that sum in a sandbox is worth. -/
noncomputable def Tryz.pinned : Pinned := { name := "ytpijeomnplmakaagreatdoor", sum := "f26c5dd1112638f91522789690c5295c4189b108e0218a27a8b78f3cfd10e822", checked := Tryz.checked }
namespace Rows
def none {H : Type} : Left H := { results := [], args := [] }

/- WHAT THE LISTED PACKAGE-LEVEL VARIABLES READ AS WHEN THE CALL BEGINS. Each datum BY PROGRAM (the guide's laid-datum.mjs) off the statement by which the dump's own 'gosem.cut.vars' lays the variable. In a bare row this is a premise. The card (YtpijeomnplmakaaGreatDoorCards.lean) ties it to the program's text. -/
def laid_unicode_utf8_acceptRanges {H : Type} : DataW H := .agg [.agg [.lit (.int .u8 128), .lit (.int .u8 191)], .agg [.lit (.int .u8 160), .lit (.int .u8 191)], .agg [.lit (.int .u8 128), .lit (.int .u8 159)], .agg [.lit (.int .u8 144), .lit (.int .u8 191)], .agg [.lit (.int .u8 128), .lit (.int .u8 143)], .agg [.lit (.int .u8 0), .lit (.int .u8 0)], .agg [.lit (.int .u8 0), .lit (.int .u8 0)], .agg [.lit (.int .u8 0), .lit (.int .u8 0)], .agg [.lit (.int .u8 0), .lit (.int .u8 0)], .agg [.lit (.int .u8 0), .lit (.int .u8 0)], .agg [.lit (.int .u8 0), .lit (.int .u8 0)], .agg [.lit (.int .u8 0), .lit (.int .u8 0)], .agg [.lit (.int .u8 0), .lit (.int .u8 0)], .agg [.lit (.int .u8 0), .lit (.int .u8 0)], .agg [.lit (.int .u8 0), .lit (.int .u8 0)], .agg [.lit (.int .u8 0), .lit (.int .u8 0)]]
def laid_postil_rack_bys {H : Type} : DataW H := .iface "func table" (.agg [.agg [.nil], .agg [.iface "func" (.lit (.string [112, 111, 115, 116, 105, 108, 47, 114, 97, 99, 107, 46, 98, 121, 115, 36, 49]))], .agg [.iface "func" (.lit (.string [112, 111, 115, 116, 105, 108, 47, 114, 97, 99, 107, 46, 98, 121, 115, 36, 50]))], .agg [.iface "func" (.lit (.string [112, 111, 115, 116, 105, 108, 47, 114, 97, 99, 107, 46, 98, 121, 115, 36, 51]))], .agg [.iface "func" (.lit (.string [112, 111, 115, 116, 105, 108, 47, 114, 97, 99, 107, 46, 98, 121, 115, 36, 52]))]])
/-- One of Go's own tables, pinned by name: the form's constant. -/
def laid_unicode_utf8_first : DataW Unit := Go.Pinned.utf8First
def laid_postil_slip_sides {H : Type} : DataW H := .iface "func table" (.agg [.agg [.nil], .agg [.iface "func" (.lit (.string [112, 111, 115, 116, 105, 108, 47, 115, 108, 105, 112, 46, 115, 105, 100, 101, 115, 36, 49]))], .agg [.iface "func" (.lit (.string [112, 111, 115, 116, 105, 108, 47, 115, 108, 105, 112, 46, 115, 105, 100, 101, 115, 36, 50]))], .agg [.iface "func" (.lit (.string [112, 111, 115, 116, 105, 108, 47, 115, 108, 105, 112, 46, 115, 105, 100, 101, 115, 36, 51]))]])

/-- 'postillaw06.RackExamples': WHATEVER THE INPUT: true; the input reads as it did. -/
def rackExamplesSpec : ChangeSpec := { name := "rackExamples", fn := fun _ => fun
  | [] => { results := [.lit (.bool true)], args := [] }
  | _ => none }
def rackExamplesRow : OpenClaim := { program := "ytpijeomnplmakaagreatdoor", sum := "f26c5dd1112638f91522789690c5295c4189b108e0218a27a8b78f3cfd10e822", func := "postil/postillaw06.RackExamples", spec := "rackExamples", inPlace := ["slices.overlaps[int]", "internal/bytealg.CountString", "internal/bytealg.IndexByteString", "internal/bytealg.IndexString"], unfollowed := true, recurses := true, named := ["postil/rack.bys", "unicode/utf8.first", "unicode/utf8.acceptRanges", "internal/bytealg.MaxLen"], plainKeys := false, apart := false, laid := [("unicode/utf8.acceptRanges", laid_unicode_utf8_acceptRanges), ("postil/rack.bys", laid_postil_rack_bys), ("unicode/utf8.first", laid_unicode_utf8_first)] }
def RackExamplesSaid : Prop := rackExamplesRow.holds Tryz.pinned (OpenSpec.ofChange rackExamplesSpec)

/-- ITS FALSE NEIGHBOUR: 'it returns false'. Refute it at one input. -/
def rackExamplesWrong : ChangeSpec := { name := "rackExamples", fn := fun _ => fun
  | [] => { results := [.lit (.bool false)], args := [] }
  | _ => none }
def RackExamplesWrongFalsely : Prop := rackExamplesRow.holds Tryz.pinned (OpenSpec.ofChange rackExamplesWrong)

/-- 'postillaw06.RackSorted': WHATEVER THE INPUT: true; the input reads as it did. -/
def rackSortedSpec : ChangeSpec := { name := "rackSorted", fn := fun _ => fun
  | [d1, d2, d3] => { results := [.lit (.bool true)], args := [d1, d2, d3] }
  | _ => none }
def rackSortedRow : OpenClaim := { program := "ytpijeomnplmakaagreatdoor", sum := "f26c5dd1112638f91522789690c5295c4189b108e0218a27a8b78f3cfd10e822", func := "postil/postillaw06.RackSorted", spec := "rackSorted", inPlace := ["slices.overlaps[int]", "internal/bytealg.CountString", "internal/bytealg.IndexByteString", "internal/bytealg.IndexString"], unfollowed := true, recurses := true, named := ["postil/rack.bys", "unicode/utf8.first", "unicode/utf8.acceptRanges", "internal/bytealg.MaxLen"], plainKeys := false, apart := false, laid := [("unicode/utf8.acceptRanges", laid_unicode_utf8_acceptRanges), ("postil/rack.bys", laid_postil_rack_bys), ("unicode/utf8.first", laid_unicode_utf8_first)] }
def RackSortedSaid : Prop := rackSortedRow.holds Tryz.pinned (OpenSpec.ofChange rackSortedSpec)

/-- ITS FALSE NEIGHBOUR: 'it returns false'. Refute it at one input. -/
def rackSortedWrong : ChangeSpec := { name := "rackSorted", fn := fun _ => fun
  | [d1, d2, d3] => { results := [.lit (.bool false)], args := [d1, d2, d3] }
  | _ => none }
def RackSortedWrongFalsely : Prop := rackSortedRow.holds Tryz.pinned (OpenSpec.ofChange rackSortedWrong)

/-- 'postillaw06.RackFewest': WHATEVER THE INPUT: true; the input reads as it did. -/
def rackFewestSpec : ChangeSpec := { name := "rackFewest", fn := fun _ => fun
  | [d1, d2, d3, d4] => { results := [.lit (.bool true)], args := [d1, d2, d3, d4] }
  | _ => none }
def rackFewestRow : OpenClaim := { program := "ytpijeomnplmakaagreatdoor", sum := "f26c5dd1112638f91522789690c5295c4189b108e0218a27a8b78f3cfd10e822", func := "postil/postillaw06.RackFewest", spec := "rackFewest", inPlace := ["slices.overlaps[int]", "internal/bytealg.CountString", "internal/bytealg.IndexByteString", "internal/bytealg.IndexString"], unfollowed := true, recurses := true, named := ["postil/rack.bys", "unicode/utf8.first", "unicode/utf8.acceptRanges", "internal/bytealg.MaxLen"], plainKeys := false, apart := false, laid := [("unicode/utf8.acceptRanges", laid_unicode_utf8_acceptRanges), ("postil/rack.bys", laid_postil_rack_bys), ("unicode/utf8.first", laid_unicode_utf8_first)] }
def RackFewestSaid : Prop := rackFewestRow.holds Tryz.pinned (OpenSpec.ofChange rackFewestSpec)

/-- ITS FALSE NEIGHBOUR: 'it returns false'. Refute it at one input. -/
def rackFewestWrong : ChangeSpec := { name := "rackFewest", fn := fun _ => fun
  | [d1, d2, d3, d4] => { results := [.lit (.bool false)], args := [d1, d2, d3, d4] }
  | _ => none }
def RackFewestWrongFalsely : Prop := rackFewestRow.holds Tryz.pinned (OpenSpec.ofChange rackFewestWrong)

/-- 'postillaw06.RackRuns': WHATEVER THE INPUT: true; the input reads as it did. -/
def rackRunsSpec : ChangeSpec := { name := "rackRuns", fn := fun _ => fun
  | [d] => { results := [.lit (.bool true)], args := [d] }
  | _ => none }
def rackRunsRow : OpenClaim := { program := "ytpijeomnplmakaagreatdoor", sum := "f26c5dd1112638f91522789690c5295c4189b108e0218a27a8b78f3cfd10e822", func := "postil/postillaw06.RackRuns", spec := "rackRuns", inPlace := ["slices.overlaps[int]", "internal/bytealg.CountString", "internal/bytealg.IndexByteString", "internal/bytealg.IndexString"], unfollowed := true, recurses := true, named := ["postil/rack.bys", "unicode/utf8.first", "unicode/utf8.acceptRanges", "internal/bytealg.MaxLen"], plainKeys := false, apart := false, laid := [("unicode/utf8.acceptRanges", laid_unicode_utf8_acceptRanges), ("postil/rack.bys", laid_postil_rack_bys), ("unicode/utf8.first", laid_unicode_utf8_first)] }
def RackRunsSaid : Prop := rackRunsRow.holds Tryz.pinned (OpenSpec.ofChange rackRunsSpec)

/-- ITS FALSE NEIGHBOUR: 'it returns false'. Refute it at one input. -/
def rackRunsWrong : ChangeSpec := { name := "rackRuns", fn := fun _ => fun
  | [d] => { results := [.lit (.bool false)], args := [d] }
  | _ => none }
def RackRunsWrongFalsely : Prop := rackRunsRow.holds Tryz.pinned (OpenSpec.ofChange rackRunsWrong)

/-- 'postillaw06.RackBoxes': WHATEVER THE INPUT: true; the input reads as it did. -/
def rackBoxesSpec : ChangeSpec := { name := "rackBoxes", fn := fun _ => fun
  | [d1, d2, d3, d4] => { results := [.lit (.bool true)], args := [d1, d2, d3, d4] }
  | _ => none }
def rackBoxesRow : OpenClaim := { program := "ytpijeomnplmakaagreatdoor", sum := "f26c5dd1112638f91522789690c5295c4189b108e0218a27a8b78f3cfd10e822", func := "postil/postillaw06.RackBoxes", spec := "rackBoxes", inPlace := ["slices.overlaps[int]", "internal/bytealg.CountString", "internal/bytealg.IndexByteString", "internal/bytealg.IndexString"], unfollowed := true, recurses := true, named := ["postil/rack.bys", "unicode/utf8.first", "unicode/utf8.acceptRanges", "internal/bytealg.MaxLen"], plainKeys := false, apart := false, laid := [("unicode/utf8.acceptRanges", laid_unicode_utf8_acceptRanges), ("postil/rack.bys", laid_postil_rack_bys), ("unicode/utf8.first", laid_unicode_utf8_first)] }
def RackBoxesSaid : Prop := rackBoxesRow.holds Tryz.pinned (OpenSpec.ofChange rackBoxesSpec)

/-- ITS FALSE NEIGHBOUR: 'it returns false'. Refute it at one input. -/
def rackBoxesWrong : ChangeSpec := { name := "rackBoxes", fn := fun _ => fun
  | [d1, d2, d3, d4] => { results := [.lit (.bool false)], args := [d1, d2, d3, d4] }
  | _ => none }
def RackBoxesWrongFalsely : Prop := rackBoxesRow.holds Tryz.pinned (OpenSpec.ofChange rackBoxesWrong)

/-- 'postillaw06.RackMended': WHATEVER THE INPUT: true; the input reads as it did. -/
def rackMendedSpec : ChangeSpec := { name := "rackMended", fn := fun _ => fun
  | [d1, d2, d3] => { results := [.lit (.bool true)], args := [d1, d2, d3] }
  | _ => none }
def rackMendedRow : OpenClaim := { program := "ytpijeomnplmakaagreatdoor", sum := "f26c5dd1112638f91522789690c5295c4189b108e0218a27a8b78f3cfd10e822", func := "postil/postillaw06.RackMended", spec := "rackMended", inPlace := ["slices.overlaps[int]", "internal/bytealg.CountString", "internal/bytealg.IndexByteString", "internal/bytealg.IndexString"], unfollowed := true, recurses := true, named := ["postil/rack.bys", "unicode/utf8.first", "unicode/utf8.acceptRanges", "internal/bytealg.MaxLen"], plainKeys := false, apart := false, laid := [("unicode/utf8.acceptRanges", laid_unicode_utf8_acceptRanges), ("postil/rack.bys", laid_postil_rack_bys), ("unicode/utf8.first", laid_unicode_utf8_first)] }
def RackMendedSaid : Prop := rackMendedRow.holds Tryz.pinned (OpenSpec.ofChange rackMendedSpec)

/-- ITS FALSE NEIGHBOUR: 'it returns false'. Refute it at one input. -/
def rackMendedWrong : ChangeSpec := { name := "rackMended", fn := fun _ => fun
  | [d1, d2, d3] => { results := [.lit (.bool false)], args := [d1, d2, d3] }
  | _ => none }
def RackMendedWrongFalsely : Prop := rackMendedRow.holds Tryz.pinned (OpenSpec.ofChange rackMendedWrong)

/-- 'postillaw06.RackChains': WHATEVER THE INPUT: true; the input reads as it did. -/
def rackChainsSpec : ChangeSpec := { name := "rackChains", fn := fun _ => fun
  | [d1, d2] => { results := [.lit (.bool true)], args := [d1, d2] }
  | _ => none }
def rackChainsRow : OpenClaim := { program := "ytpijeomnplmakaagreatdoor", sum := "f26c5dd1112638f91522789690c5295c4189b108e0218a27a8b78f3cfd10e822", func := "postil/postillaw06.RackChains", spec := "rackChains", inPlace := ["slices.overlaps[int]", "internal/bytealg.CountString", "internal/bytealg.IndexByteString", "internal/bytealg.IndexString"], unfollowed := true, recurses := true, named := ["postil/rack.bys", "unicode/utf8.first", "unicode/utf8.acceptRanges", "internal/bytealg.MaxLen"], plainKeys := false, apart := false, laid := [("unicode/utf8.acceptRanges", laid_unicode_utf8_acceptRanges), ("postil/rack.bys", laid_postil_rack_bys), ("unicode/utf8.first", laid_unicode_utf8_first)] }
def RackChainsSaid : Prop := rackChainsRow.holds Tryz.pinned (OpenSpec.ofChange rackChainsSpec)

/-- ITS FALSE NEIGHBOUR: 'it returns false'. Refute it at one input. -/
def rackChainsWrong : ChangeSpec := { name := "rackChains", fn := fun _ => fun
  | [d1, d2] => { results := [.lit (.bool false)], args := [d1, d2] }
  | _ => none }
def RackChainsWrongFalsely : Prop := rackChainsRow.holds Tryz.pinned (OpenSpec.ofChange rackChainsWrong)

/-- 'postillaw06.RackFell': WHATEVER THE INPUT: true; the input reads as it did. -/
def rackFellSpec : ChangeSpec := { name := "rackFell", fn := fun _ => fun
  | [d1, d2, d3, d4] => { results := [.lit (.bool true)], args := [d1, d2, d3, d4] }
  | _ => none }
def rackFellRow : OpenClaim := { program := "ytpijeomnplmakaagreatdoor", sum := "f26c5dd1112638f91522789690c5295c4189b108e0218a27a8b78f3cfd10e822", func := "postil/postillaw06.RackFell", spec := "rackFell", inPlace := ["slices.overlaps[int]", "internal/bytealg.CountString", "internal/bytealg.IndexByteString", "internal/bytealg.IndexString"], unfollowed := true, recurses := true, named := ["postil/rack.bys", "unicode/utf8.first", "unicode/utf8.acceptRanges", "internal/bytealg.MaxLen"], plainKeys := false, apart := false, laid := [("unicode/utf8.acceptRanges", laid_unicode_utf8_acceptRanges), ("postil/rack.bys", laid_postil_rack_bys), ("unicode/utf8.first", laid_unicode_utf8_first)] }
def RackFellSaid : Prop := rackFellRow.holds Tryz.pinned (OpenSpec.ofChange rackFellSpec)

/-- ITS FALSE NEIGHBOUR: 'it returns false'. Refute it at one input. -/
def rackFellWrong : ChangeSpec := { name := "rackFell", fn := fun _ => fun
  | [d1, d2, d3, d4] => { results := [.lit (.bool false)], args := [d1, d2, d3, d4] }
  | _ => none }
def RackFellWrongFalsely : Prop := rackFellRow.holds Tryz.pinned (OpenSpec.ofChange rackFellWrong)

/-- 'postillaw06.RackFiled': WHATEVER THE INPUT: true; the input reads as it did. -/
def rackFiledSpec : ChangeSpec := { name := "rackFiled", fn := fun _ => fun
  | [d1, d2, d3, d4, d5] => { results := [.lit (.bool true)], args := [d1, d2, d3, d4, d5] }
  | _ => none }
def rackFiledRow : OpenClaim := { program := "ytpijeomnplmakaagreatdoor", sum := "f26c5dd1112638f91522789690c5295c4189b108e0218a27a8b78f3cfd10e822", func := "postil/postillaw06.RackFiled", spec := "rackFiled", inPlace := ["slices.overlaps[int]", "internal/bytealg.CountString", "internal/bytealg.IndexByteString", "internal/bytealg.IndexString", "internal/abi.NoEscape", "internal/bytealg.MakeNoZero"], unfollowed := true, recurses := true, named := ["postil/rack.bys", "unicode/utf8.first", "unicode/utf8.acceptRanges", "internal/bytealg.MaxLen", "postil/slip.sides"], plainKeys := false, apart := false, laid := [("unicode/utf8.acceptRanges", laid_unicode_utf8_acceptRanges), ("postil/slip.sides", laid_postil_slip_sides), ("postil/rack.bys", laid_postil_rack_bys), ("unicode/utf8.first", laid_unicode_utf8_first)] }
def RackFiledSaid : Prop := rackFiledRow.holds Tryz.pinned (OpenSpec.ofChange rackFiledSpec)

/-- ITS FALSE NEIGHBOUR: 'it returns false'. Refute it at one input. -/
def rackFiledWrong : ChangeSpec := { name := "rackFiled", fn := fun _ => fun
  | [d1, d2, d3, d4, d5] => { results := [.lit (.bool false)], args := [d1, d2, d3, d4, d5] }
  | _ => none }
def RackFiledWrongFalsely : Prop := rackFiledRow.holds Tryz.pinned (OpenSpec.ofChange rackFiledWrong)

/-- 'postillaw06.RackWords': WHATEVER THE INPUT: true; the input reads as it did. -/
def rackWordsSpec : ChangeSpec := { name := "rackWords", fn := fun _ => fun
  | [d1, d2, d3, d4] => { results := [.lit (.bool true)], args := [d1, d2, d3, d4] }
  | _ => none }
def rackWordsRow : OpenClaim := { program := "ytpijeomnplmakaagreatdoor", sum := "f26c5dd1112638f91522789690c5295c4189b108e0218a27a8b78f3cfd10e822", func := "postil/postillaw06.RackWords", spec := "rackWords", inPlace := ["slices.overlaps[int]", "internal/bytealg.CountString", "internal/bytealg.IndexByteString", "internal/bytealg.IndexString", "internal/abi.NoEscape", "internal/bytealg.MakeNoZero"], unfollowed := true, recurses := true, named := ["postil/rack.bys", "unicode/utf8.first", "unicode/utf8.acceptRanges", "internal/bytealg.MaxLen", "postil/slip.sides"], plainKeys := false, apart := false, laid := [("unicode/utf8.acceptRanges", laid_unicode_utf8_acceptRanges), ("postil/slip.sides", laid_postil_slip_sides), ("postil/rack.bys", laid_postil_rack_bys), ("unicode/utf8.first", laid_unicode_utf8_first)] }
def RackWordsSaid : Prop := rackWordsRow.holds Tryz.pinned (OpenSpec.ofChange rackWordsSpec)

/-- ITS FALSE NEIGHBOUR: 'it returns false'. Refute it at one input. -/
def rackWordsWrong : ChangeSpec := { name := "rackWords", fn := fun _ => fun
  | [d1, d2, d3, d4] => { results := [.lit (.bool false)], args := [d1, d2, d3, d4] }
  | _ => none }
def RackWordsWrongFalsely : Prop := rackWordsRow.holds Tryz.pinned (OpenSpec.ofChange rackWordsWrong)

/- THE SECOND FORM. 'bulk': how many values and letters a reading holds, each counted each time it is reached (what is shared counts as often as it is met; a slice's spare places count too). A statement '..UptoSaid' is the law's where the arguments, and the package variables that the reading takes, are together of bulk at most 1048576: NARROWER than '..Said'. Prove '..Said' where nothing that the law and all that it calls make is longer than what came in: it says more and counts as full. Else prove '..UptoSaid'. A law counts once. -/
mutual
def uptoBulk {H : Type} : DataW H → Nat
  | .lit (.string bytes) => bytes.length + 1
  | .lit _ => 1
  | .nil => 1
  | .ptr d => uptoBulk d + 1
  | .slice elems spare => uptoBulkAll elems + uptoBulkAll spare + 1
  | .agg parts => uptoBulkAll parts + 1
  | .iface _ d => uptoBulk d + 1
  | .map entries => uptoBulkEntries entries + 1
  | .held _ => 1
def uptoBulkAll {H : Type} : List (DataW H) → Nat
  | [] => 0
  | d :: r => uptoBulk d + uptoBulkAll r
def uptoBulkEntries {H : Type} : List (Lit × DataW H) → Nat
  | [] => 0
  | x :: r => uptoBulkEntry x + uptoBulkEntries r
def uptoBulkEntry {H : Type} : Lit × DataW H → Nat
  | (.string bytes, d) => bytes.length + uptoBulk d + 1
  | (_, d) => uptoBulk d + 1
 end
def uptoSmall : (H : Type) → List (DataW H) → Bool := fun _ ds => decide (uptoBulkAll ds ≤ 1048576)
def OpenSpec.upto (s : _root_.Go.ChangeSpec) : _root_.Go.OpenSpec := { _root_.Go.OpenSpec.ofChange s with cond := some uptoSmall }

/-- 'postillaw06.RackExamples', WHERE WHAT IT READS IS OF BULK AT MOST 1048576: true; the input reads as it did. -/
def rackExamplesUptoRow : OpenClaim := { program := "ytpijeomnplmakaagreatdoor", sum := "f26c5dd1112638f91522789690c5295c4189b108e0218a27a8b78f3cfd10e822", func := "postil/postillaw06.RackExamples", spec := "rackExamples", inPlace := ["slices.overlaps[int]", "internal/bytealg.CountString", "internal/bytealg.IndexByteString", "internal/bytealg.IndexString"], unfollowed := true, recurses := true, named := ["postil/rack.bys", "unicode/utf8.first", "unicode/utf8.acceptRanges", "internal/bytealg.MaxLen"], plainKeys := false, apart := false, laid := [("unicode/utf8.acceptRanges", laid_unicode_utf8_acceptRanges), ("postil/rack.bys", laid_postil_rack_bys), ("unicode/utf8.first", laid_unicode_utf8_first)], narrowed := true }
def RackExamplesUptoSaid : Prop := rackExamplesUptoRow.holds Tryz.pinned (OpenSpec.upto rackExamplesSpec)

/-- 'postillaw06.RackSorted', WHERE WHAT IT READS IS OF BULK AT MOST 1048576: true; the input reads as it did. -/
def rackSortedUptoRow : OpenClaim := { program := "ytpijeomnplmakaagreatdoor", sum := "f26c5dd1112638f91522789690c5295c4189b108e0218a27a8b78f3cfd10e822", func := "postil/postillaw06.RackSorted", spec := "rackSorted", inPlace := ["slices.overlaps[int]", "internal/bytealg.CountString", "internal/bytealg.IndexByteString", "internal/bytealg.IndexString"], unfollowed := true, recurses := true, named := ["postil/rack.bys", "unicode/utf8.first", "unicode/utf8.acceptRanges", "internal/bytealg.MaxLen"], plainKeys := false, apart := false, laid := [("unicode/utf8.acceptRanges", laid_unicode_utf8_acceptRanges), ("postil/rack.bys", laid_postil_rack_bys), ("unicode/utf8.first", laid_unicode_utf8_first)], narrowed := true }
def RackSortedUptoSaid : Prop := rackSortedUptoRow.holds Tryz.pinned (OpenSpec.upto rackSortedSpec)

/-- 'postillaw06.RackFewest', WHERE WHAT IT READS IS OF BULK AT MOST 1048576: true; the input reads as it did. -/
def rackFewestUptoRow : OpenClaim := { program := "ytpijeomnplmakaagreatdoor", sum := "f26c5dd1112638f91522789690c5295c4189b108e0218a27a8b78f3cfd10e822", func := "postil/postillaw06.RackFewest", spec := "rackFewest", inPlace := ["slices.overlaps[int]", "internal/bytealg.CountString", "internal/bytealg.IndexByteString", "internal/bytealg.IndexString"], unfollowed := true, recurses := true, named := ["postil/rack.bys", "unicode/utf8.first", "unicode/utf8.acceptRanges", "internal/bytealg.MaxLen"], plainKeys := false, apart := false, laid := [("unicode/utf8.acceptRanges", laid_unicode_utf8_acceptRanges), ("postil/rack.bys", laid_postil_rack_bys), ("unicode/utf8.first", laid_unicode_utf8_first)], narrowed := true }
def RackFewestUptoSaid : Prop := rackFewestUptoRow.holds Tryz.pinned (OpenSpec.upto rackFewestSpec)

/-- 'postillaw06.RackRuns', WHERE WHAT IT READS IS OF BULK AT MOST 1048576: true; the input reads as it did. -/
def rackRunsUptoRow : OpenClaim := { program := "ytpijeomnplmakaagreatdoor", sum := "f26c5dd1112638f91522789690c5295c4189b108e0218a27a8b78f3cfd10e822", func := "postil/postillaw06.RackRuns", spec := "rackRuns", inPlace := ["slices.overlaps[int]", "internal/bytealg.CountString", "internal/bytealg.IndexByteString", "internal/bytealg.IndexString"], unfollowed := true, recurses := true, named := ["postil/rack.bys", "unicode/utf8.first", "unicode/utf8.acceptRanges", "internal/bytealg.MaxLen"], plainKeys := false, apart := false, laid := [("unicode/utf8.acceptRanges", laid_unicode_utf8_acceptRanges), ("postil/rack.bys", laid_postil_rack_bys), ("unicode/utf8.first", laid_unicode_utf8_first)], narrowed := true }
def RackRunsUptoSaid : Prop := rackRunsUptoRow.holds Tryz.pinned (OpenSpec.upto rackRunsSpec)

/-- 'postillaw06.RackBoxes', WHERE WHAT IT READS IS OF BULK AT MOST 1048576: true; the input reads as it did. -/
def rackBoxesUptoRow : OpenClaim := { program := "ytpijeomnplmakaagreatdoor", sum := "f26c5dd1112638f91522789690c5295c4189b108e0218a27a8b78f3cfd10e822", func := "postil/postillaw06.RackBoxes", spec := "rackBoxes", inPlace := ["slices.overlaps[int]", "internal/bytealg.CountString", "internal/bytealg.IndexByteString", "internal/bytealg.IndexString"], unfollowed := true, recurses := true, named := ["postil/rack.bys", "unicode/utf8.first", "unicode/utf8.acceptRanges", "internal/bytealg.MaxLen"], plainKeys := false, apart := false, laid := [("unicode/utf8.acceptRanges", laid_unicode_utf8_acceptRanges), ("postil/rack.bys", laid_postil_rack_bys), ("unicode/utf8.first", laid_unicode_utf8_first)], narrowed := true }
def RackBoxesUptoSaid : Prop := rackBoxesUptoRow.holds Tryz.pinned (OpenSpec.upto rackBoxesSpec)

/-- 'postillaw06.RackMended', WHERE WHAT IT READS IS OF BULK AT MOST 1048576: true; the input reads as it did. -/
def rackMendedUptoRow : OpenClaim := { program := "ytpijeomnplmakaagreatdoor", sum := "f26c5dd1112638f91522789690c5295c4189b108e0218a27a8b78f3cfd10e822", func := "postil/postillaw06.RackMended", spec := "rackMended", inPlace := ["slices.overlaps[int]", "internal/bytealg.CountString", "internal/bytealg.IndexByteString", "internal/bytealg.IndexString"], unfollowed := true, recurses := true, named := ["postil/rack.bys", "unicode/utf8.first", "unicode/utf8.acceptRanges", "internal/bytealg.MaxLen"], plainKeys := false, apart := false, laid := [("unicode/utf8.acceptRanges", laid_unicode_utf8_acceptRanges), ("postil/rack.bys", laid_postil_rack_bys), ("unicode/utf8.first", laid_unicode_utf8_first)], narrowed := true }
def RackMendedUptoSaid : Prop := rackMendedUptoRow.holds Tryz.pinned (OpenSpec.upto rackMendedSpec)

/-- 'postillaw06.RackChains', WHERE WHAT IT READS IS OF BULK AT MOST 1048576: true; the input reads as it did. -/
def rackChainsUptoRow : OpenClaim := { program := "ytpijeomnplmakaagreatdoor", sum := "f26c5dd1112638f91522789690c5295c4189b108e0218a27a8b78f3cfd10e822", func := "postil/postillaw06.RackChains", spec := "rackChains", inPlace := ["slices.overlaps[int]", "internal/bytealg.CountString", "internal/bytealg.IndexByteString", "internal/bytealg.IndexString"], unfollowed := true, recurses := true, named := ["postil/rack.bys", "unicode/utf8.first", "unicode/utf8.acceptRanges", "internal/bytealg.MaxLen"], plainKeys := false, apart := false, laid := [("unicode/utf8.acceptRanges", laid_unicode_utf8_acceptRanges), ("postil/rack.bys", laid_postil_rack_bys), ("unicode/utf8.first", laid_unicode_utf8_first)], narrowed := true }
def RackChainsUptoSaid : Prop := rackChainsUptoRow.holds Tryz.pinned (OpenSpec.upto rackChainsSpec)

/-- 'postillaw06.RackFell', WHERE WHAT IT READS IS OF BULK AT MOST 1048576: true; the input reads as it did. -/
def rackFellUptoRow : OpenClaim := { program := "ytpijeomnplmakaagreatdoor", sum := "f26c5dd1112638f91522789690c5295c4189b108e0218a27a8b78f3cfd10e822", func := "postil/postillaw06.RackFell", spec := "rackFell", inPlace := ["slices.overlaps[int]", "internal/bytealg.CountString", "internal/bytealg.IndexByteString", "internal/bytealg.IndexString"], unfollowed := true, recurses := true, named := ["postil/rack.bys", "unicode/utf8.first", "unicode/utf8.acceptRanges", "internal/bytealg.MaxLen"], plainKeys := false, apart := false, laid := [("unicode/utf8.acceptRanges", laid_unicode_utf8_acceptRanges), ("postil/rack.bys", laid_postil_rack_bys), ("unicode/utf8.first", laid_unicode_utf8_first)], narrowed := true }
def RackFellUptoSaid : Prop := rackFellUptoRow.holds Tryz.pinned (OpenSpec.upto rackFellSpec)

/-- 'postillaw06.RackFiled', WHERE WHAT IT READS IS OF BULK AT MOST 1048576: true; the input reads as it did. -/
def rackFiledUptoRow : OpenClaim := { program := "ytpijeomnplmakaagreatdoor", sum := "f26c5dd1112638f91522789690c5295c4189b108e0218a27a8b78f3cfd10e822", func := "postil/postillaw06.RackFiled", spec := "rackFiled", inPlace := ["slices.overlaps[int]", "internal/bytealg.CountString", "internal/bytealg.IndexByteString", "internal/bytealg.IndexString", "internal/abi.NoEscape", "internal/bytealg.MakeNoZero"], unfollowed := true, recurses := true, named := ["postil/rack.bys", "unicode/utf8.first", "unicode/utf8.acceptRanges", "internal/bytealg.MaxLen", "postil/slip.sides"], plainKeys := false, apart := false, laid := [("unicode/utf8.acceptRanges", laid_unicode_utf8_acceptRanges), ("postil/slip.sides", laid_postil_slip_sides), ("postil/rack.bys", laid_postil_rack_bys), ("unicode/utf8.first", laid_unicode_utf8_first)], narrowed := true }
def RackFiledUptoSaid : Prop := rackFiledUptoRow.holds Tryz.pinned (OpenSpec.upto rackFiledSpec)

/-- 'postillaw06.RackWords', WHERE WHAT IT READS IS OF BULK AT MOST 1048576: true; the input reads as it did. -/
def rackWordsUptoRow : OpenClaim := { program := "ytpijeomnplmakaagreatdoor", sum := "f26c5dd1112638f91522789690c5295c4189b108e0218a27a8b78f3cfd10e822", func := "postil/postillaw06.RackWords", spec := "rackWords", inPlace := ["slices.overlaps[int]", "internal/bytealg.CountString", "internal/bytealg.IndexByteString", "internal/bytealg.IndexString", "internal/abi.NoEscape", "internal/bytealg.MakeNoZero"], unfollowed := true, recurses := true, named := ["postil/rack.bys", "unicode/utf8.first", "unicode/utf8.acceptRanges", "internal/bytealg.MaxLen", "postil/slip.sides"], plainKeys := false, apart := false, laid := [("unicode/utf8.acceptRanges", laid_unicode_utf8_acceptRanges), ("postil/slip.sides", laid_postil_slip_sides), ("postil/rack.bys", laid_postil_rack_bys), ("unicode/utf8.first", laid_unicode_utf8_first)], narrowed := true }
def RackWordsUptoSaid : Prop := rackWordsUptoRow.holds Tryz.pinned (OpenSpec.upto rackWordsSpec)

end Rows
end Go.Proofs.YtpijeomnplmakaaGreatDoor
