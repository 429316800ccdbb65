/- Texts of the proof, part 2: Types, ReadC, Eng17, Spec0, Txt, Eng19, Eng20, Cmp, Tp1, Lib1, In, Tl1, Tr1, RefB, Tr2, Ts1, ReadT, SpW, ShJ, Eng25, ShP, Tp2, RdS, EqP, Eng21, Eng22, Eng23, Lf1, Lf2, ReadO, ReadS, ReadB, ReadU, Uv, ReadV, Eng24, SrW, SlS, SlX, Sl1, SlM, SlW, SlO, CmpL, SrO, PlO. -/
import Derived.Test.YtpijeomnplmakaaDoorProg
import Derived.KernelRfl
import Derived.Laws.CopyRow
import Derived.Laws.Externs
import Derived.Lib.Overlaps
import Derived.Lib.SliceRun
import Derived.Test.YtpijeomnplmakaaDoorRows
import Derived.Lib.SmallJoins
import Derived.LaidMore
import Derived.Lib.SplitLaws
import Derived.Shelf.Strings.OnBuilder
import Derived.Shelf.Strings.Split
import Derived.Laws.Concat
import Derived.ShapedOpen
import Derived.Deep.Strs
import Derived.Test.YtpijeomnplmakaaDoorRF1
/- What the program's types and functions are, as facts that the rules find by themselves: printed by gen.py off the seat's translation. -/
namespace Go.Proofs.YtpijeomnplmakaaDoor
open Go.RowKit

instance : Mixed Tryd.prog := ⟨by kernel_rfl⟩
instance tu1 : TU Tryd.prog 1 (.func #[] #[] false) := ⟨Tryd.underlying1⟩
instance ts1 : TS Tryd.prog 1 (.nilFunc) 1 8 := ⟨by kernel_rfl⟩
instance tu2 : TU Tryd.prog 2 (.int .i64) := ⟨Tryd.underlying2⟩
instance ts2 : TS Tryd.prog 2 (.int .i64 0) 1 8 := ⟨by kernel_rfl⟩
instance tu3 : TU Tryd.prog 3 (.int .i64) := ⟨Tryd.underlying3⟩
instance ts3 : TS Tryd.prog 3 (.int .i64 0) 1 8 := ⟨by kernel_rfl⟩
instance tu4 : TU Tryd.prog 4 (.bool) := ⟨Tryd.underlying4⟩
instance ts4 : TS Tryd.prog 4 (.bool false) 1 1 := ⟨by kernel_rfl⟩
instance tu5 : TU Tryd.prog 5 (.int .u8) := ⟨Tryd.underlying5⟩
instance ts5 : TS Tryd.prog 5 (.int .u8 0) 1 1 := ⟨by kernel_rfl⟩
instance tu7 : TU Tryd.prog 7 (.struct #[{ name := "x", type := 2, offset := 0, embedded := false, tag := "", pkgPath := "runtime", byteOffset := 0 }, { name := "y", type := 3, offset := 1, embedded := false, tag := "", pkgPath := "runtime", byteOffset := 8 }, { name := "signed", type := 4, offset := 2, embedded := false, tag := "", pkgPath := "runtime", byteOffset := 16 }, { name := "code", type := 6, offset := 3, embedded := false, tag := "", pkgPath := "runtime", byteOffset := 17 }]) := ⟨Tryd.underlying7⟩
instance ts7 : TS Tryd.prog 7 (.agg #[.int .i64 0, .int .i64 0, .bool false, .int .u8 0]) 4 24 := ⟨by kernel_rfl⟩
instance tu9 : TU Tryd.prog 9 (.string) := ⟨Tryd.underlying9⟩
instance ts9 : TS Tryd.prog 9 (.string ⟨#[]⟩) 1 16 := ⟨by kernel_rfl⟩
instance tu12 : TU Tryd.prog 12 (.int .u64) := ⟨Tryd.underlying12⟩
instance ts12 : TS Tryd.prog 12 (.int .u64 0) 1 8 := ⟨by kernel_rfl⟩
instance tu13 : TU Tryd.prog 13 (.struct #[{ name := "msg", type := 9, offset := 0, embedded := false, tag := "", pkgPath := "runtime", byteOffset := 0 }, { name := "addr", type := 12, offset := 1, embedded := false, tag := "", pkgPath := "runtime", byteOffset := 16 }]) := ⟨Tryd.underlying13⟩
instance ts13 : TS Tryd.prog 13 (.agg #[.string ⟨#[]⟩, .int .u64 0]) 2 24 := ⟨by kernel_rfl⟩
instance tu18 : TU Tryd.prog 18 (.struct #[{ name := "typ", type := 17, offset := 0, embedded := false, tag := "", pkgPath := "internal/runtime/maps", byteOffset := 0 }]) := ⟨Tryd.underlying18⟩
instance ts18 : TS Tryd.prog 18 (.agg #[.pointer none]) 1 8 := ⟨by kernel_rfl⟩
instance tu21 : TU Tryd.prog 21 (.int .i32) := ⟨Tryd.underlying21⟩
instance ts21 : TS Tryd.prog 21 (.int .i32 0) 1 4 := ⟨by kernel_rfl⟩
instance : TSl Tryd.prog 22 39 := ⟨Tryd.underlying22⟩
instance tu22 : TU Tryd.prog 22 (.slice 39) := ⟨Tryd.underlying22⟩
instance ts22 : TS Tryd.prog 22 (.slice none 0 0) 1 24 := ⟨by kernel_rfl⟩
instance tu23 : TU Tryd.prog 23 (.func #[22] #[4] false) := ⟨Tryd.underlying23⟩
instance ts23 : TS Tryd.prog 23 (.nilFunc) 1 8 := ⟨by kernel_rfl⟩
instance : TSl Tryd.prog 24 3 := ⟨Tryd.underlying24⟩
instance tu24 : TU Tryd.prog 24 (.slice 3) := ⟨Tryd.underlying24⟩
instance ts24 : TS Tryd.prog 24 (.slice none 0 0) 1 24 := ⟨by kernel_rfl⟩
instance tu25 : TU Tryd.prog 25 (.int .i64) := ⟨Tryd.underlying25⟩
instance ts25 : TS Tryd.prog 25 (.int .i64 0) 1 8 := ⟨by kernel_rfl⟩
instance tu27 : TU Tryd.prog 27 (.func #[22, 5] #[24, 25] false) := ⟨Tryd.underlying27⟩
instance ts27 : TS Tryd.prog 27 (.nilFunc) 1 8 := ⟨by kernel_rfl⟩
instance tu29 : TU Tryd.prog 29 (.func #[22, 5] #[24, 3] false) := ⟨Tryd.underlying29⟩
instance ts29 : TS Tryd.prog 29 (.nilFunc) 1 8 := ⟨by kernel_rfl⟩
instance tu31 : TU Tryd.prog 31 (.func #[22, 5, 3] #[22, 3, 25] false) := ⟨Tryd.underlying31⟩
instance ts31 : TS Tryd.prog 31 (.nilFunc) 1 8 := ⟨by kernel_rfl⟩
instance tu33 : TU Tryd.prog 33 (.func #[22, 5, 3] #[22, 3, 3] false) := ⟨Tryd.underlying33⟩
instance ts33 : TS Tryd.prog 33 (.nilFunc) 1 8 := ⟨by kernel_rfl⟩
instance tu34 : TU Tryd.prog 34 (.func #[24, 24] #[4] false) := ⟨Tryd.underlying34⟩
instance ts34 : TS Tryd.prog 34 (.nilFunc) 1 8 := ⟨by kernel_rfl⟩
instance tu35 : TU Tryd.prog 35 (.func #[22, 22] #[4] false) := ⟨Tryd.underlying35⟩
instance ts35 : TS Tryd.prog 35 (.nilFunc) 1 8 := ⟨by kernel_rfl⟩
instance tu36 : TU Tryd.prog 36 (.struct #[{ name := "Chapter", type := 3, offset := 0, embedded := false, tag := "", pkgPath := "", byteOffset := 0 }, { name := "Line", type := 3, offset := 1, embedded := false, tag := "", pkgPath := "", byteOffset := 8 }, { name := "Word", type := 3, offset := 2, embedded := false, tag := "", pkgPath := "", byteOffset := 16 }]) := ⟨Tryd.underlying36⟩
instance ts36 : TS Tryd.prog 36 (.agg #[.int .i64 0, .int .i64 0, .int .i64 0]) 3 24 := ⟨by kernel_rfl⟩
instance tu37 : TU Tryd.prog 37 (.struct #[{ name := "Chapter", type := 3, offset := 0, embedded := false, tag := "", pkgPath := "", byteOffset := 0 }, { name := "Line", type := 3, offset := 1, embedded := false, tag := "", pkgPath := "", byteOffset := 8 }, { name := "Word", type := 3, offset := 2, embedded := false, tag := "", pkgPath := "", byteOffset := 16 }]) := ⟨Tryd.underlying37⟩
instance ts37 : TS Tryd.prog 37 (.agg #[.int .i64 0, .int .i64 0, .int .i64 0]) 3 24 := ⟨by kernel_rfl⟩
instance tu38 : TU Tryd.prog 38 (.struct #[{ name := "At", type := 37, offset := 0, embedded := false, tag := "", pkgPath := "", byteOffset := 0 }, { name := "Word", type := 9, offset := 3, embedded := false, tag := "", pkgPath := "", byteOffset := 24 }, { name := "Before", type := 9, offset := 4, embedded := false, tag := "", pkgPath := "", byteOffset := 40 }, { name := "After", type := 9, offset := 5, embedded := false, tag := "", pkgPath := "", byteOffset := 56 }]) := ⟨Tryd.underlying38⟩
instance ts38 : TS Tryd.prog 38 (.agg #[.int .i64 0, .int .i64 0, .int .i64 0, .string ⟨#[]⟩, .string ⟨#[]⟩, .string ⟨#[]⟩]) 6 72 := ⟨by kernel_rfl⟩
instance tu39 : TU Tryd.prog 39 (.struct #[{ name := "At", type := 37, offset := 0, embedded := false, tag := "", pkgPath := "", byteOffset := 0 }, { name := "Word", type := 9, offset := 3, embedded := false, tag := "", pkgPath := "", byteOffset := 24 }, { name := "Before", type := 9, offset := 4, embedded := false, tag := "", pkgPath := "", byteOffset := 40 }, { name := "After", type := 9, offset := 5, embedded := false, tag := "", pkgPath := "", byteOffset := 56 }]) := ⟨Tryd.underlying39⟩
instance ts39 : TS Tryd.prog 39 (.agg #[.int .i64 0, .int .i64 0, .int .i64 0, .string ⟨#[]⟩, .string ⟨#[]⟩, .string ⟨#[]⟩]) 6 72 := ⟨by kernel_rfl⟩
instance tu40 : TU Tryd.prog 40 (.func #[22, 5, 3] #[4] false) := ⟨Tryd.underlying40⟩
instance ts40 : TS Tryd.prog 40 (.nilFunc) 1 8 := ⟨by kernel_rfl⟩
instance tu41 : TU Tryd.prog 41 (.func #[39] #[4] false) := ⟨Tryd.underlying41⟩
instance ts41 : TS Tryd.prog 41 (.nilFunc) 1 8 := ⟨by kernel_rfl⟩
instance tu43 : TU Tryd.prog 43 (.func #[39, 39] #[3, 25] false) := ⟨Tryd.underlying43⟩
instance ts43 : TS Tryd.prog 43 (.nilFunc) 1 8 := ⟨by kernel_rfl⟩
instance tu44 : TU Tryd.prog 44 (.func #[3, 3, 24] #[4] true) := ⟨Tryd.underlying44⟩
instance ts44 : TS Tryd.prog 44 (.nilFunc) 1 8 := ⟨by kernel_rfl⟩
instance tu45 : TU Tryd.prog 45 (.func #[39, 39] #[3] false) := ⟨Tryd.underlying45⟩
instance ts45 : TS Tryd.prog 45 (.nilFunc) 1 8 := ⟨by kernel_rfl⟩
instance tu46 : TU Tryd.prog 46 (.struct #[{ name := "compare", type := 45, offset := 0, embedded := false, tag := "", pkgPath := "postil/rack", byteOffset := 0 }]) := ⟨Tryd.underlying46⟩
instance ts46 : TS Tryd.prog 46 (.agg #[.nilFunc]) 1 8 := ⟨by kernel_rfl⟩
instance : TArr Tryd.prog 47 5 46 := ⟨Tryd.underlying47⟩
instance tu47 : TU Tryd.prog 47 (.array 5 46) := ⟨Tryd.underlying47⟩
instance ts47 : TS Tryd.prog 47 (.agg #[.nilFunc, .nilFunc, .nilFunc, .nilFunc, .nilFunc]) 5 40 := ⟨by kernel_rfl⟩
instance tu48 : TU Tryd.prog 48 (.func #[22] #[22] false) := ⟨Tryd.underlying48⟩
instance ts48 : TS Tryd.prog 48 (.nilFunc) 1 8 := ⟨by kernel_rfl⟩
instance tu49 : TU Tryd.prog 49 (.func #[22, 45] #[] false) := ⟨Tryd.underlying49⟩
instance ts49 : TS Tryd.prog 49 (.nilFunc) 1 8 := ⟨by kernel_rfl⟩
instance tu50 : TU Tryd.prog 50 (.func #[22, 51] #[22] false) := ⟨Tryd.underlying50⟩
instance ts50 : TS Tryd.prog 50 (.nilFunc) 1 8 := ⟨by kernel_rfl⟩
instance tu51 : TU Tryd.prog 51 (.func #[39, 39] #[4] false) := ⟨Tryd.underlying51⟩
instance ts51 : TS Tryd.prog 51 (.nilFunc) 1 8 := ⟨by kernel_rfl⟩
instance tu53 : TU Tryd.prog 53 (.func #[22, 39, 45] #[3, 4] false) := ⟨Tryd.underlying53⟩
instance ts53 : TS Tryd.prog 53 (.nilFunc) 1 8 := ⟨by kernel_rfl⟩
instance tu54 : TU Tryd.prog 54 (.func #[3, 3, 3] #[4] false) := ⟨Tryd.underlying54⟩
instance ts54 : TS Tryd.prog 54 (.nilFunc) 1 8 := ⟨by kernel_rfl⟩
instance tu55 : TU Tryd.prog 55 (.func #[39, 39, 5] #[3] false) := ⟨Tryd.underlying55⟩
instance ts55 : TS Tryd.prog 55 (.nilFunc) 1 8 := ⟨by kernel_rfl⟩
instance tu56 : TU Tryd.prog 56 (.pointer 84) := ⟨Tryd.underlying56⟩
instance ts56 : TS Tryd.prog 56 (.pointer none) 1 8 := ⟨by kernel_rfl⟩
instance tu58 : TU Tryd.prog 58 (.func #[24, 3] #[56, 25] false) := ⟨Tryd.underlying58⟩
instance ts58 : TS Tryd.prog 58 (.nilFunc) 1 8 := ⟨by kernel_rfl⟩
instance tu59 : TU Tryd.prog 59 (.func #[70] #[] false) := ⟨Tryd.underlying59⟩
instance ts59 : TS Tryd.prog 59 (.nilFunc) 1 8 := ⟨by kernel_rfl⟩
instance tu60 : TU Tryd.prog 60 (.func #[70] #[] false) := ⟨Tryd.underlying60⟩
instance ts60 : TS Tryd.prog 60 (.nilFunc) 1 8 := ⟨by kernel_rfl⟩
instance tu61 : TU Tryd.prog 61 (.func #[24] #[60] false) := ⟨Tryd.underlying61⟩
instance ts61 : TS Tryd.prog 61 (.nilFunc) 1 8 := ⟨by kernel_rfl⟩
instance tu63 : TU Tryd.prog 63 (.func #[] #[3, 3] false) := ⟨Tryd.underlying63⟩
instance ts63 : TS Tryd.prog 63 (.nilFunc) 1 8 := ⟨by kernel_rfl⟩
instance tu64 : TU Tryd.prog 64 (.func #[24] #[24] false) := ⟨Tryd.underlying64⟩
instance ts64 : TS Tryd.prog 64 (.nilFunc) 1 8 := ⟨by kernel_rfl⟩
instance tu65 : TU Tryd.prog 65 (.func #[24, 3] #[3] false) := ⟨Tryd.underlying65⟩
instance ts65 : TS Tryd.prog 65 (.nilFunc) 1 8 := ⟨by kernel_rfl⟩
instance tu66 : TU Tryd.prog 66 (.func #[24] #[3] true) := ⟨Tryd.underlying66⟩
instance ts66 : TS Tryd.prog 66 (.nilFunc) 1 8 := ⟨by kernel_rfl⟩
instance tu67 : TU Tryd.prog 67 (.func #[9, 9] #[3] false) := ⟨Tryd.underlying67⟩
instance ts67 : TS Tryd.prog 67 (.nilFunc) 1 8 := ⟨by kernel_rfl⟩
instance tu68 : TU Tryd.prog 68 (.func #[37, 37] #[3] false) := ⟨Tryd.underlying68⟩
instance ts68 : TS Tryd.prog 68 (.nilFunc) 1 8 := ⟨by kernel_rfl⟩
instance tu69 : TU Tryd.prog 69 (.func #[24, 70] #[4] false) := ⟨Tryd.underlying69⟩
instance ts69 : TS Tryd.prog 69 (.nilFunc) 1 8 := ⟨by kernel_rfl⟩
instance tu70 : TU Tryd.prog 70 (.func #[3] #[4] false) := ⟨Tryd.underlying70⟩
instance ts70 : TS Tryd.prog 70 (.nilFunc) 1 8 := ⟨by kernel_rfl⟩
instance tu71 : TU Tryd.prog 71 (.func #[22, 3, 3, 3, 45] #[] false) := ⟨Tryd.underlying71⟩
instance ts71 : TS Tryd.prog 71 (.nilFunc) 1 8 := ⟨by kernel_rfl⟩
instance tu72 : TU Tryd.prog 72 (.func #[73] #[3] false) := ⟨Tryd.underlying72⟩
instance ts72 : TS Tryd.prog 72 (.nilFunc) 1 8 := ⟨by kernel_rfl⟩
instance tu73 : TU Tryd.prog 73 (.int .u64) := ⟨Tryd.underlying73⟩
instance ts73 : TS Tryd.prog 73 (.int .u64 0) 1 8 := ⟨by kernel_rfl⟩
instance : TSl Tryd.prog 74 9 := ⟨Tryd.underlying74⟩
instance tu74 : TU Tryd.prog 74 (.slice 9) := ⟨Tryd.underlying74⟩
instance ts74 : TS Tryd.prog 74 (.slice none 0 0) 1 24 := ⟨by kernel_rfl⟩
instance tu76 : TU Tryd.prog 76 (.func #[9] #[74, 4] false) := ⟨Tryd.underlying76⟩
instance ts76 : TS Tryd.prog 76 (.nilFunc) 1 8 := ⟨by kernel_rfl⟩
instance tu77 : TU Tryd.prog 77 (.func #[9] #[4] false) := ⟨Tryd.underlying77⟩
instance ts77 : TS Tryd.prog 77 (.nilFunc) 1 8 := ⟨by kernel_rfl⟩
instance tu78 : TU Tryd.prog 78 (.func #[39, 39] #[3, 3] false) := ⟨Tryd.underlying78⟩
instance ts78 : TS Tryd.prog 78 (.nilFunc) 1 8 := ⟨by kernel_rfl⟩
instance tu79 : TU Tryd.prog 79 (.func #[24] #[25] false) := ⟨Tryd.underlying79⟩
instance ts79 : TS Tryd.prog 79 (.nilFunc) 1 8 := ⟨by kernel_rfl⟩
instance : TSl Tryd.prog 80 85 := ⟨Tryd.underlying80⟩
instance tu80 : TU Tryd.prog 80 (.slice 85) := ⟨Tryd.underlying80⟩
instance ts80 : TS Tryd.prog 80 (.slice none 0 0) 1 24 := ⟨by kernel_rfl⟩
instance tu81 : TU Tryd.prog 81 (.struct #[{ name := "numbers", type := 24, offset := 0, embedded := false, tag := "", pkgPath := "postil/rack", byteOffset := 0 }, { name := "ends", type := 80, offset := 1, embedded := false, tag := "", pkgPath := "postil/rack", byteOffset := 24 }]) := ⟨Tryd.underlying81⟩
instance ts81 : TS Tryd.prog 81 (.agg #[.slice none 0 0, .slice none 0 0]) 2 48 := ⟨by kernel_rfl⟩
instance tu82 : TU Tryd.prog 82 (.struct #[{ name := "numbers", type := 24, offset := 0, embedded := false, tag := "", pkgPath := "postil/rack", byteOffset := 0 }, { name := "ends", type := 80, offset := 1, embedded := false, tag := "", pkgPath := "postil/rack", byteOffset := 24 }]) := ⟨Tryd.underlying82⟩
instance ts82 : TS Tryd.prog 82 (.agg #[.slice none 0 0, .slice none 0 0]) 2 48 := ⟨by kernel_rfl⟩
instance tu83 : TU Tryd.prog 83 (.struct #[{ name := "sheet", type := 82, offset := 0, embedded := true, tag := "", pkgPath := "postil/rack", byteOffset := 0 }, { name := "deck", type := 24, offset := 2, embedded := false, tag := "", pkgPath := "postil/rack", byteOffset := 48 }, { name := "boxes", type := 3, offset := 3, embedded := false, tag := "", pkgPath := "postil/rack", byteOffset := 72 }]) := ⟨Tryd.underlying83⟩
instance ts83 : TS Tryd.prog 83 (.agg #[.slice none 0 0, .slice none 0 0, .slice none 0 0, .int .i64 0]) 4 80 := ⟨by kernel_rfl⟩
instance tu84 : TU Tryd.prog 84 (.struct #[{ name := "sheet", type := 82, offset := 0, embedded := true, tag := "", pkgPath := "postil/rack", byteOffset := 0 }, { name := "deck", type := 24, offset := 2, embedded := false, tag := "", pkgPath := "postil/rack", byteOffset := 48 }, { name := "boxes", type := 3, offset := 3, embedded := false, tag := "", pkgPath := "postil/rack", byteOffset := 72 }]) := ⟨Tryd.underlying84⟩
instance ts84 : TS Tryd.prog 84 (.agg #[.slice none 0 0, .slice none 0 0, .slice none 0 0, .int .i64 0]) 4 80 := ⟨by kernel_rfl⟩
instance : TArr Tryd.prog 85 2 3 := ⟨Tryd.underlying85⟩
instance tu85 : TU Tryd.prog 85 (.array 2 3) := ⟨Tryd.underlying85⟩
instance ts85 : TS Tryd.prog 85 (.agg #[.int .i64 0, .int .i64 0]) 2 16 := ⟨by kernel_rfl⟩
instance tu86 : TU Tryd.prog 86 (.func #[24, 87] #[] false) := ⟨Tryd.underlying86⟩
instance ts86 : TS Tryd.prog 86 (.nilFunc) 1 8 := ⟨by kernel_rfl⟩
instance tu87 : TU Tryd.prog 87 (.func #[3, 3] #[3] false) := ⟨Tryd.underlying87⟩
instance ts87 : TS Tryd.prog 87 (.nilFunc) 1 8 := ⟨by kernel_rfl⟩
instance tu88 : TU Tryd.prog 88 (.func #[24] #[24, 3] false) := ⟨Tryd.underlying88⟩
instance ts88 : TS Tryd.prog 88 (.nilFunc) 1 8 := ⟨by kernel_rfl⟩
instance tu89 : TU Tryd.prog 89 (.func #[24, 70] #[3] false) := ⟨Tryd.underlying89⟩
instance ts89 : TS Tryd.prog 89 (.nilFunc) 1 8 := ⟨by kernel_rfl⟩
instance tu90 : TU Tryd.prog 90 (.func #[22, 3, 3, 45] #[] false) := ⟨Tryd.underlying90⟩
instance ts90 : TS Tryd.prog 90 (.nilFunc) 1 8 := ⟨by kernel_rfl⟩
instance tu91 : TU Tryd.prog 91 (.int .i64) := ⟨Tryd.underlying91⟩
instance ts91 : TS Tryd.prog 91 (.int .i64 0) 1 8 := ⟨by kernel_rfl⟩
instance tu93 : TU Tryd.prog 93 (.func #[22, 3, 3, 45] #[3, 91] false) := ⟨Tryd.underlying93⟩
instance ts93 : TS Tryd.prog 93 (.nilFunc) 1 8 := ⟨by kernel_rfl⟩
instance tu94 : TU Tryd.prog 94 (.func #[22, 3, 3, 45] #[4] false) := ⟨Tryd.underlying94⟩
instance ts94 : TS Tryd.prog 94 (.nilFunc) 1 8 := ⟨by kernel_rfl⟩
instance tu95 : TU Tryd.prog 95 (.func #[22, 3, 3, 3, 45] #[3] false) := ⟨Tryd.underlying95⟩
instance ts95 : TS Tryd.prog 95 (.nilFunc) 1 8 := ⟨by kernel_rfl⟩
instance tu96 : TU Tryd.prog 96 (.func #[22, 3, 3, 3, 45] #[3, 4] false) := ⟨Tryd.underlying96⟩
instance ts96 : TS Tryd.prog 96 (.nilFunc) 1 8 := ⟨by kernel_rfl⟩
instance tu97 : TU Tryd.prog 97 (.func #[98] #[3] false) := ⟨Tryd.underlying97⟩
instance ts97 : TS Tryd.prog 97 (.nilFunc) 1 8 := ⟨by kernel_rfl⟩
instance tu98 : TU Tryd.prog 98 (.int .u32) := ⟨Tryd.underlying98⟩
instance ts98 : TS Tryd.prog 98 (.int .u32 0) 1 4 := ⟨by kernel_rfl⟩
instance tu99 : TU Tryd.prog 99 (.func #[100] #[3] false) := ⟨Tryd.underlying99⟩
instance ts99 : TS Tryd.prog 99 (.nilFunc) 1 8 := ⟨by kernel_rfl⟩
instance tu100 : TU Tryd.prog 100 (.int .u64) := ⟨Tryd.underlying100⟩
instance ts100 : TS Tryd.prog 100 (.int .u64 0) 1 8 := ⟨by kernel_rfl⟩
instance tu101 : TU Tryd.prog 101 (.func #[37, 37] #[4] false) := ⟨Tryd.underlying101⟩
instance ts101 : TS Tryd.prog 101 (.nilFunc) 1 8 := ⟨by kernel_rfl⟩
instance tu102 : TU Tryd.prog 102 (.func #[24, 3, 87] #[] false) := ⟨Tryd.underlying102⟩
instance ts102 : TS Tryd.prog 102 (.nilFunc) 1 8 := ⟨by kernel_rfl⟩
instance tu103 : TU Tryd.prog 103 (.func #[9, 9] #[74] false) := ⟨Tryd.underlying103⟩
instance ts103 : TS Tryd.prog 103 (.nilFunc) 1 8 := ⟨by kernel_rfl⟩
instance tu104 : TU Tryd.prog 104 (.func #[105, 106] #[4] false) := ⟨Tryd.underlying104⟩
instance ts104 : TS Tryd.prog 104 (.nilFunc) 1 8 := ⟨by kernel_rfl⟩
instance : TSl Tryd.prog 105 5 := ⟨Tryd.underlying105⟩
instance tu105 : TU Tryd.prog 105 (.slice 5) := ⟨Tryd.underlying105⟩
instance ts105 : TS Tryd.prog 105 (.slice none 0 0) 1 24 := ⟨by kernel_rfl⟩
instance tu106 : TU Tryd.prog 106 (.func #[5] #[4] false) := ⟨Tryd.underlying106⟩
instance ts106 : TS Tryd.prog 106 (.nilFunc) 1 8 := ⟨by kernel_rfl⟩
instance tu107 : TU Tryd.prog 107 (.int .u64) := ⟨Tryd.underlying107⟩
instance ts107 : TS Tryd.prog 107 (.int .u64 0) 1 8 := ⟨by kernel_rfl⟩
instance tu108 : TU Tryd.prog 108 (.func #[3] #[73] false) := ⟨Tryd.underlying108⟩
instance ts108 : TS Tryd.prog 108 (.nilFunc) 1 8 := ⟨by kernel_rfl⟩
instance tu109 : TU Tryd.prog 109 (.func #[] #[100] false) := ⟨Tryd.underlying109⟩
instance ts109 : TS Tryd.prog 109 (.nilFunc) 1 8 := ⟨by kernel_rfl⟩
instance tu110 : TU Tryd.prog 110 (.func #[22, 3, 111, 45] #[3] false) := ⟨Tryd.underlying110⟩
instance ts110 : TS Tryd.prog 110 (.nilFunc) 1 8 := ⟨by kernel_rfl⟩
instance tu111 : TU Tryd.prog 111 (.pointer 3) := ⟨Tryd.underlying111⟩
instance ts111 : TS Tryd.prog 111 (.pointer none) 1 8 := ⟨by kernel_rfl⟩
instance tu112 : TU Tryd.prog 112 (.func #[22, 3, 3, 3, 111, 45] #[3] false) := ⟨Tryd.underlying112⟩
instance ts112 : TS Tryd.prog 112 (.nilFunc) 1 8 := ⟨by kernel_rfl⟩
instance tu113 : TU Tryd.prog 113 (.func #[24, 3, 3, 87] #[] false) := ⟨Tryd.underlying113⟩
instance ts113 : TS Tryd.prog 113 (.nilFunc) 1 8 := ⟨by kernel_rfl⟩
instance tu114 : TU Tryd.prog 114 (.func #[24, 3, 3, 3, 87] #[] false) := ⟨Tryd.underlying114⟩
instance ts114 : TS Tryd.prog 114 (.nilFunc) 1 8 := ⟨by kernel_rfl⟩
instance tu115 : TU Tryd.prog 115 (.func #[9, 9, 3, 3] #[74] false) := ⟨Tryd.underlying115⟩
instance ts115 : TS Tryd.prog 115 (.nilFunc) 1 8 := ⟨by kernel_rfl⟩
instance tu116 : TU Tryd.prog 116 (.func #[105, 106] #[3] false) := ⟨Tryd.underlying116⟩
instance ts116 : TS Tryd.prog 116 (.nilFunc) 1 8 := ⟨by kernel_rfl⟩
instance tu117 : TU Tryd.prog 117 (.pointer 107) := ⟨Tryd.underlying117⟩
instance ts117 : TS Tryd.prog 117 (.pointer none) 1 8 := ⟨by kernel_rfl⟩
instance tu118 : TU Tryd.prog 118 (.func #[22, 3, 3, 111, 45] #[3, 3] false) := ⟨Tryd.underlying118⟩
instance ts118 : TS Tryd.prog 118 (.nilFunc) 1 8 := ⟨by kernel_rfl⟩
instance tu119 : TU Tryd.prog 119 (.func #[9, 3] #[74] false) := ⟨Tryd.underlying119⟩
instance ts119 : TS Tryd.prog 119 (.nilFunc) 1 8 := ⟨by kernel_rfl⟩
instance tu120 : TU Tryd.prog 120 (.func #[9] #[3] false) := ⟨Tryd.underlying120⟩
instance ts120 : TS Tryd.prog 120 (.nilFunc) 1 8 := ⟨by kernel_rfl⟩
instance tu122 : TU Tryd.prog 122 (.func #[9] #[21, 3] false) := ⟨Tryd.underlying122⟩
instance ts122 : TS Tryd.prog 122 (.nilFunc) 1 8 := ⟨by kernel_rfl⟩
instance tu123 : TU Tryd.prog 123 (.func #[9, 5] #[3] false) := ⟨Tryd.underlying123⟩
instance ts123 : TS Tryd.prog 123 (.nilFunc) 1 8 := ⟨by kernel_rfl⟩
instance tu124 : TU Tryd.prog 124 (.func #[3] #[3] false) := ⟨Tryd.underlying124⟩
instance ts124 : TS Tryd.prog 124 (.nilFunc) 1 8 := ⟨by kernel_rfl⟩
instance : TArr Tryd.prog 125 256 5 := ⟨Tryd.underlying125⟩
instance tu125 : TU Tryd.prog 125 (.array 256 5) := ⟨Tryd.underlying125⟩
instance ts125 : TS Tryd.prog 125 (.agg #[.int .u8 0, .int .u8 0, .int .u8 0, .int .u8 0, .int .u8 0, .int .u8 0, .int .u8 0, .int .u8 0, .int .u8 0, .int .u8 0, .int .u8 0, .int .u8 0, .int .u8 0, .int .u8 0, .int .u8 0, .int .u8 0, .int .u8 0, .int .u8 0, .int .u8 0, .int .u8 0, .int .u8 0, .int .u8 0, .int .u8 0, .int .u8 0, .int .u8 0, .int .u8 0, .int .u8 0, .int .u8 0, .int .u8 0, .int .u8 0, .int .u8 0, .int .u8 0, .int .u8 0, .int .u8 0, .int .u8 0, .int .u8 0, .int .u8 0, .int .u8 0, .int .u8 0, .int .u8 0, .int .u8 0, .int .u8 0, .int .u8 0, .int .u8 0, .int .u8 0, .int .u8 0, .int .u8 0, .int .u8 0, .int .u8 0, .int .u8 0, .int .u8 0, .int .u8 0, .int .u8 0, .int .u8 0, .int .u8 0, .int .u8 0, .int .u8 0, .int .u8 0, .int .u8 0, .int .u8 0, .int .u8 0, .int .u8 0, .int .u8 0, .int .u8 0, .int .u8 0, .int .u8 0, .int .u8 0, .int .u8 0, .int .u8 0, .int .u8 0, .int .u8 0, .int .u8 0, .int .u8 0, .int .u8 0, .int .u8 0, .int .u8 0, .int .u8 0, .int .u8 0, .int .u8 0, .int .u8 0, .int .u8 0, .int .u8 0, .int .u8 0, .int .u8 0, .int .u8 0, .int .u8 0, .int .u8 0, .int .u8 0, .int .u8 0, .int .u8 0, .int .u8 0, .int .u8 0, .int .u8 0, .int .u8 0, .int .u8 0, .int .u8 0, .int .u8 0, .int .u8 0, .int .u8 0, .int .u8 0, .int .u8 0, .int .u8 0, .int .u8 0, .int .u8 0, .int .u8 0, .int .u8 0, .int .u8 0, .int .u8 0, .int .u8 0, .int .u8 0, .int .u8 0, .int .u8 0, .int .u8 0, .int .u8 0, .int .u8 0, .int .u8 0, .int .u8 0, .int .u8 0, .int .u8 0, .int .u8 0, .int .u8 0, .int .u8 0, .int .u8 0, .int .u8 0, .int .u8 0, .int .u8 0, .int .u8 0, .int .u8 0, .int .u8 0, .int .u8 0, .int .u8 0, .int .u8 0, .int .u8 0, .int .u8 0, .int .u8 0, .int .u8 0, .int .u8 0, .int .u8 0, .int .u8 0, .int .u8 0, .int .u8 0, .int .u8 0, .int .u8 0, .int .u8 0, .int .u8 0, .int .u8 0, .int .u8 0, .int .u8 0, .int .u8 0, .int .u8 0, .int .u8 0, .int .u8 0, .int .u8 0, .int .u8 0, .int .u8 0, .int .u8 0, .int .u8 0, .int .u8 0, .int .u8 0, .int .u8 0, .int .u8 0, .int .u8 0, .int .u8 0, .int .u8 0, .int .u8 0, .int .u8 0, .int .u8 0, .int .u8 0, .int .u8 0, .int .u8 0, .int .u8 0, .int .u8 0, .int .u8 0, .int .u8 0, .int .u8 0, .int .u8 0, .int .u8 0, .int .u8 0, .int .u8 0, .int .u8 0, .int .u8 0, .int .u8 0, .int .u8 0, .int .u8 0, .int .u8 0, .int .u8 0, .int .u8 0, .int .u8 0, .int .u8 0, .int .u8 0, .int .u8 0, .int .u8 0, .int .u8 0, .int .u8 0, .int .u8 0, .int .u8 0, .int .u8 0, .int .u8 0, .int .u8 0, .int .u8 0, .int .u8 0, .int .u8 0, .int .u8 0, .int .u8 0, .int .u8 0, .int .u8 0, .int .u8 0, .int .u8 0, .int .u8 0, .int .u8 0, .int .u8 0, .int .u8 0, .int .u8 0, .int .u8 0, .int .u8 0, .int .u8 0, .int .u8 0, .int .u8 0, .int .u8 0, .int .u8 0, .int .u8 0, .int .u8 0, .int .u8 0, .int .u8 0, .int .u8 0, .int .u8 0, .int .u8 0, .int .u8 0, .int .u8 0, .int .u8 0, .int .u8 0, .int .u8 0, .int .u8 0, .int .u8 0, .int .u8 0, .int .u8 0, .int .u8 0, .int .u8 0, .int .u8 0, .int .u8 0, .int .u8 0, .int .u8 0, .int .u8 0, .int .u8 0, .int .u8 0, .int .u8 0, .int .u8 0, .int .u8 0, .int .u8 0, .int .u8 0, .int .u8 0, .int .u8 0, .int .u8 0, .int .u8 0, .int .u8 0, .int .u8 0]) 256 256 := ⟨by kernel_rfl⟩
instance tu126 : TU Tryd.prog 126 (.struct #[{ name := "lo", type := 5, offset := 0, embedded := false, tag := "", pkgPath := "unicode/utf8", byteOffset := 0 }, { name := "hi", type := 5, offset := 1, embedded := false, tag := "", pkgPath := "unicode/utf8", byteOffset := 1 }]) := ⟨Tryd.underlying126⟩
instance ts126 : TS Tryd.prog 126 (.agg #[.int .u8 0, .int .u8 0]) 2 2 := ⟨by kernel_rfl⟩
instance tu127 : TU Tryd.prog 127 (.struct #[{ name := "lo", type := 5, offset := 0, embedded := false, tag := "", pkgPath := "unicode/utf8", byteOffset := 0 }, { name := "hi", type := 5, offset := 1, embedded := false, tag := "", pkgPath := "unicode/utf8", byteOffset := 1 }]) := ⟨Tryd.underlying127⟩
instance ts127 : TS Tryd.prog 127 (.agg #[.int .u8 0, .int .u8 0]) 2 2 := ⟨by kernel_rfl⟩
instance : TArr Tryd.prog 128 16 127 := ⟨Tryd.underlying128⟩
instance tu128 : TU Tryd.prog 128 (.array 16 127) := ⟨Tryd.underlying128⟩
instance ts128 : TS Tryd.prog 128 (.agg #[.int .u8 0, .int .u8 0, .int .u8 0, .int .u8 0, .int .u8 0, .int .u8 0, .int .u8 0, .int .u8 0, .int .u8 0, .int .u8 0, .int .u8 0, .int .u8 0, .int .u8 0, .int .u8 0, .int .u8 0, .int .u8 0, .int .u8 0, .int .u8 0, .int .u8 0, .int .u8 0, .int .u8 0, .int .u8 0, .int .u8 0, .int .u8 0, .int .u8 0, .int .u8 0, .int .u8 0, .int .u8 0, .int .u8 0, .int .u8 0, .int .u8 0, .int .u8 0]) 32 32 := ⟨by kernel_rfl⟩
instance tu130 : TU Tryd.prog 130 (.func #[9] #[98, 98] false) := ⟨Tryd.underlying130⟩
instance ts130 : TS Tryd.prog 130 (.nilFunc) 1 8 := ⟨by kernel_rfl⟩
instance tu131 : TU Tryd.prog 131 (.func #[] #[9] false) := ⟨Tryd.underlying131⟩
instance ts131 : TS Tryd.prog 131 (.nilFunc) 1 8 := ⟨by kernel_rfl⟩
instance tu132 : TU Tryd.prog 132 (.struct #[{ name := "_interface", type := 17, offset := 0, embedded := false, tag := "", pkgPath := "runtime", byteOffset := 0 }, { name := "concrete", type := 17, offset := 1, embedded := false, tag := "", pkgPath := "runtime", byteOffset := 8 }, { name := "asserted", type := 17, offset := 2, embedded := false, tag := "", pkgPath := "runtime", byteOffset := 16 }, { name := "missingMethod", type := 9, offset := 3, embedded := false, tag := "", pkgPath := "runtime", byteOffset := 24 }]) := ⟨Tryd.underlying132⟩
instance ts132 : TS Tryd.prog 132 (.agg #[.pointer none, .pointer none, .pointer none, .string ⟨#[]⟩]) 4 40 := ⟨by kernel_rfl⟩
instance : TArr Tryd.prog 134 0 16 := ⟨Tryd.underlying134⟩
instance tu134 : TU Tryd.prog 134 (.array 0 16) := ⟨Tryd.underlying134⟩
instance ts134 : TS Tryd.prog 134 (.agg #[]) 0 0 := ⟨by kernel_rfl⟩
instance tu135 : TU Tryd.prog 135 (.struct #[{ name := "_", type := 134, offset := 0, embedded := false, tag := "", pkgPath := "runtime", byteOffset := 0 }]) := ⟨Tryd.underlying135⟩
instance ts135 : TS Tryd.prog 135 (.agg #[]) 0 0 := ⟨by kernel_rfl⟩
instance tu137 : TU Tryd.prog 137 (.func #[] #[3] false) := ⟨Tryd.underlying137⟩
instance ts137 : TS Tryd.prog 137 (.nilFunc) 1 8 := ⟨by kernel_rfl⟩
instance tu140 : TU Tryd.prog 140 (.func #[146, 146] #[4] false) := ⟨Tryd.underlying140⟩
instance ts140 : TS Tryd.prog 140 (.nilFunc) 1 8 := ⟨by kernel_rfl⟩
instance tu141 : TU Tryd.prog 141 (.pointer 5) := ⟨Tryd.underlying141⟩
instance ts141 : TS Tryd.prog 141 (.pointer none) 1 8 := ⟨by kernel_rfl⟩
instance tu144 : TU Tryd.prog 144 (.struct #[{ name := "Size_", type := 12, offset := 0, embedded := false, tag := "", pkgPath := "", byteOffset := 0 }, { name := "PtrBytes", type := 12, offset := 1, embedded := false, tag := "", pkgPath := "", byteOffset := 8 }, { name := "Hash", type := 98, offset := 2, embedded := false, tag := "", pkgPath := "", byteOffset := 16 }, { name := "TFlag", type := 138, offset := 3, embedded := false, tag := "", pkgPath := "", byteOffset := 20 }, { name := "Align_", type := 5, offset := 4, embedded := false, tag := "", pkgPath := "", byteOffset := 21 }, { name := "FieldAlign_", type := 5, offset := 5, embedded := false, tag := "", pkgPath := "", byteOffset := 22 }, { name := "Kind_", type := 139, offset := 6, embedded := false, tag := "", pkgPath := "", byteOffset := 23 }, { name := "Equal", type := 140, offset := 7, embedded := false, tag := "", pkgPath := "", byteOffset := 24 }, { name := "GCData", type := 141, offset := 8, embedded := false, tag := "", pkgPath := "", byteOffset := 32 }, { name := "Str", type := 142, offset := 9, embedded := false, tag := "", pkgPath := "", byteOffset := 40 }, { name := "PtrToThis", type := 143, offset := 10, embedded := false, tag := "", pkgPath := "", byteOffset := 44 }]) := ⟨Tryd.underlying144⟩
instance ts144 : TS Tryd.prog 144 (.agg #[.int .u64 0, .int .u64 0, .int .u32 0, .int .u8 0, .int .u8 0, .int .u8 0, .int .u8 0, .nilFunc, .pointer none, .int .i32 0, .int .i32 0]) 11 48 := ⟨by kernel_rfl⟩
instance tu146 : TU Tryd.prog 146 (.unsafePointer) := ⟨Tryd.underlying146⟩
instance ts146 : TS Tryd.prog 146 (.pointer none) 1 8 := ⟨by kernel_rfl⟩
instance : TB Tryd.prog 7 [.int .i64 0, .int .i64 0, .bool false, .int .u8 0] (fun i => ([(0, 1), (1, 1), (2, 1), (3, 1)] : List (Nat × Nat))[i]?) := TB.struct Tryd.underlying7 ts7 (by kernel_rfl)
instance : FA Tryd.prog 7 0 0 := ⟨_, _, _, _, _, Tryd.underlying7, rfl, rfl, ts2⟩
instance : FV Tryd.prog 7 0 0 := ⟨_, _, _, Tryd.underlying7, rfl, rfl, tu2, rfl⟩
instance : FA Tryd.prog 7 1 1 := ⟨_, _, _, _, _, Tryd.underlying7, rfl, rfl, ts3⟩
instance : FV Tryd.prog 7 1 1 := ⟨_, _, _, Tryd.underlying7, rfl, rfl, tu3, rfl⟩
instance : FA Tryd.prog 7 2 2 := ⟨_, _, _, _, _, Tryd.underlying7, rfl, rfl, ts4⟩
instance : FV Tryd.prog 7 2 2 := ⟨_, _, _, Tryd.underlying7, rfl, rfl, tu4, rfl⟩
instance : TB Tryd.prog 13 [.string ⟨#[]⟩, .int .u64 0] (fun i => ([(0, 1), (1, 1)] : List (Nat × Nat))[i]?) := TB.struct Tryd.underlying13 ts13 (by kernel_rfl)
instance : FA Tryd.prog 13 0 0 := ⟨_, _, _, _, _, Tryd.underlying13, rfl, rfl, ts9⟩
instance : FV Tryd.prog 13 0 0 := ⟨_, _, _, Tryd.underlying13, rfl, rfl, tu9, rfl⟩
instance : FA Tryd.prog 13 1 1 := ⟨_, _, _, _, _, Tryd.underlying13, rfl, rfl, ts12⟩
instance : FV Tryd.prog 13 1 1 := ⟨_, _, _, Tryd.underlying13, rfl, rfl, tu12, rfl⟩
instance : TB Tryd.prog 18 [.pointer none] (fun i => ([(0, 1)] : List (Nat × Nat))[i]?) := TB.struct Tryd.underlying18 ts18 (by kernel_rfl)
instance : TB Tryd.prog 36 [.int .i64 0, .int .i64 0, .int .i64 0] (fun i => ([(0, 1), (1, 1), (2, 1)] : List (Nat × Nat))[i]?) := TB.struct Tryd.underlying36 ts36 (by kernel_rfl)
instance : FA Tryd.prog 36 0 0 := ⟨_, _, _, _, _, Tryd.underlying36, rfl, rfl, ts3⟩
instance : FV Tryd.prog 36 0 0 := ⟨_, _, _, Tryd.underlying36, rfl, rfl, tu3, rfl⟩
instance : FA Tryd.prog 36 1 1 := ⟨_, _, _, _, _, Tryd.underlying36, rfl, rfl, ts3⟩
instance : FV Tryd.prog 36 1 1 := ⟨_, _, _, Tryd.underlying36, rfl, rfl, tu3, rfl⟩
instance : FA Tryd.prog 36 2 2 := ⟨_, _, _, _, _, Tryd.underlying36, rfl, rfl, ts3⟩
instance : FV Tryd.prog 36 2 2 := ⟨_, _, _, Tryd.underlying36, rfl, rfl, tu3, rfl⟩
instance : TB Tryd.prog 37 [.int .i64 0, .int .i64 0, .int .i64 0] (fun i => ([(0, 1), (1, 1), (2, 1)] : List (Nat × Nat))[i]?) := TB.struct Tryd.underlying37 ts37 (by kernel_rfl)
instance : FA Tryd.prog 37 0 0 := ⟨_, _, _, _, _, Tryd.underlying37, rfl, rfl, ts3⟩
instance : FV Tryd.prog 37 0 0 := ⟨_, _, _, Tryd.underlying37, rfl, rfl, tu3, rfl⟩
instance : FA Tryd.prog 37 1 1 := ⟨_, _, _, _, _, Tryd.underlying37, rfl, rfl, ts3⟩
instance : FV Tryd.prog 37 1 1 := ⟨_, _, _, Tryd.underlying37, rfl, rfl, tu3, rfl⟩
instance : FA Tryd.prog 37 2 2 := ⟨_, _, _, _, _, Tryd.underlying37, rfl, rfl, ts3⟩
instance : FV Tryd.prog 37 2 2 := ⟨_, _, _, Tryd.underlying37, rfl, rfl, tu3, rfl⟩
instance : TB Tryd.prog 38 [.int .i64 0, .int .i64 0, .int .i64 0, .string ⟨#[]⟩, .string ⟨#[]⟩, .string ⟨#[]⟩] (fun i => ([(0, 3), (3, 1), (4, 1), (5, 1)] : List (Nat × Nat))[i]?) := TB.struct Tryd.underlying38 ts38 (by kernel_rfl)
instance : FA Tryd.prog 38 0 0 := ⟨_, _, _, _, _, Tryd.underlying38, rfl, rfl, ts37⟩
instance : FA Tryd.prog 38 1 3 := ⟨_, _, _, _, _, Tryd.underlying38, rfl, rfl, ts9⟩
instance : FV Tryd.prog 38 1 3 := ⟨_, _, _, Tryd.underlying38, rfl, rfl, tu9, rfl⟩
instance : FA Tryd.prog 38 2 4 := ⟨_, _, _, _, _, Tryd.underlying38, rfl, rfl, ts9⟩
instance : FV Tryd.prog 38 2 4 := ⟨_, _, _, Tryd.underlying38, rfl, rfl, tu9, rfl⟩
instance : FA Tryd.prog 38 3 5 := ⟨_, _, _, _, _, Tryd.underlying38, rfl, rfl, ts9⟩
instance : FV Tryd.prog 38 3 5 := ⟨_, _, _, Tryd.underlying38, rfl, rfl, tu9, rfl⟩
instance : TB Tryd.prog 39 [.int .i64 0, .int .i64 0, .int .i64 0, .string ⟨#[]⟩, .string ⟨#[]⟩, .string ⟨#[]⟩] (fun i => ([(0, 3), (3, 1), (4, 1), (5, 1)] : List (Nat × Nat))[i]?) := TB.struct Tryd.underlying39 ts39 (by kernel_rfl)
instance : FA Tryd.prog 39 0 0 := ⟨_, _, _, _, _, Tryd.underlying39, rfl, rfl, ts37⟩
instance : FA Tryd.prog 39 1 3 := ⟨_, _, _, _, _, Tryd.underlying39, rfl, rfl, ts9⟩
instance : FV Tryd.prog 39 1 3 := ⟨_, _, _, Tryd.underlying39, rfl, rfl, tu9, rfl⟩
instance : FA Tryd.prog 39 2 4 := ⟨_, _, _, _, _, Tryd.underlying39, rfl, rfl, ts9⟩
instance : FV Tryd.prog 39 2 4 := ⟨_, _, _, Tryd.underlying39, rfl, rfl, tu9, rfl⟩
instance : FA Tryd.prog 39 3 5 := ⟨_, _, _, _, _, Tryd.underlying39, rfl, rfl, ts9⟩
instance : FV Tryd.prog 39 3 5 := ⟨_, _, _, Tryd.underlying39, rfl, rfl, tu9, rfl⟩
instance : TB Tryd.prog 46 [.nilFunc] (fun i => ([(0, 1)] : List (Nat × Nat))[i]?) := TB.struct Tryd.underlying46 ts46 (by kernel_rfl)
instance : FA Tryd.prog 46 0 0 := ⟨_, _, _, _, _, Tryd.underlying46, rfl, rfl, ts45⟩
instance : FV Tryd.prog 46 0 0 := ⟨_, _, _, Tryd.underlying46, rfl, rfl, tu45, rfl⟩
instance : TB Tryd.prog 47 [.nilFunc, .nilFunc, .nilFunc, .nilFunc, .nilFunc] (fun i => some (i * 1, 1)) := TB.array Tryd.underlying47 ts47 ts46
instance : TB Tryd.prog 81 [.slice none 0 0, .slice none 0 0] (fun i => ([(0, 1), (1, 1)] : List (Nat × Nat))[i]?) := TB.struct Tryd.underlying81 ts81 (by kernel_rfl)
instance : FA Tryd.prog 81 0 0 := ⟨_, _, _, _, _, Tryd.underlying81, rfl, rfl, ts24⟩
instance : FV Tryd.prog 81 0 0 := ⟨_, _, _, Tryd.underlying81, rfl, rfl, tu24, rfl⟩
instance : FA Tryd.prog 81 1 1 := ⟨_, _, _, _, _, Tryd.underlying81, rfl, rfl, ts80⟩
instance : FV Tryd.prog 81 1 1 := ⟨_, _, _, Tryd.underlying81, rfl, rfl, tu80, rfl⟩
instance : TB Tryd.prog 82 [.slice none 0 0, .slice none 0 0] (fun i => ([(0, 1), (1, 1)] : List (Nat × Nat))[i]?) := TB.struct Tryd.underlying82 ts82 (by kernel_rfl)
instance : FA Tryd.prog 82 0 0 := ⟨_, _, _, _, _, Tryd.underlying82, rfl, rfl, ts24⟩
instance : FV Tryd.prog 82 0 0 := ⟨_, _, _, Tryd.underlying82, rfl, rfl, tu24, rfl⟩
instance : FA Tryd.prog 82 1 1 := ⟨_, _, _, _, _, Tryd.underlying82, rfl, rfl, ts80⟩
instance : FV Tryd.prog 82 1 1 := ⟨_, _, _, Tryd.underlying82, rfl, rfl, tu80, rfl⟩
instance : TB Tryd.prog 83 [.slice none 0 0, .slice none 0 0, .slice none 0 0, .int .i64 0] (fun i => ([(0, 2), (2, 1), (3, 1)] : List (Nat × Nat))[i]?) := TB.struct Tryd.underlying83 ts83 (by kernel_rfl)
instance : FA Tryd.prog 83 0 0 := ⟨_, _, _, _, _, Tryd.underlying83, rfl, rfl, ts82⟩
instance : FA Tryd.prog 83 1 2 := ⟨_, _, _, _, _, Tryd.underlying83, rfl, rfl, ts24⟩
instance : FV Tryd.prog 83 1 2 := ⟨_, _, _, Tryd.underlying83, rfl, rfl, tu24, rfl⟩
instance : FA Tryd.prog 83 2 3 := ⟨_, _, _, _, _, Tryd.underlying83, rfl, rfl, ts3⟩
instance : FV Tryd.prog 83 2 3 := ⟨_, _, _, Tryd.underlying83, rfl, rfl, tu3, rfl⟩
instance : TB Tryd.prog 84 [.slice none 0 0, .slice none 0 0, .slice none 0 0, .int .i64 0] (fun i => ([(0, 2), (2, 1), (3, 1)] : List (Nat × Nat))[i]?) := TB.struct Tryd.underlying84 ts84 (by kernel_rfl)
instance : FA Tryd.prog 84 0 0 := ⟨_, _, _, _, _, Tryd.underlying84, rfl, rfl, ts82⟩
instance : FA Tryd.prog 84 1 2 := ⟨_, _, _, _, _, Tryd.underlying84, rfl, rfl, ts24⟩
instance : FV Tryd.prog 84 1 2 := ⟨_, _, _, Tryd.underlying84, rfl, rfl, tu24, rfl⟩
instance : FA Tryd.prog 84 2 3 := ⟨_, _, _, _, _, Tryd.underlying84, rfl, rfl, ts3⟩
instance : FV Tryd.prog 84 2 3 := ⟨_, _, _, Tryd.underlying84, rfl, rfl, tu3, rfl⟩
instance : TB Tryd.prog 85 [.int .i64 0, .int .i64 0] (fun i => some (i * 1, 1)) := TB.array Tryd.underlying85 ts85 ts3
instance : TB Tryd.prog 125 [.int .u8 0, .int .u8 0, .int .u8 0, .int .u8 0, .int .u8 0, .int .u8 0, .int .u8 0, .int .u8 0, .int .u8 0, .int .u8 0, .int .u8 0, .int .u8 0, .int .u8 0, .int .u8 0, .int .u8 0, .int .u8 0, .int .u8 0, .int .u8 0, .int .u8 0, .int .u8 0, .int .u8 0, .int .u8 0, .int .u8 0, .int .u8 0, .int .u8 0, .int .u8 0, .int .u8 0, .int .u8 0, .int .u8 0, .int .u8 0, .int .u8 0, .int .u8 0, .int .u8 0, .int .u8 0, .int .u8 0, .int .u8 0, .int .u8 0, .int .u8 0, .int .u8 0, .int .u8 0, .int .u8 0, .int .u8 0, .int .u8 0, .int .u8 0, .int .u8 0, .int .u8 0, .int .u8 0, .int .u8 0, .int .u8 0, .int .u8 0, .int .u8 0, .int .u8 0, .int .u8 0, .int .u8 0, .int .u8 0, .int .u8 0, .int .u8 0, .int .u8 0, .int .u8 0, .int .u8 0, .int .u8 0, .int .u8 0, .int .u8 0, .int .u8 0, .int .u8 0, .int .u8 0, .int .u8 0, .int .u8 0, .int .u8 0, .int .u8 0, .int .u8 0, .int .u8 0, .int .u8 0, .int .u8 0, .int .u8 0, .int .u8 0, .int .u8 0, .int .u8 0, .int .u8 0, .int .u8 0, .int .u8 0, .int .u8 0, .int .u8 0, .int .u8 0, .int .u8 0, .int .u8 0, .int .u8 0, .int .u8 0, .int .u8 0, .int .u8 0, .int .u8 0, .int .u8 0, .int .u8 0, .int .u8 0, .int .u8 0, .int .u8 0, .int .u8 0, .int .u8 0, .int .u8 0, .int .u8 0, .int .u8 0, .int .u8 0, .int .u8 0, .int .u8 0, .int .u8 0, .int .u8 0, .int .u8 0, .int .u8 0, .int .u8 0, .int .u8 0, .int .u8 0, .int .u8 0, .int .u8 0, .int .u8 0, .int .u8 0, .int .u8 0, .int .u8 0, .int .u8 0, .int .u8 0, .int .u8 0, .int .u8 0, .int .u8 0, .int .u8 0, .int .u8 0, .int .u8 0, .int .u8 0, .int .u8 0, .int .u8 0, .int .u8 0, .int .u8 0, .int .u8 0, .int .u8 0, .int .u8 0, .int .u8 0, .int .u8 0, .int .u8 0, .int .u8 0, .int .u8 0, .int .u8 0, .int .u8 0, .int .u8 0, .int .u8 0, .int .u8 0, .int .u8 0, .int .u8 0, .int .u8 0, .int .u8 0, .int .u8 0, .int .u8 0, .int .u8 0, .int .u8 0, .int .u8 0, .int .u8 0, .int .u8 0, .int .u8 0, .int .u8 0, .int .u8 0, .int .u8 0, .int .u8 0, .int .u8 0, .int .u8 0, .int .u8 0, .int .u8 0, .int .u8 0, .int .u8 0, .int .u8 0, .int .u8 0, .int .u8 0, .int .u8 0, .int .u8 0, .int .u8 0, .int .u8 0, .int .u8 0, .int .u8 0, .int .u8 0, .int .u8 0, .int .u8 0, .int .u8 0, .int .u8 0, .int .u8 0, .int .u8 0, .int .u8 0, .int .u8 0, .int .u8 0, .int .u8 0, .int .u8 0, .int .u8 0, .int .u8 0, .int .u8 0, .int .u8 0, .int .u8 0, .int .u8 0, .int .u8 0, .int .u8 0, .int .u8 0, .int .u8 0, .int .u8 0, .int .u8 0, .int .u8 0, .int .u8 0, .int .u8 0, .int .u8 0, .int .u8 0, .int .u8 0, .int .u8 0, .int .u8 0, .int .u8 0, .int .u8 0, .int .u8 0, .int .u8 0, .int .u8 0, .int .u8 0, .int .u8 0, .int .u8 0, .int .u8 0, .int .u8 0, .int .u8 0, .int .u8 0, .int .u8 0, .int .u8 0, .int .u8 0, .int .u8 0, .int .u8 0, .int .u8 0, .int .u8 0, .int .u8 0, .int .u8 0, .int .u8 0, .int .u8 0, .int .u8 0, .int .u8 0, .int .u8 0, .int .u8 0, .int .u8 0, .int .u8 0, .int .u8 0, .int .u8 0, .int .u8 0, .int .u8 0, .int .u8 0, .int .u8 0, .int .u8 0, .int .u8 0, .int .u8 0, .int .u8 0, .int .u8 0, .int .u8 0, .int .u8 0, .int .u8 0, .int .u8 0, .int .u8 0, .int .u8 0, .int .u8 0, .int .u8 0, .int .u8 0, .int .u8 0] (fun i => some (i * 1, 1)) := TB.array Tryd.underlying125 ts125 ts5
instance : TB Tryd.prog 126 [.int .u8 0, .int .u8 0] (fun i => ([(0, 1), (1, 1)] : List (Nat × Nat))[i]?) := TB.struct Tryd.underlying126 ts126 (by kernel_rfl)
instance : FA Tryd.prog 126 0 0 := ⟨_, _, _, _, _, Tryd.underlying126, rfl, rfl, ts5⟩
instance : FV Tryd.prog 126 0 0 := ⟨_, _, _, Tryd.underlying126, rfl, rfl, tu5, rfl⟩
instance : FA Tryd.prog 126 1 1 := ⟨_, _, _, _, _, Tryd.underlying126, rfl, rfl, ts5⟩
instance : FV Tryd.prog 126 1 1 := ⟨_, _, _, Tryd.underlying126, rfl, rfl, tu5, rfl⟩
instance : TB Tryd.prog 127 [.int .u8 0, .int .u8 0] (fun i => ([(0, 1), (1, 1)] : List (Nat × Nat))[i]?) := TB.struct Tryd.underlying127 ts127 (by kernel_rfl)
instance : FA Tryd.prog 127 0 0 := ⟨_, _, _, _, _, Tryd.underlying127, rfl, rfl, ts5⟩
instance : FV Tryd.prog 127 0 0 := ⟨_, _, _, Tryd.underlying127, rfl, rfl, tu5, rfl⟩
instance : FA Tryd.prog 127 1 1 := ⟨_, _, _, _, _, Tryd.underlying127, rfl, rfl, ts5⟩
instance : FV Tryd.prog 127 1 1 := ⟨_, _, _, Tryd.underlying127, rfl, rfl, tu5, rfl⟩
instance : TB Tryd.prog 128 [.int .u8 0, .int .u8 0, .int .u8 0, .int .u8 0, .int .u8 0, .int .u8 0, .int .u8 0, .int .u8 0, .int .u8 0, .int .u8 0, .int .u8 0, .int .u8 0, .int .u8 0, .int .u8 0, .int .u8 0, .int .u8 0, .int .u8 0, .int .u8 0, .int .u8 0, .int .u8 0, .int .u8 0, .int .u8 0, .int .u8 0, .int .u8 0, .int .u8 0, .int .u8 0, .int .u8 0, .int .u8 0, .int .u8 0, .int .u8 0, .int .u8 0, .int .u8 0] (fun i => some (i * 2, 2)) := TB.array Tryd.underlying128 ts128 ts127
instance : TB Tryd.prog 132 [.pointer none, .pointer none, .pointer none, .string ⟨#[]⟩] (fun i => ([(0, 1), (1, 1), (2, 1), (3, 1)] : List (Nat × Nat))[i]?) := TB.struct Tryd.underlying132 ts132 (by kernel_rfl)
instance : FA Tryd.prog 132 3 3 := ⟨_, _, _, _, _, Tryd.underlying132, rfl, rfl, ts9⟩
instance : FV Tryd.prog 132 3 3 := ⟨_, _, _, Tryd.underlying132, rfl, rfl, tu9, rfl⟩
instance : TB Tryd.prog 135 [] (fun i => ([(0, 0)] : List (Nat × Nat))[i]?) := TB.struct Tryd.underlying135 ts135 (by kernel_rfl)
instance : TB Tryd.prog 144 [.int .u64 0, .int .u64 0, .int .u32 0, .int .u8 0, .int .u8 0, .int .u8 0, .int .u8 0, .nilFunc, .pointer none, .int .i32 0, .int .i32 0] (fun i => ([(0, 1), (1, 1), (2, 1), (3, 1), (4, 1), (5, 1), (6, 1), (7, 1), (8, 1), (9, 1), (10, 1)] : List (Nat × Nat))[i]?) := TB.struct Tryd.underlying144 ts144 (by kernel_rfl)
instance : FA Tryd.prog 144 0 0 := ⟨_, _, _, _, _, Tryd.underlying144, rfl, rfl, ts12⟩
instance : FV Tryd.prog 144 0 0 := ⟨_, _, _, Tryd.underlying144, rfl, rfl, tu12, rfl⟩
instance : FA Tryd.prog 144 1 1 := ⟨_, _, _, _, _, Tryd.underlying144, rfl, rfl, ts12⟩
instance : FV Tryd.prog 144 1 1 := ⟨_, _, _, Tryd.underlying144, rfl, rfl, tu12, rfl⟩
instance : FA Tryd.prog 144 2 2 := ⟨_, _, _, _, _, Tryd.underlying144, rfl, rfl, ts98⟩
instance : FV Tryd.prog 144 2 2 := ⟨_, _, _, Tryd.underlying144, rfl, rfl, tu98, rfl⟩
instance : FA Tryd.prog 144 4 4 := ⟨_, _, _, _, _, Tryd.underlying144, rfl, rfl, ts5⟩
instance : FV Tryd.prog 144 4 4 := ⟨_, _, _, Tryd.underlying144, rfl, rfl, tu5, rfl⟩
instance : FA Tryd.prog 144 5 5 := ⟨_, _, _, _, _, Tryd.underlying144, rfl, rfl, ts5⟩
instance : FV Tryd.prog 144 5 5 := ⟨_, _, _, Tryd.underlying144, rfl, rfl, tu5, rfl⟩
instance : FA Tryd.prog 144 7 7 := ⟨_, _, _, _, _, Tryd.underlying144, rfl, rfl, ts140⟩
instance : FV Tryd.prog 144 7 7 := ⟨_, _, _, Tryd.underlying144, rfl, rfl, tu140, rfl⟩
instance : FA Tryd.prog 144 8 8 := ⟨_, _, _, _, _, Tryd.underlying144, rfl, rfl, ts141⟩
instance : FV Tryd.prog 144 8 8 := ⟨_, _, _, Tryd.underlying144, rfl, rfl, tu141, rfl⟩
noncomputable def c3 : Code := Tryd.f3.body.getD .skip
instance : FnI Tryd.prog 3 Tryd.f3 c3 92 := ⟨Tryd.func3, by kernel_rfl, Tryd.ntmps3⟩
instance : Enters Tryd.prog 3 := ⟨Tryd.call3⟩
noncomputable def c4 : Code := Tryd.f4.body.getD .skip
instance : FnI Tryd.prog 4 Tryd.f4 c4 18 := ⟨Tryd.func4, by kernel_rfl, Tryd.ntmps4⟩
instance : Enters Tryd.prog 4 := ⟨Tryd.call4⟩
noncomputable def c5 : Code := Tryd.f5.body.getD .skip
instance : FnI Tryd.prog 5 Tryd.f5 c5 72 := ⟨Tryd.func5, by kernel_rfl, Tryd.ntmps5⟩
instance : Enters Tryd.prog 5 := ⟨Tryd.call5⟩
noncomputable def c6 : Code := Tryd.f6.body.getD .skip
instance : FnI Tryd.prog 6 Tryd.f6 c6 82 := ⟨Tryd.func6, by kernel_rfl, Tryd.ntmps6⟩
instance : Enters Tryd.prog 6 := ⟨Tryd.call6⟩
noncomputable def c7 : Code := Tryd.f7.body.getD .skip
instance : FnI Tryd.prog 7 Tryd.f7 c7 47 := ⟨Tryd.func7, by kernel_rfl, Tryd.ntmps7⟩
instance : Enters Tryd.prog 7 := ⟨Tryd.call7⟩
noncomputable def c8 : Code := Tryd.f8.body.getD .skip
instance : FnI Tryd.prog 8 Tryd.f8 c8 48 := ⟨Tryd.func8, by kernel_rfl, Tryd.ntmps8⟩
instance : Enters Tryd.prog 8 := ⟨Tryd.call8⟩
noncomputable def c9 : Code := Tryd.f9.body.getD .skip
instance : FnI Tryd.prog 9 Tryd.f9 c9 26 := ⟨Tryd.func9, by kernel_rfl, Tryd.ntmps9⟩
instance : Enters Tryd.prog 9 := ⟨Tryd.call9⟩
noncomputable def c10 : Code := Tryd.f10.body.getD .skip
instance : FnI Tryd.prog 10 Tryd.f10 c10 26 := ⟨Tryd.func10, by kernel_rfl, Tryd.ntmps10⟩
instance : Enters Tryd.prog 10 := ⟨Tryd.call10⟩
noncomputable def c11 : Code := Tryd.f11.body.getD .skip
instance : FnI Tryd.prog 11 Tryd.f11 c11 19 := ⟨Tryd.func11, by kernel_rfl, Tryd.ntmps11⟩
instance : Enters Tryd.prog 11 := ⟨Tryd.call11⟩
noncomputable def c12 : Code := Tryd.f12.body.getD .skip
instance : FnI Tryd.prog 12 Tryd.f12 c12 36 := ⟨Tryd.func12, by kernel_rfl, Tryd.ntmps12⟩
instance : Enters Tryd.prog 12 := ⟨Tryd.call12⟩
noncomputable def c13 : Code := Tryd.f13.body.getD .skip
instance : FnI Tryd.prog 13 Tryd.f13 c13 11 := ⟨Tryd.func13, by kernel_rfl, Tryd.ntmps13⟩
instance : Enters Tryd.prog 13 := ⟨Tryd.call13⟩
noncomputable def c14 : Code := Tryd.f14.body.getD .skip
instance : FnI Tryd.prog 14 Tryd.f14 c14 8 := ⟨Tryd.func14, by kernel_rfl, Tryd.ntmps14⟩
instance : Enters Tryd.prog 14 := ⟨Tryd.call14⟩
noncomputable def c15 : Code := Tryd.f15.body.getD .skip
instance : FnI Tryd.prog 15 Tryd.f15 c15 14 := ⟨Tryd.func15, by kernel_rfl, Tryd.ntmps15⟩
instance : Enters Tryd.prog 15 := ⟨Tryd.call15⟩
noncomputable def c16 : Code := Tryd.f16.body.getD .skip
instance : FnI Tryd.prog 16 Tryd.f16 c16 66 := ⟨Tryd.func16, by kernel_rfl, Tryd.ntmps16⟩
instance : Enters Tryd.prog 16 := ⟨Tryd.call16⟩
noncomputable def c17 : Code := Tryd.f17.body.getD .skip
instance : FnI Tryd.prog 17 Tryd.f17 c17 11 := ⟨Tryd.func17, by kernel_rfl, Tryd.ntmps17⟩
instance : Enters Tryd.prog 17 := ⟨Tryd.call17⟩
noncomputable def c18 : Code := Tryd.f18.body.getD .skip
instance : FnI Tryd.prog 18 Tryd.f18 c18 49 := ⟨Tryd.func18, by kernel_rfl, Tryd.ntmps18⟩
instance : Enters Tryd.prog 18 := ⟨Tryd.call18⟩
noncomputable def c19 : Code := Tryd.f19.body.getD .skip
instance : FnI Tryd.prog 19 Tryd.f19 c19 28 := ⟨Tryd.func19, by kernel_rfl, Tryd.ntmps19⟩
instance : Enters Tryd.prog 19 := ⟨Tryd.call19⟩
noncomputable def c20 : Code := Tryd.f20.body.getD .skip
instance : FnI Tryd.prog 20 Tryd.f20 c20 15 := ⟨Tryd.func20, by kernel_rfl, Tryd.ntmps20⟩
instance : Enters Tryd.prog 20 := ⟨Tryd.call20⟩
noncomputable def c21 : Code := Tryd.f21.body.getD .skip
instance : FnI Tryd.prog 21 Tryd.f21 c21 38 := ⟨Tryd.func21, by kernel_rfl, Tryd.ntmps21⟩
instance : Enters Tryd.prog 21 := ⟨Tryd.call21⟩
noncomputable def c22 : Code := Tryd.f22.body.getD .skip
instance : FnI Tryd.prog 22 Tryd.f22 c22 65 := ⟨Tryd.func22, by kernel_rfl, Tryd.ntmps22⟩
instance : Enters Tryd.prog 22 := ⟨Tryd.call22⟩
noncomputable def c23 : Code := Tryd.f23.body.getD .skip
instance : FnI Tryd.prog 23 Tryd.f23 c23 4 := ⟨Tryd.func23, by kernel_rfl, Tryd.ntmps23⟩
instance : Enters Tryd.prog 23 := ⟨Tryd.call23⟩
noncomputable def c24 : Code := Tryd.f24.body.getD .skip
instance : FnI Tryd.prog 24 Tryd.f24 c24 24 := ⟨Tryd.func24, by kernel_rfl, Tryd.ntmps24⟩
instance : Enters Tryd.prog 24 := ⟨Tryd.call24⟩
noncomputable def c25 : Code := Tryd.f25.body.getD .skip
instance : FnI Tryd.prog 25 Tryd.f25 c25 59 := ⟨Tryd.func25, by kernel_rfl, Tryd.ntmps25⟩
instance : Enters Tryd.prog 25 := ⟨Tryd.call25⟩
noncomputable def c26 : Code := Tryd.f26.body.getD .skip
instance : FnI Tryd.prog 26 Tryd.f26 c26 21 := ⟨Tryd.func26, by kernel_rfl, Tryd.ntmps26⟩
instance : Enters Tryd.prog 26 := ⟨Tryd.call26⟩
noncomputable def c27 : Code := Tryd.f27.body.getD .skip
instance : FnI Tryd.prog 27 Tryd.f27 c27 28 := ⟨Tryd.func27, by kernel_rfl, Tryd.ntmps27⟩
instance : Enters Tryd.prog 27 := ⟨Tryd.call27⟩
noncomputable def c28 : Code := Tryd.f28.body.getD .skip
instance : FnI Tryd.prog 28 Tryd.f28 c28 18 := ⟨Tryd.func28, by kernel_rfl, Tryd.ntmps28⟩
instance : Enters Tryd.prog 28 := ⟨Tryd.call28⟩
noncomputable def c29 : Code := Tryd.f29.body.getD .skip
instance : FnI Tryd.prog 29 Tryd.f29 c29 20 := ⟨Tryd.func29, by kernel_rfl, Tryd.ntmps29⟩
instance : Enters Tryd.prog 29 := ⟨Tryd.call29⟩
noncomputable def c30 : Code := Tryd.f30.body.getD .skip
instance : FnI Tryd.prog 30 Tryd.f30 c30 22 := ⟨Tryd.func30, by kernel_rfl, Tryd.ntmps30⟩
instance : Enters Tryd.prog 30 := ⟨Tryd.call30⟩
noncomputable def c31 : Code := Tryd.f31.body.getD .skip
instance : FnI Tryd.prog 31 Tryd.f31 c31 9 := ⟨Tryd.func31, by kernel_rfl, Tryd.ntmps31⟩
instance : Enters Tryd.prog 31 := ⟨Tryd.call31⟩
noncomputable def c32 : Code := Tryd.f32.body.getD .skip
instance : FnI Tryd.prog 32 Tryd.f32 c32 13 := ⟨Tryd.func32, by kernel_rfl, Tryd.ntmps32⟩
instance : Enters Tryd.prog 32 := ⟨Tryd.call32⟩
noncomputable def c33 : Code := Tryd.f33.body.getD .skip
instance : FnI Tryd.prog 33 Tryd.f33 c33 148 := ⟨Tryd.func33, by kernel_rfl, Tryd.ntmps33⟩
instance : Enters Tryd.prog 33 := ⟨Tryd.call33⟩
noncomputable def c34 : Code := Tryd.f34.body.getD .skip
instance : FnI Tryd.prog 34 Tryd.f34 c34 8 := ⟨Tryd.func34, by kernel_rfl, Tryd.ntmps34⟩
instance : Enters Tryd.prog 34 := ⟨Tryd.call34⟩
noncomputable def c35 : Code := Tryd.f35.body.getD .skip
instance : FnI Tryd.prog 35 Tryd.f35 c35 52 := ⟨Tryd.func35, by kernel_rfl, Tryd.ntmps35⟩
instance : Enters Tryd.prog 35 := ⟨Tryd.call35⟩
noncomputable def c36 : Code := Tryd.f36.body.getD .skip
instance : FnI Tryd.prog 36 Tryd.f36 c36 23 := ⟨Tryd.func36, by kernel_rfl, Tryd.ntmps36⟩
instance : Enters Tryd.prog 36 := ⟨Tryd.call36⟩
noncomputable def c37 : Code := Tryd.f37.body.getD .skip
instance : FnI Tryd.prog 37 Tryd.f37 c37 52 := ⟨Tryd.func37, by kernel_rfl, Tryd.ntmps37⟩
instance : Enters Tryd.prog 37 := ⟨Tryd.call37⟩
noncomputable def c38 : Code := Tryd.f38.body.getD .skip
instance : FnI Tryd.prog 38 Tryd.f38 c38 13 := ⟨Tryd.func38, by kernel_rfl, Tryd.ntmps38⟩
instance : Enters Tryd.prog 38 := ⟨Tryd.call38⟩
noncomputable def c39 : Code := Tryd.f39.body.getD .skip
instance : FnI Tryd.prog 39 Tryd.f39 c39 18 := ⟨Tryd.func39, by kernel_rfl, Tryd.ntmps39⟩
instance : Enters Tryd.prog 39 := ⟨Tryd.call39⟩
noncomputable def c40 : Code := Tryd.f40.body.getD .skip
instance : FnI Tryd.prog 40 Tryd.f40 c40 31 := ⟨Tryd.func40, by kernel_rfl, Tryd.ntmps40⟩
instance : Enters Tryd.prog 40 := ⟨Tryd.call40⟩
noncomputable def c41 : Code := Tryd.f41.body.getD .skip
instance : FnI Tryd.prog 41 Tryd.f41 c41 9 := ⟨Tryd.func41, by kernel_rfl, Tryd.ntmps41⟩
instance : Enters Tryd.prog 41 := ⟨Tryd.call41⟩
noncomputable def c42 : Code := Tryd.f42.body.getD .skip
instance : FnI Tryd.prog 42 Tryd.f42 c42 15 := ⟨Tryd.func42, by kernel_rfl, Tryd.ntmps42⟩
instance : Enters Tryd.prog 42 := ⟨Tryd.call42⟩
noncomputable def c43 : Code := Tryd.f43.body.getD .skip
instance : FnI Tryd.prog 43 Tryd.f43 c43 20 := ⟨Tryd.func43, by kernel_rfl, Tryd.ntmps43⟩
instance : Enters Tryd.prog 43 := ⟨Tryd.call43⟩
noncomputable def c44 : Code := Tryd.f44.body.getD .skip
instance : FnI Tryd.prog 44 Tryd.f44 c44 45 := ⟨Tryd.func44, by kernel_rfl, Tryd.ntmps44⟩
instance : Enters Tryd.prog 44 := ⟨Tryd.call44⟩
noncomputable def c45 : Code := Tryd.f45.body.getD .skip
instance : FnI Tryd.prog 45 Tryd.f45 c45 16 := ⟨Tryd.func45, by kernel_rfl, Tryd.ntmps45⟩
instance : Enters Tryd.prog 45 := ⟨Tryd.call45⟩
noncomputable def c46 : Code := Tryd.f46.body.getD .skip
instance : FnI Tryd.prog 46 Tryd.f46 c46 27 := ⟨Tryd.func46, by kernel_rfl, Tryd.ntmps46⟩
instance : Enters Tryd.prog 46 := ⟨Tryd.call46⟩
noncomputable def c47 : Code := Tryd.f47.body.getD .skip
instance : FnI Tryd.prog 47 Tryd.f47 c47 13 := ⟨Tryd.func47, by kernel_rfl, Tryd.ntmps47⟩
instance : Enters Tryd.prog 47 := ⟨Tryd.call47⟩
noncomputable def c48 : Code := Tryd.f48.body.getD .skip
instance : FnI Tryd.prog 48 Tryd.f48 c48 6 := ⟨Tryd.func48, by kernel_rfl, Tryd.ntmps48⟩
instance : Enters Tryd.prog 48 := ⟨Tryd.call48⟩
noncomputable def c49 : Code := Tryd.f49.body.getD .skip
instance : FnI Tryd.prog 49 Tryd.f49 c49 19 := ⟨Tryd.func49, by kernel_rfl, Tryd.ntmps49⟩
instance : Enters Tryd.prog 49 := ⟨Tryd.call49⟩
noncomputable def c50 : Code := Tryd.f50.body.getD .skip
instance : FnI Tryd.prog 50 Tryd.f50 c50 53 := ⟨Tryd.func50, by kernel_rfl, Tryd.ntmps50⟩
instance : Enters Tryd.prog 50 := ⟨Tryd.call50⟩
noncomputable def c51 : Code := Tryd.f51.body.getD .skip
instance : FnI Tryd.prog 51 Tryd.f51 c51 60 := ⟨Tryd.func51, by kernel_rfl, Tryd.ntmps51⟩
instance : Enters Tryd.prog 51 := ⟨Tryd.call51⟩
noncomputable def c52 : Code := Tryd.f52.body.getD .skip
instance : FnI Tryd.prog 52 Tryd.f52 c52 67 := ⟨Tryd.func52, by kernel_rfl, Tryd.ntmps52⟩
instance : Enters Tryd.prog 52 := ⟨Tryd.call52⟩
noncomputable def c53 : Code := Tryd.f53.body.getD .skip
instance : FnI Tryd.prog 53 Tryd.f53 c53 63 := ⟨Tryd.func53, by kernel_rfl, Tryd.ntmps53⟩
instance : Enters Tryd.prog 53 := ⟨Tryd.call53⟩
noncomputable def c54 : Code := Tryd.f54.body.getD .skip
instance : FnI Tryd.prog 54 Tryd.f54 c54 34 := ⟨Tryd.func54, by kernel_rfl, Tryd.ntmps54⟩
instance : Enters Tryd.prog 54 := ⟨Tryd.call54⟩
noncomputable def c55 : Code := Tryd.f55.body.getD .skip
instance : FnI Tryd.prog 55 Tryd.f55 c55 141 := ⟨Tryd.func55, by kernel_rfl, Tryd.ntmps55⟩
instance : Enters Tryd.prog 55 := ⟨Tryd.call55⟩
noncomputable def c56 : Code := Tryd.f56.body.getD .skip
instance : FnI Tryd.prog 56 Tryd.f56 c56 90 := ⟨Tryd.func56, by kernel_rfl, Tryd.ntmps56⟩
instance : Enters Tryd.prog 56 := ⟨Tryd.call56⟩
noncomputable def c57 : Code := Tryd.f57.body.getD .skip
instance : FnI Tryd.prog 57 Tryd.f57 c57 178 := ⟨Tryd.func57, by kernel_rfl, Tryd.ntmps57⟩
instance : Enters Tryd.prog 57 := ⟨Tryd.call57⟩
noncomputable def c58 : Code := Tryd.f58.body.getD .skip
instance : FnI Tryd.prog 58 Tryd.f58 c58 19 := ⟨Tryd.func58, by kernel_rfl, Tryd.ntmps58⟩
instance : Enters Tryd.prog 58 := ⟨Tryd.call58⟩
noncomputable def c59 : Code := Tryd.f59.body.getD .skip
instance : FnI Tryd.prog 59 Tryd.f59 c59 25 := ⟨Tryd.func59, by kernel_rfl, Tryd.ntmps59⟩
instance : Enters Tryd.prog 59 := ⟨Tryd.call59⟩
noncomputable def c60 : Code := Tryd.f60.body.getD .skip
instance : FnI Tryd.prog 60 Tryd.f60 c60 15 := ⟨Tryd.func60, by kernel_rfl, Tryd.ntmps60⟩
instance : Enters Tryd.prog 60 := ⟨Tryd.call60⟩
noncomputable def c61 : Code := Tryd.f61.body.getD .skip
instance : FnI Tryd.prog 61 Tryd.f61 c61 13 := ⟨Tryd.func61, by kernel_rfl, Tryd.ntmps61⟩
instance : Enters Tryd.prog 61 := ⟨Tryd.call61⟩
noncomputable def c62 : Code := Tryd.f62.body.getD .skip
instance : FnI Tryd.prog 62 Tryd.f62 c62 30 := ⟨Tryd.func62, by kernel_rfl, Tryd.ntmps62⟩
instance : Enters Tryd.prog 62 := ⟨Tryd.call62⟩
noncomputable def c63 : Code := Tryd.f63.body.getD .skip
instance : FnI Tryd.prog 63 Tryd.f63 c63 63 := ⟨Tryd.func63, by kernel_rfl, Tryd.ntmps63⟩
instance : Enters Tryd.prog 63 := ⟨Tryd.call63⟩
noncomputable def c64 : Code := Tryd.f64.body.getD .skip
instance : FnI Tryd.prog 64 Tryd.f64 c64 6 := ⟨Tryd.func64, by kernel_rfl, Tryd.ntmps64⟩
instance : Enters Tryd.prog 64 := ⟨Tryd.call64⟩
noncomputable def c65 : Code := Tryd.f65.body.getD .skip
instance : FnI Tryd.prog 65 Tryd.f65 c65 8 := ⟨Tryd.func65, by kernel_rfl, Tryd.ntmps65⟩
instance : Enters Tryd.prog 65 := ⟨Tryd.call65⟩
noncomputable def c66 : Code := Tryd.f66.body.getD .skip
instance : FnI Tryd.prog 66 Tryd.f66 c66 11 := ⟨Tryd.func66, by kernel_rfl, Tryd.ntmps66⟩
instance : Enters Tryd.prog 66 := ⟨Tryd.call66⟩
noncomputable def c67 : Code := Tryd.f67.body.getD .skip
instance : FnI Tryd.prog 67 Tryd.f67 c67 9 := ⟨Tryd.func67, by kernel_rfl, Tryd.ntmps67⟩
instance : Enters Tryd.prog 67 := ⟨Tryd.call67⟩
noncomputable def c68 : Code := Tryd.f68.body.getD .skip
instance : FnI Tryd.prog 68 Tryd.f68 c68 9 := ⟨Tryd.func68, by kernel_rfl, Tryd.ntmps68⟩
instance : Enters Tryd.prog 68 := ⟨Tryd.call68⟩
noncomputable def c69 : Code := Tryd.f69.body.getD .skip
instance : FnI Tryd.prog 69 Tryd.f69 c69 82 := ⟨Tryd.func69, by kernel_rfl, Tryd.ntmps69⟩
instance : Enters Tryd.prog 69 := ⟨Tryd.call69⟩
noncomputable def c70 : Code := Tryd.f70.body.getD .skip
instance : FnI Tryd.prog 70 Tryd.f70 c70 7 := ⟨Tryd.func70, by kernel_rfl, Tryd.ntmps70⟩
instance : Enters Tryd.prog 70 := ⟨Tryd.call70⟩
noncomputable def c72 : Code := Tryd.f72.body.getD .skip
instance : FnI Tryd.prog 72 Tryd.f72 c72 18 := ⟨Tryd.func72, by kernel_rfl, Tryd.ntmps72⟩
instance : Enters Tryd.prog 72 := ⟨Tryd.call72⟩
noncomputable def c73 : Code := Tryd.f73.body.getD .skip
instance : FnI Tryd.prog 73 Tryd.f73 c73 41 := ⟨Tryd.func73, by kernel_rfl, Tryd.ntmps73⟩
instance : Enters Tryd.prog 73 := ⟨Tryd.call73⟩
noncomputable def c74 : Code := Tryd.f74.body.getD .skip
instance : FnI Tryd.prog 74 Tryd.f74 c74 53 := ⟨Tryd.func74, by kernel_rfl, Tryd.ntmps74⟩
instance : Enters Tryd.prog 74 := ⟨Tryd.call74⟩
noncomputable def c75 : Code := Tryd.f75.body.getD .skip
instance : FnI Tryd.prog 75 Tryd.f75 c75 220 := ⟨Tryd.func75, by kernel_rfl, Tryd.ntmps75⟩
instance : Enters Tryd.prog 75 := ⟨Tryd.call75⟩
noncomputable def c76 : Code := Tryd.f76.body.getD .skip
instance : FnI Tryd.prog 76 Tryd.f76 c76 66 := ⟨Tryd.func76, by kernel_rfl, Tryd.ntmps76⟩
instance : Enters Tryd.prog 76 := ⟨Tryd.call76⟩
noncomputable def c77 : Code := Tryd.f77.body.getD .skip
instance : FnI Tryd.prog 77 Tryd.f77 c77 13 := ⟨Tryd.func77, by kernel_rfl, Tryd.ntmps77⟩
instance : Enters Tryd.prog 77 := ⟨Tryd.call77⟩
noncomputable def c78 : Code := Tryd.f78.body.getD .skip
instance : FnI Tryd.prog 78 Tryd.f78 c78 19 := ⟨Tryd.func78, by kernel_rfl, Tryd.ntmps78⟩
instance : Enters Tryd.prog 78 := ⟨Tryd.call78⟩
noncomputable def c79 : Code := Tryd.f79.body.getD .skip
instance : FnI Tryd.prog 79 Tryd.f79 c79 32 := ⟨Tryd.func79, by kernel_rfl, Tryd.ntmps79⟩
instance : Enters Tryd.prog 79 := ⟨Tryd.call79⟩
noncomputable def c80 : Code := Tryd.f80.body.getD .skip
instance : FnI Tryd.prog 80 Tryd.f80 c80 58 := ⟨Tryd.func80, by kernel_rfl, Tryd.ntmps80⟩
instance : Enters Tryd.prog 80 := ⟨Tryd.call80⟩
noncomputable def c81 : Code := Tryd.f81.body.getD .skip
instance : FnI Tryd.prog 81 Tryd.f81 c81 50 := ⟨Tryd.func81, by kernel_rfl, Tryd.ntmps81⟩
instance : Enters Tryd.prog 81 := ⟨Tryd.call81⟩
noncomputable def c82 : Code := Tryd.f82.body.getD .skip
instance : FnI Tryd.prog 82 Tryd.f82 c82 34 := ⟨Tryd.func82, by kernel_rfl, Tryd.ntmps82⟩
instance : Enters Tryd.prog 82 := ⟨Tryd.call82⟩
noncomputable def c83 : Code := Tryd.f83.body.getD .skip
instance : FnI Tryd.prog 83 Tryd.f83 c83 8 := ⟨Tryd.func83, by kernel_rfl, Tryd.ntmps83⟩
instance : Enters Tryd.prog 83 := ⟨Tryd.call83⟩
noncomputable def c84 : Code := Tryd.f84.body.getD .skip
instance : FnI Tryd.prog 84 Tryd.f84 c84 38 := ⟨Tryd.func84, by kernel_rfl, Tryd.ntmps84⟩
instance : Enters Tryd.prog 84 := ⟨Tryd.call84⟩
noncomputable def c85 : Code := Tryd.f85.body.getD .skip
instance : FnI Tryd.prog 85 Tryd.f85 c85 10 := ⟨Tryd.func85, by kernel_rfl, Tryd.ntmps85⟩
instance : Enters Tryd.prog 85 := ⟨Tryd.call85⟩
noncomputable def c86 : Code := Tryd.f86.body.getD .skip
instance : FnI Tryd.prog 86 Tryd.f86 c86 19 := ⟨Tryd.func86, by kernel_rfl, Tryd.ntmps86⟩
instance : Enters Tryd.prog 86 := ⟨Tryd.call86⟩
noncomputable def c88 : Code := Tryd.f88.body.getD .skip
instance : FnI Tryd.prog 88 Tryd.f88 c88 143 := ⟨Tryd.func88, by kernel_rfl, Tryd.ntmps88⟩
instance : Enters Tryd.prog 88 := ⟨Tryd.call88⟩
noncomputable def c89 : Code := Tryd.f89.body.getD .skip
instance : FnI Tryd.prog 89 Tryd.f89 c89 117 := ⟨Tryd.func89, by kernel_rfl, Tryd.ntmps89⟩
instance : Enters Tryd.prog 89 := ⟨Tryd.call89⟩
noncomputable def c90 : Code := Tryd.f90.body.getD .skip
instance : FnI Tryd.prog 90 Tryd.f90 c90 8 := ⟨Tryd.func90, by kernel_rfl, Tryd.ntmps90⟩
instance : Enters Tryd.prog 90 := ⟨Tryd.call90⟩
noncomputable def c92 : Code := Tryd.f92.body.getD .skip
instance : FnI Tryd.prog 92 Tryd.f92 c92 6 := ⟨Tryd.func92, by kernel_rfl, Tryd.ntmps92⟩
instance : Enters Tryd.prog 92 := ⟨Tryd.call92⟩
noncomputable def c93 : Code := Tryd.f93.body.getD .skip
instance : FnI Tryd.prog 93 Tryd.f93 c93 81 := ⟨Tryd.func93, by kernel_rfl, Tryd.ntmps93⟩
instance : Enters Tryd.prog 93 := ⟨Tryd.call93⟩
noncomputable def c95 : Code := Tryd.f95.body.getD .skip
instance : FnI Tryd.prog 95 Tryd.f95 c95 39 := ⟨Tryd.func95, by kernel_rfl, Tryd.ntmps95⟩
instance : Enters Tryd.prog 95 := ⟨Tryd.call95⟩
noncomputable def c113 : Code := Tryd.f113.body.getD .skip
instance : FnI Tryd.prog 113 Tryd.f113 c113 14 := ⟨Tryd.func113, by kernel_rfl, Tryd.ntmps113⟩
instance : Enters Tryd.prog 113 := ⟨Tryd.call113⟩
noncomputable def c114 : Code := Tryd.f114.body.getD .skip
instance : FnI Tryd.prog 114 Tryd.f114 c114 10 := ⟨Tryd.func114, by kernel_rfl, Tryd.ntmps114⟩
instance : Enters Tryd.prog 114 := ⟨Tryd.call114⟩
noncomputable def c115 : Code := Tryd.f115.body.getD .skip
instance : FnI Tryd.prog 115 Tryd.f115 c115 8 := ⟨Tryd.func115, by kernel_rfl, Tryd.ntmps115⟩
instance : Enters Tryd.prog 115 := ⟨Tryd.call115⟩
noncomputable def c116 : Code := Tryd.f116.body.getD .skip
instance : FnI Tryd.prog 116 Tryd.f116 c116 10 := ⟨Tryd.func116, by kernel_rfl, Tryd.ntmps116⟩
instance : Enters Tryd.prog 116 := ⟨Tryd.call116⟩
noncomputable def c117 : Code := Tryd.f117.body.getD .skip
instance : FnI Tryd.prog 117 Tryd.f117 c117 10 := ⟨Tryd.func117, by kernel_rfl, Tryd.ntmps117⟩
instance : Enters Tryd.prog 117 := ⟨Tryd.call117⟩
noncomputable def c118 : Code := Tryd.f118.body.getD .skip
instance : FnI Tryd.prog 118 Tryd.f118 c118 8 := ⟨Tryd.func118, by kernel_rfl, Tryd.ntmps118⟩
instance : Enters Tryd.prog 118 := ⟨Tryd.call118⟩
end Go.Proofs.YtpijeomnplmakaaDoor

/- What readings of integers and of slices of integers say. -/
namespace Go.Proofs.YtpijeomnplmakaaDoor
open Go.ChangeShapes Go.WideShapes Go.ChangeAt Go.RowKit Go.WideElems

end Go.Proofs.YtpijeomnplmakaaDoor

/- The proof engine, part 17: a slice of the call's own in a field. -/
namespace Go.Proofs.YtpijeomnplmakaaDoor
open Go.RowKit

theorem Bk.cellO {w : World} {b e o : Nat} {cs : List Value} {v : Value} (h : Bk w b cs e) (hv : cs[o]? = some v) : w.cell? ⟨b, o, none⟩ = some v := by have := (Bk.toAt (h := h)).h o v hv; simpa using this
/-- The blocks below N, and the block of the slice that lies at place o of block b. -/
def MO (N b o : Nat) (V : World) (k : Nat) : Prop := k < N ∨ ∃ v, V.cell? ⟨b, o, none⟩ = some v ∧ v.ownBlock = some k
theorem MO.lt {N b o : Nat} {V : World} {v : Value} {k : Nat} (hN : N ≤ V.heap.size) (hb : V.cell? ⟨b, o, none⟩ = some v) (ho : ∀ g, v.ownBlock = some g → g < V.heap.size) (h : MO N b o V k) : k < V.heap.size := by
  rcases h with h | ⟨v', hv, hk⟩
  · omega
  · rw [hb] at hv; cases hv
    exact ho k hk
theorem MO.back {N n b o : Nat} {V V' : World} {v : Value} {k : Nat} (hb : V.cell? ⟨b, o, none⟩ = some v) (g : Grow n V V') (h : MO N b o V' k) : MO N b o V k := by
  rcases h with h | ⟨v', hv, hk⟩
  · exact .inl h
  · rw [g.cell hb] at hv; cases hv
    exact .inr ⟨v, hb, hk⟩
theorem MO.grow {N b o : Nat} {V V' : World} {k : Nat} (hb : b < N) (g : Grow N V V') (h : MO N b o V' k) : MO N b o V k := by
  rcases h with h | ⟨v', hv, hk⟩
  · exact .inl h
  · refine .inr ⟨v', ?_, hk⟩
    rw [← hv]
    exact (World.cell?_of_block (a := ⟨b, o, none⟩) (g.old b hb)).symm
/-- A round: what it keeps, and what the slice is behind it. -/
theorem MO.fr {N b o : Nat} {V V' : World} {v v' : Value} (hs : V.heap.size ≤ V'.heap.size) (hb : V.cell? ⟨b, o, none⟩ = some v) (hb' : V'.cell? ⟨b, o, none⟩ = some v') (hk : ∀ k ob, V.heap[k]? = some ob → N ≤ k → v.ownBlock ≠ some k → V'.heap[k]? = some ob)
    (hw : v'.ownBlock = v.ownBlock ∨ ∃ g, v'.ownBlock = some g ∧ V.heap.size ≤ g) : Fr (MO N b o) V V' :=
  ⟨hs, fun k ob h1 _ hm => hk k ob h1 (Nat.le_of_not_lt fun h => hm (.inl h)) (fun e => hm (.inr ⟨v, hb, e⟩)), fun k h => by
    rcases h with h | ⟨u, hu, hk'⟩
    · exact .inl (.inl h)
    · rw [hb'] at hu; cases hu
      rcases hw with e | ⟨g, e, hg⟩
      · exact .inl (.inr ⟨v, hb, by rw [← e]; exact hk'⟩)
      · rw [e] at hk'; cases hk'; exact .inr hg⟩
/-- A number put into a slice that lies in one block. -/
theorem Bk.setI {w : World} {b e i : Nat} {xs : List Int} {y : Int} (hi : i < xs.length) (h : Bk w b ((xs.map intV).take i ++ [intV y] ++ (xs.map intV).drop (i + 1)) e) : Bk w b ((xs.set i y).map intV) e := by
  have : (xs.map intV).take i ++ [intV y] ++ (xs.map intV).drop (i + 1) = (xs.set i y).map intV := by
    rw [List.map_set, List.set_eq_take_append_cons_drop, if_pos (by simpa using hi)]; simp
  rw [← this]; exact h
/-! ### Rows of rows of numbers -/
abbrev Rw := Option Addr × Nat × List Int
abbrev encW (x : Rw) : Value := .slice x.1 x.2.2.length x.2.1
class RowsI (w : World) (rs : List Rw) : Prop where
  h : ∀ x ∈ rs, RowV w false 1 (encW x) (x.2.2.map intV)
instance RowsI.step {w w' : World} {rs : List Rw} [hs : Step w w'] [h : RowsI w rs] : RowsI w' rs := ⟨fun x hx => (h.h x hx).ext ⟨hs.b⟩⟩
theorem RowsI.ext {w w' : World} {rs : List Rw} (h : RowsI w rs) (hs : Ext w w') : RowsI w' rs := ⟨fun x hx => (h.h x hx).ext hs⟩
theorem RowsI.get {w : World} {rs : List Rw} (h : RowsI w rs) {i : Nat} (hi : i < rs.length) : RowI w (.slice rs[i].1 rs[i].2.2.length rs[i].2.1) false 1 (rs[i].2.2.map intV) := ⟨h.h _ (List.getElem_mem hi)⟩
/-- Rows of rows of the call's own. -/
structure OwnW (w : World) (B e1 e2 : Nat) (v : Value) (rs : List Rw) : Prop where
  out : OwnL w B e1 false 1 v (rs.map encW)
  ins : ∀ x ∈ rs, OwnL w B e2 false 1 (encW x) (x.2.2.map intV)
theorem OwnW.rows {w : World} {B e1 e2 : Nat} {v : Value} {rs : List Rw} (h : OwnW w B e1 e2 v rs) : RowsI w rs := ⟨fun x hx => (h.ins x hx).row⟩
theorem OwnW.ext {w w' : World} {B e1 e2 : Nat} {v : Value} {rs : List Rw} (h : OwnW w B e1 e2 v rs) (hs : Ext w w') : OwnW w' B e1 e2 v rs := ⟨h.out.ext hs, fun x hx => (h.ins x hx).ext hs⟩
theorem OwnW.nil (w : World) (B e1 e2 : Nat) : OwnW w B e1 e2 (.slice none 0 0) [] := ⟨OwnL.nil _ _ _ _ _, by simp⟩
end Go.Proofs.YtpijeomnplmakaaDoor

/- Plain functions that several contracts speak of. -/
namespace Go.Proofs.YtpijeomnplmakaaDoor
open Go.RowKit

def inB (lo hi n : Int) : Bool := decide (lo ≤ n ∧ n ≤ hi)
theorem not_any_not {α : Type} (q : α → Bool) (xs : List α) : (!(xs.any fun n => !q n)) = xs.all q := by
  induction xs with
  | nil => rfl
  | cons x xs ih => simp only [List.any_cons, List.all_cons, Bool.not_or, ih, Bool.not_not]
def lowB (c : UInt8) : Bool := decide (97 ≤ c.toNat ∧ c.toNat ≤ 122)
def wordB (s : ByteArray) : Bool := decide (1 ≤ s.size ∧ s.size ≤ 12) && s.data.toList.all lowB
theorem low_any (l : List UInt8) : (!l.any fun c => decide ((c.toNat : Int) < 97 ∨ 122 < (c.toNat : Int))) = l.all lowB := by
  rw [← not_any_not]
  congr 2
  funext c
  rw [lowB, ← decide_not, decide_eq_decide]
  omega
theorem word_yes (s : ByteArray) (h : [(s.size : Int)].all (inB 1 12) = true) : (!s.data.toList.any fun c => decide ((c.toNat : Int) < 97 ∨ 122 < (c.toNat : Int))) = wordB s := by
  rw [low_any, wordB]
  simp [inB] at h
  have : decide (1 ≤ s.size ∧ s.size ≤ 12) = true := decide_eq_true (by omega)
  rw [this]; rfl
theorem word_no (s : ByteArray) (h : [(s.size : Int)].all (inB 1 12) = false) : false = wordB s := by
  rw [wordB]
  simp [inB] at h
  have : decide (1 ≤ s.size ∧ s.size ≤ 12) = false := decide_eq_false (by omega)
  rw [this]; rfl
end Go.Proofs.YtpijeomnplmakaaDoor

/- Texts: chapters of lines of words. -/
namespace Go.Proofs.YtpijeomnplmakaaDoor
open Go.RowKit

abbrev strV (s : ByteArray) : Value := .string s
abbrev Ln := Option Addr × Nat × List ByteArray
abbrev encLn (x : Ln) : Value := .slice x.1 x.2.2.length x.2.1
abbrev Ch := Int × Option Addr × Nat × List Ln
abbrev encCh (x : Ch) : Value := .agg #[.int .i64 x.1, .slice x.2.1 x.2.2.2.length x.2.2.1]
class TextI (w : World) (cs : List Ch) : Prop where
  lines : ∀ x ∈ cs, RowV w false 1 (.slice x.2.1 x.2.2.2.length x.2.2.1) (x.2.2.2.map encLn)
  words : ∀ x ∈ cs, ∀ y ∈ x.2.2.2, RowV w false 1 (encLn y) (y.2.2.map strV)
theorem TextI.ext {w w' : World} {cs : List Ch} (h : TextI w cs) (hs : Ext w w') : TextI w' cs := ⟨fun x hx => (h.lines x hx).ext hs, fun x hx y hy => (h.words x hx y hy).ext hs⟩
instance TextI.step {w w' : World} {cs : List Ch} [hs : Step w w'] [h : TextI w cs] : TextI w' cs := h.ext ⟨hs.b⟩
theorem TextI.word {w : World} {cs : List Ch} (h : TextI w cs) {k n : Nat} (hk : k < cs.length) (hn : n < cs[k].2.2.2.length) : RowI w (.slice cs[k].2.2.2[n].1 cs[k].2.2.2[n].2.2.length cs[k].2.2.2[n].2.1) false 1 (cs[k].2.2.2[n].2.2.map strV) := ⟨h.words _ (List.getElem_mem hk) _ (List.getElem_mem hn)⟩
/-! Valid texts -/
theorem all_no {α : Type} {p : α → Bool} {l : List α} {k : Nat} (hk : k < l.length) (h : p l[k] = false) : l.all p = false := by
  rw [List.all_eq_false]; exact ⟨_, List.getElem_mem hk, by rw [h]; simp⟩
theorem all_yes {α : Type} {p : α → Bool} {l : List α} (h : ∀ (j : Nat) (hj : j < l.length), p l[j] = true) : l.all p = true := by
  rw [List.all_eq_true]
  intro x hx
  obtain ⟨i, hi, rfl⟩ := List.mem_iff_getElem.1 hx
  exact h i hi
end Go.Proofs.YtpijeomnplmakaaDoor

/- The proof engine, part 19: slices within their room; append in place, copy, clear; overlaps. -/
namespace Go.Proofs.YtpijeomnplmakaaDoor
open Go.RowKit

section rules
variable {P : Program} {ro : Option Nat} {n : Nat} {all rest : List Oper} {K : Sl → World → Prop} {s : Sl} {w : World} {d : Nat} {ty : Nat} {pos : String} {af : Array Edge} {x y : Operand} {t t' e bytes : Nat} {z : Value}
variable {g o l c lo hi : Nat} {i j : Int} {k1 k2 k3 : IntKind} {xl xh xm : Operand}
variable {cs us : List Value} {a : Addr} {sl sc dl dc : Nat}
end rules
end Go.Proofs.YtpijeomnplmakaaDoor

/- The proof engine, part 20: slices of three and four. -/
namespace Go.Proofs.YtpijeomnplmakaaDoor
open Go.RowKit

section rules
variable {P : Program} {ro : Option Nat} {n : Nat} {all rest : List Oper} {K : Sl → World → Prop} {s : Sl} {w : World} {d : Nat} {ty : Nat} {pos : String} {af : Array Edge} {x1 x2 x3 x4 : Operand} {t e bytes : Nat} {z : Value}
theorem Ops.buildSlice3 {v1 v2 v3 : Value} (h1 : ev n s x1 = v1) (h2 : ev n s x2 = v2) (h3 : ev n s x3 = v3) [ht : TSl P t e] [hz : TS P e z 1 bytes] (c1 : v1.cells = #[v1]) (c2 : v2.cells = #[v2]) (c3 : v3.cells = #[v3]) (hzz : z.cells.size = 1)
    (h : ∀ b w', b = w.heap.size → w'.heap.size = w.heap.size + 1 → Step w w' → Bk w' b [v1, v2, v3] e → Ops P ro n all rest K (upd s d (.slice (some ⟨b, 0, none⟩) 3 3)) w') :
    Ops P ro n all (⟨some d, .buildSlice t 3 #[(0, x1), (1, x2), (2, x3)], ty, pos, af, none⟩ :: rest) K s w := by
  obtain ⟨inf, hi1, hiz, his, _⟩ := hz.info
  have hfill : ∀ (a b c : Value), Instr.fill (fun i => some (i, 1)) #[a, b, c] [(0, v1), (1, v2), (2, v3)] = some #[v1, v2, v3] := by
    intro a b c
    simp [Instr.fill, c1, c2, c3]
  have hzv : (zeroValue e).run P w = .ok z w := by simp [zeroValue, typeInfo, hi1, hiz]
  have hrange : (Array.range 3).map (fun x => z.cells[x % z.cells.size]!) = #[z.cells[0]!, z.cells[0]!, z.cells[0]!] := by
    rw [hzz, show Array.range 3 = #[0, 1, 2] from by decide]; simp [Nat.mod_one]
  refine Ops.ofRun (w' := w.alloc (.cells #[v1, v2, v3] e)) rfl ?_ (h w.heap.size _ rfl (by simp) ⟨(Below.refl _ w).alloc (Nat.le_refl _) _⟩ ⟨World.alloc_heap_new w _⟩)
  simp [execOp, Instr.buildSlice, run_underlying ht.h, run_sizeOf' w hz, h1, h2, h3, hzv, hrange, hfill, newRow]
theorem Ops.buildSlice4 {v1 v2 v3 v4 : Value} (h1 : ev n s x1 = v1) (h2 : ev n s x2 = v2) (h3 : ev n s x3 = v3) (h4 : ev n s x4 = v4) [ht : TSl P t e] [hz : TS P e z 1 bytes] (c1 : v1.cells = #[v1]) (c2 : v2.cells = #[v2]) (c3 : v3.cells = #[v3]) (c4 : v4.cells = #[v4]) (hzz : z.cells.size = 1)
    (h : ∀ b w', b = w.heap.size → w'.heap.size = w.heap.size + 1 → Step w w' → Bk w' b [v1, v2, v3, v4] e → Ops P ro n all rest K (upd s d (.slice (some ⟨b, 0, none⟩) 4 4)) w') :
    Ops P ro n all (⟨some d, .buildSlice t 4 #[(0, x1), (1, x2), (2, x3), (3, x4)], ty, pos, af, none⟩ :: rest) K s w := by
  obtain ⟨inf, hi1, hiz, his, _⟩ := hz.info
  have hfill : ∀ (a b c f : Value), Instr.fill (fun i => some (i, 1)) #[a, b, c, f] [(0, v1), (1, v2), (2, v3), (3, v4)] = some #[v1, v2, v3, v4] := by
    intro a b c f
    simp [Instr.fill, c1, c2, c3, c4]
  have hzv : (zeroValue e).run P w = .ok z w := by simp [zeroValue, typeInfo, hi1, hiz]
  have hrange : (Array.range 4).map (fun x => z.cells[x % z.cells.size]!) = #[z.cells[0]!, z.cells[0]!, z.cells[0]!, z.cells[0]!] := by
    rw [hzz, show Array.range 4 = #[0, 1, 2, 3] from by decide]; simp [Nat.mod_one]
  refine Ops.ofRun (w' := w.alloc (.cells #[v1, v2, v3, v4] e)) rfl ?_ (h w.heap.size _ rfl (by simp) ⟨(Below.refl _ w).alloc (Nat.le_refl _) _⟩ ⟨World.alloc_heap_new w _⟩)
  simp [execOp, Instr.buildSlice, run_underlying ht.h, run_sizeOf' w hz, h1, h2, h3, h4, hzv, hrange, hfill, newRow]
end rules
end Go.Proofs.YtpijeomnplmakaaDoor

/- cmp.Compare of integers. -/
namespace Go.Proofs.YtpijeomnplmakaaDoor
open Go.RowKit

/-! ### cmp.Compare -/
theorem isNaN_cmp (x : Int) (w : World) : Ct Tryd.prog 64 [.int .i64 x] w fun v _ => v = .bool false := by
  refine Ct.ofW (by simp) ?_
  (refine jjB ?_; refine jjC ?_; apply jJ; exact eB rfl; refine jz ?_; refine jjB ?_; refine jjC ?_; apply jI; exact eI rfl; apply jI; exact eI rfl; refine jc rfl rfl ?_; apply jJ; exact eB rfl; refine jz ?_; refine jjF ?_; refine jB rfl rfl ⟨inferInstance, ?_⟩)
  exact congrArg Value.bool (by simp)
theorem Compare_int (x y : Int) (w : World) : Ct Tryd.prog 43 [.int .i64 x, .int .i64 y] w fun v _ => v = .int .i64 (if x < y then -1 else if y < x then 1 else 0) := by
  refine Ct.ofW (by simp) ?_
  (refine jjB ?_; refine jjC ?_; apply jJ; exact eI rfl; refine jz ?_; refine jjB ?_; refine jjC ?_; apply jI; exact eI rfl)
  refine jjQ (isNaN_cmp x _) rfl rfl ?_
  rintro _ w2 hS2 rfl
  (apply jJ; exact eB rfl; refine jz ?_; refine jjB ?_; refine jjC ?_; apply jI; exact eI rfl)
  refine jjQ (isNaN_cmp y _) rfl rfl ?_
  rintro _ w3 hS3 rfl
  repeat' (first|((first|apply jI|apply jJ); (first|exact eI rfl|exact eB rfl))|(refine jW ?_; (first|refine jX rfl rfl ?_|refine je rfl rfl ?_))|refine jz ?_|(refine jjA ?_; (first|refine jjB ?_|refine jjC ?_|refine jjF ?_|refine jjG ?_|refine jjK rfl ?_))|(refine jjA ?_; (refine jjN rfl ?_ ?_ <;> intro _))|refine jB rfl rfl ⟨inferInstance, ?_⟩)
  · rw [if_pos ‹_›]; exact rfl
  · rw [if_neg ‹_›, if_pos ‹_›]; exact rfl
  · rw [if_neg ‹_›, if_neg ‹_›]; exact rfl
end Go.Proofs.YtpijeomnplmakaaDoor

/- The order of places: cmp.Or, slip.places; the reference: Before. -/
namespace Go.Proofs.YtpijeomnplmakaaDoor
open Go.RowKit

abbrev Pl := Int × Int × Int
abbrev encPl (p : Pl) : Value := .agg #[.int .i64 p.1, .int .i64 p.2.1, .int .i64 p.2.2]
/-- The first number that is not 0. -/
def orF : List Int → Int
  | [] => 0
  | x :: l => if x = 0 then orF l else x
def cmp1 (x y : Int) : Int := if x < y then -1 else if y < x then 1 else 0
def cmpP (a b : Pl) : Int := orF [cmp1 a.1 b.1, cmp1 a.2.1 b.2.1, cmp1 a.2.2 b.2.2]
def befP (a b : Pl) : Bool := if a.1 ≠ b.1 then decide (a.1 < b.1) else if a.2.1 ≠ b.2.1 then decide (a.2.1 < b.2.1) else decide (a.2.2 < b.2.2)
theorem orF_drop {l : List Int} : ∀ {k : Nat}, (∀ (j : Nat) (hj : j < l.length), j < k → l[j] = 0) → orF l = orF (l.drop k) := by
  intro k
  induction k with
  | zero => intro _; rfl
  | succ k ih =>
    intro h
    rw [ih fun j hj hk => h j hj (by omega)]
    by_cases hk : k < l.length
    · rw [List.drop_eq_getElem_cons hk, orF, if_pos (h k hk (by omega))]
    · rw [List.drop_of_length_le (by omega), List.drop_of_length_le (by omega)]
theorem Or_int (a : Option Addr) (c n : Nat) (l : List Int) (w : World) (hn : l.length = n) (hrow : RowV w false 1 (.slice a n c) (l.map intV)) : Ct Tryd.prog 28 [.slice a n c] w fun v _ => v = .int .i64 (orF l) := by
  subst hn
  have hI : RowI w (.slice a l.length c) false 1 (l.map intV) := ⟨hrow⟩
  have hlen := hrow.len
  rw [List.length_map] at hlen
  refine Ct.ofW (by simp) ?_
  (refine jjB ?_; refine jjC ?_; apply jJ; exact eI rfl; refine jz ?_; refine jjB ?_; refine jjC ?_; apply jJ; exact eI rfl; refine jz ?_; refine jjB ?_; refine jjB ?_; refine jjC ?_; apply jI; exact eS rfl; refine jh rfl ?_; apply jI; exact eI rfl; refine jz ?_; refine jjD ?_)
  refine W.keep0 [(3, .int .i64 (0 : Int)), (6, .slice a l.length c), (7, .int .i64 ((l.length : Nat) : Int)), (8, .int .i64 ((0 : Nat) : Int))] ⟨eI rfl, eS rfl, eI rfl, eI rfl, trivial⟩ fun s0 => ?_
  refine W.loop (9 :: 10 :: 11 :: 5 :: 12 :: 13 :: 14 :: 15 :: 2 :: 16 :: 8 :: []) (fun g s' V => ∃ k : Nat, s' 8 = .int .i64 ((k : Nat) : Int) ∧ g = l.length - k ∧ k ≤ l.length ∧ ∀ (j : Nat) (hj : j < l.length), j < k → l[j] = 0) l.length ⟨0, rfl, rfl, Nat.zero_le _, by intros; omega⟩ ?_
  rintro _ sd w1 hS1 ⟨k, h8, rfl, hk, hpre⟩
  refine W.fix h8 ?_
  clear h8
  by_cases hkl : k < l.length
  · by_cases h0 : l[k] = 0
    · (refine jjB ?_; refine jjC ?_; refine jjZ rfl rfl (by omega) ?_; refine jz ?_; refine jjB ?_; refine jjJ rfl ?_; refine jjG ?_; refine jjB ?_; refine jjD ?_; refine jjB ?_; refine jjC ?_; refine jF rfl rfl rfl (map_get (by omega)) ?_; intro _ _ _; refine jQ rfl rfl ?_; apply jJ; exact eI rfl; refine jz ?_; refine jjB ?_; refine jjC ?_; apply jI; exact eI rfl; apply jI; exact eI rfl; refine jjk rfl rfl (by omega) ?_; refine jz ?_; refine jjK rfl ?_; refine jjG ?_; refine jjC ?_; refine jY rfl rfl (by omega) ?_; apply jI; exact eI rfl; refine jz ?_)
      refine ⟨rfl, by ((refine Same.upd rfl ?_; refine Same.upd rfl ?_; refine Same.upd rfl ?_; refine Same.upd rfl ?_; refine Same.upd rfl ?_; refine Same.upd rfl ?_; refine Same.upd rfl ?_; refine Same.upd rfl ?_; refine Same.upd rfl ?_; refine Same.upd rfl ?_; exact Same.ovN)), l.length - (k + 1), by omega, inferInstance, k + 1, congrArg (Value.int .i64) (by omega), rfl, by omega, fun j hj hjk => ?_⟩
      by_cases e : j = k
      · subst e; exact h0
      · exact hpre j hj (by omega)
    · (refine jjB ?_; refine jjC ?_; refine jjZ rfl rfl (by omega) ?_; refine jz ?_; refine jjB ?_; refine jjJ rfl ?_; refine jjG ?_; refine jjB ?_; refine jjD ?_; refine jjB ?_; refine jjC ?_; refine jF rfl rfl rfl (map_get (by omega)) ?_; intro _ _ _; refine jQ rfl rfl ?_; apply jJ; exact eI rfl; refine jz ?_; refine jjB ?_; refine jjC ?_; apply jI; exact eI rfl; apply jI; exact eI rfl; refine jjj rfl rfl (by omega) ?_; refine jz ?_; refine jjJ rfl ?_; refine jjB ?_; refine jjC ?_; apply jI; exact eI rfl; apply jJ; exact eI rfl; refine jz ?_; refine jjF ?_; refine jB rfl rfl ⟨inferInstance, ?_⟩)
      rw [orF_drop hpre, List.drop_eq_getElem_cons hkl, orF, if_neg h0]; exact rfl
  · (refine jjB ?_; refine jjC ?_; refine jja rfl rfl (by omega) ?_; refine jz ?_; refine jjB ?_; refine jjK rfl ?_; refine jjE ?_; refine jjB ?_; refine jjC ?_; apply jI; exact eI rfl; apply jJ; exact eI rfl; refine jz ?_; refine jjF ?_; refine jB rfl rfl ⟨inferInstance, ?_⟩)
    rw [orF_drop hpre, List.drop_of_length_le (by omega), orF]; exact rfl

theorem Before_ref1 (a b : Pl) (w : World) : Ct Tryd.prog 62 [encPl a, encPl b] w fun v _ => v = .bool (befP a b) := by
  refine Ct.ofW (by simp) ?_
  (refine jjB ?_; refine jjC ?_)
  (refine jy rfl ?_; intro b1 w_b1 hb_b1 hs_b1 hS_b1 hk_b1; have hA_b1 := At.ofBlock hk_b1)
  skip
  (refine jy rfl ?_; intro b2 w_b2 hb_b2 hs_b2 hS_b2 hk_b2; have hA_b2 := At.ofBlock hk_b2)
  by_cases h1 : a.1 = b.1
  rotate_left
  · (apply jJ; exact eB rfl; refine jz ?_; refine jjB ?_; refine jjB ?_; refine jjC ?_; refine jm ?_; refine jn rfl ?_; refine jN rfl rfl rfl ?_; refine jm ?_; refine jn rfl ?_; refine jN rfl rfl rfl ?_; refine jjj rfl rfl (by omega) ?_; refine jz ?_; refine jjJ rfl ?_; refine jjB ?_; refine jjC ?_; refine jm ?_; refine jn rfl ?_; refine jN rfl rfl rfl ?_; refine jm ?_; refine jn rfl ?_; refine jN rfl rfl rfl ?_; refine jX rfl rfl ?_; apply jJ; exact eB rfl; refine jz ?_; refine jjF ?_; refine jB rfl rfl ⟨inferInstance, ?_⟩)
    rw [befP, if_pos h1]; exact rfl
  by_cases h2 : a.2.1 = b.2.1
  · (apply jJ; exact eB rfl; refine jz ?_; refine jjB ?_; refine jjB ?_; refine jjC ?_; refine jm ?_; refine jn rfl ?_; refine jN rfl rfl rfl ?_; refine jm ?_; refine jn rfl ?_; refine jN rfl rfl rfl ?_; refine jjk rfl rfl (by omega) ?_; refine jz ?_; refine jjK rfl ?_; refine jjG ?_; refine jjB ?_; refine jjB ?_; refine jjC ?_; refine jm ?_; refine jn rfl ?_; refine jN rfl rfl rfl ?_; refine jm ?_; refine jn rfl ?_; refine jN rfl rfl rfl ?_; refine jjk rfl rfl (by omega) ?_; refine jz ?_; refine jjK rfl ?_; refine jjG ?_; refine jjB ?_; refine jjC ?_; refine jm ?_; refine jn rfl ?_; refine jN rfl rfl rfl ?_; refine jm ?_; refine jn rfl ?_; refine jN rfl rfl rfl ?_; refine jX rfl rfl ?_; apply jJ; exact eB rfl; refine jz ?_; refine jjF ?_; refine jB rfl rfl ⟨inferInstance, ?_⟩)
    rw [befP, if_neg (by simp [h1]), if_neg (by simp [h2])]; exact rfl
  · (apply jJ; exact eB rfl; refine jz ?_; refine jjB ?_; refine jjB ?_; refine jjC ?_; refine jm ?_; refine jn rfl ?_; refine jN rfl rfl rfl ?_; refine jm ?_; refine jn rfl ?_; refine jN rfl rfl rfl ?_; refine jjk rfl rfl (by omega) ?_; refine jz ?_; refine jjK rfl ?_; refine jjG ?_; refine jjB ?_; refine jjB ?_; refine jjC ?_; refine jm ?_; refine jn rfl ?_; refine jN rfl rfl rfl ?_; refine jm ?_; refine jn rfl ?_; refine jN rfl rfl rfl ?_; refine jjj rfl rfl (by omega) ?_; refine jz ?_; refine jjJ rfl ?_; refine jjB ?_; refine jjC ?_; refine jm ?_; refine jn rfl ?_; refine jN rfl rfl rfl ?_; refine jm ?_; refine jn rfl ?_; refine jN rfl rfl rfl ?_; refine jX rfl rfl ?_; apply jJ; exact eB rfl; refine jz ?_; refine jjF ?_; refine jB rfl rfl ⟨inferInstance, ?_⟩)
    rw [befP, if_neg (by simp [h1]), if_pos h2]; exact rfl

theorem places_slip (a b : Pl) (w : World) : Ct Tryd.prog 30 [encPl a, encPl b] w fun v _ => v = .int .i64 (cmpP a b) := by
  refine Ct.ofW (by simp) ?_
  (refine jjB ?_; refine jjC ?_)
  (refine jy rfl ?_; intro b1 w_b1 hb_b1 hs_b1 hS_b1 hk_b1; have hA_b1 := At.ofBlock hk_b1)
  skip
  (refine jy rfl ?_; intro b2 w_b2 hb_b2 hs_b2 hS_b2 hk_b2; have hA_b2 := At.ofBlock hk_b2)
  (apply jJ; exact eI rfl; refine jz ?_; refine jjB ?_)
  refine W.draw (fun w' => Ext w_b2 w') ?_
  intro w1 hS1
  (refine jjV [0, 1, 2, 3, 5, 6, 7, 8, 10, 11, 12, 13] ?_ ?_ ?_; (decide +kernel); (exact hS1.ext); (((apply jjT; exact rfl; rintro w' hq; have := hq.toStep; refine jm ?_; refine jn rfl ?_; refine jz ?_; exact ⟨rfl, rfl⟩; apply jjT; exact rfl; rintro w' hq; have := hq.toStep; refine jN rfl rfl rfl ?_; refine jz ?_; exact ⟨rfl, rfl⟩; apply jjT; exact rfl; rintro w' hq; have := hq.toStep; refine jm ?_; refine jn rfl ?_; refine jz ?_; exact ⟨rfl, rfl⟩; apply jjT; exact rfl; rintro w' hq; have := hq.toStep; refine jN rfl rfl rfl ?_; refine jz ?_; exact ⟨rfl, rfl⟩; apply jjT; exact rfl; rintro w' hq; have := hq.toStep; refine jm ?_; refine jn rfl ?_; refine jz ?_; exact ⟨rfl, rfl⟩; apply jjT; exact rfl; rintro w' hq; have := hq.toStep; refine jN rfl rfl rfl ?_; refine jz ?_; exact ⟨rfl, rfl⟩; apply jjT; exact rfl; rintro w' hq; have := hq.toStep; refine jm ?_; refine jn rfl ?_; refine jz ?_; exact ⟨rfl, rfl⟩; apply jjT; exact rfl; rintro w' hq; have := hq.toStep; refine jN rfl rfl rfl ?_; refine jz ?_; exact ⟨rfl, rfl⟩; apply jjT; exact rfl; rintro w' hq; have := hq.toStep; refine jm ?_; refine jn rfl ?_; refine jz ?_; exact ⟨rfl, rfl⟩; apply jjT; exact rfl; rintro w' hq; have := hq.toStep; refine jN rfl rfl rfl ?_; refine jz ?_; exact ⟨rfl, rfl⟩; apply jjT; exact rfl; rintro w' hq; have := hq.toStep; refine jm ?_; refine jn rfl ?_; refine jz ?_; exact ⟨rfl, rfl⟩; apply jjT; exact rfl; rintro w' hq; have := hq.toStep; refine jN rfl rfl rfl ?_; refine jz ?_; exact ⟨rfl, rfl⟩; refine jjU ?_))))
  (apply jjW 4; (decide +kernel); exact rfl; (exact hS1.ext))
  refine jjQ (Compare_int _ _ _) rfl rfl ?_
  rintro _ w2 hS2 rfl
  refine jz ?_
  (apply jjW 9; (decide +kernel); exact rfl; (exact hS1.ext.trans hS2.ext))
  refine jjQ (Compare_int _ _ _) rfl rfl ?_
  rintro _ w3 hS3 rfl
  refine jz ?_
  (apply jjW 14; (decide +kernel); exact rfl; (exact (hS1.ext.trans hS2.ext).trans hS3.ext))
  refine jjQ (Compare_int _ _ _) rfl rfl ?_
  rintro _ w4 hS4 rfl
  refine jz ?_
  have hq2 : Ext w_b2 w4 := ((hS1.ext.trans hS2.ext).trans hS3.ext).trans hS4.ext
  (apply jjW 15; (decide +kernel); exact rfl; (exact hq2))
  refine Ops.buildSlice3 (v1 := .int .i64 (cmp1 a.1 b.1)) (v2 := .int .i64 (cmp1 a.2.1 b.2.1)) (v3 := .int .i64 (cmp1 a.2.2 b.2.2)) rfl rfl rfl rfl rfl rfl rfl ?_
  intro b3 w3 hb3 hs3 hS3 hk3
  refine jz ?_
  (apply jjW 16; (decide +kernel); exact rfl; (exact hq2.trans hS3.ext))
  have hr3 : RowV w3 false 1 (.slice (some ⟨b3, 0, none⟩) 3 3) ([cmp1 a.1 b.1, cmp1 a.2.1 b.2.1, cmp1 a.2.2 b.2.2].map intV) := hk3.row (fun x hx => by simp at hx; rcases hx with rfl | rfl | rfl <;> rfl) (by simp)
  refine jjQ (Or_int _ _ _ [cmp1 a.1 b.1, cmp1 a.2.1 b.2.1, cmp1 a.2.2 b.2.2] _ rfl hr3) rfl rfl ?_
  rintro _ w4 hS4 rfl
  refine jz ?_
  (apply jjW 17; (decide +kernel); exact rfl; (exact (hq2.trans hS3.ext).trans hS4.ext))
  (apply jJ; exact eI rfl; refine jz ?_)
  refine jjX (by decide +kernel) ((hq2.trans hS3.ext).trans hS4.ext) ?_
  (refine jjF ?_; refine jB rfl rfl ⟨inferInstance, ?_⟩)
  exact rfl
end Go.Proofs.YtpijeomnplmakaaDoor

/- slices.IndexFunc, slices.ContainsFunc, at each element type that occurs. -/
namespace Go.Proofs.YtpijeomnplmakaaDoor
open Go.RowKit

theorem IndexFunc_int {α : Type} (w : World) (v fv : Value) (enc : α → Value) (xs : List α) (p : α → Bool) (hrow : RowV w false 1 v (xs.map enc)) (hp : PredE Tryd.prog w fv enc xs p) :
    Ct Tryd.prog 49 [v, fv] w fun r _ => r = .int .i64 (idxV p xs) := by
  obtain ⟨a, c, rfl⟩ := hrow.slice
  obtain ⟨g, cap, rfl, hg, hp⟩ := hp.h
  have hlen := hrow.len
  rw [List.length_map] at hlen hrow ⊢
  refine Ct.ofW (by simp) ?_
  (refine jjB ?_; refine jjC ?_; apply jJ; exact eI rfl; refine jz ?_; refine jjB ?_; refine jjB ?_; refine jjC ?_; apply jI; exact eS rfl; refine jh rfl ?_; apply jI; exact eI rfl; refine jz ?_; refine jjD ?_)
  refine W.loop (9 :: 10 :: 5 :: 11 :: 12 :: 13 :: 14 :: 15 :: 16 :: 17 :: 4 :: 18 :: 8 :: []) (fun g s' _ => ∃ k : Nat, s' 8 = .int .i64 k ∧ g = xs.length - k ∧ k ≤ xs.length ∧ ∀ (j : Nat) (hj : j < xs.length), j < k → p xs[j] = false) xs.length ?_ ?_
  · exact ⟨0, rfl, by omega, by omega, by intros; omega⟩
  · rintro _ d w' hS ⟨k, h8, rfl, hk, hpre⟩
    refine W.fix h8 ?_
    repeat' (first|((first|apply jI|apply jJ); (first|exact eI rfl|exact eS rfl|exact eF rfl))|(refine jW ?_; refine jX rfl rfl ?_)|refine jz ?_|(refine jjA ?_; (first|refine jjB ?_|refine jjC ?_|refine jjD ?_|refine jjE ?_|refine jjF ?_|refine jjG ?_))|(refine jjA ?_; (refine jjN rfl ?_ ?_ <;> intro _))|refine jB rfl rfl ⟨inferInstance, ?_⟩)
    · have hk' : k < xs.length := by omega
      refine Ops.indexRow rfl rfl (hrow.ext inferInstance) rfl (map_get hk') ?_
      intro b o hA
      refine Ops.loadV rfl hA (by exact hrow.get (List.getElem_mem hk')) ?_
      refine jjQ (hp _ _ (List.getElem_mem hk') inferInstance) rfl rfl ?_
      rintro v w2 hS2 rfl
      repeat' (first|((first|apply jI|apply jJ); exact eI rfl)|(refine jW ?_; refine jY rfl rfl (by omega) ?_)|refine jz ?_|(refine jjA ?_; (first|refine jjB ?_|refine jjC ?_|refine jjF ?_|refine jjG ?_))|(refine jjA ?_; (refine jjO rfl ?_ ?_ <;> intro _))|refine jB rfl rfl ⟨inferInstance, ?_⟩)
      · exact congrArg _ (idxV_hit hk' ‹_› hpre).symm
      · refine ⟨rfl, by ((refine Same.upd rfl ?_; refine Same.upd rfl ?_; refine Same.upd rfl ?_; refine Same.upd rfl ?_; refine Same.upd rfl ?_; refine Same.upd rfl ?_; refine Same.upd rfl ?_; refine Same.upd rfl ?_; refine Same.upd rfl ?_; refine Same.upd rfl ?_; refine Same.upd rfl ?_; refine Same.upd rfl ?_; exact Same.ovN)), xs.length - (k + 1), by omega, inferInstance, k + 1, rfl, rfl, by omega, fun j hj hjk => ?_⟩
        by_cases e : j = k
        · subst e; assumption
        · exact hpre j hj (by omega)
    · exact congrArg _ (idxV_miss fun j hj => hpre j hj (by omega)).symm


theorem IndexFunc_byte {α : Type} (w : World) (v fv : Value) (enc : α → Value) (xs : List α) (p : α → Bool) (hrow : RowV w false 1 v (xs.map enc)) (hp : PredE Tryd.prog w fv enc xs p) :
    Ct Tryd.prog 78 [v, fv] w fun r _ => r = .int .i64 (idxV p xs) := by
  obtain ⟨a, c, rfl⟩ := hrow.slice
  obtain ⟨g, cap, rfl, hg, hp⟩ := hp.h
  have hlen := hrow.len
  rw [List.length_map] at hlen hrow ⊢
  refine Ct.ofW (by simp) ?_
  (refine jjB ?_; refine jjC ?_; apply jJ; exact eI rfl; refine jz ?_; refine jjB ?_; refine jjB ?_; refine jjC ?_; apply jI; exact eS rfl; refine jh rfl ?_; apply jI; exact eI rfl; refine jz ?_; refine jjD ?_)
  refine W.loop (9 :: 10 :: 5 :: 11 :: 12 :: 13 :: 14 :: 15 :: 16 :: 17 :: 4 :: 18 :: 8 :: []) (fun g s' _ => ∃ k : Nat, s' 8 = .int .i64 k ∧ g = xs.length - k ∧ k ≤ xs.length ∧ ∀ (j : Nat) (hj : j < xs.length), j < k → p xs[j] = false) xs.length ?_ ?_
  · exact ⟨0, rfl, by omega, by omega, by intros; omega⟩
  · rintro _ d w' hS ⟨k, h8, rfl, hk, hpre⟩
    refine W.fix h8 ?_
    repeat' (first|((first|apply jI|apply jJ); (first|exact eI rfl|exact eS rfl|exact eF rfl))|(refine jW ?_; refine jX rfl rfl ?_)|refine jz ?_|(refine jjA ?_; (first|refine jjB ?_|refine jjC ?_|refine jjD ?_|refine jjE ?_|refine jjF ?_|refine jjG ?_))|(refine jjA ?_; (refine jjN rfl ?_ ?_ <;> intro _))|refine jB rfl rfl ⟨inferInstance, ?_⟩)
    · have hk' : k < xs.length := by omega
      refine Ops.indexRow rfl rfl (hrow.ext inferInstance) rfl (map_get hk') ?_
      intro b o hA
      refine Ops.loadV rfl hA (by exact hrow.get (List.getElem_mem hk')) ?_
      refine jjQ (hp _ _ (List.getElem_mem hk') inferInstance) rfl rfl ?_
      rintro v w2 hS2 rfl
      repeat' (first|((first|apply jI|apply jJ); exact eI rfl)|(refine jW ?_; refine jY rfl rfl (by omega) ?_)|refine jz ?_|(refine jjA ?_; (first|refine jjB ?_|refine jjC ?_|refine jjF ?_|refine jjG ?_))|(refine jjA ?_; (refine jjO rfl ?_ ?_ <;> intro _))|refine jB rfl rfl ⟨inferInstance, ?_⟩)
      · exact congrArg _ (idxV_hit hk' ‹_› hpre).symm
      · refine ⟨rfl, by ((refine Same.upd rfl ?_; refine Same.upd rfl ?_; refine Same.upd rfl ?_; refine Same.upd rfl ?_; refine Same.upd rfl ?_; refine Same.upd rfl ?_; refine Same.upd rfl ?_; refine Same.upd rfl ?_; refine Same.upd rfl ?_; refine Same.upd rfl ?_; refine Same.upd rfl ?_; refine Same.upd rfl ?_; exact Same.ovN)), xs.length - (k + 1), by omega, inferInstance, k + 1, rfl, rfl, by omega, fun j hj hjk => ?_⟩
        by_cases e : j = k
        · subst e; assumption
        · exact hpre j hj (by omega)
    · exact congrArg _ (idxV_miss fun j hj => hpre j hj (by omega)).symm


theorem ContainsFunc_int {α : Type} (w : World) (v fv : Value) (enc : α → Value) (xs : List α) (p : α → Bool) (hrow : RowV w false 1 v (xs.map enc)) (hp : PredE Tryd.prog w fv enc xs p) :
    Ct Tryd.prog 31 [v, fv] w fun r _ => r = .bool (xs.any p) := by
  refine Ct.ofW (by simp) ?_
  (refine jjB ?_; refine jjC ?_; apply jJ; exact eB rfl; refine jz ?_; refine jjB ?_; refine jjC ?_; apply jI; exact rfl; apply jI; exact rfl)
  refine jjQ (IndexFunc_int _ _ _ enc _ _ (hrow.ext inferInstance) (hp.ext inferInstance)) rfl rfl ?_
  rintro _ w2 hS2 rfl
  (refine jf rfl rfl ?_; apply jJ; exact eB rfl; refine jz ?_; refine jjF ?_; refine jB rfl rfl ⟨inferInstance, ?_⟩)
  exact congrArg Value.bool (idxV_nonneg p xs)


theorem ContainsFunc_byte {α : Type} (w : World) (v fv : Value) (enc : α → Value) (xs : List α) (p : α → Bool) (hrow : RowV w false 1 v (xs.map enc)) (hp : PredE Tryd.prog w fv enc xs p) :
    Ct Tryd.prog 67 [v, fv] w fun r _ => r = .bool (xs.any p) := by
  refine Ct.ofW (by simp) ?_
  (refine jjB ?_; refine jjC ?_; apply jJ; exact eB rfl; refine jz ?_; refine jjB ?_; refine jjC ?_; apply jI; exact rfl; apply jI; exact rfl)
  refine jjQ (IndexFunc_byte _ _ _ enc _ _ (hrow.ext inferInstance) (hp.ext inferInstance)) rfl rfl ?_
  rintro _ w2 hS2 rfl
  (refine jf rfl rfl ?_; apply jJ; exact eB rfl; refine jz ?_; refine jjF ?_; refine jB rfl rfl ⟨inferInstance, ?_⟩)
  exact congrArg Value.bool (idxV_nonneg p xs)

end Go.Proofs.YtpijeomnplmakaaDoor

/- in and word, of each package. -/
namespace Go.Proofs.YtpijeomnplmakaaDoor
open Go.RowKit

theorem in1_slip (n lo hi : Int) (b c : Nat) (w : World) [At w b 0 [.int .i64 lo]] [At w c 0 [.int .i64 hi]] :
    Ct Tryd.prog 77 [.int .i64 n, .pointer (some ⟨b, 0, none⟩), .pointer (some ⟨c, 0, none⟩)] w fun v _ => v = .bool (!inB lo hi n) := by
  refine Ct.ofW (by simp) ?_
  repeat' (first|((first|apply jI|apply jJ|apply jK rfl|apply jL rfl); (first|exact eI rfl|exact eB rfl))|(refine jM ?_; refine jN rfl rfl rfl ?_)|(refine jS ?_; (first|refine jT rfl rfl rfl ?_|refine jU rfl rfl rfl rfl ?_))|(refine jW ?_; (first|refine jX rfl rfl ?_|refine je rfl rfl ?_))|refine jz ?_|(refine jjA ?_; (first|refine jjB ?_|refine jjC ?_|refine jjF ?_))|(refine jS ?_; (refine jjL rfl rfl ?_ ?_ <;> intro _))|refine jB rfl rfl ⟨inferInstance, ?_⟩)
  · exact congrArg Value.bool (by simp only [inB, Bool.true_eq, Bool.not_eq_true', decide_eq_false_iff_not]; omega)
  · exact congrArg Value.bool (by rw [inB, ← decide_not, decide_eq_decide]; omega)

theorem in_slip (lo hi : Int) (v : Value) (xs : List Int) (w : World) (hrow : RowV w false 1 v (xs.map (.int .i64))) :
    Ct Tryd.prog 66 [.int .i64 lo, .int .i64 hi, v] w fun r _ => r = .bool (xs.all (inB lo hi)) := by
  refine Ct.ofW (by simp) ?_
  (refine jjB ?_; refine jjC ?_)
  (refine jy rfl ?_; intro b1 w_b1 hb_b1 hs_b1 hS_b1 hk_b1; have hA_b1 := At.ofBlock hk_b1)
  (refine jy rfl ?_; intro b2 w_b2 hb_b2 hs_b2 hS_b2 hk_b2; have hA_b2 := At.ofBlock hk_b2)
  (apply jJ; exact eB rfl; refine jz ?_; refine jjB ?_; refine jjC ?_; apply jI; exact rfl; refine jv ?_)
  refine jjQ (ContainsFunc_int _ _ (.func (.func 77) #[] [.pointer (some ⟨b1, 0, none⟩), .pointer (some ⟨b2, 0, none⟩)].toArray) (.int .i64) xs (fun n => !inB lo hi n) (hrow.ext inferInstance) ?hp) rfl rfl ?_
  case hp =>
    refine ⟨_, _, rfl, inferInstance, fun w' y _ hs => ?_⟩
    have := hA_b2.ext hs
    have := (inferInstance : At w_b2 b1 0 _).ext hs
    exact in1_slip y lo hi b1 b2 w'
  rintro _ w2 hS2 rfl
  (refine js rfl ?_; apply jJ; exact eB rfl; refine jz ?_; refine jjF ?_; refine jB rfl rfl ⟨inferInstance, ?_⟩)
  exact congrArg Value.bool (not_any_not _ xs)


theorem word1_slip (n : Int) (w : World) : Ct Tryd.prog 68 [.int .u8 n] w fun v _ => v = .bool (decide (n < 97 ∨ 122 < n)) := by
  refine Ct.ofW (by simp) ?_
  repeat' (first|((first|apply jI|apply jJ|apply jK rfl|apply jL rfl); (first|exact eI rfl|exact eB rfl))|(refine jS ?_; (first|refine jT rfl rfl rfl ?_|refine jU rfl rfl rfl rfl ?_))|(refine jW ?_; (first|refine jX rfl rfl ?_|refine je rfl rfl ?_))|refine jz ?_|(refine jjA ?_; (first|refine jjB ?_|refine jjC ?_|refine jjF ?_))|(refine jS ?_; (refine jjL rfl rfl ?_ ?_ <;> intro _))|refine jB rfl rfl ⟨inferInstance, ?_⟩)
  · exact congrArg Value.bool (by simp only [Bool.true_eq, decide_eq_true_eq]; omega)
  · exact congrArg Value.bool (by rw [decide_eq_decide]; omega)

theorem word_slip (s : ByteArray) (w : World) (hs : s.size ≤ 140737488351232) : Ct Tryd.prog 47 [.string s] w fun r _ => r = .bool (wordB s) := by
  refine Ct.ofW (by simp) ?_
  (refine jjB ?_; refine jjC ?_; apply jJ; exact eB rfl; refine jz ?_; refine jjB ?_; refine jjC ?_; apply jI; exact eT rfl; refine ji rfl ?_)
  (refine jjP (v := .int _ _) rfl (by exact rfl) (by exact rfl) (by exact rfl) (by exact rfl) ?_; intro b1 w_b1 hb_b1 hs_b1 hS_b1 hk_b1; have hR_b1 := RowV.one (agg := false) (k := 1) rfl hk_b1)
  refine jjQ (in_slip 1 12 _ [(s.size : Int)] _ hR_b1) rfl rfl ?_
  rintro _ w2 hS2 rfl
  repeat' (first|((first|apply jI|apply jJ|apply jL rfl); (first|exact eB rfl|exact eT rfl))|(refine jS ?_; (first|refine jT rfl rfl rfl ?_|refine jU rfl rfl rfl rfl ?_))|refine jz ?_|(refine jjA ?_; refine jjF ?_)|(refine jS ?_; (refine jjM rfl rfl ?_ ?_ <;> intro _))|refine jB rfl rfl ⟨inferInstance, ?_⟩)
  · refine Ops.bytesOf rfl (by omega) ?_
    intro v w3 hS3 hR3
    (refine jT rfl rfl rfl ?_)
    refine jjQ (ContainsFunc_byte _ _ (.func (.func 68) #[] ([] : List Value).toArray) byteV s.data.toList (fun c => decide ((c.toNat : Int) < 97 ∨ 122 < (c.toNat : Int))) hR3 ?hp) rfl rfl ?_
    case hp =>
      exact ⟨_, _, rfl, inferInstance, fun w' y _ hs => word1_slip _ w'⟩
    rintro _ w4 hS4 rfl
    (refine jT rfl rfl rfl ?_; refine js rfl ?_; apply jK rfl; exact eB rfl; apply jJ; exact eB rfl; refine jz ?_; refine jjF ?_; refine jB rfl rfl ⟨inferInstance, ?_⟩)
    exact congrArg Value.bool (word_yes s ‹_›)
  · exact congrArg Value.bool (word_no s ‹_›)


theorem in1_rack (n lo hi : Int) (b c : Nat) (w : World) [At w b 0 [.int .i64 lo]] [At w c 0 [.int .i64 hi]] :
    Ct Tryd.prog 32 [.int .i64 n, .pointer (some ⟨b, 0, none⟩), .pointer (some ⟨c, 0, none⟩)] w fun v _ => v = .bool (!inB lo hi n) := by
  refine Ct.ofW (by simp) ?_
  repeat' (first|((first|apply jI|apply jJ|apply jK rfl|apply jL rfl); (first|exact eI rfl|exact eB rfl))|(refine jM ?_; refine jN rfl rfl rfl ?_)|(refine jS ?_; (first|refine jT rfl rfl rfl ?_|refine jU rfl rfl rfl rfl ?_))|(refine jW ?_; (first|refine jX rfl rfl ?_|refine je rfl rfl ?_))|refine jz ?_|(refine jjA ?_; (first|refine jjB ?_|refine jjC ?_|refine jjF ?_))|(refine jS ?_; (refine jjL rfl rfl ?_ ?_ <;> intro _))|refine jB rfl rfl ⟨inferInstance, ?_⟩)
  · exact congrArg Value.bool (by simp only [inB, Bool.true_eq, Bool.not_eq_true', decide_eq_false_iff_not]; omega)
  · exact congrArg Value.bool (by rw [inB, ← decide_not, decide_eq_decide]; omega)

theorem in_rack (lo hi : Int) (v : Value) (xs : List Int) (w : World) (hrow : RowV w false 1 v (xs.map (.int .i64))) :
    Ct Tryd.prog 13 [.int .i64 lo, .int .i64 hi, v] w fun r _ => r = .bool (xs.all (inB lo hi)) := by
  refine Ct.ofW (by simp) ?_
  (refine jjB ?_; refine jjC ?_)
  (refine jy rfl ?_; intro b1 w_b1 hb_b1 hs_b1 hS_b1 hk_b1; have hA_b1 := At.ofBlock hk_b1)
  (refine jy rfl ?_; intro b2 w_b2 hb_b2 hs_b2 hS_b2 hk_b2; have hA_b2 := At.ofBlock hk_b2)
  (apply jJ; exact eB rfl; refine jz ?_; refine jjB ?_; refine jjC ?_; apply jI; exact rfl; refine jv ?_)
  refine jjQ (ContainsFunc_int _ _ (.func (.func 32) #[] [.pointer (some ⟨b1, 0, none⟩), .pointer (some ⟨b2, 0, none⟩)].toArray) (.int .i64) xs (fun n => !inB lo hi n) (hrow.ext inferInstance) ?hp) rfl rfl ?_
  case hp =>
    refine ⟨_, _, rfl, inferInstance, fun w' y _ hs => ?_⟩
    have := hA_b2.ext hs
    have := (inferInstance : At w_b2 b1 0 _).ext hs
    exact in1_rack y lo hi b1 b2 w'
  rintro _ w2 hS2 rfl
  (refine js rfl ?_; apply jJ; exact eB rfl; refine jz ?_; refine jjF ?_; refine jB rfl rfl ⟨inferInstance, ?_⟩)
  exact congrArg Value.bool (not_any_not _ xs)

end Go.Proofs.YtpijeomnplmakaaDoor

/- leaf: Check. -/
namespace Go.Proofs.YtpijeomnplmakaaDoor
open Go.RowKit

section
variable (a : Option Addr) (c : Nat) (cs : List Ch) (w : World) [hrow : RowI w (.slice a cs.length c) true 2 (cs.map encCh)] [hT : TextI w cs]
end
end Go.Proofs.YtpijeomnplmakaaDoor

/- The reference of leaf: Great. -/
namespace Go.Proofs.YtpijeomnplmakaaDoor
open Go.RowKit

section
variable (a : Option Addr) (c : Nat) (cs : List Ch) (w : World) [hrow : RowI w (.slice a cs.length c) true 2 (cs.map encCh)] [hT : TextI w cs]
end
end Go.Proofs.YtpijeomnplmakaaDoor

/- within and Word of the reference. -/
namespace Go.Proofs.YtpijeomnplmakaaDoor
open Go.RowKit

theorem within_postilref01 (n lo hi : Int) (w : World) : Ct Tryd.prog 60 [.int .i64 n, .int .i64 lo, .int .i64 hi] w fun v _ => v = .bool (inB lo hi n) := by
  refine Ct.ofW (by simp) ?_
  repeat' (first|((first|apply jI|apply jJ|apply jK rfl|apply jL rfl); (first|exact eI rfl|exact eB rfl))|(refine jS ?_; (first|refine jT rfl rfl rfl ?_|refine jU rfl rfl rfl rfl ?_))|(refine jW ?_; (first|refine jd rfl rfl ?_|refine jf rfl rfl ?_))|refine jz ?_|(refine jjA ?_; (first|refine jjB ?_|refine jjC ?_|refine jjF ?_))|(refine jS ?_; (refine jjL rfl rfl ?_ ?_ <;> intro _))|refine jB rfl rfl ⟨inferInstance, ?_⟩)
  · exact congrArg Value.bool (by simp only [inB, decide_eq_decide]; omega)
  · exact congrArg Value.bool (by simp only [inB, Bool.false_eq, decide_eq_false_iff_not]; omega)


theorem within_postilref06 (n lo hi : Int) (w : World) : Ct Tryd.prog 20 [.int .i64 n, .int .i64 lo, .int .i64 hi] w fun v _ => v = .bool (inB lo hi n) := by
  refine Ct.ofW (by simp) ?_
  repeat' (first|((first|apply jI|apply jJ|apply jK rfl|apply jL rfl); (first|exact eI rfl|exact eB rfl))|(refine jS ?_; (first|refine jT rfl rfl rfl ?_|refine jU rfl rfl rfl rfl ?_))|(refine jW ?_; (first|refine jd rfl rfl ?_|refine jf rfl rfl ?_))|refine jz ?_|(refine jjA ?_; (first|refine jjB ?_|refine jjC ?_|refine jjF ?_))|(refine jS ?_; (refine jjL rfl rfl ?_ ?_ <;> intro _))|refine jB rfl rfl ⟨inferInstance, ?_⟩)
  · exact congrArg Value.bool (by simp only [inB, decide_eq_decide]; omega)
  · exact congrArg Value.bool (by simp only [inB, Bool.false_eq, decide_eq_false_iff_not]; omega)


theorem word_low {s : ByteArray} (h : ∀ j (hj : j < s.size), lowB s[j] = true) : s.data.toList.all lowB = true := by
  rw [List.all_eq_true]
  intro c hc
  obtain ⟨j, hj, rfl⟩ := List.getElem_of_mem hc
  exact h j (by simpa using hj)
theorem word_bad {s : ByteArray} {j : Nat} (hj : j < s.size) (h : lowB s[j] = false) : false = wordB s := by
  have : s.data.toList.all lowB = false := by
    rw [List.all_eq_false]
    exact ⟨s[j], by simp [ByteArray.getElem_eq_getElem_data], by simp [h]⟩
  simp [wordB, this]
theorem lowB_no {c : UInt8} (h : (c.toNat : Int) < 97 ∨ 122 < (c.toNat : Int)) : lowB c = false := by simp only [lowB, decide_eq_false_iff_not]; omega
theorem lowB_yes {c : UInt8} (h1 : ¬ (c.toNat : Int) < 97) (h2 : ¬ 122 < (c.toNat : Int)) : lowB c = true := by simp only [lowB, decide_eq_true_eq]; omega

theorem Word_ref (s : ByteArray) (w : World) (hs : s.size ≤ 140737488355328) : Ct Tryd.prog 36 [.string s] w fun v _ => v = .bool (wordB s) := by
  refine Ct.ofW (by simp) ?_
  (refine jjB ?_; refine jjC ?_; apply jJ; exact eB rfl; refine jz ?_; refine jjB ?_; refine jjB ?_; refine jjC ?_; apply jJ; exact eI rfl; refine jz ?_; refine jjD ?_)
  refine W.loop (4 :: 5 :: 6 :: 7 :: 10 :: 11 :: 12 :: 13 :: 14 :: 15 :: 16 :: 17 :: 18 :: 19 :: 2 :: 8 :: 9 :: 3 :: []) (fun g s' _ => ∃ k : Nat, s' 3 = .int .i64 k ∧ g = s.size - k ∧ k ≤ s.size ∧ ∀ (j : Nat) (hj : j < s.size), j < k → lowB s[j] = true) s.size ⟨0, rfl, by omega, by omega, by intros; omega⟩ ?_
  rintro _ d w' hS ⟨k, h3, rfl, hk, hpre⟩
  refine W.fix h3 ?_
  repeat' (first|((first|apply jI|apply jJ|apply jK rfl|apply jL rfl); (first|exact eI rfl|exact eB rfl|exact eT rfl))|(refine jS ?_; (first|refine jT rfl rfl rfl ?_|refine jU rfl rfl rfl rfl ?_))|(refine jW ?_; (first|refine jX rfl rfl ?_|refine jY rfl rfl (by omega) ?_|refine je rfl rfl ?_))|(refine jg ?_; refine ji rfl ?_)|refine jt rfl rfl rfl (by omega) ?_|refine jz ?_|(refine jjA ?_; (first|refine jjB ?_|refine jjC ?_|refine jjD ?_|refine jjE ?_|refine jjF ?_|refine jjG ?_|refine jjJ rfl ?_))|(refine jS ?_; (refine jjL rfl rfl ?_ ?_ <;> intro _))|(refine jjA ?_; (refine jjN rfl ?_ ?_ <;> intro _))|refine jB rfl rfl ⟨inferInstance, ?_⟩)
  · exact congrArg Value.bool (word_bad (j := k) (by omega) (lowB_no (.inl ‹_›)))
  · exact congrArg Value.bool (word_bad (j := k) (by omega) (lowB_no (.inr ‹_›)))
  · refine ⟨rfl, by ((refine Same.upd rfl ?_; refine Same.upd rfl ?_; refine Same.upd rfl ?_; refine Same.upd rfl ?_; refine Same.upd rfl ?_; refine Same.upd rfl ?_; refine Same.upd rfl ?_; refine Same.upd rfl ?_; refine Same.upd rfl ?_; refine Same.upd rfl ?_; refine Same.upd rfl ?_; refine Same.upd rfl ?_; refine Same.upd rfl ?_; refine Same.upd rfl ?_; refine Same.upd rfl ?_; refine Same.upd rfl ?_; refine Same.upd rfl ?_; refine Same.upd rfl ?_; refine Same.upd rfl ?_; exact Same.ovN)), s.size - (k + 1), by omega, inferInstance, k + 1, rfl, rfl, by omega, fun j hj hjk => ?_⟩
    by_cases e : j = k
    · subst e; exact lowB_yes ‹_› ‹_›
    · exact hpre j hj (by omega)
  · refine jjQ (within_postilref01 _ 1 12 _) rfl rfl ?_
    rintro _ w2 hS2 rfl
    (apply jJ; exact eB rfl; refine jz ?_; refine jjF ?_; refine jB rfl rfl ⟨inferInstance, ?_⟩)
    have := word_low (s := s) fun j hj => hpre j hj (by omega)
    exact congrArg Value.bool (by simp only [wordB, this, inB, Bool.and_true, decide_eq_decide]; omega)

end Go.Proofs.YtpijeomnplmakaaDoor

/- The reference of leaf: Text, Check. -/
namespace Go.Proofs.YtpijeomnplmakaaDoor
open Go.RowKit

section
variable (a : Option Addr) (c : Nat) (cs : List Ch) (w : World) [hrow : RowI w (.slice a cs.length c) true 2 (cs.map encCh)] [hT : TextI w cs]
end
end Go.Proofs.YtpijeomnplmakaaDoor

/- slip: Check, open; the reference: Cut, Check, asked. -/
namespace Go.Proofs.YtpijeomnplmakaaDoor
open Go.RowKit

section
variable (a : Option Addr) (c : Nat) (cs : List Ch) (width side : Int) (w : World) [hrow : RowI w (.slice a cs.length c) true 2 (cs.map encCh)] [hT : TextI w cs]
end
end Go.Proofs.YtpijeomnplmakaaDoor

/- What readings of texts, cuts and places say; what the table of sides holds when the call begins. -/
namespace Go.Proofs.YtpijeomnplmakaaDoor
open Go.ChangeShapes Go.WideShapes Go.ChangeAt Go.RowKit Go.WideElems

theorem nilf_of_trod {H : Type} {tok : TypeId × Value → H} {P : Program} {w : World} {base : Nat} {sp : Nat → Bool} {fuel : Nat} {t : TypeId} {ps rs : Array TypeId} {va : Bool} {v : Value} {q : List MemPlace}
    (ht : P.underlying t = some (.func ps rs va)) (h : DataW.trod tok P w base sp true fuel t [v] = some (.nil, q)) : v = .nilFunc := by
  cases fuel with
  | zero => simp [DataW.trod] at h
  | succ n => cases v <;> simp [DataW.trod, ht] at h <;> rfl
end Go.Proofs.YtpijeomnplmakaaDoor

/- Plain law: words with a space between them. -/
namespace Go.Proofs.YtpijeomnplmakaaDoor
open Go.RowKit

def spl : List UInt8 → List (List UInt8)
  | [] => [[]]
  | c :: l => if c = 32 then [] :: spl l else match spl l with
    | [] => [[c]]
    | x :: r => (c :: x) :: r
theorem spl_ne (l : List UInt8) : spl l ≠ [] := by
  cases l with
  | nil => simp [spl]
  | cons c l =>
    rw [spl]
    split
    · simp
    · split <;> simp
theorem spl_len (l : List UInt8) : 0 < (spl l).length := List.length_pos_iff.2 (spl_ne l)
theorem index_sp_hit (l : List UInt8) : Lib.index (32 :: l) [32] = 0 := by simp [Lib.index]
theorem index_sp_cons {c : UInt8} (hc : c ≠ 32) (l : List UInt8) : Lib.index (c :: l) [32] = if Lib.index l [32] = -1 then -1 else Lib.index l [32] + 1 := by
  have : ¬ (32 = c) := fun e => hc e.symm
  simp [Lib.index, this]
theorem split_spl : ∀ l : List UInt8, Lib.split l [32] = spl l := by
  intro l
  induction l with
  | nil => rfl
  | cons c l ih =>
    by_cases hc : c = 32
    · subst hc
      rw [spl, if_pos rfl, ← ih, Lib.split, Lib.split, Lib.count_cons_eq, Nat.add_comm, Lib.splitK, index_sp_hit]
      simp
    · have hcnt := Lib.count_cons_ne c 32 l hc
      have hix := index_sp_cons hc l
      rw [spl, if_neg hc, ← ih, Lib.split, Lib.split, hcnt]
      rcases Lib.index_spec l [32] with ⟨h1, _⟩ | ⟨i, h1, hi, _⟩
      · rw [Lib.count_miss h1]; rfl
      · rw [Lib.count_hit (by simp) h1, Nat.add_comm, Lib.splitK, Lib.splitK]
        have hix2 : Lib.index (c :: l) [32] = (i : Int) + 1 := by rw [hix, h1, if_neg (by omega)]
        rw [hix2, h1]
        have e1 : ((i : Int) + 1 == -1) = false := by rw [beq_eq_false_iff_ne]; omega
        have e2 : ((i : Int) == -1) = false := by rw [beq_eq_false_iff_ne]; omega
        have e3 : ((i : Int) + 1).toNat = i + 1 := by omega
        rw [e1, e2, e3]
        simp
theorem spl_snoc (l : List UInt8) (c : UInt8) : spl (l ++ [c]) = if c = 32 then spl l ++ [[]] else (spl l).dropLast ++ [(spl l).getLastD [] ++ [c]] := by
  induction l with
  | nil =>
    by_cases hc : c = 32
    · subst hc; rfl
    · simp [spl, hc]
  | cons b l ih =>
    rw [List.cons_append, spl, ih, spl]
    obtain ⟨x, r, hx⟩ : ∃ x r, spl l = x :: r := List.exists_cons_of_ne_nil (spl_ne l)
    rw [hx]
    by_cases hc : c = 32
    · subst hc
      by_cases hb : b = 32
      · simp [hb]
      · simp [hb]
    · by_cases hb : b = 32
      · simp [hb, hc]
      · cases r with
        | nil => simp [hb, hc]
        | cons y r => simp [hb, hc]
abbrev bytesL (l : List UInt8) : ByteArray := ⟨l.toArray⟩
def splB (s : ByteArray) : List ByteArray := (spl s.data.toList).map bytesL
theorem bytesL_data (s : ByteArray) : bytesL s.data.toList = s := by
  apply ByteArray.ext; simp
theorem splitB_spl (s : ByteArray) : Lib.splitB ⟨#[32]⟩ 0 (Lib.countB s ⟨#[32]⟩) s = splB s := by
  have h := Lib.splitB_data ⟨#[32]⟩ 0 (Lib.countB s ⟨#[32]⟩) s
  have h2 : Lib.splitK [32] 0 (Lib.countB s ⟨#[32]⟩) s.data.toList = spl s.data.toList := split_spl s.data.toList
  rw [show (⟨#[32]⟩ : ByteArray).data.toList = [32] from rfl, h2] at h
  rw [splB, ← h, List.map_map]
  symm
  have : (bytesL ∘ fun x : ByteArray => x.data.toList) = id := by funext x; exact bytesL_data x
  rw [this, List.map_id]
theorem splB_len (s : ByteArray) : (splB s).length = Lib.countB s ⟨#[32]⟩ + 1 := by
  rw [← splitB_spl]; exact Lib.splitB_all _ (by decide) 0 _ s rfl
theorem spl_bound (l : List UInt8) : (spl l).length ≤ l.length + 1 ∧ ∀ x ∈ spl l, x.length ≤ l.length := by
  induction l with
  | nil => simp [spl]
  | cons c l ih =>
    obtain ⟨h1, h2⟩ := ih
    rw [spl]
    split
    · refine ⟨by simp; omega, fun x hx => ?_⟩
      rcases List.mem_cons.1 hx with rfl | hx
      · simp
      · have := h2 x hx; simp; omega
    · obtain ⟨y, r, hy⟩ : ∃ x r, spl l = x :: r := List.exists_cons_of_ne_nil (spl_ne l)
      rw [hy] at h1 h2 ⊢
      refine ⟨by simp at h1 ⊢; omega, fun x hx => ?_⟩
      rcases List.mem_cons.1 hx with rfl | hx
      · have := h2 y (by simp); simp; omega
      · have := h2 x (by simp [hx]); simp; omega
theorem splB_bound (s : ByteArray) : (splB s).length ≤ s.size + 1 ∧ ∀ x ∈ splB s, x.size ≤ s.size := by
  have h := spl_bound s.data.toList
  have e : s.data.toList.length = s.size := by rw [Array.length_toList]; rfl
  rw [e] at h
  refine ⟨by rw [splB, List.length_map]; exact h.1, fun x hx => ?_⟩
  obtain ⟨y, hy, rfl⟩ := List.mem_map.1 hx
  have h2 := h.2 y hy
  have e2 : (bytesL y).size = y.length := by show y.toArray.size = _; exact List.size_toArray
  omega
theorem str_nil {s : ByteArray} : s = ⟨#[]⟩ ↔ s.size = 0 := ⟨fun h => by subst h; rfl, fun h => ByteArray.ext (Array.eq_empty_of_size_eq_zero h)⟩

/-- Whether a text is words with one space between them, or empty. -/
def wordsB (s : ByteArray) : Bool := decide (s.size = 0) || (decide (s.size ≤ 80) && (splB s).all wordB)
/-- The words of such a text. -/
def wordsL (s : ByteArray) : List ByteArray := if s.size = 0 then [] else splB s
end Go.Proofs.YtpijeomnplmakaaDoor

/- strings.Join: the contract of the library's shelf at this program. -/
namespace Go.Proofs.YtpijeomnplmakaaDoor
open Go.Shelf Go.RowKit
end Go.Proofs.YtpijeomnplmakaaDoor

/- The proof engine, part 25: slices of the call's own, by their block. -/
namespace Go.Proofs.YtpijeomnplmakaaDoor
open Go.RowKit

/-! ### Slices of the call's own, by their block -/
theorem OwnL.cells {w : World} {B e n c g : Nat} {l : List Value} (h : OwnL w B e false 1 (.slice (some ⟨g, 0, none⟩) n c) l) : ∃ cs, Bk w g cs e ∧ cs.length = c ∧ n ≤ c ∧ c ≤ maxLen ∧ l.length = n ∧ cs.take n = l ∧ B ≤ g := by
  have hf : ∀ xs : List Value, (∀ x ∈ xs, fitsV false 1 x = true) → xs.flatMap (·.cells.toList) = xs := by
    intro xs
    induction xs with
    | nil => intro _; rfl
    | cons y xs ih =>
      intro hx
      have hy := hx y List.mem_cons_self
      have hc : y.cells.toList = [y] := by cases y <;> simp [fitsV] at hy <;> rfl
      rw [List.flatMap_cons, hc, ih fun z hz => hx z (List.mem_cons_of_mem _ hz)]; rfl
  have e1 := hf l h.fit
  rcases h.own.2 with ⟨e0, _⟩ | ⟨g', cap, cur, e0, hB, hg, hn, hm, hs, ht⟩
  · simp at e0
  · simp only [Value.slice.injEq, Option.some.injEq, Addr.mk.injEq] at e0
    obtain ⟨⟨rfl, _⟩, rfl, rfl⟩ := e0
    rw [e1, Nat.mul_one] at ht
    exact ⟨cur.toList, ⟨by simpa using hg⟩, by simpa using hs, hn, hm, rfl, ht, hB⟩
theorem OwnL.ofCells {w : World} {B e n c g : Nat} {l cs : List Value} (hB : Bk w g cs e) (hc : cs.length = c) (hn : n ≤ c) (hm : c ≤ maxLen) (ht : cs.take n = l) (hn' : n ≤ 140737488355328) (hg : B ≤ g) (hf : ∀ x ∈ l, fitsV false 1 x = true) : OwnL w B e false 1 (.slice (some ⟨g, 0, none⟩) n c) l := by
  have hl : l.length = n := by rw [← ht, List.length_take]; omega
  have hfl : ∀ xs : List Value, (∀ x ∈ xs, fitsV false 1 x = true) → xs.flatMap (·.cells.toList) = xs := by
    intro xs
    induction xs with
    | nil => intro _; rfl
    | cons y xs ih =>
      intro hx
      have hy := hx y List.mem_cons_self
      have hc : y.cells.toList = [y] := by cases y <;> simp [fitsV] at hy <;> rfl
      rw [List.flatMap_cons, hc, ih fun z hz => hx z (List.mem_cons_of_mem _ hz)]; rfl
  refine ⟨⟨by rw [hfl l hf, hl, Nat.mul_one], .inr ⟨g, c, cs.toArray, by rw [hl], hg, hB.h, by omega, hm, by simp [hc], ?_⟩⟩, hf, by rw [hl]; exact hn'⟩
  rw [hfl l hf, hl, Nat.mul_one]; exact ht
end Go.Proofs.YtpijeomnplmakaaDoor

/- strings.Split: the contract of the library's shelf at this program. -/
namespace Go.Proofs.YtpijeomnplmakaaDoor
open Go.Shelf Go.RowKit
def sh_lays146_ren : Go.Shelf.Ren := ⟨fun | 146 => 65 | 221 => 76 | 268 => 81 | 138 => 82 | 143 => 83 | 195 => 85 | 197 => 86 | 218 => 87 | 219 => 88 | 260 => 89 | 217 => 90 | 225 => 91 | 224 => 92 | 267 => 93 | 266 => 94 | 314 => 95 | n => n, fun | 9 => 9 | 31 => 74 | 3 => 3 | 4 => 4 | 0 => 0 | 105 => 121 | 21 => 21 | 5 => 5 | 46 => 73 | 119 => 125 | 139 => 128 | 138 => 127 | 146 => 129 | 51 => 98 | n => n, fun | 1 => 1 | 3 => 2 | 4 => 3 | n => n⟩

theorem sh_lays146 : Go.Proofs.Lays.n146 Tryd.prog sh_lays146_ren := {
  mixed := by kernel_rfl
  f138 := Tryd.func82.trans (congrArg some (by kernel_rfl))
  f143 := Tryd.func83.trans (congrArg some (by kernel_rfl))
  f146 := Tryd.func65.trans (congrArg some (by kernel_rfl))
  f195 := Tryd.func85.trans (congrArg some (by kernel_rfl))
  f197 := Tryd.func86.trans (congrArg some (by kernel_rfl))
  f217 := Tryd.func90.trans (congrArg some (by kernel_rfl))
  f218 := Tryd.func87.trans (congrArg some (by kernel_rfl))
  f219 := Tryd.func88.trans (congrArg some (by kernel_rfl))
  f221 := Tryd.func76.trans (congrArg some (by kernel_rfl))
  f224 := Tryd.func92.trans (congrArg some (by kernel_rfl))
  f225 := Tryd.func91.trans (congrArg some (by kernel_rfl))
  f260 := Tryd.func89.trans (congrArg some (by kernel_rfl))
  f266 := Tryd.func94.trans (congrArg some (by kernel_rfl))
  f267 := Tryd.func93.trans (congrArg some (by kernel_rfl))
  f268 := Tryd.func81.trans (congrArg some (by kernel_rfl))
  f314 := Tryd.func95.trans (congrArg some (by kernel_rfl))
  t0 := Tryd.underlying0
  a0 := Tryd.isAgg0
  z0 := Tryd.sizeOf0
  v0 := Tryd.zeroValue0
  t3 := Tryd.underlying3
  a3 := Tryd.isAgg3
  z3 := Tryd.sizeOf3
  v3 := Tryd.zeroValue3
  t4 := Tryd.underlying4
  a4 := Tryd.isAgg4
  z4 := Tryd.sizeOf4
  v4 := Tryd.zeroValue4
  t5 := Tryd.underlying5
  a5 := Tryd.isAgg5
  z5 := Tryd.sizeOf5
  v5 := Tryd.zeroValue5
  t9 := Tryd.underlying9
  a9 := Tryd.isAgg9
  z9 := Tryd.sizeOf9
  v9 := Tryd.zeroValue9
  t21 := Tryd.underlying21
  a21 := Tryd.isAgg21
  z21 := Tryd.sizeOf21
  v21 := Tryd.zeroValue21
  t31 := Tryd.underlying74
  a31 := Tryd.isAgg74
  z31 := Tryd.sizeOf74
  v31 := Tryd.zeroValue74
  t46 := Tryd.underlying73
  a46 := Tryd.isAgg73
  z46 := Tryd.sizeOf73
  v46 := Tryd.zeroValue73
  t51 := Tryd.underlying98
  a51 := Tryd.isAgg98
  z51 := Tryd.sizeOf98
  v51 := Tryd.zeroValue98
  t105 := Tryd.underlying121
  a105 := Tryd.isAgg121
  z105 := Tryd.sizeOf121
  v105 := Tryd.zeroValue121
  t119 := Tryd.underlying125
  a119 := Tryd.isAgg125
  z119 := Tryd.sizeOf125
  t138 := Tryd.underlying127
  a138 := Tryd.isAgg127
  z138 := Tryd.sizeOf127
  v138 := Tryd.zeroValue127
  t139 := Tryd.underlying128
  a139 := Tryd.isAgg128
  z139 := Tryd.sizeOf128
  v139 := Tryd.zeroValue128
  t146 := Tryd.underlying129
  a146 := Tryd.isAgg129
  z146 := Tryd.sizeOf129
  v146 := Tryd.zeroValue129
  g1 := by kernel_rfl
  g3 := by kernel_rfl
  g4 := by kernel_rfl }

theorem sh_strings_Split (s sep : ByteArray) (m : Int) (w : World) (hs : s.size < 4294967281) (hm : w.cell? ⟨1, 0, none⟩ = some (.int .i64 m)) (h1 : 1 ≤ sep.size) :
    Calls Tryd.prog 65 #[.string s, .string sep] w fun e w' =>
      e = .returned (.slice (some ⟨w.heap.size, 0, none⟩) (Lib.countB s sep + 1) (Lib.countB s sep + 1)) ∧ w' = w.alloc (.cells ((Lib.splitB sep 0 (Lib.countB s sep) s).map Value.string).toArray 9) := Any.strings_Split sh_lays146 (by kernel_rfl) s sep m w hs hm h1

/-- The library's own length of what it finds at once. -/
class MxI (w : World) : Prop where
  h : ∃ m, At w 1 0 [.int .i64 m]
theorem MxI.ext {w w' : World} (h : MxI w) (e : Ext w w') : MxI w' := by
  obtain ⟨m, hm⟩ := h.h
  exact ⟨m, hm.ext e⟩
instance MxI.step {w w' : World} [hs : Step w w'] [h : MxI w] : MxI w' := h.ext ⟨hs.b⟩
theorem Split_str (s : ByteArray) (w : World) (hs : s.size ≤ 1000000) [hx : MxI w] : Ct Tryd.prog 65 [.string s, .string ⟨#[32]⟩] w fun v w' => ∃ sv, v = sv ∧ OwnL w' w.heap.size 9 false 1 sv ((splB s).map strV) := by
  unfold Ct
  obtain ⟨m, hm⟩ := hx.h
  have hc : w.cell? ⟨1, 0, none⟩ = some (.int .i64 m) := by
    have := hm.h 0 _ rfl
    simpa using this
  refine (sh_strings_Split s ⟨#[32]⟩ m w (by omega) hc (by decide)).mono fun e w' hp => ?_
  obtain ⟨h1, h2⟩ := hp
  rw [← splB_len] at h1
  rw [splitB_spl] at h2
  have hx : Ext w w' := by rw [h2]; exact ⟨(Below.refl _ w).alloc (Nat.le_refl _) _⟩
  refine ⟨_, h1, hx, _, rfl, ?_⟩
  have hb : Bk w' w.heap.size ((splB s).map strV) 9 := Bk.of (by rw [h2]; exact World.alloc_heap_new w _)
  have hbd := (splB_bound s).1
  exact OwnL.ofCells hb (List.length_map _) (Nat.le_refl _) (by unfold maxLen; omega) (by rw [List.take_of_length_le]; rw [List.length_map]; exact Nat.le_refl _) (by omega) (Nat.le_refl _) fun x hx => by obtain ⟨y, _, rfl⟩ := List.mem_map.1 hx; rfl
end Go.Proofs.YtpijeomnplmakaaDoor

/- The reference: line, Place. -/
namespace Go.Proofs.YtpijeomnplmakaaDoor
open Go.RowKit

section
variable (a : Option Addr) (c : Nat) (cs : List Ch) (w : World) [hrow : RowI w (.slice a cs.length c) true 2 (cs.map encCh)] [hT : TextI w cs]
end
end Go.Proofs.YtpijeomnplmakaaDoor

/- Plain law: readings, copies, what a copy has in a line, where words stand in it. -/
namespace Go.Proofs.YtpijeomnplmakaaDoor
open Go.RowKit

theorem befP_iff (a b : Pl) : befP a b = true ↔ a.1 < b.1 ∨ a.1 = b.1 ∧ (a.2.1 < b.2.1 ∨ a.2.1 = b.2.1 ∧ a.2.2 < b.2.2) := by
  by_cases h1 : a.1 = b.1 <;> by_cases h2 : a.2.1 = b.2.1 <;> simp [befP, h1, h2]
theorem befP_tri (a b : Pl) : befP a b = true ∨ a = b ∨ befP b a = true := by
  obtain ⟨a1, a2, a3⟩ := a
  obtain ⟨b1, b2, b3⟩ := b
  rw [befP_iff, befP_iff]
  simp only [Prod.mk.injEq]
  omega
end Go.Proofs.YtpijeomnplmakaaDoor

/- Equality of places and of slips. -/
namespace Go.Proofs.YtpijeomnplmakaaDoor
open Go.RowKit

section
variable {P : Program}
theorem eqFields_cons {w : World} {f : Field} {fs : List Field} {xs ys : Array Value} {d : Nat} {a b : Value} {r : Bool} (hn : f.name ≠ "_") (pa : (part f.type xs f.offset).run P w = .ok a w) (pb : (part f.type ys f.offset).run P w = .ok b w)
    (he : (Op.equalIn d f.type a b).run P w = .ok r w) : (Op.eqFields d xs ys (f :: fs)).run P w = if r then (Op.eqFields d xs ys fs).run P w else .ok false w := by
  simp only [Op.eqFields, if_pos hn, Sem.run_bind, pa, pb, he, Result.andThen_ok]
  cases r <;> simp
theorem part_cell {t : Nat} {w : World} {dd : TypeDesc} (u : TU P t dd) (hag : TypeDesc.isAgg dd = false) {cs : Array Value} {off : Nat} {v : Value} (h : cs[off]? = some v) : (part t cs off).run P w = .ok v w := by
  simp [part, run_isAgg w u, hag, h]
theorem part_agg {t size bytes : Nat} {w : World} {dd : TypeDesc} {z : Value} (u : TU P t dd) (hag : TypeDesc.isAgg dd = true) (hz : TS P t z size bytes) {cs xs : Array Value} {off : Nat} (h : cs.extract off (off + size) = xs) : (part t cs off).run P w = .ok (.agg xs) w := by
  simp [part, run_isAgg w u, hag, run_sizeOf' w hz, h]
theorem eqInt (w : World) (d : Nat) {t : Nat} (u : TU P t (.int .i64)) (a b : Int) : (Op.equalIn (d + 1) t (.int .i64 a) (.int .i64 b)).run P w = .ok (decide (a = b)) w := by
  rw [run_equalIn_int w d t .i64 .i64 a b u.h]
  congr 1
theorem eqStr (w : World) (d : Nat) {t : Nat} (u : TU P t .string) (a b : ByteArray) : (Op.equalIn (d + 1) t (.string a) (.string b)).run P w = .ok (decide (a = b)) w := by
  rw [run_equalIn_string w d t a b u.h, ← beq_toListBytes, byteArray_beq]
theorem eqIn_int3 {t : Nat} {f0 f1 f2 : Field} (hu : P.underlying t = some (.struct #[f0, f1, f2])) (h0 : f0.name ≠ "_") (h0' : f0.offset = 0) (h1 : f1.name ≠ "_") (h1' : f1.offset = 1) (h2 : f2.name ≠ "_") (h2' : f2.offset = 2)
    (u0 : TU P f0.type (.int .i64)) (u1 : TU P f1.type (.int .i64)) (u2 : TU P f2.type (.int .i64)) (hp : P.stoodInHeld t = false) (w : World) (d : Nat) (a b : Pl) : (Op.equalIn (d + 2) t (encPl a) (encPl b)).run P w = .ok (decide (a = b)) w := by
  have hf : P.fieldsOf t = #[f0, f1, f2] := by simp [Program.fieldsOf, hu]
  have ht : P.underlying t = some (.struct (P.fieldsOf t)) := by rw [hf]; exact hu
  rw [run_equalIn_struct w (d + 1) t _ _ ht hp, hf]
  obtain ⟨a1, a2, a3⟩ := a
  obtain ⟨b1, b2, b3⟩ := b
  rw [eqFields_cons h0 (part_cell u0 rfl (by rw [h0']; rfl)) (part_cell u0 rfl (by rw [h0']; rfl)) (eqInt w d u0 a1 b1)]
  by_cases c0 : a1 = b1
  · rw [decide_eq_true c0, if_pos rfl, eqFields_cons h1 (part_cell u1 rfl (by rw [h1']; rfl)) (part_cell u1 rfl (by rw [h1']; rfl)) (eqInt w d u1 a2 b2)]
    by_cases c1 : a2 = b2
    · rw [decide_eq_true c1, if_pos rfl, eqFields_cons h2 (part_cell u2 rfl (by rw [h2']; rfl)) (part_cell u2 rfl (by rw [h2']; rfl)) (eqInt w d u2 a3 b3)]
      by_cases c2 : a3 = b3
      · simp [c0, c1, c2, Op.eqFields]
      · simp [c2]
    · simp [c1]
  · simp [c0]
theorem eqT_int3 {t : Nat} (h : ∀ (w : World) (d : Nat) (a b : Pl), (Op.equalIn (d + 2) t (encPl a) (encPl b)).run P w = .ok (decide (a = b)) w) (hg : P.eqGuardType P.depth t = false) : EqT P t encPl where
  eq w a b := h w 9998 a b
  guard op x y w a b := by
    cases op <;> simp [encPl, eqGuard, hg]
  kind a b := ⟨fun w => by simp [encPl, binOp], fun w => by simp [encPl, binOp]⟩

/-! ### Slips -/
end
/-- A slip: its place, its word, what is before it, what is behind it. -/
abbrev Slp := Pl × ByteArray × ByteArray × ByteArray
abbrev encSl (x : Slp) : Value := .agg #[.int .i64 x.1.1, .int .i64 x.1.2.1, .int .i64 x.1.2.2, .string x.2.1, .string x.2.2.1, .string x.2.2.2]
section
variable {P : Program}
theorem eqIn_slip {t bytes : Nat} {z : Value} {d0 : TypeDesc} {f0 f1 f2 f3 : Field} (hu : P.underlying t = some (.struct #[f0, f1, f2, f3])) (h0 : f0.name ≠ "_") (h0' : f0.offset = 0) (h1 : f1.name ≠ "_") (h1' : f1.offset = 3) (h2 : f2.name ≠ "_") (h2' : f2.offset = 4) (h3 : f3.name ≠ "_") (h3' : f3.offset = 5)
    (u0 : TU P f0.type d0) (hag : TypeDesc.isAgg d0 = true) (hz : TS P f0.type z 3 bytes) (u1 : TU P f1.type .string) (u2 : TU P f2.type .string) (u3 : TU P f3.type .string) (hp : P.stoodInHeld t = false)
    (hpl : ∀ (w : World) (d : Nat) (a b : Pl), (Op.equalIn (d + 2) f0.type (encPl a) (encPl b)).run P w = .ok (decide (a = b)) w) (w : World) (d : Nat) (a b : Slp) : (Op.equalIn (d + 3) t (encSl a) (encSl b)).run P w = .ok (decide (a = b)) w := by
  have hf : P.fieldsOf t = #[f0, f1, f2, f3] := by simp [Program.fieldsOf, hu]
  have ht : P.underlying t = some (.struct (P.fieldsOf t)) := by rw [hf]; exact hu
  rw [run_equalIn_struct w (d + 2) t _ _ ht hp, hf]
  obtain ⟨a1, a2, a3, a4⟩ := a
  obtain ⟨b1, b2, b3, b4⟩ := b
  rw [eqFields_cons h0 (part_agg (xs := #[.int .i64 a1.1, .int .i64 a1.2.1, .int .i64 a1.2.2]) u0 hag hz (by rw [h0']; rfl)) (part_agg (xs := #[.int .i64 b1.1, .int .i64 b1.2.1, .int .i64 b1.2.2]) u0 hag hz (by rw [h0']; rfl)) (hpl w d a1 b1)]
  by_cases c0 : a1 = b1
  · rw [decide_eq_true c0, if_pos rfl, eqFields_cons h1 (part_cell u1 rfl (by rw [h1']; rfl)) (part_cell u1 rfl (by rw [h1']; rfl)) (eqStr w (d + 1) u1 a2 b2)]
    by_cases c1 : a2 = b2
    · rw [decide_eq_true c1, if_pos rfl, eqFields_cons h2 (part_cell u2 rfl (by rw [h2']; rfl)) (part_cell u2 rfl (by rw [h2']; rfl)) (eqStr w (d + 1) u2 a3 b3)]
      by_cases c2 : a3 = b3
      · rw [decide_eq_true c2, if_pos rfl, eqFields_cons h3 (part_cell u3 rfl (by rw [h3']; rfl)) (part_cell u3 rfl (by rw [h3']; rfl)) (eqStr w (d + 1) u3 a4 b4)]
        by_cases c3 : a4 = b4
        · simp [c0, c1, c2, c3, Op.eqFields]
        · simp [c3]
      · simp [c2]
    · simp [c1]
  · simp [c0]
theorem eqT_slip {t : Nat} (h : ∀ (w : World) (d : Nat) (a b : Slp), (Op.equalIn (d + 3) t (encSl a) (encSl b)).run P w = .ok (decide (a = b)) w) (hg : P.eqGuardType P.depth t = false) : EqT P t encSl where
  eq w a b := h w 9997 a b
  guard op x y w a b := by
    cases op <;> simp [encSl, eqGuard, hg]
  kind a b := ⟨fun w => by simp [encSl, binOp], fun w => by simp [encSl, binOp]⟩
end
theorem eqIn_place (w : World) (d : Nat) (a b : Pl) : (Op.equalIn (d + 2) 37 (encPl a) (encPl b)).run Tryd.prog w = .ok (decide (a = b)) w :=
  eqIn_int3 Tryd.underlying37 (by decide) rfl (by decide) rfl (by decide) rfl tu3 tu3 tu3 (by kernel_rfl) w d a b
instance : EqT Tryd.prog 37 encPl := eqT_int3 eqIn_place (by kernel_rfl)
instance : EqT Tryd.prog 39 encSl := eqT_slip (eqIn_slip Tryd.underlying39 (by decide) rfl (by decide) rfl (by decide) rfl (by decide) rfl tu37 rfl ts37 tu9 tu9 tu9 (by kernel_rfl) eqIn_place) (by kernel_rfl)
end Go.Proofs.YtpijeomnplmakaaDoor

/- The proof engine, part 21: strings joined, compared; parts of slices told outright; a number turned round. -/
namespace Go.Proofs.YtpijeomnplmakaaDoor
open Go.RowKit

section rules
variable {P : Program} {ro : Option Nat} {n : Nat} {all rest : List Oper} {K : Sl → World → Prop} {s : Sl} {w : World} {d : Nat} {ty : Nat} {pos : String} {af : Array Edge}
variable {x y : Operand} {t t' e : Nat}
theorem Ops.cat {a b : ByteArray} (hx : ev n s x = .string a) (hy : ev n s y = .string b) (hl : a.size + b.size ≤ 9223372036854775807) (h : Ops P ro n all rest K (upd s d (.string (a ++ b))) w) :
    Ops P ro n all (⟨some d, .binOp .add t x y t', ty, pos, af, none⟩ :: rest) K s w :=
  Ops.ofRun rfl (by simp [execOp, hx, hy, go_sem, run_string_add_sum w a b hl]) h
/-- A part of a slice, as a value. -/
abbrev cutV (a : Option Addr) (c k lo hi : Nat) : Value := .slice (if c = lo then a else a.map (·.add (lo * k))) (hi - lo) (c - lo)
theorem RowV.cut {agg : Bool} {k l c : Nat} {a : Option Addr} {xs : List Value} (h : RowV w agg k (.slice a l c) xs) {lo hi : Nat} (h1 : lo ≤ hi) (h2 : hi ≤ xs.length) : RowV w agg k (cutV a c k lo hi) ((xs.take hi).drop lo) := by
  obtain ⟨rfl, hlc⟩ := h.cap
  exact h.part lo hi h1 h2 _ (by omega) _ (fun hlt => by rw [if_neg (by omega)])
theorem beqS (a b : ByteArray) : (a.toList == b.toList) = decide (a = b) := by rw [← beq_toListBytes, byteArray_beq]
theorem Ops.eqlS {a b : ByteArray} (hx : ev n s x = .string a) (hy : ev n s y = .string b) (h : Ops P ro n all rest K (upd s d (.bool (decide (a = b)))) w) :
    Ops P ro n all (⟨some d, .binOp .eql t x y t', ty, pos, af, none⟩ :: rest) K s w :=
  Ops.ofRun rfl (by simp [execOp, hx, hy, go_sem, beqS, eqGuard]) h
theorem Ops.neqS {a b : ByteArray} (hx : ev n s x = .string a) (hy : ev n s y = .string b) (h : Ops P ro n all rest K (upd s d (.bool (decide (¬ a = b)))) w) :
    Ops P ro n all (⟨some d, .binOp .neq t x y t', ty, pos, af, none⟩ :: rest) K s w :=
  Ops.ofRun rfl (by
    have e : decide (¬ a = b) = !decide (a = b) := by by_cases h : a = b <;> simp [h]
    rw [e]
    simp [execOp, hx, hy, go_sem, beqS, eqGuard]) h
theorem Ops.lssS {a b : ByteArray} (hx : ev n s x = .string a) (hy : ev n s y = .string b) (h : Ops P ro n all rest K (upd s d (.bool (Op.bytesLess a.toList b.toList))) w) :
    Ops P ro n all (⟨some d, .binOp .lss t x y t', ty, pos, af, none⟩ :: rest) K s w :=
  Ops.ofRun rfl (by simp [execOp, hx, hy, go_sem]) h
theorem Ops.gtrS {a b : ByteArray} (hx : ev n s x = .string a) (hy : ev n s y = .string b) (h : Ops P ro n all rest K (upd s d (.bool (!(Op.bytesLess a.toList b.toList || a.toList == b.toList)))) w) :
    Ops P ro n all (⟨some d, .binOp .gtr t x y t', ty, pos, af, none⟩ :: rest) K s w :=
  Ops.ofRun rfl (by simp [execOp, hx, hy, go_sem, binOp, Op.stringOp]) h
/-- The address of an element of an array. -/
theorem Ops.indexAP {z : Value} {size bytes b o len : Nat} {i : Int} {k : IntKind} (j : Nat) (hx : ev n s x = .pointer (some ⟨b, o, none⟩)) (hy : ev n s y = .int k i) (hi : i = (j : Int)) [ht : TArr P t len e] [hz : TS P e z size bytes] (hj : Nat.blt j len = true)
    (h : Ops P ro n all rest K (upd s d (.pointer (some ⟨b, o + j * size, none⟩))) w) :
    Ops P ro n all (⟨some d, .indexAddr t x y, ty, pos, af, none⟩ :: rest) K s w := by
  subst hi
  have hj' : j < len := by simpa using hj
  exact Ops.ofRun rfl (by
    have h1 : (0 : Int) ≤ (j : Int) ∧ (j : Int) < (len : Int) := by omega
    simp [execOp, Instr.indexAt, hx, hy, asIntOf, Instr.sureAddr, run_underlying ht.h, run_sizeOf' w hz, Addr.add_lit, hj']) h
end rules
end Go.Proofs.YtpijeomnplmakaaDoor

/- The proof engine, part 22: a struct and a number as results. -/
namespace Go.Proofs.YtpijeomnplmakaaDoor
open Go.RowKit

end Go.Proofs.YtpijeomnplmakaaDoor

/- The proof engine, part 23: regions that draw their order and whose last operation stores into what they read. -/
namespace Go.Proofs.YtpijeomnplmakaaDoor
open Go.RowKit

section
variable {P : Program} {ro : Option Nat} {n : Nat} {all : List Oper} {S : World → Prop} {K : Sl → World → Prop} {x : Nat}
theorem AnyS.mono {K' : Sl → World → Prop} (hk : ∀ s w, K' s w → K s w) : ∀ {fuel : Nat} {listed : Array Bool} {s : Sl} {w : World}, AnyS P ro n all S K' fuel listed s w → AnyS P ro n all S K fuel listed s w := by
  intro fuel
  induction fuel with
  | zero =>
    intro listed s w h
    rw [AnyS.zero] at h ⊢
    exact ⟨h.1, h.2.1, hk _ _ h.2.2⟩
  | succ fuel ih =>
    intro listed s w h
    rw [AnyS.succ] at h ⊢
    exact ⟨h.1, fun e => hk _ _ (h.2.1 e), fun i hi o ho => (h.2.2 i hi o ho).mono fun v w' h => ih h⟩
/-- Each order of the operations that are not yet listed ends, and K; the world stays in S till the operation x. -/
def AnyX (P : Program) (ro : Option Nat) (n : Nat) (all : List Oper) (S : World → Prop) (K : Sl → World → Prop) (x : Nat) : Nat → Array Bool → Sl → World → Prop
  | 0, listed, s, w => (listed.getD x false = false → S w) ∧ Region.ready .any all.toArray listed = [] ∧ K s w
  | fuel + 1, listed, s, w => (listed.getD x false = false → S w) ∧ (Region.ready .any all.toArray listed = [] → K s w) ∧
      ∀ i ∈ Region.ready .any all.toArray listed, ∀ o, all[i]? = some o → Op1 P ro n all o s w (fun v w' => AnyX P ro n all S K x fuel (listed.setIfInBounds i true) (putS s o.dst v) w')
theorem AnyX.succ {fuel : Nat} {listed : Array Bool} {s : Sl} {w : World} : AnyX P ro n all S K x (fuel + 1) listed s w ↔ ((listed.getD x false = false → S w) ∧ (Region.ready .any all.toArray listed = [] → K s w) ∧
      ∀ i ∈ Region.ready .any all.toArray listed, ∀ o, all[i]? = some o → Op1 P ro n all o s w (fun v w' => AnyX P ro n all S K x fuel (listed.setIfInBounds i true) (putS s o.dst v) w')) := Iff.rfl
theorem AnyX.zero {listed : Array Bool} {s : Sl} {w : World} : AnyX P ro n all S K x 0 listed s w ↔ ((listed.getD x false = false → S w) ∧ Region.ready .any all.toArray listed = [] ∧ K s w) := Iff.rfl
theorem AnyX.inS : ∀ {fuel : Nat} {listed : Array Bool} {s : Sl} {w : World}, AnyX P ro n all S K x fuel listed s w → listed.getD x false = false → S w
  | 0, _, _, _, h => h.1
  | _ + 1, _, _, _, h => h.1
theorem AnyX.sound {ds : List Deferred} {Q : Exit → Act → World → Prop} (hQ : ∀ s w, K s w → Q .normal (mkA n s ds) w) : ∀ (fuel : Nat) (listed : Array Bool) (s : Sl) (w : World), AnyX P ro n all S K x fuel listed s w →
    wpAnyIn (Fw ro) 0 P .any all.toArray Q fuel listed (mkA n s ds) w := by
  intro fuel
  induction fuel with
  | zero => intro listed s w h; exact ⟨h.2.1, hQ _ _ h.2.2⟩
  | succ fuel ih =>
    intro listed s w h
    refine ⟨fun h0 => hQ _ _ (h.2.1 h0), fun i hi => ?_⟩
    obtain ⟨_, o, ho, _⟩ := mem_ready.1 hi
    have ho' : all[i]? = some o := by simpa using ho
    exact Op1.sound ho' (h.2.2 i hi o ho') fun v w' hk => ih _ _ _ hk
/-- The operation x stands behind the operation i. -/
def behind (all : List Oper) (x i : Nat) : Bool := (x != i) && (match all[x]? with
  | some o => o.after.toList.any fun e => Region.binds .any e && (e.on == i)
  | none => false)
theorem AnyX.first {i : Nat} {oi : Oper} {v : Value} (hn : niceAll all = true) (hi : all[i]? = some oi) (hbx : behind all x i = true) :
    ∀ (fuel : Nat) (listed : Array Bool) (s : Sl) (w : World),
      (∀ j oj, all[j]? = some oj → j ≠ i → listed.getD j true = false → (∀ e ∈ oj.after, Region.binds .any e = true → e.on ≠ i) → oi.apart all.toArray oj = true) →
      i ∈ Region.ready .any all.toArray listed → Quiet P ro n all S oi v s → S w → listed.getD x false = false →
      AnyX P ro n all S K x fuel (listed.setIfInBounds i true) (putS s oi.dst v) w → AnyX P ro n all S K x (fuel + 1) listed s w := by
  have putv : ∀ (s : Sl) (u : Value), (∀ d, oi.dst = some d → u = v) → putS s oi.dst u = putS s oi.dst v := fun s u h => by
    cases hd : oi.dst with
    | none => rfl
    | some d => rw [h d hd]
  have hxi : i ≠ x := fun e => by subst e; simp [behind] at hbx
  intro fuel
  induction fuel with
  | zero =>
    intro listed s w _ hr hy hS hx H
    refine AnyX.succ.2 ⟨fun _ => hS, fun h => (by rw [h] at hr; cases hr), fun j hj oj hoj => ?_⟩
    by_cases hji : j = i
    · subst hji
      have : oj = oi := by rw [hi] at hoj; exact (Option.some.inj hoj).symm
      subst this
      refine (hy w hS).mono fun u w' ⟨h1, h2⟩ => ?_
      subst h2; rw [putv s u h1]; exact H
    · have := ready_mono hj hji
      rw [(AnyX.zero.1 H).2.1] at this
      cases this
  | succ fuel ih =>
    intro listed s w hfree hr hy hS hx H
    refine AnyX.succ.2 ⟨fun _ => hS, fun h => (by rw [h] at hr; cases hr), fun j hj oj hoj => ?_⟩
    by_cases hji : j = i
    · subst hji
      have : oj = oi := by rw [hi] at hoj; exact (Option.some.inj hoj).symm
      subst this
      refine (hy w hS).mono fun u w' ⟨h1, h2⟩ => ?_
      subst h2; rw [putv s u h1]; exact H
    · obtain ⟨hjun, oj', hoj', hall⟩ := mem_ready.1 hj
      have : oj' = oj := by
        have : all[j]? = some oj' := by simpa using hoj'
        rw [hoj] at this; exact (Option.some.inj this).symm
      subst this
      have hnot : ∀ e ∈ oj'.after, Region.binds .any e = true → e.on ≠ i := fun e he hb heq => by
        have h1 := hall e he hb
        have h0 := (mem_ready.1 hr).1
        rw [heq] at h1
        rcases Nat.lt_or_ge i listed.size with h' | h'
        · simp [h'] at h0 h1; rw [h0] at h1; cases h1
        · simp [Array.getElem?_eq_none h'] at h1
      have hjx : j ≠ x := fun e => by
        subst e
        simp only [behind, hoj, Bool.and_eq_true, List.any_eq_true, beq_iff_eq] at hbx
        obtain ⟨_, e, he, hb, ho⟩ := hbx
        exact hnot e (by simpa using he) hb ho
      obtain ⟨a1, a2, a3⟩ := Oper.apart_spec (hfree j oj' hoj hji hjun hnot)
      have h1 := (Op1.congr (niceAll.get hn hoj) a1).2 ((AnyX.succ.1 H).2.2 j (ready_mono hj hji) oj' hoj)
      have hfree' : ∀ k ok, all[k]? = some ok → k ≠ i → (listed.setIfInBounds j true).getD k true = false →
          (∀ e ∈ ok.after, Region.binds .any e = true → e.on ≠ i) → oi.apart all.toArray ok = true := fun k ok hk hki hun hno => by
        refine hfree k ok hk hki ?_ hno
        by_cases hjk : j = k
        · subst hjk; exact hjun
        · rw [getD_set_ne true hjk] at hun; exact hun
      refine h1.mono fun u w' h3 => ?_
      have hx' : (listed.setIfInBounds j true).getD x false = false := by rw [getD_set_ne false hjx]; exact hx
      refine ih (listed.setIfInBounds j true) (putS s oj'.dst u) w' hfree' (ready_mono hr (Ne.symm hji)) (fun w hw => (Op1.congr (niceAll.get hn hi) a3).1 (hy w hw)) (h3.inS (by rw [getD_set_ne false hjx, getD_set_ne false hxi]; exact hx)) hx' ?_
      rw [Array.setIfInBounds_comm _ _ hji, ← putS_comm s v u a2]
      exact h3
theorem Takes.nilD {K : Sl → Prop} {s : Sl} (h : Takes P ro n all S [] K s) : K s := by
  with_unfolding_all exact h
theorem Takes.consD {i : Nat} {is : List Nat} {K : Sl → Prop} {s : Sl} (h : Takes P ro n all S (i :: is) K s) : ∃ o v, all[i]? = some o ∧ (∀ w, S w → Ops P ro n all [o] (fun s' w' => s' = putS s o.dst v ∧ w' = w) s w) ∧ Takes P ro n all S is K (putS s o.dst v) := by
  with_unfolding_all exact h
theorem AnyX.takes (hn : niceAll all = true) : ∀ (is : List Nat) {fuel : Nat} {listed : Array Bool} {s : Sl} {w : World}, okTake all is listed = true → is.all (behind all x) = true → listed.getD x false = false → S w →
    Takes P ro n all S is (fun s' => AnyX P ro n all S K x fuel (listAll listed is) s' w) s → AnyX P ro n all S K x (fuel + is.length) listed s w := by
  intro is
  induction is with
  | nil => intro fuel listed s w _ _ _ _ h; exact h.nilD
  | cons i is ih =>
    intro fuel listed s w hok hb hx hS h
    simp only [okTake, Bool.and_eq_true] at hok
    simp only [List.all_cons, Bool.and_eq_true] at hb
    obtain ⟨⟨h1, h2⟩, h3⟩ := hok
    obtain ⟨o, v, ho, hq, hr⟩ := h.consD
    have ho' : all.toArray[i]? = some o := by simpa using ho
    have hxi : i ≠ x := fun e => by have := hb.1; subst e; simp [behind] at this
    refine AnyX.first (v := v) hn ho hb.1 (fuel + is.length) listed s w (fun j oj hj => Region.free_spec ho' h2 j oj (by simpa using hj)) (by simpa using h1) ?_ hS hx (ih h3 hb.2 (by rw [getD_set_ne false hxi]; exact hx) hS hr)
    intro w hw
    have := hq w hw
    rw [op1_ops] at this
    refine this.mono fun u w' ⟨e1, e2⟩ => ⟨fun d hd => ?_, e2⟩
    rw [hd] at e1
    have := congrFun e1 d
    simpa [putS, upd] using this
theorem AnyX.take (is : List Nat) {fuel : Nat} {listed : Array Bool} {s : Sl} {w : World} (hok : (niceAll all && Nat.ble is.length fuel && okTake all is listed && is.all (behind all x) && !listed.getD x false) = true) (hS : S w)
    (h : Takes P ro n all S is (fun s' => AnyX P ro n all S K x (fuel - is.length) (listAll listed is) s' w) s) : AnyX P ro n all S K x fuel listed s w := by
  simp only [Bool.and_eq_true, Bool.not_eq_true'] at hok
  have hle : is.length ≤ fuel := by simpa using hok.1.1.1.2
  have := AnyX.takes (K := K) (fuel := fuel - is.length) hok.1.1.1.1 is hok.1.1.2 hok.1.2 hok.2 hS h
  rwa [Nat.sub_add_cancel hle] at this
theorem AnyX.done {fuel : Nat} {listed : Array Bool} {s : Sl} {w : World} (hr : ((Region.ready .any all.toArray listed).isEmpty && listed.getD x false) = true) (h : K s w) : AnyX P ro n all S K x fuel listed s w := by
  simp only [Bool.and_eq_true] at hr
  have hr' : Region.ready .any all.toArray listed = [] := List.isEmpty_iff.1 hr.1
  have hx : listed.getD x false = false → S w := fun h => by rw [hr.2] at h; cases h
  cases fuel with
  | zero => exact ⟨hx, hr', h⟩
  | succ fuel => exact ⟨hx, fun _ => h, fun i hi => by rw [hr'] at hi; cases hi⟩
theorem AnyX.one (i : Nat) {o : Oper} {fuel : Nat} {listed : Array Bool} {s : Sl} {w : World} (hr : (Nat.blt 0 fuel && (Region.ready .any all.toArray listed == [i])) = true) (ho : all[i]? = some o) (hS : S w)
    (h : Ops P ro n all [o] (fun s' w' => AnyX P ro n all S K x (fuel - 1) (listed.setIfInBounds i true) s' w') s w) : AnyX P ro n all S K x fuel listed s w := by
  simp only [Bool.and_eq_true, beq_iff_eq] at hr
  obtain ⟨hf, hr⟩ := hr
  have hf : 0 < fuel := by simpa using hf
  obtain ⟨f, rfl⟩ : ∃ f, fuel = f + 1 := ⟨fuel - 1, by omega⟩
  refine ⟨fun _ => hS, fun h0 => (by rw [hr] at h0; cases h0), fun j hj oj hoj => ?_⟩
  rw [hr] at hj
  obtain rfl : j = i := by simpa using hj
  obtain rfl : o = oj := by rw [ho] at hoj; exact Option.some.inj hoj
  rw [op1_ops] at h; exact h
theorem W.drawX {X : Ctx} {s : Sl} {ds : List Deferred} {w : World} {id : Nat} {ops : List Oper} [hm : Mixed P] (x : Nat) (S : World → Prop)
    (h : ∀ w1, Step w w1 → AnyX P ro n ops S (fun s' w' => X.nx s' ds w') x ops.length (Array.replicate ops.length false) s w1) : W P ro n (.region id ops.toArray true) X s ds w := by
  unfold W
  refine wpIn_region_any hm.h ?_
  have h1 := h { w with drawn := w.drawn + 1 } ⟨(Below.refl _ w).drew⟩
  have := AnyX.sound (ds := ds) (Q := X.post n) (fun s w hk => ⟨s, ds, rfl, hk⟩) _ _ _ _ h1
  simpa using this
end
attribute [irreducible] AnyX
end Go.Proofs.YtpijeomnplmakaaDoor

/- leaf: open, line, has, own, order. -/
namespace Go.Proofs.YtpijeomnplmakaaDoor
open Go.RowKit

section
variable (a : Option Addr) (c : Nat) (cs : List Ch) (w : World) [hrow : RowI w (.slice a cs.length c) true 2 (cs.map encCh)] [hT : TextI w cs]
end
end Go.Proofs.YtpijeomnplmakaaDoor

/- leaf: has; the kinds of readings. -/
namespace Go.Proofs.YtpijeomnplmakaaDoor
open Go.RowKit

section
variable (a : Option Addr) (c : Nat) (cs : List Ch) (w : World) [hrow : RowI w (.slice a cs.length c) true 2 (cs.map encCh)] [hT : TextI w cs]
end
end Go.Proofs.YtpijeomnplmakaaDoor

/- What readings of copies and slips say; what the table of kinds holds when the call begins; a number that the library keeps. -/
namespace Go.Proofs.YtpijeomnplmakaaDoor
open Go.ChangeShapes Go.WideShapes Go.ChangeAt Go.RowKit Go.WideElems

theorem list6 {α : Type} {l : List α} (h : l.length = 6) : ∃ a b c d e f, l = [a, b, c, d, e, f] := by
  match l, h with
  | [a, b, c, d, e, f], _ => exact ⟨a, b, c, d, e, f, rfl⟩
theorem read_pl3 {H : Type} {enc : TypeId × Value → H} {W : World} {n : Nat} {v0 v1 v2 : Value} {z : DataW H × List MemPlace} (h : DataW.trod enc Tryd.prog W 0 (fun _ => true) true n 37 [v0, v1, v2] = some z) :
    ∃ q : Pl, v0 = .int .i64 q.1 ∧ v1 = .int .i64 q.2.1 ∧ v2 = .int .i64 q.2.2 := by
  have kI : Tryd.prog.cellsOf 3 = 1 := by kernel_rfl
  obtain ⟨y0, y1, y2, n', _, _, h0, h1, h2⟩ := Deep.trod_struct3 Tryd.underlying37 h
  have h0' : DataW.trod enc Tryd.prog W 0 (fun _ => true) true n' 3 [v0] = some y0 := by simpa [kI] using h0
  have h1' : DataW.trod enc Tryd.prog W 0 (fun _ => true) true n' 3 [v1] = some y1 := by simpa [kI] using h1
  have h2' : DataW.trod enc Tryd.prog W 0 (fun _ => true) true n' 3 [v2] = some y2 := by simpa [kI] using h2
  obtain ⟨m0, e0, _, _⟩ := DataW.trod_int Tryd.underlying3 h0'
  obtain ⟨m1, e1, _, _⟩ := DataW.trod_int Tryd.underlying3 h1'
  obtain ⟨m2, e2, _, _⟩ := DataW.trod_int Tryd.underlying3 h2'
  cases e0; cases e1; cases e2
  exact ⟨(m0, m1, m2), rfl, rfl, rfl⟩
theorem okInt {P : Program} {w : World} {r : Reach} {base t : Nat} {v : Value} (hu : P.underlying t = some (.int .i64)) (h : Cell.ok P w r base t v) : ∃ m, v = .int .i64 m := by
  unfold Cell.ok at h
  rw [hu] at h
  cases v <;> first | (simp at h; done) | skip
  case int k m => exact ⟨m, by rw [h.1]⟩
set_option maxRecDepth 100000 in
theorem max_shaped {W : World} (h : W.ShapedOpen Tryd.prog) : MxI W := by
  have h0 : ((begin Tryd.prog (fun _ _ => 0) default).world.heap[1]?).bind Obj.row? = some (#[.int .i64 0], 3) := by kernel_rfl
  obtain ⟨cs, hh, hs, hr⟩ := h.1 1 _ _ (of_decide_eq_true (by kernel_rfl)) h0
  obtain ⟨ts, hts, _, hall⟩ := hr (by kernel_rfl)
  have hc : Tryd.prog.cellTypes Tryd.prog.depth 3 = some [ 3 ] := by kernel_rfl
  rw [hc] at hts
  cases hts
  have h1 : 0 < cs.size := by have : cs.size = 1 := hs; omega
  clear h0 h hr
  generalize hv0 : cs[0]'h1 = v0
  obtain ⟨u, hu', hok⟩ := hall 0 v0 (by rw [← hv0]; exact Array.getElem?_eq_getElem h1)
  have hu : u = 3 := (Option.some.inj hu').symm
  subst hu
  have hcell : W.cell? ⟨1, 0, none⟩ = some v0 := by
    unfold World.cell?
    rw [hh, ← hv0]
    exact Array.getElem?_eq_getElem h1
  have hm := okInt Tryd.underlying3 hok
  obtain ⟨m, hm⟩ := hm
  exact ⟨m, ⟨fun i v hv => by
    cases i with
    | zero =>
      have e : v = .int .i64 m := (Option.some.inj hv).symm
      rw [e, ← hm]; exact hcell
    | succ i => simp at hv⟩⟩
end Go.Proofs.YtpijeomnplmakaaDoor

/- What the reading of a list of slips says. -/
namespace Go.Proofs.YtpijeomnplmakaaDoor
open Go.ChangeShapes Go.WideShapes Go.ChangeAt Go.RowKit Go.WideElems

set_option maxRecDepth 100000 in
theorem read_sl {H : Type} {enc : TypeId × Value → H} {W : World} {n : Nat} {ys : Array Value} {z : DataW H × List MemPlace} (hsz : ys.size = 6) (h : DataW.trod enc Tryd.prog W 0 (fun _ => true) true n 39 ys.toList = some z) :
    ∃ x : Slp, Value.agg ys = encSl x := by
  have kP : Tryd.prog.cellsOf 37 = 3 := by kernel_rfl
  have kS : Tryd.prog.cellsOf 9 = 1 := by kernel_rfl
  obtain ⟨c0, c1, c2, c3, c4, c5, e⟩ := list6 (l := ys.toList) (by simpa using hsz)
  have ey : ys = #[c0, c1, c2, c3, c4, c5] := Array.ext' e
  subst ey
  obtain ⟨y0, y1, y2, y3, n', _, _, h0, h1, h2, h3⟩ := Joins.trod_struct4 Tryd.underlying39 h
  have h0' : DataW.trod enc Tryd.prog W 0 (fun _ => true) true n' 37 [c0, c1, c2] = some y0 := by simpa [kP] using h0
  have h1' : DataW.trod enc Tryd.prog W 0 (fun _ => true) true n' 9 [c3] = some y1 := by simpa [kP, kS] using h1
  have h2' : DataW.trod enc Tryd.prog W 0 (fun _ => true) true n' 9 [c4] = some y2 := by simpa [kP, kS] using h2
  have h3' : DataW.trod enc Tryd.prog W 0 (fun _ => true) true n' 9 [c5] = some y3 := by simpa [kP, kS] using h3
  obtain ⟨q, rfl, rfl, rfl⟩ := read_pl3 h0'
  obtain ⟨s1, e1, _, _⟩ := DataW.trod_string Tryd.underlying9 h1'
  obtain ⟨s2, e2, _, _⟩ := DataW.trod_string Tryd.underlying9 h2'
  obtain ⟨s3, e3, _, _⟩ := DataW.trod_string Tryd.underlying9 h3'
  cases e1; cases e2; cases e3
  exact ⟨(q, s1, s2, s3), rfl⟩
set_option maxRecDepth 100000 in
theorem read_slips {H : Type} {enc : TypeId × Value → H} {W : World} {base : Nat} {v : Value} {d : DataW H} {p : List MemPlace} (hv : Value.okWide Tryd.prog W .any base 22 v) (h : DataW.Trod enc Tryd.prog W 0 (fun _ => true) true 22 v d p)
    (hw : ∀ q ∈ d.weights Tryd.prog 22, q ≤ reachBytes) : ∃ (la : Option Addr) (lc : Nat) (ls : List Slp), v = .slice la ls.length lc ∧ RowV W true 6 (.slice la ls.length lc) (ls.map encSl) := by
  obtain ⟨a0, l0, c0, rfl⟩ := okWide_slice Tryd.underlying22 hv
  obtain ⟨fuel, hf⟩ := h
  have hf' : DataW.trod enc Tryd.prog W 0 (fun _ => true) true fuel 22 [.slice a0 l0 c0] = some (d, p) := hf
  obtain ⟨a, c, vs, e, hR, hE⟩ := rowV_of_trod (t := 22) (k := 6) (agg := true) (by kernel_rfl) (by omega) (fun e => by cases e) (fun _ _ _ e => by cases e) (of_decide_eq_true (by kernel_rfl)) hf' hw
  obtain ⟨ls, rfl, _⟩ := exists_map (enc := encSl) (Q := fun _ => True) (vs := vs) fun y hy => by
    obtain ⟨n', z, hz, _⟩ := hE y hy
    have hfit := hR.fit y hy
    cases y <;> simp [fitsV] at hfit
    case agg ys =>
      obtain ⟨r, e⟩ := read_sl hfit hz
      exact ⟨r, e, trivial⟩
  rw [e] at hR ⊢
  rw [List.length_map] at hR ⊢
  exact ⟨a, c, ls, rfl, hR⟩
end Go.Proofs.YtpijeomnplmakaaDoor

/- What the table of comparators holds when the call begins. -/
namespace Go.Proofs.YtpijeomnplmakaaDoor
open Go.ChangeShapes Go.WideShapes Go.ChangeAt Go.RowKit Go.WideElems

abbrev bysC' : List Value := [.nilFunc, .func (.func 113) #[] ([] : List Value).toArray, .func (.func 114) #[] ([] : List Value).toArray, .func (.func 116) #[] ([] : List Value).toArray, .func (.func 117) #[] ([] : List Value).toArray]
theorem g_bys : Tryd.prog.globalNamed "postil/rack.bys" = some 0 := by kernel_rfl
theorem t_bys : (Tryd.prog.globals[0]?).map (·.type) = some 47 := by kernel_rfl
theorem array5 {cs : Array Value} (h : cs.size = 5) : ∃ a b c d e, cs = #[a, b, c, d, e] := by
  obtain ⟨l⟩ := cs
  match l, h with
  | [a, b, c, d, e], _ => exact ⟨a, b, c, d, e, rfl⟩
theorem bys_laid {W : World} {laid : List (String × DataW Unit)} (h : laidMetH Tryd.prog laid W) (hx : ("postil/rack.bys", Rows.laid_postil_rack_bys) ∈ laid) : At W 0 0 bysC' := by
  obtain ⟨g, t, cs, fuel, p, hg, ht, hv, hd⟩ := laidMetH.funcs (d := .agg [.agg [.nil], .agg [.iface "func" (.lit (.string [112, 111, 115, 116, 105, 108, 47, 114, 97, 99, 107, 46, 98, 121, 115, 36, 49]))], .agg [.iface "func" (.lit (.string [112, 111, 115, 116, 105, 108, 47, 114, 97, 99, 107, 46, 98, 121, 115, 36, 50]))], .agg [.iface "func" (.lit (.string [112, 111, 115, 116, 105, 108, 47, 114, 97, 99, 107, 46, 98, 121, 115, 36, 51]))], .agg [.iface "func" (.lit (.string [112, 111, 115, 116, 105, 108, 47, 114, 97, 99, 107, 46, 98, 121, 115, 36, 52]))]]) h hx
  obtain rfl := Option.some.inj (g_bys.symm.trans hg)
  obtain rfl := Option.some.inj (t_bys.symm.trans ht)
  have hd' : DataW.trod (funcToken Tryd.prog) Tryd.prog W 0 (fun _ => true) true fuel 47 cs.toList = some (.agg [.agg [.nil], .agg [.held [112, 111, 115, 116, 105, 108, 47, 114, 97, 99, 107, 46, 98, 121, 115, 36, 49]], .agg [.held [112, 111, 115, 116, 105, 108, 47, 114, 97, 99, 107, 46, 98, 121, 115, 36, 50]], .agg [.held [112, 111, 115, 116, 105, 108, 47, 114, 97, 99, 107, 46, 98, 121, 115, 36, 51]], .agg [.held [112, 111, 115, 116, 105, 108, 47, 114, 97, 99, 107, 46, 98, 121, 115, 36, 52]]], p) := hd
  obtain ⟨xs, m, _, hxs, hl, hn, hel⟩ := DataW.trod_array Tryd.underlying47 hd'
  have kT : Tryd.prog.cellsOf 47 = 5 := by kernel_rfl
  have kE : Tryd.prog.cellsOf 46 = 1 := by kernel_rfl
  have kF : Tryd.prog.cellsOf 45 = 1 := by kernel_rfl
  obtain ⟨c0, c1, c2, c3, c4, rfl⟩ := array5 (cs := cs) (by simpa [kT] using hl)
  simp only [Prod.mk.injEq, DataW.agg.injEq] at hxs
  have key : ∀ (i : Nat) (c : Value) (b : DataW (List UInt8)), i < 5 → (([c0, c1, c2, c3, c4].drop (i * 1)).take 1) = [c] → (xs.map (·.1))[i]? = some (.agg [b]) → ∃ n q, DataW.trod (funcToken Tryd.prog) Tryd.prog W 0 (fun _ => true) true n 45 [c] = some (b, q) := fun i c b hi hc hb => by
    have h0 := hel i hi
    rw [kE, hc] at h0
    rw [List.getElem?_map] at hb
    obtain ⟨x, hx1, hx2⟩ := Option.map_eq_some_iff.1 hb
    rw [hx1] at h0
    obtain ⟨y0, n, e, _, h1⟩ := trod_struct1 Tryd.underlying46 h0
    rw [e] at hx2
    simp only [DataW.agg.injEq, List.cons.injEq, and_true] at hx2
    obtain ⟨y1, y2⟩ := y0
    simp only at hx2
    subst hx2
    exact ⟨n, y2, by simpa [kF] using h1⟩
  obtain ⟨n0, q0, k0⟩ := key 0 c0 .nil (by omega) rfl (by rw [← hxs.1]; rfl)
  obtain ⟨n1, q1, k1⟩ := key 1 c1 (.held [112, 111, 115, 116, 105, 108, 47, 114, 97, 99, 107, 46, 98, 121, 115, 36, 49]) (by omega) rfl (by rw [← hxs.1]; rfl)
  obtain ⟨n2, q2, k2⟩ := key 2 c2 (.held [112, 111, 115, 116, 105, 108, 47, 114, 97, 99, 107, 46, 98, 121, 115, 36, 50]) (by omega) rfl (by rw [← hxs.1]; rfl)
  obtain ⟨n3, q3, k3⟩ := key 3 c3 (.held [112, 111, 115, 116, 105, 108, 47, 114, 97, 99, 107, 46, 98, 121, 115, 36, 51]) (by omega) rfl (by rw [← hxs.1]; rfl)
  obtain ⟨n4, q4, k4⟩ := key 4 c4 (.held [112, 111, 115, 116, 105, 108, 47, 114, 97, 99, 107, 46, 98, 121, 115, 36, 52]) (by omega) rfl (by rw [← hxs.1]; rfl)
  obtain rfl := nilf_of_trod Tryd.underlying45 k0
  obtain rfl := func_of_trod (f0 := 113) Tryd.underlying45 (by kernel_rfl) k1
  obtain rfl := func_of_trod (f0 := 114) Tryd.underlying45 (by kernel_rfl) k2
  obtain rfl := func_of_trod (f0 := 116) Tryd.underlying45 (by kernel_rfl) k3
  obtain rfl := func_of_trod (f0 := 117) Tryd.underlying45 (by kernel_rfl) k4
  exact ⟨fun i v hv' => by have := World.var?_cell hg hv i; rw [Nat.zero_add, this]; simpa using hv'⟩
end Go.Proofs.YtpijeomnplmakaaDoor

/- Readings of numbers of 16 and of 8 bits. -/
namespace Go.Proofs.YtpijeomnplmakaaDoor
open Go.ChangeShapes Go.WideShapes Go.ChangeAt Go.RowKit
set_option maxRecDepth 100000 in
theorem read_u8 {H : Type} {enc : TypeId × Value → H} {W : World} {base : Nat} {v : Value} {d : DataW H} {p : List MemPlace} (hv : Value.okWide Tryd.prog W .any base 5 v) (h : DataW.Trod enc Tryd.prog W 0 (fun _ => true) true 5 v d p) :
    ∃ m : Nat, v = .int .u8 (m : Int) ∧ m ≤ 255 := by
  obtain ⟨x, rfl⟩ := okWide_int Tryd.underlying5 hv
  obtain ⟨n, hn⟩ := h
  obtain ⟨m, e, _, hr⟩ := DataW.trod_int Tryd.underlying5 hn
  cases e
  simp only [Lit.wf, Bool.and_eq_true, decide_eq_true_eq] at hr
  have m1 : IntKind.u8.min = 0 := by decide
  have m2 : IntKind.u8.max = 255 := by decide
  rw [m1, m2] at hr
  exact ⟨x.toNat, congrArg (Value.int .u8) (by omega), by omega⟩
end Go.Proofs.YtpijeomnplmakaaDoor

/- Numbers of 32 bits in rows. -/
namespace Go.Proofs.YtpijeomnplmakaaDoor
open Go.RowKit
end Go.Proofs.YtpijeomnplmakaaDoor

/- Readings of lists of numbers of 32 bits. -/
namespace Go.Proofs.YtpijeomnplmakaaDoor
open Go.ChangeShapes Go.WideShapes Go.ChangeAt Go.RowKit Go.WideElems

end Go.Proofs.YtpijeomnplmakaaDoor

/- The proof engine, part 24: parts of strings; the first elements of a slice of the call's own; structs as keys of maps. -/
namespace Go.Proofs.YtpijeomnplmakaaDoor
open Go.RowKit

section rules
variable {P : Program} {ro : Option Nat} {n : Nat} {all rest : List Oper} {K : Sl → World → Prop} {s : Sl} {w : World} {d : Nat} {ty : Nat} {pos : String} {af : Array Edge}
variable {x y : Operand} {t t' e : Nat}
theorem Ops.sliceStr {lo hi : Nat} {b : ByteArray} {i j : Int} {k1 k2 : IntKind} {xl xh : Operand} (hx : ev n s x = .string b) (hl : ev n s xl = .int k1 i) (hh : ev n s xh = .int k2 j) (hi' : i = (lo : Int)) (hj' : j = (hi : Int)) (h1 : lo ≤ hi) (h2 : hi ≤ b.size) [ht : TU P t .string]
    (h : Ops P ro n all rest K (upd s d (.string (b.extract lo hi))) w) : Ops P ro n all (⟨some d, .slice t x (some xl) (some xh) none, ty, pos, af, none⟩ :: rest) K s w := by
  subst hi' hj'
  refine Ops.ofRun (v := .string (b.extract lo hi)) (w' := w) rfl ?_ h
  simp [execOp, Instr.sliceAt, Instr.slice, Instr.sliceBounds, Instr.sliceBound, hx, hl, hh, run_underlying ht.h, asIntOf, h1, h2]
theorem flatMap_take {k : Nat} : ∀ {xs : List Value} (m : Nat), (∀ x ∈ xs, x.cells.toList.length = k) → (xs.take m).flatMap (·.cells.toList) = (xs.flatMap (·.cells.toList)).take (m * k)
  | [], m, _ => by simp
  | y :: xs, 0, _ => by simp
  | y :: xs, m + 1, h => by
    have hy := h y List.mem_cons_self
    rw [List.take_succ_cons, List.flatMap_cons, List.flatMap_cons, flatMap_take m fun x hx => h x (List.mem_cons_of_mem _ hx), List.take_append, hy, Nat.add_mul, Nat.one_mul, Nat.add_sub_cancel]
    rw [List.take_of_length_le (l := y.cells.toList) (by omega)]
/-- The first m elements of a slice of the call's own. -/
theorem OwnL.cut {w : World} {B e k l c : Nat} {agg : Bool} {a : Option Addr} {xs : List Value} (h : OwnL w B e agg k (.slice a l c) xs) {m : Nat} (hm : m ≤ xs.length) (h0 : 0 < c) : OwnL w B e agg k (.slice a m c) (xs.take m) := by
  have hl : (xs.take m).length = m := by rw [List.length_take]; omega
  have hf : ∀ x ∈ xs.take m, fitsV agg k x = true := fun x hx => h.fit x (List.mem_of_mem_take hx)
  have hlen := h.len
  refine ⟨⟨?_, ?_⟩, hf, by omega⟩
  · rw [flatMap_take (k := k) m fun x hx => by rw [Array.length_toList]; exact fitsV_cells (h.fit x hx)]
    rw [List.length_take, hl, flat_len (k := k) (xs := xs) fun y hy => fitsV_cells (h.fit y hy)]
    exact Nat.min_eq_left (Nat.mul_le_mul_right _ hm)
  · rcases h.own.2 with ⟨e0, _⟩ | ⟨g, cap, cur, e0, hB, hh, hn, hm', hs, ht⟩
    · simp only [Value.slice.injEq] at e0; omega
    · simp only [Value.slice.injEq] at e0
      obtain ⟨rfl, _, rfl⟩ := e0
      refine .inr ⟨g, c, cur, by rw [hl], hB, hh, by omega, hm', hs, ?_⟩
      rw [hl, flatMap_take (k := k) m fun x hx => by rw [Array.length_toList]; exact fitsV_cells (h.fit x hx), ← ht, List.take_take, Nat.min_eq_left (Nat.mul_le_mul_right _ hm)]
theorem Ops.sliceXHv {l c hi k bytes : Nat} {j : Int} {k2 : IntKind} {xh : Operand} {a : Option Addr} {z : Value} (hx : ev n s x = .slice a l c) (hh : ev n s xh = .int k2 j) (hj : j = (hi : Int)) (h2 : hi ≤ c) (h0 : 0 < c) [ht : TSl P t e] [hz : TS P e z k bytes]
    (h : Ops P ro n all rest K (upd s d (.slice a hi c)) w) : Ops P ro n all (⟨some d, .slice t x none (some xh) none, ty, pos, af, none⟩ :: rest) K s w := by
  subst hj
  refine Ops.ofRun rfl ?_ h
  have hc : ¬ c = 0 := by omega
  cases a <;> simp [execOp, Instr.sliceAt, Instr.slice, Instr.sliceBounds, Instr.sliceBound, hx, hh, run_underlying ht.h, asIntOf, h2, run_sizeOf' w hz, hc, Addr.add]
end rules
end Go.Proofs.YtpijeomnplmakaaDoor

/- The reference: parts of a text, slips that are valid. -/
namespace Go.Proofs.YtpijeomnplmakaaDoor
open Go.RowKit

/-- The words of the first letters of a text. -/
def splT (s : ByteArray) (i : Nat) : List ByteArray := (spl (s.data.toList.take i)).map bytesL
theorem splT_all (s : ByteArray) : splT s s.size = splB s := by
  rw [splT, List.take_of_length_le (by rw [Array.length_toList]; exact Nat.le_refl _)]; rfl
theorem splT_len (s : ByteArray) (i : Nat) : 0 < (splT s i).length ∧ (splT s i).length ≤ i + 1 := by
  rw [splT, List.length_map]
  refine ⟨spl_len _, Nat.le_trans (spl_bound _).1 ?_⟩
  have := List.length_take_le i s.data.toList
  omega
theorem splT_size (s : ByteArray) (i : Nat) : ∀ x ∈ splT s i, x.size ≤ i := fun x hx => by
  obtain ⟨y, hy, rfl⟩ := List.mem_map.1 hx
  have h := (spl_bound _).2 y hy
  have h2 := List.length_take_le i s.data.toList
  have e2 : (bytesL y).size = y.length := List.size_toArray
  omega
theorem take_byte {s : ByteArray} {i : Nat} (hi : i < s.size) : s.data.toList.take (i + 1) = s.data.toList.take i ++ [s[i]] := by
  have h : s.data.toList[i]? = some s[i] := by
    have hi' : i < s.data.size := hi
    rw [Array.getElem?_toList, Array.getElem?_eq_getElem hi']; rfl
  exact take_snoc_get h
theorem splT_sp {s : ByteArray} {i : Nat} (hi : i < s.size) (h : s[i] = 32) : splT s (i + 1) = splT s i ++ [⟨#[]⟩] := by
  rw [splT, take_byte hi, spl_snoc, if_pos h, List.map_append]; rfl
theorem last_set {α : Type} {l : List α} {x y : α} (h : l[l.length - 1]? = some x) : l.dropLast ++ [y] = l.set (l.length - 1) y ∧ l.getLastD y = x := by
  rcases List.eq_nil_or_concat l with rfl | ⟨i, z, rfl⟩
  · simp at h
  · rw [List.concat_eq_append] at *
    have e : (i ++ [z]).length - 1 = i.length := by simp
    rw [e] at h ⊢
    constructor
    · simp
    · simpa using h
theorem splT_ch {s : ByteArray} {i : Nat} (hi : i < s.size) (h : s[i] ≠ 32) {x : ByteArray} (hx : (splT s i)[(splT s i).length - 1]? = some x) : splT s (i + 1) = (splT s i).set ((splT s i).length - 1) (x ++ s.extract i (i + 1)) := by
  have hl : (splT s i).length = (spl (s.data.toList.take i)).length := by rw [splT, List.length_map]
  rw [hl] at hx ⊢
  rw [splT, take_byte hi, spl_snoc, if_neg h]
  rw [splT, List.getElem?_map] at hx
  obtain ⟨y, hy, rfl⟩ := Option.map_eq_some_iff.1 hx
  obtain ⟨h1, h2⟩ := last_set (y := []) hy
  rw [h2]
  obtain ⟨h3, _⟩ := last_set (y := y ++ [s[i]]) hy
  rw [h3, List.map_set, splT]
  congr 1
  apply ByteArray.ext
  have hi' : i < s.data.size := hi
  rw [ByteArray.data_append, ByteArray.data_extract]
  apply Array.ext'
  simp only [Array.toList_append, Array.toList_extract, List.extract_eq_take_drop, List.append_cancel_left_eq]
  rw [show i + 1 - i = 1 by omega, List.take_one, List.head?_drop, Array.getElem?_toList, Array.getElem?_eq_getElem hi']; rfl
theorem splT_last (s : ByteArray) (i : Nat) : ∃ x, (splT s i)[(splT s i).length - 1]? = some x := ⟨_, List.getElem?_eq_getElem (by have := (splT_len s i).1; omega)⟩
theorem wordsB_yes {s : ByteArray} (h0 : s.size ≠ 0) (h80 : s.size ≤ 80) (h : ∀ (j : Nat) (hj : j < (splB s).length), wordB (splB s)[j] = true) : wordsB s = true := by
  have : (splB s).all wordB = true := all_yes h
  simp [wordsB, h0, h80, this]
theorem wordsB_no {s : ByteArray} (h0 : s.size ≠ 0) {j : Nat} (hj : j < (splB s).length) (h : wordB (splB s)[j] = false) : wordsB s = false := by
  have : (splB s).all wordB = false := all_no hj h
  simp [wordsB, h0, this]

set_option maxHeartbeats 2000000 in
theorem parts_ref3 (s : ByteArray) (w : World) (hs : s.size ≤ 1000) : Ct Tryd.prog 35 [.string s] w fun v w' => ∃ sv, v = .tuple #[sv, .bool (wordsB s)] ∧ (wordsB s = true → OwnL w' w.heap.size 9 false 1 sv ((wordsL s).map strV)) := by
  refine Ct.ofW (by simp) ?_
  (refine jjB ?_; refine jjC ?_; apply jJ; exact eS rfl; apply jJ; exact eB rfl; refine jz ?_; refine jjB ?_; refine jjB ?_; refine jjC ?_; apply jI; exact eT rfl)
  refine Ops.eqlS rfl rfl ?_
  by_cases h0 : s.size = 0
  · have e0 := str_nil.2 h0
    subst e0
    rw [decide_eq_true rfl]
    (refine jz ?_; refine jjJ rfl ?_; refine jjB ?_; refine jjC ?_; apply jJ; exact eS rfl; apply jJ; exact eB rfl; refine jz ?_; refine jjF ?_; refine jC rfl rfl rfl ⟨inferInstance, ?_⟩)
    exact ⟨_, rfl, fun _ => OwnL.nil _ _ _ _ _⟩
  have hne : ¬ s = ⟨#[]⟩ := fun e => h0 (str_nil.1 e)
  rw [decide_eq_false hne]
  have hL : wordsL s = splB s := by rw [wordsL, if_neg h0]
  by_cases h80 : s.size ≤ 80
  rotate_left
  · have hwb : wordsB s = false := by simp [wordsB, h0, h80]
    (refine jz ?_; refine jjK rfl ?_; refine jjG ?_; refine jjB ?_; refine jjB ?_; refine jjC ?_; apply jI; exact eT rfl; refine ji rfl ?_; refine jjd rfl rfl (by omega) ?_; refine jz ?_; refine jjJ rfl ?_; refine jjB ?_; refine jjC ?_; apply jJ; exact eS rfl; apply jJ; exact eB rfl; refine jz ?_; refine jjF ?_; refine jC rfl rfl rfl ⟨inferInstance, ?_⟩)
    exact ⟨_, congrArg (fun b => Value.tuple #[.slice none 0 0, .bool b]) hwb.symm, fun e => by rw [hwb] at e; cases e⟩
  (refine jz ?_; refine jjK rfl ?_; refine jjG ?_; refine jjB ?_; refine jjB ?_; refine jjC ?_; apply jI; exact eT rfl; refine ji rfl ?_; refine jje rfl rfl (by omega) ?_; refine jz ?_; refine jjK rfl ?_; refine jjG ?_; refine jjB ?_; refine jjC ?_)
  (refine jjP (v := .string _) rfl (by exact rfl) (by exact rfl) (by exact rfl) (by exact rfl) ?_; intro b4 w_b4 hb_b4 hs_b4 hS_b4 hk_b4; have hR_b4 := RowV.one (agg := false) (k := 1) rfl hk_b4)
  have hE4 : Ext w w_b4 := inferInstance
  have hO4 : OwnL w_b4 w.heap.size 9 false 1 (.slice (some ⟨b4, 0, none⟩) 1 1) ((splT s 0).map strV) := OwnL.one rfl (by have := hE4.size; omega) hk_b4
  (apply jJ; exact eS rfl; refine jz ?_; refine jjB ?_; refine jjB ?_; refine jjC ?_; apply jJ; exact eI rfl; refine jz ?_; refine jjD ?_)
  refine W.keep0 [(0, .string s), (5, .int .i64 ((0 : Nat) : Int)), (4, .slice (some ⟨b4, 0, none⟩) 1 1)] ⟨eT rfl, eI rfl, eS rfl, trivial⟩ fun s0 => ?_
  refine W.loopG (13 :: 14 :: 15 :: 16 :: 19 :: 20 :: 21 :: 22 :: 23 :: 24 :: 25 :: 4 :: 26 :: 27 :: 28 :: 29 :: 30 :: 31 :: 32 :: 33 :: 34 :: 35 :: 36 :: 37 :: 38 :: 17 :: 18 :: 5 :: []) (fun g s' V => ∃ (k n c b : Nat), s' 5 = .int .i64 ((k : Nat) : Int) ∧ s' 4 = .slice (some ⟨b, 0, none⟩) n c ∧ g = s.size - k ∧ k ≤ s.size ∧ n = (splT s k).length ∧ Ext w V ∧ OwnL V w.heap.size 9 false 1 (.slice (some ⟨b, 0, none⟩) n c) ((splT s k).map strV)) s.size ⟨0, 1, 1, b4, rfl, rfl, rfl, Nat.zero_le _, rfl, hE4, hO4⟩ ?_
  rintro _ sd V ⟨k, n, c, b, h5, h4, rfl, hk, hn, hE, hO⟩
  refine W.fix h5 (W.fix (d := 4) h4 ?_)
  clear h5 h4
  have hlen := splT_len s k
  by_cases hkc : k < s.size
  rotate_left
  · obtain rfl : k = s.size := by omega
    rw [splT_all] at hO hn
    subst hn
    have i1 : RowI V (.slice (some ⟨b, 0, none⟩) (splB s).length c) false 1 ((splB s).map strV) := ⟨hO.row⟩
    have hbd := splB_bound s
    (refine jjB ?_; refine jjB ?_; refine jjC ?_; apply jI; exact eI rfl; apply jI; exact eT rfl; refine ji rfl ?_; refine jja rfl rfl (by omega) ?_; refine jz ?_; refine jjK rfl ?_; refine jjE ?_; refine jjB ?_; refine jjB ?_; refine jjC ?_; apply jJ; exact eI rfl; refine jz ?_; refine jjD ?_)
    refine W.keep0 [(0, .string s), (6, .int .i64 ((0 : Nat) : Int)), (4, .slice (some ⟨b, 0, none⟩) (splB s).length c)] ⟨eT rfl, eI rfl, eS rfl, trivial⟩ fun s1 => ?_
    refine W.loop (39 :: 40 :: 41 :: 42 :: 45 :: 46 :: 47 :: 48 :: 49 :: 50 :: 2 :: 3 :: 43 :: 44 :: 6 :: []) (fun g s' V2 => ∃ k : Nat, s' 6 = .int .i64 ((k : Nat) : Int) ∧ g = (splB s).length - k ∧ k ≤ (splB s).length ∧ ∀ (j : Nat) (hj : j < (splB s).length), j < k → wordB (splB s)[j] = true) (splB s).length ⟨0, rfl, rfl, Nat.zero_le _, by intros; omega⟩ ?_
    rintro _ sd2 V2 hS2 ⟨q, h6, rfl, hq, hpre⟩
    refine W.fix h6 ?_
    clear h6
    by_cases hql : q < (splB s).length
    rotate_left
    · have hwb := wordsB_yes h0 h80 fun j hj => hpre j hj (by omega)
      (refine jjB ?_; refine jjB ?_; refine jjC ?_; apply jI; exact eI rfl; apply jI; exact eS rfl; refine jh rfl ?_; refine jja rfl rfl (by omega) ?_; refine jz ?_; refine jjK rfl ?_; refine jjE ?_; refine jjB ?_; refine jjC ?_; apply jI; exact eS rfl; apply jJ; exact eS rfl; apply jJ; exact eB rfl; refine jz ?_; refine jjF ?_; refine jC rfl rfl rfl ⟨inferInstance, ?_⟩)
      have := hE.toStep
      skip
      rw [hwb, hL]
      exact ⟨_, rfl, fun _ => hO.ext hS2.ext⟩
    have hsz := hbd.2 _ (List.getElem_mem hql)
    have := hE.toStep
    obtain ⟨B, hB⟩ : ∃ B, wordB (splB s)[q] = B := ⟨_, rfl⟩
    (refine jjB ?_; refine jjB ?_; refine jjC ?_; apply jI; exact eI rfl; apply jI; exact eS rfl; refine jh rfl ?_; refine jjZ rfl rfl (by omega) ?_; refine jz ?_; refine jjJ rfl ?_; refine jjG ?_; refine jjB ?_; refine jjD ?_; refine jjB ?_; refine jjC ?_; apply jI; exact eS rfl; apply jI; exact eI rfl; refine jF rfl rfl rfl (map_get (by omega)) ?_; intro _ _ _; refine jQ rfl rfl ?_)
    refine jjQ ((Word_ref (splB s)[q] _ (by omega)).mono fun v _ _ e => e.trans (by rw [hB])) rfl rfl ?_
    rintro _ w4 hS4 rfl
    cases B
    · have hwb := wordsB_no h0 hql hB
      (refine jq rfl ?_; refine jz ?_; refine jjJ rfl ?_; refine jjB ?_; refine jjC ?_; apply jJ; exact eS rfl; apply jJ; exact eB rfl; refine jz ?_; refine jjF ?_; refine jC rfl rfl rfl ⟨inferInstance, ?_⟩)
      exact ⟨_, congrArg (fun b => Value.tuple #[.slice none 0 0, .bool b]) hwb.symm, fun e => by rw [hwb] at e; cases e⟩
    · (refine jp rfl ?_; refine jz ?_; refine jjK rfl ?_; refine jjG ?_; refine jjC ?_; apply jI; exact eI rfl; refine jY rfl rfl (by omega) ?_; apply jJ; exact eI rfl; refine jz ?_)
      refine ⟨rfl, by ((refine Same.upd rfl ?_; refine Same.upd rfl ?_; refine Same.upd rfl ?_; refine Same.upd rfl ?_; refine Same.upd rfl ?_; refine Same.upd rfl ?_; refine Same.upd rfl ?_; refine Same.upd rfl ?_; refine Same.upd rfl ?_; refine Same.upd rfl ?_; refine Same.upd rfl ?_; refine Same.upd rfl ?_; refine Same.upd rfl ?_; refine Same.upd rfl ?_; exact Same.ovN)), (splB s).length - (q + 1), by omega, inferInstance, q + 1, congrArg (Value.int .i64) (by omega), rfl, by omega, fun j hj hjk => ?_⟩
      by_cases e : j = q
      · subst e; exact hB
      · exact hpre j hj (by omega)
  subst hn
  by_cases hsp : s[k] = 32
  · have hi : ((s[k].toNat : Nat) : Int) = 32 := by rw [hsp]; rfl
    (refine jjB ?_; refine jjB ?_; refine jjC ?_; apply jI; exact eI rfl; apply jI; exact eT rfl; refine ji rfl ?_; refine jjZ rfl rfl (by omega) ?_; refine jz ?_; refine jjJ rfl ?_; refine jjG ?_; refine jjB ?_; refine jjD ?_; refine jjB ?_; refine jjC ?_; apply jI; exact eT rfl; apply jI; exact eI rfl; refine jt rfl rfl rfl (by omega) ?_; refine jjh rfl rfl (by omega) ?_; refine jz ?_; refine jjJ rfl ?_; refine jjC ?_; apply jI; exact eS rfl)
    (refine jjP (v := .string _) rfl (by exact rfl) (by exact rfl) (by exact rfl) (by exact rfl) ?_; intro b5 w_b5 hb_b5 hs_b5 hS_b5 hk_b5; have hR_b5 := RowV.one (agg := false) (k := 1) rfl hk_b5)
    have hz := hE.size
    refine Ops.appendL (hO.ext hS_b5.ext) (by have := hS_b5.size; omega) hR_b5 rfl rfl rfl rfl rfl ?_ ?_ ?_
    · rw [List.length_map]; simp only [List.length_cons, List.length_nil]; omega
    · rw [List.length_map]; simp only [List.length_cons, List.length_nil]; omega
    intro v2 V4 hA hO4 _ _
    have e1 : (splT s k).map strV ++ [.string ⟨#[]⟩] = (splT s (k + 1)).map strV := by rw [splT_sp hkc hsp, List.map_append]; rfl
    rw [e1] at hO4
    obtain ⟨a4, c4, rfl⟩ := hO4.slice
    obtain ⟨g4, rfl, hg4, _⟩ := hO4.self (by rw [List.length_map]; exact (splT_len s (k + 1)).1)
    rw [List.length_map] at hO4 ⊢
    (apply jJ; exact eS rfl; refine jz ?_; refine jjC ?_; apply jI; exact eI rfl; refine jY rfl rfl (by omega) ?_; apply jJ; exact eI rfl; refine jz ?_)
    exact ⟨rfl, by ((refine Same.upd rfl ?_; refine Same.upd rfl ?_; refine Same.upd rfl ?_; refine Same.upd rfl ?_; refine Same.upd rfl ?_; refine Same.upd rfl ?_; refine Same.upd rfl ?_; refine Same.upd rfl ?_; refine Same.upd rfl ?_; refine Same.upd rfl ?_; refine Same.upd rfl ?_; refine Same.upd rfl ?_; refine Same.upd rfl ?_; refine Same.upd rfl ?_; refine Same.upd rfl ?_; refine Same.upd rfl ?_; refine Same.upd rfl ?_; exact Same.ovN)), s.size - (k + 1), by omega, k + 1, _, c4, g4, congrArg (Value.int .i64) (by omega), rfl, rfl, by omega, rfl, hA.ext (hE.trans hS_b5.ext) (Nat.le_refl _), hO4⟩
  · have hi : ¬ ((s[k].toNat : Nat) : Int) = 32 := fun e => hsp (by
      have : s[k].toNat = 32 := by omega
      exact UInt8.toNat_inj.1 this)
    obtain ⟨x, hx⟩ := splT_last s k
    have hxs : x.size ≤ k := splT_size s k x (List.mem_of_getElem? hx)
    have hj : ((((splT s k).length : Nat) : Int) - 1) = (((splT s k).length - 1 : Nat) : Int) := by omega
    obtain ⟨cs, hB, hcl, hnc, hcm, hll, htk, hBg⟩ := hO.cells
    have hcell : ∀ w', Ext V w' → w'.cell? ⟨b, 0 + ((splT s k).length - 1), none⟩ = some (.string x) := fun w' e => by
      have h1 : cs[(splT s k).length - 1]? = some (.string x) := by
        have h2 : (cs.take (splT s k).length)[(splT s k).length - 1]? = some (.string x) := by rw [htk, List.getElem?_map, hx]; rfl
        rwa [List.getElem?_take, if_pos (by omega)] at h2
      have h3 := (hB.ext e).cellO h1
      rwa [Nat.zero_add]
    (refine jjB ?_; refine jjB ?_; refine jjC ?_; apply jI; exact eI rfl; apply jI; exact eT rfl; refine ji rfl ?_; refine jjZ rfl rfl (by omega) ?_; refine jz ?_; refine jjJ rfl ?_; refine jjG ?_; refine jjB ?_; refine jjD ?_; refine jjB ?_; refine jjC ?_; apply jI; exact eT rfl; apply jI; exact eI rfl; refine jt rfl rfl rfl (by omega) ?_; refine jji rfl rfl (by omega) ?_; refine jz ?_; refine jjK rfl ?_)
    refine W.drawX 13 (fun w' => Ext V w') ?_
    intro w1 hS1
    (refine AnyX.take [0, 1, 2, 3, 4] ?_ ?_ ?_; (decide +kernel); (exact hS1.ext); (((apply jjT; exact rfl; rintro w' hq; apply jI; exact eS rfl; refine jz ?_; exact ⟨rfl, rfl⟩; apply jjT; exact rfl; rintro w' hq; apply jI; exact eS rfl; refine jz ?_; exact ⟨rfl, rfl⟩; apply jjT; exact rfl; rintro w' hq; refine jh rfl ?_; refine jz ?_; exact ⟨rfl, rfl⟩; apply jjT; exact rfl; rintro w' hq; refine jZ rfl rfl (by omega) ?_; refine jz ?_; exact ⟨rfl, rfl⟩; apply jjT; exact rfl; rintro w' hq; refine jG rfl rfl (by assumption) (by omega) ?_; refine jz ?_; exact ⟨rfl, rfl⟩; refine jjU ?_))))
    refine AnyX.take [5] (by decide +kernel) hS1.ext (jjT (v := .string x) rfl (fun w' q1 => ?_) (jjU ?_)); (refine jR (hcell _ q1) rfl rfl ?_; refine jz ?_; exact ⟨rfl, rfl⟩)
    (refine AnyX.take [6, 7, 8, 9] ?_ ?_ ?_; (decide +kernel); (exact hS1.ext); (((apply jjT; exact rfl; rintro w' hq; apply jI; exact eT rfl; refine jz ?_; exact ⟨rfl, rfl⟩; apply jjT; exact rfl; rintro w' hq; apply jI; exact eI rfl; refine jz ?_; exact ⟨rfl, rfl⟩; apply jjT; exact rfl; rintro w' hq; apply jI; exact eI rfl; refine jz ?_; exact ⟨rfl, rfl⟩; apply jjT; exact rfl; rintro w' hq; refine jY rfl rfl (by omega) ?_; refine jz ?_; exact ⟨rfl, rfl⟩; refine jjU ?_))))
    refine AnyX.take [10] (by decide +kernel) hS1.ext (jjT (v := .string (s.extract k (k + 1))) rfl (fun w' q1 => ?_) (jjU ?_)); (refine Ops.sliceStr (lo := k) (hi := k + 1) rfl rfl rfl rfl rfl (by omega) (by omega) ?_; refine jz ?_; exact ⟨rfl, rfl⟩)
    refine AnyX.take [11] (by decide +kernel) hS1.ext (jjT (v := .string (x ++ s.extract k (k + 1))) rfl (fun w' q1 => ?_) (jjU ?_)); (refine Ops.cat rfl rfl (by rw [ByteArray.size_extract]; omega) ?_; refine jz ?_; exact ⟨rfl, rfl⟩)
    (refine AnyX.take [12] ?_ ?_ ?_; (decide +kernel); (exact hS1.ext); (((apply jjT; exact rfl; rintro w' hq; refine jG rfl rfl (by assumption) (by omega) ?_; refine jz ?_; exact ⟨rfl, rfl⟩; refine jjU ?_))))
    (apply AnyX.one 13; (decide +kernel); exact rfl; (exact hS1.ext))
    refine Ops.storeL (j := (splT s k).length - 1) (i := 0) (X := .string x) (X' := .string (x ++ s.extract k (k + 1))) (u := .string (x ++ s.extract k (k + 1))) (hO.ext hS1.ext) rfl (by rw [List.getElem?_map, hx]; rfl) rfl rfl rfl (by exact congrArg (fun o => Value.pointer (some ⟨b, o, none⟩)) (by omega)) rfl rfl rfl ?_
    intro w2 o2 hp2 hO2
    refine jz ?_
    refine AnyX.done (by decide +kernel) ?_
    have e1 : ((splT s k).map strV).set ((splT s k).length - 1) (.string (x ++ s.extract k (k + 1))) = (splT s (k + 1)).map strV := by rw [splT_ch hkc hsp hx, List.map_set]
    rw [e1] at hO2
    have e2 : (splT s (k + 1)).length = (splT s k).length := by rw [splT_ch hkc hsp hx, List.length_set]
    (refine jjC ?_; apply jI; exact eI rfl; refine jY rfl rfl (by omega) ?_; apply jJ; exact eI rfl; refine jz ?_)
    exact ⟨rfl, by ((refine Same.upd rfl ?_; refine Same.upd rfl ?_; refine Same.upd rfl ?_; refine Same.upd rfl ?_; refine Same.upd rfl ?_; refine Same.upd rfl ?_; refine Same.upd rfl ?_; refine Same.upd rfl ?_; refine Same.upd rfl ?_; refine Same.upd rfl ?_; refine Same.upd rfl ?_; refine Same.upd rfl ?_; refine Same.upd rfl ?_; refine Same.upd rfl ?_; refine Same.upd rfl ?_; refine Same.upd rfl ?_; refine Same.upd rfl ?_; refine Same.upd rfl ?_; refine Same.upd rfl ?_; refine Same.upd rfl ?_; refine Same.upd rfl ?_; refine Same.upd rfl ?_; refine Same.upd rfl ?_; refine Same.upd rfl ?_; refine Same.upd rfl ?_; refine Same.upd rfl ?_; exact Same.ovN)), s.size - (k + 1), by omega, k + 1, _, c, b, congrArg (Value.int .i64) (by omega), rfl, rfl, by omega, e2.symm, hp2.ext (hE.trans hS1.ext) (by omega), hO2⟩
end Go.Proofs.YtpijeomnplmakaaDoor

/- Plain law: runs of words, contexts, the longest context. -/
namespace Go.Proofs.YtpijeomnplmakaaDoor
open Go.RowKit

/-! ### Words and places of a chapter -/
/-! ### Lengths -/
/-! ### The order of contexts -/
/-! ### The first of a list -/
/-! ### Contexts -/
end Go.Proofs.YtpijeomnplmakaaDoor

/- Plain law: places of a chapter, lengths of parts of it, its slips. -/
namespace Go.Proofs.YtpijeomnplmakaaDoor
open Go.RowKit

end Go.Proofs.YtpijeomnplmakaaDoor

/- slip: the run of a chapter. -/
namespace Go.Proofs.YtpijeomnplmakaaDoor
open Go.RowKit

section
variable (a : Option Addr) (c : Nat) (cs : List Ch) (w : World) [hrow : RowI w (.slice a cs.length c) true 2 (cs.map encCh)] [hT : TextI w cs]
end
end Go.Proofs.YtpijeomnplmakaaDoor

/- Plain law: the slips of a text. -/
namespace Go.Proofs.YtpijeomnplmakaaDoor
open Go.RowKit

/-! Words of a valid text are short. -/
end Go.Proofs.YtpijeomnplmakaaDoor

/- slip: words of a text, slips that are right. -/
namespace Go.Proofs.YtpijeomnplmakaaDoor
open Go.RowKit

theorem wordsB_len {s : ByteArray} (h0 : s.size ≠ 0) (h : ¬ s.size ≤ 80) : wordsB s = false := by simp [wordsB, h0, h]
theorem wordsB_all {s : ByteArray} (h0 : s.size ≠ 0) (h : s.size ≤ 80) : wordsB s = (splB s).all wordB := by simp [wordsB, h0, h]
section
variable (w : World) [hm : MxI w]
set_option maxHeartbeats 1000000 in
theorem words_slip (s : ByteArray) (hs : s.size ≤ 1000) : Ct Tryd.prog 46 [.string s] w fun v w' => ∃ sv, v = .tuple #[sv, .bool (wordsB s)] ∧ OwnL w' w.heap.size 9 false 1 sv ((wordsL s).map strV) := by
  refine Ct.ofW (by simp) ?_
  (refine jjB ?_; refine jjC ?_; apply jJ; exact eS rfl; apply jJ; exact eB rfl; refine jz ?_; refine jjH ?_; refine jjB ?_; refine jjB ?_; refine jjC ?_; apply jI; exact eT rfl)
  refine Ops.eqlS rfl rfl ?_
  by_cases h0 : s.size = 0
  · have e0 := str_nil.2 h0
    subst e0
    rw [decide_eq_true rfl]
    (refine jz ?_; refine jjJ rfl ?_; refine jjB ?_; refine jjC ?_; apply jJ; exact eS rfl; apply jJ; exact eB rfl; refine jz ?_; refine jjF ?_; refine jC rfl rfl rfl ⟨inferInstance, ?_⟩)
    exact ⟨_, rfl, OwnL.nil _ _ _ _ _⟩
  have hne : ¬ s = ⟨#[]⟩ := fun e => h0 (str_nil.1 e)
  rw [decide_eq_false hne]
  have hb := splB_bound s
  (refine jz ?_; refine jjK rfl ?_; refine jjG ?_; refine jjB ?_; refine jjC ?_; apply jI; exact eT rfl)
  refine jjQ (Split_str s _ (by omega)) rfl rfl ?_
  rintro _ w2 hS2 ⟨sv, rfl, hO⟩
  obtain ⟨a, c, rfl⟩ := hO.slice
  rw [List.length_map] at hO ⊢
  have hE2 : Ext w w2 := inferInstance
  have hL : wordsL s = splB s := by rw [wordsL, if_neg h0]
  rw [hL]
  by_cases h80 : s.size ≤ 80
  · have hwb := wordsB_all h0 h80
    (apply jJ; exact eS rfl; refine jz ?_; refine jjB ?_; refine jjC ?_; apply jI; exact eT rfl; refine ji rfl ?_; refine jjb rfl rfl (by omega) ?_; apply jJ; exact eB rfl; refine jz ?_; refine jjB ?_; refine jjI ?_; refine jjB ?_; refine jjB ?_; refine jjC ?_; apply jI; exact eS rfl; refine jh rfl ?_; apply jI; exact eI rfl; refine jz ?_; refine jjD ?_)
    refine W.keep0 [(4, .slice a (splB s).length c), (5, .bool true), (15, .slice a (splB s).length c), (16, .int .i64 (((splB s).length : Nat) : Int)), (17, .int .i64 ((0 : Nat) : Int))] ⟨eS rfl, eB rfl, eS rfl, eI rfl, eI rfl, trivial⟩ fun s0 => ?_
    refine W.loop (18 :: 19 :: 20 :: 7 :: 21 :: 22 :: 23 :: 5 :: 24 :: 17 :: []) (fun g s' V => ∃ k : Nat, s' 17 = .int .i64 ((k : Nat) : Int) ∧ s' 5 = .bool true ∧ g = (splB s).length - k ∧ k ≤ (splB s).length ∧ ∀ (j : Nat) (hj : j < (splB s).length), j < k → wordB (splB s)[j] = true) (splB s).length ⟨0, rfl, rfl, rfl, Nat.zero_le _, by intros; omega⟩ ?_
    rintro _ sd w3 hS3 ⟨k, h17, h5, rfl, hk, hpre⟩
    refine W.fix h17 (W.fix (d := 5) h5 ?_)
    clear h17 h5
    by_cases hkl : k < (splB s).length
    rotate_left
    · have hall : (splB s).all wordB = true := all_yes fun j hj => hpre j hj (by omega)
      (refine jjB ?_; refine jjC ?_; refine jja rfl rfl (by omega) ?_; refine jz ?_; refine jjB ?_; refine jjK rfl ?_; refine jjE ?_; refine jjB ?_; refine jjC ?_; apply jI; exact eS rfl; apply jI; exact eB rfl; apply jJ; exact eS rfl; apply jJ; exact eB rfl; refine jz ?_; refine jjF ?_; refine jC rfl rfl rfl ⟨inferInstance, ?_⟩)
      rw [hwb, hall]
      exact ⟨_, rfl, (hO.ext hS3.ext)⟩
    have hsz := hb.2 _ (List.getElem_mem hkl)
    have i3 : RowI w3 (.slice a (splB s).length c) false 1 ((splB s).map strV) := ⟨(hO.ext hS3.ext).row⟩
    obtain ⟨B, hB⟩ : ∃ B, wordB (splB s)[k] = B := ⟨_, rfl⟩
    (refine jjB ?_; refine jjC ?_; refine jjZ rfl rfl (by omega) ?_; refine jz ?_; refine jjB ?_; refine jjJ rfl ?_; refine jjG ?_; refine jjB ?_; refine jjD ?_; refine jjB ?_; refine jjC ?_; refine jF rfl rfl rfl (map_get (by omega)) ?_; intro _ _ _; refine jQ rfl rfl ?_; apply jJ; exact eT rfl; refine jz ?_; refine jjB ?_; refine jjC ?_; apply jI; exact eT rfl)
    refine jjQ ((word_slip (splB s)[k] _ (by omega)).mono fun v _ _ e => e.trans (by rw [hB])) rfl rfl ?_
    rintro _ w4 hS4 rfl
    cases B
    · have hall : (splB s).all wordB = false := all_no hkl hB
      (refine jq rfl ?_; refine jz ?_; refine jjJ rfl ?_; refine jjB ?_; refine jjC ?_; apply jJ; exact eB rfl; refine jz ?_; refine jjE ?_; refine jjB ?_; refine jjC ?_; apply jI; exact eS rfl; apply jI; exact eB rfl; apply jJ; exact eS rfl; apply jJ; exact eB rfl; refine jz ?_; refine jjF ?_; refine jC rfl rfl rfl ⟨inferInstance, ?_⟩)
      rw [hwb, hall]
      exact ⟨_, rfl, hO.ext (hS3.ext.trans hS4.ext)⟩
    · (refine jp rfl ?_; refine jz ?_; refine jjK rfl ?_; refine jjG ?_; refine jjC ?_; refine jY rfl rfl (by omega) ?_; apply jI; exact eI rfl; refine jz ?_)
      refine ⟨rfl, by ((refine Same.upd rfl ?_; refine Same.upd rfl ?_; refine Same.upd rfl ?_; refine Same.upd rfl ?_; refine Same.upd rfl ?_; refine Same.upd rfl ?_; refine Same.upd rfl ?_; refine Same.upd rfl ?_; refine Same.upd rfl ?_; refine Same.upd rfl ?_; refine Same.upd rfl ?_; exact Same.ovN)), (splB s).length - (k + 1), by omega, inferInstance, k + 1, congrArg (Value.int .i64) (by omega), rfl, rfl, by omega, fun j hj hjk => ?_⟩
      by_cases e : j = k
      · subst e; exact hB
      · exact hpre j hj (by omega)
  · have hwb := wordsB_len h0 h80
    (apply jJ; exact eS rfl; refine jz ?_; refine jjB ?_; refine jjC ?_; apply jI; exact eT rfl; refine ji rfl ?_; refine jjc rfl rfl (by omega) ?_; apply jJ; exact eB rfl; refine jz ?_; refine jjB ?_; refine jjI ?_; refine jjB ?_; refine jjB ?_; refine jjC ?_; apply jI; exact eS rfl; refine jh rfl ?_; apply jI; exact eI rfl; refine jz ?_; refine jjD ?_)
    refine W.keep0 [(4, .slice a (splB s).length c), (5, .bool false), (15, .slice a (splB s).length c), (16, .int .i64 (((splB s).length : Nat) : Int)), (17, .int .i64 ((0 : Nat) : Int))] ⟨eS rfl, eB rfl, eS rfl, eI rfl, eI rfl, trivial⟩ fun s0 => ?_
    refine W.loop (18 :: 19 :: 20 :: 7 :: 21 :: 22 :: 23 :: 5 :: 24 :: 17 :: []) (fun g s' V => ∃ k : Nat, s' 17 = .int .i64 ((k : Nat) : Int) ∧ s' 5 = .bool false ∧ g = (splB s).length - k ∧ k ≤ (splB s).length) (splB s).length ⟨0, rfl, rfl, rfl, Nat.zero_le _⟩ ?_
    rintro _ sd w3 hS3 ⟨k, h17, h5, rfl, hk⟩
    refine W.fix h17 (W.fix (d := 5) h5 ?_)
    clear h17 h5
    by_cases hkl : k < (splB s).length
    rotate_left
    · (refine jjB ?_; refine jjC ?_; refine jja rfl rfl (by omega) ?_; refine jz ?_; refine jjB ?_; refine jjK rfl ?_; refine jjE ?_; refine jjB ?_; refine jjC ?_; apply jI; exact eS rfl; apply jI; exact eB rfl; apply jJ; exact eS rfl; apply jJ; exact eB rfl; refine jz ?_; refine jjF ?_; refine jC rfl rfl rfl ⟨inferInstance, ?_⟩)
      rw [hwb]
      exact ⟨_, rfl, (hO.ext hS3.ext)⟩
    have hsz := hb.2 _ (List.getElem_mem hkl)
    have i3 : RowI w3 (.slice a (splB s).length c) false 1 ((splB s).map strV) := ⟨(hO.ext hS3.ext).row⟩
    obtain ⟨B, hB⟩ : ∃ B, wordB (splB s)[k] = B := ⟨_, rfl⟩
    (refine jjB ?_; refine jjC ?_; refine jjZ rfl rfl (by omega) ?_; refine jz ?_; refine jjB ?_; refine jjJ rfl ?_; refine jjG ?_; refine jjB ?_; refine jjD ?_; refine jjB ?_; refine jjC ?_; refine jF rfl rfl rfl (map_get (by omega)) ?_; intro _ _ _; refine jQ rfl rfl ?_; apply jJ; exact eT rfl; refine jz ?_; refine jjB ?_; refine jjC ?_; apply jI; exact eT rfl)
    refine jjQ ((word_slip (splB s)[k] _ (by omega)).mono fun v _ _ e => e.trans (by rw [hB])) rfl rfl ?_
    rintro _ w4 hS4 rfl
    cases B
    · (refine jq rfl ?_; refine jz ?_; refine jjJ rfl ?_; refine jjB ?_; refine jjC ?_; apply jJ; exact eB rfl; refine jz ?_; refine jjE ?_; refine jjB ?_; refine jjC ?_; apply jI; exact eS rfl; apply jI; exact eB rfl; apply jJ; exact eS rfl; apply jJ; exact eB rfl; refine jz ?_; refine jjF ?_; refine jC rfl rfl rfl ⟨inferInstance, ?_⟩)
      rw [hwb]
      exact ⟨_, rfl, hO.ext (hS3.ext.trans hS4.ext)⟩
    · (refine jp rfl ?_; refine jz ?_; refine jjK rfl ?_; refine jjG ?_; refine jjC ?_; refine jY rfl rfl (by omega) ?_; apply jI; exact eI rfl; refine jz ?_)
      exact ⟨rfl, by ((refine Same.upd rfl ?_; refine Same.upd rfl ?_; refine Same.upd rfl ?_; refine Same.upd rfl ?_; refine Same.upd rfl ?_; refine Same.upd rfl ?_; refine Same.upd rfl ?_; refine Same.upd rfl ?_; refine Same.upd rfl ?_; refine Same.upd rfl ?_; refine Same.upd rfl ?_; exact Same.ovN)), (splB s).length - (k + 1), by omega, inferInstance, k + 1, congrArg (Value.int .i64) (by omega), rfl, rfl, by omega⟩
end
end Go.Proofs.YtpijeomnplmakaaDoor

/- The order of texts and of slips: cmp.Compare of texts, slip.right, slip.Order. -/
namespace Go.Proofs.YtpijeomnplmakaaDoor
open Go.RowKit

/-- The order of two texts. -/
def cmpS (x y : ByteArray) : Int := if Op.bytesLess x.toList y.toList then -1 else if x = y then 0 else 1
def slipB (x : Slp) : Bool := wordsB x.2.2.1 && (wordsB x.2.2.2 && wordB x.2.1)
def SmallS (x : Slp) : Prop := x.2.1.size ≤ 1000 ∧ x.2.2.1.size ≤ 1000 ∧ x.2.2.2.size ≤ 1000
/-- The order of two slips. -/
def ordS (a b : Slp) : Int := orF [cmpS a.2.1 b.2.1, cmpP a.1 b.1, cmpS a.2.2.2 b.2.2.2, cmpS a.2.2.1 b.2.2.1]
def ordR (a b : Slp) : Int × Int := if slipB a && slipB b then (ordS a b, 0) else (0, 31)

theorem isNaN_str (x : ByteArray) (w : World) : Ct Tryd.prog 48 [.string x] w fun v _ => v = .bool false := by
  refine Ct.ofW (by simp) ?_
  (refine jjB ?_; refine jjC ?_; apply jJ; exact eB rfl; refine jz ?_; refine jjB ?_; refine jjC ?_; apply jI; exact eT rfl; apply jI; exact eT rfl)
  refine Ops.neqS rfl rfl ?_
  (apply jJ; exact eB rfl; refine jz ?_; refine jjF ?_; refine jB rfl rfl ⟨inferInstance, ?_⟩)
  exact congrArg Value.bool (by simp)
theorem Compare_str (x y : ByteArray) (w : World) : Ct Tryd.prog 29 [.string x, .string y] w fun v _ => v = .int .i64 (cmpS x y) := by
  refine Ct.ofW (by simp) ?_
  (refine jjB ?_; refine jjC ?_; apply jJ; exact eI rfl; refine jz ?_; refine jjB ?_; refine jjC ?_; apply jI; exact eT rfl)
  refine jjQ (isNaN_str x _) rfl rfl ?_
  rintro _ w2 hS2 rfl
  (apply jJ; exact eB rfl; refine jz ?_; refine jjB ?_; refine jjC ?_; apply jI; exact eT rfl)
  refine jjQ (isNaN_str y _) rfl rfl ?_
  rintro _ w3 hS3 rfl
  (apply jJ; exact eB rfl; refine jz ?_; refine jjB ?_; refine jjB ?_; refine jjC ?_; apply jI; exact eB rfl; refine jz ?_; refine jjK rfl ?_; refine jjG ?_; refine jjB ?_; refine jjB ?_; refine jjC ?_; apply jI; exact eB rfl; refine jz ?_; refine jjK rfl ?_; refine jjG ?_; refine jjB ?_; refine jjB ?_; refine jjC ?_; apply jI; exact eT rfl; apply jI; exact eT rfl)
  refine Ops.lssS rfl rfl ?_
  obtain ⟨B, hB⟩ : ∃ B, Op.bytesLess x.toList y.toList = B := ⟨_, rfl⟩
  rw [cmpS, hB]
  cases B
  · (refine jz ?_; refine jjK rfl ?_; refine jjG ?_; refine jjB ?_; refine jjB ?_; refine jjC ?_; apply jI; exact eT rfl; apply jI; exact eT rfl)
    refine Ops.gtrS rfl rfl ?_
    rw [hB, beqS, Bool.false_or]
    by_cases e : x = y
    · rw [decide_eq_true e, if_pos e]
      (refine jz ?_; refine jjK rfl ?_; refine jjG ?_; refine jjB ?_; refine jjC ?_; apply jJ; exact eI rfl; refine jz ?_; refine jjF ?_; refine jB rfl rfl ⟨inferInstance, ?_⟩)
      exact rfl
    · rw [decide_eq_false e, if_neg e]
      (refine jz ?_; refine jjJ rfl ?_; refine jjB ?_; refine jjC ?_; apply jJ; exact eI rfl; refine jz ?_; refine jjF ?_; refine jB rfl rfl ⟨inferInstance, ?_⟩)
      exact rfl
  · (refine jz ?_; refine jjJ rfl ?_; refine jjB ?_; refine jjC ?_; apply jJ; exact eI rfl; refine jz ?_; refine jjF ?_; refine jB rfl rfl ⟨inferInstance, ?_⟩)
    exact rfl

section
variable (w : World) [hm : MxI w]
set_option maxHeartbeats 1000000 in
theorem right_slip (x : Slp) (hx : SmallS x) : Ct Tryd.prog 27 [encSl x] w fun v _ => v = .bool (slipB x) := by
  obtain ⟨h1, h2, h3⟩ := hx
  refine Ct.ofW (by simp) ?_
  (refine jjB ?_; refine jjC ?_)
  (refine jy rfl ?_; intro b1 w_b1 hb_b1 hs_b1 hS_b1 hk_b1; have hA_b1 := At.ofBlock hk_b1)
  (apply jJ; exact eB rfl; refine jz ?_; refine jjB ?_; refine jjC ?_; refine jm ?_; refine jn rfl ?_; refine jN rfl rfl rfl ?_)
  obtain ⟨B1, e1⟩ : ∃ B, wordsB x.2.2.1 = B := ⟨_, rfl⟩
  obtain ⟨B2, e2⟩ : ∃ B, wordsB x.2.2.2 = B := ⟨_, rfl⟩
  obtain ⟨B3, e3⟩ : ∃ B, wordB x.2.1 = B := ⟨_, rfl⟩
  refine jjQ ((words_slip _ x.2.2.1 h2).mono fun v _ _ h => by rw [e1] at h; exact h) rfl rfl ?_
  rintro _ w2 hS2 ⟨sv, rfl, -⟩
  (apply jI; exact eU rfl; refine ju rfl rfl ?_; refine ju rfl rfl ?_; apply jJ; exact rfl; apply jJ; exact eB rfl; refine jz ?_; refine jjB ?_; refine jjC ?_; refine jm ?_; refine jn rfl ?_; refine jN rfl rfl rfl ?_)
  refine jjQ ((words_slip _ x.2.2.2 h3).mono fun v _ _ h => by rw [e2] at h; exact h) rfl rfl ?_
  rintro _ w3 hS3 ⟨sv2, rfl, -⟩
  rw [slipB, e1, e2, e3]
  cases B1
  · (apply jI; exact eU rfl; refine ju rfl rfl ?_; refine ju rfl rfl ?_; apply jJ; exact rfl; apply jJ; exact eB rfl; refine jz ?_; refine jjB ?_; refine jjC ?_; apply jI; exact eB rfl; apply jI; exact eB rfl; refine jU rfl rfl rfl rfl ?_; apply jL rfl; exact eB rfl; apply jI; exact eB rfl; refine jU rfl rfl rfl rfl ?_; refine jU rfl rfl rfl rfl ?_; refine jU rfl rfl rfl rfl ?_; apply jL rfl; exact eB rfl; apply jJ; exact eB rfl; refine jz ?_; refine jjF ?_; refine jB rfl rfl ⟨inferInstance, ?_⟩)
    exact rfl
  cases B2
  · (apply jI; exact eU rfl; refine ju rfl rfl ?_; refine ju rfl rfl ?_; apply jJ; exact rfl; apply jJ; exact eB rfl; refine jz ?_; refine jjB ?_; refine jjC ?_; apply jI; exact eB rfl; apply jI; exact eB rfl; refine jT rfl rfl rfl ?_; apply jI; exact eB rfl; apply jK rfl; exact eB rfl; apply jI; exact eB rfl; refine jU rfl rfl rfl rfl ?_; refine jU rfl rfl rfl rfl ?_; refine jU rfl rfl rfl rfl ?_; apply jL rfl; exact eB rfl; apply jJ; exact eB rfl; refine jz ?_; refine jjF ?_; refine jB rfl rfl ⟨inferInstance, ?_⟩)
    exact rfl
  (apply jI; exact eU rfl; refine ju rfl rfl ?_; refine ju rfl rfl ?_; apply jJ; exact rfl; apply jJ; exact eB rfl; refine jz ?_; refine jjB ?_; refine jjC ?_; apply jI; exact eB rfl; apply jI; exact eB rfl; refine jT rfl rfl rfl ?_; apply jI; exact eB rfl; apply jK rfl; exact eB rfl; apply jI; exact eB rfl; refine jT rfl rfl rfl ?_; refine jm ?_; refine jn rfl ?_; refine jT rfl rfl rfl ?_; refine jN rfl rfl rfl ?_; refine jT rfl rfl rfl ?_)
  refine jjQ ((word_slip x.2.1 _ (by omega)).mono fun v _ _ h => h.trans (by rw [e3])) rfl rfl ?_
  rintro _ w4 hS4 rfl
  (apply jK rfl; exact eB rfl; apply jJ; exact eB rfl; refine jz ?_; refine jjF ?_; refine jB rfl rfl ⟨inferInstance, ?_⟩)
  exact rfl
set_option maxHeartbeats 2000000 in
theorem Order_slip (x y : Slp) (hx : SmallS x) (hy : SmallS y) : Ct Tryd.prog 12 [encSl x, encSl y] w fun v _ => v = .tuple #[.int .i64 (ordR x y).1, .int .i64 (ordR x y).2] := by
  refine Ct.ofW (by simp) ?_
  (refine jjB ?_; refine jjC ?_)
  (refine jy rfl ?_; intro b2 w_b2 hb_b2 hs_b2 hS_b2 hk_b2; have hA_b2 := At.ofBlock hk_b2)
  skip
  (refine jy rfl ?_; intro b3 w_b3 hb_b3 hs_b3 hS_b3 hk_b3; have hA_b3 := At.ofBlock hk_b3)
  obtain ⟨B1, e1⟩ : ∃ B, slipB x = B := ⟨_, rfl⟩
  obtain ⟨B2, e2⟩ : ∃ B, slipB y = B := ⟨_, rfl⟩
  (apply jJ; exact eI rfl; apply jJ; exact eI rfl; refine jz ?_; refine jjB ?_; refine jjB ?_; refine jjC ?_; refine jO rfl rfl rfl rfl ?_)
  refine jjQ ((right_slip _ x hx).mono fun v _ _ h => h.trans (by rw [e1])) rfl rfl ?_
  rintro _ w2 hS2 rfl
  rw [ordR, e1, e2]
  cases B1
  · (refine jq rfl ?_; apply jI; exact eB rfl; refine jU rfl rfl rfl rfl ?_; refine jU rfl rfl rfl rfl ?_; refine jU rfl rfl rfl rfl ?_; apply jK rfl; exact eB rfl; refine jz ?_; refine jjJ rfl ?_; refine jjB ?_; refine jjC ?_; apply jJ; exact eI rfl; apply jJ; exact eI rfl; refine jz ?_; refine jjF ?_; refine jC rfl rfl rfl ⟨inferInstance, ?_⟩)
    exact rfl
  (refine jp rfl ?_; apply jI; exact eB rfl; refine jT rfl rfl rfl ?_; refine jO rfl rfl rfl rfl ?_; refine jT rfl rfl rfl ?_)
  refine jjQ ((right_slip _ y hy).mono fun v _ _ h => h.trans (by rw [e2])) rfl rfl ?_
  rintro _ w3 hS3 rfl
  cases B2
  · (refine jT rfl rfl rfl ?_; refine jq rfl ?_; apply jL rfl; exact eB rfl; refine jz ?_; refine jjJ rfl ?_; refine jjB ?_; refine jjC ?_; apply jJ; exact eI rfl; apply jJ; exact eI rfl; refine jz ?_; refine jjF ?_; refine jC rfl rfl rfl ⟨inferInstance, ?_⟩)
    exact rfl
  (refine jT rfl rfl rfl ?_; refine jp rfl ?_; apply jL rfl; exact eB rfl; refine jz ?_; refine jjK rfl ?_; refine jjG ?_; refine jjB ?_)
  refine W.draw (fun w' => Ext w3 w') ?_
  intro w1 hS1
  have x1 := hS1.ext
  (refine jjV [0, 1, 2, 3, 5, 6, 7, 8, 10, 11, 12, 13, 15, 16, 17, 18] ?_ ?_ ?_; (decide +kernel); (exact x1); (((apply jjT; exact rfl; rintro w' hq; have := hq.toStep; refine jm ?_; refine jn rfl ?_; refine jz ?_; exact ⟨rfl, rfl⟩; apply jjT; exact rfl; rintro w' hq; have := hq.toStep; refine jN rfl rfl rfl ?_; refine jz ?_; exact ⟨rfl, rfl⟩; apply jjT; exact rfl; rintro w' hq; have := hq.toStep; refine jm ?_; refine jn rfl ?_; refine jz ?_; exact ⟨rfl, rfl⟩; apply jjT; exact rfl; rintro w' hq; have := hq.toStep; refine jN rfl rfl rfl ?_; refine jz ?_; exact ⟨rfl, rfl⟩; apply jjT; exact rfl; rintro w' hq; have := hq.toStep; refine jm ?_; refine jn rfl ?_; refine jz ?_; exact ⟨rfl, rfl⟩; apply jjT; exact rfl; rintro w' hq; have := hq.toStep; refine jO rfl rfl rfl rfl ?_; refine jz ?_; exact ⟨rfl, rfl⟩; apply jjT; exact rfl; rintro w' hq; have := hq.toStep; refine jm ?_; refine jn rfl ?_; refine jz ?_; exact ⟨rfl, rfl⟩; apply jjT; exact rfl; rintro w' hq; have := hq.toStep; refine jO rfl rfl rfl rfl ?_; refine jz ?_; exact ⟨rfl, rfl⟩; apply jjT; exact rfl; rintro w' hq; have := hq.toStep; refine jm ?_; refine jn rfl ?_; refine jz ?_; exact ⟨rfl, rfl⟩; apply jjT; exact rfl; rintro w' hq; have := hq.toStep; refine jN rfl rfl rfl ?_; refine jz ?_; exact ⟨rfl, rfl⟩; apply jjT; exact rfl; rintro w' hq; have := hq.toStep; refine jm ?_; refine jn rfl ?_; refine jz ?_; exact ⟨rfl, rfl⟩; apply jjT; exact rfl; rintro w' hq; have := hq.toStep; refine jN rfl rfl rfl ?_; refine jz ?_; exact ⟨rfl, rfl⟩; apply jjT; exact rfl; rintro w' hq; have := hq.toStep; refine jm ?_; refine jn rfl ?_; refine jz ?_; exact ⟨rfl, rfl⟩; apply jjT; exact rfl; rintro w' hq; have := hq.toStep; refine jN rfl rfl rfl ?_; refine jz ?_; exact ⟨rfl, rfl⟩; apply jjT; exact rfl; rintro w' hq; have := hq.toStep; refine jm ?_; refine jn rfl ?_; refine jz ?_; exact ⟨rfl, rfl⟩; apply jjT; exact rfl; rintro w' hq; have := hq.toStep; refine jN rfl rfl rfl ?_; refine jz ?_; exact ⟨rfl, rfl⟩; refine jjU ?_))))
  (apply jjW 4; (decide +kernel); exact rfl; (exact x1))
  refine jjQ (Compare_str _ _ _) rfl rfl ?_
  rintro _ w4 hS4 rfl
  refine jz ?_
  have x2 := x1.trans hS4.ext
  (apply jjW 9; (decide +kernel); exact rfl; (exact x2))
  refine jjQ (places_slip x.1 y.1 _) rfl rfl ?_
  rintro _ w5 hS5 rfl
  refine jz ?_
  have x3 := x2.trans hS5.ext
  (apply jjW 14; (decide +kernel); exact rfl; (exact x3))
  refine jjQ (Compare_str _ _ _) rfl rfl ?_
  rintro _ w6 hS6 rfl
  refine jz ?_
  have x4 := x3.trans hS6.ext
  (apply jjW 19; (decide +kernel); exact rfl; (exact x4))
  refine jjQ (Compare_str _ _ _) rfl rfl ?_
  rintro _ w7 hS7 rfl
  refine jz ?_
  have x5 := x4.trans hS7.ext
  (apply jjW 20; (decide +kernel); exact rfl; (exact x5))
  refine Ops.buildSlice4 (v1 := .int .i64 (cmpS x.2.1 y.2.1)) (v2 := .int .i64 (cmpP x.1 y.1)) (v3 := .int .i64 (cmpS x.2.2.2 y.2.2.2)) (v4 := .int .i64 (cmpS x.2.2.1 y.2.2.1)) rfl rfl rfl rfl rfl rfl rfl rfl rfl ?_
  intro b8 w8 hb8 hs8 hS8 hk8
  refine jz ?_
  have x6 := x5.trans hS8.ext
  (apply jjW 21; (decide +kernel); exact rfl; (exact x6))
  have hr8 : RowV w8 false 1 (.slice (some ⟨b8, 0, none⟩) 4 4) ([cmpS x.2.1 y.2.1, cmpP x.1 y.1, cmpS x.2.2.2 y.2.2.2, cmpS x.2.2.1 y.2.2.1].map intV) := hk8.row (fun x hx => by simp at hx; rcases hx with rfl | rfl | rfl | rfl <;> rfl) (by simp)
  refine jjQ (Or_int _ _ _ [cmpS x.2.1 y.2.1, cmpP x.1 y.1, cmpS x.2.2.2 y.2.2.2, cmpS x.2.2.1 y.2.2.1] _ rfl hr8) rfl rfl ?_
  rintro _ w9 hS9 rfl
  refine jz ?_
  have x7 := x6.trans hS9.ext
  (refine jjV [22, 23] ?_ ?_ ?_; (decide +kernel); (exact x7); (((apply jjT; exact rfl; rintro w' hq; apply jJ; exact eI rfl; refine jz ?_; exact ⟨rfl, rfl⟩; apply jjT; exact rfl; rintro w' hq; apply jJ; exact eI rfl; refine jz ?_; exact ⟨rfl, rfl⟩; refine jjU ?_))))
  refine jjX (by decide +kernel) x7 ?_
  have := x7.toStep
  (refine jjF ?_; refine jC rfl rfl rfl ⟨inferInstance, ?_⟩)
  exact rfl
end
end Go.Proofs.YtpijeomnplmakaaDoor

/- The order of places: its three answers. -/
namespace Go.Proofs.YtpijeomnplmakaaDoor
open Go.RowKit

theorem cmpP_self (a : Pl) : cmpP a a = 0 := by simp [cmpP, cmp1, orF]
theorem cmpP_lt {a b : Pl} (h : befP a b = true) : cmpP a b = -1 := by
  unfold cmpP orF orF orF orF cmp1
  rw [befP_iff] at h
  repeat' split
  all_goals omega
theorem cmpP_gt {a b : Pl} (h : befP a b = false) (hne : a ≠ b) : cmpP a b = 1 := by
  have h2 : befP b a = true := by
    rcases befP_tri a b with h3 | h3 | h3
    · rw [h] at h3; cases h3
    · exact absurd h3 hne
    · exact h3
  unfold cmpP orF orF orF orF cmp1
  rw [befP_iff] at h2
  repeat' split
  all_goals omega
end Go.Proofs.YtpijeomnplmakaaDoor

/- The reference: the order of slips. -/
namespace Go.Proofs.YtpijeomnplmakaaDoor
open Go.RowKit

theorem texts_ref3 (x y : ByteArray) (w : World) : Ct Tryd.prog 61 [.string x, .string y] w fun v _ => v = .int .i64 (cmpS x y) := by
  refine Ct.ofW (by simp) ?_
  (refine jjB ?_; refine jjC ?_; apply jJ; exact eI rfl; refine jz ?_; refine jjB ?_; refine jjD ?_; refine jjB ?_; refine jjC ?_; apply jI; exact eT rfl; apply jI; exact eT rfl)
  refine Ops.lssS rfl rfl ?_
  obtain ⟨B, hB⟩ : ∃ B, Op.bytesLess x.toList y.toList = B := ⟨_, rfl⟩
  rw [cmpS, hB]
  cases B
  · (apply jJ; exact eB rfl; refine jz ?_; refine jjK rfl ?_; refine jjB ?_; refine jjC ?_; apply jI; exact eT rfl; apply jI; exact eT rfl)
    refine Ops.gtrS rfl rfl ?_
    rw [hB, beqS, Bool.false_or]
    by_cases e : x = y
    · rw [decide_eq_true e, if_pos e]
      (apply jJ; exact eB rfl; refine jz ?_; refine jjK rfl ?_; refine jjG ?_; refine jjB ?_; refine jjC ?_; apply jJ; exact eI rfl; refine jz ?_; refine jjF ?_; refine jB rfl rfl ⟨inferInstance, ?_⟩)
      exact rfl
    · rw [decide_eq_false e, if_neg e]
      (apply jJ; exact eB rfl; refine jz ?_; refine jjJ rfl ?_; refine jjB ?_; refine jjC ?_; apply jJ; exact eI rfl; refine jz ?_; refine jjF ?_; refine jB rfl rfl ⟨inferInstance, ?_⟩)
      exact rfl
  · (apply jJ; exact eB rfl; refine jz ?_; refine jjJ rfl ?_; refine jjB ?_; refine jjC ?_; apply jJ; exact eI rfl; refine jz ?_; refine jjF ?_; refine jB rfl rfl ⟨inferInstance, ?_⟩)
    exact rfl
set_option maxHeartbeats 1000000 in
theorem Slip_ref3 (x : Slp) (w : World) (hx : SmallS x) : Ct Tryd.prog 19 [encSl x] w fun v _ => v = .bool (slipB x) := by
  obtain ⟨h1, h2, h3⟩ := hx
  refine Ct.ofW (by simp) ?_
  (refine jjB ?_; refine jjC ?_)
  (refine jy rfl ?_; intro b1 w_b1 hb_b1 hs_b1 hS_b1 hk_b1; have hA_b1 := At.ofBlock hk_b1)
  (apply jJ; exact eB rfl; refine jz ?_; refine jjB ?_; refine jjC ?_; refine jm ?_; refine jn rfl ?_; refine jN rfl rfl rfl ?_)
  obtain ⟨B1, e1⟩ : ∃ B, wordsB x.2.2.1 = B := ⟨_, rfl⟩
  obtain ⟨B2, e2⟩ : ∃ B, wordsB x.2.2.2 = B := ⟨_, rfl⟩
  obtain ⟨B3, e3⟩ : ∃ B, wordB x.2.1 = B := ⟨_, rfl⟩
  refine jjQ ((parts_ref3 x.2.2.1 _ h2).mono fun v _ _ h => by rw [e1] at h; exact h) rfl rfl ?_
  rintro _ w2 hS2 ⟨sv, rfl, -⟩
  (apply jI; exact eU rfl; refine ju rfl rfl ?_; refine ju rfl rfl ?_; apply jJ; exact rfl; apply jJ; exact eB rfl; refine jz ?_; refine jjB ?_; refine jjC ?_; refine jm ?_; refine jn rfl ?_; refine jN rfl rfl rfl ?_)
  refine jjQ ((parts_ref3 x.2.2.2 _ h3).mono fun v _ _ h => by rw [e2] at h; exact h) rfl rfl ?_
  rintro _ w3 hS3 ⟨sv2, rfl, -⟩
  rw [slipB, e1, e2, e3]
  cases B1
  · (apply jI; exact eU rfl; refine ju rfl rfl ?_; refine ju rfl rfl ?_; apply jJ; exact rfl; apply jJ; exact eB rfl; refine jz ?_; refine jjB ?_; refine jjC ?_; apply jI; exact eB rfl; apply jI; exact eB rfl; refine jU rfl rfl rfl rfl ?_; apply jL rfl; exact eB rfl; apply jI; exact eB rfl; refine jU rfl rfl rfl rfl ?_; refine jU rfl rfl rfl rfl ?_; refine jU rfl rfl rfl rfl ?_; apply jL rfl; exact eB rfl; apply jJ; exact eB rfl; refine jz ?_; refine jjF ?_; refine jB rfl rfl ⟨inferInstance, ?_⟩)
    exact rfl
  cases B2
  · (apply jI; exact eU rfl; refine ju rfl rfl ?_; refine ju rfl rfl ?_; apply jJ; exact rfl; apply jJ; exact eB rfl; refine jz ?_; refine jjB ?_; refine jjC ?_; apply jI; exact eB rfl; apply jI; exact eB rfl; refine jT rfl rfl rfl ?_; apply jI; exact eB rfl; apply jK rfl; exact eB rfl; apply jI; exact eB rfl; refine jU rfl rfl rfl rfl ?_; refine jU rfl rfl rfl rfl ?_; refine jU rfl rfl rfl rfl ?_; apply jL rfl; exact eB rfl; apply jJ; exact eB rfl; refine jz ?_; refine jjF ?_; refine jB rfl rfl ⟨inferInstance, ?_⟩)
    exact rfl
  (apply jI; exact eU rfl; refine ju rfl rfl ?_; refine ju rfl rfl ?_; apply jJ; exact rfl; apply jJ; exact eB rfl; refine jz ?_; refine jjB ?_; refine jjC ?_; apply jI; exact eB rfl; apply jI; exact eB rfl; refine jT rfl rfl rfl ?_; apply jI; exact eB rfl; apply jK rfl; exact eB rfl; apply jI; exact eB rfl; refine jT rfl rfl rfl ?_; refine jm ?_; refine jn rfl ?_; refine jT rfl rfl rfl ?_; refine jN rfl rfl rfl ?_; refine jT rfl rfl rfl ?_)
  refine jjQ ((Word_ref x.2.1 _ (by omega)).mono fun v _ _ h => h.trans (by rw [e3])) rfl rfl ?_
  rintro _ w4 hS4 rfl
  (apply jK rfl; exact eB rfl; apply jJ; exact eB rfl; refine jz ?_; refine jjF ?_; refine jB rfl rfl ⟨inferInstance, ?_⟩)
  exact rfl
theorem bytesLess_irr : ∀ l : List UInt8, Op.bytesLess l l = false
  | [] => rfl
  | c :: l => by simp [Op.bytesLess, bytesLess_irr l]
theorem cmpS_self (x : ByteArray) : cmpS x x = 0 := by rw [cmpS, bytesLess_irr]; simp
theorem cmpS_ne {x y : ByteArray} (h : x ≠ y) : cmpS x y ≠ 0 := by
  unfold cmpS
  repeat' split
  all_goals (first | decide | (exfalso; exact h ‹_›))
set_option maxHeartbeats 2000000 in
theorem Order_ref3 (x y : Slp) (w : World) (hx : SmallS x) (hy : SmallS y) : Ct Tryd.prog 37 [encSl x, encSl y] w fun v _ => v = .tuple #[.int .i64 (ordR x y).1, .int .i64 (ordR x y).2] := by
  refine Ct.ofW (by simp) ?_
  (refine jjB ?_; refine jjC ?_)
  (refine jy rfl ?_; intro b2 w_b2 hb_b2 hs_b2 hS_b2 hk_b2; have hA_b2 := At.ofBlock hk_b2)
  skip
  (refine jy rfl ?_; intro b3 w_b3 hb_b3 hs_b3 hS_b3 hk_b3; have hA_b3 := At.ofBlock hk_b3)
  obtain ⟨B1, e1⟩ : ∃ B, slipB x = B := ⟨_, rfl⟩
  obtain ⟨B2, e2⟩ : ∃ B, slipB y = B := ⟨_, rfl⟩
  (apply jJ; exact eI rfl; apply jJ; exact eI rfl; refine jz ?_; refine jjB ?_; refine jjB ?_; refine jjC ?_; refine jO rfl rfl rfl rfl ?_)
  refine jjQ ((Slip_ref3 x _ hx).mono fun v _ _ h => h.trans (by rw [e1])) rfl rfl ?_
  rintro _ w2 hS2 rfl
  rw [ordR, e1, e2]
  cases B1
  · (refine jq rfl ?_; apply jI; exact eB rfl; refine jU rfl rfl rfl rfl ?_; refine jU rfl rfl rfl rfl ?_; refine jU rfl rfl rfl rfl ?_; apply jK rfl; exact eB rfl; refine jz ?_; refine jjJ rfl ?_; refine jjB ?_; refine jjC ?_; apply jJ; exact eI rfl; apply jJ; exact eI rfl; refine jz ?_; refine jjF ?_; refine jC rfl rfl rfl ⟨inferInstance, ?_⟩)
    exact rfl
  (refine jp rfl ?_; apply jI; exact eB rfl; refine jT rfl rfl rfl ?_; refine jO rfl rfl rfl rfl ?_; refine jT rfl rfl rfl ?_)
  refine jjQ ((Slip_ref3 y _ hy).mono fun v _ _ h => h.trans (by rw [e2])) rfl rfl ?_
  rintro _ w3 hS3 rfl
  cases B2
  · (refine jT rfl rfl rfl ?_; refine jq rfl ?_; apply jL rfl; exact eB rfl; refine jz ?_; refine jjJ rfl ?_; refine jjB ?_; refine jjC ?_; apply jJ; exact eI rfl; apply jJ; exact eI rfl; refine jz ?_; refine jjF ?_; refine jC rfl rfl rfl ⟨inferInstance, ?_⟩)
    exact rfl
  rw [show (if (true && true) = true then (ordS x y, (0 : Int)) else (0, 31)) = (ordS x y, 0) from rfl]
  (refine jT rfl rfl rfl ?_; refine jp rfl ?_; apply jL rfl; exact eB rfl; refine jz ?_; refine jjK rfl ?_; refine jjG ?_; refine jjB ?_; refine jjD ?_; refine jjB ?_; refine jjC ?_; refine jm ?_; refine jn rfl ?_; refine jN rfl rfl rfl ?_; refine jm ?_; refine jn rfl ?_; refine jN rfl rfl rfl ?_)
  refine Ops.neqS rfl rfl ?_
  by_cases c1 : x.2.1 = y.2.1
  rotate_left
  · rw [decide_eq_true c1]
    (apply jJ; exact eB rfl; refine jz ?_; refine jjJ rfl ?_; refine jjB ?_; refine jjC ?_; refine jm ?_; refine jn rfl ?_; refine jN rfl rfl rfl ?_; refine jm ?_; refine jn rfl ?_; refine jN rfl rfl rfl ?_)
    refine jjQ (texts_ref3 _ _ _) rfl rfl ?_
    rintro _ w4 hS4 rfl
    (apply jJ; exact eI rfl; apply jJ; exact eI rfl; refine jz ?_; refine jjF ?_; refine jC rfl rfl rfl ⟨inferInstance, ?_⟩)
    rw [ordS, orF, if_neg (cmpS_ne c1)]; exact rfl
  rw [decide_eq_false (fun h => h c1)]
  have o1 : ordS x y = orF [cmpP x.1 y.1, cmpS x.2.2.2 y.2.2.2, cmpS x.2.2.1 y.2.2.1] := by rw [ordS, orF, c1, cmpS_self, if_pos rfl]
  (apply jJ; exact eB rfl; refine jz ?_; refine jjK rfl ?_; refine jjB ?_; refine jjC ?_; refine jm ?_; refine jn rfl ?_; refine jO rfl rfl rfl rfl ?_; refine jm ?_; refine jn rfl ?_; refine jO rfl rfl rfl rfl ?_)
  refine Ops.neqT (enc := encPl) x.1 y.1 rfl rfl ?_
  by_cases c2 : x.1 = y.1
  rotate_left
  · rw [decide_eq_true c2]
    (apply jJ; exact eB rfl; refine jz ?_; refine jjJ rfl ?_; refine jjB ?_; refine jjB ?_; refine jjC ?_; refine jm ?_; refine jn rfl ?_; refine jO rfl rfl rfl rfl ?_; refine jm ?_; refine jn rfl ?_; refine jO rfl rfl rfl rfl ?_)
    obtain ⟨B, hB⟩ : ∃ B, befP x.1 y.1 = B := ⟨_, rfl⟩
    refine jjQ ((Before_ref1 x.1 y.1 _).mono fun v _ _ h => h.trans (by rw [hB])) rfl rfl ?_
    rintro _ w4 hS4 rfl
    cases B
    · (refine jz ?_; refine jjK rfl ?_; refine jjG ?_; refine jjB ?_; refine jjC ?_; apply jJ; exact eI rfl; apply jJ; exact eI rfl; refine jz ?_; refine jjF ?_; refine jC rfl rfl rfl ⟨inferInstance, ?_⟩)
      rw [o1, cmpP_gt hB c2]; exact rfl
    · (refine jz ?_; refine jjJ rfl ?_; refine jjB ?_; refine jjC ?_; apply jJ; exact eI rfl; apply jJ; exact eI rfl; refine jz ?_; refine jjF ?_; refine jC rfl rfl rfl ⟨inferInstance, ?_⟩)
      rw [o1, cmpP_lt hB]; exact rfl
  rw [decide_eq_false (fun h => h c2)]
  have o2 : ordS x y = orF [cmpS x.2.2.2 y.2.2.2, cmpS x.2.2.1 y.2.2.1] := by rw [o1, orF, c2, cmpP_self, if_pos rfl]
  (apply jJ; exact eB rfl; refine jz ?_; refine jjK rfl ?_; refine jjB ?_; refine jjC ?_; refine jm ?_; refine jn rfl ?_; refine jN rfl rfl rfl ?_; refine jm ?_; refine jn rfl ?_; refine jN rfl rfl rfl ?_)
  refine Ops.neqS rfl rfl ?_
  by_cases c3 : x.2.2.2 = y.2.2.2
  rotate_left
  · rw [decide_eq_true c3]
    (apply jJ; exact eB rfl; refine jz ?_; refine jjJ rfl ?_; refine jjB ?_; refine jjC ?_; refine jm ?_; refine jn rfl ?_; refine jN rfl rfl rfl ?_; refine jm ?_; refine jn rfl ?_; refine jN rfl rfl rfl ?_)
    refine jjQ (texts_ref3 _ _ _) rfl rfl ?_
    rintro _ w4 hS4 rfl
    (apply jJ; exact eI rfl; apply jJ; exact eI rfl; refine jz ?_; refine jjF ?_; refine jC rfl rfl rfl ⟨inferInstance, ?_⟩)
    rw [o2, orF, if_neg (cmpS_ne c3)]; exact rfl
  rw [decide_eq_false (fun h => h c3)]
  have o3 : ordS x y = cmpS x.2.2.1 y.2.2.1 := by
    rw [o2, orF, c3, cmpS_self, if_pos rfl, orF, orF]
    split
    · exact Eq.symm ‹_›
    · rfl
  (apply jJ; exact eB rfl; refine jz ?_; refine jjK rfl ?_; refine jjG ?_; refine jjB ?_; refine jjC ?_; refine jm ?_; refine jn rfl ?_; refine jN rfl rfl rfl ?_; refine jm ?_; refine jn rfl ?_; refine jN rfl rfl rfl ?_)
  refine jjQ (texts_ref3 _ _ _) rfl rfl ?_
  rintro _ w4 hS4 rfl
  (apply jJ; exact eI rfl; apply jJ; exact eI rfl; refine jz ?_; refine jjF ?_; refine jC rfl rfl rfl ⟨inferInstance, ?_⟩)
  rw [o3]; exact rfl
end Go.Proofs.YtpijeomnplmakaaDoor

/- Plain law: the order of slips is one. -/
namespace Go.Proofs.YtpijeomnplmakaaDoor
open Go.RowKit

/-- Three answers; turned round the other way; zero for equals alone; one behind the other. -/
structure Ord3 {α : Type} (f : α → α → Int) : Prop where
  r : ∀ a b, f a b = -1 ∨ f a b = 0 ∨ f a b = 1
  anti : ∀ a b, f a b = - f b a
  z : ∀ a b, f a b = 0 ↔ a = b
  tr : ∀ a b c, f a b = -1 → f b c = -1 → f a c = -1
theorem Ord3.lex {α β : Type} {f : α → α → Int} {g : β → β → Int} (hf : Ord3 f) (hg : Ord3 g) : Ord3 (fun (x y : α × β) => if f x.1 y.1 = 0 then g x.2 y.2 else f x.1 y.1) where
  r a b := by
    split
    · exact hg.r _ _
    · exact hf.r _ _
  anti a b := by
    have h1 := hf.anti a.1 b.1
    have h2 := hg.anti a.2 b.2
    split <;> split <;> omega
  z a b := by
    have h1 := hf.z a.1 b.1
    have h2 := hg.z a.2 b.2
    split
    · rename_i h
      rw [h2, Prod.ext_iff]
      exact ⟨fun e => ⟨h1.1 h, e⟩, fun e => e.2⟩
    · rename_i h
      exact ⟨fun e => absurd e h, fun e => absurd (h1.2 (by rw [e])) h⟩
  tr a b c := by
    intro h1 h2
    by_cases e1 : f a.1 b.1 = 0
    · rw [if_pos e1] at h1
      have q1 := (hf.z _ _).1 e1
      by_cases e2 : f b.1 c.1 = 0
      · rw [if_pos e2] at h2
        have q2 := (hf.z _ _).1 e2
        rw [if_pos ((hf.z _ _).2 (q1.trans q2))]
        exact hg.tr _ _ _ h1 h2
      · rw [if_neg e2] at h2
        rw [q1, if_neg e2]; exact h2
    · rw [if_neg e1] at h1
      by_cases e2 : f b.1 c.1 = 0
      · have q2 := (hf.z _ _).1 e2
        rw [← q2, if_neg e1]; exact h1
      · rw [if_neg e2] at h2
        have := hf.tr _ _ _ h1 h2
        rw [if_neg (by omega)]; exact this
theorem Ord3.map {α β : Type} {f : α → α → Int} (hf : Ord3 f) (k : β → α) (hk : ∀ x y, k x = k y → x = y) : Ord3 (fun x y => f (k x) (k y)) where
  r _ _ := hf.r _ _
  anti _ _ := hf.anti _ _
  z a b := by rw [hf.z]; exact ⟨hk a b, fun e => by rw [e]⟩
  tr _ _ _ := hf.tr _ _ _
theorem ord_cmp1 : Ord3 cmp1 where
  r a b := by unfold cmp1; split <;> (try split) <;> omega
  anti a b := by unfold cmp1; repeat' split
                 all_goals omega
  z a b := by unfold cmp1; repeat' split
              all_goals omega
  tr a b c := by unfold cmp1; repeat' split
                 all_goals omega
theorem bytesLess_asymm : ∀ a b : List UInt8, Op.bytesLess a b = true → Op.bytesLess b a = false
  | _, [], h => by cases h' : (‹List UInt8›) <;> simp_all [Op.bytesLess]
  | [], _ :: _, _ => rfl
  | x :: a, y :: b, h => by
    simp only [Op.bytesLess, Bool.or_eq_true, Bool.and_eq_true, decide_eq_true_eq, beq_iff_eq, Bool.or_eq_false_iff, Bool.and_eq_false_iff, decide_eq_false_iff_not] at h ⊢
    rcases h with h | ⟨rfl, h⟩
    · have h1 : x.toNat < y.toNat := UInt8.lt_iff_toNat_lt.1 h
      refine ⟨fun h2 => ?_, ?_⟩
      · have := UInt8.lt_iff_toNat_lt.1 h2; omega
      · left
        cases hb : (y == x)
        · rfl
        · have := eq_of_beq hb; subst this; omega
    · refine ⟨fun h2 => ?_, .inr (bytesLess_asymm a b h)⟩
      have := UInt8.lt_iff_toNat_lt.1 h2; omega
theorem bytesLess_tri : ∀ a b : List UInt8, Op.bytesLess a b = true ∨ a = b ∨ Op.bytesLess b a = true
  | [], [] => .inr (.inl rfl)
  | [], _ :: _ => .inl rfl
  | _ :: _, [] => .inr (.inr rfl)
  | x :: a, y :: b => by
    simp only [Op.bytesLess, Bool.or_eq_true, Bool.and_eq_true, decide_eq_true_eq, beq_iff_eq]
    rcases Nat.lt_trichotomy x.toNat y.toNat with h | h | h
    · exact .inl (.inl (UInt8.lt_iff_toNat_lt.2 h))
    · have e : x = y := UInt8.toNat_inj.1 h
      subst e
      rcases bytesLess_tri a b with h1 | h1 | h1
      · exact .inl (.inr ⟨rfl, h1⟩)
      · exact .inr (.inl (by rw [h1]))
      · exact .inr (.inr (.inr ⟨rfl, h1⟩))
    · exact .inr (.inr (.inl (UInt8.lt_iff_toNat_lt.2 h)))
theorem bytesLess_trans : ∀ a b c : List UInt8, Op.bytesLess a b = true → Op.bytesLess b c = true → Op.bytesLess a c = true
  | _, _, [], _, h => by cases ‹List UInt8› <;> simp [Op.bytesLess] at h
  | [], _, _ :: _, _, _ => rfl
  | _ :: _, [], _ :: _, h, _ => by simp [Op.bytesLess] at h
  | x :: a, y :: b, z :: c, h1, h2 => by
    simp only [Op.bytesLess, Bool.or_eq_true, Bool.and_eq_true, decide_eq_true_eq, beq_iff_eq] at h1 h2 ⊢
    rcases h1 with h1 | ⟨rfl, h1⟩
    · rcases h2 with h2 | ⟨rfl, h2⟩
      · left; have := UInt8.lt_iff_toNat_lt.1 h1; have := UInt8.lt_iff_toNat_lt.1 h2; exact UInt8.lt_iff_toNat_lt.2 (by omega)
      · exact .inl h1
    · rcases h2 with h2 | ⟨rfl, h2⟩
      · exact .inl h2
      · exact .inr ⟨rfl, bytesLess_trans a b c h1 h2⟩
theorem toList_inj {a b : ByteArray} (h : a.toList = b.toList) : a = b := by
  have := beqS a b
  rw [h, beq_self_eq_true] at this
  exact of_decide_eq_true this.symm
theorem ord_cmpS : Ord3 cmpS where
  r a b := by unfold cmpS; split <;> (try split) <;> omega
  anti a b := by
    unfold cmpS
    rcases bytesLess_tri a.toList b.toList with h | h | h
    · have h2 := bytesLess_asymm _ _ h
      have hne : ¬ b = a := fun e => by subst e; rw [h] at h2; cases h2
      rw [if_pos h, if_neg (by rw [h2]; simp), if_neg hne]
    · have e := toList_inj h
      subst e
      rw [bytesLess_irr]; simp
    · have h2 := bytesLess_asymm _ _ h
      have hne : ¬ a = b := fun e => by subst e; rw [h] at h2; cases h2
      rw [if_pos h, if_neg (by rw [h2]; simp), if_neg hne]; rfl
  z a b := by
    refine ⟨fun h => ?_, fun e => by subst e; exact cmpS_self _⟩
    refine Decidable.by_contra fun hne => cmpS_ne hne h
  tr a b c := by
    unfold cmpS
    intro h1 h2
    have q1 : Op.bytesLess a.toList b.toList = true := by
      cases h : Op.bytesLess a.toList b.toList
      · rw [h] at h1; simp at h1; split at h1 <;> omega
      · rfl
    have q2 : Op.bytesLess b.toList c.toList = true := by
      cases h : Op.bytesLess b.toList c.toList
      · rw [h] at h2; simp at h2; split at h2 <;> omega
      · rfl
    rw [if_pos (bytesLess_trans _ _ _ q1 q2)]
theorem ord_cmpP : Ord3 cmpP := by
  have h := (ord_cmp1.lex (ord_cmp1.lex ord_cmp1))
  have e : cmpP = fun (x y : Int × Int × Int) => if cmp1 x.1 y.1 = 0 then (if cmp1 x.2.1 y.2.1 = 0 then cmp1 x.2.2 y.2.2 else cmp1 x.2.1 y.2.1) else cmp1 x.1 y.1 := by
    funext x y
    simp only [cmpP, orF]
    repeat' split
    all_goals omega
  rw [e]; exact h
theorem ord_slip : Ord3 ordS := by
  have h := (ord_cmpS.lex (ord_cmpP.lex (ord_cmpS.lex ord_cmpS))).map (fun x : Slp => (x.2.1, x.1, x.2.2.2, x.2.2.1)) (fun x y e => by
    simp only [Prod.mk.injEq] at e
    exact Prod.ext e.2.1 (Prod.ext e.1 (Prod.ext e.2.2.2 e.2.2.1)))
  have e : ordS = fun (x y : Slp) => if cmpS x.2.1 y.2.1 = 0 then (if cmpP x.1 y.1 = 0 then (if cmpS x.2.2.2 y.2.2.2 = 0 then cmpS x.2.2.1 y.2.2.1 else cmpS x.2.2.2 y.2.2.2) else cmpP x.1 y.1) else cmpS x.2.1 y.2.1 := by
    funext x y
    simp only [ordS, orF]
    repeat' split
    all_goals omega
  rw [e]; exact h
end Go.Proofs.YtpijeomnplmakaaDoor
