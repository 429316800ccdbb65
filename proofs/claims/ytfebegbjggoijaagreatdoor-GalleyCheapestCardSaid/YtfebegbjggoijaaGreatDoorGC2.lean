/- Texts of the proof, part 2: Types, Lib1, Spec0, In, Gal1, Gal2, GalS, Eng14, Eng15, Eng16, Lib2, Gal3, GalC, Eng17, Txt, Eng19, Eng20, Cmp, Tp1, Tl1, Tr1. -/
import Derived.Test.YtfebegbjggoijaaGreatDoorProg
import Derived.KernelRfl
import Derived.Lib.SliceRun
import Derived.Test.YtfebegbjggoijaaGreatDoorRows
import Derived.Lib.SmallJoins
import Derived.Laws.CopyRow
import Derived.Laws.Externs
import Derived.Lib.Overlaps
import Derived.Test.YtfebegbjggoijaaGreatDoorGC1
/- What the program's types and functions are, as facts that the rules find by themselves: printed by gen.py off the seat's translation. -/
namespace Go.Proofs.YtfebegbjggoijaaGreatDoor
open Go.RowKit

instance : Mixed Tryz.prog := ⟨by kernel_rfl⟩
instance tu1 : TU Tryz.prog 1 (.func #[] #[] false) := ⟨Tryz.underlying1⟩
instance ts1 : TS Tryz.prog 1 (.nilFunc) 1 8 := ⟨by kernel_rfl⟩
instance tu2 : TU Tryz.prog 2 (.int .i64) := ⟨Tryz.underlying2⟩
instance ts2 : TS Tryz.prog 2 (.int .i64 0) 1 8 := ⟨by kernel_rfl⟩
instance tu3 : TU Tryz.prog 3 (.int .i64) := ⟨Tryz.underlying3⟩
instance ts3 : TS Tryz.prog 3 (.int .i64 0) 1 8 := ⟨by kernel_rfl⟩
instance tu4 : TU Tryz.prog 4 (.bool) := ⟨Tryz.underlying4⟩
instance ts4 : TS Tryz.prog 4 (.bool false) 1 1 := ⟨by kernel_rfl⟩
instance tu5 : TU Tryz.prog 5 (.int .u8) := ⟨Tryz.underlying5⟩
instance ts5 : TS Tryz.prog 5 (.int .u8 0) 1 1 := ⟨by kernel_rfl⟩
instance tu7 : TU Tryz.prog 7 (.struct #[{ name := "x", type := 2, offset := 0, embedded := false, tag := "", pkgPath := "runtime", byteOffset := 0 }, { name := "y", type := 3, offset := 1, embedded := false, tag := "", pkgPath := "runtime", byteOffset := 8 }, { name := "signed", type := 4, offset := 2, embedded := false, tag := "", pkgPath := "runtime", byteOffset := 16 }, { name := "code", type := 6, offset := 3, embedded := false, tag := "", pkgPath := "runtime", byteOffset := 17 }]) := ⟨Tryz.underlying7⟩
instance ts7 : TS Tryz.prog 7 (.agg #[.int .i64 0, .int .i64 0, .bool false, .int .u8 0]) 4 24 := ⟨by kernel_rfl⟩
instance tu9 : TU Tryz.prog 9 (.string) := ⟨Tryz.underlying9⟩
instance ts9 : TS Tryz.prog 9 (.string ⟨#[]⟩) 1 16 := ⟨by kernel_rfl⟩
instance tu12 : TU Tryz.prog 12 (.int .u64) := ⟨Tryz.underlying12⟩
instance ts12 : TS Tryz.prog 12 (.int .u64 0) 1 8 := ⟨by kernel_rfl⟩
instance tu13 : TU Tryz.prog 13 (.struct #[{ name := "msg", type := 9, offset := 0, embedded := false, tag := "", pkgPath := "runtime", byteOffset := 0 }, { name := "addr", type := 12, offset := 1, embedded := false, tag := "", pkgPath := "runtime", byteOffset := 16 }]) := ⟨Tryz.underlying13⟩
instance ts13 : TS Tryz.prog 13 (.agg #[.string ⟨#[]⟩, .int .u64 0]) 2 24 := ⟨by kernel_rfl⟩
instance tu18 : TU Tryz.prog 18 (.struct #[{ name := "typ", type := 17, offset := 0, embedded := false, tag := "", pkgPath := "internal/runtime/maps", byteOffset := 0 }]) := ⟨Tryz.underlying18⟩
instance ts18 : TS Tryz.prog 18 (.agg #[.pointer none]) 1 8 := ⟨by kernel_rfl⟩
instance tu21 : TU Tryz.prog 21 (.int .i32) := ⟨Tryz.underlying21⟩
instance ts21 : TS Tryz.prog 21 (.int .i32 0) 1 4 := ⟨by kernel_rfl⟩
instance : TSl Tryz.prog 22 37 := ⟨Tryz.underlying22⟩
instance tu22 : TU Tryz.prog 22 (.slice 37) := ⟨Tryz.underlying22⟩
instance ts22 : TS Tryz.prog 22 (.slice none 0 0) 1 24 := ⟨by kernel_rfl⟩
instance tu23 : TU Tryz.prog 23 (.struct #[{ name := "Height", type := 3, offset := 0, embedded := false, tag := "", pkgPath := "", byteOffset := 0 }, { name := "Blocks", type := 22, offset := 1, embedded := false, tag := "", pkgPath := "", byteOffset := 8 }]) := ⟨Tryz.underlying23⟩
instance ts23 : TS Tryz.prog 23 (.agg #[.int .i64 0, .slice none 0 0]) 2 32 := ⟨by kernel_rfl⟩
instance tu24 : TU Tryz.prog 24 (.struct #[{ name := "Height", type := 3, offset := 0, embedded := false, tag := "", pkgPath := "", byteOffset := 0 }, { name := "Blocks", type := 22, offset := 1, embedded := false, tag := "", pkgPath := "", byteOffset := 8 }]) := ⟨Tryz.underlying24⟩
instance ts24 : TS Tryz.prog 24 (.agg #[.int .i64 0, .slice none 0 0]) 2 32 := ⟨by kernel_rfl⟩
instance : TSl Tryz.prog 25 108 := ⟨Tryz.underlying25⟩
instance tu25 : TU Tryz.prog 25 (.slice 108) := ⟨Tryz.underlying25⟩
instance ts25 : TS Tryz.prog 25 (.slice none 0 0) 1 24 := ⟨by kernel_rfl⟩
instance tu26 : TU Tryz.prog 26 (.func #[] #[4] false) := ⟨Tryz.underlying26⟩
instance ts26 : TS Tryz.prog 26 (.nilFunc) 1 8 := ⟨by kernel_rfl⟩
instance tu27 : TU Tryz.prog 27 (.func #[24, 29] #[4] false) := ⟨Tryz.underlying27⟩
instance ts27 : TS Tryz.prog 27 (.nilFunc) 1 8 := ⟨by kernel_rfl⟩
instance tu28 : TU Tryz.prog 28 (.func #[24] #[4] false) := ⟨Tryz.underlying28⟩
instance ts28 : TS Tryz.prog 28 (.nilFunc) 1 8 := ⟨by kernel_rfl⟩
instance : TSl Tryz.prog 29 3 := ⟨Tryz.underlying29⟩
instance tu29 : TU Tryz.prog 29 (.slice 3) := ⟨Tryz.underlying29⟩
instance ts29 : TS Tryz.prog 29 (.slice none 0 0) 1 24 := ⟨by kernel_rfl⟩
instance tu30 : TU Tryz.prog 30 (.int .i64) := ⟨Tryz.underlying30⟩
instance ts30 : TS Tryz.prog 30 (.int .i64 0) 1 8 := ⟨by kernel_rfl⟩
instance tu32 : TU Tryz.prog 32 (.func #[24] #[29, 30] false) := ⟨Tryz.underlying32⟩
instance ts32 : TS Tryz.prog 32 (.nilFunc) 1 8 := ⟨by kernel_rfl⟩
instance tu34 : TU Tryz.prog 34 (.func #[24, 29, 25] #[29, 4] false) := ⟨Tryz.underlying34⟩
instance ts34 : TS Tryz.prog 34 (.nilFunc) 1 8 := ⟨by kernel_rfl⟩
instance : TSl Tryz.prog 35 29 := ⟨Tryz.underlying35⟩
instance tu35 : TU Tryz.prog 35 (.slice 29) := ⟨Tryz.underlying35⟩
instance ts35 : TS Tryz.prog 35 (.slice none 0 0) 1 24 := ⟨by kernel_rfl⟩
instance tu36 : TU Tryz.prog 36 (.struct #[{ name := "Word", type := 9, offset := 0, embedded := false, tag := "", pkgPath := "", byteOffset := 0 }, { name := "Lines", type := 3, offset := 1, embedded := false, tag := "", pkgPath := "", byteOffset := 16 }]) := ⟨Tryz.underlying36⟩
instance ts36 : TS Tryz.prog 36 (.agg #[.string ⟨#[]⟩, .int .i64 0]) 2 24 := ⟨by kernel_rfl⟩
instance tu37 : TU Tryz.prog 37 (.struct #[{ name := "Word", type := 9, offset := 0, embedded := false, tag := "", pkgPath := "", byteOffset := 0 }, { name := "Lines", type := 3, offset := 1, embedded := false, tag := "", pkgPath := "", byteOffset := 16 }]) := ⟨Tryz.underlying37⟩
instance ts37 : TS Tryz.prog 37 (.agg #[.string ⟨#[]⟩, .int .i64 0]) 2 24 := ⟨by kernel_rfl⟩
instance tu39 : TU Tryz.prog 39 (.func #[24, 29, 3] #[3, 3, 30] false) := ⟨Tryz.underlying39⟩
instance ts39 : TS Tryz.prog 39 (.nilFunc) 1 8 := ⟨by kernel_rfl⟩
instance tu40 : TU Tryz.prog 40 (.func #[24] #[3] false) := ⟨Tryz.underlying40⟩
instance ts40 : TS Tryz.prog 40 (.nilFunc) 1 8 := ⟨by kernel_rfl⟩
instance tu41 : TU Tryz.prog 41 (.func #[24, 25] #[4] false) := ⟨Tryz.underlying41⟩
instance ts41 : TS Tryz.prog 41 (.nilFunc) 1 8 := ⟨by kernel_rfl⟩
instance tu43 : TU Tryz.prog 43 (.func #[24, 29] #[3, 30] false) := ⟨Tryz.underlying43⟩
instance ts43 : TS Tryz.prog 43 (.nilFunc) 1 8 := ⟨by kernel_rfl⟩
instance tu44 : TU Tryz.prog 44 (.func #[29, 29] #[4] false) := ⟨Tryz.underlying44⟩
instance ts44 : TS Tryz.prog 44 (.nilFunc) 1 8 := ⟨by kernel_rfl⟩
instance tu46 : TU Tryz.prog 46 (.func #[24, 29, 3, 3] #[24, 29, 3, 3, 30] false) := ⟨Tryz.underlying46⟩
instance ts46 : TS Tryz.prog 46 (.nilFunc) 1 8 := ⟨by kernel_rfl⟩
instance tu47 : TU Tryz.prog 47 (.func #[24] #[24] false) := ⟨Tryz.underlying47⟩
instance ts47 : TS Tryz.prog 47 (.nilFunc) 1 8 := ⟨by kernel_rfl⟩
instance tu48 : TU Tryz.prog 48 (.func #[24, 24] #[4] false) := ⟨Tryz.underlying48⟩
instance ts48 : TS Tryz.prog 48 (.nilFunc) 1 8 := ⟨by kernel_rfl⟩
instance tu49 : TU Tryz.prog 49 (.func #[29, 29] #[4] true) := ⟨Tryz.underlying49⟩
instance ts49 : TS Tryz.prog 49 (.nilFunc) 1 8 := ⟨by kernel_rfl⟩
instance : TMap Tryz.prog 50 3 4 := ⟨Tryz.underlying50⟩
instance tu50 : TU Tryz.prog 50 (.map 3 4) := ⟨Tryz.underlying50⟩
instance ts50 : TS Tryz.prog 50 (.map none) 1 8 := ⟨by kernel_rfl⟩
instance tu51 : TU Tryz.prog 51 (.func #[24, 25, 5, 5] #[4] false) := ⟨Tryz.underlying51⟩
instance ts51 : TS Tryz.prog 51 (.nilFunc) 1 8 := ⟨by kernel_rfl⟩
instance tu52 : TU Tryz.prog 52 (.func #[25, 3] #[3] false) := ⟨Tryz.underlying52⟩
instance ts52 : TS Tryz.prog 52 (.nilFunc) 1 8 := ⟨by kernel_rfl⟩
instance tu53 : TU Tryz.prog 53 (.func #[24, 25, 5, 5, 25] #[4] false) := ⟨Tryz.underlying53⟩
instance ts53 : TS Tryz.prog 53 (.nilFunc) 1 8 := ⟨by kernel_rfl⟩
instance tu54 : TU Tryz.prog 54 (.func #[24, 37] #[4] false) := ⟨Tryz.underlying54⟩
instance ts54 : TS Tryz.prog 54 (.nilFunc) 1 8 := ⟨by kernel_rfl⟩
instance tu55 : TU Tryz.prog 55 (.func #[24, 29] #[29, 30] false) := ⟨Tryz.underlying55⟩
instance ts55 : TS Tryz.prog 55 (.nilFunc) 1 8 := ⟨by kernel_rfl⟩
instance tu56 : TU Tryz.prog 56 (.func #[24] #[3, 30] false) := ⟨Tryz.underlying56⟩
instance ts56 : TS Tryz.prog 56 (.nilFunc) 1 8 := ⟨by kernel_rfl⟩
instance tu57 : TU Tryz.prog 57 (.func #[] #[24] false) := ⟨Tryz.underlying57⟩
instance ts57 : TS Tryz.prog 57 (.nilFunc) 1 8 := ⟨by kernel_rfl⟩
instance tu58 : TU Tryz.prog 58 (.func #[29] #[29] true) := ⟨Tryz.underlying58⟩
instance ts58 : TS Tryz.prog 58 (.nilFunc) 1 8 := ⟨by kernel_rfl⟩
instance tu60 : TU Tryz.prog 60 (.func #[63, 66, 3] #[24, 30] false) := ⟨Tryz.underlying60⟩
instance ts60 : TS Tryz.prog 60 (.nilFunc) 1 8 := ⟨by kernel_rfl⟩
instance : TSl Tryz.prog 61 116 := ⟨Tryz.underlying61⟩
instance tu61 : TU Tryz.prog 61 (.slice 116) := ⟨Tryz.underlying61⟩
instance ts61 : TS Tryz.prog 61 (.slice none 0 0) 1 24 := ⟨by kernel_rfl⟩
instance tu62 : TU Tryz.prog 62 (.struct #[{ name := "Chapters", type := 61, offset := 0, embedded := false, tag := "", pkgPath := "", byteOffset := 0 }]) := ⟨Tryz.underlying62⟩
instance ts62 : TS Tryz.prog 62 (.agg #[.slice none 0 0]) 1 24 := ⟨by kernel_rfl⟩
instance tu63 : TU Tryz.prog 63 (.struct #[{ name := "Chapters", type := 61, offset := 0, embedded := false, tag := "", pkgPath := "", byteOffset := 0 }]) := ⟨Tryz.underlying63⟩
instance ts63 : TS Tryz.prog 63 (.agg #[.slice none 0 0]) 1 24 := ⟨by kernel_rfl⟩
instance tu64 : TU Tryz.prog 64 (.func #[] #[63] false) := ⟨Tryz.underlying64⟩
instance ts64 : TS Tryz.prog 64 (.nilFunc) 1 8 := ⟨by kernel_rfl⟩
instance tu65 : TU Tryz.prog 65 (.struct #[{ name := "Width", type := 3, offset := 0, embedded := false, tag := "", pkgPath := "", byteOffset := 0 }, { name := "Side", type := 5, offset := 1, embedded := false, tag := "", pkgPath := "", byteOffset := 8 }]) := ⟨Tryz.underlying65⟩
instance ts65 : TS Tryz.prog 65 (.agg #[.int .i64 0, .int .u8 0]) 2 16 := ⟨by kernel_rfl⟩
instance tu66 : TU Tryz.prog 66 (.struct #[{ name := "Width", type := 3, offset := 0, embedded := false, tag := "", pkgPath := "", byteOffset := 0 }, { name := "Side", type := 5, offset := 1, embedded := false, tag := "", pkgPath := "", byteOffset := 8 }]) := ⟨Tryz.underlying66⟩
instance ts66 : TS Tryz.prog 66 (.agg #[.int .i64 0, .int .u8 0]) 2 16 := ⟨by kernel_rfl⟩
instance tu67 : TU Tryz.prog 67 (.func #[24] #[30] false) := ⟨Tryz.underlying67⟩
instance ts67 : TS Tryz.prog 67 (.nilFunc) 1 8 := ⟨by kernel_rfl⟩
instance tu68 : TU Tryz.prog 68 (.func #[63] #[4] false) := ⟨Tryz.underlying68⟩
instance ts68 : TS Tryz.prog 68 (.nilFunc) 1 8 := ⟨by kernel_rfl⟩
instance tu69 : TU Tryz.prog 69 (.func #[63] #[3] false) := ⟨Tryz.underlying69⟩
instance ts69 : TS Tryz.prog 69 (.nilFunc) 1 8 := ⟨by kernel_rfl⟩
instance tu70 : TU Tryz.prog 70 (.func #[66] #[4] false) := ⟨Tryz.underlying70⟩
instance ts70 : TS Tryz.prog 70 (.nilFunc) 1 8 := ⟨by kernel_rfl⟩
instance : TSl Tryz.prog 71 9 := ⟨Tryz.underlying71⟩
instance tu71 : TU Tryz.prog 71 (.slice 9) := ⟨Tryz.underlying71⟩
instance ts71 : TS Tryz.prog 71 (.slice none 0 0) 1 24 := ⟨by kernel_rfl⟩
instance tu73 : TU Tryz.prog 73 (.func #[63] #[71, 30] false) := ⟨Tryz.underlying73⟩
instance ts73 : TS Tryz.prog 73 (.nilFunc) 1 8 := ⟨by kernel_rfl⟩
instance tu74 : TU Tryz.prog 74 (.func #[63] #[3, 30] false) := ⟨Tryz.underlying74⟩
instance ts74 : TS Tryz.prog 74 (.nilFunc) 1 8 := ⟨by kernel_rfl⟩
instance : TSl Tryz.prog 75 113 := ⟨Tryz.underlying75⟩
instance tu75 : TU Tryz.prog 75 (.slice 113) := ⟨Tryz.underlying75⟩
instance ts75 : TS Tryz.prog 75 (.slice none 0 0) 1 24 := ⟨by kernel_rfl⟩
instance tu77 : TU Tryz.prog 77 (.func #[63, 66] #[75, 30] false) := ⟨Tryz.underlying77⟩
instance ts77 : TS Tryz.prog 77 (.nilFunc) 1 8 := ⟨by kernel_rfl⟩
instance : TSl Tryz.prog 78 111 := ⟨Tryz.underlying78⟩
instance tu78 : TU Tryz.prog 78 (.slice 111) := ⟨Tryz.underlying78⟩
instance ts78 : TS Tryz.prog 78 (.slice none 0 0) 1 24 := ⟨by kernel_rfl⟩
instance tu80 : TU Tryz.prog 80 (.func #[63, 9] #[78, 30] false) := ⟨Tryz.underlying80⟩
instance ts80 : TS Tryz.prog 80 (.nilFunc) 1 8 := ⟨by kernel_rfl⟩
instance tu81 : TU Tryz.prog 81 (.func #[63, 66, 3] #[4] false) := ⟨Tryz.underlying81⟩
instance ts81 : TS Tryz.prog 81 (.nilFunc) 1 8 := ⟨by kernel_rfl⟩
instance tu82 : TU Tryz.prog 82 (.func #[29] #[4] false) := ⟨Tryz.underlying82⟩
instance ts82 : TS Tryz.prog 82 (.nilFunc) 1 8 := ⟨by kernel_rfl⟩
instance tu83 : TU Tryz.prog 83 (.func #[3, 3, 3] #[4] false) := ⟨Tryz.underlying83⟩
instance ts83 : TS Tryz.prog 83 (.nilFunc) 1 8 := ⟨by kernel_rfl⟩
instance tu84 : TU Tryz.prog 84 (.func #[9] #[4] false) := ⟨Tryz.underlying84⟩
instance ts84 : TS Tryz.prog 84 (.nilFunc) 1 8 := ⟨by kernel_rfl⟩
instance tu85 : TU Tryz.prog 85 (.pointer 91) := ⟨Tryz.underlying85⟩
instance ts85 : TS Tryz.prog 85 (.pointer none) 1 8 := ⟨by kernel_rfl⟩
instance tu87 : TU Tryz.prog 87 (.func #[24] #[85, 30] false) := ⟨Tryz.underlying87⟩
instance ts87 : TS Tryz.prog 87 (.nilFunc) 1 8 := ⟨by kernel_rfl⟩
instance tu89 : TU Tryz.prog 89 (.func #[3, 3] #[29, 3, 4] false) := ⟨Tryz.underlying89⟩
instance ts89 : TS Tryz.prog 89 (.nilFunc) 1 8 := ⟨by kernel_rfl⟩
instance tu90 : TU Tryz.prog 90 (.struct #[{ name := "Galley", type := 24, offset := 0, embedded := true, tag := "", pkgPath := "", byteOffset := 0 }, { name := "total", type := 3, offset := 2, embedded := false, tag := "", pkgPath := "postil/galley", byteOffset := 32 }, { name := "may", type := 50, offset := 3, embedded := false, tag := "", pkgPath := "postil/galley", byteOffset := 40 }]) := ⟨Tryz.underlying90⟩
instance ts90 : TS Tryz.prog 90 (.agg #[.int .i64 0, .slice none 0 0, .int .i64 0, .map none]) 4 48 := ⟨by kernel_rfl⟩
instance tu91 : TU Tryz.prog 91 (.struct #[{ name := "Galley", type := 24, offset := 0, embedded := true, tag := "", pkgPath := "", byteOffset := 0 }, { name := "total", type := 3, offset := 2, embedded := false, tag := "", pkgPath := "postil/galley", byteOffset := 32 }, { name := "may", type := 50, offset := 3, embedded := false, tag := "", pkgPath := "postil/galley", byteOffset := 40 }]) := ⟨Tryz.underlying91⟩
instance ts91 : TS Tryz.prog 91 (.agg #[.int .i64 0, .slice none 0 0, .int .i64 0, .map none]) 4 48 := ⟨by kernel_rfl⟩
instance tu92 : TU Tryz.prog 92 (.func #[94] #[29] false) := ⟨Tryz.underlying92⟩
instance ts92 : TS Tryz.prog 92 (.nilFunc) 1 8 := ⟨by kernel_rfl⟩
instance tu93 : TU Tryz.prog 93 (.func #[144] #[] false) := ⟨Tryz.underlying93⟩
instance ts93 : TS Tryz.prog 93 (.nilFunc) 1 8 := ⟨by kernel_rfl⟩
instance tu94 : TU Tryz.prog 94 (.func #[144] #[] false) := ⟨Tryz.underlying94⟩
instance ts94 : TS Tryz.prog 94 (.nilFunc) 1 8 := ⟨by kernel_rfl⟩
instance tu95 : TU Tryz.prog 95 (.func #[] #[94] false) := ⟨Tryz.underlying95⟩
instance ts95 : TS Tryz.prog 95 (.nilFunc) 1 8 := ⟨by kernel_rfl⟩
instance tu96 : TU Tryz.prog 96 (.func #[24, 3] #[4] false) := ⟨Tryz.underlying96⟩
instance ts96 : TS Tryz.prog 96 (.nilFunc) 1 8 := ⟨by kernel_rfl⟩
instance tu97 : TU Tryz.prog 97 (.func #[24, 29] #[85, 30] false) := ⟨Tryz.underlying97⟩
instance ts97 : TS Tryz.prog 97 (.nilFunc) 1 8 := ⟨by kernel_rfl⟩
instance tu98 : TU Tryz.prog 98 (.func #[3, 3, 29] #[4] true) := ⟨Tryz.underlying98⟩
instance ts98 : TS Tryz.prog 98 (.nilFunc) 1 8 := ⟨by kernel_rfl⟩
instance tu100 : TU Tryz.prog 100 (.func #[29, 3] #[3, 3] false) := ⟨Tryz.underlying100⟩
instance ts100 : TS Tryz.prog 100 (.nilFunc) 1 8 := ⟨by kernel_rfl⟩
instance tu101 : TU Tryz.prog 101 (.func #[29, 3] #[3] false) := ⟨Tryz.underlying101⟩
instance ts101 : TS Tryz.prog 101 (.nilFunc) 1 8 := ⟨by kernel_rfl⟩
instance : TMap Tryz.prog 102 3 3 := ⟨Tryz.underlying102⟩
instance tu102 : TU Tryz.prog 102 (.map 3 3) := ⟨Tryz.underlying102⟩
instance ts102 : TS Tryz.prog 102 (.map none) 1 8 := ⟨by kernel_rfl⟩
instance tu104 : TU Tryz.prog 104 (.func #[3, 3] #[3] false) := ⟨Tryz.underlying104⟩
instance ts104 : TS Tryz.prog 104 (.nilFunc) 1 8 := ⟨by kernel_rfl⟩
instance tu105 : TU Tryz.prog 105 (.func #[22] #[22] false) := ⟨Tryz.underlying105⟩
instance ts105 : TS Tryz.prog 105 (.nilFunc) 1 8 := ⟨by kernel_rfl⟩
instance tu106 : TU Tryz.prog 106 (.func #[24] #[85] false) := ⟨Tryz.underlying106⟩
instance ts106 : TS Tryz.prog 106 (.nilFunc) 1 8 := ⟨by kernel_rfl⟩
instance tu107 : TU Tryz.prog 107 (.func #[29] #[29] false) := ⟨Tryz.underlying107⟩
instance ts107 : TS Tryz.prog 107 (.nilFunc) 1 8 := ⟨by kernel_rfl⟩
instance tu108 : TU Tryz.prog 108 (.int .u32) := ⟨Tryz.underlying108⟩
instance ts108 : TS Tryz.prog 108 (.int .u32 0) 1 4 := ⟨by kernel_rfl⟩
instance : TMap Tryz.prog 109 9 3 := ⟨Tryz.underlying109⟩
instance tu109 : TU Tryz.prog 109 (.map 9 3) := ⟨Tryz.underlying109⟩
instance ts109 : TS Tryz.prog 109 (.map none) 1 8 := ⟨by kernel_rfl⟩
instance tu110 : TU Tryz.prog 110 (.struct #[{ name := "Chapter", type := 3, offset := 0, embedded := false, tag := "", pkgPath := "", byteOffset := 0 }, { name := "Line", type := 3, offset := 1, embedded := false, tag := "", pkgPath := "", byteOffset := 8 }, { name := "Word", type := 3, offset := 2, embedded := false, tag := "", pkgPath := "", byteOffset := 16 }]) := ⟨Tryz.underlying110⟩
instance ts110 : TS Tryz.prog 110 (.agg #[.int .i64 0, .int .i64 0, .int .i64 0]) 3 24 := ⟨by kernel_rfl⟩
instance tu111 : TU Tryz.prog 111 (.struct #[{ name := "Chapter", type := 3, offset := 0, embedded := false, tag := "", pkgPath := "", byteOffset := 0 }, { name := "Line", type := 3, offset := 1, embedded := false, tag := "", pkgPath := "", byteOffset := 8 }, { name := "Word", type := 3, offset := 2, embedded := false, tag := "", pkgPath := "", byteOffset := 16 }]) := ⟨Tryz.underlying111⟩
instance ts111 : TS Tryz.prog 111 (.agg #[.int .i64 0, .int .i64 0, .int .i64 0]) 3 24 := ⟨by kernel_rfl⟩
instance tu112 : TU Tryz.prog 112 (.struct #[{ name := "At", type := 111, offset := 0, embedded := false, tag := "", pkgPath := "", byteOffset := 0 }, { name := "Word", type := 9, offset := 3, embedded := false, tag := "", pkgPath := "", byteOffset := 24 }, { name := "Before", type := 9, offset := 4, embedded := false, tag := "", pkgPath := "", byteOffset := 40 }, { name := "After", type := 9, offset := 5, embedded := false, tag := "", pkgPath := "", byteOffset := 56 }]) := ⟨Tryz.underlying112⟩
instance ts112 : TS Tryz.prog 112 (.agg #[.int .i64 0, .int .i64 0, .int .i64 0, .string ⟨#[]⟩, .string ⟨#[]⟩, .string ⟨#[]⟩]) 6 72 := ⟨by kernel_rfl⟩
instance tu113 : TU Tryz.prog 113 (.struct #[{ name := "At", type := 111, offset := 0, embedded := false, tag := "", pkgPath := "", byteOffset := 0 }, { name := "Word", type := 9, offset := 3, embedded := false, tag := "", pkgPath := "", byteOffset := 24 }, { name := "Before", type := 9, offset := 4, embedded := false, tag := "", pkgPath := "", byteOffset := 40 }, { name := "After", type := 9, offset := 5, embedded := false, tag := "", pkgPath := "", byteOffset := 56 }]) := ⟨Tryz.underlying113⟩
instance ts113 : TS Tryz.prog 113 (.agg #[.int .i64 0, .int .i64 0, .int .i64 0, .string ⟨#[]⟩, .string ⟨#[]⟩, .string ⟨#[]⟩]) 6 72 := ⟨by kernel_rfl⟩
instance : TSl Tryz.prog 114 71 := ⟨Tryz.underlying114⟩
instance tu114 : TU Tryz.prog 114 (.slice 71) := ⟨Tryz.underlying114⟩
instance ts114 : TS Tryz.prog 114 (.slice none 0 0) 1 24 := ⟨by kernel_rfl⟩
instance tu115 : TU Tryz.prog 115 (.struct #[{ name := "Id", type := 3, offset := 0, embedded := false, tag := "", pkgPath := "", byteOffset := 0 }, { name := "Lines", type := 114, offset := 1, embedded := false, tag := "", pkgPath := "", byteOffset := 8 }]) := ⟨Tryz.underlying115⟩
instance ts115 : TS Tryz.prog 115 (.agg #[.int .i64 0, .slice none 0 0]) 2 32 := ⟨by kernel_rfl⟩
instance tu116 : TU Tryz.prog 116 (.struct #[{ name := "Id", type := 3, offset := 0, embedded := false, tag := "", pkgPath := "", byteOffset := 0 }, { name := "Lines", type := 114, offset := 1, embedded := false, tag := "", pkgPath := "", byteOffset := 8 }]) := ⟨Tryz.underlying116⟩
instance ts116 : TS Tryz.prog 116 (.agg #[.int .i64 0, .slice none 0 0]) 2 32 := ⟨by kernel_rfl⟩
instance tu117 : TU Tryz.prog 117 (.func #[22, 118] #[4] false) := ⟨Tryz.underlying117⟩
instance ts117 : TS Tryz.prog 117 (.nilFunc) 1 8 := ⟨by kernel_rfl⟩
instance tu118 : TU Tryz.prog 118 (.func #[37] #[4] false) := ⟨Tryz.underlying118⟩
instance ts118 : TS Tryz.prog 118 (.nilFunc) 1 8 := ⟨by kernel_rfl⟩
instance tu119 : TU Tryz.prog 119 (.pointer 154) := ⟨Tryz.underlying119⟩
instance ts119 : TS Tryz.prog 119 (.pointer none) 1 8 := ⟨by kernel_rfl⟩
instance tu121 : TU Tryz.prog 121 (.func #[63] #[119, 30] false) := ⟨Tryz.underlying121⟩
instance ts121 : TS Tryz.prog 121 (.nilFunc) 1 8 := ⟨by kernel_rfl⟩
instance : TMap Tryz.prog 122 9 78 := ⟨Tryz.underlying122⟩
instance tu122 : TU Tryz.prog 122 (.map 9 78) := ⟨Tryz.underlying122⟩
instance ts122 : TS Tryz.prog 122 (.map none) 1 8 := ⟨by kernel_rfl⟩
instance tu123 : TU Tryz.prog 123 (.func #[] #[122] false) := ⟨Tryz.underlying123⟩
instance ts123 : TS Tryz.prog 123 (.nilFunc) 1 8 := ⟨by kernel_rfl⟩
instance tu124 : TU Tryz.prog 124 (.func #[155] #[] false) := ⟨Tryz.underlying124⟩
instance ts124 : TS Tryz.prog 124 (.nilFunc) 1 8 := ⟨by kernel_rfl⟩
instance tu125 : TU Tryz.prog 125 (.func #[155] #[] false) := ⟨Tryz.underlying125⟩
instance ts125 : TS Tryz.prog 125 (.nilFunc) 1 8 := ⟨by kernel_rfl⟩
instance tu126 : TU Tryz.prog 126 (.func #[] #[125] false) := ⟨Tryz.underlying126⟩
instance ts126 : TS Tryz.prog 126 (.nilFunc) 1 8 := ⟨by kernel_rfl⟩
instance tu127 : TU Tryz.prog 127 (.func #[84] #[] false) := ⟨Tryz.underlying127⟩
instance ts127 : TS Tryz.prog 127 (.nilFunc) 1 8 := ⟨by kernel_rfl⟩
instance tu128 : TU Tryz.prog 128 (.func #[156, 129] #[71] false) := ⟨Tryz.underlying128⟩
instance ts128 : TS Tryz.prog 128 (.nilFunc) 1 8 := ⟨by kernel_rfl⟩
instance tu129 : TU Tryz.prog 129 (.func #[9, 9] #[3] false) := ⟨Tryz.underlying129⟩
instance ts129 : TS Tryz.prog 129 (.nilFunc) 1 8 := ⟨by kernel_rfl⟩
instance tu130 : TU Tryz.prog 130 (.func #[63, 66] #[30] false) := ⟨Tryz.underlying130⟩
instance ts130 : TS Tryz.prog 130 (.nilFunc) 1 8 := ⟨by kernel_rfl⟩
instance tu131 : TU Tryz.prog 131 (.func #[133] #[75] false) := ⟨Tryz.underlying131⟩
instance ts131 : TS Tryz.prog 131 (.nilFunc) 1 8 := ⟨by kernel_rfl⟩
instance tu132 : TU Tryz.prog 132 (.func #[159] #[] false) := ⟨Tryz.underlying132⟩
instance ts132 : TS Tryz.prog 132 (.nilFunc) 1 8 := ⟨by kernel_rfl⟩
instance tu133 : TU Tryz.prog 133 (.func #[159] #[] false) := ⟨Tryz.underlying133⟩
instance ts133 : TS Tryz.prog 133 (.nilFunc) 1 8 := ⟨by kernel_rfl⟩
instance tu134 : TU Tryz.prog 134 (.func #[63, 66] #[133] false) := ⟨Tryz.underlying134⟩
instance ts134 : TS Tryz.prog 134 (.nilFunc) 1 8 := ⟨by kernel_rfl⟩
instance tu135 : TU Tryz.prog 135 (.struct #[{ name := "cost", type := 3, offset := 0, embedded := false, tag := "", pkgPath := "postil/galley", byteOffset := 0 }, { name := "end", type := 3, offset := 1, embedded := false, tag := "", pkgPath := "postil/galley", byteOffset := 8 }]) := ⟨Tryz.underlying135⟩
instance ts135 : TS Tryz.prog 135 (.agg #[.int .i64 0, .int .i64 0]) 2 16 := ⟨by kernel_rfl⟩
instance tu136 : TU Tryz.prog 136 (.struct #[{ name := "cost", type := 3, offset := 0, embedded := false, tag := "", pkgPath := "postil/galley", byteOffset := 0 }, { name := "end", type := 3, offset := 1, embedded := false, tag := "", pkgPath := "postil/galley", byteOffset := 8 }]) := ⟨Tryz.underlying136⟩
instance ts136 : TS Tryz.prog 136 (.agg #[.int .i64 0, .int .i64 0]) 2 16 := ⟨by kernel_rfl⟩
instance : TMap Tryz.prog 137 3 136 := ⟨Tryz.underlying137⟩
instance tu137 : TU Tryz.prog 137 (.map 3 136) := ⟨Tryz.underlying137⟩
instance ts137 : TS Tryz.prog 137 (.map none) 1 8 := ⟨by kernel_rfl⟩
instance tu138 : TU Tryz.prog 138 (.func #[3] #[136] false) := ⟨Tryz.underlying138⟩
instance ts138 : TS Tryz.prog 138 (.nilFunc) 1 8 := ⟨by kernel_rfl⟩
instance : TSl Tryz.prog 140 136 := ⟨Tryz.underlying140⟩
instance tu140 : TU Tryz.prog 140 (.slice 136) := ⟨Tryz.underlying140⟩
instance ts140 : TS Tryz.prog 140 (.slice none 0 0) 1 24 := ⟨by kernel_rfl⟩
instance tu141 : TU Tryz.prog 141 (.func #[140, 142] #[136] false) := ⟨Tryz.underlying141⟩
instance ts141 : TS Tryz.prog 141 (.nilFunc) 1 8 := ⟨by kernel_rfl⟩
instance tu142 : TU Tryz.prog 142 (.func #[136, 136] #[4] false) := ⟨Tryz.underlying142⟩
instance ts142 : TS Tryz.prog 142 (.nilFunc) 1 8 := ⟨by kernel_rfl⟩
instance tu143 : TU Tryz.prog 143 (.func #[29, 94] #[29] false) := ⟨Tryz.underlying143⟩
instance ts143 : TS Tryz.prog 143 (.nilFunc) 1 8 := ⟨by kernel_rfl⟩
instance tu144 : TU Tryz.prog 144 (.func #[3] #[4] false) := ⟨Tryz.underlying144⟩
instance ts144 : TS Tryz.prog 144 (.nilFunc) 1 8 := ⟨by kernel_rfl⟩
instance tu145 : TU Tryz.prog 145 (.func #[3, 3] #[4] false) := ⟨Tryz.underlying145⟩
instance ts145 : TS Tryz.prog 145 (.nilFunc) 1 8 := ⟨by kernel_rfl⟩
instance tu146 : TU Tryz.prog 146 (.func #[29, 144] #[4] false) := ⟨Tryz.underlying146⟩
instance ts146 : TS Tryz.prog 146 (.nilFunc) 1 8 := ⟨by kernel_rfl⟩
instance tu147 : TU Tryz.prog 147 (.func #[29, 3] #[3, 4] false) := ⟨Tryz.underlying147⟩
instance ts147 : TS Tryz.prog 147 (.nilFunc) 1 8 := ⟨by kernel_rfl⟩
instance tu148 : TU Tryz.prog 148 (.func #[22, 118] #[3] false) := ⟨Tryz.underlying148⟩
instance ts148 : TS Tryz.prog 148 (.nilFunc) 1 8 := ⟨by kernel_rfl⟩
instance tu149 : TU Tryz.prog 149 (.func #[150, 151] #[4] false) := ⟨Tryz.underlying149⟩
instance ts149 : TS Tryz.prog 149 (.nilFunc) 1 8 := ⟨by kernel_rfl⟩
instance : TSl Tryz.prog 150 5 := ⟨Tryz.underlying150⟩
instance tu150 : TU Tryz.prog 150 (.slice 5) := ⟨Tryz.underlying150⟩
instance ts150 : TS Tryz.prog 150 (.slice none 0 0) 1 24 := ⟨by kernel_rfl⟩
instance tu151 : TU Tryz.prog 151 (.func #[5] #[4] false) := ⟨Tryz.underlying151⟩
instance ts151 : TS Tryz.prog 151 (.nilFunc) 1 8 := ⟨by kernel_rfl⟩
instance tu152 : TU Tryz.prog 152 (.func #[63] #[30] false) := ⟨Tryz.underlying152⟩
instance ts152 : TS Tryz.prog 152 (.nilFunc) 1 8 := ⟨by kernel_rfl⟩
instance tu153 : TU Tryz.prog 153 (.struct #[{ name := "Text", type := 63, offset := 0, embedded := true, tag := "", pkgPath := "", byteOffset := 0 }]) := ⟨Tryz.underlying153⟩
instance ts153 : TS Tryz.prog 153 (.agg #[.slice none 0 0]) 1 24 := ⟨by kernel_rfl⟩
instance tu154 : TU Tryz.prog 154 (.struct #[{ name := "Text", type := 63, offset := 0, embedded := true, tag := "", pkgPath := "", byteOffset := 0 }]) := ⟨Tryz.underlying154⟩
instance ts154 : TS Tryz.prog 154 (.agg #[.slice none 0 0]) 1 24 := ⟨by kernel_rfl⟩
instance tu155 : TU Tryz.prog 155 (.func #[111, 9] #[4] false) := ⟨Tryz.underlying155⟩
instance ts155 : TS Tryz.prog 155 (.nilFunc) 1 8 := ⟨by kernel_rfl⟩
instance tu156 : TU Tryz.prog 156 (.func #[84] #[] false) := ⟨Tryz.underlying156⟩
instance ts156 : TS Tryz.prog 156 (.nilFunc) 1 8 := ⟨by kernel_rfl⟩
instance tu157 : TU Tryz.prog 157 (.func #[66] #[30] false) := ⟨Tryz.underlying157⟩
instance ts157 : TS Tryz.prog 157 (.nilFunc) 1 8 := ⟨by kernel_rfl⟩
instance tu158 : TU Tryz.prog 158 (.func #[75, 133] #[75] false) := ⟨Tryz.underlying158⟩
instance ts158 : TS Tryz.prog 158 (.nilFunc) 1 8 := ⟨by kernel_rfl⟩
instance tu159 : TU Tryz.prog 159 (.func #[113] #[4] false) := ⟨Tryz.underlying159⟩
instance ts159 : TS Tryz.prog 159 (.nilFunc) 1 8 := ⟨by kernel_rfl⟩
instance tu160 : TU Tryz.prog 160 (.struct #[{ name := "Cut", type := 66, offset := 0, embedded := true, tag := "", pkgPath := "", byteOffset := 0 }, { name := "words", type := 71, offset := 2, embedded := false, tag := "", pkgPath := "postil/slip", byteOffset := 16 }, { name := "at", type := 78, offset := 3, embedded := false, tag := "", pkgPath := "postil/slip", byteOffset := 40 }]) := ⟨Tryz.underlying160⟩
instance ts160 : TS Tryz.prog 160 (.agg #[.int .i64 0, .int .u8 0, .slice none 0 0, .slice none 0 0]) 4 64 := ⟨by kernel_rfl⟩
instance tu161 : TU Tryz.prog 161 (.struct #[{ name := "Cut", type := 66, offset := 0, embedded := true, tag := "", pkgPath := "", byteOffset := 0 }, { name := "words", type := 71, offset := 2, embedded := false, tag := "", pkgPath := "postil/slip", byteOffset := 16 }, { name := "at", type := 78, offset := 3, embedded := false, tag := "", pkgPath := "postil/slip", byteOffset := 40 }]) := ⟨Tryz.underlying161⟩
instance ts161 : TS Tryz.prog 161 (.agg #[.int .i64 0, .int .u8 0, .slice none 0 0, .slice none 0 0]) 4 64 := ⟨by kernel_rfl⟩
instance tu162 : TU Tryz.prog 162 (.func #[63, 66, 3] #[161] false) := ⟨Tryz.underlying162⟩
instance ts162 : TS Tryz.prog 162 (.nilFunc) 1 8 := ⟨by kernel_rfl⟩
instance tu163 : TU Tryz.prog 163 (.func #[3] #[113] false) := ⟨Tryz.underlying163⟩
instance ts163 : TS Tryz.prog 163 (.nilFunc) 1 8 := ⟨by kernel_rfl⟩
instance tu164 : TU Tryz.prog 164 (.struct #[{ name := "may", type := 145, offset := 0, embedded := false, tag := "", pkgPath := "postil/galley", byteOffset := 0 }]) := ⟨Tryz.underlying164⟩
instance ts164 : TS Tryz.prog 164 (.agg #[.nilFunc]) 1 8 := ⟨by kernel_rfl⟩
instance : TArr Tryz.prog 165 2 164 := ⟨Tryz.underlying165⟩
instance tu165 : TU Tryz.prog 165 (.array 2 164) := ⟨Tryz.underlying165⟩
instance ts165 : TS Tryz.prog 165 (.agg #[.nilFunc, .nilFunc]) 2 16 := ⟨by kernel_rfl⟩
instance tu166 : TU Tryz.prog 166 (.func #[29, 144] #[3] false) := ⟨Tryz.underlying166⟩
instance ts166 : TS Tryz.prog 166 (.nilFunc) 1 8 := ⟨by kernel_rfl⟩
instance tu167 : TU Tryz.prog 167 (.int .u64) := ⟨Tryz.underlying167⟩
instance ts167 : TS Tryz.prog 167 (.int .u64 0) 1 8 := ⟨by kernel_rfl⟩
instance tu168 : TU Tryz.prog 168 (.func #[150, 151] #[3] false) := ⟨Tryz.underlying168⟩
instance ts168 : TS Tryz.prog 168 (.nilFunc) 1 8 := ⟨by kernel_rfl⟩
instance tu169 : TU Tryz.prog 169 (.func #[71, 84] #[4] false) := ⟨Tryz.underlying169⟩
instance ts169 : TS Tryz.prog 169 (.nilFunc) 1 8 := ⟨by kernel_rfl⟩
instance tu170 : TU Tryz.prog 170 (.func #[156] #[71] false) := ⟨Tryz.underlying170⟩
instance ts170 : TS Tryz.prog 170 (.nilFunc) 1 8 := ⟨by kernel_rfl⟩
instance tu171 : TU Tryz.prog 171 (.func #[71, 129] #[] false) := ⟨Tryz.underlying171⟩
instance ts171 : TS Tryz.prog 171 (.nilFunc) 1 8 := ⟨by kernel_rfl⟩
instance tu172 : TU Tryz.prog 172 (.struct #[{ name := "from", type := 3, offset := 0, embedded := false, tag := "", pkgPath := "postil/slip", byteOffset := 0 }, { name := "word", type := 3, offset := 1, embedded := false, tag := "", pkgPath := "postil/slip", byteOffset := 8 }, { name := "to", type := 3, offset := 2, embedded := false, tag := "", pkgPath := "postil/slip", byteOffset := 16 }, { name := "length", type := 3, offset := 3, embedded := false, tag := "", pkgPath := "postil/slip", byteOffset := 24 }]) := ⟨Tryz.underlying172⟩
instance ts172 : TS Tryz.prog 172 (.agg #[.int .i64 0, .int .i64 0, .int .i64 0, .int .i64 0]) 4 32 := ⟨by kernel_rfl⟩
instance tu173 : TU Tryz.prog 173 (.struct #[{ name := "from", type := 3, offset := 0, embedded := false, tag := "", pkgPath := "postil/slip", byteOffset := 0 }, { name := "word", type := 3, offset := 1, embedded := false, tag := "", pkgPath := "postil/slip", byteOffset := 8 }, { name := "to", type := 3, offset := 2, embedded := false, tag := "", pkgPath := "postil/slip", byteOffset := 16 }, { name := "length", type := 3, offset := 3, embedded := false, tag := "", pkgPath := "postil/slip", byteOffset := 24 }]) := ⟨Tryz.underlying173⟩
instance ts173 : TS Tryz.prog 173 (.agg #[.int .i64 0, .int .i64 0, .int .i64 0, .int .i64 0]) 4 32 := ⟨by kernel_rfl⟩
instance tu174 : TU Tryz.prog 174 (.func #[176, 179] #[173] false) := ⟨Tryz.underlying174⟩
instance ts174 : TS Tryz.prog 174 (.nilFunc) 1 8 := ⟨by kernel_rfl⟩
instance tu175 : TU Tryz.prog 175 (.func #[187] #[] false) := ⟨Tryz.underlying175⟩
instance ts175 : TS Tryz.prog 175 (.nilFunc) 1 8 := ⟨by kernel_rfl⟩
instance tu176 : TU Tryz.prog 176 (.func #[187] #[] false) := ⟨Tryz.underlying176⟩
instance ts176 : TS Tryz.prog 176 (.nilFunc) 1 8 := ⟨by kernel_rfl⟩
instance tu177 : TU Tryz.prog 177 (.func #[3] #[176] false) := ⟨Tryz.underlying177⟩
instance ts177 : TS Tryz.prog 177 (.nilFunc) 1 8 := ⟨by kernel_rfl⟩
instance tu178 : TU Tryz.prog 178 (.func #[29] #[3] true) := ⟨Tryz.underlying178⟩
instance ts178 : TS Tryz.prog 178 (.nilFunc) 1 8 := ⟨by kernel_rfl⟩
instance tu179 : TU Tryz.prog 179 (.func #[173, 173] #[3] false) := ⟨Tryz.underlying179⟩
instance ts179 : TS Tryz.prog 179 (.nilFunc) 1 8 := ⟨by kernel_rfl⟩
instance tu180 : TU Tryz.prog 180 (.struct #[{ name := "order", type := 179, offset := 0, embedded := false, tag := "", pkgPath := "postil/slip", byteOffset := 0 }]) := ⟨Tryz.underlying180⟩
instance ts180 : TS Tryz.prog 180 (.agg #[.nilFunc]) 1 8 := ⟨by kernel_rfl⟩
instance : TArr Tryz.prog 181 4 180 := ⟨Tryz.underlying181⟩
instance tu181 : TU Tryz.prog 181 (.array 4 180) := ⟨Tryz.underlying181⟩
instance ts181 : TS Tryz.prog 181 (.agg #[.nilFunc, .nilFunc, .nilFunc, .nilFunc]) 4 32 := ⟨by kernel_rfl⟩
instance tu182 : TU Tryz.prog 182 (.func #[71, 9] #[9] false) := ⟨Tryz.underlying182⟩
instance ts182 : TS Tryz.prog 182 (.nilFunc) 1 8 := ⟨by kernel_rfl⟩
instance tu183 : TU Tryz.prog 183 (.func #[71, 84] #[3] false) := ⟨Tryz.underlying183⟩
instance ts183 : TS Tryz.prog 183 (.nilFunc) 1 8 := ⟨by kernel_rfl⟩
instance tu184 : TU Tryz.prog 184 (.func #[71, 156] #[71] false) := ⟨Tryz.underlying184⟩
instance ts184 : TS Tryz.prog 184 (.nilFunc) 1 8 := ⟨by kernel_rfl⟩
instance tu185 : TU Tryz.prog 185 (.func #[71, 3, 3, 3, 129] #[] false) := ⟨Tryz.underlying185⟩
instance ts185 : TS Tryz.prog 185 (.nilFunc) 1 8 := ⟨by kernel_rfl⟩
instance tu186 : TU Tryz.prog 186 (.func #[167] #[3] false) := ⟨Tryz.underlying186⟩
instance ts186 : TS Tryz.prog 186 (.nilFunc) 1 8 := ⟨by kernel_rfl⟩
instance tu187 : TU Tryz.prog 187 (.func #[173] #[4] false) := ⟨Tryz.underlying187⟩
instance ts187 : TS Tryz.prog 187 (.nilFunc) 1 8 := ⟨by kernel_rfl⟩
instance tu188 : TU Tryz.prog 188 (.pointer 190) := ⟨Tryz.underlying188⟩
instance ts188 : TS Tryz.prog 188 (.pointer none) 1 8 := ⟨by kernel_rfl⟩
instance tu189 : TU Tryz.prog 189 (.struct #[{ name := "addr", type := 188, offset := 0, embedded := false, tag := "", pkgPath := "strings", byteOffset := 0 }, { name := "buf", type := 150, offset := 1, embedded := false, tag := "", pkgPath := "strings", byteOffset := 8 }]) := ⟨Tryz.underlying189⟩
instance ts189 : TS Tryz.prog 189 (.agg #[.pointer none, .slice none 0 0]) 2 32 := ⟨by kernel_rfl⟩
instance tu190 : TU Tryz.prog 190 (.struct #[{ name := "addr", type := 188, offset := 0, embedded := false, tag := "", pkgPath := "strings", byteOffset := 0 }, { name := "buf", type := 150, offset := 1, embedded := false, tag := "", pkgPath := "strings", byteOffset := 8 }]) := ⟨Tryz.underlying190⟩
instance ts190 : TS Tryz.prog 190 (.agg #[.pointer none, .slice none 0 0]) 2 32 := ⟨by kernel_rfl⟩
instance tu191 : TU Tryz.prog 191 (.func #[3] #[] false) := ⟨Tryz.underlying191⟩
instance ts191 : TS Tryz.prog 191 (.nilFunc) 1 8 := ⟨by kernel_rfl⟩
instance tu195 : TU Tryz.prog 195 (.func #[9] #[3, 193] false) := ⟨Tryz.underlying195⟩
instance ts195 : TS Tryz.prog 195 (.nilFunc) 1 8 := ⟨by kernel_rfl⟩
instance tu196 : TU Tryz.prog 196 (.func #[] #[9] false) := ⟨Tryz.underlying196⟩
instance ts196 : TS Tryz.prog 196 (.nilFunc) 1 8 := ⟨by kernel_rfl⟩
instance tu197 : TU Tryz.prog 197 (.func #[71, 3, 3, 129] #[] false) := ⟨Tryz.underlying197⟩
instance ts197 : TS Tryz.prog 197 (.nilFunc) 1 8 := ⟨by kernel_rfl⟩
instance tu198 : TU Tryz.prog 198 (.int .i64) := ⟨Tryz.underlying198⟩
instance ts198 : TS Tryz.prog 198 (.int .i64 0) 1 8 := ⟨by kernel_rfl⟩
instance tu200 : TU Tryz.prog 200 (.func #[71, 3, 3, 129] #[3, 198] false) := ⟨Tryz.underlying200⟩
instance ts200 : TS Tryz.prog 200 (.nilFunc) 1 8 := ⟨by kernel_rfl⟩
instance tu201 : TU Tryz.prog 201 (.func #[71, 3, 3, 129] #[4] false) := ⟨Tryz.underlying201⟩
instance ts201 : TS Tryz.prog 201 (.nilFunc) 1 8 := ⟨by kernel_rfl⟩
instance tu202 : TU Tryz.prog 202 (.func #[71, 3, 3, 3, 129] #[3] false) := ⟨Tryz.underlying202⟩
instance ts202 : TS Tryz.prog 202 (.nilFunc) 1 8 := ⟨by kernel_rfl⟩
instance tu203 : TU Tryz.prog 203 (.func #[71, 3, 3, 3, 129] #[3, 4] false) := ⟨Tryz.underlying203⟩
instance ts203 : TS Tryz.prog 203 (.nilFunc) 1 8 := ⟨by kernel_rfl⟩
instance tu204 : TU Tryz.prog 204 (.func #[108] #[3] false) := ⟨Tryz.underlying204⟩
instance ts204 : TS Tryz.prog 204 (.nilFunc) 1 8 := ⟨by kernel_rfl⟩
instance tu205 : TU Tryz.prog 205 (.func #[206] #[3] false) := ⟨Tryz.underlying205⟩
instance ts205 : TS Tryz.prog 205 (.nilFunc) 1 8 := ⟨by kernel_rfl⟩
instance tu206 : TU Tryz.prog 206 (.int .u64) := ⟨Tryz.underlying206⟩
instance ts206 : TS Tryz.prog 206 (.int .u64 0) 1 8 := ⟨by kernel_rfl⟩
instance tu207 : TU Tryz.prog 207 (.pointer 5) := ⟨Tryz.underlying207⟩
instance ts207 : TS Tryz.prog 207 (.pointer none) 1 8 := ⟨by kernel_rfl⟩
instance tu208 : TU Tryz.prog 208 (.int .u64) := ⟨Tryz.underlying208⟩
instance ts208 : TS Tryz.prog 208 (.int .u64 0) 1 8 := ⟨by kernel_rfl⟩
instance tu209 : TU Tryz.prog 209 (.func #[3] #[167] false) := ⟨Tryz.underlying209⟩
instance ts209 : TS Tryz.prog 209 (.nilFunc) 1 8 := ⟨by kernel_rfl⟩
instance tu210 : TU Tryz.prog 210 (.func #[] #[206] false) := ⟨Tryz.underlying210⟩
instance ts210 : TS Tryz.prog 210 (.nilFunc) 1 8 := ⟨by kernel_rfl⟩
instance tu211 : TU Tryz.prog 211 (.func #[71, 3, 212, 129] #[3] false) := ⟨Tryz.underlying211⟩
instance ts211 : TS Tryz.prog 211 (.nilFunc) 1 8 := ⟨by kernel_rfl⟩
instance tu212 : TU Tryz.prog 212 (.pointer 3) := ⟨Tryz.underlying212⟩
instance ts212 : TS Tryz.prog 212 (.pointer none) 1 8 := ⟨by kernel_rfl⟩
instance tu213 : TU Tryz.prog 213 (.func #[71, 3, 3, 3, 212, 129] #[3] false) := ⟨Tryz.underlying213⟩
instance ts213 : TS Tryz.prog 213 (.nilFunc) 1 8 := ⟨by kernel_rfl⟩
instance tu214 : TU Tryz.prog 214 (.unsafePointer) := ⟨Tryz.underlying214⟩
instance ts214 : TS Tryz.prog 214 (.pointer none) 1 8 := ⟨by kernel_rfl⟩
instance tu215 : TU Tryz.prog 215 (.func #[214] #[214] false) := ⟨Tryz.underlying215⟩
instance ts215 : TS Tryz.prog 215 (.nilFunc) 1 8 := ⟨by kernel_rfl⟩
instance tu216 : TU Tryz.prog 216 (.func #[3] #[150] false) := ⟨Tryz.underlying216⟩
instance ts216 : TS Tryz.prog 216 (.nilFunc) 1 8 := ⟨by kernel_rfl⟩
instance tu217 : TU Tryz.prog 217 (.pointer 208) := ⟨Tryz.underlying217⟩
instance ts217 : TS Tryz.prog 217 (.pointer none) 1 8 := ⟨by kernel_rfl⟩
instance tu218 : TU Tryz.prog 218 (.func #[71, 3, 3, 212, 129] #[3, 3] false) := ⟨Tryz.underlying218⟩
instance ts218 : TS Tryz.prog 218 (.nilFunc) 1 8 := ⟨by kernel_rfl⟩
instance tu219 : TU Tryz.prog 219 (.struct #[{ name := "_interface", type := 17, offset := 0, embedded := false, tag := "", pkgPath := "runtime", byteOffset := 0 }, { name := "concrete", type := 17, offset := 1, embedded := false, tag := "", pkgPath := "runtime", byteOffset := 8 }, { name := "asserted", type := 17, offset := 2, embedded := false, tag := "", pkgPath := "runtime", byteOffset := 16 }, { name := "missingMethod", type := 9, offset := 3, embedded := false, tag := "", pkgPath := "runtime", byteOffset := 24 }]) := ⟨Tryz.underlying219⟩
instance ts219 : TS Tryz.prog 219 (.agg #[.pointer none, .pointer none, .pointer none, .string ⟨#[]⟩]) 4 40 := ⟨by kernel_rfl⟩
instance : TArr Tryz.prog 221 0 16 := ⟨Tryz.underlying221⟩
instance tu221 : TU Tryz.prog 221 (.array 0 16) := ⟨Tryz.underlying221⟩
instance ts221 : TS Tryz.prog 221 (.agg #[]) 0 0 := ⟨by kernel_rfl⟩
instance tu222 : TU Tryz.prog 222 (.struct #[{ name := "_", type := 221, offset := 0, embedded := false, tag := "", pkgPath := "runtime", byteOffset := 0 }]) := ⟨Tryz.underlying222⟩
instance ts222 : TS Tryz.prog 222 (.agg #[]) 0 0 := ⟨by kernel_rfl⟩
instance tu224 : TU Tryz.prog 224 (.func #[] #[3] false) := ⟨Tryz.underlying224⟩
instance ts224 : TS Tryz.prog 224 (.nilFunc) 1 8 := ⟨by kernel_rfl⟩
instance tu227 : TU Tryz.prog 227 (.func #[214, 214] #[4] false) := ⟨Tryz.underlying227⟩
instance ts227 : TS Tryz.prog 227 (.nilFunc) 1 8 := ⟨by kernel_rfl⟩
instance tu230 : TU Tryz.prog 230 (.struct #[{ name := "Size_", type := 12, offset := 0, embedded := false, tag := "", pkgPath := "", byteOffset := 0 }, { name := "PtrBytes", type := 12, offset := 1, embedded := false, tag := "", pkgPath := "", byteOffset := 8 }, { name := "Hash", type := 108, offset := 2, embedded := false, tag := "", pkgPath := "", byteOffset := 16 }, { name := "TFlag", type := 225, offset := 3, embedded := false, tag := "", pkgPath := "", byteOffset := 20 }, { name := "Align_", type := 5, offset := 4, embedded := false, tag := "", pkgPath := "", byteOffset := 21 }, { name := "FieldAlign_", type := 5, offset := 5, embedded := false, tag := "", pkgPath := "", byteOffset := 22 }, { name := "Kind_", type := 226, offset := 6, embedded := false, tag := "", pkgPath := "", byteOffset := 23 }, { name := "Equal", type := 227, offset := 7, embedded := false, tag := "", pkgPath := "", byteOffset := 24 }, { name := "GCData", type := 207, offset := 8, embedded := false, tag := "", pkgPath := "", byteOffset := 32 }, { name := "Str", type := 228, offset := 9, embedded := false, tag := "", pkgPath := "", byteOffset := 40 }, { name := "PtrToThis", type := 229, offset := 10, embedded := false, tag := "", pkgPath := "", byteOffset := 44 }]) := ⟨Tryz.underlying230⟩
instance ts230 : TS Tryz.prog 230 (.agg #[.int .u64 0, .int .u64 0, .int .u32 0, .int .u8 0, .int .u8 0, .int .u8 0, .int .u8 0, .nilFunc, .pointer none, .int .i32 0, .int .i32 0]) 11 48 := ⟨by kernel_rfl⟩
instance : TB Tryz.prog 7 [.int .i64 0, .int .i64 0, .bool false, .int .u8 0] (fun i => ([(0, 1), (1, 1), (2, 1), (3, 1)] : List (Nat × Nat))[i]?) := TB.struct Tryz.underlying7 ts7 (by kernel_rfl)
instance : FA Tryz.prog 7 0 0 := ⟨_, _, _, _, _, Tryz.underlying7, rfl, rfl, ts2⟩
instance : FV Tryz.prog 7 0 0 := ⟨_, _, _, Tryz.underlying7, rfl, rfl, tu2, rfl⟩
instance : FA Tryz.prog 7 1 1 := ⟨_, _, _, _, _, Tryz.underlying7, rfl, rfl, ts3⟩
instance : FV Tryz.prog 7 1 1 := ⟨_, _, _, Tryz.underlying7, rfl, rfl, tu3, rfl⟩
instance : FA Tryz.prog 7 2 2 := ⟨_, _, _, _, _, Tryz.underlying7, rfl, rfl, ts4⟩
instance : FV Tryz.prog 7 2 2 := ⟨_, _, _, Tryz.underlying7, rfl, rfl, tu4, rfl⟩
instance : TB Tryz.prog 13 [.string ⟨#[]⟩, .int .u64 0] (fun i => ([(0, 1), (1, 1)] : List (Nat × Nat))[i]?) := TB.struct Tryz.underlying13 ts13 (by kernel_rfl)
instance : FA Tryz.prog 13 0 0 := ⟨_, _, _, _, _, Tryz.underlying13, rfl, rfl, ts9⟩
instance : FV Tryz.prog 13 0 0 := ⟨_, _, _, Tryz.underlying13, rfl, rfl, tu9, rfl⟩
instance : FA Tryz.prog 13 1 1 := ⟨_, _, _, _, _, Tryz.underlying13, rfl, rfl, ts12⟩
instance : FV Tryz.prog 13 1 1 := ⟨_, _, _, Tryz.underlying13, rfl, rfl, tu12, rfl⟩
instance : TB Tryz.prog 18 [.pointer none] (fun i => ([(0, 1)] : List (Nat × Nat))[i]?) := TB.struct Tryz.underlying18 ts18 (by kernel_rfl)
instance : TB Tryz.prog 23 [.int .i64 0, .slice none 0 0] (fun i => ([(0, 1), (1, 1)] : List (Nat × Nat))[i]?) := TB.struct Tryz.underlying23 ts23 (by kernel_rfl)
instance : FA Tryz.prog 23 0 0 := ⟨_, _, _, _, _, Tryz.underlying23, rfl, rfl, ts3⟩
instance : FV Tryz.prog 23 0 0 := ⟨_, _, _, Tryz.underlying23, rfl, rfl, tu3, rfl⟩
instance : FA Tryz.prog 23 1 1 := ⟨_, _, _, _, _, Tryz.underlying23, rfl, rfl, ts22⟩
instance : FV Tryz.prog 23 1 1 := ⟨_, _, _, Tryz.underlying23, rfl, rfl, tu22, rfl⟩
instance : TB Tryz.prog 24 [.int .i64 0, .slice none 0 0] (fun i => ([(0, 1), (1, 1)] : List (Nat × Nat))[i]?) := TB.struct Tryz.underlying24 ts24 (by kernel_rfl)
instance : FA Tryz.prog 24 0 0 := ⟨_, _, _, _, _, Tryz.underlying24, rfl, rfl, ts3⟩
instance : FV Tryz.prog 24 0 0 := ⟨_, _, _, Tryz.underlying24, rfl, rfl, tu3, rfl⟩
instance : FA Tryz.prog 24 1 1 := ⟨_, _, _, _, _, Tryz.underlying24, rfl, rfl, ts22⟩
instance : FV Tryz.prog 24 1 1 := ⟨_, _, _, Tryz.underlying24, rfl, rfl, tu22, rfl⟩
instance : TB Tryz.prog 36 [.string ⟨#[]⟩, .int .i64 0] (fun i => ([(0, 1), (1, 1)] : List (Nat × Nat))[i]?) := TB.struct Tryz.underlying36 ts36 (by kernel_rfl)
instance : EqT Tryz.prog 36 encSI := eqT_SI Tryz.underlying36 (by decide) rfl (by decide) rfl tu9 tu3 (by kernel_rfl) (by kernel_rfl)
instance : FA Tryz.prog 36 0 0 := ⟨_, _, _, _, _, Tryz.underlying36, rfl, rfl, ts9⟩
instance : FV Tryz.prog 36 0 0 := ⟨_, _, _, Tryz.underlying36, rfl, rfl, tu9, rfl⟩
instance : FA Tryz.prog 36 1 1 := ⟨_, _, _, _, _, Tryz.underlying36, rfl, rfl, ts3⟩
instance : FV Tryz.prog 36 1 1 := ⟨_, _, _, Tryz.underlying36, rfl, rfl, tu3, rfl⟩
instance : TB Tryz.prog 37 [.string ⟨#[]⟩, .int .i64 0] (fun i => ([(0, 1), (1, 1)] : List (Nat × Nat))[i]?) := TB.struct Tryz.underlying37 ts37 (by kernel_rfl)
instance : EqT Tryz.prog 37 encSI := eqT_SI Tryz.underlying37 (by decide) rfl (by decide) rfl tu9 tu3 (by kernel_rfl) (by kernel_rfl)
instance : FA Tryz.prog 37 0 0 := ⟨_, _, _, _, _, Tryz.underlying37, rfl, rfl, ts9⟩
instance : FV Tryz.prog 37 0 0 := ⟨_, _, _, Tryz.underlying37, rfl, rfl, tu9, rfl⟩
instance : FA Tryz.prog 37 1 1 := ⟨_, _, _, _, _, Tryz.underlying37, rfl, rfl, ts3⟩
instance : FV Tryz.prog 37 1 1 := ⟨_, _, _, Tryz.underlying37, rfl, rfl, tu3, rfl⟩
instance : TB Tryz.prog 62 [.slice none 0 0] (fun i => ([(0, 1)] : List (Nat × Nat))[i]?) := TB.struct Tryz.underlying62 ts62 (by kernel_rfl)
instance : FA Tryz.prog 62 0 0 := ⟨_, _, _, _, _, Tryz.underlying62, rfl, rfl, ts61⟩
instance : FV Tryz.prog 62 0 0 := ⟨_, _, _, Tryz.underlying62, rfl, rfl, tu61, rfl⟩
instance : TB Tryz.prog 63 [.slice none 0 0] (fun i => ([(0, 1)] : List (Nat × Nat))[i]?) := TB.struct Tryz.underlying63 ts63 (by kernel_rfl)
instance : FA Tryz.prog 63 0 0 := ⟨_, _, _, _, _, Tryz.underlying63, rfl, rfl, ts61⟩
instance : FV Tryz.prog 63 0 0 := ⟨_, _, _, Tryz.underlying63, rfl, rfl, tu61, rfl⟩
instance : TB Tryz.prog 65 [.int .i64 0, .int .u8 0] (fun i => ([(0, 1), (1, 1)] : List (Nat × Nat))[i]?) := TB.struct Tryz.underlying65 ts65 (by kernel_rfl)
instance : FA Tryz.prog 65 0 0 := ⟨_, _, _, _, _, Tryz.underlying65, rfl, rfl, ts3⟩
instance : FV Tryz.prog 65 0 0 := ⟨_, _, _, Tryz.underlying65, rfl, rfl, tu3, rfl⟩
instance : FA Tryz.prog 65 1 1 := ⟨_, _, _, _, _, Tryz.underlying65, rfl, rfl, ts5⟩
instance : FV Tryz.prog 65 1 1 := ⟨_, _, _, Tryz.underlying65, rfl, rfl, tu5, rfl⟩
instance : TB Tryz.prog 66 [.int .i64 0, .int .u8 0] (fun i => ([(0, 1), (1, 1)] : List (Nat × Nat))[i]?) := TB.struct Tryz.underlying66 ts66 (by kernel_rfl)
instance : FA Tryz.prog 66 0 0 := ⟨_, _, _, _, _, Tryz.underlying66, rfl, rfl, ts3⟩
instance : FV Tryz.prog 66 0 0 := ⟨_, _, _, Tryz.underlying66, rfl, rfl, tu3, rfl⟩
instance : FA Tryz.prog 66 1 1 := ⟨_, _, _, _, _, Tryz.underlying66, rfl, rfl, ts5⟩
instance : FV Tryz.prog 66 1 1 := ⟨_, _, _, Tryz.underlying66, rfl, rfl, tu5, rfl⟩
instance : TB Tryz.prog 90 [.int .i64 0, .slice none 0 0, .int .i64 0, .map none] (fun i => ([(0, 2), (2, 1), (3, 1)] : List (Nat × Nat))[i]?) := TB.struct Tryz.underlying90 ts90 (by kernel_rfl)
instance : FA Tryz.prog 90 0 0 := ⟨_, _, _, _, _, Tryz.underlying90, rfl, rfl, ts24⟩
instance : FA Tryz.prog 90 1 2 := ⟨_, _, _, _, _, Tryz.underlying90, rfl, rfl, ts3⟩
instance : FV Tryz.prog 90 1 2 := ⟨_, _, _, Tryz.underlying90, rfl, rfl, tu3, rfl⟩
instance : FA Tryz.prog 90 2 3 := ⟨_, _, _, _, _, Tryz.underlying90, rfl, rfl, ts50⟩
instance : FV Tryz.prog 90 2 3 := ⟨_, _, _, Tryz.underlying90, rfl, rfl, tu50, rfl⟩
instance : TB Tryz.prog 91 [.int .i64 0, .slice none 0 0, .int .i64 0, .map none] (fun i => ([(0, 2), (2, 1), (3, 1)] : List (Nat × Nat))[i]?) := TB.struct Tryz.underlying91 ts91 (by kernel_rfl)
instance : FA Tryz.prog 91 0 0 := ⟨_, _, _, _, _, Tryz.underlying91, rfl, rfl, ts24⟩
instance : FA Tryz.prog 91 1 2 := ⟨_, _, _, _, _, Tryz.underlying91, rfl, rfl, ts3⟩
instance : FV Tryz.prog 91 1 2 := ⟨_, _, _, Tryz.underlying91, rfl, rfl, tu3, rfl⟩
instance : FA Tryz.prog 91 2 3 := ⟨_, _, _, _, _, Tryz.underlying91, rfl, rfl, ts50⟩
instance : FV Tryz.prog 91 2 3 := ⟨_, _, _, Tryz.underlying91, rfl, rfl, tu50, rfl⟩
instance : TB Tryz.prog 110 [.int .i64 0, .int .i64 0, .int .i64 0] (fun i => ([(0, 1), (1, 1), (2, 1)] : List (Nat × Nat))[i]?) := TB.struct Tryz.underlying110 ts110 (by kernel_rfl)
instance : FA Tryz.prog 110 0 0 := ⟨_, _, _, _, _, Tryz.underlying110, rfl, rfl, ts3⟩
instance : FV Tryz.prog 110 0 0 := ⟨_, _, _, Tryz.underlying110, rfl, rfl, tu3, rfl⟩
instance : FA Tryz.prog 110 1 1 := ⟨_, _, _, _, _, Tryz.underlying110, rfl, rfl, ts3⟩
instance : FV Tryz.prog 110 1 1 := ⟨_, _, _, Tryz.underlying110, rfl, rfl, tu3, rfl⟩
instance : FA Tryz.prog 110 2 2 := ⟨_, _, _, _, _, Tryz.underlying110, rfl, rfl, ts3⟩
instance : FV Tryz.prog 110 2 2 := ⟨_, _, _, Tryz.underlying110, rfl, rfl, tu3, rfl⟩
instance : TB Tryz.prog 111 [.int .i64 0, .int .i64 0, .int .i64 0] (fun i => ([(0, 1), (1, 1), (2, 1)] : List (Nat × Nat))[i]?) := TB.struct Tryz.underlying111 ts111 (by kernel_rfl)
instance : FA Tryz.prog 111 0 0 := ⟨_, _, _, _, _, Tryz.underlying111, rfl, rfl, ts3⟩
instance : FV Tryz.prog 111 0 0 := ⟨_, _, _, Tryz.underlying111, rfl, rfl, tu3, rfl⟩
instance : FA Tryz.prog 111 1 1 := ⟨_, _, _, _, _, Tryz.underlying111, rfl, rfl, ts3⟩
instance : FV Tryz.prog 111 1 1 := ⟨_, _, _, Tryz.underlying111, rfl, rfl, tu3, rfl⟩
instance : FA Tryz.prog 111 2 2 := ⟨_, _, _, _, _, Tryz.underlying111, rfl, rfl, ts3⟩
instance : FV Tryz.prog 111 2 2 := ⟨_, _, _, Tryz.underlying111, rfl, rfl, tu3, rfl⟩
instance : TB Tryz.prog 112 [.int .i64 0, .int .i64 0, .int .i64 0, .string ⟨#[]⟩, .string ⟨#[]⟩, .string ⟨#[]⟩] (fun i => ([(0, 3), (3, 1), (4, 1), (5, 1)] : List (Nat × Nat))[i]?) := TB.struct Tryz.underlying112 ts112 (by kernel_rfl)
instance : FA Tryz.prog 112 0 0 := ⟨_, _, _, _, _, Tryz.underlying112, rfl, rfl, ts111⟩
instance : FA Tryz.prog 112 1 3 := ⟨_, _, _, _, _, Tryz.underlying112, rfl, rfl, ts9⟩
instance : FV Tryz.prog 112 1 3 := ⟨_, _, _, Tryz.underlying112, rfl, rfl, tu9, rfl⟩
instance : FA Tryz.prog 112 2 4 := ⟨_, _, _, _, _, Tryz.underlying112, rfl, rfl, ts9⟩
instance : FV Tryz.prog 112 2 4 := ⟨_, _, _, Tryz.underlying112, rfl, rfl, tu9, rfl⟩
instance : FA Tryz.prog 112 3 5 := ⟨_, _, _, _, _, Tryz.underlying112, rfl, rfl, ts9⟩
instance : FV Tryz.prog 112 3 5 := ⟨_, _, _, Tryz.underlying112, rfl, rfl, tu9, rfl⟩
instance : TB Tryz.prog 113 [.int .i64 0, .int .i64 0, .int .i64 0, .string ⟨#[]⟩, .string ⟨#[]⟩, .string ⟨#[]⟩] (fun i => ([(0, 3), (3, 1), (4, 1), (5, 1)] : List (Nat × Nat))[i]?) := TB.struct Tryz.underlying113 ts113 (by kernel_rfl)
instance : FA Tryz.prog 113 0 0 := ⟨_, _, _, _, _, Tryz.underlying113, rfl, rfl, ts111⟩
instance : FA Tryz.prog 113 1 3 := ⟨_, _, _, _, _, Tryz.underlying113, rfl, rfl, ts9⟩
instance : FV Tryz.prog 113 1 3 := ⟨_, _, _, Tryz.underlying113, rfl, rfl, tu9, rfl⟩
instance : FA Tryz.prog 113 2 4 := ⟨_, _, _, _, _, Tryz.underlying113, rfl, rfl, ts9⟩
instance : FV Tryz.prog 113 2 4 := ⟨_, _, _, Tryz.underlying113, rfl, rfl, tu9, rfl⟩
instance : FA Tryz.prog 113 3 5 := ⟨_, _, _, _, _, Tryz.underlying113, rfl, rfl, ts9⟩
instance : FV Tryz.prog 113 3 5 := ⟨_, _, _, Tryz.underlying113, rfl, rfl, tu9, rfl⟩
instance : TB Tryz.prog 115 [.int .i64 0, .slice none 0 0] (fun i => ([(0, 1), (1, 1)] : List (Nat × Nat))[i]?) := TB.struct Tryz.underlying115 ts115 (by kernel_rfl)
instance : FA Tryz.prog 115 0 0 := ⟨_, _, _, _, _, Tryz.underlying115, rfl, rfl, ts3⟩
instance : FV Tryz.prog 115 0 0 := ⟨_, _, _, Tryz.underlying115, rfl, rfl, tu3, rfl⟩
instance : FA Tryz.prog 115 1 1 := ⟨_, _, _, _, _, Tryz.underlying115, rfl, rfl, ts114⟩
instance : FV Tryz.prog 115 1 1 := ⟨_, _, _, Tryz.underlying115, rfl, rfl, tu114, rfl⟩
instance : TB Tryz.prog 116 [.int .i64 0, .slice none 0 0] (fun i => ([(0, 1), (1, 1)] : List (Nat × Nat))[i]?) := TB.struct Tryz.underlying116 ts116 (by kernel_rfl)
instance : FA Tryz.prog 116 0 0 := ⟨_, _, _, _, _, Tryz.underlying116, rfl, rfl, ts3⟩
instance : FV Tryz.prog 116 0 0 := ⟨_, _, _, Tryz.underlying116, rfl, rfl, tu3, rfl⟩
instance : FA Tryz.prog 116 1 1 := ⟨_, _, _, _, _, Tryz.underlying116, rfl, rfl, ts114⟩
instance : FV Tryz.prog 116 1 1 := ⟨_, _, _, Tryz.underlying116, rfl, rfl, tu114, rfl⟩
instance : TB Tryz.prog 135 [.int .i64 0, .int .i64 0] (fun i => ([(0, 1), (1, 1)] : List (Nat × Nat))[i]?) := TB.struct Tryz.underlying135 ts135 (by kernel_rfl)
instance : EqT Tryz.prog 135 encII := eqT_int2 Tryz.underlying135 (by decide) rfl (by decide) rfl tu3 tu3 (by kernel_rfl) (by kernel_rfl)
instance : FA Tryz.prog 135 0 0 := ⟨_, _, _, _, _, Tryz.underlying135, rfl, rfl, ts3⟩
instance : FV Tryz.prog 135 0 0 := ⟨_, _, _, Tryz.underlying135, rfl, rfl, tu3, rfl⟩
instance : FA Tryz.prog 135 1 1 := ⟨_, _, _, _, _, Tryz.underlying135, rfl, rfl, ts3⟩
instance : FV Tryz.prog 135 1 1 := ⟨_, _, _, Tryz.underlying135, rfl, rfl, tu3, rfl⟩
instance : TB Tryz.prog 136 [.int .i64 0, .int .i64 0] (fun i => ([(0, 1), (1, 1)] : List (Nat × Nat))[i]?) := TB.struct Tryz.underlying136 ts136 (by kernel_rfl)
instance : EqT Tryz.prog 136 encII := eqT_int2 Tryz.underlying136 (by decide) rfl (by decide) rfl tu3 tu3 (by kernel_rfl) (by kernel_rfl)
instance : FA Tryz.prog 136 0 0 := ⟨_, _, _, _, _, Tryz.underlying136, rfl, rfl, ts3⟩
instance : FV Tryz.prog 136 0 0 := ⟨_, _, _, Tryz.underlying136, rfl, rfl, tu3, rfl⟩
instance : FA Tryz.prog 136 1 1 := ⟨_, _, _, _, _, Tryz.underlying136, rfl, rfl, ts3⟩
instance : FV Tryz.prog 136 1 1 := ⟨_, _, _, Tryz.underlying136, rfl, rfl, tu3, rfl⟩
instance : TB Tryz.prog 153 [.slice none 0 0] (fun i => ([(0, 1)] : List (Nat × Nat))[i]?) := TB.struct Tryz.underlying153 ts153 (by kernel_rfl)
instance : FA Tryz.prog 153 0 0 := ⟨_, _, _, _, _, Tryz.underlying153, rfl, rfl, ts63⟩
instance : TB Tryz.prog 154 [.slice none 0 0] (fun i => ([(0, 1)] : List (Nat × Nat))[i]?) := TB.struct Tryz.underlying154 ts154 (by kernel_rfl)
instance : FA Tryz.prog 154 0 0 := ⟨_, _, _, _, _, Tryz.underlying154, rfl, rfl, ts63⟩
instance : TB Tryz.prog 160 [.int .i64 0, .int .u8 0, .slice none 0 0, .slice none 0 0] (fun i => ([(0, 2), (2, 1), (3, 1)] : List (Nat × Nat))[i]?) := TB.struct Tryz.underlying160 ts160 (by kernel_rfl)
instance : FA Tryz.prog 160 0 0 := ⟨_, _, _, _, _, Tryz.underlying160, rfl, rfl, ts66⟩
instance : FA Tryz.prog 160 1 2 := ⟨_, _, _, _, _, Tryz.underlying160, rfl, rfl, ts71⟩
instance : FV Tryz.prog 160 1 2 := ⟨_, _, _, Tryz.underlying160, rfl, rfl, tu71, rfl⟩
instance : FA Tryz.prog 160 2 3 := ⟨_, _, _, _, _, Tryz.underlying160, rfl, rfl, ts78⟩
instance : FV Tryz.prog 160 2 3 := ⟨_, _, _, Tryz.underlying160, rfl, rfl, tu78, rfl⟩
instance : TB Tryz.prog 161 [.int .i64 0, .int .u8 0, .slice none 0 0, .slice none 0 0] (fun i => ([(0, 2), (2, 1), (3, 1)] : List (Nat × Nat))[i]?) := TB.struct Tryz.underlying161 ts161 (by kernel_rfl)
instance : FA Tryz.prog 161 0 0 := ⟨_, _, _, _, _, Tryz.underlying161, rfl, rfl, ts66⟩
instance : FA Tryz.prog 161 1 2 := ⟨_, _, _, _, _, Tryz.underlying161, rfl, rfl, ts71⟩
instance : FV Tryz.prog 161 1 2 := ⟨_, _, _, Tryz.underlying161, rfl, rfl, tu71, rfl⟩
instance : FA Tryz.prog 161 2 3 := ⟨_, _, _, _, _, Tryz.underlying161, rfl, rfl, ts78⟩
instance : FV Tryz.prog 161 2 3 := ⟨_, _, _, Tryz.underlying161, rfl, rfl, tu78, rfl⟩
instance : TB Tryz.prog 164 [.nilFunc] (fun i => ([(0, 1)] : List (Nat × Nat))[i]?) := TB.struct Tryz.underlying164 ts164 (by kernel_rfl)
instance : FA Tryz.prog 164 0 0 := ⟨_, _, _, _, _, Tryz.underlying164, rfl, rfl, ts145⟩
instance : FV Tryz.prog 164 0 0 := ⟨_, _, _, Tryz.underlying164, rfl, rfl, tu145, rfl⟩
instance : TB Tryz.prog 165 [.nilFunc, .nilFunc] (fun i => some (i * 1, 1)) := TB.array Tryz.underlying165 ts165 ts164
instance : TB Tryz.prog 172 [.int .i64 0, .int .i64 0, .int .i64 0, .int .i64 0] (fun i => ([(0, 1), (1, 1), (2, 1), (3, 1)] : List (Nat × Nat))[i]?) := TB.struct Tryz.underlying172 ts172 (by kernel_rfl)
instance : FA Tryz.prog 172 0 0 := ⟨_, _, _, _, _, Tryz.underlying172, rfl, rfl, ts3⟩
instance : FV Tryz.prog 172 0 0 := ⟨_, _, _, Tryz.underlying172, rfl, rfl, tu3, rfl⟩
instance : FA Tryz.prog 172 1 1 := ⟨_, _, _, _, _, Tryz.underlying172, rfl, rfl, ts3⟩
instance : FV Tryz.prog 172 1 1 := ⟨_, _, _, Tryz.underlying172, rfl, rfl, tu3, rfl⟩
instance : FA Tryz.prog 172 2 2 := ⟨_, _, _, _, _, Tryz.underlying172, rfl, rfl, ts3⟩
instance : FV Tryz.prog 172 2 2 := ⟨_, _, _, Tryz.underlying172, rfl, rfl, tu3, rfl⟩
instance : FA Tryz.prog 172 3 3 := ⟨_, _, _, _, _, Tryz.underlying172, rfl, rfl, ts3⟩
instance : FV Tryz.prog 172 3 3 := ⟨_, _, _, Tryz.underlying172, rfl, rfl, tu3, rfl⟩
instance : TB Tryz.prog 173 [.int .i64 0, .int .i64 0, .int .i64 0, .int .i64 0] (fun i => ([(0, 1), (1, 1), (2, 1), (3, 1)] : List (Nat × Nat))[i]?) := TB.struct Tryz.underlying173 ts173 (by kernel_rfl)
instance : FA Tryz.prog 173 0 0 := ⟨_, _, _, _, _, Tryz.underlying173, rfl, rfl, ts3⟩
instance : FV Tryz.prog 173 0 0 := ⟨_, _, _, Tryz.underlying173, rfl, rfl, tu3, rfl⟩
instance : FA Tryz.prog 173 1 1 := ⟨_, _, _, _, _, Tryz.underlying173, rfl, rfl, ts3⟩
instance : FV Tryz.prog 173 1 1 := ⟨_, _, _, Tryz.underlying173, rfl, rfl, tu3, rfl⟩
instance : FA Tryz.prog 173 2 2 := ⟨_, _, _, _, _, Tryz.underlying173, rfl, rfl, ts3⟩
instance : FV Tryz.prog 173 2 2 := ⟨_, _, _, Tryz.underlying173, rfl, rfl, tu3, rfl⟩
instance : FA Tryz.prog 173 3 3 := ⟨_, _, _, _, _, Tryz.underlying173, rfl, rfl, ts3⟩
instance : FV Tryz.prog 173 3 3 := ⟨_, _, _, Tryz.underlying173, rfl, rfl, tu3, rfl⟩
instance : TB Tryz.prog 180 [.nilFunc] (fun i => ([(0, 1)] : List (Nat × Nat))[i]?) := TB.struct Tryz.underlying180 ts180 (by kernel_rfl)
instance : FA Tryz.prog 180 0 0 := ⟨_, _, _, _, _, Tryz.underlying180, rfl, rfl, ts179⟩
instance : FV Tryz.prog 180 0 0 := ⟨_, _, _, Tryz.underlying180, rfl, rfl, tu179, rfl⟩
instance : TB Tryz.prog 181 [.nilFunc, .nilFunc, .nilFunc, .nilFunc] (fun i => some (i * 1, 1)) := TB.array Tryz.underlying181 ts181 ts180
instance : TB Tryz.prog 189 [.pointer none, .slice none 0 0] (fun i => ([(0, 1), (1, 1)] : List (Nat × Nat))[i]?) := TB.struct Tryz.underlying189 ts189 (by kernel_rfl)
instance : FA Tryz.prog 189 0 0 := ⟨_, _, _, _, _, Tryz.underlying189, rfl, rfl, ts188⟩
instance : FV Tryz.prog 189 0 0 := ⟨_, _, _, Tryz.underlying189, rfl, rfl, tu188, rfl⟩
instance : FA Tryz.prog 189 1 1 := ⟨_, _, _, _, _, Tryz.underlying189, rfl, rfl, ts150⟩
instance : FV Tryz.prog 189 1 1 := ⟨_, _, _, Tryz.underlying189, rfl, rfl, tu150, rfl⟩
instance : TB Tryz.prog 190 [.pointer none, .slice none 0 0] (fun i => ([(0, 1), (1, 1)] : List (Nat × Nat))[i]?) := TB.struct Tryz.underlying190 ts190 (by kernel_rfl)
instance : FA Tryz.prog 190 0 0 := ⟨_, _, _, _, _, Tryz.underlying190, rfl, rfl, ts188⟩
instance : FV Tryz.prog 190 0 0 := ⟨_, _, _, Tryz.underlying190, rfl, rfl, tu188, rfl⟩
instance : FA Tryz.prog 190 1 1 := ⟨_, _, _, _, _, Tryz.underlying190, rfl, rfl, ts150⟩
instance : FV Tryz.prog 190 1 1 := ⟨_, _, _, Tryz.underlying190, rfl, rfl, tu150, rfl⟩
instance : TB Tryz.prog 219 [.pointer none, .pointer none, .pointer none, .string ⟨#[]⟩] (fun i => ([(0, 1), (1, 1), (2, 1), (3, 1)] : List (Nat × Nat))[i]?) := TB.struct Tryz.underlying219 ts219 (by kernel_rfl)
instance : FA Tryz.prog 219 3 3 := ⟨_, _, _, _, _, Tryz.underlying219, rfl, rfl, ts9⟩
instance : FV Tryz.prog 219 3 3 := ⟨_, _, _, Tryz.underlying219, rfl, rfl, tu9, rfl⟩
instance : TB Tryz.prog 222 [] (fun i => ([(0, 0)] : List (Nat × Nat))[i]?) := TB.struct Tryz.underlying222 ts222 (by kernel_rfl)
instance : TB Tryz.prog 230 [.int .u64 0, .int .u64 0, .int .u32 0, .int .u8 0, .int .u8 0, .int .u8 0, .int .u8 0, .nilFunc, .pointer none, .int .i32 0, .int .i32 0] (fun i => ([(0, 1), (1, 1), (2, 1), (3, 1), (4, 1), (5, 1), (6, 1), (7, 1), (8, 1), (9, 1), (10, 1)] : List (Nat × Nat))[i]?) := TB.struct Tryz.underlying230 ts230 (by kernel_rfl)
instance : FA Tryz.prog 230 0 0 := ⟨_, _, _, _, _, Tryz.underlying230, rfl, rfl, ts12⟩
instance : FV Tryz.prog 230 0 0 := ⟨_, _, _, Tryz.underlying230, rfl, rfl, tu12, rfl⟩
instance : FA Tryz.prog 230 1 1 := ⟨_, _, _, _, _, Tryz.underlying230, rfl, rfl, ts12⟩
instance : FV Tryz.prog 230 1 1 := ⟨_, _, _, Tryz.underlying230, rfl, rfl, tu12, rfl⟩
instance : FA Tryz.prog 230 2 2 := ⟨_, _, _, _, _, Tryz.underlying230, rfl, rfl, ts108⟩
instance : FV Tryz.prog 230 2 2 := ⟨_, _, _, Tryz.underlying230, rfl, rfl, tu108, rfl⟩
instance : FA Tryz.prog 230 4 4 := ⟨_, _, _, _, _, Tryz.underlying230, rfl, rfl, ts5⟩
instance : FV Tryz.prog 230 4 4 := ⟨_, _, _, Tryz.underlying230, rfl, rfl, tu5, rfl⟩
instance : FA Tryz.prog 230 5 5 := ⟨_, _, _, _, _, Tryz.underlying230, rfl, rfl, ts5⟩
instance : FV Tryz.prog 230 5 5 := ⟨_, _, _, Tryz.underlying230, rfl, rfl, tu5, rfl⟩
instance : FA Tryz.prog 230 7 7 := ⟨_, _, _, _, _, Tryz.underlying230, rfl, rfl, ts227⟩
instance : FV Tryz.prog 230 7 7 := ⟨_, _, _, Tryz.underlying230, rfl, rfl, tu227, rfl⟩
instance : FA Tryz.prog 230 8 8 := ⟨_, _, _, _, _, Tryz.underlying230, rfl, rfl, ts207⟩
instance : FV Tryz.prog 230 8 8 := ⟨_, _, _, Tryz.underlying230, rfl, rfl, tu207, rfl⟩
instance : KeyL Tryz.prog 3 (Value.int .i64) := keyL_int Tryz.underlying3
instance : KeyL Tryz.prog 9 Value.string := keyL_string Tryz.underlying9
noncomputable def c3 : Code := Tryz.f3.body.getD .skip
instance : FnI Tryz.prog 3 Tryz.f3 c3 206 := ⟨Tryz.func3, by kernel_rfl, Tryz.ntmps3⟩
instance : Enters Tryz.prog 3 := ⟨Tryz.call3⟩
noncomputable def c4 : Code := Tryz.f4.body.getD .skip
instance : FnI Tryz.prog 4 Tryz.f4 c4 224 := ⟨Tryz.func4, by kernel_rfl, Tryz.ntmps4⟩
instance : Enters Tryz.prog 4 := ⟨Tryz.call4⟩
noncomputable def c5 : Code := Tryz.f5.body.getD .skip
instance : FnI Tryz.prog 5 Tryz.f5 c5 297 := ⟨Tryz.func5, by kernel_rfl, Tryz.ntmps5⟩
instance : Enters Tryz.prog 5 := ⟨Tryz.call5⟩
noncomputable def c6 : Code := Tryz.f6.body.getD .skip
instance : FnI Tryz.prog 6 Tryz.f6 c6 255 := ⟨Tryz.func6, by kernel_rfl, Tryz.ntmps6⟩
instance : Enters Tryz.prog 6 := ⟨Tryz.call6⟩
noncomputable def c7 : Code := Tryz.f7.body.getD .skip
instance : FnI Tryz.prog 7 Tryz.f7 c7 217 := ⟨Tryz.func7, by kernel_rfl, Tryz.ntmps7⟩
instance : Enters Tryz.prog 7 := ⟨Tryz.call7⟩
noncomputable def c8 : Code := Tryz.f8.body.getD .skip
instance : FnI Tryz.prog 8 Tryz.f8 c8 155 := ⟨Tryz.func8, by kernel_rfl, Tryz.ntmps8⟩
instance : Enters Tryz.prog 8 := ⟨Tryz.call8⟩
noncomputable def c9 : Code := Tryz.f9.body.getD .skip
instance : FnI Tryz.prog 9 Tryz.f9 c9 202 := ⟨Tryz.func9, by kernel_rfl, Tryz.ntmps9⟩
instance : Enters Tryz.prog 9 := ⟨Tryz.call9⟩
noncomputable def c10 : Code := Tryz.f10.body.getD .skip
instance : FnI Tryz.prog 10 Tryz.f10 c10 188 := ⟨Tryz.func10, by kernel_rfl, Tryz.ntmps10⟩
instance : Enters Tryz.prog 10 := ⟨Tryz.call10⟩
noncomputable def c11 : Code := Tryz.f11.body.getD .skip
instance : FnI Tryz.prog 11 Tryz.f11 c11 181 := ⟨Tryz.func11, by kernel_rfl, Tryz.ntmps11⟩
instance : Enters Tryz.prog 11 := ⟨Tryz.call11⟩
noncomputable def c12 : Code := Tryz.f12.body.getD .skip
instance : FnI Tryz.prog 12 Tryz.f12 c12 11 := ⟨Tryz.func12, by kernel_rfl, Tryz.ntmps12⟩
instance : Enters Tryz.prog 12 := ⟨Tryz.call12⟩
noncomputable def c13 : Code := Tryz.f13.body.getD .skip
instance : FnI Tryz.prog 13 Tryz.f13 c13 40 := ⟨Tryz.func13, by kernel_rfl, Tryz.ntmps13⟩
instance : Enters Tryz.prog 13 := ⟨Tryz.call13⟩
noncomputable def c14 : Code := Tryz.f14.body.getD .skip
instance : FnI Tryz.prog 14 Tryz.f14 c14 28 := ⟨Tryz.func14, by kernel_rfl, Tryz.ntmps14⟩
instance : Enters Tryz.prog 14 := ⟨Tryz.call14⟩
noncomputable def c15 : Code := Tryz.f15.body.getD .skip
instance : FnI Tryz.prog 15 Tryz.f15 c15 17 := ⟨Tryz.func15, by kernel_rfl, Tryz.ntmps15⟩
instance : Enters Tryz.prog 15 := ⟨Tryz.call15⟩
noncomputable def c16 : Code := Tryz.f16.body.getD .skip
instance : FnI Tryz.prog 16 Tryz.f16 c16 64 := ⟨Tryz.func16, by kernel_rfl, Tryz.ntmps16⟩
instance : Enters Tryz.prog 16 := ⟨Tryz.call16⟩
noncomputable def c17 : Code := Tryz.f17.body.getD .skip
instance : FnI Tryz.prog 17 Tryz.f17 c17 56 := ⟨Tryz.func17, by kernel_rfl, Tryz.ntmps17⟩
instance : Enters Tryz.prog 17 := ⟨Tryz.call17⟩
noncomputable def c18 : Code := Tryz.f18.body.getD .skip
instance : FnI Tryz.prog 18 Tryz.f18 c18 36 := ⟨Tryz.func18, by kernel_rfl, Tryz.ntmps18⟩
instance : Enters Tryz.prog 18 := ⟨Tryz.call18⟩
noncomputable def c19 : Code := Tryz.f19.body.getD .skip
instance : FnI Tryz.prog 19 Tryz.f19 c19 42 := ⟨Tryz.func19, by kernel_rfl, Tryz.ntmps19⟩
instance : Enters Tryz.prog 19 := ⟨Tryz.call19⟩
noncomputable def c20 : Code := Tryz.f20.body.getD .skip
instance : FnI Tryz.prog 20 Tryz.f20 c20 19 := ⟨Tryz.func20, by kernel_rfl, Tryz.ntmps20⟩
instance : Enters Tryz.prog 20 := ⟨Tryz.call20⟩
noncomputable def c21 : Code := Tryz.f21.body.getD .skip
instance : FnI Tryz.prog 21 Tryz.f21 c21 75 := ⟨Tryz.func21, by kernel_rfl, Tryz.ntmps21⟩
instance : Enters Tryz.prog 21 := ⟨Tryz.call21⟩
noncomputable def c22 : Code := Tryz.f22.body.getD .skip
instance : FnI Tryz.prog 22 Tryz.f22 c22 36 := ⟨Tryz.func22, by kernel_rfl, Tryz.ntmps22⟩
instance : Enters Tryz.prog 22 := ⟨Tryz.call22⟩
noncomputable def c23 : Code := Tryz.f23.body.getD .skip
instance : FnI Tryz.prog 23 Tryz.f23 c23 38 := ⟨Tryz.func23, by kernel_rfl, Tryz.ntmps23⟩
instance : Enters Tryz.prog 23 := ⟨Tryz.call23⟩
noncomputable def c24 : Code := Tryz.f24.body.getD .skip
instance : FnI Tryz.prog 24 Tryz.f24 c24 126 := ⟨Tryz.func24, by kernel_rfl, Tryz.ntmps24⟩
instance : Enters Tryz.prog 24 := ⟨Tryz.call24⟩
noncomputable def c25 : Code := Tryz.f25.body.getD .skip
instance : FnI Tryz.prog 25 Tryz.f25 c25 9 := ⟨Tryz.func25, by kernel_rfl, Tryz.ntmps25⟩
instance : Enters Tryz.prog 25 := ⟨Tryz.call25⟩
noncomputable def c26 : Code := Tryz.f26.body.getD .skip
instance : FnI Tryz.prog 26 Tryz.f26 c26 38 := ⟨Tryz.func26, by kernel_rfl, Tryz.ntmps26⟩
instance : Enters Tryz.prog 26 := ⟨Tryz.call26⟩
noncomputable def c27 : Code := Tryz.f27.body.getD .skip
instance : FnI Tryz.prog 27 Tryz.f27 c27 8 := ⟨Tryz.func27, by kernel_rfl, Tryz.ntmps27⟩
instance : Enters Tryz.prog 27 := ⟨Tryz.call27⟩
noncomputable def c28 : Code := Tryz.f28.body.getD .skip
instance : FnI Tryz.prog 28 Tryz.f28 c28 16 := ⟨Tryz.func28, by kernel_rfl, Tryz.ntmps28⟩
instance : Enters Tryz.prog 28 := ⟨Tryz.call28⟩
noncomputable def c29 : Code := Tryz.f29.body.getD .skip
instance : FnI Tryz.prog 29 Tryz.f29 c29 60 := ⟨Tryz.func29, by kernel_rfl, Tryz.ntmps29⟩
instance : Enters Tryz.prog 29 := ⟨Tryz.call29⟩
noncomputable def c30 : Code := Tryz.f30.body.getD .skip
instance : FnI Tryz.prog 30 Tryz.f30 c30 18 := ⟨Tryz.func30, by kernel_rfl, Tryz.ntmps30⟩
instance : Enters Tryz.prog 30 := ⟨Tryz.call30⟩
noncomputable def c31 : Code := Tryz.f31.body.getD .skip
instance : FnI Tryz.prog 31 Tryz.f31 c31 7 := ⟨Tryz.func31, by kernel_rfl, Tryz.ntmps31⟩
instance : Enters Tryz.prog 31 := ⟨Tryz.call31⟩
noncomputable def c32 : Code := Tryz.f32.body.getD .skip
instance : FnI Tryz.prog 32 Tryz.f32 c32 4 := ⟨Tryz.func32, by kernel_rfl, Tryz.ntmps32⟩
instance : Enters Tryz.prog 32 := ⟨Tryz.call32⟩
noncomputable def c33 : Code := Tryz.f33.body.getD .skip
instance : FnI Tryz.prog 33 Tryz.f33 c33 76 := ⟨Tryz.func33, by kernel_rfl, Tryz.ntmps33⟩
instance : Enters Tryz.prog 33 := ⟨Tryz.call33⟩
noncomputable def c34 : Code := Tryz.f34.body.getD .skip
instance : FnI Tryz.prog 34 Tryz.f34 c34 10 := ⟨Tryz.func34, by kernel_rfl, Tryz.ntmps34⟩
instance : Enters Tryz.prog 34 := ⟨Tryz.call34⟩
noncomputable def c35 : Code := Tryz.f35.body.getD .skip
instance : FnI Tryz.prog 35 Tryz.f35 c35 23 := ⟨Tryz.func35, by kernel_rfl, Tryz.ntmps35⟩
instance : Enters Tryz.prog 35 := ⟨Tryz.call35⟩
noncomputable def c36 : Code := Tryz.f36.body.getD .skip
instance : FnI Tryz.prog 36 Tryz.f36 c36 75 := ⟨Tryz.func36, by kernel_rfl, Tryz.ntmps36⟩
instance : Enters Tryz.prog 36 := ⟨Tryz.call36⟩
noncomputable def c37 : Code := Tryz.f37.body.getD .skip
instance : FnI Tryz.prog 37 Tryz.f37 c37 6 := ⟨Tryz.func37, by kernel_rfl, Tryz.ntmps37⟩
instance : Enters Tryz.prog 37 := ⟨Tryz.call37⟩
noncomputable def c38 : Code := Tryz.f38.body.getD .skip
instance : FnI Tryz.prog 38 Tryz.f38 c38 12 := ⟨Tryz.func38, by kernel_rfl, Tryz.ntmps38⟩
instance : Enters Tryz.prog 38 := ⟨Tryz.call38⟩
noncomputable def c39 : Code := Tryz.f39.body.getD .skip
instance : FnI Tryz.prog 39 Tryz.f39 c39 21 := ⟨Tryz.func39, by kernel_rfl, Tryz.ntmps39⟩
instance : Enters Tryz.prog 39 := ⟨Tryz.call39⟩
noncomputable def c40 : Code := Tryz.f40.body.getD .skip
instance : FnI Tryz.prog 40 Tryz.f40 c40 22 := ⟨Tryz.func40, by kernel_rfl, Tryz.ntmps40⟩
instance : Enters Tryz.prog 40 := ⟨Tryz.call40⟩
noncomputable def c41 : Code := Tryz.f41.body.getD .skip
instance : FnI Tryz.prog 41 Tryz.f41 c41 17 := ⟨Tryz.func41, by kernel_rfl, Tryz.ntmps41⟩
instance : Enters Tryz.prog 41 := ⟨Tryz.call41⟩
noncomputable def c42 : Code := Tryz.f42.body.getD .skip
instance : FnI Tryz.prog 42 Tryz.f42 c42 23 := ⟨Tryz.func42, by kernel_rfl, Tryz.ntmps42⟩
instance : Enters Tryz.prog 42 := ⟨Tryz.call42⟩
noncomputable def c43 : Code := Tryz.f43.body.getD .skip
instance : FnI Tryz.prog 43 Tryz.f43 c43 23 := ⟨Tryz.func43, by kernel_rfl, Tryz.ntmps43⟩
instance : Enters Tryz.prog 43 := ⟨Tryz.call43⟩
noncomputable def c44 : Code := Tryz.f44.body.getD .skip
instance : FnI Tryz.prog 44 Tryz.f44 c44 6 := ⟨Tryz.func44, by kernel_rfl, Tryz.ntmps44⟩
instance : Enters Tryz.prog 44 := ⟨Tryz.call44⟩
noncomputable def c45 : Code := Tryz.f45.body.getD .skip
instance : FnI Tryz.prog 45 Tryz.f45 c45 15 := ⟨Tryz.func45, by kernel_rfl, Tryz.ntmps45⟩
instance : Enters Tryz.prog 45 := ⟨Tryz.call45⟩
noncomputable def c46 : Code := Tryz.f46.body.getD .skip
instance : FnI Tryz.prog 46 Tryz.f46 c46 23 := ⟨Tryz.func46, by kernel_rfl, Tryz.ntmps46⟩
instance : Enters Tryz.prog 46 := ⟨Tryz.call46⟩
noncomputable def c47 : Code := Tryz.f47.body.getD .skip
instance : FnI Tryz.prog 47 Tryz.f47 c47 12 := ⟨Tryz.func47, by kernel_rfl, Tryz.ntmps47⟩
instance : Enters Tryz.prog 47 := ⟨Tryz.call47⟩
noncomputable def c48 : Code := Tryz.f48.body.getD .skip
instance : FnI Tryz.prog 48 Tryz.f48 c48 41 := ⟨Tryz.func48, by kernel_rfl, Tryz.ntmps48⟩
instance : Enters Tryz.prog 48 := ⟨Tryz.call48⟩
noncomputable def c49 : Code := Tryz.f49.body.getD .skip
instance : FnI Tryz.prog 49 Tryz.f49 c49 5 := ⟨Tryz.func49, by kernel_rfl, Tryz.ntmps49⟩
instance : Enters Tryz.prog 49 := ⟨Tryz.call49⟩
noncomputable def c50 : Code := Tryz.f50.body.getD .skip
instance : FnI Tryz.prog 50 Tryz.f50 c50 4 := ⟨Tryz.func50, by kernel_rfl, Tryz.ntmps50⟩
instance : Enters Tryz.prog 50 := ⟨Tryz.call50⟩
noncomputable def c51 : Code := Tryz.f51.body.getD .skip
instance : FnI Tryz.prog 51 Tryz.f51 c51 21 := ⟨Tryz.func51, by kernel_rfl, Tryz.ntmps51⟩
instance : Enters Tryz.prog 51 := ⟨Tryz.call51⟩
noncomputable def c52 : Code := Tryz.f52.body.getD .skip
instance : FnI Tryz.prog 52 Tryz.f52 c52 53 := ⟨Tryz.func52, by kernel_rfl, Tryz.ntmps52⟩
instance : Enters Tryz.prog 52 := ⟨Tryz.call52⟩
noncomputable def c53 : Code := Tryz.f53.body.getD .skip
instance : FnI Tryz.prog 53 Tryz.f53 c53 52 := ⟨Tryz.func53, by kernel_rfl, Tryz.ntmps53⟩
instance : Enters Tryz.prog 53 := ⟨Tryz.call53⟩
noncomputable def c54 : Code := Tryz.f54.body.getD .skip
instance : FnI Tryz.prog 54 Tryz.f54 c54 11 := ⟨Tryz.func54, by kernel_rfl, Tryz.ntmps54⟩
instance : Enters Tryz.prog 54 := ⟨Tryz.call54⟩
noncomputable def c55 : Code := Tryz.f55.body.getD .skip
instance : FnI Tryz.prog 55 Tryz.f55 c55 45 := ⟨Tryz.func55, by kernel_rfl, Tryz.ntmps55⟩
instance : Enters Tryz.prog 55 := ⟨Tryz.call55⟩
noncomputable def c56 : Code := Tryz.f56.body.getD .skip
instance : FnI Tryz.prog 56 Tryz.f56 c56 15 := ⟨Tryz.func56, by kernel_rfl, Tryz.ntmps56⟩
instance : Enters Tryz.prog 56 := ⟨Tryz.call56⟩
noncomputable def c57 : Code := Tryz.f57.body.getD .skip
instance : FnI Tryz.prog 57 Tryz.f57 c57 32 := ⟨Tryz.func57, by kernel_rfl, Tryz.ntmps57⟩
instance : Enters Tryz.prog 57 := ⟨Tryz.call57⟩
noncomputable def c58 : Code := Tryz.f58.body.getD .skip
instance : FnI Tryz.prog 58 Tryz.f58 c58 8 := ⟨Tryz.func58, by kernel_rfl, Tryz.ntmps58⟩
instance : Enters Tryz.prog 58 := ⟨Tryz.call58⟩
noncomputable def c59 : Code := Tryz.f59.body.getD .skip
instance : FnI Tryz.prog 59 Tryz.f59 c59 24 := ⟨Tryz.func59, by kernel_rfl, Tryz.ntmps59⟩
instance : Enters Tryz.prog 59 := ⟨Tryz.call59⟩
noncomputable def c60 : Code := Tryz.f60.body.getD .skip
instance : FnI Tryz.prog 60 Tryz.f60 c60 8 := ⟨Tryz.func60, by kernel_rfl, Tryz.ntmps60⟩
instance : Enters Tryz.prog 60 := ⟨Tryz.call60⟩
noncomputable def c61 : Code := Tryz.f61.body.getD .skip
instance : FnI Tryz.prog 61 Tryz.f61 c61 26 := ⟨Tryz.func61, by kernel_rfl, Tryz.ntmps61⟩
instance : Enters Tryz.prog 61 := ⟨Tryz.call61⟩
noncomputable def c62 : Code := Tryz.f62.body.getD .skip
instance : FnI Tryz.prog 62 Tryz.f62 c62 9 := ⟨Tryz.func62, by kernel_rfl, Tryz.ntmps62⟩
instance : Enters Tryz.prog 62 := ⟨Tryz.call62⟩
noncomputable def c63 : Code := Tryz.f63.body.getD .skip
instance : FnI Tryz.prog 63 Tryz.f63 c63 14 := ⟨Tryz.func63, by kernel_rfl, Tryz.ntmps63⟩
instance : Enters Tryz.prog 63 := ⟨Tryz.call63⟩
noncomputable def c64 : Code := Tryz.f64.body.getD .skip
instance : FnI Tryz.prog 64 Tryz.f64 c64 13 := ⟨Tryz.func64, by kernel_rfl, Tryz.ntmps64⟩
instance : Enters Tryz.prog 64 := ⟨Tryz.call64⟩
noncomputable def c65 : Code := Tryz.f65.body.getD .skip
instance : FnI Tryz.prog 65 Tryz.f65 c65 85 := ⟨Tryz.func65, by kernel_rfl, Tryz.ntmps65⟩
instance : Enters Tryz.prog 65 := ⟨Tryz.call65⟩
noncomputable def c66 : Code := Tryz.f66.body.getD .skip
instance : FnI Tryz.prog 66 Tryz.f66 c66 15 := ⟨Tryz.func66, by kernel_rfl, Tryz.ntmps66⟩
instance : Enters Tryz.prog 66 := ⟨Tryz.call66⟩
noncomputable def c67 : Code := Tryz.f67.body.getD .skip
instance : FnI Tryz.prog 67 Tryz.f67 c67 13 := ⟨Tryz.func67, by kernel_rfl, Tryz.ntmps67⟩
instance : Enters Tryz.prog 67 := ⟨Tryz.call67⟩
noncomputable def c68 : Code := Tryz.f68.body.getD .skip
instance : FnI Tryz.prog 68 Tryz.f68 c68 20 := ⟨Tryz.func68, by kernel_rfl, Tryz.ntmps68⟩
instance : Enters Tryz.prog 68 := ⟨Tryz.call68⟩
noncomputable def c69 : Code := Tryz.f69.body.getD .skip
instance : FnI Tryz.prog 69 Tryz.f69 c69 21 := ⟨Tryz.func69, by kernel_rfl, Tryz.ntmps69⟩
instance : Enters Tryz.prog 69 := ⟨Tryz.call69⟩
noncomputable def c70 : Code := Tryz.f70.body.getD .skip
instance : FnI Tryz.prog 70 Tryz.f70 c70 4 := ⟨Tryz.func70, by kernel_rfl, Tryz.ntmps70⟩
instance : Enters Tryz.prog 70 := ⟨Tryz.call70⟩
noncomputable def c71 : Code := Tryz.f71.body.getD .skip
instance : FnI Tryz.prog 71 Tryz.f71 c71 8 := ⟨Tryz.func71, by kernel_rfl, Tryz.ntmps71⟩
instance : Enters Tryz.prog 71 := ⟨Tryz.call71⟩
noncomputable def c72 : Code := Tryz.f72.body.getD .skip
instance : FnI Tryz.prog 72 Tryz.f72 c72 20 := ⟨Tryz.func72, by kernel_rfl, Tryz.ntmps72⟩
instance : Enters Tryz.prog 72 := ⟨Tryz.call72⟩
noncomputable def c73 : Code := Tryz.f73.body.getD .skip
instance : FnI Tryz.prog 73 Tryz.f73 c73 13 := ⟨Tryz.func73, by kernel_rfl, Tryz.ntmps73⟩
instance : Enters Tryz.prog 73 := ⟨Tryz.call73⟩
noncomputable def c74 : Code := Tryz.f74.body.getD .skip
instance : FnI Tryz.prog 74 Tryz.f74 c74 5 := ⟨Tryz.func74, by kernel_rfl, Tryz.ntmps74⟩
instance : Enters Tryz.prog 74 := ⟨Tryz.call74⟩
noncomputable def c75 : Code := Tryz.f75.body.getD .skip
instance : FnI Tryz.prog 75 Tryz.f75 c75 6 := ⟨Tryz.func75, by kernel_rfl, Tryz.ntmps75⟩
instance : Enters Tryz.prog 75 := ⟨Tryz.call75⟩
noncomputable def c76 : Code := Tryz.f76.body.getD .skip
instance : FnI Tryz.prog 76 Tryz.f76 c76 13 := ⟨Tryz.func76, by kernel_rfl, Tryz.ntmps76⟩
instance : Enters Tryz.prog 76 := ⟨Tryz.call76⟩
noncomputable def c77 : Code := Tryz.f77.body.getD .skip
instance : FnI Tryz.prog 77 Tryz.f77 c77 15 := ⟨Tryz.func77, by kernel_rfl, Tryz.ntmps77⟩
instance : Enters Tryz.prog 77 := ⟨Tryz.call77⟩
noncomputable def c78 : Code := Tryz.f78.body.getD .skip
instance : FnI Tryz.prog 78 Tryz.f78 c78 69 := ⟨Tryz.func78, by kernel_rfl, Tryz.ntmps78⟩
instance : Enters Tryz.prog 78 := ⟨Tryz.call78⟩
noncomputable def c79 : Code := Tryz.f79.body.getD .skip
instance : FnI Tryz.prog 79 Tryz.f79 c79 24 := ⟨Tryz.func79, by kernel_rfl, Tryz.ntmps79⟩
instance : Enters Tryz.prog 79 := ⟨Tryz.call79⟩
noncomputable def c80 : Code := Tryz.f80.body.getD .skip
instance : FnI Tryz.prog 80 Tryz.f80 c80 20 := ⟨Tryz.func80, by kernel_rfl, Tryz.ntmps80⟩
instance : Enters Tryz.prog 80 := ⟨Tryz.call80⟩
noncomputable def c81 : Code := Tryz.f81.body.getD .skip
instance : FnI Tryz.prog 81 Tryz.f81 c81 13 := ⟨Tryz.func81, by kernel_rfl, Tryz.ntmps81⟩
instance : Enters Tryz.prog 81 := ⟨Tryz.call81⟩
noncomputable def c82 : Code := Tryz.f82.body.getD .skip
instance : FnI Tryz.prog 82 Tryz.f82 c82 51 := ⟨Tryz.func82, by kernel_rfl, Tryz.ntmps82⟩
instance : Enters Tryz.prog 82 := ⟨Tryz.call82⟩
noncomputable def c83 : Code := Tryz.f83.body.getD .skip
instance : FnI Tryz.prog 83 Tryz.f83 c83 18 := ⟨Tryz.func83, by kernel_rfl, Tryz.ntmps83⟩
instance : Enters Tryz.prog 83 := ⟨Tryz.call83⟩
noncomputable def c84 : Code := Tryz.f84.body.getD .skip
instance : FnI Tryz.prog 84 Tryz.f84 c84 9 := ⟨Tryz.func84, by kernel_rfl, Tryz.ntmps84⟩
instance : Enters Tryz.prog 84 := ⟨Tryz.call84⟩
noncomputable def c85 : Code := Tryz.f85.body.getD .skip
instance : FnI Tryz.prog 85 Tryz.f85 c85 13 := ⟨Tryz.func85, by kernel_rfl, Tryz.ntmps85⟩
instance : Enters Tryz.prog 85 := ⟨Tryz.call85⟩
noncomputable def c86 : Code := Tryz.f86.body.getD .skip
instance : FnI Tryz.prog 86 Tryz.f86 c86 54 := ⟨Tryz.func86, by kernel_rfl, Tryz.ntmps86⟩
instance : Enters Tryz.prog 86 := ⟨Tryz.call86⟩
noncomputable def c87 : Code := Tryz.f87.body.getD .skip
instance : FnI Tryz.prog 87 Tryz.f87 c87 19 := ⟨Tryz.func87, by kernel_rfl, Tryz.ntmps87⟩
instance : Enters Tryz.prog 87 := ⟨Tryz.call87⟩
noncomputable def c88 : Code := Tryz.f88.body.getD .skip
instance : FnI Tryz.prog 88 Tryz.f88 c88 9 := ⟨Tryz.func88, by kernel_rfl, Tryz.ntmps88⟩
instance : Enters Tryz.prog 88 := ⟨Tryz.call88⟩
noncomputable def c89 : Code := Tryz.f89.body.getD .skip
instance : FnI Tryz.prog 89 Tryz.f89 c89 9 := ⟨Tryz.func89, by kernel_rfl, Tryz.ntmps89⟩
instance : Enters Tryz.prog 89 := ⟨Tryz.call89⟩
noncomputable def c90 : Code := Tryz.f90.body.getD .skip
instance : FnI Tryz.prog 90 Tryz.f90 c90 64 := ⟨Tryz.func90, by kernel_rfl, Tryz.ntmps90⟩
instance : Enters Tryz.prog 90 := ⟨Tryz.call90⟩
noncomputable def c91 : Code := Tryz.f91.body.getD .skip
instance : FnI Tryz.prog 91 Tryz.f91 c91 46 := ⟨Tryz.func91, by kernel_rfl, Tryz.ntmps91⟩
instance : Enters Tryz.prog 91 := ⟨Tryz.call91⟩
noncomputable def c92 : Code := Tryz.f92.body.getD .skip
instance : FnI Tryz.prog 92 Tryz.f92 c92 12 := ⟨Tryz.func92, by kernel_rfl, Tryz.ntmps92⟩
instance : Enters Tryz.prog 92 := ⟨Tryz.call92⟩
noncomputable def c93 : Code := Tryz.f93.body.getD .skip
instance : FnI Tryz.prog 93 Tryz.f93 c93 6 := ⟨Tryz.func93, by kernel_rfl, Tryz.ntmps93⟩
instance : Enters Tryz.prog 93 := ⟨Tryz.call93⟩
noncomputable def c94 : Code := Tryz.f94.body.getD .skip
instance : FnI Tryz.prog 94 Tryz.f94 c94 16 := ⟨Tryz.func94, by kernel_rfl, Tryz.ntmps94⟩
instance : Enters Tryz.prog 94 := ⟨Tryz.call94⟩
noncomputable def c95 : Code := Tryz.f95.body.getD .skip
instance : FnI Tryz.prog 95 Tryz.f95 c95 13 := ⟨Tryz.func95, by kernel_rfl, Tryz.ntmps95⟩
instance : Enters Tryz.prog 95 := ⟨Tryz.call95⟩
noncomputable def c96 : Code := Tryz.f96.body.getD .skip
instance : FnI Tryz.prog 96 Tryz.f96 c96 31 := ⟨Tryz.func96, by kernel_rfl, Tryz.ntmps96⟩
instance : Enters Tryz.prog 96 := ⟨Tryz.call96⟩
noncomputable def c97 : Code := Tryz.f97.body.getD .skip
instance : FnI Tryz.prog 97 Tryz.f97 c97 51 := ⟨Tryz.func97, by kernel_rfl, Tryz.ntmps97⟩
instance : Enters Tryz.prog 97 := ⟨Tryz.call97⟩
noncomputable def c98 : Code := Tryz.f98.body.getD .skip
instance : FnI Tryz.prog 98 Tryz.f98 c98 38 := ⟨Tryz.func98, by kernel_rfl, Tryz.ntmps98⟩
instance : Enters Tryz.prog 98 := ⟨Tryz.call98⟩
noncomputable def c99 : Code := Tryz.f99.body.getD .skip
instance : FnI Tryz.prog 99 Tryz.f99 c99 11 := ⟨Tryz.func99, by kernel_rfl, Tryz.ntmps99⟩
instance : Enters Tryz.prog 99 := ⟨Tryz.call99⟩
noncomputable def c100 : Code := Tryz.f100.body.getD .skip
instance : FnI Tryz.prog 100 Tryz.f100 c100 9 := ⟨Tryz.func100, by kernel_rfl, Tryz.ntmps100⟩
instance : Enters Tryz.prog 100 := ⟨Tryz.call100⟩
noncomputable def c101 : Code := Tryz.f101.body.getD .skip
instance : FnI Tryz.prog 101 Tryz.f101 c101 19 := ⟨Tryz.func101, by kernel_rfl, Tryz.ntmps101⟩
instance : Enters Tryz.prog 101 := ⟨Tryz.call101⟩
noncomputable def c102 : Code := Tryz.f102.body.getD .skip
instance : FnI Tryz.prog 102 Tryz.f102 c102 17 := ⟨Tryz.func102, by kernel_rfl, Tryz.ntmps102⟩
instance : Enters Tryz.prog 102 := ⟨Tryz.call102⟩
noncomputable def c103 : Code := Tryz.f103.body.getD .skip
instance : FnI Tryz.prog 103 Tryz.f103 c103 6 := ⟨Tryz.func103, by kernel_rfl, Tryz.ntmps103⟩
instance : Enters Tryz.prog 103 := ⟨Tryz.call103⟩
noncomputable def c104 : Code := Tryz.f104.body.getD .skip
instance : FnI Tryz.prog 104 Tryz.f104 c104 19 := ⟨Tryz.func104, by kernel_rfl, Tryz.ntmps104⟩
instance : Enters Tryz.prog 104 := ⟨Tryz.call104⟩
noncomputable def c105 : Code := Tryz.f105.body.getD .skip
instance : FnI Tryz.prog 105 Tryz.f105 c105 9 := ⟨Tryz.func105, by kernel_rfl, Tryz.ntmps105⟩
instance : Enters Tryz.prog 105 := ⟨Tryz.call105⟩
noncomputable def c106 : Code := Tryz.f106.body.getD .skip
instance : FnI Tryz.prog 106 Tryz.f106 c106 6 := ⟨Tryz.func106, by kernel_rfl, Tryz.ntmps106⟩
instance : Enters Tryz.prog 106 := ⟨Tryz.call106⟩
noncomputable def c107 : Code := Tryz.f107.body.getD .skip
instance : FnI Tryz.prog 107 Tryz.f107 c107 5 := ⟨Tryz.func107, by kernel_rfl, Tryz.ntmps107⟩
instance : Enters Tryz.prog 107 := ⟨Tryz.call107⟩
noncomputable def c108 : Code := Tryz.f108.body.getD .skip
instance : FnI Tryz.prog 108 Tryz.f108 c108 14 := ⟨Tryz.func108, by kernel_rfl, Tryz.ntmps108⟩
instance : Enters Tryz.prog 108 := ⟨Tryz.call108⟩
noncomputable def c109 : Code := Tryz.f109.body.getD .skip
instance : FnI Tryz.prog 109 Tryz.f109 c109 11 := ⟨Tryz.func109, by kernel_rfl, Tryz.ntmps109⟩
instance : Enters Tryz.prog 109 := ⟨Tryz.call109⟩
noncomputable def c110 : Code := Tryz.f110.body.getD .skip
instance : FnI Tryz.prog 110 Tryz.f110 c110 21 := ⟨Tryz.func110, by kernel_rfl, Tryz.ntmps110⟩
instance : Enters Tryz.prog 110 := ⟨Tryz.call110⟩
noncomputable def c111 : Code := Tryz.f111.body.getD .skip
instance : FnI Tryz.prog 111 Tryz.f111 c111 6 := ⟨Tryz.func111, by kernel_rfl, Tryz.ntmps111⟩
instance : Enters Tryz.prog 111 := ⟨Tryz.call111⟩
noncomputable def c112 : Code := Tryz.f112.body.getD .skip
instance : FnI Tryz.prog 112 Tryz.f112 c112 22 := ⟨Tryz.func112, by kernel_rfl, Tryz.ntmps112⟩
instance : Enters Tryz.prog 112 := ⟨Tryz.call112⟩
noncomputable def c113 : Code := Tryz.f113.body.getD .skip
instance : FnI Tryz.prog 113 Tryz.f113 c113 18 := ⟨Tryz.func113, by kernel_rfl, Tryz.ntmps113⟩
instance : Enters Tryz.prog 113 := ⟨Tryz.call113⟩
noncomputable def c114 : Code := Tryz.f114.body.getD .skip
instance : FnI Tryz.prog 114 Tryz.f114 c114 75 := ⟨Tryz.func114, by kernel_rfl, Tryz.ntmps114⟩
instance : Enters Tryz.prog 114 := ⟨Tryz.call114⟩
noncomputable def c115 : Code := Tryz.f115.body.getD .skip
instance : FnI Tryz.prog 115 Tryz.f115 c115 13 := ⟨Tryz.func115, by kernel_rfl, Tryz.ntmps115⟩
instance : Enters Tryz.prog 115 := ⟨Tryz.call115⟩
noncomputable def c116 : Code := Tryz.f116.body.getD .skip
instance : FnI Tryz.prog 116 Tryz.f116 c116 6 := ⟨Tryz.func116, by kernel_rfl, Tryz.ntmps116⟩
instance : Enters Tryz.prog 116 := ⟨Tryz.call116⟩
noncomputable def c117 : Code := Tryz.f117.body.getD .skip
instance : FnI Tryz.prog 117 Tryz.f117 c117 19 := ⟨Tryz.func117, by kernel_rfl, Tryz.ntmps117⟩
instance : Enters Tryz.prog 117 := ⟨Tryz.call117⟩
noncomputable def c118 : Code := Tryz.f118.body.getD .skip
instance : FnI Tryz.prog 118 Tryz.f118 c118 13 := ⟨Tryz.func118, by kernel_rfl, Tryz.ntmps118⟩
instance : Enters Tryz.prog 118 := ⟨Tryz.call118⟩
noncomputable def c119 : Code := Tryz.f119.body.getD .skip
instance : FnI Tryz.prog 119 Tryz.f119 c119 148 := ⟨Tryz.func119, by kernel_rfl, Tryz.ntmps119⟩
instance : Enters Tryz.prog 119 := ⟨Tryz.call119⟩
noncomputable def c120 : Code := Tryz.f120.body.getD .skip
instance : FnI Tryz.prog 120 Tryz.f120 c120 8 := ⟨Tryz.func120, by kernel_rfl, Tryz.ntmps120⟩
instance : Enters Tryz.prog 120 := ⟨Tryz.call120⟩
noncomputable def c121 : Code := Tryz.f121.body.getD .skip
instance : FnI Tryz.prog 121 Tryz.f121 c121 13 := ⟨Tryz.func121, by kernel_rfl, Tryz.ntmps121⟩
instance : Enters Tryz.prog 121 := ⟨Tryz.call121⟩
noncomputable def c122 : Code := Tryz.f122.body.getD .skip
instance : FnI Tryz.prog 122 Tryz.f122 c122 61 := ⟨Tryz.func122, by kernel_rfl, Tryz.ntmps122⟩
instance : Enters Tryz.prog 122 := ⟨Tryz.call122⟩
noncomputable def c123 : Code := Tryz.f123.body.getD .skip
instance : FnI Tryz.prog 123 Tryz.f123 c123 25 := ⟨Tryz.func123, by kernel_rfl, Tryz.ntmps123⟩
instance : Enters Tryz.prog 123 := ⟨Tryz.call123⟩
noncomputable def c124 : Code := Tryz.f124.body.getD .skip
instance : FnI Tryz.prog 124 Tryz.f124 c124 19 := ⟨Tryz.func124, by kernel_rfl, Tryz.ntmps124⟩
instance : Enters Tryz.prog 124 := ⟨Tryz.call124⟩
noncomputable def c125 : Code := Tryz.f125.body.getD .skip
instance : FnI Tryz.prog 125 Tryz.f125 c125 14 := ⟨Tryz.func125, by kernel_rfl, Tryz.ntmps125⟩
instance : Enters Tryz.prog 125 := ⟨Tryz.call125⟩
noncomputable def c126 : Code := Tryz.f126.body.getD .skip
instance : FnI Tryz.prog 126 Tryz.f126 c126 53 := ⟨Tryz.func126, by kernel_rfl, Tryz.ntmps126⟩
instance : Enters Tryz.prog 126 := ⟨Tryz.call126⟩
noncomputable def c127 : Code := Tryz.f127.body.getD .skip
instance : FnI Tryz.prog 127 Tryz.f127 c127 60 := ⟨Tryz.func127, by kernel_rfl, Tryz.ntmps127⟩
instance : Enters Tryz.prog 127 := ⟨Tryz.call127⟩
noncomputable def c128 : Code := Tryz.f128.body.getD .skip
instance : FnI Tryz.prog 128 Tryz.f128 c128 67 := ⟨Tryz.func128, by kernel_rfl, Tryz.ntmps128⟩
instance : Enters Tryz.prog 128 := ⟨Tryz.call128⟩
noncomputable def c129 : Code := Tryz.f129.body.getD .skip
instance : FnI Tryz.prog 129 Tryz.f129 c129 63 := ⟨Tryz.func129, by kernel_rfl, Tryz.ntmps129⟩
instance : Enters Tryz.prog 129 := ⟨Tryz.call129⟩
noncomputable def c130 : Code := Tryz.f130.body.getD .skip
instance : FnI Tryz.prog 130 Tryz.f130 c130 34 := ⟨Tryz.func130, by kernel_rfl, Tryz.ntmps130⟩
instance : Enters Tryz.prog 130 := ⟨Tryz.call130⟩
noncomputable def c131 : Code := Tryz.f131.body.getD .skip
instance : FnI Tryz.prog 131 Tryz.f131 c131 141 := ⟨Tryz.func131, by kernel_rfl, Tryz.ntmps131⟩
instance : Enters Tryz.prog 131 := ⟨Tryz.call131⟩
noncomputable def c132 : Code := Tryz.f132.body.getD .skip
instance : FnI Tryz.prog 132 Tryz.f132 c132 90 := ⟨Tryz.func132, by kernel_rfl, Tryz.ntmps132⟩
instance : Enters Tryz.prog 132 := ⟨Tryz.call132⟩
noncomputable def c133 : Code := Tryz.f133.body.getD .skip
instance : FnI Tryz.prog 133 Tryz.f133 c133 178 := ⟨Tryz.func133, by kernel_rfl, Tryz.ntmps133⟩
instance : Enters Tryz.prog 133 := ⟨Tryz.call133⟩
noncomputable def c134 : Code := Tryz.f134.body.getD .skip
instance : FnI Tryz.prog 134 Tryz.f134 c134 19 := ⟨Tryz.func134, by kernel_rfl, Tryz.ntmps134⟩
instance : Enters Tryz.prog 134 := ⟨Tryz.call134⟩
noncomputable def c135 : Code := Tryz.f135.body.getD .skip
instance : FnI Tryz.prog 135 Tryz.f135 c135 25 := ⟨Tryz.func135, by kernel_rfl, Tryz.ntmps135⟩
instance : Enters Tryz.prog 135 := ⟨Tryz.call135⟩
noncomputable def c136 : Code := Tryz.f136.body.getD .skip
instance : FnI Tryz.prog 136 Tryz.f136 c136 20 := ⟨Tryz.func136, by kernel_rfl, Tryz.ntmps136⟩
instance : Enters Tryz.prog 136 := ⟨Tryz.call136⟩
noncomputable def c137 : Code := Tryz.f137.body.getD .skip
instance : FnI Tryz.prog 137 Tryz.f137 c137 30 := ⟨Tryz.func137, by kernel_rfl, Tryz.ntmps137⟩
instance : Enters Tryz.prog 137 := ⟨Tryz.call137⟩
noncomputable def c138 : Code := Tryz.f138.body.getD .skip
instance : FnI Tryz.prog 138 Tryz.f138 c138 82 := ⟨Tryz.func138, by kernel_rfl, Tryz.ntmps138⟩
instance : Enters Tryz.prog 138 := ⟨Tryz.call138⟩
noncomputable def c139 : Code := Tryz.f139.body.getD .skip
instance : FnI Tryz.prog 139 Tryz.f139 c139 7 := ⟨Tryz.func139, by kernel_rfl, Tryz.ntmps139⟩
instance : Enters Tryz.prog 139 := ⟨Tryz.call139⟩
noncomputable def c141 : Code := Tryz.f141.body.getD .skip
instance : FnI Tryz.prog 141 Tryz.f141 c141 18 := ⟨Tryz.func141, by kernel_rfl, Tryz.ntmps141⟩
instance : Enters Tryz.prog 141 := ⟨Tryz.call141⟩
noncomputable def c142 : Code := Tryz.f142.body.getD .skip
instance : FnI Tryz.prog 142 Tryz.f142 c142 41 := ⟨Tryz.func142, by kernel_rfl, Tryz.ntmps142⟩
instance : Enters Tryz.prog 142 := ⟨Tryz.call142⟩
noncomputable def c145 : Code := Tryz.f145.body.getD .skip
instance : FnI Tryz.prog 145 Tryz.f145 c145 32 := ⟨Tryz.func145, by kernel_rfl, Tryz.ntmps145⟩
instance : Enters Tryz.prog 145 := ⟨Tryz.call145⟩
noncomputable def c162 : Code := Tryz.f162.body.getD .skip
instance : FnI Tryz.prog 162 Tryz.f162 c162 19 := ⟨Tryz.func162, by kernel_rfl, Tryz.ntmps162⟩
instance : Enters Tryz.prog 162 := ⟨Tryz.call162⟩
noncomputable def c165 : Code := Tryz.f165.body.getD .skip
instance : FnI Tryz.prog 165 Tryz.f165 c165 7 := ⟨Tryz.func165, by kernel_rfl, Tryz.ntmps165⟩
instance : Enters Tryz.prog 165 := ⟨Tryz.call165⟩
noncomputable def c166 : Code := Tryz.f166.body.getD .skip
instance : FnI Tryz.prog 166 Tryz.f166 c166 7 := ⟨Tryz.func166, by kernel_rfl, Tryz.ntmps166⟩
instance : Enters Tryz.prog 166 := ⟨Tryz.call166⟩
noncomputable def c167 : Code := Tryz.f167.body.getD .skip
instance : FnI Tryz.prog 167 Tryz.f167 c167 10 := ⟨Tryz.func167, by kernel_rfl, Tryz.ntmps167⟩
instance : Enters Tryz.prog 167 := ⟨Tryz.call167⟩
noncomputable def c168 : Code := Tryz.f168.body.getD .skip
instance : FnI Tryz.prog 168 Tryz.f168 c168 10 := ⟨Tryz.func168, by kernel_rfl, Tryz.ntmps168⟩
instance : Enters Tryz.prog 168 := ⟨Tryz.call168⟩
noncomputable def c169 : Code := Tryz.f169.body.getD .skip
instance : FnI Tryz.prog 169 Tryz.f169 c169 17 := ⟨Tryz.func169, by kernel_rfl, Tryz.ntmps169⟩
instance : Enters Tryz.prog 169 := ⟨Tryz.call169⟩
end Go.Proofs.YtfebegbjggoijaaGreatDoor

/- slices.IndexFunc, slices.ContainsFunc, at each element type that occurs. -/
namespace Go.Proofs.YtfebegbjggoijaaGreatDoor
open Go.RowKit

theorem IndexFunc_Block {α : Type} (w : World) (v fv : Value) (enc : α → Value) (xs : List α) (p : α → Bool) (hrow : RowV w true 2 v (xs.map enc)) (hp : PredE Tryz.prog w fv enc xs p) :
    Ct Tryz.prog 87 [v, fv] w fun r _ => r = .int .i64 (idxV p xs) := by
  obtain ⟨a, c, rfl⟩ := hrow.slice
  obtain ⟨g, cap, rfl, hg, hp⟩ := hp.h
  have hlen := hrow.len
  rw [List.length_map] at hlen hrow ⊢
  refine Ct.ofW (by simp) ?_
  (refine jjB ?_; refine jjC ?_; apply jJ; exact eI rfl; refine jz ?_; refine jjB ?_; refine jjB ?_; refine jjC ?_; apply jI; exact eS rfl; refine jh rfl ?_; apply jI; exact eI rfl; refine jz ?_; refine jjD ?_)
  refine W.loop (9 :: 10 :: 5 :: 11 :: 12 :: 13 :: 14 :: 15 :: 16 :: 17 :: 4 :: 18 :: 8 :: []) (fun g s' _ => ∃ k : Nat, s' 8 = .int .i64 k ∧ g = xs.length - k ∧ k ≤ xs.length ∧ ∀ (j : Nat) (hj : j < xs.length), j < k → p xs[j] = false) xs.length ?_ ?_
  · exact ⟨0, rfl, by omega, by omega, by intros; omega⟩
  · rintro _ d w' hS ⟨k, h8, rfl, hk, hpre⟩
    refine W.fix h8 ?_
    repeat' (first|((first|apply jI|apply jJ); (first|exact eI rfl|exact eS rfl|exact eF rfl))|(refine jW ?_; refine jX rfl rfl ?_)|refine jz ?_|(refine jjA ?_; (first|refine jjB ?_|refine jjC ?_|refine jjD ?_|refine jjE ?_|refine jjF ?_|refine jjG ?_))|(refine jjA ?_; (refine jjN rfl ?_ ?_ <;> intro _))|refine jB rfl rfl ⟨inferInstance, ?_⟩)
    · have hk' : k < xs.length := by omega
      refine Ops.indexRow rfl rfl (hrow.ext inferInstance) rfl (map_get hk') ?_
      intro b o hA
      refine Ops.loadV rfl hA (by exact hrow.get (List.getElem_mem hk')) ?_
      refine jjQ (hp _ _ (List.getElem_mem hk') inferInstance) rfl rfl ?_
      rintro v w2 hS2 rfl
      repeat' (first|((first|apply jI|apply jJ); exact eI rfl)|(refine jW ?_; refine jY rfl rfl (by omega) ?_)|refine jz ?_|(refine jjA ?_; (first|refine jjB ?_|refine jjC ?_|refine jjF ?_|refine jjG ?_))|(refine jjA ?_; (refine jjO rfl ?_ ?_ <;> intro _))|refine jB rfl rfl ⟨inferInstance, ?_⟩)
      · exact congrArg _ (idxV_hit hk' ‹_› hpre).symm
      · refine ⟨rfl, by ((refine Same.upd rfl ?_; refine Same.upd rfl ?_; refine Same.upd rfl ?_; refine Same.upd rfl ?_; refine Same.upd rfl ?_; refine Same.upd rfl ?_; refine Same.upd rfl ?_; refine Same.upd rfl ?_; refine Same.upd rfl ?_; refine Same.upd rfl ?_; refine Same.upd rfl ?_; refine Same.upd rfl ?_; exact Same.ovN)), xs.length - (k + 1), by omega, inferInstance, k + 1, rfl, rfl, by omega, fun j hj hjk => ?_⟩
        by_cases e : j = k
        · subst e; assumption
        · exact hpre j hj (by omega)
    · exact congrArg _ (idxV_miss fun j hj => hpre j hj (by omega)).symm


theorem IndexFunc_int {α : Type} (w : World) (v fv : Value) (enc : α → Value) (xs : List α) (p : α → Bool) (hrow : RowV w false 1 v (xs.map enc)) (hp : PredE Tryz.prog w fv enc xs p) :
    Ct Tryz.prog 101 [v, fv] w fun r _ => r = .int .i64 (idxV p xs) := by
  obtain ⟨a, c, rfl⟩ := hrow.slice
  obtain ⟨g, cap, rfl, hg, hp⟩ := hp.h
  have hlen := hrow.len
  rw [List.length_map] at hlen hrow ⊢
  refine Ct.ofW (by simp) ?_
  (refine jjB ?_; refine jjC ?_; apply jJ; exact eI rfl; refine jz ?_; refine jjB ?_; refine jjB ?_; refine jjC ?_; apply jI; exact eS rfl; refine jh rfl ?_; apply jI; exact eI rfl; refine jz ?_; refine jjD ?_)
  refine W.loop (9 :: 10 :: 5 :: 11 :: 12 :: 13 :: 14 :: 15 :: 16 :: 17 :: 4 :: 18 :: 8 :: []) (fun g s' _ => ∃ k : Nat, s' 8 = .int .i64 k ∧ g = xs.length - k ∧ k ≤ xs.length ∧ ∀ (j : Nat) (hj : j < xs.length), j < k → p xs[j] = false) xs.length ?_ ?_
  · exact ⟨0, rfl, by omega, by omega, by intros; omega⟩
  · rintro _ d w' hS ⟨k, h8, rfl, hk, hpre⟩
    refine W.fix h8 ?_
    repeat' (first|((first|apply jI|apply jJ); (first|exact eI rfl|exact eS rfl|exact eF rfl))|(refine jW ?_; refine jX rfl rfl ?_)|refine jz ?_|(refine jjA ?_; (first|refine jjB ?_|refine jjC ?_|refine jjD ?_|refine jjE ?_|refine jjF ?_|refine jjG ?_))|(refine jjA ?_; (refine jjN rfl ?_ ?_ <;> intro _))|refine jB rfl rfl ⟨inferInstance, ?_⟩)
    · have hk' : k < xs.length := by omega
      refine Ops.indexRow rfl rfl (hrow.ext inferInstance) rfl (map_get hk') ?_
      intro b o hA
      refine Ops.loadV rfl hA (by exact hrow.get (List.getElem_mem hk')) ?_
      refine jjQ (hp _ _ (List.getElem_mem hk') inferInstance) rfl rfl ?_
      rintro v w2 hS2 rfl
      repeat' (first|((first|apply jI|apply jJ); exact eI rfl)|(refine jW ?_; refine jY rfl rfl (by omega) ?_)|refine jz ?_|(refine jjA ?_; (first|refine jjB ?_|refine jjC ?_|refine jjF ?_|refine jjG ?_))|(refine jjA ?_; (refine jjO rfl ?_ ?_ <;> intro _))|refine jB rfl rfl ⟨inferInstance, ?_⟩)
      · exact congrArg _ (idxV_hit hk' ‹_› hpre).symm
      · refine ⟨rfl, by ((refine Same.upd rfl ?_; refine Same.upd rfl ?_; refine Same.upd rfl ?_; refine Same.upd rfl ?_; refine Same.upd rfl ?_; refine Same.upd rfl ?_; refine Same.upd rfl ?_; refine Same.upd rfl ?_; refine Same.upd rfl ?_; refine Same.upd rfl ?_; refine Same.upd rfl ?_; refine Same.upd rfl ?_; exact Same.ovN)), xs.length - (k + 1), by omega, inferInstance, k + 1, rfl, rfl, by omega, fun j hj hjk => ?_⟩
        by_cases e : j = k
        · subst e; assumption
        · exact hpre j hj (by omega)
    · exact congrArg _ (idxV_miss fun j hj => hpre j hj (by omega)).symm


theorem IndexFunc_byte {α : Type} (w : World) (v fv : Value) (enc : α → Value) (xs : List α) (p : α → Bool) (hrow : RowV w false 1 v (xs.map enc)) (hp : PredE Tryz.prog w fv enc xs p) :
    Ct Tryz.prog 104 [v, fv] w fun r _ => r = .int .i64 (idxV p xs) := by
  obtain ⟨a, c, rfl⟩ := hrow.slice
  obtain ⟨g, cap, rfl, hg, hp⟩ := hp.h
  have hlen := hrow.len
  rw [List.length_map] at hlen hrow ⊢
  refine Ct.ofW (by simp) ?_
  (refine jjB ?_; refine jjC ?_; apply jJ; exact eI rfl; refine jz ?_; refine jjB ?_; refine jjB ?_; refine jjC ?_; apply jI; exact eS rfl; refine jh rfl ?_; apply jI; exact eI rfl; refine jz ?_; refine jjD ?_)
  refine W.loop (9 :: 10 :: 5 :: 11 :: 12 :: 13 :: 14 :: 15 :: 16 :: 17 :: 4 :: 18 :: 8 :: []) (fun g s' _ => ∃ k : Nat, s' 8 = .int .i64 k ∧ g = xs.length - k ∧ k ≤ xs.length ∧ ∀ (j : Nat) (hj : j < xs.length), j < k → p xs[j] = false) xs.length ?_ ?_
  · exact ⟨0, rfl, by omega, by omega, by intros; omega⟩
  · rintro _ d w' hS ⟨k, h8, rfl, hk, hpre⟩
    refine W.fix h8 ?_
    repeat' (first|((first|apply jI|apply jJ); (first|exact eI rfl|exact eS rfl|exact eF rfl))|(refine jW ?_; refine jX rfl rfl ?_)|refine jz ?_|(refine jjA ?_; (first|refine jjB ?_|refine jjC ?_|refine jjD ?_|refine jjE ?_|refine jjF ?_|refine jjG ?_))|(refine jjA ?_; (refine jjN rfl ?_ ?_ <;> intro _))|refine jB rfl rfl ⟨inferInstance, ?_⟩)
    · have hk' : k < xs.length := by omega
      refine Ops.indexRow rfl rfl (hrow.ext inferInstance) rfl (map_get hk') ?_
      intro b o hA
      refine Ops.loadV rfl hA (by exact hrow.get (List.getElem_mem hk')) ?_
      refine jjQ (hp _ _ (List.getElem_mem hk') inferInstance) rfl rfl ?_
      rintro v w2 hS2 rfl
      repeat' (first|((first|apply jI|apply jJ); exact eI rfl)|(refine jW ?_; refine jY rfl rfl (by omega) ?_)|refine jz ?_|(refine jjA ?_; (first|refine jjB ?_|refine jjC ?_|refine jjF ?_|refine jjG ?_))|(refine jjA ?_; (refine jjO rfl ?_ ?_ <;> intro _))|refine jB rfl rfl ⟨inferInstance, ?_⟩)
      · exact congrArg _ (idxV_hit hk' ‹_› hpre).symm
      · refine ⟨rfl, by ((refine Same.upd rfl ?_; refine Same.upd rfl ?_; refine Same.upd rfl ?_; refine Same.upd rfl ?_; refine Same.upd rfl ?_; refine Same.upd rfl ?_; refine Same.upd rfl ?_; refine Same.upd rfl ?_; refine Same.upd rfl ?_; refine Same.upd rfl ?_; refine Same.upd rfl ?_; refine Same.upd rfl ?_; exact Same.ovN)), xs.length - (k + 1), by omega, inferInstance, k + 1, rfl, rfl, by omega, fun j hj hjk => ?_⟩
        by_cases e : j = k
        · subst e; assumption
        · exact hpre j hj (by omega)
    · exact congrArg _ (idxV_miss fun j hj => hpre j hj (by omega)).symm


theorem IndexFunc_string {α : Type} (w : World) (v fv : Value) (enc : α → Value) (xs : List α) (p : α → Bool) (hrow : RowV w false 1 v (xs.map enc)) (hp : PredE Tryz.prog w fv enc xs p) :
    Ct Tryz.prog 117 [v, fv] w fun r _ => r = .int .i64 (idxV p xs) := by
  obtain ⟨a, c, rfl⟩ := hrow.slice
  obtain ⟨g, cap, rfl, hg, hp⟩ := hp.h
  have hlen := hrow.len
  rw [List.length_map] at hlen hrow ⊢
  refine Ct.ofW (by simp) ?_
  (refine jjB ?_; refine jjC ?_; apply jJ; exact eI rfl; refine jz ?_; refine jjB ?_; refine jjB ?_; refine jjC ?_; apply jI; exact eS rfl; refine jh rfl ?_; apply jI; exact eI rfl; refine jz ?_; refine jjD ?_)
  refine W.loop (9 :: 10 :: 5 :: 11 :: 12 :: 13 :: 14 :: 15 :: 16 :: 17 :: 4 :: 18 :: 8 :: []) (fun g s' _ => ∃ k : Nat, s' 8 = .int .i64 k ∧ g = xs.length - k ∧ k ≤ xs.length ∧ ∀ (j : Nat) (hj : j < xs.length), j < k → p xs[j] = false) xs.length ?_ ?_
  · exact ⟨0, rfl, by omega, by omega, by intros; omega⟩
  · rintro _ d w' hS ⟨k, h8, rfl, hk, hpre⟩
    refine W.fix h8 ?_
    repeat' (first|((first|apply jI|apply jJ); (first|exact eI rfl|exact eS rfl|exact eF rfl))|(refine jW ?_; refine jX rfl rfl ?_)|refine jz ?_|(refine jjA ?_; (first|refine jjB ?_|refine jjC ?_|refine jjD ?_|refine jjE ?_|refine jjF ?_|refine jjG ?_))|(refine jjA ?_; (refine jjN rfl ?_ ?_ <;> intro _))|refine jB rfl rfl ⟨inferInstance, ?_⟩)
    · have hk' : k < xs.length := by omega
      refine Ops.indexRow rfl rfl (hrow.ext inferInstance) rfl (map_get hk') ?_
      intro b o hA
      refine Ops.loadV rfl hA (by exact hrow.get (List.getElem_mem hk')) ?_
      refine jjQ (hp _ _ (List.getElem_mem hk') inferInstance) rfl rfl ?_
      rintro v w2 hS2 rfl
      repeat' (first|((first|apply jI|apply jJ); exact eI rfl)|(refine jW ?_; refine jY rfl rfl (by omega) ?_)|refine jz ?_|(refine jjA ?_; (first|refine jjB ?_|refine jjC ?_|refine jjF ?_|refine jjG ?_))|(refine jjA ?_; (refine jjO rfl ?_ ?_ <;> intro _))|refine jB rfl rfl ⟨inferInstance, ?_⟩)
      · exact congrArg _ (idxV_hit hk' ‹_› hpre).symm
      · refine ⟨rfl, by ((refine Same.upd rfl ?_; refine Same.upd rfl ?_; refine Same.upd rfl ?_; refine Same.upd rfl ?_; refine Same.upd rfl ?_; refine Same.upd rfl ?_; refine Same.upd rfl ?_; refine Same.upd rfl ?_; refine Same.upd rfl ?_; refine Same.upd rfl ?_; refine Same.upd rfl ?_; refine Same.upd rfl ?_; exact Same.ovN)), xs.length - (k + 1), by omega, inferInstance, k + 1, rfl, rfl, by omega, fun j hj hjk => ?_⟩
        by_cases e : j = k
        · subst e; assumption
        · exact hpre j hj (by omega)
    · exact congrArg _ (idxV_miss fun j hj => hpre j hj (by omega)).symm


theorem ContainsFunc_Block {α : Type} (w : World) (v fv : Value) (enc : α → Value) (xs : List α) (p : α → Bool) (hrow : RowV w true 2 v (xs.map enc)) (hp : PredE Tryz.prog w fv enc xs p) :
    Ct Tryz.prog 62 [v, fv] w fun r _ => r = .bool (xs.any p) := by
  refine Ct.ofW (by simp) ?_
  (refine jjB ?_; refine jjC ?_; apply jJ; exact eB rfl; refine jz ?_; refine jjB ?_; refine jjC ?_; apply jI; exact rfl; apply jI; exact rfl)
  refine jjQ (IndexFunc_Block _ _ _ enc _ _ (hrow.ext inferInstance) (hp.ext inferInstance)) rfl rfl ?_
  rintro _ w2 hS2 rfl
  (refine jf rfl rfl ?_; apply jJ; exact eB rfl; refine jz ?_; refine jjF ?_; refine jB rfl rfl ⟨inferInstance, ?_⟩)
  exact congrArg Value.bool (idxV_nonneg p xs)


theorem ContainsFunc_int {α : Type} (w : World) (v fv : Value) (enc : α → Value) (xs : List α) (p : α → Bool) (hrow : RowV w false 1 v (xs.map enc)) (hp : PredE Tryz.prog w fv enc xs p) :
    Ct Tryz.prog 84 [v, fv] w fun r _ => r = .bool (xs.any p) := by
  refine Ct.ofW (by simp) ?_
  (refine jjB ?_; refine jjC ?_; apply jJ; exact eB rfl; refine jz ?_; refine jjB ?_; refine jjC ?_; apply jI; exact rfl; apply jI; exact rfl)
  refine jjQ (IndexFunc_int _ _ _ enc _ _ (hrow.ext inferInstance) (hp.ext inferInstance)) rfl rfl ?_
  rintro _ w2 hS2 rfl
  (refine jf rfl rfl ?_; apply jJ; exact eB rfl; refine jz ?_; refine jjF ?_; refine jB rfl rfl ⟨inferInstance, ?_⟩)
  exact congrArg Value.bool (idxV_nonneg p xs)


theorem ContainsFunc_byte {α : Type} (w : World) (v fv : Value) (enc : α → Value) (xs : List α) (p : α → Bool) (hrow : RowV w false 1 v (xs.map enc)) (hp : PredE Tryz.prog w fv enc xs p) :
    Ct Tryz.prog 88 [v, fv] w fun r _ => r = .bool (xs.any p) := by
  refine Ct.ofW (by simp) ?_
  (refine jjB ?_; refine jjC ?_; apply jJ; exact eB rfl; refine jz ?_; refine jjB ?_; refine jjC ?_; apply jI; exact rfl; apply jI; exact rfl)
  refine jjQ (IndexFunc_byte _ _ _ enc _ _ (hrow.ext inferInstance) (hp.ext inferInstance)) rfl rfl ?_
  rintro _ w2 hS2 rfl
  (refine jf rfl rfl ?_; apply jJ; exact eB rfl; refine jz ?_; refine jjF ?_; refine jB rfl rfl ⟨inferInstance, ?_⟩)
  exact congrArg Value.bool (idxV_nonneg p xs)


theorem ContainsFunc_string {α : Type} (w : World) (v fv : Value) (enc : α → Value) (xs : List α) (p : α → Bool) (hrow : RowV w false 1 v (xs.map enc)) (hp : PredE Tryz.prog w fv enc xs p) :
    Ct Tryz.prog 105 [v, fv] w fun r _ => r = .bool (xs.any p) := by
  refine Ct.ofW (by simp) ?_
  (refine jjB ?_; refine jjC ?_; apply jJ; exact eB rfl; refine jz ?_; refine jjB ?_; refine jjC ?_; apply jI; exact rfl; apply jI; exact rfl)
  refine jjQ (IndexFunc_string _ _ _ enc _ _ (hrow.ext inferInstance) (hp.ext inferInstance)) rfl rfl ?_
  rintro _ w2 hS2 rfl
  (refine jf rfl rfl ?_; apply jJ; exact eB rfl; refine jz ?_; refine jjF ?_; refine jB rfl rfl ⟨inferInstance, ?_⟩)
  exact congrArg Value.bool (idxV_nonneg p xs)

end Go.Proofs.YtfebegbjggoijaaGreatDoor

/- Plain functions that several contracts speak of. -/
namespace Go.Proofs.YtfebegbjggoijaaGreatDoor
open Go.RowKit

def inB (lo hi n : Int) : Bool := decide (lo ≤ n ∧ n ≤ hi)
theorem not_any_not {α : Type} (q : α → Bool) (xs : List α) : (!(xs.any fun n => !q n)) = xs.all q := by
  induction xs with
  | nil => rfl
  | cons x xs ih => simp only [List.any_cons, List.all_cons, Bool.not_or, ih, Bool.not_not]
theorem any_not {α : Type} (q : α → Bool) (xs : List α) : (xs.any fun n => !q n) = !xs.all q := by
  rw [← not_any_not, Bool.not_not]
def lowB (c : UInt8) : Bool := decide (97 ≤ c.toNat ∧ c.toNat ≤ 122)
def wordB (s : ByteArray) : Bool := decide (1 ≤ s.size ∧ s.size ≤ 12) && s.data.toList.all lowB
theorem low_any (l : List UInt8) : (!l.any fun c => decide ((c.toNat : Int) < 97 ∨ 122 < (c.toNat : Int))) = l.all lowB := by
  rw [← not_any_not]
  congr 2
  funext c
  rw [lowB, ← decide_not, decide_eq_decide]
  omega
theorem word_yes (s : ByteArray) (h : [(s.size : Int)].all (inB 1 12) = true) : (!s.data.toList.any fun c => decide ((c.toNat : Int) < 97 ∨ 122 < (c.toNat : Int))) = wordB s := by
  rw [low_any, wordB]
  simp [inB] at h
  have : decide (1 ≤ s.size ∧ s.size ≤ 12) = true := decide_eq_true (by omega)
  rw [this]; rfl
theorem word_no (s : ByteArray) (h : [(s.size : Int)].all (inB 1 12) = false) : false = wordB s := by
  rw [wordB]
  simp [inB] at h
  have : decide (1 ≤ s.size ∧ s.size ≤ 12) = false := decide_eq_false (by omega)
  rw [this]; rfl
end Go.Proofs.YtfebegbjggoijaaGreatDoor

/- in and word, of each package. -/
namespace Go.Proofs.YtfebegbjggoijaaGreatDoor
open Go.RowKit

theorem in1_leaf (n lo hi : Int) (b c : Nat) (w : World) [At w b 0 [.int .i64 lo]] [At w c 0 [.int .i64 hi]] :
    Ct Tryz.prog 115 [.int .i64 n, .pointer (some ⟨b, 0, none⟩), .pointer (some ⟨c, 0, none⟩)] w fun v _ => v = .bool (!inB lo hi n) := by
  refine Ct.ofW (by simp) ?_
  repeat' (first|((first|apply jI|apply jJ|apply jK rfl|apply jL rfl); (first|exact eI rfl|exact eB rfl))|(refine jM ?_; refine jN rfl rfl rfl ?_)|(refine jS ?_; (first|refine jT rfl rfl rfl ?_|refine jU rfl rfl rfl rfl ?_))|(refine jW ?_; (first|refine jX rfl rfl ?_|refine je rfl rfl ?_))|refine jz ?_|(refine jjA ?_; (first|refine jjB ?_|refine jjC ?_|refine jjF ?_))|(refine jS ?_; (refine jjL rfl rfl ?_ ?_ <;> intro _))|refine jB rfl rfl ⟨inferInstance, ?_⟩)
  · exact congrArg Value.bool (by simp only [inB, Bool.true_eq, Bool.not_eq_true', decide_eq_false_iff_not]; omega)
  · exact congrArg Value.bool (by rw [inB, ← decide_not, decide_eq_decide]; omega)

theorem in_leaf (lo hi : Int) (v : Value) (xs : List Int) (w : World) (hrow : RowV w false 1 v (xs.map (.int .i64))) :
    Ct Tryz.prog 99 [.int .i64 lo, .int .i64 hi, v] w fun r _ => r = .bool (xs.all (inB lo hi)) := by
  refine Ct.ofW (by simp) ?_
  (refine jjB ?_; refine jjC ?_)
  (refine jy rfl ?_; intro b1 w_b1 hb_b1 hs_b1 hS_b1 hk_b1; have hA_b1 := At.ofBlock hk_b1)
  (refine jy rfl ?_; intro b2 w_b2 hb_b2 hs_b2 hS_b2 hk_b2; have hA_b2 := At.ofBlock hk_b2)
  (apply jJ; exact eB rfl; refine jz ?_; refine jjB ?_; refine jjC ?_; apply jI; exact rfl; refine jv ?_)
  refine jjQ (ContainsFunc_int _ _ (.func (.func 115) #[] [.pointer (some ⟨b1, 0, none⟩), .pointer (some ⟨b2, 0, none⟩)].toArray) (.int .i64) xs (fun n => !inB lo hi n) (hrow.ext inferInstance) ?hp) rfl rfl ?_
  case hp =>
    refine ⟨_, _, rfl, inferInstance, fun w' y _ hs => ?_⟩
    have := hA_b2.ext hs
    have := (inferInstance : At w_b2 b1 0 _).ext hs
    exact in1_leaf y lo hi b1 b2 w'
  rintro _ w2 hS2 rfl
  (refine js rfl ?_; apply jJ; exact eB rfl; refine jz ?_; refine jjF ?_; refine jB rfl rfl ⟨inferInstance, ?_⟩)
  exact congrArg Value.bool (not_any_not _ xs)


theorem word1_leaf (n : Int) (w : World) : Ct Tryz.prog 100 [.int .u8 n] w fun v _ => v = .bool (decide (n < 97 ∨ 122 < n)) := by
  refine Ct.ofW (by simp) ?_
  repeat' (first|((first|apply jI|apply jJ|apply jK rfl|apply jL rfl); (first|exact eI rfl|exact eB rfl))|(refine jS ?_; (first|refine jT rfl rfl rfl ?_|refine jU rfl rfl rfl rfl ?_))|(refine jW ?_; (first|refine jX rfl rfl ?_|refine je rfl rfl ?_))|refine jz ?_|(refine jjA ?_; (first|refine jjB ?_|refine jjC ?_|refine jjF ?_))|(refine jS ?_; (refine jjL rfl rfl ?_ ?_ <;> intro _))|refine jB rfl rfl ⟨inferInstance, ?_⟩)
  · exact congrArg Value.bool (by simp only [Bool.true_eq, decide_eq_true_eq]; omega)
  · exact congrArg Value.bool (by rw [decide_eq_decide]; omega)

theorem word_leaf (s : ByteArray) (w : World) (hs : s.size ≤ 140737488351232) : Ct Tryz.prog 76 [.string s] w fun r _ => r = .bool (wordB s) := by
  refine Ct.ofW (by simp) ?_
  (refine jjB ?_; refine jjC ?_; apply jJ; exact eB rfl; refine jz ?_; refine jjB ?_; refine jjC ?_; apply jI; exact eT rfl; refine ji rfl ?_)
  (refine jjP (v := .int _ _) rfl (by exact rfl) (by exact rfl) (by exact rfl) (by exact rfl) ?_; intro b1 w_b1 hb_b1 hs_b1 hS_b1 hk_b1; have hR_b1 := RowV.one (agg := false) (k := 1) rfl hk_b1)
  refine jjQ (in_leaf 1 12 _ [(s.size : Int)] _ hR_b1) rfl rfl ?_
  rintro _ w2 hS2 rfl
  repeat' (first|((first|apply jI|apply jJ|apply jL rfl); (first|exact eB rfl|exact eT rfl))|(refine jS ?_; (first|refine jT rfl rfl rfl ?_|refine jU rfl rfl rfl rfl ?_))|refine jz ?_|(refine jjA ?_; refine jjF ?_)|(refine jS ?_; (refine jjM rfl rfl ?_ ?_ <;> intro _))|refine jB rfl rfl ⟨inferInstance, ?_⟩)
  · refine Ops.bytesOf rfl (by omega) ?_
    intro v w3 hS3 hR3
    (refine jT rfl rfl rfl ?_)
    refine jjQ (ContainsFunc_byte _ _ (.func (.func 100) #[] ([] : List Value).toArray) byteV s.data.toList (fun c => decide ((c.toNat : Int) < 97 ∨ 122 < (c.toNat : Int))) hR3 ?hp) rfl rfl ?_
    case hp =>
      exact ⟨_, _, rfl, inferInstance, fun w' y _ hs => word1_leaf _ w'⟩
    rintro _ w4 hS4 rfl
    (refine jT rfl rfl rfl ?_; refine js rfl ?_; apply jK rfl; exact eB rfl; apply jJ; exact eB rfl; refine jz ?_; refine jjF ?_; refine jB rfl rfl ⟨inferInstance, ?_⟩)
    exact congrArg Value.bool (word_yes s ‹_›)
  · exact congrArg Value.bool (word_no s ‹_›)


theorem in1_slip (n lo hi : Int) (b c : Nat) (w : World) [At w b 0 [.int .i64 lo]] [At w c 0 [.int .i64 hi]] :
    Ct Tryz.prog 121 [.int .i64 n, .pointer (some ⟨b, 0, none⟩), .pointer (some ⟨c, 0, none⟩)] w fun v _ => v = .bool (!inB lo hi n) := by
  refine Ct.ofW (by simp) ?_
  repeat' (first|((first|apply jI|apply jJ|apply jK rfl|apply jL rfl); (first|exact eI rfl|exact eB rfl))|(refine jM ?_; refine jN rfl rfl rfl ?_)|(refine jS ?_; (first|refine jT rfl rfl rfl ?_|refine jU rfl rfl rfl rfl ?_))|(refine jW ?_; (first|refine jX rfl rfl ?_|refine je rfl rfl ?_))|refine jz ?_|(refine jjA ?_; (first|refine jjB ?_|refine jjC ?_|refine jjF ?_))|(refine jS ?_; (refine jjL rfl rfl ?_ ?_ <;> intro _))|refine jB rfl rfl ⟨inferInstance, ?_⟩)
  · exact congrArg Value.bool (by simp only [inB, Bool.true_eq, Bool.not_eq_true', decide_eq_false_iff_not]; omega)
  · exact congrArg Value.bool (by rw [inB, ← decide_not, decide_eq_decide]; omega)

theorem in_slip (lo hi : Int) (v : Value) (xs : List Int) (w : World) (hrow : RowV w false 1 v (xs.map (.int .i64))) :
    Ct Tryz.prog 109 [.int .i64 lo, .int .i64 hi, v] w fun r _ => r = .bool (xs.all (inB lo hi)) := by
  refine Ct.ofW (by simp) ?_
  (refine jjB ?_; refine jjC ?_)
  (refine jy rfl ?_; intro b1 w_b1 hb_b1 hs_b1 hS_b1 hk_b1; have hA_b1 := At.ofBlock hk_b1)
  (refine jy rfl ?_; intro b2 w_b2 hb_b2 hs_b2 hS_b2 hk_b2; have hA_b2 := At.ofBlock hk_b2)
  (apply jJ; exact eB rfl; refine jz ?_; refine jjB ?_; refine jjC ?_; apply jI; exact rfl; refine jv ?_)
  refine jjQ (ContainsFunc_int _ _ (.func (.func 121) #[] [.pointer (some ⟨b1, 0, none⟩), .pointer (some ⟨b2, 0, none⟩)].toArray) (.int .i64) xs (fun n => !inB lo hi n) (hrow.ext inferInstance) ?hp) rfl rfl ?_
  case hp =>
    refine ⟨_, _, rfl, inferInstance, fun w' y _ hs => ?_⟩
    have := hA_b2.ext hs
    have := (inferInstance : At w_b2 b1 0 _).ext hs
    exact in1_slip y lo hi b1 b2 w'
  rintro _ w2 hS2 rfl
  (refine js rfl ?_; apply jJ; exact eB rfl; refine jz ?_; refine jjF ?_; refine jB rfl rfl ⟨inferInstance, ?_⟩)
  exact congrArg Value.bool (not_any_not _ xs)


theorem in1_galley (n lo hi : Int) (b c : Nat) (w : World) [At w b 0 [.int .i64 lo]] [At w c 0 [.int .i64 hi]] :
    Ct Tryz.prog 85 [.int .i64 n, .pointer (some ⟨b, 0, none⟩), .pointer (some ⟨c, 0, none⟩)] w fun v _ => v = .bool (!inB lo hi n) := by
  refine Ct.ofW (by simp) ?_
  repeat' (first|((first|apply jI|apply jJ|apply jK rfl|apply jL rfl); (first|exact eI rfl|exact eB rfl))|(refine jM ?_; refine jN rfl rfl rfl ?_)|(refine jS ?_; (first|refine jT rfl rfl rfl ?_|refine jU rfl rfl rfl rfl ?_))|(refine jW ?_; (first|refine jX rfl rfl ?_|refine je rfl rfl ?_))|refine jz ?_|(refine jjA ?_; (first|refine jjB ?_|refine jjC ?_|refine jjF ?_))|(refine jS ?_; (refine jjL rfl rfl ?_ ?_ <;> intro _))|refine jB rfl rfl ⟨inferInstance, ?_⟩)
  · exact congrArg Value.bool (by simp only [inB, Bool.true_eq, Bool.not_eq_true', decide_eq_false_iff_not]; omega)
  · exact congrArg Value.bool (by rw [inB, ← decide_not, decide_eq_decide]; omega)

theorem in_galley (lo hi : Int) (v : Value) (xs : List Int) (w : World) (hrow : RowV w false 1 v (xs.map (.int .i64))) :
    Ct Tryz.prog 54 [.int .i64 lo, .int .i64 hi, v] w fun r _ => r = .bool (xs.all (inB lo hi)) := by
  refine Ct.ofW (by simp) ?_
  (refine jjB ?_; refine jjC ?_)
  (refine jy rfl ?_; intro b1 w_b1 hb_b1 hs_b1 hS_b1 hk_b1; have hA_b1 := At.ofBlock hk_b1)
  (refine jy rfl ?_; intro b2 w_b2 hb_b2 hs_b2 hS_b2 hk_b2; have hA_b2 := At.ofBlock hk_b2)
  (apply jJ; exact eB rfl; refine jz ?_; refine jjB ?_; refine jjC ?_; apply jI; exact rfl; refine jv ?_)
  refine jjQ (ContainsFunc_int _ _ (.func (.func 85) #[] [.pointer (some ⟨b1, 0, none⟩), .pointer (some ⟨b2, 0, none⟩)].toArray) (.int .i64) xs (fun n => !inB lo hi n) (hrow.ext inferInstance) ?hp) rfl rfl ?_
  case hp =>
    refine ⟨_, _, rfl, inferInstance, fun w' y _ hs => ?_⟩
    have := hA_b2.ext hs
    have := (inferInstance : At w_b2 b1 0 _).ext hs
    exact in1_galley y lo hi b1 b2 w'
  rintro _ w2 hS2 rfl
  (refine js rfl ?_; apply jJ; exact eB rfl; refine jz ?_; refine jjF ?_; refine jB rfl rfl ⟨inferInstance, ?_⟩)
  exact congrArg Value.bool (not_any_not _ xs)


theorem word1_galley (n : Int) (w : World) : Ct Tryz.prog 89 [.int .u8 n] w fun v _ => v = .bool (decide (n < 97 ∨ 122 < n)) := by
  refine Ct.ofW (by simp) ?_
  repeat' (first|((first|apply jI|apply jJ|apply jK rfl|apply jL rfl); (first|exact eI rfl|exact eB rfl))|(refine jS ?_; (first|refine jT rfl rfl rfl ?_|refine jU rfl rfl rfl rfl ?_))|(refine jW ?_; (first|refine jX rfl rfl ?_|refine je rfl rfl ?_))|refine jz ?_|(refine jjA ?_; (first|refine jjB ?_|refine jjC ?_|refine jjF ?_))|(refine jS ?_; (refine jjL rfl rfl ?_ ?_ <;> intro _))|refine jB rfl rfl ⟨inferInstance, ?_⟩)
  · exact congrArg Value.bool (by simp only [Bool.true_eq, decide_eq_true_eq]; omega)
  · exact congrArg Value.bool (by rw [decide_eq_decide]; omega)

theorem word_galley (s : ByteArray) (w : World) (hs : s.size ≤ 140737488351232) : Ct Tryz.prog 64 [.string s] w fun r _ => r = .bool (wordB s) := by
  refine Ct.ofW (by simp) ?_
  (refine jjB ?_; refine jjC ?_; apply jJ; exact eB rfl; refine jz ?_; refine jjB ?_; refine jjC ?_; apply jI; exact eT rfl; refine ji rfl ?_)
  (refine jjP (v := .int _ _) rfl (by exact rfl) (by exact rfl) (by exact rfl) (by exact rfl) ?_; intro b1 w_b1 hb_b1 hs_b1 hS_b1 hk_b1; have hR_b1 := RowV.one (agg := false) (k := 1) rfl hk_b1)
  refine jjQ (in_galley 1 12 _ [(s.size : Int)] _ hR_b1) rfl rfl ?_
  rintro _ w2 hS2 rfl
  repeat' (first|((first|apply jI|apply jJ|apply jL rfl); (first|exact eB rfl|exact eT rfl))|(refine jS ?_; (first|refine jT rfl rfl rfl ?_|refine jU rfl rfl rfl rfl ?_))|refine jz ?_|(refine jjA ?_; refine jjF ?_)|(refine jS ?_; (refine jjM rfl rfl ?_ ?_ <;> intro _))|refine jB rfl rfl ⟨inferInstance, ?_⟩)
  · refine Ops.bytesOf rfl (by omega) ?_
    intro v w3 hS3 hR3
    (refine jT rfl rfl rfl ?_)
    refine jjQ (ContainsFunc_byte _ _ (.func (.func 89) #[] ([] : List Value).toArray) byteV s.data.toList (fun c => decide ((c.toNat : Int) < 97 ∨ 122 < (c.toNat : Int))) hR3 ?hp) rfl rfl ?_
    case hp =>
      exact ⟨_, _, rfl, inferInstance, fun w' y _ hs => word1_galley _ w'⟩
    rintro _ w4 hS4 rfl
    (refine jT rfl rfl rfl ?_; refine js rfl ?_; apply jK rfl; exact eB rfl; apply jJ; exact eB rfl; refine jz ?_; refine jjF ?_; refine jB rfl rfl ⟨inferInstance, ?_⟩)
    exact congrArg Value.bool (word_yes s ‹_›)
  · exact congrArg Value.bool (word_no s ‹_›)

end Go.Proofs.YtfebegbjggoijaaGreatDoor

/- galley.Check. -/

namespace Go.Proofs.YtfebegbjggoijaaGreatDoor
open Go.RowKit

abbrev Blk := ByteArray × Int
def encB (b : Blk) : Value := .agg #[.string b.1, .int .i64 b.2]
def blockB (b : Blk) : Bool := wordB b.1 && inB 1 20 b.2
def galleyB (h : Int) (bs : List Blk) : Bool := inB 4 40 h && inB 1 30 bs.length && bs.all blockB
theorem all1 (p : Int → Bool) (n : Int) : [n].all p = p n := by simp

theorem Check1_galley (b : Blk) (w : World) (hb : b.1.size ≤ 140737488351232) : Ct Tryz.prog 63 [encB b] w fun r _ => r = .bool (!blockB b) := by
  obtain ⟨s, m⟩ := b
  refine Ct.ofW (by simp) ?_
  (refine jjB ?_; refine jjC ?_)
  (refine jy rfl ?_; intro b1 w_b1 hb_b1 hs_b1 hS_b1 hk_b1; have hA_b1 := At.ofBlock hk_b1)
  (((apply jJ; exact eB rfl; refine jz ?_; refine jjB ?_; refine jjC ?_; refine jm ?_; refine jn rfl ?_; refine jN rfl rfl rfl ?_)); refine jjQ (word_galley s _ hb) rfl rfl ?_)
  rintro _ w2 hS2 rfl
  repeat' (first|((first|apply jI|apply jJ|apply jK rfl); exact eB rfl)|(refine jM ?_; refine jN rfl rfl rfl ?_)|(refine jS ?_; (first|refine jT rfl rfl rfl ?_|refine jU rfl rfl rfl rfl ?_))|(refine jm ?_; refine jn rfl ?_)|(refine jo ?_; refine js rfl ?_)|refine jz ?_|(refine jjA ?_; refine jjF ?_)|(refine jS ?_; (refine jjM rfl rfl ?_ ?_ <;> intro _))|refine jB rfl rfl ⟨inferInstance, ?_⟩)
  · exact congrArg Value.bool (by simp_all [blockB])
  · (refine jjP (v := .int _ _) rfl (by exact rfl) (by exact rfl) (by exact rfl) (by exact rfl) ?_; intro b2 w_b2 hb_b2 hs_b2 hS_b2 hk_b2; have hR_b2 := RowV.one (agg := false) (k := 1) rfl hk_b2)
    (((refine jT rfl rfl rfl ?_)); refine jjQ (in_galley 1 20 _ [m] _ hR_b2) rfl rfl ?_)
    rintro _ w3 hS3 rfl
    (refine jT rfl rfl rfl ?_; refine js rfl ?_; apply jL rfl; exact eB rfl; apply jJ; exact eB rfl; refine jz ?_; refine jjF ?_; refine jB rfl rfl ⟨inferInstance, ?_⟩)
    exact congrArg Value.bool (by simp_all [blockB])

/-- The error of a galley. -/
def gErr (h : Int) (bs : List Blk) : Int := if galleyB h bs then 0 else 80

theorem gErr_1 {h : Int} {bs : List Blk} (h1 : (!bs.all blockB) = true) : (80 : Int) = gErr h bs := by
  simp only [Bool.not_eq_true'] at h1
  simp [gErr, galleyB, h1]
theorem gErr_2 {h : Int} {bs : List Blk} (h1 : (![h].all (inB 4 40)) = true) : (80 : Int) = gErr h bs := by
  simp only [all1, Bool.not_eq_true'] at h1
  simp [gErr, galleyB, h1]
theorem gErr_3 {h : Int} {bs : List Blk} (h1 : (![(bs.length : Int)].all (inB 1 30)) = true) : (80 : Int) = gErr h bs := by
  simp only [all1, Bool.not_eq_true'] at h1
  simp [gErr, galleyB, h1]
theorem gErr_0 {h : Int} {bs : List Blk} (h1 : (!bs.all blockB) = false) (h2 : (![h].all (inB 4 40)) = false) (h3 : (![(bs.length : Int)].all (inB 1 30)) = false) : (0 : Int) = gErr h bs := by
  simp only [all1, Bool.not_eq_false'] at h1 h2 h3
  simp [gErr, galleyB, h1, h2, h3]

theorem Check_galley (h : Int) (bv : Value) (bs : List Blk) (w : World) (hrow : RowV w true 2 bv (bs.map encB)) (hb : ∀ b ∈ bs, b.1.size ≤ 140737488351232) :
    Ct Tryz.prog 35 [.agg #[.int .i64 h, bv]] w fun r _ => r = .int .i64 (gErr h bs) := by
  obtain ⟨a, c, rfl⟩ := hrow.slice
  rw [List.length_map] at hrow ⊢
  refine Ct.ofW (by simp) ?_
  (refine jjB ?_; refine jjC ?_)
  (refine jy rfl ?_; intro b1 w_b1 hb_b1 hs_b1 hS_b1 hk_b1; have hA_b1 := At.ofBlock hk_b1)
  (((apply jJ; exact eI rfl; refine jz ?_; refine jjB ?_; refine jjC ?_; refine jm ?_; refine jn rfl ?_; refine jN rfl rfl rfl ?_)); refine jjQ (ContainsFunc_Block _ _ (.func (.func 63) #[] ([] : List Value).toArray) encB bs (fun b => !blockB b) (hrow.ext inferInstance) ?hp) rfl rfl ?_)
  case hp => exact ⟨_, _, rfl, inferInstance, fun w' y hy hs => Check1_galley y w' (hb y hy)⟩
  rintro _ w2 hS2 rfl
  rw [any_not]
  repeat' (first|((first|apply jI|apply jJ|apply jK rfl); (first|exact eI rfl|exact eB rfl))|(refine jM ?_; refine jN rfl rfl rfl ?_)|(refine jS ?_; (first|refine jT rfl rfl rfl ?_|refine jU rfl rfl rfl rfl ?_))|(refine jm ?_; refine jn rfl ?_)|refine jz ?_|(refine jjA ?_; (first|refine jjB ?_|refine jjC ?_|refine jjF ?_|refine jjJ rfl ?_))|(refine jS ?_; (refine jjM rfl rfl ?_ ?_ <;> intro _))|refine jB rfl rfl ⟨inferInstance, ?_⟩)
  · exact congrArg (Value.int .i64) (gErr_1 ‹_›)
  · (refine jjP (v := .int _ _) rfl (by exact rfl) (by exact rfl) (by exact rfl) (by exact rfl) ?_; intro b2 w_b2 hb_b2 hs_b2 hS_b2 hk_b2; have hR_b2 := RowV.one (agg := false) (k := 1) rfl hk_b2)
    (((refine jT rfl rfl rfl ?_)); refine jjQ (in_galley 4 40 _ [h] _ hR_b2) rfl rfl ?_)
    rintro _ w3 hS3 rfl
    repeat' (first|((first|apply jI|apply jJ|apply jK rfl|apply jL rfl); (first|exact eI rfl|exact eB rfl))|(refine jM ?_; refine jN rfl rfl rfl ?_)|(refine jS ?_; (first|refine jT rfl rfl rfl ?_|refine jU rfl rfl rfl rfl ?_))|(refine jg ?_; refine jh rfl ?_)|(refine jm ?_; refine jn rfl ?_)|(refine jo ?_; refine js rfl ?_)|refine jz ?_|(refine jjA ?_; (first|refine jjB ?_|refine jjC ?_|refine jjF ?_|refine jjJ rfl ?_))|(refine jS ?_; (refine jjM rfl rfl ?_ ?_ <;> intro _))|refine jB rfl rfl ⟨inferInstance, ?_⟩)
    · exact congrArg (Value.int .i64) (gErr_2 ‹_›)
    · (refine jjP (v := .int _ _) rfl (by exact rfl) (by exact rfl) (by exact rfl) (by exact rfl) ?_; intro b3 w_b3 hb_b3 hs_b3 hS_b3 hk_b3; have hR_b3 := RowV.one (agg := false) (k := 1) rfl hk_b3)
      (((refine jT rfl rfl rfl ?_)); refine jjQ (in_galley 1 30 _ [(bs.length : Int)] _ hR_b3) rfl rfl ?_)
      rintro _ w4 hS4 rfl
      repeat' (first|((first|apply jJ|apply jL rfl); (first|exact eI rfl|exact eB rfl))|(refine jS ?_; refine jT rfl rfl rfl ?_)|(refine jo ?_; refine js rfl ?_)|refine jz ?_|(refine jjA ?_; (first|refine jjB ?_|refine jjC ?_|refine jjF ?_|refine jjG ?_))|(refine jjA ?_; (refine jjO rfl ?_ ?_ <;> intro _))|refine jB rfl rfl ⟨inferInstance, ?_⟩)
      · exact congrArg (Value.int .i64) (gErr_3 ‹_›)
      · exact congrArg (Value.int .i64) (gErr_0 ‹_› ‹_› ‹_›)
end Go.Proofs.YtfebegbjggoijaaGreatDoor

/- galley: tears, places. -/
namespace Go.Proofs.YtfebegbjggoijaaGreatDoor
open Go.RowKit

theorem torn1_galley (a b : Int) (w : World) : Ct Tryz.prog 165 [.int .i64 a, .int .i64 b] w fun v _ => v = .bool (decide (1 < a)) := by
  refine Ct.ofW (by simp) ?_
  (refine jjB ?_; refine jjC ?_; apply jJ; exact eB rfl; refine jz ?_; refine jjB ?_; refine jjC ?_; apply jI; exact eI rfl; refine je rfl rfl ?_; apply jJ; exact eB rfl; refine jz ?_; refine jjF ?_; refine jB rfl rfl ⟨inferInstance, ?_⟩)
  exact rfl
theorem torn2_galley (a b : Int) (w : World) : Ct Tryz.prog 166 [.int .i64 a, .int .i64 b] w fun v _ => v = .bool (decide (1 < b)) := by
  refine Ct.ofW (by simp) ?_
  (refine jjB ?_; refine jjC ?_; apply jJ; exact eB rfl; refine jz ?_; refine jjB ?_; refine jjC ?_; apply jI; exact eI rfl; refine je rfl rfl ?_; apply jJ; exact eB rfl; refine jz ?_; refine jjF ?_; refine jB rfl rfl ⟨inferInstance, ?_⟩)
  exact rfl

def tearsB (a b : Int) : Bool := decide (1 < a ∧ 1 < b)

theorem tears_no1 {a b : Int} (h : ¬ 1 < a) : false = tearsB a b := by simp [tearsB, h]
theorem tears_no2 {a b : Int} (h : ¬ 1 < b) : false = tearsB a b := by simp [tearsB, h]
theorem tears_yes {a b : Int} (h : 1 < a) (h' : 1 < b) : true = tearsB a b := by simp [tearsB, h, h']

theorem tears_galley (a b : Int) (w : World) [At w 1 0 [.func (.func 165) #[] ([] : List Value).toArray, .func (.func 166) #[] ([] : List Value).toArray]] : Ct Tryz.prog 83 [.int .i64 a, .int .i64 b] w fun v _ => v = .bool (tearsB a b) := by
  refine Ct.ofW (by simp) ?_
  (refine jjB ?_; refine jjC ?_; apply jJ; exact eB rfl; refine jz ?_; refine jjB ?_; refine jjB ?_; refine jjC ?_; refine jO rfl rfl rfl rfl ?_; apply jI; exact eI rfl; refine jz ?_; refine jjD ?_)
  refine W.loop (9 :: 10 :: 6 :: 11 :: 12 :: 13 :: 14 :: 15 :: 16 :: 4 :: 17 :: 8 :: []) (fun g s' _ => (s' 8 = .int .i64 (0 : Nat) ∧ g = 2) ∨ (s' 8 = .int .i64 (1 : Nat) ∧ g = 1 ∧ 1 < a) ∨ (s' 8 = .int .i64 (2 : Nat) ∧ g = 0 ∧ 1 < a ∧ 1 < b)) 2 (.inl ⟨rfl, rfl⟩) ?_
  rintro g d w' hS (⟨h8, rfl⟩ | ⟨h8, rfl, ha⟩ | ⟨h8, rfl, ha, hb⟩)
  · refine W.fix h8 ?_
    (refine jjB ?_; refine jjC ?_; refine jX rfl rfl ?_; refine jz ?_; refine jjB ?_; refine jjJ rfl ?_; refine jjG ?_; refine jjB ?_; refine jjD ?_; refine jjB ?_; refine jjC ?_)
    refine Ops.indexA (j := 0) (cs' := [.func (.func 165) #[] ([] : List Value).toArray]) rfl rfl rfl rfl rfl rfl ?_
    (apply jjR rfl; (intro _; first|exact eI rfl|exact eB rfl|exact eP rfl|exact eS rfl|exact eT rfl|exact eA rfl|exact eU rfl|exact eF rfl|exact eM rfl|exact eN rfl|exact rfl); exact rfl; exact rfl; exact rfl; exact rfl; intro b1 w_b1 hb_b1 hs_b1 hS_b1 hk_b1; have hA_b1 := Bk.of hk_b1)
    (((refine jz ?_; refine jjB ?_; refine jjC ?_; refine jm ?_; refine jn rfl ?_; refine jN rfl rfl rfl ?_; apply jI; exact eI rfl; apply jI; exact eI rfl)); refine jjQ (torn1_galley a b _) rfl rfl ?_)
    rintro _ w2 hS2 rfl
    repeat' (first|((first|apply jI|apply jJ); (first|exact eI rfl|exact eB rfl))|(refine jW ?_; refine jY rfl rfl (by omega) ?_)|(refine jo ?_; refine jr rfl ?_)|refine jz ?_|(refine jjA ?_; (first|refine jjB ?_|refine jjC ?_|refine jjF ?_|refine jjG ?_))|(refine jjA ?_; (refine jjN rfl ?_ ?_ <;> intro _))|refine jB rfl rfl ⟨inferInstance, ?_⟩)
    · exact congrArg Value.bool (tears_no1 ‹_›)
    · refine ⟨rfl, by ((refine Same.upd rfl ?_; refine Same.upd rfl ?_; refine Same.upd rfl ?_; refine Same.upd rfl ?_; refine Same.upd rfl ?_; refine Same.upd rfl ?_; refine Same.upd rfl ?_; refine Same.upd rfl ?_; refine Same.upd rfl ?_; refine Same.upd rfl ?_; refine Same.upd rfl ?_; refine Same.upd rfl ?_; exact Same.ovN)), 1, by omega, inferInstance, .inr (.inl ⟨rfl, rfl, Decidable.not_not.1 ‹_›⟩)⟩
  · refine W.fix h8 ?_
    (refine jjB ?_; refine jjC ?_; refine jX rfl rfl ?_; refine jz ?_; refine jjB ?_; refine jjJ rfl ?_; refine jjG ?_; refine jjB ?_; refine jjD ?_; refine jjB ?_; refine jjC ?_)
    refine Ops.indexA (j := 1) (cs' := [.func (.func 166) #[] ([] : List Value).toArray]) rfl rfl rfl rfl rfl rfl ?_
    (apply jjR rfl; (intro _; first|exact eI rfl|exact eB rfl|exact eP rfl|exact eS rfl|exact eT rfl|exact eA rfl|exact eU rfl|exact eF rfl|exact eM rfl|exact eN rfl|exact rfl); exact rfl; exact rfl; exact rfl; exact rfl; intro b1 w_b1 hb_b1 hs_b1 hS_b1 hk_b1; have hA_b1 := Bk.of hk_b1)
    (((refine jz ?_; refine jjB ?_; refine jjC ?_; refine jm ?_; refine jn rfl ?_; refine jN rfl rfl rfl ?_; apply jI; exact eI rfl; apply jI; exact eI rfl)); refine jjQ (torn2_galley a b _) rfl rfl ?_)
    rintro _ w2 hS2 rfl
    repeat' (first|((first|apply jI|apply jJ); (first|exact eI rfl|exact eB rfl))|(refine jW ?_; refine jY rfl rfl (by omega) ?_)|(refine jo ?_; refine jr rfl ?_)|refine jz ?_|(refine jjA ?_; (first|refine jjB ?_|refine jjC ?_|refine jjF ?_|refine jjG ?_))|(refine jjA ?_; (refine jjN rfl ?_ ?_ <;> intro _))|refine jB rfl rfl ⟨inferInstance, ?_⟩)
    · exact congrArg Value.bool (tears_no2 ‹_›)
    · refine ⟨rfl, by ((refine Same.upd rfl ?_; refine Same.upd rfl ?_; refine Same.upd rfl ?_; refine Same.upd rfl ?_; refine Same.upd rfl ?_; refine Same.upd rfl ?_; refine Same.upd rfl ?_; refine Same.upd rfl ?_; refine Same.upd rfl ?_; refine Same.upd rfl ?_; refine Same.upd rfl ?_; refine Same.upd rfl ?_; exact Same.ovN)), 0, by omega, inferInstance, .inr (.inr ⟨rfl, rfl, ha, Decidable.not_not.1 ‹_›⟩)⟩
  · refine W.fix h8 ?_
    (refine jjB ?_; refine jjC ?_; refine jX rfl rfl ?_; refine jz ?_; refine jjB ?_; refine jjK rfl ?_; refine jjE ?_; refine jjB ?_; refine jjC ?_; apply jJ; exact eB rfl; refine jz ?_; refine jjF ?_; refine jB rfl rfl ⟨inferInstance, ?_⟩)
    exact congrArg Value.bool (tears_yes ha hb)
end Go.Proofs.YtfebegbjggoijaaGreatDoor

/- galley: plain functions. -/
namespace Go.Proofs.YtfebegbjggoijaaGreatDoor
open Go.RowKit

def endOk (L k : Int) : Bool := decide (k = L) || tearsB k (L - k)
def blockEnds (n L : Int) (m : Nat) : List Int := ((List.range m).filter (fun (k : Nat) => endOk L ((k : Int) + 1))).map (fun (k : Nat) => n + ((k : Int) + 1))
def endsF (n : Int) : List Blk → List Int
  | [] => []
  | b :: bs => blockEnds n b.2 b.2.toNat ++ endsF (n + b.2) bs
def sumL (bs : List Blk) : Int := (bs.map (·.2)).sum

theorem blockEnds_succ (n L : Int) (m : Nat) : blockEnds n L (m + 1) = blockEnds n L m ++ if endOk L ((m : Int) + 1) then [n + ((m : Int) + 1)] else [] := by
  simp only [blockEnds, List.range_succ, List.filter_append, List.map_append]
  congr 1
  by_cases h : endOk L ((m : Int) + 1) = true
  · simp [h]
  · simp [h]
theorem blockEnds_prefix (n L : Int) (k j : Nat) : ∃ t, blockEnds n L (k + j) = blockEnds n L k ++ t := by
  induction j with
  | zero => exact ⟨[], by simp⟩
  | succ j ih =>
    obtain ⟨t, h⟩ := ih
    rw [← Nat.add_assoc, blockEnds_succ, h, List.append_assoc]
    exact ⟨_, rfl⟩
theorem blockEnds_get {n L : Int} {k m : Nat} (hk : k < m) (he : endOk L ((k : Int) + 1) = true) (rest : List Int) : (blockEnds n L m ++ rest)[(blockEnds n L k).length]? = some (n + ((k : Int) + 1)) := by
  obtain ⟨t, h⟩ := blockEnds_prefix n L (k + 1) (m - (k + 1))
  rw [show k + 1 + (m - (k + 1)) = m from by omega, blockEnds_succ, he] at h
  rw [h]
  simp
theorem endsF_split (bs : List Blk) : ∀ (n : Int) (i : Nat), endsF n bs = endsF n (bs.take i) ++ endsF (n + sumL (bs.take i)) (bs.drop i) := by
  induction bs with
  | nil => intro n i; simp [endsF]
  | cons b bs ih =>
    intro n i
    cases i with
    | zero => simp [endsF, sumL]
    | succ i =>
      simp only [List.take_succ_cons, List.drop_succ_cons, endsF, sumL, List.map_cons, List.sum_cons]
      rw [ih (n + b.2) i, List.append_assoc, Int.add_assoc]
      rfl
theorem take_succ_get {α : Type} {l : List α} {i : Nat} (h : i < l.length) : l.take (i + 1) = l.take i ++ [l[i]] := by
  rw [List.take_succ_eq_append_getElem h]
theorem endsF_append (bs cs : List Blk) (n : Int) : endsF n (bs ++ cs) = endsF n bs ++ endsF (n + sumL bs) cs := by
  induction bs generalizing n with
  | nil => simp [endsF, sumL]
  | cons b bs ih =>
    simp only [List.cons_append, endsF, sumL, List.map_cons, List.sum_cons]
    rw [ih, List.append_assoc, Int.add_assoc]
    rfl
theorem sumL_append (bs cs : List Blk) : sumL (bs ++ cs) = sumL bs + sumL cs := by simp [sumL]
theorem endsF_get {bs : List Blk} {i k : Nat} (hi : i < bs.length) (hk : k < (bs[i]).2.toNat) (he : endOk (bs[i]).2 ((k : Int) + 1) = true) :
    (endsF 0 bs)[(endsF 0 (bs.take i)).length + (blockEnds (sumL (bs.take i)) (bs[i]).2 k).length]? = some (sumL (bs.take i) + ((k : Int) + 1)) := by
  rw [endsF_split bs 0 i, List.getElem?_append_right (by omega), Nat.add_sub_cancel_left, Int.zero_add]
  rw [List.drop_eq_getElem_cons hi]
  exact blockEnds_get hk he _
theorem sumL_le {bs : List Blk} (hb : ∀ b ∈ bs, 1 ≤ b.2 ∧ b.2 ≤ 20) : 0 ≤ sumL bs ∧ sumL bs ≤ 20 * bs.length := by
  induction bs with
  | nil => simp [sumL]
  | cons b bs ih =>
    have h1 := hb b (by simp)
    have h2 := ih fun x hx => hb x (by simp [hx])
    simp only [sumL, List.map_cons, List.sum_cons, List.length_cons] at *
    omega
theorem blockEnds_len (n L : Int) (m : Nat) : (blockEnds n L m).length ≤ m := by
  simp only [blockEnds, List.length_map]
  exact Nat.le_trans (List.length_filter_le _ _) (by simp)
theorem endsF_len {bs : List Blk} (hb : ∀ b ∈ bs, 1 ≤ b.2 ∧ b.2 ≤ 20) : ∀ n : Int, (endsF n bs).length ≤ 20 * bs.length := by
  induction bs with
  | nil => intro n; simp [endsF]
  | cons b bs ih =>
    intro n
    have h1 := hb b (by simp)
    have h2 := ih (fun x hx => hb x (by simp [hx])) (n + b.2)
    have h3 := blockEnds_len n b.2 b.2.toNat
    simp only [endsF, List.length_append, List.length_cons]
    omega
/-- The map that says of each number of xs that it may. -/
def mayM (xs : List Int) : List (Int × Value) := xs.foldl (fun m n => mset m n (.bool true)) []
theorem mayM_snoc (xs : List Int) (n : Int) : mayM (xs ++ [n]) = mset (mayM xs) n (.bool true) := by simp [mayM]
theorem mset_mset {κ : Type} [DecidableEq κ] (m : List (κ × Value)) (k : κ) (u v : Value) : mset (mset m k u) k v = mset m k v := by
  induction m with
  | nil => simp [mset]
  | cons p m ih =>
    obtain ⟨x, y⟩ := p
    by_cases h : k = x
    · simp [mset, h]
    · simp [mset, h, ih]
theorem mget_foldl (xs : List Int) : ∀ (m : List (Int × Value)) (n : Int), mget (xs.foldl (fun m n => mset m n (.bool true)) m) n = if n ∈ xs then some (.bool true) else mget m n := by
  induction xs with
  | nil => intro m n; simp
  | cons x xs ih =>
    intro m n
    rw [List.foldl_cons, ih]
    by_cases h : n ∈ xs
    · simp [h]
    · by_cases e : n = x
      · subst e; simp [h, mget_set_same]
      · simp [h, e, mget_set_other _ _ e]
theorem mget_may (xs : List Int) (n : Int) : (mget (mayM xs) n).getD (.bool false) = .bool (decide (n ∈ xs)) := by
  rw [mayM, mget_foldl]
  by_cases h : n ∈ xs <;> simp [h, mget]
def lastZ (xs : List Int) : Int := xs.getLastD 0
theorem lastZ_snoc (xs : List Int) (n : Int) : lastZ (xs ++ [n]) = n := by simp [lastZ, List.getLastD_eq_getLast?]
theorem blockEnds_yes {n L : Int} {k : Nat} (h : endOk L ((k : Int) + 1) = true) : (blockEnds n L (k + 1)).length = (blockEnds n L k).length + 1 := by
  rw [blockEnds_succ, h]; simp
theorem blockEnds_no {n L : Int} {k : Nat} (h : endOk L ((k : Int) + 1) = false) : (blockEnds n L (k + 1)).length = (blockEnds n L k).length := by
  rw [blockEnds_succ, h]; simp
theorem endOk_eq {L k : Int} (h : k = L) : endOk L k = true := by simp [endOk, h]
theorem endOk_ne {L k : Int} (h : ¬ k = L) : endOk L k = tearsB k (L - k) := by simp [endOk, h]
theorem endsF_take_succ {bs : List Blk} {i : Nat} (h : i < bs.length) : (endsF 0 (bs.take (i + 1))).length = (endsF 0 (bs.take i)).length + (blockEnds (sumL (bs.take i)) bs[i].2 bs[i].2.toNat).length := by
  rw [take_succ_get h, endsF_append]
  simp [endsF]
theorem sumL_take_succ {bs : List Blk} {i : Nat} (h : i < bs.length) : sumL (bs.take (i + 1)) = sumL (bs.take i) + bs[i].2 := by
  rw [take_succ_get h, sumL_append]
  simp [sumL]
theorem getLastD_append {α : Type} (l m : List α) (d : α) : (l ++ m).getLastD d = m.getLastD (l.getLastD d) := by
  cases m with
  | nil => simp
  | cons x m => simp [List.getLastD_eq_getLast?, List.getLast?_append]
theorem blockEnds_last {n L : Int} (hL : 1 ≤ L) (d : Int) : (blockEnds n L L.toNat).getLastD d = n + L := by
  obtain ⟨m, hm⟩ : ∃ m, L.toNat = m + 1 := ⟨L.toNat - 1, by omega⟩
  have e : (m : Int) + 1 = L := by omega
  rw [hm, blockEnds_succ, e, endOk_eq rfl, getLastD_append]
  rfl
theorem ends_last {bs : List Blk} (hb : ∀ b ∈ bs, 1 ≤ b.2 ∧ b.2 ≤ 20) : ∀ (n d : Int), bs ≠ [] → (endsF n bs).getLastD d = n + sumL bs := by
  induction bs with
  | nil => intro n d h; exact absurd rfl h
  | cons b bs ih =>
    intro n d _
    have h1 := hb b (by simp)
    simp only [endsF, sumL, List.map_cons, List.sum_cons]
    rw [getLastD_append, blockEnds_last h1.1]
    cases bs with
    | nil => simp [endsF]
    | cons b' bs' =>
      rw [ih (fun x hx => hb x (by simp [hx])) _ _ (by simp)]
      simp only [sumL]
      omega
theorem lastZ_ends {bs : List Blk} (hb : ∀ b ∈ bs, 1 ≤ b.2 ∧ b.2 ≤ 20) (hne : 1 ≤ bs.length) : lastZ (endsF 0 bs) = sumL bs := by
  have := ends_last hb 0 0 (by intro e; subst e; simp at hne)
  rw [Int.zero_add] at this
  exact this
theorem lastZ_bound {bs : List Blk} (hb : ∀ b ∈ bs, 1 ≤ b.2 ∧ b.2 ≤ 20) (hne : 1 ≤ bs.length) (hl : bs.length ≤ 30) : 0 ≤ lastZ (endsF 0 bs) ∧ lastZ (endsF 0 bs) ≤ 1000 := by
  rw [lastZ_ends hb hne]
  have := sumL_le hb
  omega
end Go.Proofs.YtfebegbjggoijaaGreatDoor

/- The proof engine, part 14: a call of a built-in whose value nobody takes; delete; a shift by one. -/
namespace Go.Proofs.YtfebegbjggoijaaGreatDoor
open Go.RowKit

theorem RowV.place' {w : World} {agg : Bool} {k l c j : Nat} {a : Option Addr} {xs : List Value} {x : Value} (h : RowV w agg k (.slice a l c) xs) (hj : xs[j]? = some x) : ∃ b o, a = some ⟨b, o, none⟩ ∧ At w b (o + j * k) x.cells.toList := by
  rcases h.at_ with ⟨rfl, _⟩ | ⟨b, o, c', hv, hl, hc⟩
  · simp at hj
  · simp only [Value.slice.injEq] at hv
    exact ⟨b, o, hv.1, hc j x hj⟩

theorem stepR_scope {P : Program} {b : Frame} {a : Act} {k : List Item} {cs : List Frame} {w : World} {c : Code} : step P (lone (b.atR a (.code (.scope c) :: k)) cs w) = .next (lone (b.atR a (.code c :: .inScope c :: k)) cs w) :=
  step_lone_go (by simp [stepG, stepG.exec, Frame.atR])
theorem stepR_inScope {P : Program} {b : Frame} {a : Act} {k : List Item} {cs : List Frame} {w : World} {c : Code} : step P (lone (b.atR a (.inScope c :: k)) cs w) = .next (lone (b.atR a k) cs w) :=
  step_lone_go (by simp [stepG, stepG.exec, Frame.atR])
/-- A scope out of which nothing jumps. -/
theorem wpIn_scope_straight {F : Fence} {n : Nat} {P : Program} {Q : Exit → Act → World → Prop} {a : Act} {w : World} {c : Code} (h : c.wpIn F n P Q a w) (hng : ∀ l a w, ¬ Q (.goto l) a w) : (Code.scope c).wpIn F n P Q a w := by
  intro b k cs hro hb hr
  have h0 : (lone (b.atR a (.code (.scope c) :: k)) cs w).fenced P F := fenced_calm hb hr rfl
  obtain ⟨e, a₁, w₁, hq, harr⟩ := h b (.inScope c :: k) cs hro hb hr
  cases e with
  | normal => exact ⟨.normal, a₁, w₁, hq, .head h0 stepR_scope (StepsIn.trans harr (.one (fenced_calm hb hr rfl) stepR_inScope))⟩
  | exit id' =>
    have hx : exitTo id' (.inScope c :: k) = exitTo id' k := by simp [exitTo]
    exact ⟨.exit id', a₁, w₁, hq, fun k' hk => .head h0 stepR_scope (harr.1 k' (by rw [hx]; exact hk)),
      fun hr' hk => let ⟨k₁, h1, h2⟩ := harr.2 hr' (by rw [hx]; exact hk); ⟨k₁, h1, .head h0 stepR_scope h2⟩⟩
  | goto l => exact (hng _ _ _ hq).elim
  | ret => exact ⟨_, a₁, w₁, hq, .of_steps (.one h0 stepR_scope) harr⟩
  | panic ch => exact ⟨_, a₁, w₁, hq, .of_steps (.one h0 stepR_scope) harr⟩
  | outgrown => exact ⟨_, a₁, w₁, hq, .of_steps (.one h0 stepR_scope) harr⟩
theorem jjH {P : Program} {ro : Option Nat} {n : Nat} {X : Ctx} {s : Sl} {ds : List Deferred} {w : World} {c : Code} (h : W P ro n c X s ds w) : W P ro n (.scope c) X s ds w := by
  unfold W at h ⊢
  exact wpIn_scope_straight h fun l a w hq => hq
theorem jjI {P : Program} {ro : Option Nat} {n : Nat} {X : Ctx} {s : Sl} {ds : List Deferred} {w : World} {l : Nat} (h : X.nx s ds w) : W P ro n (.label l) X s ds w := by
  unfold W
  exact wpIn_label ⟨s, ds, rfl, h⟩

section rules
variable {P : Program} {ro : Option Nat} {n : Nat} {all rest : List Oper} {K : Sl → World → Prop} {s : Sl} {w : World} {d : Nat} {ty : Nat} {pos : String} {af : Array Edge}
variable {x y : Operand}

theorem Ops.ofRunN {op : Op} {v : Value} {w' : World} (hd : Op.noDefer op = true) (hr : (execOp (ev n s) ⟨none, op, ty, pos, af, none⟩).run P w = .ok (.value v) w') (h : Ops P ro n all rest K s w') : Ops P ro n all (⟨none, op, ty, pos, af, none⟩ :: rest) K s w :=
  Ops.step rfl (OpW.ofRun hd hr h)

section maps
variable {κ : Type} [DecidableEq κ] {encK : κ → Value} {t kt et b : Nat} {m : List (κ × Value)} {k : κ}
theorem Ops.deleteN (hm : MapE encK w b m) (hx : ev n s x = .map (some b)) (hy : ev n s y = encK k) [hk : KeyL P kt encK] [ht : TMap P t kt et] {at2 : Nat}
    (h : ∀ w' o, PutO w w' b o → MapE encK w' b (mdel m k) → Ops P ro n all rest K s w') : Ops P ro n all (⟨none, .call { callee := .builtin .delete, args := #[x, y], argTypes := #[t, at2] }, ty, pos, af, none⟩ :: rest) K s w := by
  obtain ⟨es, c, h1, h2, h3, h4, h5⟩ := hm.h
  have hlt : b < w.heap.size := (Array.getElem?_eq_some_iff.1 h1).1
  have hf := hk.find w k es.toList (m.map (·.1)) (by rw [h2, List.map_map]; rfl)
  have hlen : es.size = m.length := by have := congrArg List.length h2; simpa using this
  cases hidx : (m.map (·.1)).findIdx? (fun x => decide (k = x)) with
  | none =>
    rw [hidx] at hf
    refine Ops.ofRunN (v := .tuple #[]) (w' := w.putObj b (.map es c)) rfl ?_ (h _ _ (putO_putObj _ h1) ?_)
    · simp only [execOp, resolve, invoke, builtin, Sem.run_bind, Sem.run_pure, Result.andThen, List.map_toArray, List.map_cons, List.map_nil, hx, hy, Builtin.delete_, List.getElem?_toArray, List.getElem?_cons_zero, List.getElem?_cons_succ, run_underlying ht.h, run_getObj_m h1, hk.chk, hf, Option.map_none, run_setObj_m _ h1]
    · rw [mdel_none m k hidx]
      exact ⟨es, c, World.putObj_heap_same hlt, h2, h3, h4, h5⟩
  | some i =>
    rw [hidx] at hf
    obtain ⟨_, hi, _⟩ := mset_old m k undef i hidx
    refine Ops.ofRunN (v := .tuple #[]) (w' := w.putObj b (.map (es.eraseIdxIfInBounds i) c)) rfl ?_ (h _ _ (putO_putObj _ h1) ?_)
    · simp only [execOp, resolve, invoke, builtin, Sem.run_bind, Sem.run_pure, Result.andThen, List.map_toArray, List.map_cons, List.map_nil, hx, hy, Builtin.delete_, List.getElem?_toArray, List.getElem?_cons_zero, List.getElem?_cons_succ, run_underlying ht.h, run_getObj_m h1, hk.chk, hf, Option.map_some, run_setObj_m _ h1]
    · rw [mdel_some m k i hidx]
      have hi' : i < es.size := by omega
      have e : (es.eraseIdxIfInBounds i).toList = es.toList.eraseIdx i := by simp [Array.eraseIdxIfInBounds, hi']
      refine ⟨_, c, World.putObj_heap_same hlt, ?_, ?_, ?_, ?_⟩
      · rw [e, map_eraseIdx, h2, ← map_eraseIdx]
      · rw [e, map_eraseIdx, h3, ← map_eraseIdx]
      · intro x hx; rw [e] at hx; exact h4 x (List.mem_of_mem_eraseIdx hx)
      · rw [e, map_eraseIdx]; exact h5.sublist (List.eraseIdx_sublist _ _)
end maps

/-- A number from 0 on, halved by a shift. -/
theorem Ops.half {t t' : Nat} {a : Nat} {i : Int} {k' : IntKind} (hx : ev n s x = .int .u64 i) (hi : i = (a : Int)) (hy : ev n s y = .int k' 1) (h : Ops P ro n all rest K (upd s d (.int .u64 ((a / 2 : Nat) : Int))) w) :
    Ops P ro n all (⟨some d, .binOp .shr t x y t', ty, pos, af, none⟩ :: rest) K s w := by
  subst hi
  refine Ops.ofRun rfl ?_ h
  simp [execOp, hx, hy, go_sem, Op.shift]
  exact Int.fdiv_eq_ediv_of_nonneg _ (by decide)

/-! comparisons that are decided ahead -/
section dec
variable {t t' : Nat} {a b : Int} {k : IntKind}
theorem jjZ (hx : ev n s x = .int k a) (hy : ev n s y = .int k b) (hp : a < b) (h : Ops P ro n all rest K (upd s d (.bool true)) w) : Ops P ro n all (⟨some d, .binOp .lss t x y t', ty, pos, af, none⟩ :: rest) K s w :=
  jX hx hy (by rw [decide_eq_true hp]; exact h)
theorem jja (hx : ev n s x = .int k a) (hy : ev n s y = .int k b) (hp : ¬ (a < b)) (h : Ops P ro n all rest K (upd s d (.bool false)) w) : Ops P ro n all (⟨some d, .binOp .lss t x y t', ty, pos, af, none⟩ :: rest) K s w :=
  jX hx hy (by rw [decide_eq_false hp]; exact h)
theorem jjb (hx : ev n s x = .int k a) (hy : ev n s y = .int k b) (hp : a ≤ b) (h : Ops P ro n all rest K (upd s d (.bool true)) w) : Ops P ro n all (⟨some d, .binOp .leq t x y t', ty, pos, af, none⟩ :: rest) K s w :=
  jd hx hy (by rw [decide_eq_true hp]; exact h)
theorem jjc (hx : ev n s x = .int k a) (hy : ev n s y = .int k b) (hp : ¬ (a ≤ b)) (h : Ops P ro n all rest K (upd s d (.bool false)) w) : Ops P ro n all (⟨some d, .binOp .leq t x y t', ty, pos, af, none⟩ :: rest) K s w :=
  jd hx hy (by rw [decide_eq_false hp]; exact h)
theorem jjd (hx : ev n s x = .int k a) (hy : ev n s y = .int k b) (hp : b < a) (h : Ops P ro n all rest K (upd s d (.bool true)) w) : Ops P ro n all (⟨some d, .binOp .gtr t x y t', ty, pos, af, none⟩ :: rest) K s w :=
  je hx hy (by rw [decide_eq_true hp]; exact h)
theorem jje (hx : ev n s x = .int k a) (hy : ev n s y = .int k b) (hp : ¬ (b < a)) (h : Ops P ro n all rest K (upd s d (.bool false)) w) : Ops P ro n all (⟨some d, .binOp .gtr t x y t', ty, pos, af, none⟩ :: rest) K s w :=
  je hx hy (by rw [decide_eq_false hp]; exact h)
theorem jjf (hx : ev n s x = .int k a) (hy : ev n s y = .int k b) (hp : b ≤ a) (h : Ops P ro n all rest K (upd s d (.bool true)) w) : Ops P ro n all (⟨some d, .binOp .geq t x y t', ty, pos, af, none⟩ :: rest) K s w :=
  jf hx hy (by rw [decide_eq_true hp]; exact h)
theorem jjg (hx : ev n s x = .int k a) (hy : ev n s y = .int k b) (hp : ¬ (b ≤ a)) (h : Ops P ro n all rest K (upd s d (.bool false)) w) : Ops P ro n all (⟨some d, .binOp .geq t x y t', ty, pos, af, none⟩ :: rest) K s w :=
  jf hx hy (by rw [decide_eq_false hp]; exact h)
theorem jjh (hx : ev n s x = .int k a) (hy : ev n s y = .int k b) (hp : a = b) (h : Ops P ro n all rest K (upd s d (.bool true)) w) : Ops P ro n all (⟨some d, .binOp .eql t x y t', ty, pos, af, none⟩ :: rest) K s w :=
  jb hx hy (by rw [decide_eq_true hp]; exact h)
theorem jji (hx : ev n s x = .int k a) (hy : ev n s y = .int k b) (hp : ¬ (a = b)) (h : Ops P ro n all rest K (upd s d (.bool false)) w) : Ops P ro n all (⟨some d, .binOp .eql t x y t', ty, pos, af, none⟩ :: rest) K s w :=
  jb hx hy (by rw [decide_eq_false hp]; exact h)
theorem jjj (hx : ev n s x = .int k a) (hy : ev n s y = .int k b) (hp : ¬ a = b) (h : Ops P ro n all rest K (upd s d (.bool true)) w) : Ops P ro n all (⟨some d, .binOp .neq t x y t', ty, pos, af, none⟩ :: rest) K s w :=
  jc hx hy (by rw [decide_eq_true hp]; exact h)
theorem jjk (hx : ev n s x = .int k a) (hy : ev n s y = .int k b) (hp : ¬ (¬ a = b)) (h : Ops P ro n all rest K (upd s d (.bool false)) w) : Ops P ro n all (⟨some d, .binOp .neq t x y t', ty, pos, af, none⟩ :: rest) K s w :=
  jc hx hy (by rw [decide_eq_false hp]; exact h)
end dec
end rules
end Go.Proofs.YtfebegbjggoijaaGreatDoor

/- The proof engine, part 15: a slice compared with nil; five results; stores into a slice of the call's own. -/
namespace Go.Proofs.YtfebegbjggoijaaGreatDoor
open Go.RowKit

section rules
variable {P : Program} {ro : Option Nat} {n : Nat} {all rest : List Oper} {K : Sl → World → Prop} {s : Sl} {w : World} {d : Nat} {ty : Nat} {pos : String} {af : Array Edge}
variable {x y : Operand}
theorem Ops.eqlNil {t t' e l c : Nat} {a : Option Addr} (hx : ev n s x = .slice a l c) (hy : ev n s y = .slice none 0 0) [ht : TSl P t e] (h : Ops P ro n all rest K (upd s d (.bool a.isNone)) w) :
    Ops P ro n all (⟨some d, .binOp .eql t x y t', ty, pos, af, none⟩ :: rest) K s w := by
  refine Ops.ofRun rfl ?_ h
  have hg : (eqGuard .eql t x y (.slice a l c) (.slice none 0 0)).run P w = .ok () w := by cases a <;> simp [eqGuard]
  have hr := Lib.run_eql_slice_nil w t e a l c 0 0 ht.h
  simp [execOp, hx, hy, hg, hr]

theorem flat_len {k : Nat} : ∀ {xs : List Value}, (∀ x ∈ xs, x.cells.size = k) → (xs.flatMap (·.cells.toList)).length = xs.length * k
  | [], _ => by simp
  | y :: xs, h => by
    rw [List.flatMap_cons, List.length_append, flat_len fun x hx => h x (List.mem_cons_of_mem _ hx), Array.length_toList, h y List.mem_cons_self, List.length_cons, Nat.add_mul]; omega
theorem flat_set {k i : Nat} {u : Value} (hi : i < k) : ∀ {xs : List Value} {j : Nat} {x x' : Value}, (∀ x ∈ xs, x.cells.size = k) → xs[j]? = some x → x'.cells.toList = x.cells.toList.set i u →
    ((xs.set j x').flatMap (·.cells.toList)) = (xs.flatMap (·.cells.toList)).set (j * k + i) u
  | [], j, x, x', _, hx, _ => by simp at hx
  | y :: xs, j, x, x', hk, hx, he => by
    have hy : y.cells.toList.length = k := by simpa using hk y List.mem_cons_self
    cases j with
    | zero =>
      simp at hx; subst hx
      rw [List.set_cons_zero, List.flatMap_cons, List.flatMap_cons, he, Nat.zero_mul, Nat.zero_add, List.set_append_left _ _ (by omega)]
    | succ j =>
      have := flat_set hi (fun z hz => hk z (List.mem_cons_of_mem _ hz)) (by simpa using hx : xs[j]? = some x) he
      rw [List.set_cons_succ, List.flatMap_cons, List.flatMap_cons, this, List.set_append_right _ _ (by rw [hy, Nat.add_mul]; omega)]
      congr 2
      rw [hy, Nat.add_mul]; omega

/-- A slice from a place on; what it reads as holds in an elder world, too. -/
theorem Ops.sliceL2 {agg : Bool} {t e k bytes c lo : Nat} {z : Value} {a : Option Addr} {xs : List Value} {i : Int} {k1 : IntKind} {xl : Operand} {w0 : World} (hrow : RowV w agg k (.slice a xs.length c) xs) (hrow0 : RowV w0 agg k (.slice a xs.length c) xs) (hx : ev n s x = .slice a xs.length c) (hl : ev n s xl = .int k1 i)
    (hi' : i = (lo : Int)) (h1 : lo ≤ xs.length) [ht : TSl P t e] [hz : TS P e z k bytes]
    (h : ∀ v, RowV w0 agg k v (xs.drop lo) → (∃ a' c', v = .slice a' (xs.length - lo) c') → Ops P ro n all rest K (upd s d v) w) : Ops P ro n all (⟨some d, .slice t x (some xl) none none, ty, pos, af, none⟩ :: rest) K s w := by
  subst hi'
  obtain ⟨_, hlc⟩ := hrow.cap
  have hp := hrow0.part lo xs.length h1 (Nat.le_refl _) (c - lo) (by omega) (if c = lo then a else a.map (·.add (lo * k))) (fun hlt => by rw [if_neg (by omega)])
  rw [List.take_length] at hp
  refine Ops.ofRun (v := .slice (if c = lo then a else a.map (·.add (lo * k))) (xs.length - lo) (c - lo)) (w' := w) rfl ?_ (h _ hp ⟨_, _, rfl⟩)
  simp [execOp, Instr.sliceAt, Instr.slice, Instr.sliceBounds, Instr.sliceBound, hx, hl, run_underlying ht.h, asIntOf, h1, run_sizeOf' w hz]

/-- A store into one cell of an element of a slice of the call's own. -/
theorem Ops.storeL {B e k g j i bytes t : Nat} {agg : Bool} {v u z : Value} {xs : List Value} {X X' : Value} (hown : OwnL w B e agg k v xs) (hg : v.ownBlock = some g) (hX : xs[j]? = some X) (hX' : fitsV agg k X' = true) (hc : X'.cells.toList = X.cells.toList.set i u) (hi : Nat.blt i k = true)
    (hx : ev n s x = .pointer (some ⟨g, j * k + i, none⟩)) (hy : ev n s y = u) (huc : u.cells = #[u]) (hu1 : u.oneCell' = true) [hz : TS P t z 1 bytes]
    (h : ∀ w' o, PutO w w' g o → OwnL w' B e agg k v (xs.set j X') → Ops P ro n all rest K s w') : Ops P ro n all (⟨none, .store t x y, ty, pos, af, none⟩ :: rest) K s w := by
  have hi : i < k := by simpa using hi
  rcases hown.own.2 with ⟨rfl, _⟩ | ⟨g', cap, cur, rfl, hB, hh, hn, hm, hs, ht⟩
  · simp [Value.ownBlock] at hg
  · have hgg : g' = g := by simpa [Value.ownBlock] using hg
    subst hgg
    have hjl : j < xs.length := (List.getElem?_eq_some_iff.1 hX).1
    have hfl := flat_len (k := k) (xs := xs) fun y hy => fitsV_cells (hown.fit y hy)
    have hjk : j * k + i < xs.length * k := by
      have : (j + 1) * k ≤ xs.length * k := Nat.mul_le_mul_right k hjl
      rw [Nat.add_mul] at this; omega
    have hcl : xs.length * k ≤ cap * k := Nat.mul_le_mul_right k hn
    have hbk : Bk w g' cur.toList e := ⟨by simpa using hh⟩
    refine Ops.store hx hy (by rw [huc]; rfl) (Nat.ble_eq_true_of_le (by rw [Array.length_toList, hs]; omega)) (by rw [huc]; simp [hu1]) ?_
    intro w' hp
    refine h w' _ hp ⟨⟨?_, .inr ⟨g', cap, (cur.toList.take (j * k + i) ++ u.cells.toList ++ cur.toList.drop (j * k + i + 1)).toArray, by rw [List.length_set], hB, hp.new, by rw [List.length_set]; exact hn, hm, ?_, ?_⟩⟩, ?_, by rw [List.length_set]; exact hown.len⟩
    · rw [flat_set hi (fun y hy => fitsV_cells (hown.fit y hy)) hX hc, List.length_set, List.length_set]; exact hfl
    · have hcs : cur.toList.length = cap * k := by simpa using hs
      rw [huc]
      simp only [List.size_toArray, List.length_append, List.length_take, List.length_drop, List.length_cons, List.length_nil]
      omega
    · have hcs : cur.toList.length = cap * k := by simpa using hs
      rw [List.length_set, flat_set hi (fun y hy => fitsV_cells (hown.fit y hy)) hX hc, ← ht, huc]
      have e1 : cur.toList.take (j * k + i) ++ #[u].toList ++ cur.toList.drop (j * k + i + 1) = cur.toList.set (j * k + i) u := by
        rw [List.set_eq_take_append_cons_drop, if_pos (by omega)]
        simp
      rw [e1, List.take_set]
    · intro y hy
      rcases List.mem_or_eq_of_mem_set hy with h1 | h1
      · exact hown.fit y h1
      · subst h1; exact hX'
end rules

/-- Results: a variable of its own (a struct), a slot, and three more. -/
theorem fin5C {P : Program} {fn : Func} {n t ty b size bytes t1 t2 t3 t4 : Nat} {R : Value → World → Prop} {s : Sl} {w : World} {cs : List Value} {dd : TypeDesc} {z : Value} (hf : fn.results = #[.cell t ty, .tmp t1, .tmp t2, .tmp t3, .tmp t4]) (ht : Nat.blt t n = true) (h1 : Nat.blt t1 n = true) (h2 : Nat.blt t2 n = true) (h3 : Nat.blt t3 n = true) (h4 : Nat.blt t4 n = true)
    (hs : s t = .pointer (some ⟨b, 0, none⟩)) (hb : At w b 0 cs) [hu : TU P ty dd] (hag : TypeDesc.isAgg dd = true) [hz : TS P ty z size bytes] (hl : cs.length = size)
    (h : R (.tuple #[.agg cs.toArray, s t1, s t2, s t3, s t4]) w) : finR P fn n R s [] w := by
  unfold finR
  refine ⟨rfl, _, ?_, h⟩
  have e : (mkA n s []).tmps[t]?.getD undef = .pointer (some ⟨b, 0, none⟩) := by
    rw [mkA_getElem?, if_pos (by simpa using ht)]; exact hs
  have e1 : (mkA n s []).tmps[t1]?.getD undef = s t1 := by rw [mkA_getElem?, if_pos (by simpa using h1)]; rfl
  have e2 : (mkA n s []).tmps[t2]?.getD undef = s t2 := by rw [mkA_getElem?, if_pos (by simpa using h2)]; rfl
  have e3 : (mkA n s []).tmps[t3]?.getD undef = s t3 := by rw [mkA_getElem?, if_pos (by simpa using h3)]; rfl
  have e4 : (mkA n s []).tmps[t4]?.getD undef = s t4 := by rw [mkA_getElem?, if_pos (by simpa using h4)]; rfl
  have := run_loadVar_agg (P := P) (t := ty) (w := w) (b := b) (o := 0) hu hag hz (cs := cs) hl (fun i v hv => by have := hb.h i v hv; simpa using this)
  simp [results, hf, e, e1, e2, e3, e4, asAddr, this]
end Go.Proofs.YtfebegbjggoijaaGreatDoor

/- The proof engine, part 16: all but one block stays; a row of numbers that is sorted in its place. -/
namespace Go.Proofs.YtfebegbjggoijaaGreatDoor
open Go.RowKit

abbrev intV (x : Int) : Value := .int .i64 x
def encI (x : Int) : List Value := [.int .i64 x]
theorem one_int (x : Int) : [intV x].all (fun v => v.cells.toList.all (·.oneCell')) = true := rfl
theorem all_ints' (xs : List Int) : (xs.map intV).all (fun v => v.cells.toList.all (·.oneCell')) = true := by
  rw [List.all_eq_true]; intro q hq; obtain ⟨y, _, rfl⟩ := List.mem_map.1 hq; rfl
theorem OwnL.app {w w' : World} {B B' e : Nat} {agg : Bool} {k : Nat} {v v' : Value} {xs : List Value} (h : OwnL w B e agg k v xs) (a : App B' w w' v') (hne : ∀ g, v.ownBlock = some g → v'.ownBlock ≠ some g) : OwnL w' B e agg k v xs :=
  h.kept fun g hg => a.g.block g (h.block g hg).2 fun e => hne g hg e.symm
theorem row_none {w : World} {agg : Bool} {k l c : Nat} {xs : List Value} (h : RowV w agg k (.slice none l c) xs) : xs = [] := by
  rcases h.at_ with ⟨e, _⟩ | ⟨b, o, c', hv, _⟩
  · exact e
  · simp at hv

/-- All is as it was but block kb, and new blocks. -/
structure Only (kb : Nat) (w w' : World) : Prop where
  os : w'.os = w.os
  tape : w'.tape = w.tape
  output : w'.output = w.output
  size : w.heap.size ≤ w'.heap.size
  other : ∀ k, k < w.heap.size → k ≠ kb → w'.heap[k]? = w.heap[k]?
theorem Only.ofExt {kb : Nat} {w w' : World} (e : Ext w w') : Only kb w w' := ⟨e.b.os, e.b.tape, e.b.output, e.size, fun _ hk _ => e.block hk⟩
theorem Only.ofPut {kb : Nat} {w w' : World} {o : Obj} (p : PutO w w' kb o) : Only kb w w' := ⟨p.os, p.tape, p.output, by rw [p.size]; exact Nat.le_refl _, fun k _ hk => p.other k hk⟩
theorem Only.trans {kb : Nat} {a b c : World} (h : Only kb a b) (k : Only kb b c) : Only kb a c :=
  ⟨k.os.trans h.os, k.tape.trans h.tape, k.output.trans h.output, Nat.le_trans h.size k.size, fun i hi hne => (k.other i (by have := h.size; omega) hne).trans (h.other i hi hne)⟩
theorem Only.ext {kb : Nat} {w0 w w' : World} (h : Only kb w w') (e : Ext w0 w) (hk : w0.heap.size ≤ kb) : Ext w0 w' :=
  ⟨⟨h.os.trans e.b.os, h.tape.trans e.b.tape, h.output.trans e.b.output, Nat.le_trans e.size h.size, fun k hk' => (h.other k (by have := e.size; omega) (by omega)).trans (e.block hk')⟩⟩
theorem Only.at_ {kb : Nat} {w w' : World} {b o : Nat} {cs : List Value} (h : Only kb w w') (ha : At w b o cs) (hne : b ≠ kb) : At w' b o cs := ⟨fun i v hv => by
  have h1 := ha.h i v hv
  rw [← h1]
  exact World.cell?_of_block (a := ⟨b, o + i, none⟩) (h.other b (lt_of_cell h1) hne)⟩
theorem Only.bk {kb : Nat} {w w' : World} {b e : Nat} {cs : List Value} (h : Only kb w w') (ha : Bk w b cs e) (hne : b ≠ kb) : Bk w' b cs e := ⟨(h.other b ha.lt hne).trans ha.h⟩
theorem Only.map {kb : Nat} {κ : Type} {encK : κ → Value} {w w' : World} {b : Nat} {m : List (κ × Value)} (h : Only kb w w') (ha : MapE encK w b m) (hne : b ≠ kb) : MapE encK w' b m := by
  have hl := ha.lt
  obtain ⟨es, c, h1, h2⟩ := ha.h
  exact ⟨es, c, (h.other b hl hne).trans h1, h2⟩
theorem Only.own {kb : Nat} {w w' : World} {B e : Nat} {agg : Bool} {k : Nat} {v : Value} {xs : List Value} (h : Only kb w w') (ho : OwnL w B e agg k v xs) (hB : kb < B) : OwnL w' B e agg k v xs :=
  ho.kept fun g hg => h.other g (ho.block g hg).2 (by have := (ho.block g hg).1; omega)

theorem Only.own' {kb : Nat} {w w' : World} {B e : Nat} {agg : Bool} {k : Nat} {v : Value} {xs : List Value} (h : Only kb w w') (ho : OwnL w B e agg k v xs) (hn : v.ownBlock ≠ some kb) : OwnL w' B e agg k v xs :=
  ho.kept fun g hg => h.other g (ho.block g hg).2 (fun e => hn (by rw [hg, e]))

theorem Only.row {kb : Nat} {w w' : World} {agg : Bool} {k : Nat} {v : Value} {xs : List Value} (h : Only kb w w') (hr : RowV w agg k v xs) (hne : v.ownBlock ≠ some kb) : RowV w' agg k v xs :=
  ⟨hr.len, hr.fit, hr.at_.imp id fun ⟨b, o, c, hv, hl, hc⟩ => ⟨b, o, c, hv, hl, fun j x hx => h.at_ (hc j x hx) (fun e => by subst e; subst hv; exact hne rfl)⟩⟩
theorem App.at_ {B : Nat} {w w' : World} {v : Value} {b o : Nat} {cs : List Value} (a : App B w w' v) (h : At w b o cs) (hne : v.ownBlock ≠ some b) : At w' b o cs := ⟨fun i u hv => by
  have h1 := h.h i u hv
  obtain ⟨ob, hb, _⟩ := cell_block h1
  rw [← h1]
  exact World.cell?_of_block (a := ⟨b, o + i, none⟩) ((a.other hb hne).trans hb.symm)⟩
theorem Only.app {kb B : Nat} {w0 w w' : World} {v : Value} (h : Only kb w0 w) (a : App B w w' v) (hB : w0.heap.size ≤ B) : Only kb w0 w' :=
  ⟨a.g.os.trans h.os, a.g.tape.trans h.tape, a.g.output.trans h.output, Nat.le_trans h.size a.g.size, fun k hk hne => (a.g.block k (by have := h.size; omega) (fun e => by have := (a.from_ k e.symm).1; omega)).trans (h.other k hk hne)⟩


/-! ### A slice of numbers in a block of the call's own, written in its place -/
abbrev SD (e : Nat) (w : World) (b n c : Nat) (l : List Int) : Prop := l.length = n ∧ OwnL w b e false 1 (.slice (some ⟨b, 0, none⟩) n c) (l.map intV)
theorem SD.ext {e b n c : Nat} {w w' : World} {l : List Int} (h : SD e w b n c l) (x : Ext w w') : SD e w' b n c l := ⟨h.1, h.2.ext x⟩
theorem SD.lt {e b n c : Nat} {w : World} {l : List Int} (h : SD e w b n c l) : b < w.heap.size := (h.2.block b rfl).2
theorem SD.get {e b n c i : Nat} {w : World} {l : List Int} {x : Int} (h : SD e w b n c l) (hx : l[i]? = some x) : w.cell? ⟨b, 0 + i, none⟩ = some (intV x) := by
  have := h.2.row
  obtain ⟨b', o, he, hA⟩ := RowV.place' (j := i) (x := intV x) this (by simp [hx])
  cases he
  have h0 := hA.h 0 (intV x) rfl
  simpa using h0
theorem wrap64 {i : Int} (h0 : 0 ≤ i) (h1 : i ≤ 9223372036854775807) : IntKind.wrap .u64 i = i := by
  rw [IntKind.wrap_u64]; omega
theorem wrapi {i : Int} (h0 : 0 ≤ i) (h1 : i ≤ 9223372036854775807) : IntKind.wrap .i64 i = i := by
  rw [IntKind.wrap_i64]; omega

theorem OwnL.fr {M : World → Nat → Prop} {w w' : World} {B e : Nat} {agg : Bool} {k : Nat} {v : Value} {xs : List Value} (h : OwnL w B e agg k v xs) (f : Fr M w w') (hm : ∀ g, v.ownBlock = some g → ¬ M w g) : OwnL w' B e agg k v xs := by
  rcases h.own.2 with hn | ⟨g, cap, cur, rfl, hB, hg, rest⟩
  · exact ⟨⟨h.own.1, .inl hn⟩, h.fit, h.len⟩
  · exact h.kept fun g' e => by cases e; exact (f.keep g _ hg rfl (hm g rfl)).trans hg.symm
theorem OwnL.self {w : World} {B e l c k : Nat} {agg : Bool} {a : Option Addr} {xs : List Value} (h : OwnL w B e agg k (.slice a l c) xs) (h0 : 0 < xs.length) : ∃ g, a = some ⟨g, 0, none⟩ ∧ B ≤ g ∧ OwnL w g e agg k (.slice (some ⟨g, 0, none⟩) l c) xs := by
  rcases h.own.2 with ⟨e0, _⟩ | ⟨g, cap, cur, e0, hB, rest⟩
  · have h1 := h.row.cap.1
    simp only [Value.slice.injEq] at e0
    omega
  · have e1 := e0
    simp only [Value.slice.injEq] at e1
    obtain ⟨rfl, _, _⟩ := e1
    exact ⟨g, rfl, hB, ⟨⟨h.own.1, .inr ⟨g, cap, cur, e0, Nat.le_refl _, rest⟩⟩, h.fit, h.len⟩⟩
section rules
variable {P : Program} {ro : Option Nat} {n : Nat} {all rest : List Oper} {K : Sl → World → Prop} {s : Sl} {w : World} {ty : Nat} {pos : String} {af : Array Edge} {x y : Operand}
theorem OpsD.store {e b m c i t bytes : Nat} {l : List Int} {u : Int} {z : Value} (hD : SD e w b m c l) (hi : i < m) (hx : ev n s x = .pointer (some ⟨b, 0 + i, none⟩)) (hy : ev n s y = .int .i64 u) [hz : TS P t z 1 bytes]
    (h : ∀ w', Only b w w' → SD e w' b m c (l.set i u) → Ops P ro n all rest K s w') : Ops P ro n all (⟨none, .store t x y, ty, pos, af, none⟩ :: rest) K s w := by
  have hil : i < l.length := by rw [hD.1]; exact hi
  rw [Nat.zero_add] at hx
  refine Ops.storeL (B := b) (e := e) (agg := false) (k := 1) (xs := l.map intV) (u := intV u) (X := intV l[i]) (X' := intV u) (j := i) (i := 0) (g := b) hD.2 rfl (by simp [hil]) rfl rfl rfl (by rw [Nat.mul_one, Nat.add_zero]; exact hx) hy rfl rfl ?_
  intro w' o hp hO
  refine h w' (.ofPut hp) ⟨by rw [List.length_set]; exact hD.1, ?_⟩
  rw [List.map_set]; exact hO
end rules

/-- A function that compares numbers by their keys, in all worlds that come of w by writing block b alone. -/
structure CmpE (P : Program) (g : Nat) (cap : List Value) (k : Int → Int) (b : Nat) (w : World) (p : Int → Prop) : Prop where
  h : ∀ w', Only b w w' → ∀ x y, p x → p y → Ct P g ([intV x, intV y] ++ cap) w' fun v _ => v = .int .i64 (if k x < k y then -1 else if k y < k x then 1 else 0)
theorem CmpE.only {P : Program} {g : Nat} {cap : List Value} {k : Int → Int} {b : Nat} {w w' : World} {p : Int → Prop} (h : CmpE P g cap k b w p) (o : Only b w w') : CmpE P g cap k b w' p := ⟨fun w2 o2 => h.h w2 (o.trans o2)⟩
end Go.Proofs.YtfebegbjggoijaaGreatDoor

/- slices.AppendSeq, slices.Collect (of int). -/
namespace Go.Proofs.YtfebegbjggoijaaGreatDoor
open Go.RowKit


theorem AppendSeq_int (xs : List Int) (gf : Nat) (lb : List Value) (Fct : World → Prop) (w : World) (hit : Iter Tryz.prog gf lb xs encI Fct) [he : Enters Tryz.prog gf] (hF : ∀ w', Ext w w' → Fct w') (hlen : xs.length ≤ 1000000) :
    Ct Tryz.prog 81 [.slice none 0 0, .func (.func gf) #[] lb.toArray] w fun v w' => OwnL w' w.heap.size 3 false 1 v (xs.map intV) := by
  refine Ct.ofWM (by simp) ?_
  (refine jjB ?_; refine jjC ?_)
  (refine jy rfl ?_; intro b2 w_b2 hb_b2 hs_b2 hS_b2 hk_b2; have hA_b2 := At.ofBlock hk_b2)
  have hBk := Bk.of (cs := [.slice none 0 0]) hk_b2
  (apply jJ; exact eS rfl; refine jz ?_; refine jjB ?_; refine jjB ?_; refine jjC ?_; apply jI; exact eF rfl; refine jz ?_; refine jjD ?_)
  have hsz := hS_b2.size
  refine W.rangeM w.heap.size xs encI hit rfl (fun _ => rfl) trivial inferInstance hsz
    (fun i V => Ext w V ∧ w_b2.heap.size ≤ V.heap.size ∧ ∃ v, Bk V b2 [v] 29 ∧ OwnL V w_b2.heap.size 3 false 1 v ((xs.take i).map intV))
    (fun _ _ _ => False) ?hJ (fun _ _ _ _ h _ => h) (fun i V h => hF V h.1) ⟨inferInstance, Nat.le_refl _, _, hBk, OwnL.nil _ _ _ _ _⟩
    (MB w_b2.heap.size b2) ?hW1 ?hW2 ?hW3 (fun x s' _ => s' 2 = .pointer (some ⟨b2, 0, none⟩) ∧ s' 5 = .int .i64 x) (fun _ _ _ _ h _ => h) ?hassign ?hbody ?hdone (fun _ _ _ _ _ _ _ h => h.elim)
  case hJ =>
    rintro i V V' ⟨h1, h2, v, h3, h4⟩ g
    exact ⟨h1.ofGrow g hsz, Nat.le_trans h2 g.size, v, h3.grow g, h4.grow g⟩
  case hW1 => exact fun i V k ⟨h1, h2, v, h3, h4⟩ h => MB.lt h2 h3 h4 h
  case hW2 => exact fun i V V' k ⟨h1, h2, v, h3, h4⟩ g h => MB.back h3 g h
  case hW3 => exact fun V V' k g h => .inl (MB.grow (by omega) g h)
  case hassign =>
    intro l i x V hx hJ hl hr
    (refine jjC ?_; apply jJ; exact eI rfl; refine jz ?_)
    exact ⟨rfl, Tr.refl _, Fr.refl _ _, hJ, rfl, rfl⟩
  case hbody =>
    rintro l i x s' V hx ⟨h1, h2, v, h3, h4⟩ ⟨ha2, ha5⟩ hl hr
    have hlt := (List.getElem?_eq_some_iff.1 hx).1
    refine W.fix (d := 2) ha2 (W.fix (d := 5) ha5 ?_)
    (refine jjD ?_; refine jjC ?_; refine jN rfl rfl rfl ?_; apply jI; exact eI rfl)
    (refine jjP (v := .int _ _) rfl (by exact rfl) (by exact rfl) (by exact rfl) (by exact rfl) ?_; intro b10 w_b10 hb_b10 hs_b10 hS_b10 hk_b10; have hR_b10 := RowV.one (agg := false) (k := 1) rfl hk_b10)
    have hown := h4.ext hS_b10.ext
    have hz10 := hS_b10.size
    refine Ops.appendL hown (by omega) hR_b10 rfl rfl rfl rfl (one_int x) ?_ ?_ ?_
    · simp; omega
    · simp; omega
    intro v2 V2 hA hO _ hown2
    obtain ⟨a2, c2, rfl⟩ := hO.slice
    have hb2 : ∀ g, v.ownBlock = some g → w_b2.heap.size ≤ g := fun g hg => (h4.block g hg).1
    have hne : v.ownBlock ≠ some b2 := fun e => by have := hb2 b2 e; omega
    have hB2 : Bk V2 b2 [v] 29 := hA.bk (h3.ext hS_b10.ext) hne
    skip
    refine Ops.store rfl rfl rfl rfl rfl ?_
    intro V3 hp3
    (refine jz ?_)
    have hB3 : Bk V3 b2 [.slice a2 (List.map intV (xs.take i) ++ [intV x]).length c2] 29 := ⟨hp3.new⟩
    have hne2 : (Value.slice a2 (List.map intV (xs.take i) ++ [intV x]).length c2).ownBlock ≠ some b2 := fun e => by rcases hown2 with h | h <;> rw [h] at e; exact hne e; cases e; omega
    refine ⟨(hS_b10.ext.tr.trans hA.tr).trans (hp3.tr ⟨_, hB2.h, rfl⟩), ?_, hp3.ext (hA.ext (h1.trans hS_b10.ext) hsz) (by omega), ?_, _, hB3, ?_⟩
    · exact (Fr.ofExt hS_b10.ext fun k hk => .inl (MB.same h3 (h3.ext hS_b10.ext) hk)).trans (MB.append (by omega) (h3.ext hS_b10.ext) hA hp3 hB3 hown2)
    · have := hA.g.size; rw [hp3.size]; omega
    · rw [take_snoc_get hx, List.map_append]
      exact hO.put hp3 hne2
  case hdone =>
    rintro ds' V hmk htr ⟨h1, h2, v, h3, h4⟩
    have := h3
    (refine jjB ?_; refine jjC ?_; refine jN rfl rfl rfl ?_; apply jJ; exact rfl; refine jz ?_; refine jjF ?_)
    refine fin1M rfl rfl hmk fun w' g => ⟨h1.ofGrow g (Nat.le_refl _), ?_⟩
    rw [List.take_length] at h4
    exact (h4.grow g).mono hsz

theorem Collect_int (xs : List Int) (gf : Nat) (lb : List Value) (Fct : World → Prop) (w : World) (hit : Iter Tryz.prog gf lb xs encI Fct) [he : Enters Tryz.prog gf] (hF : ∀ w', Ext w w' → Fct w') (hlen : xs.length ≤ 1000000) :
    Ct Tryz.prog 49 [.func (.func gf) #[] lb.toArray] w fun v w' => OwnL w' w.heap.size 3 false 1 v (xs.map intV) := by
  refine Ct.ofW (by simp) ?_
  (((refine jjB ?_; refine jjC ?_; apply jJ; exact eS rfl; refine jz ?_; refine jjB ?_; refine jjC ?_; apply jI; exact eF rfl)); refine jjQ (AppendSeq_int xs gf lb Fct w hit hF hlen) rfl rfl ?_)
  rintro v w2 hS2 hO
  (apply jJ; exact rfl; refine jz ?_; refine jjF ?_; refine jB rfl rfl ⟨inferInstance, ?_⟩)
  exact hO
end Go.Proofs.YtfebegbjggoijaaGreatDoor

/- galley: places. -/
namespace Go.Proofs.YtfebegbjggoijaaGreatDoor
open Go.RowKit

abbrev tornC : List Value := [.func (.func 165) #[] ([] : List Value).toArray, .func (.func 166) #[] ([] : List Value).toArray]

/-- The form at pf, named by the variable at bf: a galley with height h and blocks bs. -/
structure FormI (bf pf : Nat) (h : Int) (a : Option Addr) (c : Nat) (bs : List Blk) (w : World) : Prop where
  box : At w bf 0 [.pointer (some ⟨pf, 0, none⟩)]
  frm : At w pf 0 [.int .i64 h, .slice a bs.length c]
  row : RowV w true 2 (.slice a bs.length c) (bs.map encB)
  trn : At w 1 0 tornC

theorem places1_galley (bf pf : Nat) (h : Int) (a : Option Addr) (c : Nat) (bs : List Blk) (hb : ∀ b ∈ bs, 1 ≤ b.2 ∧ b.2 ≤ 20) (hl : bs.length ≤ 30) :
    Iter Tryz.prog 82 [.pointer (some ⟨bf, 0, none⟩)] (endsF 0 bs) encI (FormI bf pf h a c bs) := by
  intro l J Jx M w hJ hJx hF hM1 hM2 hY h0
  have hF0 := hF 0 w h0
  have := hF0.box
  have := hF0.frm
  refine Calls.ofW (by simp) ?_
  (refine jjB ?_; refine jjC ?_; apply jJ; exact eI rfl; refine jz ?_; refine jjB ?_; refine jjC ?_; refine jN rfl rfl rfl ?_; refine jw rfl ?_; refine jm ?_; refine jn rfl ?_; refine jm ?_; refine jn rfl ?_; refine jN rfl rfl rfl ?_; refine jh rfl ?_; apply jI; exact eI rfl; refine jz ?_; refine jjD ?_)
  refine W.loopG (15 :: 16 :: 17 :: 5 :: 18 :: 19 :: 20 :: 21 :: 22 :: 6 :: 23 :: 24 :: 7 :: 25 :: 26 :: 27 :: 28 :: 29 :: 30 :: 31 :: 32 :: 33 :: 34 :: 35 :: 36 :: 37 :: 38 :: 39 :: 40 :: 41 :: 42 :: 43 :: 44 :: 45 :: 46 :: 47 :: 48 :: 49 :: 3 :: 50 :: 14 :: []) (fun g s' w' => ∃ i : Nat, s' 14 = .int .i64 i ∧ s' 3 = .int .i64 (sumL (bs.take i)) ∧ i ≤ bs.length ∧ g = bs.length - i ∧ J (endsF 0 (bs.take i)).length w') bs.length ⟨0, rfl, rfl, by omega, rfl, by simpa [endsF] using h0⟩ ?_
  rintro g d w' ⟨i, h14, h3, hi, rfl, hJi⟩
  refine W.fix h14 (W.fix (d := 3) h3 ?_)
  repeat' (first|(refine jW ?_; refine jX rfl rfl ?_)|refine jz ?_|(refine jjA ?_; (first|refine jjB ?_|refine jjC ?_|refine jjD ?_|refine jjE ?_|refine jjG ?_))|(refine jjA ?_; (refine jjN rfl ?_ ?_ <;> intro _))|refine jA rfl ⟨⟨_, rfl⟩, ?_⟩)
  · have hi' : i < bs.length := by omega
    have hFi := hF _ _ hJi
    refine Ops.indexRow rfl rfl hFi.row rfl (map_get hi') ?_
    intro b0 o0 hA0
    refine Ops.loadV rfl hA0 (by exact hFi.row.get (List.getElem_mem hi')) ?_
    (apply jjR rfl; (intro _; first|exact eI rfl|exact eB rfl|exact eP rfl|exact eS rfl|exact eT rfl|exact eA rfl|exact eU rfl|exact eF rfl|exact eM rfl|exact eN rfl|exact rfl); exact rfl; exact rfl; exact rfl; exact rfl; intro b5 w_b5 hb_b5 hs_b5 hS_b5 hk_b5; have hA_b5 := Bk.of hk_b5)
    have hJ2 := hJ _ _ _ hJi (Step.ext hS_b5)
    have hM5 : ¬ M w_b5 b5 := fun h => by have := hM1 _ _ _ hJi (hM2 _ _ _ _ hJi (Step.ext hS_b5) h); omega
    have hL := hb _ (List.getElem_mem hi')
    have hn := sumL_le (bs := bs.take i) (fun x hx => hb x (List.mem_of_mem_take hx))
    have hti : (bs.take i).length ≤ 30 := by simp; omega
    (refine jz ?_; refine jjB ?_; refine jjB ?_; refine jjC ?_; refine jm ?_; refine jn rfl ?_; refine jN rfl rfl rfl ?_; apply jI; exact eI rfl; refine jz ?_; refine jjD ?_)
    refine W.loopG (21 :: 22 :: 6 :: 23 :: 24 :: 7 :: 25 :: 26 :: 27 :: 28 :: 29 :: 30 :: 31 :: 32 :: 33 :: 34 :: 35 :: 36 :: 37 :: 38 :: 39 :: 40 :: 41 :: 42 :: 43 :: 44 :: 45 :: 20 :: []) (fun g s' w2 => ∃ k : Nat, s' 20 = .int .i64 k ∧ (k : Int) ≤ bs[i].2 ∧ g = (bs[i].2 - k).toNat ∧ J ((endsF 0 (bs.take i)).length + (blockEnds (sumL (bs.take i)) bs[i].2 k).length) w2 ∧ Bk w2 b5 [.string bs[i].1, .int .i64 bs[i].2] 37 ∧ ¬ M w2 b5) (bs[i].2).toNat ⟨0, rfl, by omega, by omega, by simpa [blockEnds] using hJ2, hA_b5, hM5⟩ ?_
    rintro _ d2 w2 ⟨k, h20, hk, rfl, hJk, hBk, hMk⟩
    refine W.fix h20 ?_
    have hFk := hF _ _ hJk
    have := hFk.trn
    repeat' (first|((first|apply jI|apply jJ|apply jK rfl); (first|exact eI rfl|exact eB rfl|exact eF rfl))|(refine jM ?_; refine jN rfl rfl rfl ?_)|(refine jS ?_; (first|refine jT rfl rfl rfl ?_|refine jU rfl rfl rfl rfl ?_))|(refine jW ?_; (first|refine jX rfl rfl ?_|refine jY rfl rfl (by omega) ?_|refine jZ rfl rfl (by omega) ?_|refine jb rfl rfl ?_))|(refine jm ?_; refine jn rfl ?_)|refine jz ?_|(refine jjA ?_; (first|refine jjB ?_|refine jjC ?_|refine jjD ?_|refine jjE ?_|refine jjG ?_))|(refine jS ?_; (refine jjL rfl rfl ?_ ?_ <;> intro _))|(refine jjA ?_; (refine jjN rfl ?_ ?_ <;> intro _)))
    · have he : endOk bs[i].2 ((k : Int) + 1) = true := endOk_eq ‹_›
      have hget := endsF_get hi' (by omega) he
      refine Ops.yield (hY _ _ _ hget hJk) rfl rfl ?_
      rintro e w9 (⟨rfl, hJ9, hFr⟩ | ⟨rfl, hJx9⟩)
      · refine ⟨_, rfl, ?_⟩
        (refine jT rfl rfl rfl ?_; refine jp rfl ?_; apply jK rfl; exact eB rfl; refine jz ?_; refine jjK rfl ?_; refine jjG ?_; refine jjC ?_; refine jY rfl rfl (by omega) ?_; apply jI; exact eI rfl; refine jz ?_)
        refine ⟨rfl, by ((refine Same.upd rfl ?_; refine Same.upd rfl ?_; refine Same.upd rfl ?_; refine Same.upd rfl ?_; refine Same.upd rfl ?_; refine Same.upd rfl ?_; refine Same.upd rfl ?_; refine Same.upd rfl ?_; refine Same.upd rfl ?_; refine Same.upd rfl ?_; refine Same.upd rfl ?_; refine Same.upd rfl ?_; refine Same.upd rfl ?_; refine Same.upd rfl ?_; refine Same.upd rfl ?_; refine Same.upd rfl ?_; refine Same.upd rfl ?_; refine Same.upd rfl ?_; refine Same.upd rfl ?_; refine Same.upd rfl ?_; refine Same.upd rfl ?_; refine Same.upd rfl ?_; refine Same.upd rfl ?_; refine Same.upd rfl ?_; refine Same.upd rfl ?_; refine Same.upd rfl ?_; refine Same.upd rfl ?_; refine Same.upd rfl ?_; refine Same.upd rfl ?_; refine Same.upd rfl ?_; exact Same.ovN)), _, ?_, k + 1, rfl, by omega, rfl, by rw [blockEnds_yes he]; exact hJ9, ⟨hFr.keep _ _ hBk.h rfl hMk⟩, fun h => (hFr.own _ h).elim hMk (fun h => by have := hBk.lt; omega)⟩
        omega
      · refine ⟨_, rfl, ?_⟩
        (refine jT rfl rfl rfl ?_; refine jq rfl ?_; apply jK rfl; exact eB rfl; refine jz ?_; refine jjJ rfl ?_; refine jjF ?_; refine jA rfl ⟨⟨_, rfl⟩, ?_⟩)
        exact .inr ⟨_, (List.getElem?_eq_some_iff.1 hget).1, hJx9⟩
    · refine jjQ (tears_galley ((k : Int) + 1) (bs[i].2 - ((k : Int) + 1)) w2) rfl rfl ?_
      rintro _ w3 hS3 rfl
      have hJ3 := hJ _ _ _ hJk (Step.ext hS3)
      have hBk3 := hBk.ext (Step.ext hS3)
      have hMk3 : ¬ M w3 b5 := fun h => hMk (hM2 _ _ _ _ hJk (Step.ext hS3) h)
      repeat' (first|((first|apply jI|apply jL rfl); (first|exact eI rfl|exact eB rfl|exact eF rfl))|(refine jS ?_; (first|refine jT rfl rfl rfl ?_|refine jU rfl rfl rfl rfl ?_))|(refine jW ?_; refine jY rfl rfl (by omega) ?_)|refine jz ?_|(refine jjA ?_; (first|refine jjC ?_|refine jjG ?_|refine jjK rfl ?_))|(refine jS ?_; (refine jjL rfl rfl ?_ ?_ <;> intro _)))
      · have he : endOk bs[i].2 ((k : Int) + 1) = true := by rw [endOk_ne ‹_›]; exact decide_eq_true ‹_ ∧ _›
        have hget := endsF_get hi' (by omega) he
        refine Ops.yield (hY _ _ _ hget hJ3) rfl rfl ?_
        rintro e w9 (⟨rfl, hJ9, hFr⟩ | ⟨rfl, hJx9⟩)
        · refine ⟨_, rfl, ?_⟩
          (refine jT rfl rfl rfl ?_; refine jp rfl ?_; apply jK rfl; exact eB rfl; refine jz ?_; refine jjK rfl ?_; refine jjG ?_; refine jjC ?_; refine jY rfl rfl (by omega) ?_; apply jI; exact eI rfl; refine jz ?_)
          refine ⟨rfl, by ((refine Same.upd rfl ?_; refine Same.upd rfl ?_; refine Same.upd rfl ?_; refine Same.upd rfl ?_; refine Same.upd rfl ?_; refine Same.upd rfl ?_; refine Same.upd rfl ?_; refine Same.upd rfl ?_; refine Same.upd rfl ?_; refine Same.upd rfl ?_; refine Same.upd rfl ?_; refine Same.upd rfl ?_; refine Same.upd rfl ?_; refine Same.upd rfl ?_; refine Same.upd rfl ?_; refine Same.upd rfl ?_; refine Same.upd rfl ?_; refine Same.upd rfl ?_; refine Same.upd rfl ?_; refine Same.upd rfl ?_; refine Same.upd rfl ?_; refine Same.upd rfl ?_; refine Same.upd rfl ?_; refine Same.upd rfl ?_; refine Same.upd rfl ?_; refine Same.upd rfl ?_; refine Same.upd rfl ?_; refine Same.upd rfl ?_; refine Same.upd rfl ?_; refine Same.upd rfl ?_; refine Same.upd rfl ?_; exact Same.ovN)), _, ?_, k + 1, rfl, by omega, rfl, by rw [blockEnds_yes he]; exact hJ9, ⟨hFr.keep _ _ hBk3.h rfl hMk3⟩, fun h => (hFr.own _ h).elim hMk3 (fun h => by have := hBk3.lt; omega)⟩
          omega
        · refine ⟨_, rfl, ?_⟩
          (refine jT rfl rfl rfl ?_; refine jq rfl ?_; apply jK rfl; exact eB rfl; refine jz ?_; refine jjJ rfl ?_; refine jjF ?_; refine jA rfl ⟨⟨_, rfl⟩, ?_⟩)
          exact .inr ⟨_, (List.getElem?_eq_some_iff.1 hget).1, hJx9⟩
      · have he : endOk bs[i].2 ((k : Int) + 1) = false := by rw [endOk_ne ‹_›]; exact decide_eq_false ‹¬ (_ ∧ _)›
        refine ⟨rfl, by ((refine Same.upd rfl ?_; refine Same.upd rfl ?_; refine Same.upd rfl ?_; refine Same.upd rfl ?_; refine Same.upd rfl ?_; refine Same.upd rfl ?_; refine Same.upd rfl ?_; refine Same.upd rfl ?_; refine Same.upd rfl ?_; refine Same.upd rfl ?_; refine Same.upd rfl ?_; refine Same.upd rfl ?_; refine Same.upd rfl ?_; refine Same.upd rfl ?_; refine Same.upd rfl ?_; refine Same.upd rfl ?_; refine Same.upd rfl ?_; refine Same.upd rfl ?_; refine Same.upd rfl ?_; refine Same.upd rfl ?_; refine Same.upd rfl ?_; refine Same.upd rfl ?_; refine Same.upd rfl ?_; refine Same.upd rfl ?_; refine Same.upd rfl ?_; refine Same.upd rfl ?_; refine Same.upd rfl ?_; refine Same.upd rfl ?_; refine Same.upd rfl ?_; refine Same.upd rfl ?_; refine Same.upd rfl ?_; exact Same.ovN)), _, ?_, k + 1, rfl, by omega, rfl, by rw [blockEnds_no he]; exact hJ3, hBk3, hMk3⟩
        omega
    · have hkL : (k : Int) = bs[i].2 := by omega
      refine ⟨rfl, by ((refine Same.upd rfl ?_; refine Same.upd rfl ?_; refine Same.upd rfl ?_; refine Same.upd rfl ?_; refine Same.upd rfl ?_; refine Same.upd rfl ?_; refine Same.upd rfl ?_; refine Same.upd rfl ?_; refine Same.upd rfl ?_; refine Same.ovN' rfl ?_; refine Same.upd rfl ?_; refine Same.upd rfl ?_; refine Same.upd rfl ?_; refine Same.upd rfl ?_; refine Same.upd rfl ?_; refine Same.upd rfl ?_; refine Same.upd rfl ?_; refine Same.upd rfl ?_; refine Same.upd rfl ?_; exact Same.ovN)), _, ?_, i + 1, rfl, ?_, by omega, rfl, ?_⟩
      · omega
      · exact congrArg (Value.int .i64) (sumL_take_succ hi').symm
      · have e : (bs[i].2).toNat = k := by omega
        rw [endsF_take_succ hi', e]; exact hJk
  · have hi' : i = bs.length := by omega
    subst hi'
    left
    simpa using hJi

theorem places_galley (pf : Nat) (w : World) : Ct Tryz.prog 50 [.pointer (some ⟨pf, 0, none⟩)] w fun v w' => ∃ b, w.heap.size ≤ b ∧ At w' b 0 [.pointer (some ⟨pf, 0, none⟩)] ∧ v = .func (.func 82) #[] [.pointer (some ⟨b, 0, none⟩)].toArray := by
  refine Ct.ofW (by simp) ?_
  (refine jjB ?_; refine jjC ?_)
  (refine jy rfl ?_; intro b1 w_b1 hb_b1 hs_b1 hS_b1 hk_b1; have hA_b1 := At.ofBlock hk_b1)
  (apply jJ; exact rfl; refine jz ?_; refine jjB ?_; refine jjC ?_; refine jv ?_; apply jJ; exact eF rfl; refine jz ?_; refine jjF ?_; refine jB rfl rfl ⟨inferInstance, ?_⟩)
  exact ⟨b1, by omega, hA_b1, rfl⟩
end Go.Proofs.YtfebegbjggoijaaGreatDoor

/- What readings of galleys say; what the package's variables hold when the call begins. -/
namespace Go.Proofs.YtfebegbjggoijaaGreatDoor
open Go.ChangeShapes Go.WideShapes Go.ChangeAt Go.RowKit Go.WideElems

theorem read_blk {H : Type} {enc : TypeId × Value → H} {W : World} {sp : Nat → Bool} {n : Nat} {y : Value} {z : DataW H × List MemPlace} (hf : fitsV true 2 y = true) (h : DataW.trod enc Tryz.prog W 0 sp true n 37 y.cells.toList = some z) : ∃ b : Blk, y = encB b := by
  cases y <;> simp [fitsV] at hf
  case agg cs =>
    obtain ⟨c0, c1, rfl⟩ := Joins.array2 hf
    obtain ⟨y0, y1, n', rfl, _, h0, h1⟩ := trod_struct2 Tryz.underlying37 h
    have k9 : Tryz.prog.cellsOf 9 = 1 := by kernel_rfl
    have k3 : Tryz.prog.cellsOf 3 = 1 := by kernel_rfl
    have h0' : DataW.trod enc Tryz.prog W 0 sp true n' 9 [c0] = some y0 := by simpa [Value.cells, k9] using h0
    have h1' : DataW.trod enc Tryz.prog W 0 sp true n' 3 [c1] = some y1 := by simpa [Value.cells, k3] using h1
    obtain ⟨s, e0, _, _⟩ := DataW.trod_string Tryz.underlying9 h0'
    obtain ⟨m, e1, _, _⟩ := DataW.trod_int Tryz.underlying3 h1'
    cases e0; cases e1
    exact ⟨(s, m), rfl⟩
set_option maxRecDepth 100000 in
theorem read_galley {H : Type} {enc : TypeId × Value → H} {W : World} {base : Nat} {v : Value} {d : DataW H} {p : List MemPlace} (hv : Value.okWide Tryz.prog W .any base 24 v) (h : DataW.Trod enc Tryz.prog W 0 (fun _ => true) true 24 v d p)
    (hw : ∀ q ∈ d.weights Tryz.prog 24, q ≤ reachBytes) : ∃ (hh : Int) (a : Option Addr) (c : Nat) (bs : List Blk), v = .agg #[.int .i64 hh, .slice a bs.length c] ∧ RowV W true 2 (.slice a bs.length c) (bs.map encB) := by
  obtain ⟨v0, v1, y0, y1, n, rfl, rfl, _, h0, h1⟩ := Joins.open_agg2 Tryz.underlying24 (by kernel_rfl) (by kernel_rfl) hv h
  obtain ⟨hh, e0, _, _⟩ := DataW.trod_int Tryz.underlying3 h0
  cases e0
  obtain ⟨a, c, vs, rfl, hR, hE⟩ := rowV_of_trod (t := 22) (k := 2) (agg := true) (by kernel_rfl) (by omega) (fun e => by cases e) (fun _ _ _ e => by cases e) (of_decide_eq_true (by kernel_rfl)) h1 (fun q hq => hw q (by
    simp only [DataW.weights, Tryz.underlying24, DataW.weightsEach, List.map_cons, List.map_nil, List.mem_append]
    exact .inr (.inl hq)))
  obtain ⟨bs, rfl, _⟩ := exists_map (enc := encB) (Q := fun _ => True) (vs := vs) fun y hy => by
    obtain ⟨n', z, hz, _⟩ := hE y hy
    obtain ⟨b, e⟩ := read_blk (hR.fit y hy) hz
    exact ⟨b, e, trivial⟩
  rw [List.length_map] at hR ⊢
  exact ⟨hh, a, c, bs, rfl, hR⟩

theorem g_torn : Tryz.prog.globalNamed "postil/galley.torn" = some 1 := by kernel_rfl
theorem t_torn : (Tryz.prog.globals[1]?).map (·.type) = some 165 := by kernel_rfl
theorem torn_laid {W : World} {laid : List (String × DataW Unit)} (h : laidMetH Tryz.prog laid W) (hx : ("postil/galley.torn", Rows.laid_postil_galley_torn) ∈ laid) : At W 1 0 tornC := by
  obtain ⟨g, t, cs, fuel, p, hg, ht, hv, hd⟩ := laidMetH.funcs (d := .agg [.agg [.iface "func" (.lit (.string [112, 111, 115, 116, 105, 108, 47, 103, 97, 108, 108, 101, 121, 46, 116, 111, 114, 110, 36, 49]))], .agg [.iface "func" (.lit (.string [112, 111, 115, 116, 105, 108, 47, 103, 97, 108, 108, 101, 121, 46, 116, 111, 114, 110, 36, 50]))]]) h hx
  obtain rfl := Option.some.inj (g_torn.symm.trans hg)
  obtain rfl := Option.some.inj (t_torn.symm.trans ht)
  have hd' : DataW.trod (funcToken Tryz.prog) Tryz.prog W 0 (fun _ => true) true fuel 165 cs.toList = some (.agg [.agg [.held [112, 111, 115, 116, 105, 108, 47, 103, 97, 108, 108, 101, 121, 46, 116, 111, 114, 110, 36, 49]], .agg [.held [112, 111, 115, 116, 105, 108, 47, 103, 97, 108, 108, 101, 121, 46, 116, 111, 114, 110, 36, 50]]], p) := hd
  obtain ⟨xs, m, _, hxs, hl, hn, hel⟩ := DataW.trod_array Tryz.underlying165 hd'
  have kT : Tryz.prog.cellsOf 165 = 2 := by kernel_rfl
  have kE : Tryz.prog.cellsOf 164 = 1 := by kernel_rfl
  have kF : Tryz.prog.cellsOf 145 = 1 := by kernel_rfl
  obtain ⟨c0, c1, rfl⟩ := Joins.array2 (cs := cs) (by simpa [kT] using hl)
  simp only [Prod.mk.injEq, DataW.agg.injEq] at hxs
  have key : ∀ (i : Nat) (c : Value) (b : List UInt8), i < 2 → (([c0, c1].drop (i * 1)).take 1) = [c] → (xs.map (·.1))[i]? = some (.agg [.held b]) → ∃ n q, DataW.trod (funcToken Tryz.prog) Tryz.prog W 0 (fun _ => true) true n 145 [c] = some (.held b, q) := fun i c b hi hc hb => by
    have h0 := hel i hi
    rw [kE, hc] at h0
    rw [List.getElem?_map] at hb
    obtain ⟨x, hx1, hx2⟩ := Option.map_eq_some_iff.1 hb
    rw [hx1] at h0
    obtain ⟨y0, n, e, _, h1⟩ := trod_struct1 Tryz.underlying164 h0
    rw [e] at hx2
    simp only [DataW.agg.injEq, List.cons.injEq, and_true] at hx2
    obtain ⟨y1, y2⟩ := y0
    simp only at hx2
    subst hx2
    exact ⟨n, y2, by simpa [kF] using h1⟩
  obtain ⟨n0, q0, k0⟩ := key 0 c0 [112, 111, 115, 116, 105, 108, 47, 103, 97, 108, 108, 101, 121, 46, 116, 111, 114, 110, 36, 49] (by omega) rfl (by rw [← hxs.1]; rfl)
  obtain ⟨n1, q1, k1⟩ := key 1 c1 [112, 111, 115, 116, 105, 108, 47, 103, 97, 108, 108, 101, 121, 46, 116, 111, 114, 110, 36, 50] (by omega) rfl (by rw [← hxs.1]; rfl)
  obtain rfl := func_of_trod (f0 := 165) Tryz.underlying145 (by kernel_rfl) k0
  obtain rfl := func_of_trod (f0 := 166) Tryz.underlying145 (by kernel_rfl) k1
  exact ⟨fun i v hv' => by have := World.var?_cell hg hv i; rw [Nat.zero_add, this]; simpa using hv'⟩

theorem g_none : Tryz.prog.globalNamed "postil/galley.none" = some 0 := by kernel_rfl
theorem t_none : (Tryz.prog.globals[0]?).map (·.type) = some 136 := by kernel_rfl
theorem none_laid {W : World} {rest : List (String × DataW Unit)} (h : laidMet Tryz.prog (("postil/galley.none", Rows.laid_postil_galley_none) :: rest) W) : At W 0 0 [.int .i64 (-1), .int .i64 (-1)] := by
  obtain ⟨ps, ⟨g, t, cs, fuel, p, q, hg, ht, hv, hd, _⟩, _⟩ := h
  obtain rfl := Option.some.inj (g_none.symm.trans hg)
  obtain rfl := Option.some.inj (t_none.symm.trans ht)
  have hd' : DataW.trod (fun _ => ()) Tryz.prog W 0 (fun _ => true) false fuel 136 cs.toList = some (.agg [.lit (.int .i64 (-1)), .lit (.int .i64 (-1))], p) := hd
  obtain ⟨y0, y1, n', e, hl, h0, h1⟩ := trod_struct2 Tryz.underlying136 hd'
  have kT : Tryz.prog.cellsOf 136 = 2 := by kernel_rfl
  have k3 : Tryz.prog.cellsOf 3 = 1 := by kernel_rfl
  obtain ⟨c0, c1, rfl⟩ := Joins.array2 (cs := cs) (by simpa [kT] using hl)
  have h0' : DataW.trod (fun _ => ()) Tryz.prog W 0 (fun _ => true) false n' 3 [c0] = some y0 := by simpa [k3] using h0
  have h1' : DataW.trod (fun _ => ()) Tryz.prog W 0 (fun _ => true) false n' 3 [c1] = some y1 := by simpa [k3] using h1
  obtain ⟨a0, e0, f0, _⟩ := DataW.trod_int Tryz.underlying3 h0'
  obtain ⟨a1, e1, f1, _⟩ := DataW.trod_int Tryz.underlying3 h1'
  cases e0; cases e1
  subst f0 f1
  simp only [Prod.mk.injEq, DataW.agg.injEq, List.cons.injEq, DataW.lit.injEq, Lit.int.injEq, true_and, and_true] at e
  obtain ⟨⟨e0, e1⟩, _⟩ := e
  subst e0 e1
  exact ⟨fun i v hv' => by have := World.var?_cell hg hv i; rw [Nat.zero_add, this]; simpa using hv'⟩
end Go.Proofs.YtfebegbjggoijaaGreatDoor

/- The proof engine, part 17: a slice of the call's own in a field. -/
namespace Go.Proofs.YtfebegbjggoijaaGreatDoor
open Go.RowKit

/-- The blocks below N, and the block of the slice that lies at place o of block b. -/
def MO (N b o : Nat) (V : World) (k : Nat) : Prop := k < N ∨ ∃ v, V.cell? ⟨b, o, none⟩ = some v ∧ v.ownBlock = some k
theorem MO.lt {N b o : Nat} {V : World} {v : Value} {k : Nat} (hN : N ≤ V.heap.size) (hb : V.cell? ⟨b, o, none⟩ = some v) (ho : ∀ g, v.ownBlock = some g → g < V.heap.size) (h : MO N b o V k) : k < V.heap.size := by
  rcases h with h | ⟨v', hv, hk⟩
  · omega
  · rw [hb] at hv; cases hv
    exact ho k hk
theorem MO.back {N n b o : Nat} {V V' : World} {v : Value} {k : Nat} (hb : V.cell? ⟨b, o, none⟩ = some v) (g : Grow n V V') (h : MO N b o V' k) : MO N b o V k := by
  rcases h with h | ⟨v', hv, hk⟩
  · exact .inl h
  · rw [g.cell hb] at hv; cases hv
    exact .inr ⟨v, hb, hk⟩
theorem MO.grow {N b o : Nat} {V V' : World} {k : Nat} (hb : b < N) (g : Grow N V V') (h : MO N b o V' k) : MO N b o V k := by
  rcases h with h | ⟨v', hv, hk⟩
  · exact .inl h
  · refine .inr ⟨v', ?_, hk⟩
    rw [← hv]
    exact (World.cell?_of_block (a := ⟨b, o, none⟩) (g.old b hb)).symm
/-- A round: what it keeps, and what the slice is behind it. -/
theorem MO.fr {N b o : Nat} {V V' : World} {v v' : Value} (hs : V.heap.size ≤ V'.heap.size) (hb : V.cell? ⟨b, o, none⟩ = some v) (hb' : V'.cell? ⟨b, o, none⟩ = some v') (hk : ∀ k ob, V.heap[k]? = some ob → N ≤ k → v.ownBlock ≠ some k → V'.heap[k]? = some ob)
    (hw : v'.ownBlock = v.ownBlock ∨ ∃ g, v'.ownBlock = some g ∧ V.heap.size ≤ g) : Fr (MO N b o) V V' :=
  ⟨hs, fun k ob h1 _ hm => hk k ob h1 (Nat.le_of_not_lt fun h => hm (.inl h)) (fun e => hm (.inr ⟨v, hb, e⟩)), fun k h => by
    rcases h with h | ⟨u, hu, hk'⟩
    · exact .inl (.inl h)
    · rw [hb'] at hu; cases hu
      rcases hw with e | ⟨g, e, hg⟩
      · exact .inl (.inr ⟨v, hb, by rw [← e]; exact hk'⟩)
      · rw [e] at hk'; cases hk'; exact .inr hg⟩
/-! ### Rows of rows of numbers -/
abbrev Rw := Option Addr × Nat × List Int
abbrev encW (x : Rw) : Value := .slice x.1 x.2.2.length x.2.1
class RowsI (w : World) (rs : List Rw) : Prop where
  h : ∀ x ∈ rs, RowV w false 1 (encW x) (x.2.2.map intV)
instance RowsI.step {w w' : World} {rs : List Rw} [hs : Step w w'] [h : RowsI w rs] : RowsI w' rs := ⟨fun x hx => (h.h x hx).ext ⟨hs.b⟩⟩
theorem RowsI.ext {w w' : World} {rs : List Rw} (h : RowsI w rs) (hs : Ext w w') : RowsI w' rs := ⟨fun x hx => (h.h x hx).ext hs⟩
theorem RowsI.get {w : World} {rs : List Rw} (h : RowsI w rs) {i : Nat} (hi : i < rs.length) : RowI w (.slice rs[i].1 rs[i].2.2.length rs[i].2.1) false 1 (rs[i].2.2.map intV) := ⟨h.h _ (List.getElem_mem hi)⟩
theorem OwnL.ne {w : World} {B B' e e' : Nat} {agg agg' : Bool} {k k' : Nat} {v v' : Value} {xs ys : List Value} (h : OwnL w B e agg k v xs) (h' : OwnL w B' e' agg' k' v' ys) (he : e ≠ e') : ∀ g, v.ownBlock = some g → v'.ownBlock ≠ some g := fun g hg hg' => by
  rcases h.own.2 with ⟨rfl, _⟩ | ⟨g1, cap1, cur1, rfl, _, h1, _⟩
  · simp [Value.ownBlock] at hg
  · rcases h'.own.2 with ⟨rfl, _⟩ | ⟨g2, cap2, cur2, rfl, _, h2, _⟩
    · simp [Value.ownBlock] at hg'
    · simp only [Value.ownBlock, Option.some.injEq] at hg hg'
      subst hg; subst hg'
      rw [h1] at h2
      simp only [Option.some.injEq, Obj.cells.injEq] at h2
      exact he h2.2.1
/-- Rows of rows of the call's own. -/
structure OwnW (w : World) (B e1 e2 : Nat) (v : Value) (rs : List Rw) : Prop where
  out : OwnL w B e1 false 1 v (rs.map encW)
  ins : ∀ x ∈ rs, OwnL w B e2 false 1 (encW x) (x.2.2.map intV)
theorem OwnW.rows {w : World} {B e1 e2 : Nat} {v : Value} {rs : List Rw} (h : OwnW w B e1 e2 v rs) : RowsI w rs := ⟨fun x hx => (h.ins x hx).row⟩
theorem OwnW.ext {w w' : World} {B e1 e2 : Nat} {v : Value} {rs : List Rw} (h : OwnW w B e1 e2 v rs) (hs : Ext w w') : OwnW w' B e1 e2 v rs := ⟨h.out.ext hs, fun x hx => (h.ins x hx).ext hs⟩
theorem OwnW.nil (w : World) (B e1 e2 : Nat) : OwnW w B e1 e2 (.slice none 0 0) [] := ⟨OwnL.nil _ _ _ _ _, by simp⟩
end Go.Proofs.YtfebegbjggoijaaGreatDoor

/- Texts: chapters of lines of words. -/
namespace Go.Proofs.YtfebegbjggoijaaGreatDoor
open Go.RowKit

abbrev strV (s : ByteArray) : Value := .string s
abbrev Ln := Option Addr × Nat × List ByteArray
abbrev encLn (x : Ln) : Value := .slice x.1 x.2.2.length x.2.1
abbrev Ch := Int × Option Addr × Nat × List Ln
abbrev encCh (x : Ch) : Value := .agg #[.int .i64 x.1, .slice x.2.1 x.2.2.2.length x.2.2.1]
class TextI (w : World) (cs : List Ch) : Prop where
  lines : ∀ x ∈ cs, RowV w false 1 (.slice x.2.1 x.2.2.2.length x.2.2.1) (x.2.2.2.map encLn)
  words : ∀ x ∈ cs, ∀ y ∈ x.2.2.2, RowV w false 1 (encLn y) (y.2.2.map strV)
theorem TextI.ext {w w' : World} {cs : List Ch} (h : TextI w cs) (hs : Ext w w') : TextI w' cs := ⟨fun x hx => (h.lines x hx).ext hs, fun x hx y hy => (h.words x hx y hy).ext hs⟩
instance TextI.step {w w' : World} {cs : List Ch} [hs : Step w w'] [h : TextI w cs] : TextI w' cs := h.ext ⟨hs.b⟩
theorem TextI.line {w : World} {cs : List Ch} (h : TextI w cs) {k : Nat} (hk : k < cs.length) : RowI w (.slice cs[k].2.1 cs[k].2.2.2.length cs[k].2.2.1) false 1 (cs[k].2.2.2.map encLn) := ⟨h.lines _ (List.getElem_mem hk)⟩
theorem TextI.word {w : World} {cs : List Ch} (h : TextI w cs) {k n : Nat} (hk : k < cs.length) (hn : n < cs[k].2.2.2.length) : RowI w (.slice cs[k].2.2.2[n].1 cs[k].2.2.2[n].2.2.length cs[k].2.2.2[n].2.1) false 1 (cs[k].2.2.2[n].2.2.map strV) := ⟨h.words _ (List.getElem_mem hk) _ (List.getElem_mem hn)⟩
/-- What a text says, without its memory. -/
abbrev Tx := List (Int × List (List ByteArray))
def txF (cs : List Ch) : Tx := cs.map fun x => (x.1, x.2.2.2.map (·.2.2))
def greatL (y : List ByteArray) : Bool := decide (15 < y.length) || y.any fun s => decide (40 < s.size)
def greatC (x : Int × List (List ByteArray)) : Bool := decide (15 < x.2.length) || x.2.any greatL
def greatT (t : Tx) : Bool := decide (10 < t.length) || t.any greatC
theorem all_1 (p : Int → Bool) (n : Int) : [n].all p = p n := by simp
/-! Valid texts -/
def lineB (y : List ByteArray) : Bool := inB 1 10 (y.length : Int) && y.all wordB
def chapB (x : Int × List (List ByteArray)) : Bool := inB 0 9999 x.1 && inB 1 10 (x.2.length : Int) && x.2.all lineB
def textB (t : Tx) : Bool := inB 1 6 (t.length : Int) && t.all chapB && decide ((t.map (·.1)).Nodup)
abbrev txC (x : Ch) : Int × List (List ByteArray) := (x.1, x.2.2.2.map (·.2.2))
theorem txF_len (cs : List Ch) : (txF cs).length = cs.length := by simp [txF]
theorem all_no {α : Type} {p : α → Bool} {l : List α} {k : Nat} (hk : k < l.length) (h : p l[k] = false) : l.all p = false := by
  rw [List.all_eq_false]; exact ⟨_, List.getElem_mem hk, by rw [h]; simp⟩
theorem all_yes {α : Type} {p : α → Bool} {l : List α} (h : ∀ (j : Nat) (hj : j < l.length), p l[j] = true) : l.all p = true := by
  rw [List.all_eq_true]
  intro x hx
  obtain ⟨i, hi, rfl⟩ := List.mem_iff_getElem.1 hx
  exact h i hi
theorem textB_len {cs : List Ch} (h : inB 1 6 (cs.length : Int) = false) : textB (txF cs) = false := by rw [textB, txF_len, h]; rfl
theorem textB_chap {cs : List Ch} {k : Nat} (hk : k < cs.length) (h : chapB (txC cs[k]) = false) : textB (txF cs) = false := by
  have : (txF cs).all chapB = false := all_no (k := k) (by rw [txF_len]; exact hk) (by simpa [txF] using h)
  rw [textB, this, Bool.and_false]; rfl
theorem textB_dup {cs : List Ch} {i k : Nat} (hik : i < k) (hk : k < cs.length) (h : (cs[i]'(by omega)).1 = cs[k].1) : textB (txF cs) = false := by
  have : ¬ ((txF cs).map (·.1)).Nodup := fun hn => by
    have h1 := List.pairwise_iff_getElem.1 hn i k (by simp [txF]; omega) (by simp [txF]; omega) hik
    simp [txF] at h1
    exact h1 h
  rw [textB, decide_eq_false this, Bool.and_false]
theorem textB_yes {cs : List Ch} (h1 : inB 1 6 (cs.length : Int) = true) (h2 : ∀ (k : Nat) (hk : k < cs.length), chapB (txC cs[k]) = true) (h3 : ∀ (i k : Nat) (hik : i < k) (hk : k < cs.length), (cs[i]'(by omega)).1 ≠ cs[k].1) : textB (txF cs) = true := by
  have e1 : (txF cs).all chapB = true := all_yes fun k hk => by
    have := h2 k (by rw [← txF_len]; exact hk)
    simpa [txF] using this
  have e2 : ((txF cs).map (·.1)).Nodup := by
    refine List.pairwise_iff_getElem.2 fun i k hi hk hik => ?_
    have := h3 i k hik (by simpa [txF] using hk)
    simpa [txF] using this
  rw [textB, txF_len, h1, e1, decide_eq_true e2]; rfl
theorem chapB_id {x : Ch} (h : inB 0 9999 x.1 = false) : chapB (txC x) = false := by rw [chapB, h]; rfl
theorem chapB_len {x : Ch} (h : inB 1 10 (x.2.2.2.length : Int) = false) : chapB (txC x) = false := by rw [chapB, List.length_map, h, Bool.and_false]; rfl
theorem chapB_line {x : Ch} {n : Nat} (hn : n < x.2.2.2.length) (h : lineB x.2.2.2[n].2.2 = false) : chapB (txC x) = false := by
  have : (x.2.2.2.map (·.2.2)).all lineB = false := all_no (k := n) (by rw [List.length_map]; exact hn) (by rw [List.getElem_map]; exact h)
  rw [chapB, this, Bool.and_false]
theorem chapB_yes {x : Ch} (h1 : inB 0 9999 x.1 = true) (h2 : inB 1 10 (x.2.2.2.length : Int) = true) (h3 : ∀ (n : Nat) (hn : n < x.2.2.2.length), lineB x.2.2.2[n].2.2 = true) : chapB (txC x) = true := by
  have : (x.2.2.2.map (·.2.2)).all lineB = true := all_yes fun n hn => by
    rw [List.length_map] at hn
    rw [List.getElem_map]; exact h3 n hn
  rw [chapB, List.length_map, h1, h2, this]; rfl
theorem lineB_len {y : List ByteArray} (h : inB 1 10 (y.length : Int) = false) : lineB y = false := by rw [lineB, h]; rfl
/-- No word is very long. -/
def SmallT (cs : List Ch) : Prop := cs.length ≤ 1000 ∧ ∀ x ∈ cs, x.2.2.2.length ≤ 1000 ∧ ∀ y ∈ x.2.2.2, y.2.2.length ≤ 1000 ∧ ∀ s ∈ y.2.2, s.size ≤ 1000
theorem small_of_great {cs : List Ch} (h : greatT (txF cs) = false) : SmallT cs := by
  simp only [greatT, Bool.or_eq_false_iff, decide_eq_false_iff_not, List.any_eq_false, txF_len] at h
  refine ⟨by omega, fun x hx => ?_⟩
  have h1 := h.2 (txC x) (List.mem_map.2 ⟨x, hx, rfl⟩)
  simp only [greatC, Bool.or_eq_true, decide_eq_true_eq, List.any_eq_true, not_or, not_exists, not_and, List.length_map] at h1
  refine ⟨by omega, fun y hy => ?_⟩
  have h2 := h1.2 y.2.2 (List.mem_map.2 ⟨y, hy, rfl⟩)
  simp only [greatL, Bool.or_eq_true, decide_eq_true_eq, List.any_eq_true, not_or, not_exists, not_and] at h2
  exact ⟨by omega, fun s hs => by have := h2.2 s hs; omega⟩
end Go.Proofs.YtfebegbjggoijaaGreatDoor

/- The proof engine, part 19: slices within their room; append in place, copy, clear; overlaps. -/
namespace Go.Proofs.YtfebegbjggoijaaGreatDoor
open Go.RowKit

section rules
variable {P : Program} {ro : Option Nat} {n : Nat} {all rest : List Oper} {K : Sl → World → Prop} {s : Sl} {w : World} {d : Nat} {ty : Nat} {pos : String} {af : Array Edge} {x y : Operand} {t t' e bytes : Nat} {z : Value}
variable {g o l c lo hi : Nat} {i j : Int} {k1 k2 k3 : IntKind} {xl xh xm : Operand}
/-- A slice of three numbers: only that it is there. -/
theorem Ops.slice3 {a : Option Addr} {mx : Nat} {m : Int} (hx : ev n s x = .slice a l c) (hl : ev n s xl = .int k1 i) (hh : ev n s xh = .int k2 j) (hm : ev n s xm = .int k3 m) (hi' : i = (lo : Int)) (hj : j = (hi : Int)) (hm' : m = (mx : Int)) (h1 : lo ≤ hi) (h2 : hi ≤ mx) (h3 : mx ≤ c) [ht : TSl P t e] [hz : TS P e z 1 bytes]
    (h : ∀ v, Ops P ro n all rest K (upd s d v) w) : Ops P ro n all (⟨some d, .slice t x (some xl) (some xh) (some xm), ty, pos, af, none⟩ :: rest) K s w := by
  subst hi' hj hm'
  refine Ops.ofRun (v := .slice (if mx = lo then a else a.map (·.add (lo * 1))) (hi - lo) (mx - lo)) rfl ?_ (h _)
  simp [execOp, Instr.sliceAt, Instr.slice, Instr.sliceBounds, Instr.sliceBound, hx, hl, hh, hm, run_underlying ht.h, asIntOf, h1, h2, h3, run_sizeOf' w hz]

variable {cs us : List Value} {a : Addr} {sl sc dl dc : Nat}
theorem Ops.buildSlice2 {u v : Value} (hx : ev n s x = u) (hy : ev n s y = v) [ht : TSl P t e] [hz : TS P e z 1 bytes] (hu : u.cells = #[u]) (hv : v.cells = #[v]) (hzz : z.cells.size = 1)
    (h : ∀ b w', b = w.heap.size → w'.heap.size = w.heap.size + 1 → Step w w' → Bk w' b [u, v] e → Ops P ro n all rest K (upd s d (.slice (some ⟨b, 0, none⟩) 2 2)) w') :
    Ops P ro n all (⟨some d, .buildSlice t 2 #[(0, x), (1, y)], ty, pos, af, none⟩ :: rest) K s w := by
  obtain ⟨inf, hi1, hiz, his, _⟩ := hz.info
  have hfill : ∀ (a b : Value), Instr.fill (fun i => some (i, 1)) #[a, b] [(0, u), (1, v)] = some #[u, v] := by
    intro a b
    simp [Instr.fill, hu, hv]
  have hzv : (zeroValue e).run P w = .ok z w := by simp [zeroValue, typeInfo, hi1, hiz]
  have hrange : (Array.range 2).map (fun x => z.cells[x % z.cells.size]!) = #[z.cells[0]!, z.cells[0]!] := by
    rw [hzz, show Array.range 2 = #[0, 1] from by decide]; simp [Nat.mod_one]
  refine Ops.ofRun (w' := w.alloc (.cells #[u, v] e)) rfl ?_ (h w.heap.size _ rfl (by simp) ⟨(Below.refl _ w).alloc (Nat.le_refl _) _⟩ ⟨World.alloc_heap_new w _⟩)
  simp [execOp, Instr.buildSlice, run_underlying ht.h, run_sizeOf' w hz, hx, hy, hzv, hrange, hfill, newRow]
end rules
end Go.Proofs.YtfebegbjggoijaaGreatDoor

/- The proof engine, part 20: slices of three and four. -/
namespace Go.Proofs.YtfebegbjggoijaaGreatDoor
open Go.RowKit

section rules
variable {P : Program} {ro : Option Nat} {n : Nat} {all rest : List Oper} {K : Sl → World → Prop} {s : Sl} {w : World} {d : Nat} {ty : Nat} {pos : String} {af : Array Edge} {x1 x2 x3 x4 : Operand} {t e bytes : Nat} {z : Value}
end rules
end Go.Proofs.YtfebegbjggoijaaGreatDoor

/- cmp.Compare of integers. -/
namespace Go.Proofs.YtfebegbjggoijaaGreatDoor
open Go.RowKit

/-! ### cmp.Compare -/
theorem isNaN_cmp (x : Int) (w : World) : Ct Tryz.prog 116 [.int .i64 x] w fun v _ => v = .bool false := by
  refine Ct.ofW (by simp) ?_
  (refine jjB ?_; refine jjC ?_; apply jJ; exact eB rfl; refine jz ?_; refine jjB ?_; refine jjC ?_; apply jI; exact eI rfl; apply jI; exact eI rfl; refine jc rfl rfl ?_; apply jJ; exact eB rfl; refine jz ?_; refine jjF ?_; refine jB rfl rfl ⟨inferInstance, ?_⟩)
  exact congrArg Value.bool (by simp)
end Go.Proofs.YtfebegbjggoijaaGreatDoor

/- The order of places: cmp.Or, slip.places; the reference: Before. -/
namespace Go.Proofs.YtfebegbjggoijaaGreatDoor
open Go.RowKit

abbrev Pl := Int × Int × Int
abbrev encPl (p : Pl) : Value := .agg #[.int .i64 p.1, .int .i64 p.2.1, .int .i64 p.2.2]
/-- The first number that is not 0. -/
def orF : List Int → Int
  | [] => 0
  | x :: l => if x = 0 then orF l else x
def befP (a b : Pl) : Bool := if a.1 ≠ b.1 then decide (a.1 < b.1) else if a.2.1 ≠ b.2.1 then decide (a.2.1 < b.2.1) else decide (a.2.2 < b.2.2)
theorem orF_drop {l : List Int} : ∀ {k : Nat}, (∀ (j : Nat) (hj : j < l.length), j < k → l[j] = 0) → orF l = orF (l.drop k) := by
  intro k
  induction k with
  | zero => intro _; rfl
  | succ k ih =>
    intro h
    rw [ih fun j hj hk => h j hj (by omega)]
    by_cases hk : k < l.length
    · rw [List.drop_eq_getElem_cons hk, orF, if_pos (h k hk (by omega))]
    · rw [List.drop_of_length_le (by omega), List.drop_of_length_le (by omega)]
theorem Or_int (a : Option Addr) (c n : Nat) (l : List Int) (w : World) (hn : l.length = n) (hrow : RowV w false 1 (.slice a n c) (l.map intV)) : Ct Tryz.prog 113 [.slice a n c] w fun v _ => v = .int .i64 (orF l) := by
  subst hn
  have hI : RowI w (.slice a l.length c) false 1 (l.map intV) := ⟨hrow⟩
  have hlen := hrow.len
  rw [List.length_map] at hlen
  refine Ct.ofW (by simp) ?_
  (refine jjB ?_; refine jjC ?_; apply jJ; exact eI rfl; refine jz ?_; refine jjB ?_; refine jjC ?_; apply jJ; exact eI rfl; refine jz ?_; refine jjB ?_; refine jjB ?_; refine jjC ?_; apply jI; exact eS rfl; refine jh rfl ?_; apply jI; exact eI rfl; refine jz ?_; refine jjD ?_)
  refine W.keep0 [(3, .int .i64 (0 : Int)), (6, .slice a l.length c), (7, .int .i64 ((l.length : Nat) : Int)), (8, .int .i64 ((0 : Nat) : Int))] ⟨eI rfl, eS rfl, eI rfl, eI rfl, trivial⟩ fun s0 => ?_
  refine W.loop (9 :: 10 :: 11 :: 5 :: 12 :: 13 :: 14 :: 15 :: 2 :: 16 :: 8 :: []) (fun g s' V => ∃ k : Nat, s' 8 = .int .i64 ((k : Nat) : Int) ∧ g = l.length - k ∧ k ≤ l.length ∧ ∀ (j : Nat) (hj : j < l.length), j < k → l[j] = 0) l.length ⟨0, rfl, rfl, Nat.zero_le _, by intros; omega⟩ ?_
  rintro _ sd w1 hS1 ⟨k, h8, rfl, hk, hpre⟩
  refine W.fix h8 ?_
  clear h8
  by_cases hkl : k < l.length
  · by_cases h0 : l[k] = 0
    · (refine jjB ?_; refine jjC ?_; refine jjZ rfl rfl (by omega) ?_; refine jz ?_; refine jjB ?_; refine jjJ rfl ?_; refine jjG ?_; refine jjB ?_; refine jjD ?_; refine jjB ?_; refine jjC ?_; refine jF rfl rfl rfl (map_get (by omega)) ?_; intro _ _ _; refine jQ rfl rfl ?_; apply jJ; exact eI rfl; refine jz ?_; refine jjB ?_; refine jjC ?_; apply jI; exact eI rfl; apply jI; exact eI rfl; refine jjk rfl rfl (by omega) ?_; refine jz ?_; refine jjK rfl ?_; refine jjG ?_; refine jjC ?_; refine jY rfl rfl (by omega) ?_; apply jI; exact eI rfl; refine jz ?_)
      refine ⟨rfl, by ((refine Same.upd rfl ?_; refine Same.upd rfl ?_; refine Same.upd rfl ?_; refine Same.upd rfl ?_; refine Same.upd rfl ?_; refine Same.upd rfl ?_; refine Same.upd rfl ?_; refine Same.upd rfl ?_; refine Same.upd rfl ?_; refine Same.upd rfl ?_; exact Same.ovN)), l.length - (k + 1), by omega, inferInstance, k + 1, congrArg (Value.int .i64) (by omega), rfl, by omega, fun j hj hjk => ?_⟩
      by_cases e : j = k
      · subst e; exact h0
      · exact hpre j hj (by omega)
    · (refine jjB ?_; refine jjC ?_; refine jjZ rfl rfl (by omega) ?_; refine jz ?_; refine jjB ?_; refine jjJ rfl ?_; refine jjG ?_; refine jjB ?_; refine jjD ?_; refine jjB ?_; refine jjC ?_; refine jF rfl rfl rfl (map_get (by omega)) ?_; intro _ _ _; refine jQ rfl rfl ?_; apply jJ; exact eI rfl; refine jz ?_; refine jjB ?_; refine jjC ?_; apply jI; exact eI rfl; apply jI; exact eI rfl; refine jjj rfl rfl (by omega) ?_; refine jz ?_; refine jjJ rfl ?_; refine jjB ?_; refine jjC ?_; apply jI; exact eI rfl; apply jJ; exact eI rfl; refine jz ?_; refine jjF ?_; refine jB rfl rfl ⟨inferInstance, ?_⟩)
      rw [orF_drop hpre, List.drop_eq_getElem_cons hkl, orF, if_neg h0]; exact rfl
  · (refine jjB ?_; refine jjC ?_; refine jja rfl rfl (by omega) ?_; refine jz ?_; refine jjB ?_; refine jjK rfl ?_; refine jjE ?_; refine jjB ?_; refine jjC ?_; apply jI; exact eI rfl; apply jJ; exact eI rfl; refine jz ?_; refine jjF ?_; refine jB rfl rfl ⟨inferInstance, ?_⟩)
    rw [orF_drop hpre, List.drop_of_length_le (by omega), orF]; exact rfl

end Go.Proofs.YtfebegbjggoijaaGreatDoor

/- leaf: Check. -/
namespace Go.Proofs.YtfebegbjggoijaaGreatDoor
open Go.RowKit

theorem inOne_leaf (lo hi n : Int) (b : Nat) (B : Bool) (w : World) (hB : inB lo hi n = B) (hR : RowV w false 1 (.slice (some ⟨b, 0, none⟩) 1 1) [.int .i64 n]) : Ct Tryz.prog 99 [.int .i64 lo, .int .i64 hi, .slice (some ⟨b, 0, none⟩) 1 1] w fun v _ => v = .bool B :=
  (in_leaf lo hi _ [n] w hR).mono fun v _ _ e => e.trans (by rw [all_1, hB])
theorem Check1_leaf (s : ByteArray) (w : World) (hs : s.size ≤ 1000) : Ct Tryz.prog 106 [.string s] w fun v _ => v = .bool (!wordB s) := by
  refine Ct.ofW (by simp) ?_
  (refine jjB ?_; refine jjC ?_; apply jJ; exact eB rfl; refine jz ?_; refine jjB ?_; refine jjC ?_; apply jI; exact eT rfl)
  refine jjQ (word_leaf s _ (by omega)) rfl rfl ?_
  rintro _ w2 hS2 rfl
  (refine js rfl ?_; apply jJ; exact eB rfl; refine jz ?_; refine jjF ?_; refine jB rfl rfl ⟨inferInstance, ?_⟩)
  exact rfl
theorem not_words (l : List ByteArray) : l.any (fun s => !wordB s) = !l.all wordB := by
  rw [any_not]

section
variable (a : Option Addr) (c : Nat) (cs : List Ch) (w : World) [hrow : RowI w (.slice a cs.length c) true 2 (cs.map encCh)] [hT : TextI w cs]
set_option maxHeartbeats 4000000 in
theorem Check_leaf (hs : SmallT cs) : Ct Tryz.prog 90 [.agg #[.slice a cs.length c]] w fun v _ => v = .int .i64 (if textB (txF cs) then 0 else 10) := by
  have hs1 := hs.1
  refine Ct.ofW (by simp) ?_
  (refine jjB ?_; refine jjC ?_)
  (refine jy rfl ?_; intro b1 w_b1 hb_b1 hs_b1 hS_b1 hk_b1; have hA_b1 := At.ofBlock hk_b1)
  (apply jJ; exact eI rfl; refine jz ?_; refine jjH ?_; refine jjB ?_; refine jjB ?_; refine jjC ?_; refine jm ?_; refine jn rfl ?_; refine jN rfl rfl rfl ?_; refine jh rfl ?_)
  (refine jjP (v := .int _ _) rfl (by exact rfl) (by exact rfl) (by exact rfl) (by exact rfl) ?_; intro b2 w_b2 hb_b2 hs_b2 hS_b2 hk_b2; have hR_b2 := RowV.one (agg := false) (k := 1) rfl hk_b2)
  obtain ⟨B6, h6⟩ : ∃ B, inB 1 6 (cs.length : Int) = B := ⟨_, rfl⟩
  skip
  refine jjQ (inOne_leaf 1 6 (cs.length : Int) b2 B6 _ h6 hR_b2) rfl rfl ?_
  rintro _ w2 hS2 rfl
  cases B6
  · (refine jq rfl ?_; refine jz ?_; refine jjJ rfl ?_; refine jjB ?_; refine jjC ?_; apply jJ; exact eI rfl; refine jz ?_; refine jjF ?_; refine jB rfl rfl ⟨inferInstance, ?_⟩)
    rw [textB_len h6]; exact rfl
  (refine jp rfl ?_; refine jz ?_; refine jjK rfl ?_; refine jjG ?_; refine jjB ?_; refine jjC ?_; apply jJ; exact eI rfl; refine jz ?_; refine jjB ?_; refine jjC ?_)
  refine Ops.makeMap (Value.int .i64) ?_
  intro mb w3 hmb hs3 hS3 hM3
  (apply jJ; exact eM rfl; refine jz ?_; refine jjB ?_; refine jjI ?_; refine jjB ?_; refine jjB ?_; refine jjC ?_; refine jm ?_; refine jn rfl ?_; refine jN rfl rfl rfl ?_; refine jh rfl ?_; apply jI; exact eI rfl; refine jz ?_; refine jjD ?_)
  have hE3 : Ext w w3 := inferInstance
  have hT3 : TextI w3 cs := hT.ext hE3
  have hrow3 : RowV w3 true 2 (.slice a cs.length c) (cs.map encCh) := hrow.h.ext hE3
  have zmb : w.heap.size ≤ mb := by have := (inferInstance : Ext w w2).size; omega
  refine W.keep0 [(3, .int .i64 (0 : Int)), (4, .map (some mb)), (17, .slice a cs.length c), (18, .int .i64 ((cs.length : Nat) : Int)), (19, .int .i64 ((0 : Nat) : Int))] ⟨eI rfl, eM rfl, eS rfl, eI rfl, eI rfl, trivial⟩ fun s0 => ?_
  refine W.loopG (20 :: 21 :: 22 :: 6 :: 23 :: 24 :: 25 :: 26 :: 27 :: 28 :: 29 :: 30 :: 31 :: 32 :: 33 :: 34 :: 35 :: 36 :: 37 :: 38 :: 39 :: 40 :: 41 :: 2 :: 42 :: 43 :: 44 :: 45 :: 46 :: 47 :: 48 :: 49 :: 50 :: 51 :: 8 :: 52 :: 53 :: 54 :: 55 :: 56 :: 57 :: 58 :: 59 :: 60 :: 3 :: 61 :: 62 :: 19 :: []) (fun g s' V => ∃ (k : Nat) (m : List (Int × Value)), s' 19 = .int .i64 ((k : Nat) : Int) ∧ s' 3 = .int .i64 (0 : Int) ∧ g = cs.length - k ∧ k ≤ cs.length ∧ Only mb w3 V ∧ MapE (Value.int .i64) V mb m ∧ (∀ x : Int, mget m x = if x ∈ (cs.take k).map (·.1) then some (.bool true) else none) ∧ (∀ (j : Nat) (hj : j < cs.length), j < k → chapB (txC cs[j]) = true) ∧ ∀ (i j : Nat) (hij : i < j) (hj : j < cs.length), j < k → (cs[i]'(by omega)).1 ≠ cs[j].1) cs.length ⟨0, [], rfl, rfl, rfl, Nat.zero_le _, .ofExt (.refl _), hM3, fun x => by simp [mget], by intros; omega, by intros; omega⟩ ?_
  rintro _ sd V ⟨k, m, h19, h3, rfl, hk, hOn, hM, hmg, hpre, hid⟩
  refine W.fix h19 (W.fix (d := 3) h3 ?_)
  clear h19 h3
  have hEV : Ext w V := hOn.ext hE3 zmb
  by_cases hkc : k < cs.length
  rotate_left
  · obtain rfl : k = cs.length := by omega
    (refine jjB ?_; refine jjC ?_; refine jja rfl rfl (by omega) ?_; refine jz ?_; refine jjB ?_; refine jjK rfl ?_; refine jjE ?_; refine jjB ?_; refine jjC ?_; apply jI; exact eI rfl; apply jJ; exact eI rfl; refine jz ?_; refine jjF ?_; refine jB rfl rfl ⟨inferInstance, ?_⟩)
    rw [textB_yes h6 (fun j hj => hpre j hj hj) (fun i j hij hj => hid i j hij hj hj)]; exact rfl
  have hgk := List.getElem?_eq_getElem hkc
  have hsk := hs.2 _ (List.getElem_mem hkc)
  have hno : chapB (txC cs[k]) = false → textB (txF cs) = false := textB_chap hkc
  have hrV : RowI V (.slice a cs.length c) true 2 (cs.map encCh) := ⟨hrow.h.ext hEV⟩
  (refine jjB ?_; refine jjC ?_; refine jjZ rfl rfl (by omega) ?_; refine jz ?_; refine jjB ?_; refine jjJ rfl ?_; refine jjG ?_; refine jjB ?_; refine jjD ?_; refine jjB ?_; refine jjC ?_; refine jF rfl rfl rfl (map_get (by omega)) ?_; intro _ _ _; refine jQ rfl rfl ?_)
  (apply jjR rfl; (intro _; first|exact eI rfl|exact eB rfl|exact eP rfl|exact eS rfl|exact eT rfl|exact eA rfl|exact eU rfl|exact eF rfl|exact eM rfl|exact eN rfl|exact rfl); exact rfl; exact rfl; exact rfl; exact rfl; intro b6 w_b6 hb_b6 hs_b6 hS_b6 hk_b6; have hA_b6 := Bk.of hk_b6)
  (refine jz ?_; refine jjB ?_; refine jjB ?_; refine jjC ?_; refine jm ?_; refine jn rfl ?_; refine jN rfl rfl rfl ?_)
  (refine jjP (v := .int _ _) rfl (by exact rfl) (by exact rfl) (by exact rfl) (by exact rfl) ?_; intro b7 w_b7 hb_b7 hs_b7 hS_b7 hk_b7; have hR_b7 := RowV.one (agg := false) (k := 1) rfl hk_b7)
  obtain ⟨Bi, hi⟩ : ∃ B, inB 0 9999 cs[k].1 = B := ⟨_, rfl⟩
  skip
  refine jjQ (inOne_leaf 0 9999 cs[k].1 b7 Bi _ hi hR_b7) rfl rfl ?_
  rintro _ w8 hS8 rfl
  cases Bi
  · (refine jq rfl ?_; apply jI; exact eB rfl; refine jU rfl rfl rfl rfl ?_; refine jU rfl rfl rfl rfl ?_; refine jU rfl rfl rfl rfl ?_; refine jU rfl rfl rfl rfl ?_; apply jK rfl; exact eB rfl; apply jI; exact eB rfl; refine jU rfl rfl rfl rfl ?_; refine jU rfl rfl rfl rfl ?_; refine jU rfl rfl rfl rfl ?_; refine jU rfl rfl rfl rfl ?_; refine jU rfl rfl rfl rfl ?_; refine jU rfl rfl rfl rfl ?_; apply jK rfl; exact eB rfl; refine jz ?_; refine jjJ rfl ?_; refine jjB ?_; refine jjC ?_; apply jJ; exact eI rfl; refine jz ?_; refine jjF ?_; refine jB rfl rfl ⟨inferInstance, ?_⟩)
    rw [hno (chapB_id hi)]; exact rfl
  have hE8 : Ext V w8 := (hS_b6.ext.trans hS_b7.ext).trans hS8.ext
  have hM8 := hM.ext hE8
  (refine jp rfl ?_; apply jI; exact eB rfl; refine jT rfl rfl rfl ?_; apply jI; exact eM rfl; refine jT rfl rfl rfl ?_; refine jm ?_; refine jn rfl ?_; refine jT rfl rfl rfl ?_; refine jN rfl rfl rfl ?_; refine jT rfl rfl rfl ?_)
  refine Ops.lookup (k := cs[k].1) hM8 rfl rfl ?_
  by_cases hdup : cs[k].1 ∈ (cs.take k).map (·.1)
  · rw [hmg, if_pos hdup]
    have htb : textB (txF cs) = false := by
      obtain ⟨x, hx, hx2⟩ := List.mem_map.1 hdup
      obtain ⟨j, hj, rfl⟩ := List.mem_iff_getElem.1 hx
      rw [List.length_take] at hj
      rw [List.getElem_take] at hx2
      exact textB_dup (i := j) (by omega) hkc hx2
    (apply jL rfl; exact eB rfl; apply jI; exact eB rfl; refine jU rfl rfl rfl rfl ?_; refine jU rfl rfl rfl rfl ?_; refine jU rfl rfl rfl rfl ?_; refine jU rfl rfl rfl rfl ?_; refine jU rfl rfl rfl rfl ?_; refine jU rfl rfl rfl rfl ?_; apply jK rfl; exact eB rfl; refine jz ?_; refine jjJ rfl ?_; refine jjB ?_; refine jjC ?_; apply jJ; exact eI rfl; refine jz ?_; refine jjF ?_; refine jB rfl rfl ⟨inferInstance, ?_⟩)
    rw [htb]; exact rfl
  rw [hmg, if_neg hdup]
  (apply jL rfl; exact eB rfl; apply jI; exact eB rfl; refine jT rfl rfl rfl ?_; refine jm ?_; refine jn rfl ?_; refine jT rfl rfl rfl ?_; refine jN rfl rfl rfl ?_; refine jT rfl rfl rfl ?_; refine jh rfl ?_; refine jT rfl rfl rfl ?_)
  (refine jjP (v := .int _ _) rfl (by exact rfl) (by exact rfl) (by exact rfl) (by exact rfl) ?_; intro b9 w_b9 hb_b9 hs_b9 hS_b9 hk_b9; have hR_b9 := RowV.one (agg := false) (k := 1) rfl hk_b9)
  obtain ⟨Bl, hl⟩ : ∃ B, inB 1 10 (cs[k].2.2.2.length : Int) = B := ⟨_, rfl⟩
  (refine jT rfl rfl rfl ?_)
  refine jjQ (inOne_leaf 1 10 (cs[k].2.2.2.length : Int) b9 Bl _ hl hR_b9) rfl rfl ?_
  rintro _ w10 hS10 rfl
  cases Bl
  · (refine jT rfl rfl rfl ?_; refine jq rfl ?_; apply jL rfl; exact eB rfl; refine jz ?_; refine jjJ rfl ?_; refine jjB ?_; refine jjC ?_; apply jJ; exact eI rfl; refine jz ?_; refine jjF ?_; refine jB rfl rfl ⟨inferInstance, ?_⟩)
    rw [hno (chapB_len hl)]; exact rfl
  have hE10 : Ext V w10 := hE8.trans (hS_b9.ext.trans hS10.ext)
  (refine jT rfl rfl rfl ?_; refine jp rfl ?_; apply jL rfl; exact eB rfl; refine jz ?_; refine jjK rfl ?_; refine jjG ?_; refine jjB ?_; refine jjC ?_; apply jI; exact eM rfl; refine jm ?_; refine jn rfl ?_; refine jN rfl rfl rfl ?_)
  refine Ops.mapUpdate (k := cs[k].1) (hM.ext hE10) rfl rfl rfl ?_
  intro w11 o11 hp11 hM11
  have hOn11 : Only mb w3 w11 := (hOn.trans (.ofExt hE10)).trans (.ofPut hp11)
  have hE11 : Ext w w11 := hOn11.ext hE3 zmb
  have hne6 : b6 ≠ mb := by have := hM.lt; omega
  have hb6 : Bk w11 b6 [.int .i64 cs[k].1, .slice cs[k].2.1 cs[k].2.2.2.length cs[k].2.2.1] 116 := hp11.bk (((hA_b6.ext hS_b7.ext).ext hS8.ext).ext (hS_b9.ext.trans hS10.ext)) hne6
  have hmg11 : ∀ x : Int, mget (mset m cs[k].1 (.bool true)) x = if x ∈ (cs.take (k + 1)).map (·.1) then some (.bool true) else none := fun x => by
    rw [take_snoc_get hgk, List.map_append]
    by_cases e : x = cs[k].1
    · subst e; rw [mget_set_same, if_pos (by simp)]
    · rw [mget_set_other _ _ e, hmg]
      congr 1
      simp [e]
  have hidk : ∀ (j : Nat) (hj : j < k), (cs[j]'(by omega)).1 ≠ cs[k].1 := fun j hj he => hdup (List.mem_map.2 ⟨cs[j]'(by omega), List.mem_iff_getElem.2 ⟨j, by rw [List.length_take]; omega, by rw [List.getElem_take]⟩, he⟩)
  have hT11 : TextI w11 cs := hT.ext hE11
  clear hmg hdup hM8
  (refine jz ?_; refine jjB ?_; refine jjC ?_; refine jm ?_; refine jn rfl ?_; refine jN rfl rfl rfl ?_; refine jh rfl ?_; apply jI; exact eI rfl; refine jz ?_; refine jjD ?_)
  refine W.keep [(3, .int .i64 (0 : Int)), (4, .map (some mb)), (17, .slice a cs.length c), (18, .int .i64 ((cs.length : Nat) : Int)), (19, .int .i64 ((k : Nat) : Int)), (46, .slice cs[k].2.1 cs[k].2.2.2.length cs[k].2.2.1), (47, .int .i64 ((cs[k].2.2.2.length : Nat) : Int)), (48, .int .i64 ((0 : Nat) : Int))] (D := (20 :: 21 :: 22 :: 6 :: 23 :: 24 :: 25 :: 26 :: 27 :: 28 :: 29 :: 30 :: 31 :: 32 :: 33 :: 34 :: 35 :: 36 :: 37 :: 38 :: 39 :: 40 :: 41 :: 2 :: 42 :: 43 :: 44 :: 45 :: 46 :: 47 :: 48 :: 49 :: 50 :: 51 :: 8 :: 52 :: 53 :: 54 :: 55 :: 56 :: 57 :: 58 :: 59 :: 60 :: 3 :: 61 :: 62 :: 19 :: [])) (sO := upds s0 _) (by ((refine Same.upd rfl ?_; refine Same.upd rfl ?_; refine Same.upd rfl ?_; refine Same.upd rfl ?_; refine Same.upd rfl ?_; refine Same.upd rfl ?_; refine Same.upd rfl ?_; refine Same.upd rfl ?_; refine Same.upd rfl ?_; refine Same.upd rfl ?_; refine Same.upd rfl ?_; refine Same.upd rfl ?_; refine Same.upd rfl ?_; refine Same.upd rfl ?_; refine Same.upd rfl ?_; refine Same.upd rfl ?_; refine Same.upd rfl ?_; refine Same.upd rfl ?_; refine Same.upd rfl ?_; refine Same.upd rfl ?_; refine Same.upd rfl ?_; refine Same.upd rfl ?_; refine Same.upd rfl ?_; refine Same.upd rfl ?_; refine Same.upd rfl ?_; refine Same.upd rfl ?_; refine Same.upd rfl ?_; refine Same.upd rfl ?_; refine Same.upd rfl ?_; refine Same.upd rfl ?_; refine Same.upd rfl ?_; refine Same.upd rfl ?_; exact Same.ovN))) ⟨eI rfl, eM rfl, eS rfl, eI rfl, eI rfl, eS rfl, eI rfl, eI rfl, trivial⟩ fun s1 hs1' => ?_
  refine W.loop (49 :: 50 :: 51 :: 8 :: 52 :: 53 :: 54 :: 55 :: 56 :: 57 :: 58 :: 59 :: 60 :: 3 :: 61 :: 48 :: []) (fun g s' V => ∃ n : Nat, s' 48 = .int .i64 ((n : Nat) : Int) ∧ s' 3 = .int .i64 (0 : Int) ∧ g = cs[k].2.2.2.length - n ∧ n ≤ cs[k].2.2.2.length ∧ ∀ (j : Nat) (hj : j < cs[k].2.2.2.length), j < n → lineB cs[k].2.2.2[j].2.2 = true) cs[k].2.2.2.length ⟨0, rfl, rfl, rfl, Nat.zero_le _, by intros; omega⟩ ?_
  rintro _ sd2 w12 hS12 ⟨n, h48, h3', rfl, hn, hpre2⟩
  refine W.fix h48 (W.fix (d := 3) h3' ?_)
  clear h48 h3'
  by_cases hnl : n < cs[k].2.2.2.length
  rotate_left
  · have hyes := chapB_yes hi hl (fun j hj => hpre2 j hj (by omega))
    (refine jjB ?_; refine jjC ?_; refine jja rfl rfl (by omega) ?_; refine jz ?_; refine jjB ?_; refine jjK rfl ?_; refine jjE ?_; refine jjC ?_; refine jY rfl rfl (by omega) ?_; apply jI; exact eI rfl; refine jz ?_)
    refine ⟨rfl, by ((refine Same.upd rfl ?_; refine Same.upd rfl ?_; refine Same.upd rfl ?_; refine Same.upd rfl ?_; refine Same.upd rfl ?_; refine Same.ovN' rfl ?_; assumption)), cs.length - (k + 1), by omega, k + 1, _, congrArg (Value.int .i64) (by omega), rfl, rfl, by omega, hOn11.trans (.ofExt hS12.ext), hM11.ext hS12.ext, hmg11, fun j hj hjk => ?_, fun i' j hij hj hjk => ?_⟩
    · by_cases e : j = k
      · subst e; exact hyes
      · exact hpre j hj (by omega)
    · by_cases e : j = k
      · subst e; exact hidk i' hij
      · exact hid i' j hij hj (by omega)
  have hsn := hsk.2 _ (List.getElem_mem hnl)
  have hnoL : lineB cs[k].2.2.2[n].2.2 = false → textB (txF cs) = false := fun h => hno (chapB_line hnl h)
  have hT12 : TextI w12 cs := hT11.ext hS12.ext
  have hE12 : Ext w w12 := hE11.trans hS12.ext
  have i2 := hT12.line hkc
  have hLR := (hT12.word hkc hnl).h
  obtain ⟨Bn, hln⟩ : ∃ B, inB 1 10 (cs[k].2.2.2[n].2.2.length : Int) = B := ⟨_, rfl⟩
  (refine jjB ?_; refine jjC ?_; refine jjZ rfl rfl (by omega) ?_; refine jz ?_; refine jjB ?_; refine jjJ rfl ?_; refine jjG ?_; refine jjB ?_; refine jjD ?_; refine jjB ?_; refine jjC ?_; refine jF rfl rfl rfl (map_get (by omega)) ?_; intro _ _ _; refine jQ rfl rfl ?_; apply jJ; exact eS rfl; refine jz ?_; refine jjB ?_; refine jjC ?_; apply jI; exact eS rfl; refine jh rfl ?_)
  (refine jjP (v := .int _ _) rfl (by exact rfl) (by exact rfl) (by exact rfl) (by exact rfl) ?_; intro b13 w_b13 hb_b13 hs_b13 hS_b13 hk_b13; have hR_b13 := RowV.one (agg := false) (k := 1) rfl hk_b13)
  refine jjQ (inOne_leaf 1 10 (cs[k].2.2.2[n].2.2.length : Int) b13 Bn _ hln hR_b13) rfl rfl ?_
  rintro _ w14 hS14 rfl
  cases Bn
  · (refine jq rfl ?_; apply jI; exact eB rfl; refine jU rfl rfl rfl rfl ?_; refine jU rfl rfl rfl rfl ?_; apply jK rfl; exact eB rfl; refine jz ?_; refine jjJ rfl ?_; refine jjB ?_; refine jjC ?_; apply jJ; exact eI rfl; refine jz ?_; refine jjE ?_; refine jjB ?_; refine jjC ?_; apply jI; exact eI rfl; apply jJ; exact eI rfl; refine jz ?_; refine jjF ?_; refine jB rfl rfl ⟨inferInstance, ?_⟩)
    rw [hnoL (lineB_len hln)]; exact rfl
  have hE14 : Ext w12 w14 := hS_b13.ext.trans hS14.ext
  obtain ⟨Bw, hw⟩ : ∃ B, (cs[k].2.2.2[n].2.2).any (fun s => !wordB s) = B := ⟨_, rfl⟩
  (refine jp rfl ?_; apply jI; exact eB rfl; refine jT rfl rfl rfl ?_; apply jI; exact eS rfl; refine jT rfl rfl rfl ?_)
  refine jjQ ((ContainsFunc_string _ _ (.func (.func 106) #[] #[]) strV cs[k].2.2.2[n].2.2 (fun s => !wordB s) (hLR.ext hE14) ⟨_, [], rfl, inferInstance, fun w' x hx hs' => Check1_leaf x w' (hsn.2 x hx)⟩).mono fun v _ _ e => e.trans (by rw [hw])) rfl rfl ?_
  rintro _ w15 hS15 rfl
  rw [not_words] at hw
  cases Bw
  · have hyes : lineB cs[k].2.2.2[n].2.2 = true := by
      have : (cs[k].2.2.2[n].2.2).all wordB = true := by simpa using hw
      rw [lineB, hln, this]; rfl
    (apply jL rfl; exact eB rfl; refine jz ?_; refine jjK rfl ?_; refine jjG ?_; refine jjC ?_; refine jY rfl rfl (by omega) ?_; apply jI; exact eI rfl; refine jz ?_)
    refine ⟨rfl, by ((refine Same.upd rfl ?_; refine Same.upd rfl ?_; refine Same.upd rfl ?_; refine Same.upd rfl ?_; refine Same.upd rfl ?_; refine Same.upd rfl ?_; refine Same.upd rfl ?_; refine Same.upd rfl ?_; refine Same.upd rfl ?_; refine Same.upd rfl ?_; refine Same.upd rfl ?_; refine Same.upd rfl ?_; refine Same.upd rfl ?_; refine Same.upd rfl ?_; refine Same.upd rfl ?_; refine Same.upd rfl ?_; refine Same.upd rfl ?_; exact Same.ovN)), cs[k].2.2.2.length - (n + 1), by omega, inferInstance, n + 1, congrArg (Value.int .i64) (by omega), rfl, rfl, by omega, fun j hj hjk => ?_⟩
    by_cases e : j = n
    · subst e; exact hyes
    · exact hpre2 j hj (by omega)
  · have hbad : lineB cs[k].2.2.2[n].2.2 = false := by
      have : (cs[k].2.2.2[n].2.2).all wordB = false := by simpa using hw
      rw [lineB, this, Bool.and_false]
    (apply jL rfl; exact eB rfl; refine jz ?_; refine jjJ rfl ?_; refine jjB ?_; refine jjC ?_; apply jJ; exact eI rfl; refine jz ?_; refine jjE ?_; refine jjB ?_; refine jjC ?_; apply jI; exact eI rfl; apply jJ; exact eI rfl; refine jz ?_; refine jjF ?_; refine jB rfl rfl ⟨inferInstance, ?_⟩)
    rw [hnoL hbad]; exact rfl
end
end Go.Proofs.YtfebegbjggoijaaGreatDoor

/- The reference of leaf: Great. -/
namespace Go.Proofs.YtfebegbjggoijaaGreatDoor
open Go.RowKit

section
variable (a : Option Addr) (c : Nat) (cs : List Ch) (w : World) [hrow : RowI w (.slice a cs.length c) true 2 (cs.map encCh)] [hT : TextI w cs]
end
end Go.Proofs.YtfebegbjggoijaaGreatDoor
