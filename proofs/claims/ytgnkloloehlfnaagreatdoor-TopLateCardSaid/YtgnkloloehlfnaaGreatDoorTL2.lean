/- Texts of the proof, part 2: Types, ReadC, Eng17, Spec0, Txt, Eng19, Eng20, Cmp, Tp1, Lib1, In, Tl1, Tr1, RefB, Tr2, Ts1, ReadT, SpW, ShJ, Eng25, ShP, Tp2, RdS, EqP, Eng21, Eng22, Eng23, Lf1, Lf2, ReadO, ReadB, ReadU, Uv, ReadV, HdD. -/
import Derived.Test.YtgnkloloehlfnaaGreatDoorProg
import Derived.KernelRfl
import Derived.Laws.CopyRow
import Derived.Laws.Externs
import Derived.Lib.Overlaps
import Derived.Lib.SliceRun
import Derived.Test.YtgnkloloehlfnaaGreatDoorRows
import Derived.Lib.SmallJoins
import Derived.LaidMore
import Derived.Lib.SplitLaws
import Derived.Shelf.Strings.OnBuilder
import Derived.Shelf.Strings.Split
import Derived.Laws.Concat
import Derived.ShapedOpen
import Derived.Deep.Strs
import Derived.Test.YtgnkloloehlfnaaGreatDoorTL1
namespace Go.Proofs.YtgnkloloehlfnaaGreatDoor
open Go.RowKit

instance : Mixed Tryz.prog := ⟨by kernel_rfl⟩
instance tu3 : TU Tryz.prog 3 (.int .i64) := ⟨Tryz.underlying3⟩
instance ts3 : TS Tryz.prog 3 (.int .i64 0) 1 8 := ⟨by kernel_rfl⟩
instance tu4 : TU Tryz.prog 4 (.bool) := ⟨Tryz.underlying4⟩
instance ts4 : TS Tryz.prog 4 (.bool false) 1 1 := ⟨by kernel_rfl⟩
instance tu5 : TU Tryz.prog 5 (.int .u8) := ⟨Tryz.underlying5⟩
instance ts5 : TS Tryz.prog 5 (.int .u8 0) 1 1 := ⟨by kernel_rfl⟩
instance tu9 : TU Tryz.prog 9 (.string) := ⟨Tryz.underlying9⟩
instance ts9 : TS Tryz.prog 9 (.string ⟨#[]⟩) 1 16 := ⟨by kernel_rfl⟩
instance : TSl Tryz.prog 22 118 := ⟨Tryz.underlying22⟩
instance tu22 : TU Tryz.prog 22 (.slice 118) := ⟨Tryz.underlying22⟩
instance ts22 : TS Tryz.prog 22 (.slice none 0 0) 1 24 := ⟨by kernel_rfl⟩
instance tu24 : TU Tryz.prog 24 (.struct #[{ name := "Chapters", type := 22, offset := 0, embedded := false, tag := "", pkgPath := "", byteOffset := 0 }]) := ⟨Tryz.underlying24⟩
instance ts24 : TS Tryz.prog 24 (.agg #[.slice none 0 0]) 1 24 := ⟨by kernel_rfl⟩
instance : TSl Tryz.prog 25 120 := ⟨Tryz.underlying25⟩
instance tu25 : TU Tryz.prog 25 (.slice 120) := ⟨Tryz.underlying25⟩
instance ts25 : TS Tryz.prog 25 (.slice none 0 0) 1 24 := ⟨by kernel_rfl⟩
instance : TSl Tryz.prog 26 123 := ⟨Tryz.underlying26⟩
instance tu26 : TU Tryz.prog 26 (.slice 123) := ⟨Tryz.underlying26⟩
instance ts26 : TS Tryz.prog 26 (.slice none 0 0) 1 24 := ⟨by kernel_rfl⟩
instance : TSl Tryz.prog 27 65 := ⟨Tryz.underlying27⟩
instance tu27 : TU Tryz.prog 27 (.slice 65) := ⟨Tryz.underlying27⟩
instance ts27 : TS Tryz.prog 27 (.slice none 0 0) 1 24 := ⟨by kernel_rfl⟩
instance tu29 : TU Tryz.prog 29 (.struct #[{ name := "Text", type := 24, offset := 0, embedded := false, tag := "", pkgPath := "", byteOffset := 0 }, { name := "Helpers", type := 25, offset := 1, embedded := false, tag := "", pkgPath := "", byteOffset := 24 }, { name := "Shares", type := 26, offset := 2, embedded := false, tag := "", pkgPath := "", byteOffset := 48 }, { name := "Sheets", type := 27, offset := 3, embedded := false, tag := "", pkgPath := "", byteOffset := 72 }]) := ⟨Tryz.underlying29⟩
instance ts29 : TS Tryz.prog 29 (.agg #[.slice none 0 0, .slice none 0 0, .slice none 0 0, .slice none 0 0]) 4 96 := ⟨by kernel_rfl⟩
instance tu31 : TU Tryz.prog 31 (.struct #[{ name := "Width", type := 3, offset := 0, embedded := false, tag := "", pkgPath := "", byteOffset := 0 }, { name := "Side", type := 5, offset := 1, embedded := false, tag := "", pkgPath := "", byteOffset := 8 }]) := ⟨Tryz.underlying31⟩
instance ts31 : TS Tryz.prog 31 (.agg #[.int .i64 0, .int .u8 0]) 2 16 := ⟨by kernel_rfl⟩
instance : TSl Tryz.prog 32 96 := ⟨Tryz.underlying32⟩
instance : TSl Tryz.prog 37 46 := ⟨Tryz.underlying37⟩
instance tu37 : TU Tryz.prog 37 (.slice 46) := ⟨Tryz.underlying37⟩
instance ts37 : TS Tryz.prog 37 (.slice none 0 0) 1 24 := ⟨by kernel_rfl⟩
instance : TMap Tryz.prog 42 44 4 := ⟨Tryz.underlying42⟩
instance tu44 : TU Tryz.prog 44 (.struct #[{ name := "Chapter", type := 3, offset := 0, embedded := false, tag := "", pkgPath := "", byteOffset := 0 }, { name := "Line", type := 3, offset := 1, embedded := false, tag := "", pkgPath := "", byteOffset := 8 }, { name := "Word", type := 3, offset := 2, embedded := false, tag := "", pkgPath := "", byteOffset := 16 }]) := ⟨Tryz.underlying44⟩
instance ts44 : TS Tryz.prog 44 (.agg #[.int .i64 0, .int .i64 0, .int .i64 0]) 3 24 := ⟨by kernel_rfl⟩
instance tu46 : TU Tryz.prog 46 (.struct #[{ name := "At", type := 44, offset := 0, embedded := false, tag := "", pkgPath := "", byteOffset := 0 }, { name := "Word", type := 9, offset := 3, embedded := false, tag := "", pkgPath := "", byteOffset := 24 }, { name := "Before", type := 9, offset := 4, embedded := false, tag := "", pkgPath := "", byteOffset := 40 }, { name := "After", type := 9, offset := 5, embedded := false, tag := "", pkgPath := "", byteOffset := 56 }]) := ⟨Tryz.underlying46⟩
instance ts46 : TS Tryz.prog 46 (.agg #[.int .i64 0, .int .i64 0, .int .i64 0, .string ⟨#[]⟩, .string ⟨#[]⟩, .string ⟨#[]⟩]) 6 72 := ⟨by kernel_rfl⟩
instance : TSl Tryz.prog 50 3 := ⟨Tryz.underlying50⟩
instance tu50 : TU Tryz.prog 50 (.slice 3) := ⟨Tryz.underlying50⟩
instance ts50 : TS Tryz.prog 50 (.slice none 0 0) 1 24 := ⟨by kernel_rfl⟩
instance : TSl Tryz.prog 53 116 := ⟨Tryz.underlying53⟩
instance tu61 : TU Tryz.prog 61 (.func #[50, 50] #[4] false) := ⟨Tryz.underlying61⟩
instance ts61 : TS Tryz.prog 61 (.nilFunc) 1 8 := ⟨by kernel_rfl⟩
instance : TSl Tryz.prog 63 66 := ⟨Tryz.underlying63⟩
instance tu63 : TU Tryz.prog 63 (.slice 66) := ⟨Tryz.underlying63⟩
instance ts63 : TS Tryz.prog 63 (.slice none 0 0) 1 24 := ⟨by kernel_rfl⟩
instance tu65 : TU Tryz.prog 65 (.struct #[{ name := "Back", type := 4, offset := 0, embedded := false, tag := "", pkgPath := "", byteOffset := 0 }, { name := "Lines", type := 63, offset := 1, embedded := false, tag := "", pkgPath := "", byteOffset := 8 }]) := ⟨Tryz.underlying65⟩
instance ts65 : TS Tryz.prog 65 (.agg #[.bool false, .slice none 0 0]) 2 32 := ⟨by kernel_rfl⟩
instance : TSl Tryz.prog 66 9 := ⟨Tryz.underlying66⟩
instance tu66 : TU Tryz.prog 66 (.slice 9) := ⟨Tryz.underlying66⟩
instance ts66 : TS Tryz.prog 66 (.slice none 0 0) 1 24 := ⟨by kernel_rfl⟩
instance tu74 : TU Tryz.prog 74 (.pointer 83) := ⟨Tryz.underlying74⟩
instance ts74 : TS Tryz.prog 74 (.pointer none) 1 8 := ⟨by kernel_rfl⟩
instance : TMap Tryz.prog 79 3 4 := ⟨Tryz.underlying79⟩
instance tu79 : TU Tryz.prog 79 (.map 3 4) := ⟨Tryz.underlying79⟩
instance ts79 : TS Tryz.prog 79 (.map none) 1 8 := ⟨by kernel_rfl⟩
instance : TSl Tryz.prog 81 44 := ⟨Tryz.underlying81⟩
instance tu81 : TU Tryz.prog 81 (.slice 44) := ⟨Tryz.underlying81⟩
instance ts81 : TS Tryz.prog 81 (.slice none 0 0) 1 24 := ⟨by kernel_rfl⟩
instance ts83 : TS Tryz.prog 83 (.agg #[.slice none 0 0, .slice none 0 0, .slice none 0 0, .slice none 0 0, .slice none 0 0, .slice none 0 0]) 6 144 := ⟨by kernel_rfl⟩
instance tu88 : TU Tryz.prog 88 (.pointer 152) := ⟨Tryz.underlying88⟩
instance ts88 : TS Tryz.prog 88 (.pointer none) 1 8 := ⟨by kernel_rfl⟩
instance tu96 : TU Tryz.prog 96 (.int .u32) := ⟨Tryz.underlying96⟩
instance ts96 : TS Tryz.prog 96 (.int .u32 0) 1 4 := ⟨by kernel_rfl⟩
instance tu100 : TU Tryz.prog 100 (.func #[46, 46] #[3] false) := ⟨Tryz.underlying100⟩
instance ts100 : TS Tryz.prog 100 (.nilFunc) 1 8 := ⟨by kernel_rfl⟩
instance ts101 : TS Tryz.prog 101 (.agg #[.nilFunc]) 1 8 := ⟨by kernel_rfl⟩
instance : TArr Tryz.prog 102 5 101 := ⟨Tryz.underlying102⟩
instance tu116 : TU Tryz.prog 116 (.struct #[{ name := "From", type := 3, offset := 0, embedded := false, tag := "", pkgPath := "", byteOffset := 0 }, { name := "To", type := 3, offset := 1, embedded := false, tag := "", pkgPath := "", byteOffset := 8 }]) := ⟨Tryz.underlying116⟩
instance ts116 : TS Tryz.prog 116 (.agg #[.int .i64 0, .int .i64 0]) 2 16 := ⟨by kernel_rfl⟩
instance tu118 : TU Tryz.prog 118 (.struct #[{ name := "Id", type := 3, offset := 0, embedded := false, tag := "", pkgPath := "", byteOffset := 0 }, { name := "Lines", type := 63, offset := 1, embedded := false, tag := "", pkgPath := "", byteOffset := 8 }]) := ⟨Tryz.underlying118⟩
instance ts118 : TS Tryz.prog 118 (.agg #[.int .i64 0, .slice none 0 0]) 2 32 := ⟨by kernel_rfl⟩
instance tu120 : TU Tryz.prog 120 (.struct #[{ name := "Id", type := 3, offset := 0, embedded := false, tag := "", pkgPath := "", byteOffset := 0 }, { name := "Post", type := 3, offset := 1, embedded := false, tag := "", pkgPath := "", byteOffset := 8 }, { name := "Rate", type := 3, offset := 2, embedded := false, tag := "", pkgPath := "", byteOffset := 16 }]) := ⟨Tryz.underlying120⟩
instance ts120 : TS Tryz.prog 120 (.agg #[.int .i64 0, .int .i64 0, .int .i64 0]) 3 24 := ⟨by kernel_rfl⟩
instance tu123 : TU Tryz.prog 123 (.struct #[{ name := "From", type := 3, offset := 0, embedded := false, tag := "", pkgPath := "", byteOffset := 0 }, { name := "To", type := 3, offset := 1, embedded := false, tag := "", pkgPath := "", byteOffset := 8 }, { name := "Helper", type := 3, offset := 2, embedded := false, tag := "", pkgPath := "", byteOffset := 16 }, { name := "Sent", type := 3, offset := 3, embedded := false, tag := "", pkgPath := "", byteOffset := 24 }]) := ⟨Tryz.underlying123⟩
instance ts123 : TS Tryz.prog 123 (.agg #[.int .i64 0, .int .i64 0, .int .i64 0, .int .i64 0]) 4 32 := ⟨by kernel_rfl⟩
instance tu129 : TU Tryz.prog 129 (.struct #[{ name := "Cut", type := 31, offset := 0, embedded := true, tag := "", pkgPath := "", byteOffset := 0 }, { name := "words", type := 66, offset := 2, embedded := false, tag := "", pkgPath := "postil/slip", byteOffset := 16 }, { name := "at", type := 81, offset := 3, embedded := false, tag := "", pkgPath := "postil/slip", byteOffset := 40 }]) := ⟨Tryz.underlying129⟩
instance ts129 : TS Tryz.prog 129 (.agg #[.int .i64 0, .int .u8 0, .slice none 0 0, .slice none 0 0]) 4 64 := ⟨by kernel_rfl⟩
instance : TSl Tryz.prog 133 141 := ⟨Tryz.underlying133⟩
instance tu133 : TU Tryz.prog 133 (.slice 141) := ⟨Tryz.underlying133⟩
instance ts133 : TS Tryz.prog 133 (.slice none 0 0) 1 24 := ⟨by kernel_rfl⟩
instance : TArr Tryz.prog 141 2 3 := ⟨Tryz.underlying141⟩
instance tu141 : TU Tryz.prog 141 (.array 2 3) := ⟨Tryz.underlying141⟩
instance ts141 : TS Tryz.prog 141 (.agg #[.int .i64 0, .int .i64 0]) 2 16 := ⟨by kernel_rfl⟩
instance tu143 : TU Tryz.prog 143 (.func #[50] #[3, 4] false) := ⟨Tryz.underlying143⟩
instance ts150 : TS Tryz.prog 150 (.agg #[.slice none 0 0, .slice none 0 0]) 2 48 := ⟨by kernel_rfl⟩
instance ts152 : TS Tryz.prog 152 (.agg #[.slice none 0 0, .slice none 0 0, .slice none 0 0, .int .i64 0]) 4 80 := ⟨by kernel_rfl⟩
instance tu160 : TU Tryz.prog 160 (.int .u64) := ⟨Tryz.underlying160⟩
instance : TMap Tryz.prog 162 3 50 := ⟨Tryz.underlying162⟩
instance tu162 : TU Tryz.prog 162 (.map 3 50) := ⟨Tryz.underlying162⟩
instance ts162 : TS Tryz.prog 162 (.map none) 1 8 := ⟨by kernel_rfl⟩
instance tu163 : TU Tryz.prog 163 (.func #[3] #[50] false) := ⟨Tryz.underlying163⟩
instance ts163 : TS Tryz.prog 163 (.nilFunc) 1 8 := ⟨by kernel_rfl⟩
instance : TSl Tryz.prog 165 50 := ⟨Tryz.underlying165⟩
instance tu170 : TU Tryz.prog 170 (.struct #[{ name := "from", type := 3, offset := 0, embedded := false, tag := "", pkgPath := "postil/slip", byteOffset := 0 }, { name := "word", type := 3, offset := 1, embedded := false, tag := "", pkgPath := "postil/slip", byteOffset := 8 }, { name := "to", type := 3, offset := 2, embedded := false, tag := "", pkgPath := "postil/slip", byteOffset := 16 }, { name := "length", type := 3, offset := 3, embedded := false, tag := "", pkgPath := "postil/slip", byteOffset := 24 }]) := ⟨Tryz.underlying170⟩
instance ts170 : TS Tryz.prog 170 (.agg #[.int .i64 0, .int .i64 0, .int .i64 0, .int .i64 0]) 4 32 := ⟨by kernel_rfl⟩
instance tu175 : TU Tryz.prog 175 (.func #[170, 170] #[3] false) := ⟨Tryz.underlying175⟩
instance ts175 : TS Tryz.prog 175 (.nilFunc) 1 8 := ⟨by kernel_rfl⟩
instance ts176 : TS Tryz.prog 176 (.agg #[.nilFunc]) 1 8 := ⟨by kernel_rfl⟩
instance : TArr Tryz.prog 177 4 176 := ⟨Tryz.underlying177⟩
instance : TArr Tryz.prog 179 2 123 := ⟨Tryz.underlying179⟩
instance ts179 : TS Tryz.prog 179 (.agg #[.int .i64 0, .int .i64 0, .int .i64 0, .int .i64 0, .int .i64 0, .int .i64 0, .int .i64 0, .int .i64 0]) 8 64 := ⟨by kernel_rfl⟩
instance tu185 : TU Tryz.prog 185 (.func #[50] #[4] false) := ⟨Tryz.underlying185⟩
instance ts185 : TS Tryz.prog 185 (.nilFunc) 1 8 := ⟨by kernel_rfl⟩
instance : TSl Tryz.prog 204 5 := ⟨Tryz.underlying204⟩
instance : TB Tryz.prog 24 [.slice none 0 0] (fun i => ([(0, 1)] : List (Nat × Nat))[i]?) := TB.struct Tryz.underlying24 ts24 (by kernel_rfl)
instance : FA Tryz.prog 24 0 0 := ⟨_, _, _, _, _, Tryz.underlying24, rfl, rfl, ts22⟩
instance : TB Tryz.prog 29 [.slice none 0 0, .slice none 0 0, .slice none 0 0, .slice none 0 0] (fun i => ([(0, 1), (1, 1), (2, 1), (3, 1)] : List (Nat × Nat))[i]?) := TB.struct Tryz.underlying29 ts29 (by kernel_rfl)
instance : FA Tryz.prog 29 0 0 := ⟨_, _, _, _, _, Tryz.underlying29, rfl, rfl, ts24⟩
instance : FA Tryz.prog 29 1 1 := ⟨_, _, _, _, _, Tryz.underlying29, rfl, rfl, ts25⟩
instance : FA Tryz.prog 29 2 2 := ⟨_, _, _, _, _, Tryz.underlying29, rfl, rfl, ts26⟩
instance : FA Tryz.prog 29 3 3 := ⟨_, _, _, _, _, Tryz.underlying29, rfl, rfl, ts27⟩
instance : TB Tryz.prog 31 [.int .i64 0, .int .u8 0] (fun i => ([(0, 1), (1, 1)] : List (Nat × Nat))[i]?) := TB.struct Tryz.underlying31 ts31 (by kernel_rfl)
instance : FA Tryz.prog 31 0 0 := ⟨_, _, _, _, _, Tryz.underlying31, rfl, rfl, ts3⟩
instance : FA Tryz.prog 31 1 1 := ⟨_, _, _, _, _, Tryz.underlying31, rfl, rfl, ts5⟩
instance : TB Tryz.prog 44 [.int .i64 0, .int .i64 0, .int .i64 0] (fun i => ([(0, 1), (1, 1), (2, 1)] : List (Nat × Nat))[i]?) := TB.struct Tryz.underlying44 ts44 (by kernel_rfl)
instance : FA Tryz.prog 44 0 0 := ⟨_, _, _, _, _, Tryz.underlying44, rfl, rfl, ts3⟩
instance : FA Tryz.prog 44 1 1 := ⟨_, _, _, _, _, Tryz.underlying44, rfl, rfl, ts3⟩
instance : FA Tryz.prog 44 2 2 := ⟨_, _, _, _, _, Tryz.underlying44, rfl, rfl, ts3⟩
instance : TB Tryz.prog 46 [.int .i64 0, .int .i64 0, .int .i64 0, .string ⟨#[]⟩, .string ⟨#[]⟩, .string ⟨#[]⟩] (fun i => ([(0, 3), (3, 1), (4, 1), (5, 1)] : List (Nat × Nat))[i]?) := TB.struct Tryz.underlying46 ts46 (by kernel_rfl)
instance : FA Tryz.prog 46 0 0 := ⟨_, _, _, _, _, Tryz.underlying46, rfl, rfl, ts44⟩
instance : FA Tryz.prog 46 1 3 := ⟨_, _, _, _, _, Tryz.underlying46, rfl, rfl, ts9⟩
instance : FA Tryz.prog 46 2 4 := ⟨_, _, _, _, _, Tryz.underlying46, rfl, rfl, ts9⟩
instance : FA Tryz.prog 46 3 5 := ⟨_, _, _, _, _, Tryz.underlying46, rfl, rfl, ts9⟩
instance : FA Tryz.prog 65 0 0 := ⟨_, _, _, _, _, Tryz.underlying65, rfl, rfl, ts4⟩
instance : FA Tryz.prog 65 1 1 := ⟨_, _, _, _, _, Tryz.underlying65, rfl, rfl, ts63⟩
instance : TB Tryz.prog 83 [.slice none 0 0, .slice none 0 0, .slice none 0 0, .slice none 0 0, .slice none 0 0, .slice none 0 0] (fun i => ([(0, 4), (4, 1), (5, 1)] : List (Nat × Nat))[i]?) := TB.struct Tryz.underlying83 ts83 (by kernel_rfl)
instance : FA Tryz.prog 83 0 0 := ⟨_, _, _, _, _, Tryz.underlying83, rfl, rfl, ts29⟩
instance : FA Tryz.prog 83 1 4 := ⟨_, _, _, _, _, Tryz.underlying83, rfl, rfl, ts63⟩
instance : FA Tryz.prog 83 2 5 := ⟨_, _, _, _, _, Tryz.underlying83, rfl, rfl, ts81⟩
instance : FA Tryz.prog 101 0 0 := ⟨_, _, _, _, _, Tryz.underlying101, rfl, rfl, ts100⟩
instance : TB Tryz.prog 116 [.int .i64 0, .int .i64 0] (fun i => ([(0, 1), (1, 1)] : List (Nat × Nat))[i]?) := TB.struct Tryz.underlying116 ts116 (by kernel_rfl)
instance : FA Tryz.prog 116 0 0 := ⟨_, _, _, _, _, Tryz.underlying116, rfl, rfl, ts3⟩
instance : FA Tryz.prog 116 1 1 := ⟨_, _, _, _, _, Tryz.underlying116, rfl, rfl, ts3⟩
instance : TB Tryz.prog 118 [.int .i64 0, .slice none 0 0] (fun i => ([(0, 1), (1, 1)] : List (Nat × Nat))[i]?) := TB.struct Tryz.underlying118 ts118 (by kernel_rfl)
instance : FA Tryz.prog 118 0 0 := ⟨_, _, _, _, _, Tryz.underlying118, rfl, rfl, ts3⟩
instance : FA Tryz.prog 118 1 1 := ⟨_, _, _, _, _, Tryz.underlying118, rfl, rfl, ts63⟩
instance : TB Tryz.prog 120 [.int .i64 0, .int .i64 0, .int .i64 0] (fun i => ([(0, 1), (1, 1), (2, 1)] : List (Nat × Nat))[i]?) := TB.struct Tryz.underlying120 ts120 (by kernel_rfl)
instance : FA Tryz.prog 120 0 0 := ⟨_, _, _, _, _, Tryz.underlying120, rfl, rfl, ts3⟩
instance : FA Tryz.prog 120 1 1 := ⟨_, _, _, _, _, Tryz.underlying120, rfl, rfl, ts3⟩
instance : FA Tryz.prog 120 2 2 := ⟨_, _, _, _, _, Tryz.underlying120, rfl, rfl, ts3⟩
instance : TB Tryz.prog 123 [.int .i64 0, .int .i64 0, .int .i64 0, .int .i64 0] (fun i => ([(0, 1), (1, 1), (2, 1), (3, 1)] : List (Nat × Nat))[i]?) := TB.struct Tryz.underlying123 ts123 (by kernel_rfl)
instance : FA Tryz.prog 123 0 0 := ⟨_, _, _, _, _, Tryz.underlying123, rfl, rfl, ts3⟩
instance : FA Tryz.prog 123 1 1 := ⟨_, _, _, _, _, Tryz.underlying123, rfl, rfl, ts3⟩
instance : FA Tryz.prog 123 2 2 := ⟨_, _, _, _, _, Tryz.underlying123, rfl, rfl, ts3⟩
instance : FA Tryz.prog 123 3 3 := ⟨_, _, _, _, _, Tryz.underlying123, rfl, rfl, ts3⟩
instance : TB Tryz.prog 129 [.int .i64 0, .int .u8 0, .slice none 0 0, .slice none 0 0] (fun i => ([(0, 2), (2, 1), (3, 1)] : List (Nat × Nat))[i]?) := TB.struct Tryz.underlying129 ts129 (by kernel_rfl)
instance : FA Tryz.prog 129 0 0 := ⟨_, _, _, _, _, Tryz.underlying129, rfl, rfl, ts31⟩
instance : FA Tryz.prog 129 1 2 := ⟨_, _, _, _, _, Tryz.underlying129, rfl, rfl, ts66⟩
instance : FA Tryz.prog 129 2 3 := ⟨_, _, _, _, _, Tryz.underlying129, rfl, rfl, ts81⟩
instance : TB Tryz.prog 141 [.int .i64 0, .int .i64 0] (fun i => some (i * 1, 1)) := TB.array Tryz.underlying141 ts141 ts3
instance : FA Tryz.prog 150 0 0 := ⟨_, _, _, _, _, Tryz.underlying150, rfl, rfl, ts50⟩
instance : FA Tryz.prog 150 1 1 := ⟨_, _, _, _, _, Tryz.underlying150, rfl, rfl, ts133⟩
instance : TB Tryz.prog 152 [.slice none 0 0, .slice none 0 0, .slice none 0 0, .int .i64 0] (fun i => ([(0, 2), (2, 1), (3, 1)] : List (Nat × Nat))[i]?) := TB.struct Tryz.underlying152 ts152 (by kernel_rfl)
instance : FA Tryz.prog 152 0 0 := ⟨_, _, _, _, _, Tryz.underlying152, rfl, rfl, ts150⟩
instance : FA Tryz.prog 152 2 3 := ⟨_, _, _, _, _, Tryz.underlying152, rfl, rfl, ts3⟩
instance : TB Tryz.prog 170 [.int .i64 0, .int .i64 0, .int .i64 0, .int .i64 0] (fun i => ([(0, 1), (1, 1), (2, 1), (3, 1)] : List (Nat × Nat))[i]?) := TB.struct Tryz.underlying170 ts170 (by kernel_rfl)
instance : FA Tryz.prog 170 0 0 := ⟨_, _, _, _, _, Tryz.underlying170, rfl, rfl, ts3⟩
instance : FA Tryz.prog 170 1 1 := ⟨_, _, _, _, _, Tryz.underlying170, rfl, rfl, ts3⟩
instance : FA Tryz.prog 170 2 2 := ⟨_, _, _, _, _, Tryz.underlying170, rfl, rfl, ts3⟩
instance : FA Tryz.prog 170 3 3 := ⟨_, _, _, _, _, Tryz.underlying170, rfl, rfl, ts3⟩
instance : FA Tryz.prog 176 0 0 := ⟨_, _, _, _, _, Tryz.underlying176, rfl, rfl, ts175⟩
instance : TB Tryz.prog 179 [.int .i64 0, .int .i64 0, .int .i64 0, .int .i64 0, .int .i64 0, .int .i64 0, .int .i64 0, .int .i64 0] (fun i => some (i * 4, 4)) := TB.array Tryz.underlying179 ts179 ts123
instance : KeyL Tryz.prog 3 (Value.int .i64) := keyL_int Tryz.underlying3
noncomputable def c3 : Code := Tryz.f3.body.getD .skip
instance : FnI Tryz.prog 3 Tryz.f3 c3 234 := ⟨Tryz.func3, by kernel_rfl, Tryz.ntmps3⟩
noncomputable def c4 : Code := Tryz.f4.body.getD .skip
instance : FnI Tryz.prog 4 Tryz.f4 c4 88 := ⟨Tryz.func4, by kernel_rfl, Tryz.ntmps4⟩
instance : Enters Tryz.prog 4 := ⟨Tryz.call4⟩
noncomputable def c5 : Code := Tryz.f5.body.getD .skip
instance : FnI Tryz.prog 5 Tryz.f5 c5 92 := ⟨Tryz.func5, by kernel_rfl, Tryz.ntmps5⟩
instance : Enters Tryz.prog 5 := ⟨Tryz.call5⟩
noncomputable def c6 : Code := Tryz.f6.body.getD .skip
instance : FnI Tryz.prog 6 Tryz.f6 c6 13 := ⟨Tryz.func6, by kernel_rfl, Tryz.ntmps6⟩
instance : Enters Tryz.prog 6 := ⟨Tryz.call6⟩
noncomputable def c7 : Code := Tryz.f7.body.getD .skip
instance : FnI Tryz.prog 7 Tryz.f7 c7 12 := ⟨Tryz.func7, by kernel_rfl, Tryz.ntmps7⟩
instance : Enters Tryz.prog 7 := ⟨Tryz.call7⟩
noncomputable def c8 : Code := Tryz.f8.body.getD .skip
instance : FnI Tryz.prog 8 Tryz.f8 c8 17 := ⟨Tryz.func8, by kernel_rfl, Tryz.ntmps8⟩
instance : Enters Tryz.prog 8 := ⟨Tryz.call8⟩
noncomputable def c9 : Code := Tryz.f9.body.getD .skip
instance : FnI Tryz.prog 9 Tryz.f9 c9 77 := ⟨Tryz.func9, by kernel_rfl, Tryz.ntmps9⟩
instance : Enters Tryz.prog 9 := ⟨Tryz.call9⟩
noncomputable def c10 : Code := Tryz.f10.body.getD .skip
instance : FnI Tryz.prog 10 Tryz.f10 c10 47 := ⟨Tryz.func10, by kernel_rfl, Tryz.ntmps10⟩
instance : Enters Tryz.prog 10 := ⟨Tryz.call10⟩
noncomputable def c11 : Code := Tryz.f11.body.getD .skip
instance : FnI Tryz.prog 11 Tryz.f11 c11 50 := ⟨Tryz.func11, by kernel_rfl, Tryz.ntmps11⟩
instance : Enters Tryz.prog 11 := ⟨Tryz.call11⟩
noncomputable def c12 : Code := Tryz.f12.body.getD .skip
instance : FnI Tryz.prog 12 Tryz.f12 c12 72 := ⟨Tryz.func12, by kernel_rfl, Tryz.ntmps12⟩
instance : Enters Tryz.prog 12 := ⟨Tryz.call12⟩
noncomputable def c13 : Code := Tryz.f13.body.getD .skip
instance : FnI Tryz.prog 13 Tryz.f13 c13 81 := ⟨Tryz.func13, by kernel_rfl, Tryz.ntmps13⟩
instance : Enters Tryz.prog 13 := ⟨Tryz.call13⟩
noncomputable def c14 : Code := Tryz.f14.body.getD .skip
instance : FnI Tryz.prog 14 Tryz.f14 c14 74 := ⟨Tryz.func14, by kernel_rfl, Tryz.ntmps14⟩
instance : Enters Tryz.prog 14 := ⟨Tryz.call14⟩
noncomputable def c15 : Code := Tryz.f15.body.getD .skip
instance : FnI Tryz.prog 15 Tryz.f15 c15 10 := ⟨Tryz.func15, by kernel_rfl, Tryz.ntmps15⟩
instance : Enters Tryz.prog 15 := ⟨Tryz.call15⟩
noncomputable def c16 : Code := Tryz.f16.body.getD .skip
instance : FnI Tryz.prog 16 Tryz.f16 c16 2 := ⟨Tryz.func16, by kernel_rfl, Tryz.ntmps16⟩
instance : Enters Tryz.prog 16 := ⟨Tryz.call16⟩
noncomputable def c17 : Code := Tryz.f17.body.getD .skip
instance : FnI Tryz.prog 17 Tryz.f17 c17 26 := ⟨Tryz.func17, by kernel_rfl, Tryz.ntmps17⟩
instance : Enters Tryz.prog 17 := ⟨Tryz.call17⟩
noncomputable def c18 : Code := Tryz.f18.body.getD .skip
instance : FnI Tryz.prog 18 Tryz.f18 c18 26 := ⟨Tryz.func18, by kernel_rfl, Tryz.ntmps18⟩
instance : Enters Tryz.prog 18 := ⟨Tryz.call18⟩
noncomputable def c19 : Code := Tryz.f19.body.getD .skip
instance : FnI Tryz.prog 19 Tryz.f19 c19 75 := ⟨Tryz.func19, by kernel_rfl, Tryz.ntmps19⟩
instance : Enters Tryz.prog 19 := ⟨Tryz.call19⟩
noncomputable def c20 : Code := Tryz.f20.body.getD .skip
instance : FnI Tryz.prog 20 Tryz.f20 c20 6 := ⟨Tryz.func20, by kernel_rfl, Tryz.ntmps20⟩
instance : Enters Tryz.prog 20 := ⟨Tryz.call20⟩
noncomputable def c21 : Code := Tryz.f21.body.getD .skip
instance : FnI Tryz.prog 21 Tryz.f21 c21 215 := ⟨Tryz.func21, by kernel_rfl, Tryz.ntmps21⟩
instance : Enters Tryz.prog 21 := ⟨Tryz.call21⟩
noncomputable def c22 : Code := Tryz.f22.body.getD .skip
instance : FnI Tryz.prog 22 Tryz.f22 c22 15 := ⟨Tryz.func22, by kernel_rfl, Tryz.ntmps22⟩
instance : Enters Tryz.prog 22 := ⟨Tryz.call22⟩
noncomputable def c23 : Code := Tryz.f23.body.getD .skip
instance : FnI Tryz.prog 23 Tryz.f23 c23 13 := ⟨Tryz.func23, by kernel_rfl, Tryz.ntmps23⟩
instance : Enters Tryz.prog 23 := ⟨Tryz.call23⟩
noncomputable def c24 : Code := Tryz.f24.body.getD .skip
instance : FnI Tryz.prog 24 Tryz.f24 c24 5 := ⟨Tryz.func24, by kernel_rfl, Tryz.ntmps24⟩
instance : Enters Tryz.prog 24 := ⟨Tryz.call24⟩
noncomputable def c25 : Code := Tryz.f25.body.getD .skip
instance : FnI Tryz.prog 25 Tryz.f25 c25 6 := ⟨Tryz.func25, by kernel_rfl, Tryz.ntmps25⟩
instance : Enters Tryz.prog 25 := ⟨Tryz.call25⟩
noncomputable def c26 : Code := Tryz.f26.body.getD .skip
instance : FnI Tryz.prog 26 Tryz.f26 c26 18 := ⟨Tryz.func26, by kernel_rfl, Tryz.ntmps26⟩
instance : Enters Tryz.prog 26 := ⟨Tryz.call26⟩
noncomputable def c27 : Code := Tryz.f27.body.getD .skip
instance : FnI Tryz.prog 27 Tryz.f27 c27 16 := ⟨Tryz.func27, by kernel_rfl, Tryz.ntmps27⟩
instance : Enters Tryz.prog 27 := ⟨Tryz.call27⟩
noncomputable def c28 : Code := Tryz.f28.body.getD .skip
instance : FnI Tryz.prog 28 Tryz.f28 c28 37 := ⟨Tryz.func28, by kernel_rfl, Tryz.ntmps28⟩
instance : Enters Tryz.prog 28 := ⟨Tryz.call28⟩
noncomputable def c29 : Code := Tryz.f29.body.getD .skip
instance : FnI Tryz.prog 29 Tryz.f29 c29 43 := ⟨Tryz.func29, by kernel_rfl, Tryz.ntmps29⟩
instance : Enters Tryz.prog 29 := ⟨Tryz.call29⟩
noncomputable def c30 : Code := Tryz.f30.body.getD .skip
instance : FnI Tryz.prog 30 Tryz.f30 c30 20 := ⟨Tryz.func30, by kernel_rfl, Tryz.ntmps30⟩
instance : Enters Tryz.prog 30 := ⟨Tryz.call30⟩
noncomputable def c31 : Code := Tryz.f31.body.getD .skip
instance : FnI Tryz.prog 31 Tryz.f31 c31 9 := ⟨Tryz.func31, by kernel_rfl, Tryz.ntmps31⟩
instance : Enters Tryz.prog 31 := ⟨Tryz.call31⟩
noncomputable def c32 : Code := Tryz.f32.body.getD .skip
instance : FnI Tryz.prog 32 Tryz.f32 c32 29 := ⟨Tryz.func32, by kernel_rfl, Tryz.ntmps32⟩
instance : Enters Tryz.prog 32 := ⟨Tryz.call32⟩
noncomputable def c33 : Code := Tryz.f33.body.getD .skip
instance : FnI Tryz.prog 33 Tryz.f33 c33 65 := ⟨Tryz.func33, by kernel_rfl, Tryz.ntmps33⟩
instance : Enters Tryz.prog 33 := ⟨Tryz.call33⟩
noncomputable def c34 : Code := Tryz.f34.body.getD .skip
instance : FnI Tryz.prog 34 Tryz.f34 c34 4 := ⟨Tryz.func34, by kernel_rfl, Tryz.ntmps34⟩
instance : Enters Tryz.prog 34 := ⟨Tryz.call34⟩
noncomputable def c35 : Code := Tryz.f35.body.getD .skip
instance : FnI Tryz.prog 35 Tryz.f35 c35 24 := ⟨Tryz.func35, by kernel_rfl, Tryz.ntmps35⟩
instance : Enters Tryz.prog 35 := ⟨Tryz.call35⟩
noncomputable def c36 : Code := Tryz.f36.body.getD .skip
instance : FnI Tryz.prog 36 Tryz.f36 c36 36 := ⟨Tryz.func36, by kernel_rfl, Tryz.ntmps36⟩
instance : Enters Tryz.prog 36 := ⟨Tryz.call36⟩
noncomputable def c37 : Code := Tryz.f37.body.getD .skip
instance : FnI Tryz.prog 37 Tryz.f37 c37 11 := ⟨Tryz.func37, by kernel_rfl, Tryz.ntmps37⟩
instance : Enters Tryz.prog 37 := ⟨Tryz.call37⟩
noncomputable def c38 : Code := Tryz.f38.body.getD .skip
instance : FnI Tryz.prog 38 Tryz.f38 c38 8 := ⟨Tryz.func38, by kernel_rfl, Tryz.ntmps38⟩
instance : Enters Tryz.prog 38 := ⟨Tryz.call38⟩
noncomputable def c39 : Code := Tryz.f39.body.getD .skip
instance : FnI Tryz.prog 39 Tryz.f39 c39 14 := ⟨Tryz.func39, by kernel_rfl, Tryz.ntmps39⟩
instance : Enters Tryz.prog 39 := ⟨Tryz.call39⟩
noncomputable def c40 : Code := Tryz.f40.body.getD .skip
instance : FnI Tryz.prog 40 Tryz.f40 c40 66 := ⟨Tryz.func40, by kernel_rfl, Tryz.ntmps40⟩
instance : Enters Tryz.prog 40 := ⟨Tryz.call40⟩
noncomputable def c41 : Code := Tryz.f41.body.getD .skip
instance : FnI Tryz.prog 41 Tryz.f41 c41 11 := ⟨Tryz.func41, by kernel_rfl, Tryz.ntmps41⟩
instance : Enters Tryz.prog 41 := ⟨Tryz.call41⟩
noncomputable def c42 : Code := Tryz.f42.body.getD .skip
instance : FnI Tryz.prog 42 Tryz.f42 c42 49 := ⟨Tryz.func42, by kernel_rfl, Tryz.ntmps42⟩
instance : Enters Tryz.prog 42 := ⟨Tryz.call42⟩
noncomputable def c43 : Code := Tryz.f43.body.getD .skip
instance : FnI Tryz.prog 43 Tryz.f43 c43 18 := ⟨Tryz.func43, by kernel_rfl, Tryz.ntmps43⟩
instance : Enters Tryz.prog 43 := ⟨Tryz.call43⟩
noncomputable def c44 : Code := Tryz.f44.body.getD .skip
instance : FnI Tryz.prog 44 Tryz.f44 c44 27 := ⟨Tryz.func44, by kernel_rfl, Tryz.ntmps44⟩
instance : Enters Tryz.prog 44 := ⟨Tryz.call44⟩
noncomputable def c45 : Code := Tryz.f45.body.getD .skip
instance : FnI Tryz.prog 45 Tryz.f45 c45 19 := ⟨Tryz.func45, by kernel_rfl, Tryz.ntmps45⟩
instance : Enters Tryz.prog 45 := ⟨Tryz.call45⟩
noncomputable def c46 : Code := Tryz.f46.body.getD .skip
instance : FnI Tryz.prog 46 Tryz.f46 c46 33 := ⟨Tryz.func46, by kernel_rfl, Tryz.ntmps46⟩
instance : Enters Tryz.prog 46 := ⟨Tryz.call46⟩
noncomputable def c47 : Code := Tryz.f47.body.getD .skip
instance : FnI Tryz.prog 47 Tryz.f47 c47 19 := ⟨Tryz.func47, by kernel_rfl, Tryz.ntmps47⟩
instance : Enters Tryz.prog 47 := ⟨Tryz.call47⟩
noncomputable def c48 : Code := Tryz.f48.body.getD .skip
instance : FnI Tryz.prog 48 Tryz.f48 c48 21 := ⟨Tryz.func48, by kernel_rfl, Tryz.ntmps48⟩
instance : Enters Tryz.prog 48 := ⟨Tryz.call48⟩
noncomputable def c49 : Code := Tryz.f49.body.getD .skip
instance : FnI Tryz.prog 49 Tryz.f49 c49 95 := ⟨Tryz.func49, by kernel_rfl, Tryz.ntmps49⟩
instance : Enters Tryz.prog 49 := ⟨Tryz.call49⟩
noncomputable def c50 : Code := Tryz.f50.body.getD .skip
instance : FnI Tryz.prog 50 Tryz.f50 c50 85 := ⟨Tryz.func50, by kernel_rfl, Tryz.ntmps50⟩
instance : Enters Tryz.prog 50 := ⟨Tryz.call50⟩
noncomputable def c51 : Code := Tryz.f51.body.getD .skip
instance : FnI Tryz.prog 51 Tryz.f51 c51 15 := ⟨Tryz.func51, by kernel_rfl, Tryz.ntmps51⟩
instance : Enters Tryz.prog 51 := ⟨Tryz.call51⟩
noncomputable def c52 : Code := Tryz.f52.body.getD .skip
instance : FnI Tryz.prog 52 Tryz.f52 c52 37 := ⟨Tryz.func52, by kernel_rfl, Tryz.ntmps52⟩
instance : Enters Tryz.prog 52 := ⟨Tryz.call52⟩
noncomputable def c53 : Code := Tryz.f53.body.getD .skip
instance : FnI Tryz.prog 53 Tryz.f53 c53 23 := ⟨Tryz.func53, by kernel_rfl, Tryz.ntmps53⟩
instance : Enters Tryz.prog 53 := ⟨Tryz.call53⟩
noncomputable def c54 : Code := Tryz.f54.body.getD .skip
instance : FnI Tryz.prog 54 Tryz.f54 c54 64 := ⟨Tryz.func54, by kernel_rfl, Tryz.ntmps54⟩
instance : Enters Tryz.prog 54 := ⟨Tryz.call54⟩
noncomputable def c55 : Code := Tryz.f55.body.getD .skip
instance : FnI Tryz.prog 55 Tryz.f55 c55 13 := ⟨Tryz.func55, by kernel_rfl, Tryz.ntmps55⟩
instance : Enters Tryz.prog 55 := ⟨Tryz.call55⟩
noncomputable def c56 : Code := Tryz.f56.body.getD .skip
instance : FnI Tryz.prog 56 Tryz.f56 c56 31 := ⟨Tryz.func56, by kernel_rfl, Tryz.ntmps56⟩
instance : Enters Tryz.prog 56 := ⟨Tryz.call56⟩
noncomputable def c57 : Code := Tryz.f57.body.getD .skip
instance : FnI Tryz.prog 57 Tryz.f57 c57 51 := ⟨Tryz.func57, by kernel_rfl, Tryz.ntmps57⟩
instance : Enters Tryz.prog 57 := ⟨Tryz.call57⟩
noncomputable def c58 : Code := Tryz.f58.body.getD .skip
instance : FnI Tryz.prog 58 Tryz.f58 c58 38 := ⟨Tryz.func58, by kernel_rfl, Tryz.ntmps58⟩
instance : Enters Tryz.prog 58 := ⟨Tryz.call58⟩
noncomputable def c59 : Code := Tryz.f59.body.getD .skip
instance : FnI Tryz.prog 59 Tryz.f59 c59 53 := ⟨Tryz.func59, by kernel_rfl, Tryz.ntmps59⟩
instance : Enters Tryz.prog 59 := ⟨Tryz.call59⟩
noncomputable def c60 : Code := Tryz.f60.body.getD .skip
instance : FnI Tryz.prog 60 Tryz.f60 c60 197 := ⟨Tryz.func60, by kernel_rfl, Tryz.ntmps60⟩
instance : Enters Tryz.prog 60 := ⟨Tryz.call60⟩
noncomputable def c61 : Code := Tryz.f61.body.getD .skip
instance : FnI Tryz.prog 61 Tryz.f61 c61 11 := ⟨Tryz.func61, by kernel_rfl, Tryz.ntmps61⟩
instance : Enters Tryz.prog 61 := ⟨Tryz.call61⟩
noncomputable def c62 : Code := Tryz.f62.body.getD .skip
instance : FnI Tryz.prog 62 Tryz.f62 c62 23 := ⟨Tryz.func62, by kernel_rfl, Tryz.ntmps62⟩
instance : Enters Tryz.prog 62 := ⟨Tryz.call62⟩
noncomputable def c63 : Code := Tryz.f63.body.getD .skip
instance : FnI Tryz.prog 63 Tryz.f63 c63 83 := ⟨Tryz.func63, by kernel_rfl, Tryz.ntmps63⟩
instance : Enters Tryz.prog 63 := ⟨Tryz.call63⟩
noncomputable def c64 : Code := Tryz.f64.body.getD .skip
instance : FnI Tryz.prog 64 Tryz.f64 c64 31 := ⟨Tryz.func64, by kernel_rfl, Tryz.ntmps64⟩
instance : Enters Tryz.prog 64 := ⟨Tryz.call64⟩
noncomputable def c65 : Code := Tryz.f65.body.getD .skip
instance : FnI Tryz.prog 65 Tryz.f65 c65 6 := ⟨Tryz.func65, by kernel_rfl, Tryz.ntmps65⟩
instance : Enters Tryz.prog 65 := ⟨Tryz.call65⟩
noncomputable def c66 : Code := Tryz.f66.body.getD .skip
instance : FnI Tryz.prog 66 Tryz.f66 c66 34 := ⟨Tryz.func66, by kernel_rfl, Tryz.ntmps66⟩
instance : Enters Tryz.prog 66 := ⟨Tryz.call66⟩
noncomputable def c67 : Code := Tryz.f67.body.getD .skip
instance : FnI Tryz.prog 67 Tryz.f67 c67 9 := ⟨Tryz.func67, by kernel_rfl, Tryz.ntmps67⟩
instance : Enters Tryz.prog 67 := ⟨Tryz.call67⟩
noncomputable def c68 : Code := Tryz.f68.body.getD .skip
instance : FnI Tryz.prog 68 Tryz.f68 c68 9 := ⟨Tryz.func68, by kernel_rfl, Tryz.ntmps68⟩
instance : Enters Tryz.prog 68 := ⟨Tryz.call68⟩
noncomputable def c69 : Code := Tryz.f69.body.getD .skip
instance : FnI Tryz.prog 69 Tryz.f69 c69 9 := ⟨Tryz.func69, by kernel_rfl, Tryz.ntmps69⟩
instance : Enters Tryz.prog 69 := ⟨Tryz.call69⟩
noncomputable def c70 : Code := Tryz.f70.body.getD .skip
instance : FnI Tryz.prog 70 Tryz.f70 c70 30 := ⟨Tryz.func70, by kernel_rfl, Tryz.ntmps70⟩
instance : Enters Tryz.prog 70 := ⟨Tryz.call70⟩
noncomputable def c71 : Code := Tryz.f71.body.getD .skip
instance : FnI Tryz.prog 71 Tryz.f71 c71 6 := ⟨Tryz.func71, by kernel_rfl, Tryz.ntmps71⟩
instance : Enters Tryz.prog 71 := ⟨Tryz.call71⟩
noncomputable def c72 : Code := Tryz.f72.body.getD .skip
instance : FnI Tryz.prog 72 Tryz.f72 c72 35 := ⟨Tryz.func72, by kernel_rfl, Tryz.ntmps72⟩
instance : Enters Tryz.prog 72 := ⟨Tryz.call72⟩
noncomputable def c73 : Code := Tryz.f73.body.getD .skip
instance : FnI Tryz.prog 73 Tryz.f73 c73 31 := ⟨Tryz.func73, by kernel_rfl, Tryz.ntmps73⟩
instance : Enters Tryz.prog 73 := ⟨Tryz.call73⟩
noncomputable def c74 : Code := Tryz.f74.body.getD .skip
instance : FnI Tryz.prog 74 Tryz.f74 c74 9 := ⟨Tryz.func74, by kernel_rfl, Tryz.ntmps74⟩
instance : Enters Tryz.prog 74 := ⟨Tryz.call74⟩
noncomputable def c75 : Code := Tryz.f75.body.getD .skip
instance : FnI Tryz.prog 75 Tryz.f75 c75 15 := ⟨Tryz.func75, by kernel_rfl, Tryz.ntmps75⟩
instance : Enters Tryz.prog 75 := ⟨Tryz.call75⟩
noncomputable def c76 : Code := Tryz.f76.body.getD .skip
instance : FnI Tryz.prog 76 Tryz.f76 c76 20 := ⟨Tryz.func76, by kernel_rfl, Tryz.ntmps76⟩
instance : Enters Tryz.prog 76 := ⟨Tryz.call76⟩
noncomputable def c77 : Code := Tryz.f77.body.getD .skip
instance : FnI Tryz.prog 77 Tryz.f77 c77 28 := ⟨Tryz.func77, by kernel_rfl, Tryz.ntmps77⟩
instance : Enters Tryz.prog 77 := ⟨Tryz.call77⟩
noncomputable def c78 : Code := Tryz.f78.body.getD .skip
instance : FnI Tryz.prog 78 Tryz.f78 c78 18 := ⟨Tryz.func78, by kernel_rfl, Tryz.ntmps78⟩
instance : Enters Tryz.prog 78 := ⟨Tryz.call78⟩
noncomputable def c79 : Code := Tryz.f79.body.getD .skip
instance : FnI Tryz.prog 79 Tryz.f79 c79 20 := ⟨Tryz.func79, by kernel_rfl, Tryz.ntmps79⟩
instance : Enters Tryz.prog 79 := ⟨Tryz.call79⟩
noncomputable def c80 : Code := Tryz.f80.body.getD .skip
instance : FnI Tryz.prog 80 Tryz.f80 c80 22 := ⟨Tryz.func80, by kernel_rfl, Tryz.ntmps80⟩
instance : Enters Tryz.prog 80 := ⟨Tryz.call80⟩
noncomputable def c81 : Code := Tryz.f81.body.getD .skip
instance : FnI Tryz.prog 81 Tryz.f81 c81 13 := ⟨Tryz.func81, by kernel_rfl, Tryz.ntmps81⟩
instance : Enters Tryz.prog 81 := ⟨Tryz.call81⟩
noncomputable def c82 : Code := Tryz.f82.body.getD .skip
instance : FnI Tryz.prog 82 Tryz.f82 c82 148 := ⟨Tryz.func82, by kernel_rfl, Tryz.ntmps82⟩
instance : Enters Tryz.prog 82 := ⟨Tryz.call82⟩
instance : Enters Tryz.prog 83 := ⟨Tryz.call83⟩
noncomputable def c84 : Code := Tryz.f84.body.getD .skip
instance : FnI Tryz.prog 84 Tryz.f84 c84 23 := ⟨Tryz.func84, by kernel_rfl, Tryz.ntmps84⟩
instance : Enters Tryz.prog 84 := ⟨Tryz.call84⟩
noncomputable def c85 : Code := Tryz.f85.body.getD .skip
instance : FnI Tryz.prog 85 Tryz.f85 c85 36 := ⟨Tryz.func85, by kernel_rfl, Tryz.ntmps85⟩
instance : Enters Tryz.prog 85 := ⟨Tryz.call85⟩
noncomputable def c86 : Code := Tryz.f86.body.getD .skip
instance : FnI Tryz.prog 86 Tryz.f86 c86 54 := ⟨Tryz.func86, by kernel_rfl, Tryz.ntmps86⟩
instance : Enters Tryz.prog 86 := ⟨Tryz.call86⟩
noncomputable def c87 : Code := Tryz.f87.body.getD .skip
instance : FnI Tryz.prog 87 Tryz.f87 c87 26 := ⟨Tryz.func87, by kernel_rfl, Tryz.ntmps87⟩
instance : Enters Tryz.prog 87 := ⟨Tryz.call87⟩
noncomputable def c88 : Code := Tryz.f88.body.getD .skip
instance : FnI Tryz.prog 88 Tryz.f88 c88 8 := ⟨Tryz.func88, by kernel_rfl, Tryz.ntmps88⟩
instance : Enters Tryz.prog 88 := ⟨Tryz.call88⟩
noncomputable def c91 : Code := Tryz.f91.body.getD .skip
instance : FnI Tryz.prog 91 Tryz.f91 c91 15 := ⟨Tryz.func91, by kernel_rfl, Tryz.ntmps91⟩
instance : Enters Tryz.prog 91 := ⟨Tryz.call91⟩
noncomputable def c92 : Code := Tryz.f92.body.getD .skip
instance : FnI Tryz.prog 92 Tryz.f92 c92 11 := ⟨Tryz.func92, by kernel_rfl, Tryz.ntmps92⟩
instance : Enters Tryz.prog 92 := ⟨Tryz.call92⟩
noncomputable def c93 : Code := Tryz.f93.body.getD .skip
instance : FnI Tryz.prog 93 Tryz.f93 c93 9 := ⟨Tryz.func93, by kernel_rfl, Tryz.ntmps93⟩
instance : Enters Tryz.prog 93 := ⟨Tryz.call93⟩
noncomputable def c94 : Code := Tryz.f94.body.getD .skip
instance : FnI Tryz.prog 94 Tryz.f94 c94 6 := ⟨Tryz.func94, by kernel_rfl, Tryz.ntmps94⟩
instance : Enters Tryz.prog 94 := ⟨Tryz.call94⟩
noncomputable def c95 : Code := Tryz.f95.body.getD .skip
instance : FnI Tryz.prog 95 Tryz.f95 c95 13 := ⟨Tryz.func95, by kernel_rfl, Tryz.ntmps95⟩
instance : Enters Tryz.prog 95 := ⟨Tryz.call95⟩
noncomputable def c96 : Code := Tryz.f96.body.getD .skip
instance : FnI Tryz.prog 96 Tryz.f96 c96 21 := ⟨Tryz.func96, by kernel_rfl, Tryz.ntmps96⟩
instance : Enters Tryz.prog 96 := ⟨Tryz.call96⟩
noncomputable def c97 : Code := Tryz.f97.body.getD .skip
instance : FnI Tryz.prog 97 Tryz.f97 c97 6 := ⟨Tryz.func97, by kernel_rfl, Tryz.ntmps97⟩
instance : Enters Tryz.prog 97 := ⟨Tryz.call97⟩
noncomputable def c98 : Code := Tryz.f98.body.getD .skip
instance : FnI Tryz.prog 98 Tryz.f98 c98 22 := ⟨Tryz.func98, by kernel_rfl, Tryz.ntmps98⟩
instance : Enters Tryz.prog 98 := ⟨Tryz.call98⟩
instance : Enters Tryz.prog 99 := ⟨Tryz.call99⟩
noncomputable def c100 : Code := Tryz.f100.body.getD .skip
instance : FnI Tryz.prog 100 Tryz.f100 c100 11 := ⟨Tryz.func100, by kernel_rfl, Tryz.ntmps100⟩
instance : Enters Tryz.prog 100 := ⟨Tryz.call100⟩
noncomputable def c101 : Code := Tryz.f101.body.getD .skip
instance : FnI Tryz.prog 101 Tryz.f101 c101 9 := ⟨Tryz.func101, by kernel_rfl, Tryz.ntmps101⟩
instance : Enters Tryz.prog 101 := ⟨Tryz.call101⟩
noncomputable def c102 : Code := Tryz.f102.body.getD .skip
instance : FnI Tryz.prog 102 Tryz.f102 c102 7 := ⟨Tryz.func102, by kernel_rfl, Tryz.ntmps102⟩
instance : Enters Tryz.prog 102 := ⟨Tryz.call102⟩
noncomputable def c103 : Code := Tryz.f103.body.getD .skip
instance : FnI Tryz.prog 103 Tryz.f103 c103 8 := ⟨Tryz.func103, by kernel_rfl, Tryz.ntmps103⟩
instance : Enters Tryz.prog 103 := ⟨Tryz.call103⟩
noncomputable def c104 : Code := Tryz.f104.body.getD .skip
instance : FnI Tryz.prog 104 Tryz.f104 c104 13 := ⟨Tryz.func104, by kernel_rfl, Tryz.ntmps104⟩
instance : Enters Tryz.prog 104 := ⟨Tryz.call104⟩
noncomputable def c105 : Code := Tryz.f105.body.getD .skip
instance : FnI Tryz.prog 105 Tryz.f105 c105 30 := ⟨Tryz.func105, by kernel_rfl, Tryz.ntmps105⟩
instance : Enters Tryz.prog 105 := ⟨Tryz.call105⟩
noncomputable def c106 : Code := Tryz.f106.body.getD .skip
instance : FnI Tryz.prog 106 Tryz.f106 c106 19 := ⟨Tryz.func106, by kernel_rfl, Tryz.ntmps106⟩
instance : Enters Tryz.prog 106 := ⟨Tryz.call106⟩
noncomputable def c107 : Code := Tryz.f107.body.getD .skip
instance : FnI Tryz.prog 107 Tryz.f107 c107 32 := ⟨Tryz.func107, by kernel_rfl, Tryz.ntmps107⟩
instance : Enters Tryz.prog 107 := ⟨Tryz.call107⟩
noncomputable def c108 : Code := Tryz.f108.body.getD .skip
instance : FnI Tryz.prog 108 Tryz.f108 c108 26 := ⟨Tryz.func108, by kernel_rfl, Tryz.ntmps108⟩
instance : Enters Tryz.prog 108 := ⟨Tryz.call108⟩
noncomputable def c109 : Code := Tryz.f109.body.getD .skip
instance : FnI Tryz.prog 109 Tryz.f109 c109 8 := ⟨Tryz.func109, by kernel_rfl, Tryz.ntmps109⟩
instance : Enters Tryz.prog 109 := ⟨Tryz.call109⟩
noncomputable def c110 : Code := Tryz.f110.body.getD .skip
instance : FnI Tryz.prog 110 Tryz.f110 c110 28 := ⟨Tryz.func110, by kernel_rfl, Tryz.ntmps110⟩
instance : Enters Tryz.prog 110 := ⟨Tryz.call110⟩
noncomputable def c111 : Code := Tryz.f111.body.getD .skip
instance : FnI Tryz.prog 111 Tryz.f111 c111 19 := ⟨Tryz.func111, by kernel_rfl, Tryz.ntmps111⟩
instance : Enters Tryz.prog 111 := ⟨Tryz.call111⟩
noncomputable def c112 : Code := Tryz.f112.body.getD .skip
instance : FnI Tryz.prog 112 Tryz.f112 c112 38 := ⟨Tryz.func112, by kernel_rfl, Tryz.ntmps112⟩
instance : Enters Tryz.prog 112 := ⟨Tryz.call112⟩
noncomputable def c113 : Code := Tryz.f113.body.getD .skip
instance : FnI Tryz.prog 113 Tryz.f113 c113 19 := ⟨Tryz.func113, by kernel_rfl, Tryz.ntmps113⟩
instance : Enters Tryz.prog 113 := ⟨Tryz.call113⟩
noncomputable def c114 : Code := Tryz.f114.body.getD .skip
instance : FnI Tryz.prog 114 Tryz.f114 c114 63 := ⟨Tryz.func114, by kernel_rfl, Tryz.ntmps114⟩
instance : Enters Tryz.prog 114 := ⟨Tryz.call114⟩
noncomputable def c115 : Code := Tryz.f115.body.getD .skip
instance : FnI Tryz.prog 115 Tryz.f115 c115 6 := ⟨Tryz.func115, by kernel_rfl, Tryz.ntmps115⟩
instance : Enters Tryz.prog 115 := ⟨Tryz.call115⟩
noncomputable def c116 : Code := Tryz.f116.body.getD .skip
instance : FnI Tryz.prog 116 Tryz.f116 c116 27 := ⟨Tryz.func116, by kernel_rfl, Tryz.ntmps116⟩
instance : Enters Tryz.prog 116 := ⟨Tryz.call116⟩
noncomputable def c117 : Code := Tryz.f117.body.getD .skip
instance : FnI Tryz.prog 117 Tryz.f117 c117 13 := ⟨Tryz.func117, by kernel_rfl, Tryz.ntmps117⟩
instance : Enters Tryz.prog 117 := ⟨Tryz.call117⟩
noncomputable def c118 : Code := Tryz.f118.body.getD .skip
instance : FnI Tryz.prog 118 Tryz.f118 c118 6 := ⟨Tryz.func118, by kernel_rfl, Tryz.ntmps118⟩
instance : Enters Tryz.prog 118 := ⟨Tryz.call118⟩
noncomputable def c119 : Code := Tryz.f119.body.getD .skip
instance : FnI Tryz.prog 119 Tryz.f119 c119 53 := ⟨Tryz.func119, by kernel_rfl, Tryz.ntmps119⟩
instance : Enters Tryz.prog 119 := ⟨Tryz.call119⟩
noncomputable def c130 : Code := Tryz.f130.body.getD .skip
instance : FnI Tryz.prog 130 Tryz.f130 c130 13 := ⟨Tryz.func130, by kernel_rfl, Tryz.ntmps130⟩
instance : Enters Tryz.prog 130 := ⟨Tryz.call130⟩
noncomputable def c131 : Code := Tryz.f131.body.getD .skip
instance : FnI Tryz.prog 131 Tryz.f131 c131 19 := ⟨Tryz.func131, by kernel_rfl, Tryz.ntmps131⟩
instance : Enters Tryz.prog 131 := ⟨Tryz.call131⟩
noncomputable def c132 : Code := Tryz.f132.body.getD .skip
instance : FnI Tryz.prog 132 Tryz.f132 c132 9 := ⟨Tryz.func132, by kernel_rfl, Tryz.ntmps132⟩
instance : Enters Tryz.prog 132 := ⟨Tryz.call132⟩
noncomputable def c133 : Code := Tryz.f133.body.getD .skip
instance : FnI Tryz.prog 133 Tryz.f133 c133 9 := ⟨Tryz.func133, by kernel_rfl, Tryz.ntmps133⟩
instance : Enters Tryz.prog 133 := ⟨Tryz.call133⟩
noncomputable def c134 : Code := Tryz.f134.body.getD .skip
instance : FnI Tryz.prog 134 Tryz.f134 c134 61 := ⟨Tryz.func134, by kernel_rfl, Tryz.ntmps134⟩
instance : Enters Tryz.prog 134 := ⟨Tryz.call134⟩
noncomputable def c138 : Code := Tryz.f138.body.getD .skip
instance : FnI Tryz.prog 138 Tryz.f138 c138 13 := ⟨Tryz.func138, by kernel_rfl, Tryz.ntmps138⟩
instance : Enters Tryz.prog 138 := ⟨Tryz.call138⟩
noncomputable def c139 : Code := Tryz.f139.body.getD .skip
instance : FnI Tryz.prog 139 Tryz.f139 c139 19 := ⟨Tryz.func139, by kernel_rfl, Tryz.ntmps139⟩
instance : Enters Tryz.prog 139 := ⟨Tryz.call139⟩
noncomputable def c140 : Code := Tryz.f140.body.getD .skip
instance : FnI Tryz.prog 140 Tryz.f140 c140 25 := ⟨Tryz.func140, by kernel_rfl, Tryz.ntmps140⟩
instance : Enters Tryz.prog 140 := ⟨Tryz.call140⟩
noncomputable def c141 : Code := Tryz.f141.body.getD .skip
instance : FnI Tryz.prog 141 Tryz.f141 c141 53 := ⟨Tryz.func141, by kernel_rfl, Tryz.ntmps141⟩
instance : Enters Tryz.prog 141 := ⟨Tryz.call141⟩
noncomputable def c142 : Code := Tryz.f142.body.getD .skip
instance : FnI Tryz.prog 142 Tryz.f142 c142 220 := ⟨Tryz.func142, by kernel_rfl, Tryz.ntmps142⟩
instance : Enters Tryz.prog 142 := ⟨Tryz.call142⟩
instance : Enters Tryz.prog 143 := ⟨Tryz.call143⟩
noncomputable def c144 : Code := Tryz.f144.body.getD .skip
instance : FnI Tryz.prog 144 Tryz.f144 c144 9 := ⟨Tryz.func144, by kernel_rfl, Tryz.ntmps144⟩
instance : Enters Tryz.prog 144 := ⟨Tryz.call144⟩
noncomputable def c151 : Code := Tryz.f151.body.getD .skip
instance : FnI Tryz.prog 151 Tryz.f151 c151 19 := ⟨Tryz.func151, by kernel_rfl, Tryz.ntmps151⟩
instance : Enters Tryz.prog 151 := ⟨Tryz.call151⟩
noncomputable def c154 : Code := Tryz.f154.body.getD .skip
instance : FnI Tryz.prog 154 Tryz.f154 c154 58 := ⟨Tryz.func154, by kernel_rfl, Tryz.ntmps154⟩
instance : Enters Tryz.prog 154 := ⟨Tryz.call154⟩
noncomputable def c159 : Code := Tryz.f159.body.getD .skip
instance : FnI Tryz.prog 159 Tryz.f159 c159 38 := ⟨Tryz.func159, by kernel_rfl, Tryz.ntmps159⟩
instance : Enters Tryz.prog 159 := ⟨Tryz.call159⟩
noncomputable def c190 : Code := Tryz.f190.body.getD .skip
instance : FnI Tryz.prog 190 Tryz.f190 c190 19 := ⟨Tryz.func190, by kernel_rfl, Tryz.ntmps190⟩
instance : Enters Tryz.prog 190 := ⟨Tryz.call190⟩
noncomputable def c193 : Code := Tryz.f193.body.getD .skip
instance : FnI Tryz.prog 193 Tryz.f193 c193 14 := ⟨Tryz.func193, by kernel_rfl, Tryz.ntmps193⟩
instance : Enters Tryz.prog 193 := ⟨Tryz.call193⟩
noncomputable def c194 : Code := Tryz.f194.body.getD .skip
instance : FnI Tryz.prog 194 Tryz.f194 c194 10 := ⟨Tryz.func194, by kernel_rfl, Tryz.ntmps194⟩
instance : Enters Tryz.prog 194 := ⟨Tryz.call194⟩
instance : Enters Tryz.prog 195 := ⟨Tryz.call195⟩
noncomputable def c196 : Code := Tryz.f196.body.getD .skip
instance : FnI Tryz.prog 196 Tryz.f196 c196 10 := ⟨Tryz.func196, by kernel_rfl, Tryz.ntmps196⟩
instance : Enters Tryz.prog 196 := ⟨Tryz.call196⟩
noncomputable def c197 : Code := Tryz.f197.body.getD .skip
instance : FnI Tryz.prog 197 Tryz.f197 c197 10 := ⟨Tryz.func197, by kernel_rfl, Tryz.ntmps197⟩
instance : Enters Tryz.prog 197 := ⟨Tryz.call197⟩
noncomputable def c200 : Code := Tryz.f200.body.getD .skip
instance : FnI Tryz.prog 200 Tryz.f200 c200 10 := ⟨Tryz.func200, by kernel_rfl, Tryz.ntmps200⟩
instance : Enters Tryz.prog 200 := ⟨Tryz.call200⟩
noncomputable def c201 : Code := Tryz.f201.body.getD .skip
instance : FnI Tryz.prog 201 Tryz.f201 c201 10 := ⟨Tryz.func201, by kernel_rfl, Tryz.ntmps201⟩
instance : Enters Tryz.prog 201 := ⟨Tryz.call201⟩
noncomputable def c202 : Code := Tryz.f202.body.getD .skip
instance : FnI Tryz.prog 202 Tryz.f202 c202 17 := ⟨Tryz.func202, by kernel_rfl, Tryz.ntmps202⟩
instance : Enters Tryz.prog 202 := ⟨Tryz.call202⟩
end Go.Proofs.YtgnkloloehlfnaaGreatDoor

namespace Go.Proofs.YtgnkloloehlfnaaGreatDoor
open Go.ChangeShapes Go.WideShapes Go.ChangeAt Go.RowKit Go.WideElems

end Go.Proofs.YtgnkloloehlfnaaGreatDoor
namespace Go.Proofs.YtgnkloloehlfnaaGreatDoor
open Go.RowKit

theorem Bk.cellO {w : World} {b e o : Nat} {cs : List Value} {v : Value} (h : Bk w b cs e) (hv : cs[o]? = some v) : w.cell? ⟨b, o, none⟩ = some v := by have := (Bk.toAt (h := h)).h o v hv; simpa using this
def MO (N b o : Nat) (V : World) (k : Nat) : Prop := k < N ∨ ∃ v, V.cell? ⟨b, o, none⟩ = some v ∧ v.ownBlock = some k
theorem MO.lt {N b o : Nat} {V : World} {v : Value} {k : Nat} (hN : N ≤ V.heap.size) (hb : V.cell? ⟨b, o, none⟩ = some v) (ho : ∀ g, v.ownBlock = some g → g < V.heap.size) (h : MO N b o V k) : k < V.heap.size := by
  rcases h with h | ⟨v', hv, hk⟩
  · omega
  · rw [hb] at hv; cases hv
    exact ho k hk
theorem MO.back {N n b o : Nat} {V V' : World} {v : Value} {k : Nat} (hb : V.cell? ⟨b, o, none⟩ = some v) (g : Grow n V V') (h : MO N b o V' k) : MO N b o V k := by
  rcases h with h | ⟨v', hv, hk⟩
  · exact .inl h
  · rw [g.cell hb] at hv; cases hv
    exact .inr ⟨v, hb, hk⟩
theorem MO.grow {N b o : Nat} {V V' : World} {k : Nat} (hb : b < N) (g : Grow N V V') (h : MO N b o V' k) : MO N b o V k := by
  rcases h with h | ⟨v', hv, hk⟩
  · exact .inl h
  · refine .inr ⟨v', ?_, hk⟩
    rw [← hv]
    exact (World.cell?_of_block (a := ⟨b, o, none⟩) (g.old b hb)).symm
theorem MO.fr {N b o : Nat} {V V' : World} {v v' : Value} (hs : V.heap.size ≤ V'.heap.size) (hb : V.cell? ⟨b, o, none⟩ = some v) (hb' : V'.cell? ⟨b, o, none⟩ = some v') (hk : ∀ k ob, V.heap[k]? = some ob → N ≤ k → v.ownBlock ≠ some k → V'.heap[k]? = some ob)
    (hw : v'.ownBlock = v.ownBlock ∨ ∃ g, v'.ownBlock = some g ∧ V.heap.size ≤ g) : Fr (MO N b o) V V' :=
  ⟨hs, fun k ob h1 _ hm => hk k ob h1 (Nat.le_of_not_lt fun h => hm (.inl h)) (fun e => hm (.inr ⟨v, hb, e⟩)), fun k h => by
    rcases h with h | ⟨u, hu, hk'⟩
    · exact .inl (.inl h)
    · rw [hb'] at hu; cases hu
      rcases hw with e | ⟨g, e, hg⟩
      · exact .inl (.inr ⟨v, hb, by rw [← e]; exact hk'⟩)
      · rw [e] at hk'; cases hk'; exact .inr hg⟩
theorem Bk.setI {w : World} {b e i : Nat} {xs : List Int} {y : Int} (hi : i < xs.length) (h : Bk w b ((xs.map intV).take i ++ [intV y] ++ (xs.map intV).drop (i + 1)) e) : Bk w b ((xs.set i y).map intV) e := by
  have : (xs.map intV).take i ++ [intV y] ++ (xs.map intV).drop (i + 1) = (xs.set i y).map intV := by
    rw [List.map_set, List.set_eq_take_append_cons_drop, if_pos (by simpa using hi)]; simp
  rw [← this]; exact h
abbrev Rw := Option Addr × Nat × List Int
abbrev encW (x : Rw) : Value := .slice x.1 x.2.2.length x.2.1
class RowsI (w : World) (rs : List Rw) : Prop where
  h : ∀ x ∈ rs, RowV w false 1 (encW x) (x.2.2.map intV)
instance RowsI.step {w w' : World} {rs : List Rw} [hs : Step w w'] [h : RowsI w rs] : RowsI w' rs := ⟨fun x hx => (h.h x hx).ext ⟨hs.b⟩⟩
theorem RowsI.get {w : World} {rs : List Rw} (h : RowsI w rs) {i : Nat} (hi : i < rs.length) : RowI w (.slice rs[i].1 rs[i].2.2.length rs[i].2.1) false 1 (rs[i].2.2.map intV) := ⟨h.h _ (List.getElem_mem hi)⟩
theorem OwnL.ne {w : World} {B B' e e' : Nat} {agg agg' : Bool} {k k' : Nat} {v v' : Value} {xs ys : List Value} (h : OwnL w B e agg k v xs) (h' : OwnL w B' e' agg' k' v' ys) (he : e ≠ e') : ∀ g, v.ownBlock = some g → v'.ownBlock ≠ some g := fun g hg hg' => by
  rcases h.own.2 with ⟨rfl, _⟩ | ⟨g1, cap1, cur1, rfl, _, h1, _⟩
  · simp [Value.ownBlock] at hg
  · rcases h'.own.2 with ⟨rfl, _⟩ | ⟨g2, cap2, cur2, rfl, _, h2, _⟩
    · simp [Value.ownBlock] at hg'
    · simp only [Value.ownBlock, Option.some.injEq] at hg hg'
      subst hg; subst hg'
      rw [h1] at h2
      simp only [Option.some.injEq, Obj.cells.injEq] at h2
      exact he h2.2.1

def inB (lo hi n : Int) : Bool := decide (lo ≤ n ∧ n ≤ hi)
theorem not_any_not {α : Type} (q : α → Bool) (xs : List α) : (!(xs.any fun n => !q n)) = xs.all q := by
  induction xs with
  | nil => rfl
  | cons x xs ih => simp only [List.any_cons, List.all_cons, Bool.not_or, ih, Bool.not_not]
theorem any_not {α : Type} (q : α → Bool) (xs : List α) : (xs.any fun n => !q n) = !xs.all q := by
  rw [← not_any_not, Bool.not_not]
def lowB (c : UInt8) : Bool := decide (97 ≤ c.toNat ∧ c.toNat ≤ 122)
def wordB (s : ByteArray) : Bool := decide (1 ≤ s.size ∧ s.size ≤ 12) && s.data.toList.all lowB
theorem low_any (l : List UInt8) : (!l.any fun c => decide ((c.toNat : Int) < 97 ∨ 122 < (c.toNat : Int))) = l.all lowB := by
  rw [← not_any_not]
  congr 2
  funext c
  rw [lowB, ← decide_not, decide_eq_decide]
  omega
theorem word_yes (s : ByteArray) (h : [(s.size : Int)].all (inB 1 12) = true) : (!s.data.toList.any fun c => decide ((c.toNat : Int) < 97 ∨ 122 < (c.toNat : Int))) = wordB s := by
  rw [low_any, wordB]
  simp [inB] at h
  have : decide (1 ≤ s.size ∧ s.size ≤ 12) = true := decide_eq_true (by omega)
  rw [this]; rfl
theorem word_no (s : ByteArray) (h : [(s.size : Int)].all (inB 1 12) = false) : false = wordB s := by
  rw [wordB]
  simp [inB] at h
  have : decide (1 ≤ s.size ∧ s.size ≤ 12) = false := decide_eq_false (by omega)
  rw [this]; rfl

abbrev strV (s : ByteArray) : Value := .string s
abbrev Ln := Option Addr × Nat × List ByteArray
abbrev encLn (x : Ln) : Value := .slice x.1 x.2.2.length x.2.1
abbrev Ch := Int × Option Addr × Nat × List Ln
abbrev encCh (x : Ch) : Value := .agg #[.int .i64 x.1, .slice x.2.1 x.2.2.2.length x.2.2.1]
class TextI (w : World) (cs : List Ch) : Prop where
  lines : ∀ x ∈ cs, RowV w false 1 (.slice x.2.1 x.2.2.2.length x.2.2.1) (x.2.2.2.map encLn)
  words : ∀ x ∈ cs, ∀ y ∈ x.2.2.2, RowV w false 1 (encLn y) (y.2.2.map strV)
theorem TextI.ext {w w' : World} {cs : List Ch} (h : TextI w cs) (hs : Ext w w') : TextI w' cs := ⟨fun x hx => (h.lines x hx).ext hs, fun x hx y hy => (h.words x hx y hy).ext hs⟩
instance TextI.step {w w' : World} {cs : List Ch} [hs : Step w w'] [h : TextI w cs] : TextI w' cs := h.ext ⟨hs.b⟩
theorem TextI.line {w : World} {cs : List Ch} (h : TextI w cs) {k : Nat} (hk : k < cs.length) : RowI w (.slice cs[k].2.1 cs[k].2.2.2.length cs[k].2.2.1) false 1 (cs[k].2.2.2.map encLn) := ⟨h.lines _ (List.getElem_mem hk)⟩
theorem TextI.word {w : World} {cs : List Ch} (h : TextI w cs) {k n : Nat} (hk : k < cs.length) (hn : n < cs[k].2.2.2.length) : RowI w (.slice cs[k].2.2.2[n].1 cs[k].2.2.2[n].2.2.length cs[k].2.2.2[n].2.1) false 1 (cs[k].2.2.2[n].2.2.map strV) := ⟨h.words _ (List.getElem_mem hk) _ (List.getElem_mem hn)⟩
abbrev Tx := List (Int × List (List ByteArray))
def txF (cs : List Ch) : Tx := cs.map fun x => (x.1, x.2.2.2.map (·.2.2))
def greatL (y : List ByteArray) : Bool := decide (15 < y.length) || y.any fun s => decide (40 < s.size)
def greatC (x : Int × List (List ByteArray)) : Bool := decide (15 < x.2.length) || x.2.any greatL
def greatT (t : Tx) : Bool := decide (10 < t.length) || t.any greatC
theorem any_hit {α : Type} {p : α → Bool} {l : List α} {k : Nat} (hk : k < l.length) (h : p l[k] = true) : l.any p = true := List.any_eq_true.2 ⟨_, List.getElem_mem hk, h⟩
theorem any_miss {α : Type} {p : α → Bool} {l : List α} (h : ∀ (j : Nat) (hj : j < l.length), p l[j] = false) : l.any p = false := by
  rw [List.any_eq_false]
  intro x hx
  obtain ⟨i, hi, rfl⟩ := List.mem_iff_getElem.1 hx
  rw [h i hi]; simp
theorem all_1 (p : Int → Bool) (n : Int) : [n].all p = p n := by simp
def lineB (y : List ByteArray) : Bool := inB 1 10 (y.length : Int) && y.all wordB
def chapB (x : Int × List (List ByteArray)) : Bool := inB 0 9999 x.1 && inB 1 10 (x.2.length : Int) && x.2.all lineB
def textB (t : Tx) : Bool := inB 1 6 (t.length : Int) && t.all chapB && decide ((t.map (·.1)).Nodup)
abbrev txC (x : Ch) : Int × List (List ByteArray) := (x.1, x.2.2.2.map (·.2.2))
theorem txF_len (cs : List Ch) : (txF cs).length = cs.length := by simp [txF]
theorem all_no {α : Type} {p : α → Bool} {l : List α} {k : Nat} (hk : k < l.length) (h : p l[k] = false) : l.all p = false := by
  rw [List.all_eq_false]; exact ⟨_, List.getElem_mem hk, by rw [h]; simp⟩
theorem all_yes {α : Type} {p : α → Bool} {l : List α} (h : ∀ (j : Nat) (hj : j < l.length), p l[j] = true) : l.all p = true := by
  rw [List.all_eq_true]
  intro x hx
  obtain ⟨i, hi, rfl⟩ := List.mem_iff_getElem.1 hx
  exact h i hi
theorem textB_len {cs : List Ch} (h : inB 1 6 (cs.length : Int) = false) : textB (txF cs) = false := by rw [textB, txF_len, h]; rfl
theorem textB_chap {cs : List Ch} {k : Nat} (hk : k < cs.length) (h : chapB (txC cs[k]) = false) : textB (txF cs) = false := by
  have : (txF cs).all chapB = false := all_no (k := k) (by rw [txF_len]; exact hk) (by simpa [txF] using h)
  rw [textB, this, Bool.and_false]; rfl
theorem textB_dup {cs : List Ch} {i k : Nat} (hik : i < k) (hk : k < cs.length) (h : (cs[i]'(by omega)).1 = cs[k].1) : textB (txF cs) = false := by
  have : ¬ ((txF cs).map (·.1)).Nodup := fun hn => by
    have h1 := List.pairwise_iff_getElem.1 hn i k (by simp [txF]; omega) (by simp [txF]; omega) hik
    simp [txF] at h1
    exact h1 h
  rw [textB, decide_eq_false this, Bool.and_false]
theorem textB_yes {cs : List Ch} (h1 : inB 1 6 (cs.length : Int) = true) (h2 : ∀ (k : Nat) (hk : k < cs.length), chapB (txC cs[k]) = true) (h3 : ∀ (i k : Nat) (hik : i < k) (hk : k < cs.length), (cs[i]'(by omega)).1 ≠ cs[k].1) : textB (txF cs) = true := by
  have e1 : (txF cs).all chapB = true := all_yes fun k hk => by
    have := h2 k (by rw [← txF_len]; exact hk)
    simpa [txF] using this
  have e2 : ((txF cs).map (·.1)).Nodup := by
    refine List.pairwise_iff_getElem.2 fun i k hi hk hik => ?_
    have := h3 i k hik (by simpa [txF] using hk)
    simpa [txF] using this
  rw [textB, txF_len, h1, e1, decide_eq_true e2]; rfl
theorem chapB_id {x : Ch} (h : inB 0 9999 x.1 = false) : chapB (txC x) = false := by rw [chapB, h]; rfl
theorem chapB_len {x : Ch} (h : inB 1 10 (x.2.2.2.length : Int) = false) : chapB (txC x) = false := by rw [chapB, List.length_map, h, Bool.and_false]; rfl
theorem chapB_line {x : Ch} {n : Nat} (hn : n < x.2.2.2.length) (h : lineB x.2.2.2[n].2.2 = false) : chapB (txC x) = false := by
  have : (x.2.2.2.map (·.2.2)).all lineB = false := all_no (k := n) (by rw [List.length_map]; exact hn) (by rw [List.getElem_map]; exact h)
  rw [chapB, this, Bool.and_false]
theorem chapB_yes {x : Ch} (h1 : inB 0 9999 x.1 = true) (h2 : inB 1 10 (x.2.2.2.length : Int) = true) (h3 : ∀ (n : Nat) (hn : n < x.2.2.2.length), lineB x.2.2.2[n].2.2 = true) : chapB (txC x) = true := by
  have : (x.2.2.2.map (·.2.2)).all lineB = true := all_yes fun n hn => by
    rw [List.length_map] at hn
    rw [List.getElem_map]; exact h3 n hn
  rw [chapB, List.length_map, h1, h2, this]; rfl
theorem lineB_len {y : List ByteArray} (h : inB 1 10 (y.length : Int) = false) : lineB y = false := by rw [lineB, h]; rfl
theorem lineB_word {y : List ByteArray} {q : Nat} (hq : q < y.length) (h : wordB y[q] = false) : lineB y = false := by rw [lineB, all_no hq h, Bool.and_false]
theorem lineB_yes {y : List ByteArray} (h1 : inB 1 10 (y.length : Int) = true) (h2 : ∀ (q : Nat) (hq : q < y.length), wordB y[q] = true) : lineB y = true := by rw [lineB, h1, all_yes h2]; rfl
def SmallT (cs : List Ch) : Prop := cs.length ≤ 1000 ∧ ∀ x ∈ cs, x.2.2.2.length ≤ 1000 ∧ ∀ y ∈ x.2.2.2, y.2.2.length ≤ 1000 ∧ ∀ s ∈ y.2.2, s.size ≤ 1000
theorem small_of_great {cs : List Ch} (h : greatT (txF cs) = false) : SmallT cs := by
  simp only [greatT, Bool.or_eq_false_iff, decide_eq_false_iff_not, List.any_eq_false, txF_len] at h
  refine ⟨by omega, fun x hx => ?_⟩
  have h1 := h.2 (txC x) (List.mem_map.2 ⟨x, hx, rfl⟩)
  simp only [greatC, Bool.or_eq_true, decide_eq_true_eq, List.any_eq_true, not_or, not_exists, not_and, List.length_map] at h1
  refine ⟨by omega, fun y hy => ?_⟩
  have h2 := h1.2 y.2.2 (List.mem_map.2 ⟨y, hy, rfl⟩)
  simp only [greatL, Bool.or_eq_true, decide_eq_true_eq, List.any_eq_true, not_or, not_exists, not_and] at h2
  exact ⟨by omega, fun s hs => by have := h2.2 s hs; omega⟩

section rules
variable {P : Program} {ro : Option Nat} {n : Nat} {all rest : List Oper} {K : Sl → World → Prop} {s : Sl} {w : World} {d : Nat} {ty : Nat} {pos : String} {af : Array Edge} {x y : Operand} {t t' e bytes : Nat} {z : Value}
variable {g o l c lo hi : Nat} {i j : Int} {k1 k2 k3 : IntKind} {xl xh xm : Operand}
theorem Ops.sliceXH (hx : ev n s x = .slice (some ⟨g, o, none⟩) l c) (hh : ev n s xh = .int k2 j) (hj : j = (hi : Int)) (h2 : hi ≤ c) [ht : TSl P t e] [hz : TS P e z 1 bytes]
    (h : Ops P ro n all rest K (upd s d (.slice (some ⟨g, o, none⟩) hi c)) w) : Ops P ro n all (⟨some d, .slice t x none (some xh) none, ty, pos, af, none⟩ :: rest) K s w := by
  subst hj
  refine Ops.ofRun rfl ?_ h
  by_cases hc : c = 0
  · obtain rfl : hi = 0 := by omega
    simp [execOp, Instr.sliceAt, Instr.slice, Instr.sliceBounds, Instr.sliceBound, hx, hh, run_underlying ht.h, asIntOf, run_sizeOf' w hz, hc]
  · simp [execOp, Instr.sliceAt, Instr.slice, Instr.sliceBounds, Instr.sliceBound, hx, hh, run_underlying ht.h, asIntOf, h2, run_sizeOf' w hz, hc, Addr.add_lit]
theorem Ops.sliceXL (hx : ev n s x = .slice (some ⟨g, o, none⟩) l c) (hl : ev n s xl = .int k1 i) (hi' : i = (lo : Int)) (h1 : lo ≤ l) [ht : TSl P t e] [hz : TS P e z 1 bytes]
    (h : Ops P ro n all rest K (upd s d (.slice (some ⟨g, if c = lo then o else o + lo, none⟩) (l - lo) (c - lo))) w) : Ops P ro n all (⟨some d, .slice t x (some xl) none none, ty, pos, af, none⟩ :: rest) K s w := by
  subst hi'
  refine Ops.ofRun rfl ?_ h
  by_cases hc : c = lo
  · simp [execOp, Instr.sliceAt, Instr.slice, Instr.sliceBounds, Instr.sliceBound, hx, hl, run_underlying ht.h, asIntOf, h1, run_sizeOf' w hz, hc]
  · simp [execOp, Instr.sliceAt, Instr.slice, Instr.sliceBounds, Instr.sliceBound, hx, hl, run_underlying ht.h, asIntOf, h1, run_sizeOf' w hz, hc, Addr.add_lit]
theorem Ops.sliceXL2 (hx : ev n s x = .slice (some ⟨g, o, none⟩) l c) (hl : ev n s xl = .int k1 i) (hi' : i = (lo : Int)) (h1 : lo ≤ l) (h2 : lo < c) [ht : TSl P t e] [hz : TS P e z 1 bytes]
    (h : Ops P ro n all rest K (upd s d (.slice (some ⟨g, o + lo, none⟩) (l - lo) (c - lo))) w) : Ops P ro n all (⟨some d, .slice t x (some xl) none none, ty, pos, af, none⟩ :: rest) K s w :=
  Ops.sliceXL (lo := lo) hx hl hi' h1 (by rw [if_neg (by omega)]; exact h)
theorem Ops.sliceXLH (hx : ev n s x = .slice (some ⟨g, o, none⟩) l c) (hl : ev n s xl = .int k1 i) (hh : ev n s xh = .int k2 j) (hi' : i = (lo : Int)) (hj : j = (hi : Int)) (h1 : lo ≤ hi) (h2 : hi ≤ c) (h3 : lo < c) [ht : TSl P t e] [hz : TS P e z 1 bytes]
    (h : Ops P ro n all rest K (upd s d (.slice (some ⟨g, o + lo, none⟩) (hi - lo) (c - lo))) w) : Ops P ro n all (⟨some d, .slice t x (some xl) (some xh) none, ty, pos, af, none⟩ :: rest) K s w := by
  subst hi' hj
  refine Ops.ofRun rfl ?_ h
  have hc : ¬ c = lo := by omega
  simp [execOp, Instr.sliceAt, Instr.slice, Instr.sliceBounds, Instr.sliceBound, hx, hl, hh, run_underlying ht.h, asIntOf, h1, h2, run_sizeOf' w hz, hc, Addr.add_lit]
theorem Ops.slice3 {a : Option Addr} {mx : Nat} {m : Int} (hx : ev n s x = .slice a l c) (hl : ev n s xl = .int k1 i) (hh : ev n s xh = .int k2 j) (hm : ev n s xm = .int k3 m) (hi' : i = (lo : Int)) (hj : j = (hi : Int)) (hm' : m = (mx : Int)) (h1 : lo ≤ hi) (h2 : hi ≤ mx) (h3 : mx ≤ c) [ht : TSl P t e] [hz : TS P e z 1 bytes]
    (h : ∀ v, Ops P ro n all rest K (upd s d v) w) : Ops P ro n all (⟨some d, .slice t x (some xl) (some xh) (some xm), ty, pos, af, none⟩ :: rest) K s w := by
  subst hi' hj hm'
  refine Ops.ofRun (v := .slice (if mx = lo then a else a.map (·.add (lo * 1))) (hi - lo) (mx - lo)) rfl ?_ (h _)
  simp [execOp, Instr.sliceAt, Instr.slice, Instr.sliceBounds, Instr.sliceBound, hx, hl, hh, hm, run_underlying ht.h, asIntOf, h1, h2, h3, run_sizeOf' w hz]

variable {cs us : List Value} {a : Addr} {sl sc dl dc : Nat}
theorem Ops.appendRoom {m cap : Nat} (hB : Bk w g cs e) (hx : ev n s x = .slice (some ⟨g, 0, none⟩) m cap) (hy : ev n s y = .slice (some a) sl sc) (hl : us.length = sl) (hsrc : ∀ (j : Nat) v, us[j]? = some v → w.cell? (a.add j) = some v) (h1 : ∀ v ∈ us, v.oneCell' = true)
    (hroom : m + sl ≤ cap) (hfit : m + sl ≤ cs.length) [ht : TSl P t e] [hz : TS P e z 1 bytes]
    (h : ∀ w', PutO w w' g (.cells (cs.take m ++ us ++ cs.drop (m + sl)).toArray e (0, 0)) → Ops P ro n all rest K (upd s d (.slice (some ⟨g, 0, none⟩) (m + sl) cap)) w') :
    Ops P ro n all (⟨some d, .call { callee := .builtin .append, args := #[x, y], argTypes := #[t, t] }, ty, pos, af, none⟩ :: rest) K s w := by
  obtain ⟨inf, hi1, _, his, _⟩ := hz.info
  subst hl
  have hr := run_append_room (P := P) w t ty e inf ht.h hi1 g m cap cs.toArray hB.h a us.length sc us (by rw [his, Nat.mul_one]) hsrc h1 hroom (by rw [his]; simpa using hfit)
  rw [his, Nat.mul_one] at hr
  exact Ops.ofRun (w' := w.setRow g (cs.take m ++ us ++ cs.drop (m + us.length)).toArray) rfl (by simp [execOp, resolve, invoke, builtin, hx, hy, hr]) (h _ (putO_setRow hB))
theorem Ops.copyB (hB : Bk w g cs e) (hx : ev n s x = .slice (some ⟨g, o, none⟩) dl dc) (hy : ev n s y = .slice (some a) sl sc) (hn : us.length = min sl dl) (hsrc : ∀ (j : Nat) v, us[j]? = some v → w.cell? (a.add j) = some v) (h1 : ∀ v ∈ us, v.oneCell' = true)
    (hfit : o + us.length ≤ cs.length) [ht : TSl P t e] [hz : TS P e z 1 bytes]
    (h : ∀ w', PutO w w' g (.cells (cs.take o ++ us ++ cs.drop (o + us.length)).toArray e (0, 0)) → Ops P ro n all rest K (upd s d (.int .i64 ((us.length : Nat) : Int))) w') :
    Ops P ro n all (⟨some d, .call { callee := .builtin .copy, args := #[x, y], argTypes := #[t, t'] }, ty, pos, af, none⟩ :: rest) K s w := by
  obtain ⟨inf, hi1, _, his, _⟩ := hz.info
  have hr := run_copy_row (P := P) w t t' ty e g o dl dc a sl sc cs.toArray e us ht.h (by rw [hi1]; simp [his]) hB.h hn hsrc (by simpa using hfit) h1
  exact Ops.ofRun (w' := w.setRow g (cs.take o ++ us ++ cs.drop (o + us.length)).toArray) rfl (by simp [execOp, resolve, invoke, builtin, hx, hy, hr, goInt]) (h _ (putO_setRow hB))
theorem Ops.clearB (hB : Bk w g cs e) (hx : ev n s x = .slice (some ⟨g, o, none⟩) l c) (hl0 : 0 < l) (hfit : o + l ≤ cs.length) [ht : TSl P t e] [hz : TS P e z 1 bytes] (hzc : z.cells = #[z]) (h1 : z.oneCell' = true)
    (h : ∀ w', PutO w w' g (.cells (cs.take o ++ List.replicate l z ++ cs.drop (o + l)).toArray e (0, 0)) → Ops P ro n all rest K s w') :
    Ops P ro n all (⟨none, .call { callee := .builtin .clear, args := #[x], argTypes := #[t] }, ty, pos, af, none⟩ :: rest) K s w := by
  obtain ⟨inf, hi1, hiz, his, _⟩ := hz.info
  have hzv : (zeroValue e).run P w = .ok z w := by simp [zeroValue, typeInfo, hi1, hiz]
  have hzl : (Builtin.zeroCells z.cells l).toList = List.replicate l z := by
    rw [hzc]
    simp [Builtin.zeroCells]
    apply List.ext_getElem
    · simp
    · intro i h1 h2
      simp [Nat.mod_one]
  have hst := run_storeCells_at P g o e (List.replicate l z) 0 cs.toArray w hB.h (by simpa using hfit) (by intro v hv'; rw [List.eq_of_mem_replicate hv']; exact h1)
  simp only [Nat.add_zero, List.length_replicate] at hst
  have hr : (Builtin.clear_ #[t] ty #[.slice (some ⟨g, o, none⟩) l c]).run P w = .ok (.tuple #[]) (w.setRow g (cs.take o ++ List.replicate l z ++ cs.drop (o + l)).toArray) := by
    obtain ⟨m, rfl⟩ : ∃ m, l = m + 1 := ⟨l - 1, by omega⟩
    simp [Builtin.clear_, run_underlying ht.h, hzv, hzl, hst]
  exact Ops.step rfl (OpW.ofRun (v := .tuple #[]) (w' := w.setRow g (cs.take o ++ List.replicate l z ++ cs.drop (o + l)).toArray) rfl (by simp [execOp, resolve, invoke, builtin, hx, hr]) (h _ (putO_setRow hB)))
theorem Ops.buildSlice2 {u v : Value} (hx : ev n s x = u) (hy : ev n s y = v) [ht : TSl P t e] [hz : TS P e z 1 bytes] (hu : u.cells = #[u]) (hv : v.cells = #[v]) (hzz : z.cells.size = 1)
    (h : ∀ b w', b = w.heap.size → w'.heap.size = w.heap.size + 1 → Step w w' → Bk w' b [u, v] e → Ops P ro n all rest K (upd s d (.slice (some ⟨b, 0, none⟩) 2 2)) w') :
    Ops P ro n all (⟨some d, .buildSlice t 2 #[(0, x), (1, y)], ty, pos, af, none⟩ :: rest) K s w := by
  obtain ⟨inf, hi1, hiz, his, _⟩ := hz.info
  have hfill : ∀ (a b : Value), Instr.fill (fun i => some (i, 1)) #[a, b] [(0, u), (1, v)] = some #[u, v] := by
    intro a b
    simp [Instr.fill, hu, hv]
  have hzv : (zeroValue e).run P w = .ok z w := by simp [zeroValue, typeInfo, hi1, hiz]
  have hrange : (Array.range 2).map (fun x => z.cells[x % z.cells.size]!) = #[z.cells[0]!, z.cells[0]!] := by
    rw [hzz, show Array.range 2 = #[0, 1] from by decide]; simp [Nat.mod_one]
  refine Ops.ofRun (w' := w.alloc (.cells #[u, v] e)) rfl ?_ (h w.heap.size _ rfl (by simp) ⟨(Below.refl _ w).alloc (Nat.le_refl _) _⟩ ⟨World.alloc_heap_new w _⟩)
  simp [execOp, Instr.buildSlice, run_underlying ht.h, run_sizeOf' w hz, hx, hy, hzv, hrange, hfill, newRow]
theorem Ops.callX {args : Array Operand} {at_ : Array Nat} {fv : Operand} {f : Nat} {vs : List Value} {v : Value} (hf : ev n s fv = .func (.func f) #[] #[]) (ha : args.toList.map (ev n s) = vs) (hr : (callFunc f vs.toArray).run P w = .ok (.value v) w)
    (h : Ops P ro n all rest K (upd s d v) w) : Ops P ro n all (⟨some d, .call { callee := .value fv, args := args, argTypes := at_ }, ty, pos, af, none⟩ :: rest) K s w := by
  refine Ops.ofRun rfl ?_ h
  subst ha
  have e : args.map (ev n s) = (args.toList.map (ev n s)).toArray := by apply Array.ext'; simp
  simp [execOp, hf, go_sem, hr, e]
end rules

section rules
variable {P : Program} {ro : Option Nat} {n : Nat} {all rest : List Oper} {K : Sl → World → Prop} {s : Sl} {w : World} {d : Nat} {ty : Nat} {pos : String} {af : Array Edge} {x1 x2 x3 x4 : Operand} {t e bytes : Nat} {z : Value}
theorem Ops.buildSlice3 {v1 v2 v3 : Value} (h1 : ev n s x1 = v1) (h2 : ev n s x2 = v2) (h3 : ev n s x3 = v3) [ht : TSl P t e] [hz : TS P e z 1 bytes] (c1 : v1.cells = #[v1]) (c2 : v2.cells = #[v2]) (c3 : v3.cells = #[v3]) (hzz : z.cells.size = 1)
    (h : ∀ b w', b = w.heap.size → w'.heap.size = w.heap.size + 1 → Step w w' → Bk w' b [v1, v2, v3] e → Ops P ro n all rest K (upd s d (.slice (some ⟨b, 0, none⟩) 3 3)) w') :
    Ops P ro n all (⟨some d, .buildSlice t 3 #[(0, x1), (1, x2), (2, x3)], ty, pos, af, none⟩ :: rest) K s w := by
  obtain ⟨inf, hi1, hiz, his, _⟩ := hz.info
  have hfill : ∀ (a b c : Value), Instr.fill (fun i => some (i, 1)) #[a, b, c] [(0, v1), (1, v2), (2, v3)] = some #[v1, v2, v3] := by
    intro a b c
    simp [Instr.fill, c1, c2, c3]
  have hzv : (zeroValue e).run P w = .ok z w := by simp [zeroValue, typeInfo, hi1, hiz]
  have hrange : (Array.range 3).map (fun x => z.cells[x % z.cells.size]!) = #[z.cells[0]!, z.cells[0]!, z.cells[0]!] := by
    rw [hzz, show Array.range 3 = #[0, 1, 2] from by decide]; simp [Nat.mod_one]
  refine Ops.ofRun (w' := w.alloc (.cells #[v1, v2, v3] e)) rfl ?_ (h w.heap.size _ rfl (by simp) ⟨(Below.refl _ w).alloc (Nat.le_refl _) _⟩ ⟨World.alloc_heap_new w _⟩)
  simp [execOp, Instr.buildSlice, run_underlying ht.h, run_sizeOf' w hz, h1, h2, h3, hzv, hrange, hfill, newRow]
theorem Ops.buildSlice4 {v1 v2 v3 v4 : Value} (h1 : ev n s x1 = v1) (h2 : ev n s x2 = v2) (h3 : ev n s x3 = v3) (h4 : ev n s x4 = v4) [ht : TSl P t e] [hz : TS P e z 1 bytes] (c1 : v1.cells = #[v1]) (c2 : v2.cells = #[v2]) (c3 : v3.cells = #[v3]) (c4 : v4.cells = #[v4]) (hzz : z.cells.size = 1)
    (h : ∀ b w', b = w.heap.size → w'.heap.size = w.heap.size + 1 → Step w w' → Bk w' b [v1, v2, v3, v4] e → Ops P ro n all rest K (upd s d (.slice (some ⟨b, 0, none⟩) 4 4)) w') :
    Ops P ro n all (⟨some d, .buildSlice t 4 #[(0, x1), (1, x2), (2, x3), (3, x4)], ty, pos, af, none⟩ :: rest) K s w := by
  obtain ⟨inf, hi1, hiz, his, _⟩ := hz.info
  have hfill : ∀ (a b c f : Value), Instr.fill (fun i => some (i, 1)) #[a, b, c, f] [(0, v1), (1, v2), (2, v3), (3, v4)] = some #[v1, v2, v3, v4] := by
    intro a b c f
    simp [Instr.fill, c1, c2, c3, c4]
  have hzv : (zeroValue e).run P w = .ok z w := by simp [zeroValue, typeInfo, hi1, hiz]
  have hrange : (Array.range 4).map (fun x => z.cells[x % z.cells.size]!) = #[z.cells[0]!, z.cells[0]!, z.cells[0]!, z.cells[0]!] := by
    rw [hzz, show Array.range 4 = #[0, 1, 2, 3] from by decide]; simp [Nat.mod_one]
  refine Ops.ofRun (w' := w.alloc (.cells #[v1, v2, v3, v4] e)) rfl ?_ (h w.heap.size _ rfl (by simp) ⟨(Below.refl _ w).alloc (Nat.le_refl _) _⟩ ⟨World.alloc_heap_new w _⟩)
  simp [execOp, Instr.buildSlice, run_underlying ht.h, run_sizeOf' w hz, h1, h2, h3, h4, hzv, hrange, hfill, newRow]
end rules

theorem isNaN_cmp (x : Int) (w : World) : Ct Tryz.prog 115 [.int .i64 x] w fun v _ => v = .bool false := by
  refine Ct.ofW (by simp) ?_
  (refine jjB (jjC (jJ (eB rfl) (jz (jjB (jjC ?_))))); refine jI (eI rfl) (jI (eI rfl) (jc rfl rfl (jJ (eB rfl) (jz (jjF ?_))))); refine jB rfl rfl ⟨inferInstance, ?_⟩)
  exact congrArg Value.bool (by simp)
theorem Compare_int (x y : Int) (w : World) : Ct Tryz.prog 76 [.int .i64 x, .int .i64 y] w fun v _ => v = .int .i64 (if x < y then -1 else if y < x then 1 else 0) := by
  refine Ct.ofW (by simp) ?_
  (refine jjB (jjC (jJ (eI rfl) (jz (jjB (jjC ?_))))); refine jI (eI rfl) ?_)
  refine jjQ (isNaN_cmp x _) rfl rfl ?_
  rintro _ w2 hS2 rfl
  (refine jJ (eB rfl) (jz (jjB (jjC (jI (eI rfl) ?_)))))
  refine jjQ (isNaN_cmp y _) rfl rfl ?_
  rintro _ w3 hS3 rfl
  repeat' (first|((first|apply jI|apply jJ); (first|exact eI rfl|exact eB rfl))|(refine jW ?_; (first|refine jX rfl rfl ?_|refine je rfl rfl ?_))|refine jz ?_|(refine jjA ?_; (first|refine jjB ?_|refine jjC ?_|refine jjF ?_|refine jjG ?_|refine jjK rfl ?_))|(refine jjA ?_; (refine jjN rfl ?_ ?_ <;> intro _))|refine jB rfl rfl ⟨inferInstance, ?_⟩)
  · rw [if_pos ‹_›]; exact rfl
  · rw [if_neg ‹_›, if_pos ‹_›]; exact rfl
  · rw [if_neg ‹_›, if_neg ‹_›]; exact rfl

abbrev Pl := Int × Int × Int
abbrev encPl (p : Pl) : Value := .agg #[.int .i64 p.1, .int .i64 p.2.1, .int .i64 p.2.2]
def orF : List Int → Int
  | [] => 0
  | x :: l => if x = 0 then orF l else x
def cmp1 (x y : Int) : Int := if x < y then -1 else if y < x then 1 else 0
def cmpP (a b : Pl) : Int := orF [cmp1 a.1 b.1, cmp1 a.2.1 b.2.1, cmp1 a.2.2 b.2.2]
def befP (a b : Pl) : Bool := if a.1 ≠ b.1 then decide (a.1 < b.1) else if a.2.1 ≠ b.2.1 then decide (a.2.1 < b.2.1) else decide (a.2.2 < b.2.2)
theorem orF_drop {l : List Int} : ∀ {k : Nat}, (∀ (j : Nat) (hj : j < l.length), j < k → l[j] = 0) → orF l = orF (l.drop k) := by
  intro k
  induction k with
  | zero => intro _; rfl
  | succ k ih =>
    intro h
    rw [ih fun j hj hk => h j hj (by omega)]
    by_cases hk : k < l.length
    · rw [List.drop_eq_getElem_cons hk, orF, if_pos (h k hk (by omega))]
    · rw [List.drop_of_length_le (by omega), List.drop_of_length_le (by omega)]
theorem Or_int (a : Option Addr) (c n : Nat) (l : List Int) (w : World) (hn : l.length = n) (hrow : RowV w false 1 (.slice a n c) (l.map intV)) : Ct Tryz.prog 78 [.slice a n c] w fun v _ => v = .int .i64 (orF l) := by
  subst hn
  have hI : RowI w (.slice a l.length c) false 1 (l.map intV) := ⟨hrow⟩
  have hlen := hrow.len
  rw [List.length_map] at hlen
  refine Ct.ofW (by simp) ?_
  (refine jjB (jjC (jJ (eI rfl) (jz (jjB (jjC ?_))))); refine jJ (eI rfl) (jz (jjB (jjB (jjC (jI (eS rfl) ?_))))); refine jh rfl (jI (eI rfl) (jz (jjD ?_))))
  refine W.keep0 [(3, .int .i64 (0 : Int)), (6, .slice a l.length c), (7, .int .i64 ((l.length : Nat) : Int)), (8, .int .i64 ((0 : Nat) : Int))] ⟨eI rfl, eS rfl, eI rfl, eI rfl, trivial⟩ fun s0 => ?_
  refine W.loop (9 :: 10 :: 11 :: 5 :: 12 :: 13 :: 14 :: 15 :: 2 :: 16 :: 8 :: []) (fun g s' V => ∃ k : Nat, s' 8 = .int .i64 ((k : Nat) : Int) ∧ g = l.length - k ∧ k ≤ l.length ∧ ∀ (j : Nat) (hj : j < l.length), j < k → l[j] = 0) l.length ⟨0, rfl, rfl, Nat.zero_le _, by intros; omega⟩ ?_
  rintro _ sd w1 hS1 ⟨k, h8, rfl, hk, hpre⟩
  refine W.fix h8 ?_
  clear h8
  by_cases hkl : k < l.length
  · by_cases h0 : l[k] = 0
    · (refine jjB (jjC (jjZ rfl rfl (by omega) (jz (jjB (jjJ rfl ?_))))); refine jjG (jjB (jjD (jjB (jjC ?_)))); refine jF rfl rfl rfl (map_get (by omega)) ?_; intro _ _ _; refine jQ rfl rfl (jJ (eI rfl) (jz (jjB (jjC (jI (eI rfl) ?_))))); refine jI (eI rfl) (jjk rfl rfl (by omega) (jz (jjK rfl (jjG (jjC ?_))))); refine jY rfl rfl (by omega) (jI (eI rfl) (jz ?_)))
      refine ⟨rfl, by (((iterate 10 refine Same.upd rfl ?_); exact Same.ovN)), l.length - (k + 1), by omega, inferInstance, k + 1, congrArg (Value.int .i64) (by omega), rfl, by omega, fun j hj hjk => ?_⟩
      by_cases e : j = k
      · subst e; exact h0
      · exact hpre j hj (by omega)
    · (refine jjB (jjC (jjZ rfl rfl (by omega) (jz (jjB (jjJ rfl ?_))))); refine jjG (jjB (jjD (jjB (jjC ?_)))); refine jF rfl rfl rfl (map_get (by omega)) ?_; intro _ _ _; refine jQ rfl rfl (jJ (eI rfl) (jz (jjB (jjC (jI (eI rfl) ?_))))); refine jI (eI rfl) (jjj rfl rfl (by omega) (jz (jjJ rfl (jjB (jjC ?_))))); refine jI (eI rfl) (jJ (eI rfl) (jz (jjF ?_))); refine jB rfl rfl ⟨inferInstance, ?_⟩)
      rw [orF_drop hpre, List.drop_eq_getElem_cons hkl, orF, if_neg h0]; exact rfl
  · (refine jjB (jjC (jja rfl rfl (by omega) (jz (jjB (jjK rfl ?_))))); refine jjE (jjB (jjC (jI (eI rfl) (jJ (eI rfl) (jz ?_))))); refine jjF ?_; refine jB rfl rfl ⟨inferInstance, ?_⟩)
    rw [orF_drop hpre, List.drop_of_length_le (by omega), orF]; exact rfl

theorem places_slip (a b : Pl) (w : World) : Ct Tryz.prog 80 [encPl a, encPl b] w fun v _ => v = .int .i64 (cmpP a b) := by
  refine Ct.ofW (by simp) ?_
  (refine jjB (jjC ?_))
  (refine jy rfl ?_; intro b1 w_b1 hb_b1 hs_b1 hS_b1 hk_b1; have hA_b1 := At.ofBlock hk_b1)
  skip
  (refine jy rfl ?_; intro b2 w_b2 hb_b2 hs_b2 hS_b2 hk_b2; have hA_b2 := At.ofBlock hk_b2)
  (refine jJ (eI rfl) (jz (jjB ?_)))
  refine W.draw (fun w' => Ext w_b2 w') ?_
  intro w1 hS1
  (refine jjV [0, 1, 2, 3, 5, 6, 7, 8, 10, 11, 12, 13] ?_ ?_ ?_; (decide +kernel); (exact hS1.ext); (((apply jjT; exact rfl; rintro w' hq; have := hq.toStep; refine jm (jn rfl (jz ?_)); exact ⟨rfl, rfl⟩; apply jjT; exact rfl; rintro w' hq; have := hq.toStep; refine jN rfl rfl rfl (jz ?_); exact ⟨rfl, rfl⟩; apply jjT; exact rfl; rintro w' hq; have := hq.toStep; refine jm (jn rfl (jz ?_)); exact ⟨rfl, rfl⟩; apply jjT; exact rfl; rintro w' hq; have := hq.toStep; refine jN rfl rfl rfl (jz ?_); exact ⟨rfl, rfl⟩; apply jjT; exact rfl; rintro w' hq; have := hq.toStep; refine jm (jn rfl (jz ?_)); exact ⟨rfl, rfl⟩; apply jjT; exact rfl; rintro w' hq; have := hq.toStep; refine jN rfl rfl rfl (jz ?_); exact ⟨rfl, rfl⟩; apply jjT; exact rfl; rintro w' hq; have := hq.toStep; refine jm (jn rfl (jz ?_)); exact ⟨rfl, rfl⟩; apply jjT; exact rfl; rintro w' hq; have := hq.toStep; refine jN rfl rfl rfl (jz ?_); exact ⟨rfl, rfl⟩; apply jjT; exact rfl; rintro w' hq; have := hq.toStep; refine jm (jn rfl (jz ?_)); exact ⟨rfl, rfl⟩; apply jjT; exact rfl; rintro w' hq; have := hq.toStep; refine jN rfl rfl rfl (jz ?_); exact ⟨rfl, rfl⟩; apply jjT; exact rfl; rintro w' hq; have := hq.toStep; refine jm (jn rfl (jz ?_)); exact ⟨rfl, rfl⟩; apply jjT; exact rfl; rintro w' hq; have := hq.toStep; refine jN rfl rfl rfl (jz ?_); exact ⟨rfl, rfl⟩; refine jjU ?_))))
  (apply jjW 4; (decide +kernel); exact rfl; (exact hS1.ext))
  refine jjQ (Compare_int _ _ _) rfl rfl ?_
  rintro _ w2 hS2 rfl
  refine jz ?_
  (apply jjW 9; (decide +kernel); exact rfl; (exact hS1.ext.trans hS2.ext))
  refine jjQ (Compare_int _ _ _) rfl rfl ?_
  rintro _ w3 hS3 rfl
  refine jz ?_
  (apply jjW 14; (decide +kernel); exact rfl; (exact (hS1.ext.trans hS2.ext).trans hS3.ext))
  refine jjQ (Compare_int _ _ _) rfl rfl ?_
  rintro _ w4 hS4 rfl
  refine jz ?_
  have hq2 : Ext w_b2 w4 := ((hS1.ext.trans hS2.ext).trans hS3.ext).trans hS4.ext
  (apply jjW 15; (decide +kernel); exact rfl; (exact hq2))
  refine Ops.buildSlice3 (v1 := .int .i64 (cmp1 a.1 b.1)) (v2 := .int .i64 (cmp1 a.2.1 b.2.1)) (v3 := .int .i64 (cmp1 a.2.2 b.2.2)) rfl rfl rfl rfl rfl rfl rfl ?_
  intro b3 w3 hb3 hs3 hS3 hk3
  refine jz ?_
  (apply jjW 16; (decide +kernel); exact rfl; (exact hq2.trans hS3.ext))
  have hr3 : RowV w3 false 1 (.slice (some ⟨b3, 0, none⟩) 3 3) ([cmp1 a.1 b.1, cmp1 a.2.1 b.2.1, cmp1 a.2.2 b.2.2].map intV) := hk3.row (fun x hx => by simp at hx; rcases hx with rfl | rfl | rfl <;> rfl) (by simp)
  refine jjQ (Or_int _ _ _ [cmp1 a.1 b.1, cmp1 a.2.1 b.2.1, cmp1 a.2.2 b.2.2] _ rfl hr3) rfl rfl ?_
  rintro _ w4 hS4 rfl
  refine jz ?_
  (apply jjW 17; (decide +kernel); exact rfl; (exact (hq2.trans hS3.ext).trans hS4.ext))
  (refine jJ (eI rfl) (jz ?_))
  refine jjX (by decide +kernel) ((hq2.trans hS3.ext).trans hS4.ext) ?_
  (refine jjF ?_; refine jB rfl rfl ⟨inferInstance, ?_⟩)
  exact rfl

theorem IndexFunc_int {α : Type} (w : World) (v fv : Value) (enc : α → Value) (xs : List α) (p : α → Bool) (hrow : RowV w false 1 v (xs.map enc)) (hp : PredE Tryz.prog w fv enc xs p) :
    Ct Tryz.prog 47 [v, fv] w fun r _ => r = .int .i64 (idxV p xs) := by
  obtain ⟨a, c, rfl⟩ := hrow.slice
  obtain ⟨g, cap, rfl, hg, hp⟩ := hp.h
  have hlen := hrow.len
  rw [List.length_map] at hlen hrow ⊢
  refine Ct.ofW (by simp) ?_
  (refine jjB (jjC (jJ (eI rfl) (jz (jjB (jjB ?_))))); refine jjC (jI (eS rfl) (jh rfl (jI (eI rfl) (jz (jjD ?_))))))
  refine W.loop (9 :: 10 :: 5 :: 11 :: 12 :: 13 :: 14 :: 15 :: 16 :: 17 :: 4 :: 18 :: 8 :: []) (fun g s' _ => ∃ k : Nat, s' 8 = .int .i64 k ∧ g = xs.length - k ∧ k ≤ xs.length ∧ ∀ (j : Nat) (hj : j < xs.length), j < k → p xs[j] = false) xs.length ?_ ?_
  · exact ⟨0, rfl, by omega, by omega, by intros; omega⟩
  · rintro _ d w' hS ⟨k, h8, rfl, hk, hpre⟩
    refine W.fix h8 ?_
    repeat' (first|((first|apply jI|apply jJ); (first|exact eI rfl|exact eS rfl|exact eF rfl))|(refine jW (jX rfl rfl ?_))|refine jz ?_|(refine jjA ?_; (first|refine jjB ?_|refine jjC ?_|refine jjD ?_|refine jjE ?_|refine jjF ?_|refine jjG ?_))|(refine jjA ?_; (refine jjN rfl ?_ ?_ <;> intro _))|refine jB rfl rfl ⟨inferInstance, ?_⟩)
    · have hk' : k < xs.length := by omega
      refine Ops.indexRow rfl rfl (hrow.ext inferInstance) rfl (map_get hk') ?_
      intro b o hA
      refine Ops.loadV rfl hA (by exact hrow.get (List.getElem_mem hk')) ?_
      refine jjQ (hp _ _ (List.getElem_mem hk') inferInstance) rfl rfl ?_
      rintro v w2 hS2 rfl
      repeat' (first|((first|apply jI|apply jJ); exact eI rfl)|(refine jW (jY rfl rfl (by omega) ?_))|refine jz ?_|(refine jjA ?_; (first|refine jjB ?_|refine jjC ?_|refine jjF ?_|refine jjG ?_))|(refine jjA ?_; (refine jjO rfl ?_ ?_ <;> intro _))|refine jB rfl rfl ⟨inferInstance, ?_⟩)
      · exact congrArg _ (idxV_hit hk' ‹_› hpre).symm
      · refine ⟨rfl, by (((iterate 12 refine Same.upd rfl ?_); exact Same.ovN)), xs.length - (k + 1), by omega, inferInstance, k + 1, rfl, rfl, by omega, fun j hj hjk => ?_⟩
        by_cases e : j = k
        · subst e; assumption
        · exact hpre j hj (by omega)
    · exact congrArg _ (idxV_miss fun j hj => hpre j hj (by omega)).symm


theorem IndexFunc_string {α : Type} (w : World) (v fv : Value) (enc : α → Value) (xs : List α) (p : α → Bool) (hrow : RowV w false 1 v (xs.map enc)) (hp : PredE Tryz.prog w fv enc xs p) :
    Ct Tryz.prog 131 [v, fv] w fun r _ => r = .int .i64 (idxV p xs) := by
  obtain ⟨a, c, rfl⟩ := hrow.slice
  obtain ⟨g, cap, rfl, hg, hp⟩ := hp.h
  have hlen := hrow.len
  rw [List.length_map] at hlen hrow ⊢
  refine Ct.ofW (by simp) ?_
  (refine jjB (jjC (jJ (eI rfl) (jz (jjB (jjB ?_))))); refine jjC (jI (eS rfl) (jh rfl (jI (eI rfl) (jz (jjD ?_))))))
  refine W.loop (9 :: 10 :: 5 :: 11 :: 12 :: 13 :: 14 :: 15 :: 16 :: 17 :: 4 :: 18 :: 8 :: []) (fun g s' _ => ∃ k : Nat, s' 8 = .int .i64 k ∧ g = xs.length - k ∧ k ≤ xs.length ∧ ∀ (j : Nat) (hj : j < xs.length), j < k → p xs[j] = false) xs.length ?_ ?_
  · exact ⟨0, rfl, by omega, by omega, by intros; omega⟩
  · rintro _ d w' hS ⟨k, h8, rfl, hk, hpre⟩
    refine W.fix h8 ?_
    repeat' (first|((first|apply jI|apply jJ); (first|exact eI rfl|exact eS rfl|exact eF rfl))|(refine jW (jX rfl rfl ?_))|refine jz ?_|(refine jjA ?_; (first|refine jjB ?_|refine jjC ?_|refine jjD ?_|refine jjE ?_|refine jjF ?_|refine jjG ?_))|(refine jjA ?_; (refine jjN rfl ?_ ?_ <;> intro _))|refine jB rfl rfl ⟨inferInstance, ?_⟩)
    · have hk' : k < xs.length := by omega
      refine Ops.indexRow rfl rfl (hrow.ext inferInstance) rfl (map_get hk') ?_
      intro b o hA
      refine Ops.loadV rfl hA (by exact hrow.get (List.getElem_mem hk')) ?_
      refine jjQ (hp _ _ (List.getElem_mem hk') inferInstance) rfl rfl ?_
      rintro v w2 hS2 rfl
      repeat' (first|((first|apply jI|apply jJ); exact eI rfl)|(refine jW (jY rfl rfl (by omega) ?_))|refine jz ?_|(refine jjA ?_; (first|refine jjB ?_|refine jjC ?_|refine jjF ?_|refine jjG ?_))|(refine jjA ?_; (refine jjO rfl ?_ ?_ <;> intro _))|refine jB rfl rfl ⟨inferInstance, ?_⟩)
      · exact congrArg _ (idxV_hit hk' ‹_› hpre).symm
      · refine ⟨rfl, by (((iterate 12 refine Same.upd rfl ?_); exact Same.ovN)), xs.length - (k + 1), by omega, inferInstance, k + 1, rfl, rfl, by omega, fun j hj hjk => ?_⟩
        by_cases e : j = k
        · subst e; assumption
        · exact hpre j hj (by omega)
    · exact congrArg _ (idxV_miss fun j hj => hpre j hj (by omega)).symm


theorem IndexFunc_Slstring {α : Type} (w : World) (v fv : Value) (enc : α → Value) (xs : List α) (p : α → Bool) (hrow : RowV w false 1 v (xs.map enc)) (hp : PredE Tryz.prog w fv enc xs p) :
    Ct Tryz.prog 139 [v, fv] w fun r _ => r = .int .i64 (idxV p xs) := by
  obtain ⟨a, c, rfl⟩ := hrow.slice
  obtain ⟨g, cap, rfl, hg, hp⟩ := hp.h
  have hlen := hrow.len
  rw [List.length_map] at hlen hrow ⊢
  refine Ct.ofW (by simp) ?_
  (refine jjB (jjC (jJ (eI rfl) (jz (jjB (jjB ?_))))); refine jjC (jI (eS rfl) (jh rfl (jI (eI rfl) (jz (jjD ?_))))))
  refine W.loop (9 :: 10 :: 5 :: 11 :: 12 :: 13 :: 14 :: 15 :: 16 :: 17 :: 4 :: 18 :: 8 :: []) (fun g s' _ => ∃ k : Nat, s' 8 = .int .i64 k ∧ g = xs.length - k ∧ k ≤ xs.length ∧ ∀ (j : Nat) (hj : j < xs.length), j < k → p xs[j] = false) xs.length ?_ ?_
  · exact ⟨0, rfl, by omega, by omega, by intros; omega⟩
  · rintro _ d w' hS ⟨k, h8, rfl, hk, hpre⟩
    refine W.fix h8 ?_
    repeat' (first|((first|apply jI|apply jJ); (first|exact eI rfl|exact eS rfl|exact eF rfl))|(refine jW (jX rfl rfl ?_))|refine jz ?_|(refine jjA ?_; (first|refine jjB ?_|refine jjC ?_|refine jjD ?_|refine jjE ?_|refine jjF ?_|refine jjG ?_))|(refine jjA ?_; (refine jjN rfl ?_ ?_ <;> intro _))|refine jB rfl rfl ⟨inferInstance, ?_⟩)
    · have hk' : k < xs.length := by omega
      refine Ops.indexRow rfl rfl (hrow.ext inferInstance) rfl (map_get hk') ?_
      intro b o hA
      refine Ops.loadV rfl hA (by exact hrow.get (List.getElem_mem hk')) ?_
      refine jjQ (hp _ _ (List.getElem_mem hk') inferInstance) rfl rfl ?_
      rintro v w2 hS2 rfl
      repeat' (first|((first|apply jI|apply jJ); exact eI rfl)|(refine jW (jY rfl rfl (by omega) ?_))|refine jz ?_|(refine jjA ?_; (first|refine jjB ?_|refine jjC ?_|refine jjF ?_|refine jjG ?_))|(refine jjA ?_; (refine jjO rfl ?_ ?_ <;> intro _))|refine jB rfl rfl ⟨inferInstance, ?_⟩)
      · exact congrArg _ (idxV_hit hk' ‹_› hpre).symm
      · refine ⟨rfl, by (((iterate 12 refine Same.upd rfl ?_); exact Same.ovN)), xs.length - (k + 1), by omega, inferInstance, k + 1, rfl, rfl, by omega, fun j hj hjk => ?_⟩
        by_cases e : j = k
        · subst e; assumption
        · exact hpre j hj (by omega)
    · exact congrArg _ (idxV_miss fun j hj => hpre j hj (by omega)).symm


theorem IndexFunc_byte {α : Type} (w : World) (v fv : Value) (enc : α → Value) (xs : List α) (p : α → Bool) (hrow : RowV w false 1 v (xs.map enc)) (hp : PredE Tryz.prog w fv enc xs p) :
    Ct Tryz.prog 151 [v, fv] w fun r _ => r = .int .i64 (idxV p xs) := by
  obtain ⟨a, c, rfl⟩ := hrow.slice
  obtain ⟨g, cap, rfl, hg, hp⟩ := hp.h
  have hlen := hrow.len
  rw [List.length_map] at hlen hrow ⊢
  refine Ct.ofW (by simp) ?_
  (refine jjB (jjC (jJ (eI rfl) (jz (jjB (jjB ?_))))); refine jjC (jI (eS rfl) (jh rfl (jI (eI rfl) (jz (jjD ?_))))))
  refine W.loop (9 :: 10 :: 5 :: 11 :: 12 :: 13 :: 14 :: 15 :: 16 :: 17 :: 4 :: 18 :: 8 :: []) (fun g s' _ => ∃ k : Nat, s' 8 = .int .i64 k ∧ g = xs.length - k ∧ k ≤ xs.length ∧ ∀ (j : Nat) (hj : j < xs.length), j < k → p xs[j] = false) xs.length ?_ ?_
  · exact ⟨0, rfl, by omega, by omega, by intros; omega⟩
  · rintro _ d w' hS ⟨k, h8, rfl, hk, hpre⟩
    refine W.fix h8 ?_
    repeat' (first|((first|apply jI|apply jJ); (first|exact eI rfl|exact eS rfl|exact eF rfl))|(refine jW (jX rfl rfl ?_))|refine jz ?_|(refine jjA ?_; (first|refine jjB ?_|refine jjC ?_|refine jjD ?_|refine jjE ?_|refine jjF ?_|refine jjG ?_))|(refine jjA ?_; (refine jjN rfl ?_ ?_ <;> intro _))|refine jB rfl rfl ⟨inferInstance, ?_⟩)
    · have hk' : k < xs.length := by omega
      refine Ops.indexRow rfl rfl (hrow.ext inferInstance) rfl (map_get hk') ?_
      intro b o hA
      refine Ops.loadV rfl hA (by exact hrow.get (List.getElem_mem hk')) ?_
      refine jjQ (hp _ _ (List.getElem_mem hk') inferInstance) rfl rfl ?_
      rintro v w2 hS2 rfl
      repeat' (first|((first|apply jI|apply jJ); exact eI rfl)|(refine jW (jY rfl rfl (by omega) ?_))|refine jz ?_|(refine jjA ?_; (first|refine jjB ?_|refine jjC ?_|refine jjF ?_|refine jjG ?_))|(refine jjA ?_; (refine jjO rfl ?_ ?_ <;> intro _))|refine jB rfl rfl ⟨inferInstance, ?_⟩)
      · exact congrArg _ (idxV_hit hk' ‹_› hpre).symm
      · refine ⟨rfl, by (((iterate 12 refine Same.upd rfl ?_); exact Same.ovN)), xs.length - (k + 1), by omega, inferInstance, k + 1, rfl, rfl, by omega, fun j hj hjk => ?_⟩
        by_cases e : j = k
        · subst e; assumption
        · exact hpre j hj (by omega)
    · exact congrArg _ (idxV_miss fun j hj => hpre j hj (by omega)).symm


theorem ContainsFunc_int {α : Type} (w : World) (v fv : Value) (enc : α → Value) (xs : List α) (p : α → Bool) (hrow : RowV w false 1 v (xs.map enc)) (hp : PredE Tryz.prog w fv enc xs p) :
    Ct Tryz.prog 67 [v, fv] w fun r _ => r = .bool (xs.any p) := by
  refine Ct.ofW (by simp) ?_
  (refine jjB (jjC (jJ (eB rfl) (jz (jjB (jjC ?_))))); refine jI rfl (jI rfl ?_))
  refine jjQ (IndexFunc_int _ _ _ enc _ _ (hrow.ext inferInstance) (hp.ext inferInstance)) rfl rfl ?_
  rintro _ w2 hS2 rfl
  (refine jf rfl rfl (jJ (eB rfl) (jz (jjF ?_))); refine jB rfl rfl ⟨inferInstance, ?_⟩)
  exact congrArg Value.bool (idxV_nonneg p xs)


theorem ContainsFunc_string {α : Type} (w : World) (v fv : Value) (enc : α → Value) (xs : List α) (p : α → Bool) (hrow : RowV w false 1 v (xs.map enc)) (hp : PredE Tryz.prog w fv enc xs p) :
    Ct Tryz.prog 93 [v, fv] w fun r _ => r = .bool (xs.any p) := by
  refine Ct.ofW (by simp) ?_
  (refine jjB (jjC (jJ (eB rfl) (jz (jjB (jjC ?_))))); refine jI rfl (jI rfl ?_))
  refine jjQ (IndexFunc_string _ _ _ enc _ _ (hrow.ext inferInstance) (hp.ext inferInstance)) rfl rfl ?_
  rintro _ w2 hS2 rfl
  (refine jf rfl rfl (jJ (eB rfl) (jz (jjF ?_))); refine jB rfl rfl ⟨inferInstance, ?_⟩)
  exact congrArg Value.bool (idxV_nonneg p xs)


theorem ContainsFunc_Slstring {α : Type} (w : World) (v fv : Value) (enc : α → Value) (xs : List α) (p : α → Bool) (hrow : RowV w false 1 v (xs.map enc)) (hp : PredE Tryz.prog w fv enc xs p) :
    Ct Tryz.prog 101 [v, fv] w fun r _ => r = .bool (xs.any p) := by
  refine Ct.ofW (by simp) ?_
  (refine jjB (jjC (jJ (eB rfl) (jz (jjB (jjC ?_))))); refine jI rfl (jI rfl ?_))
  refine jjQ (IndexFunc_Slstring _ _ _ enc _ _ (hrow.ext inferInstance) (hp.ext inferInstance)) rfl rfl ?_
  rintro _ w2 hS2 rfl
  (refine jf rfl rfl (jJ (eB rfl) (jz (jjF ?_))); refine jB rfl rfl ⟨inferInstance, ?_⟩)
  exact congrArg Value.bool (idxV_nonneg p xs)


theorem ContainsFunc_byte {α : Type} (w : World) (v fv : Value) (enc : α → Value) (xs : List α) (p : α → Bool) (hrow : RowV w false 1 v (xs.map enc)) (hp : PredE Tryz.prog w fv enc xs p) :
    Ct Tryz.prog 132 [v, fv] w fun r _ => r = .bool (xs.any p) := by
  refine Ct.ofW (by simp) ?_
  (refine jjB (jjC (jJ (eB rfl) (jz (jjB (jjC ?_))))); refine jI rfl (jI rfl ?_))
  refine jjQ (IndexFunc_byte _ _ _ enc _ _ (hrow.ext inferInstance) (hp.ext inferInstance)) rfl rfl ?_
  rintro _ w2 hS2 rfl
  (refine jf rfl rfl (jJ (eB rfl) (jz (jjF ?_))); refine jB rfl rfl ⟨inferInstance, ?_⟩)
  exact congrArg Value.bool (idxV_nonneg p xs)


theorem in1_leaf (n lo hi : Int) (b c : Nat) (w : World) [At w b 0 [.int .i64 lo]] [At w c 0 [.int .i64 hi]] :
    Ct Tryz.prog 130 [.int .i64 n, .pointer (some ⟨b, 0, none⟩), .pointer (some ⟨c, 0, none⟩)] w fun v _ => v = .bool (!inB lo hi n) := by
  refine Ct.ofW (by simp) ?_
  repeat' (first|((first|apply jI|apply jJ|apply jK rfl|apply jL rfl); (first|exact eI rfl|exact eB rfl))|(refine jM (jN rfl rfl rfl ?_))|(refine jS ?_; (first|refine jT rfl rfl rfl ?_|refine jU rfl rfl rfl rfl ?_))|(refine jW ?_; (first|refine jX rfl rfl ?_|refine je rfl rfl ?_))|refine jz ?_|(refine jjA ?_; (first|refine jjB ?_|refine jjC ?_|refine jjF ?_))|(refine jS ?_; (refine jjL rfl rfl ?_ ?_ <;> intro _))|refine jB rfl rfl ⟨inferInstance, ?_⟩)
  · exact congrArg Value.bool (by simp only [inB, Bool.true_eq, Bool.not_eq_true', decide_eq_false_iff_not]; omega)
  · exact congrArg Value.bool (by rw [inB, ← decide_not, decide_eq_decide]; omega)

theorem in_leaf (lo hi : Int) (v : Value) (xs : List Int) (w : World) (hrow : RowV w false 1 v (xs.map (.int .i64))) :
    Ct Tryz.prog 92 [.int .i64 lo, .int .i64 hi, v] w fun r _ => r = .bool (xs.all (inB lo hi)) := by
  refine Ct.ofW (by simp) ?_
  (refine jjB (jjC ?_))
  (refine jy rfl ?_; intro b1 w_b1 hb_b1 hs_b1 hS_b1 hk_b1; have hA_b1 := At.ofBlock hk_b1)
  (refine jy rfl ?_; intro b2 w_b2 hb_b2 hs_b2 hS_b2 hk_b2; have hA_b2 := At.ofBlock hk_b2)
  (refine jJ (eB rfl) (jz (jjB (jjC (jI rfl (jv ?_))))))
  refine jjQ (ContainsFunc_int _ _ (.func (.func 130) #[] [.pointer (some ⟨b1, 0, none⟩), .pointer (some ⟨b2, 0, none⟩)].toArray) (.int .i64) xs (fun n => !inB lo hi n) (hrow.ext inferInstance) ?hp) rfl rfl ?_
  case hp =>
    refine ⟨_, _, rfl, inferInstance, fun w' y _ hs => ?_⟩
    have := hA_b2.ext hs
    have := (inferInstance : At w_b2 b1 0 _).ext hs
    exact in1_leaf y lo hi b1 b2 w'
  rintro _ w2 hS2 rfl
  (refine js rfl (jJ (eB rfl) (jz (jjF ?_))); refine jB rfl rfl ⟨inferInstance, ?_⟩)
  exact congrArg Value.bool (not_any_not _ xs)


theorem word1_leaf (n : Int) (w : World) : Ct Tryz.prog 133 [.int .u8 n] w fun v _ => v = .bool (decide (n < 97 ∨ 122 < n)) := by
  refine Ct.ofW (by simp) ?_
  repeat' (first|((first|apply jI|apply jJ|apply jK rfl|apply jL rfl); (first|exact eI rfl|exact eB rfl))|(refine jS ?_; (first|refine jT rfl rfl rfl ?_|refine jU rfl rfl rfl rfl ?_))|(refine jW ?_; (first|refine jX rfl rfl ?_|refine je rfl rfl ?_))|refine jz ?_|(refine jjA ?_; (first|refine jjB ?_|refine jjC ?_|refine jjF ?_))|(refine jS ?_; (refine jjL rfl rfl ?_ ?_ <;> intro _))|refine jB rfl rfl ⟨inferInstance, ?_⟩)
  · exact congrArg Value.bool (by simp only [Bool.true_eq, decide_eq_true_eq]; omega)
  · exact congrArg Value.bool (by rw [decide_eq_decide]; omega)

theorem word_leaf (s : ByteArray) (w : World) (hs : s.size ≤ 140737488351232) : Ct Tryz.prog 95 [.string s] w fun r _ => r = .bool (wordB s) := by
  refine Ct.ofW (by simp) ?_
  (refine jjB (jjC (jJ (eB rfl) (jz (jjB (jjC ?_))))); refine jI (eT rfl) (ji rfl ?_))
  (refine jjP (v := .int _ _) rfl (by exact rfl) (by exact rfl) (by exact rfl) (by exact rfl) ?_; intro b1 w_b1 hb_b1 hs_b1 hS_b1 hk_b1; have hR_b1 := RowV.one (agg := false) (k := 1) rfl hk_b1)
  refine jjQ (in_leaf 1 12 _ [(s.size : Int)] _ hR_b1) rfl rfl ?_
  rintro _ w2 hS2 rfl
  repeat' (first|((first|apply jI|apply jJ|apply jL rfl); (first|exact eB rfl|exact eT rfl))|(refine jS ?_; (first|refine jT rfl rfl rfl ?_|refine jU rfl rfl rfl rfl ?_))|refine jz ?_|(refine jjA (jjF ?_))|(refine jS ?_; (refine jjM rfl rfl ?_ ?_ <;> intro _))|refine jB rfl rfl ⟨inferInstance, ?_⟩)
  · refine Ops.bytesOf rfl (by omega) ?_
    intro v w3 hS3 hR3
    (refine jT rfl rfl rfl ?_)
    refine jjQ (ContainsFunc_byte _ _ (.func (.func 133) #[] ([] : List Value).toArray) byteV s.data.toList (fun c => decide ((c.toNat : Int) < 97 ∨ 122 < (c.toNat : Int))) hR3 ?hp) rfl rfl ?_
    case hp =>
      exact ⟨_, _, rfl, inferInstance, fun w' y _ hs => word1_leaf _ w'⟩
    rintro _ w4 hS4 rfl
    (refine jT rfl rfl rfl (js rfl (jK rfl (eB rfl) (jJ (eB rfl) (jz (jjF ?_))))); refine jB rfl rfl ⟨inferInstance, ?_⟩)
    exact congrArg Value.bool (word_yes s ‹_›)
  · exact congrArg Value.bool (word_no s ‹_›)


theorem in1_slip (n lo hi : Int) (b c : Nat) (w : World) [At w b 0 [.int .i64 lo]] [At w c 0 [.int .i64 hi]] :
    Ct Tryz.prog 104 [.int .i64 n, .pointer (some ⟨b, 0, none⟩), .pointer (some ⟨c, 0, none⟩)] w fun v _ => v = .bool (!inB lo hi n) := by
  refine Ct.ofW (by simp) ?_
  repeat' (first|((first|apply jI|apply jJ|apply jK rfl|apply jL rfl); (first|exact eI rfl|exact eB rfl))|(refine jM (jN rfl rfl rfl ?_))|(refine jS ?_; (first|refine jT rfl rfl rfl ?_|refine jU rfl rfl rfl rfl ?_))|(refine jW ?_; (first|refine jX rfl rfl ?_|refine je rfl rfl ?_))|refine jz ?_|(refine jjA ?_; (first|refine jjB ?_|refine jjC ?_|refine jjF ?_))|(refine jS ?_; (refine jjL rfl rfl ?_ ?_ <;> intro _))|refine jB rfl rfl ⟨inferInstance, ?_⟩)
  · exact congrArg Value.bool (by simp only [inB, Bool.true_eq, Bool.not_eq_true', decide_eq_false_iff_not]; omega)
  · exact congrArg Value.bool (by rw [inB, ← decide_not, decide_eq_decide]; omega)

theorem in_slip (lo hi : Int) (v : Value) (xs : List Int) (w : World) (hrow : RowV w false 1 v (xs.map (.int .i64))) :
    Ct Tryz.prog 61 [.int .i64 lo, .int .i64 hi, v] w fun r _ => r = .bool (xs.all (inB lo hi)) := by
  refine Ct.ofW (by simp) ?_
  (refine jjB (jjC ?_))
  (refine jy rfl ?_; intro b1 w_b1 hb_b1 hs_b1 hS_b1 hk_b1; have hA_b1 := At.ofBlock hk_b1)
  (refine jy rfl ?_; intro b2 w_b2 hb_b2 hs_b2 hS_b2 hk_b2; have hA_b2 := At.ofBlock hk_b2)
  (refine jJ (eB rfl) (jz (jjB (jjC (jI rfl (jv ?_))))))
  refine jjQ (ContainsFunc_int _ _ (.func (.func 104) #[] [.pointer (some ⟨b1, 0, none⟩), .pointer (some ⟨b2, 0, none⟩)].toArray) (.int .i64) xs (fun n => !inB lo hi n) (hrow.ext inferInstance) ?hp) rfl rfl ?_
  case hp =>
    refine ⟨_, _, rfl, inferInstance, fun w' y _ hs => ?_⟩
    have := hA_b2.ext hs
    have := (inferInstance : At w_b2 b1 0 _).ext hs
    exact in1_slip y lo hi b1 b2 w'
  rintro _ w2 hS2 rfl
  (refine js rfl (jJ (eB rfl) (jz (jjF ?_))); refine jB rfl rfl ⟨inferInstance, ?_⟩)
  exact congrArg Value.bool (not_any_not _ xs)


theorem word1_slip (n : Int) (w : World) : Ct Tryz.prog 144 [.int .u8 n] w fun v _ => v = .bool (decide (n < 97 ∨ 122 < n)) := by
  refine Ct.ofW (by simp) ?_
  repeat' (first|((first|apply jI|apply jJ|apply jK rfl|apply jL rfl); (first|exact eI rfl|exact eB rfl))|(refine jS ?_; (first|refine jT rfl rfl rfl ?_|refine jU rfl rfl rfl rfl ?_))|(refine jW ?_; (first|refine jX rfl rfl ?_|refine je rfl rfl ?_))|refine jz ?_|(refine jjA ?_; (first|refine jjB ?_|refine jjC ?_|refine jjF ?_))|(refine jS ?_; (refine jjL rfl rfl ?_ ?_ <;> intro _))|refine jB rfl rfl ⟨inferInstance, ?_⟩)
  · exact congrArg Value.bool (by simp only [Bool.true_eq, decide_eq_true_eq]; omega)
  · exact congrArg Value.bool (by rw [decide_eq_decide]; omega)

theorem word_slip (s : ByteArray) (w : World) (hs : s.size ≤ 140737488351232) : Ct Tryz.prog 117 [.string s] w fun r _ => r = .bool (wordB s) := by
  refine Ct.ofW (by simp) ?_
  (refine jjB (jjC (jJ (eB rfl) (jz (jjB (jjC ?_))))); refine jI (eT rfl) (ji rfl ?_))
  (refine jjP (v := .int _ _) rfl (by exact rfl) (by exact rfl) (by exact rfl) (by exact rfl) ?_; intro b1 w_b1 hb_b1 hs_b1 hS_b1 hk_b1; have hR_b1 := RowV.one (agg := false) (k := 1) rfl hk_b1)
  refine jjQ (in_slip 1 12 _ [(s.size : Int)] _ hR_b1) rfl rfl ?_
  rintro _ w2 hS2 rfl
  repeat' (first|((first|apply jI|apply jJ|apply jL rfl); (first|exact eB rfl|exact eT rfl))|(refine jS ?_; (first|refine jT rfl rfl rfl ?_|refine jU rfl rfl rfl rfl ?_))|refine jz ?_|(refine jjA (jjF ?_))|(refine jS ?_; (refine jjM rfl rfl ?_ ?_ <;> intro _))|refine jB rfl rfl ⟨inferInstance, ?_⟩)
  · refine Ops.bytesOf rfl (by omega) ?_
    intro v w3 hS3 hR3
    (refine jT rfl rfl rfl ?_)
    refine jjQ (ContainsFunc_byte _ _ (.func (.func 144) #[] ([] : List Value).toArray) byteV s.data.toList (fun c => decide ((c.toNat : Int) < 97 ∨ 122 < (c.toNat : Int))) hR3 ?hp) rfl rfl ?_
    case hp =>
      exact ⟨_, _, rfl, inferInstance, fun w' y _ hs => word1_slip _ w'⟩
    rintro _ w4 hS4 rfl
    (refine jT rfl rfl rfl (js rfl (jK rfl (eB rfl) (jJ (eB rfl) (jz (jjF ?_))))); refine jB rfl rfl ⟨inferInstance, ?_⟩)
    exact congrArg Value.bool (word_yes s ‹_›)
  · exact congrArg Value.bool (word_no s ‹_›)


theorem in1_rack (n lo hi : Int) (b c : Nat) (w : World) [At w b 0 [.int .i64 lo]] [At w c 0 [.int .i64 hi]] :
    Ct Tryz.prog 81 [.int .i64 n, .pointer (some ⟨b, 0, none⟩), .pointer (some ⟨c, 0, none⟩)] w fun v _ => v = .bool (!inB lo hi n) := by
  refine Ct.ofW (by simp) ?_
  repeat' (first|((first|apply jI|apply jJ|apply jK rfl|apply jL rfl); (first|exact eI rfl|exact eB rfl))|(refine jM (jN rfl rfl rfl ?_))|(refine jS ?_; (first|refine jT rfl rfl rfl ?_|refine jU rfl rfl rfl rfl ?_))|(refine jW ?_; (first|refine jX rfl rfl ?_|refine je rfl rfl ?_))|refine jz ?_|(refine jjA ?_; (first|refine jjB ?_|refine jjC ?_|refine jjF ?_))|(refine jS ?_; (refine jjL rfl rfl ?_ ?_ <;> intro _))|refine jB rfl rfl ⟨inferInstance, ?_⟩)
  · exact congrArg Value.bool (by simp only [inB, Bool.true_eq, Bool.not_eq_true', decide_eq_false_iff_not]; omega)
  · exact congrArg Value.bool (by rw [inB, ← decide_not, decide_eq_decide]; omega)

theorem in_rack (lo hi : Int) (v : Value) (xs : List Int) (w : World) (hrow : RowV w false 1 v (xs.map (.int .i64))) :
    Ct Tryz.prog 37 [.int .i64 lo, .int .i64 hi, v] w fun r _ => r = .bool (xs.all (inB lo hi)) := by
  refine Ct.ofW (by simp) ?_
  (refine jjB (jjC ?_))
  (refine jy rfl ?_; intro b1 w_b1 hb_b1 hs_b1 hS_b1 hk_b1; have hA_b1 := At.ofBlock hk_b1)
  (refine jy rfl ?_; intro b2 w_b2 hb_b2 hs_b2 hS_b2 hk_b2; have hA_b2 := At.ofBlock hk_b2)
  (refine jJ (eB rfl) (jz (jjB (jjC (jI rfl (jv ?_))))))
  refine jjQ (ContainsFunc_int _ _ (.func (.func 81) #[] [.pointer (some ⟨b1, 0, none⟩), .pointer (some ⟨b2, 0, none⟩)].toArray) (.int .i64) xs (fun n => !inB lo hi n) (hrow.ext inferInstance) ?hp) rfl rfl ?_
  case hp =>
    refine ⟨_, _, rfl, inferInstance, fun w' y _ hs => ?_⟩
    have := hA_b2.ext hs
    have := (inferInstance : At w_b2 b1 0 _).ext hs
    exact in1_rack y lo hi b1 b2 w'
  rintro _ w2 hS2 rfl
  (refine js rfl (jJ (eB rfl) (jz (jjF ?_))); refine jB rfl rfl ⟨inferInstance, ?_⟩)
  exact congrArg Value.bool (not_any_not _ xs)


theorem in1_hand (n lo hi : Int) (b c : Nat) (w : World) [At w b 0 [.int .i64 lo]] [At w c 0 [.int .i64 hi]] :
    Ct Tryz.prog 138 [.int .i64 n, .pointer (some ⟨b, 0, none⟩), .pointer (some ⟨c, 0, none⟩)] w fun v _ => v = .bool (!inB lo hi n) := by
  refine Ct.ofW (by simp) ?_
  repeat' (first|((first|apply jI|apply jJ|apply jK rfl|apply jL rfl); (first|exact eI rfl|exact eB rfl))|(refine jM (jN rfl rfl rfl ?_))|(refine jS ?_; (first|refine jT rfl rfl rfl ?_|refine jU rfl rfl rfl rfl ?_))|(refine jW ?_; (first|refine jX rfl rfl ?_|refine je rfl rfl ?_))|refine jz ?_|(refine jjA ?_; (first|refine jjB ?_|refine jjC ?_|refine jjF ?_))|(refine jS ?_; (refine jjL rfl rfl ?_ ?_ <;> intro _))|refine jB rfl rfl ⟨inferInstance, ?_⟩)
  · exact congrArg Value.bool (by simp only [inB, Bool.true_eq, Bool.not_eq_true', decide_eq_false_iff_not]; omega)
  · exact congrArg Value.bool (by rw [inB, ← decide_not, decide_eq_decide]; omega)

theorem in_hand (lo hi : Int) (v : Value) (xs : List Int) (w : World) (hrow : RowV w false 1 v (xs.map (.int .i64))) :
    Ct Tryz.prog 100 [.int .i64 lo, .int .i64 hi, v] w fun r _ => r = .bool (xs.all (inB lo hi)) := by
  refine Ct.ofW (by simp) ?_
  (refine jjB (jjC ?_))
  (refine jy rfl ?_; intro b1 w_b1 hb_b1 hs_b1 hS_b1 hk_b1; have hA_b1 := At.ofBlock hk_b1)
  (refine jy rfl ?_; intro b2 w_b2 hb_b2 hs_b2 hS_b2 hk_b2; have hA_b2 := At.ofBlock hk_b2)
  (refine jJ (eB rfl) (jz (jjB (jjC (jI rfl (jv ?_))))))
  refine jjQ (ContainsFunc_int _ _ (.func (.func 138) #[] [.pointer (some ⟨b1, 0, none⟩), .pointer (some ⟨b2, 0, none⟩)].toArray) (.int .i64) xs (fun n => !inB lo hi n) (hrow.ext inferInstance) ?hp) rfl rfl ?_
  case hp =>
    refine ⟨_, _, rfl, inferInstance, fun w' y _ hs => ?_⟩
    have := hA_b2.ext hs
    have := (inferInstance : At w_b2 b1 0 _).ext hs
    exact in1_hand y lo hi b1 b2 w'
  rintro _ w2 hS2 rfl
  (refine js rfl (jJ (eB rfl) (jz (jjF ?_))); refine jB rfl rfl ⟨inferInstance, ?_⟩)
  exact congrArg Value.bool (not_any_not _ xs)


theorem inOne_leaf (lo hi n : Int) (b : Nat) (B : Bool) (w : World) (hB : inB lo hi n = B) (hR : RowV w false 1 (.slice (some ⟨b, 0, none⟩) 1 1) [.int .i64 n]) : Ct Tryz.prog 92 [.int .i64 lo, .int .i64 hi, .slice (some ⟨b, 0, none⟩) 1 1] w fun v _ => v = .bool B :=
  (in_leaf lo hi _ [n] w hR).mono fun v _ _ e => e.trans (by rw [all_1, hB])
theorem Check1_leaf (s : ByteArray) (w : World) (hs : s.size ≤ 1000) : Ct Tryz.prog 94 [.string s] w fun v _ => v = .bool (!wordB s) := by
  refine Ct.ofW (by simp) ?_
  (refine jjB (jjC (jJ (eB rfl) (jz (jjB (jjC ?_))))); refine jI (eT rfl) ?_)
  refine jjQ (word_leaf s _ (by omega)) rfl rfl ?_
  rintro _ w2 hS2 rfl
  (refine js rfl (jJ (eB rfl) (jz (jjF ?_))); refine jB rfl rfl ⟨inferInstance, ?_⟩)
  exact rfl
theorem not_words (l : List ByteArray) : l.any (fun s => !wordB s) = !l.all wordB := by
  rw [any_not]

section
variable (a : Option Addr) (c : Nat) (cs : List Ch) (w : World) [hrow : RowI w (.slice a cs.length c) true 2 (cs.map encCh)] [hT : TextI w cs]
set_option maxHeartbeats 4000000 in
theorem Check_leaf (hs : SmallT cs) : Ct Tryz.prog 54 [.agg #[.slice a cs.length c]] w fun v _ => v = .int .i64 (if textB (txF cs) then 0 else 10) := by
  have hs1 := hs.1
  refine Ct.ofW (by simp) ?_
  (refine jjB (jjC ?_))
  (refine jy rfl ?_; intro b1 w_b1 hb_b1 hs_b1 hS_b1 hk_b1; have hA_b1 := At.ofBlock hk_b1)
  (refine jJ (eI rfl) (jz (jjH (jjB (jjB (jjC ?_))))); refine jm (jn rfl (jN rfl rfl rfl (jh rfl ?_))))
  (refine jjP (v := .int _ _) rfl (by exact rfl) (by exact rfl) (by exact rfl) (by exact rfl) ?_; intro b2 w_b2 hb_b2 hs_b2 hS_b2 hk_b2; have hR_b2 := RowV.one (agg := false) (k := 1) rfl hk_b2)
  obtain ⟨B6, h6⟩ : ∃ B, inB 1 6 (cs.length : Int) = B := ⟨_, rfl⟩
  skip
  refine jjQ (inOne_leaf 1 6 (cs.length : Int) b2 B6 _ h6 hR_b2) rfl rfl ?_
  rintro _ w2 hS2 rfl
  cases B6
  · (refine jq rfl (jz (jjJ rfl (jjB (jjC (jJ (eI rfl) ?_))))); refine jz (jjF ?_); refine jB rfl rfl ⟨inferInstance, ?_⟩)
    rw [textB_len h6]; exact rfl
  (refine jp rfl (jz (jjK rfl (jjG (jjB (jjC ?_))))); refine jJ (eI rfl) (jz (jjB (jjC ?_))))
  refine Ops.makeMap (Value.int .i64) ?_
  intro mb w3 hmb hs3 hS3 hM3
  (refine jJ (eM rfl) (jz (jjB (jjI (jjB (jjB ?_))))); refine jjC (jm (jn rfl (jN rfl rfl rfl (jh rfl (jI (eI rfl) ?_))))); refine jz (jjD ?_))
  have hE3 : Ext w w3 := inferInstance
  have hT3 : TextI w3 cs := hT.ext hE3
  have hrow3 : RowV w3 true 2 (.slice a cs.length c) (cs.map encCh) := hrow.h.ext hE3
  have zmb : w.heap.size ≤ mb := by have := (inferInstance : Ext w w2).size; omega
  refine W.keep0 [(3, .int .i64 (0 : Int)), (4, .map (some mb)), (17, .slice a cs.length c), (18, .int .i64 ((cs.length : Nat) : Int)), (19, .int .i64 ((0 : Nat) : Int))] ⟨eI rfl, eM rfl, eS rfl, eI rfl, eI rfl, trivial⟩ fun s0 => ?_
  refine W.loopG (20 :: 21 :: 22 :: 6 :: 23 :: 24 :: 25 :: 26 :: 27 :: 28 :: 29 :: 30 :: 31 :: 32 :: 33 :: 34 :: 35 :: 36 :: 37 :: 38 :: 39 :: 40 :: 41 :: 2 :: 42 :: 43 :: 44 :: 45 :: 46 :: 47 :: 48 :: 49 :: 50 :: 51 :: 8 :: 52 :: 53 :: 54 :: 55 :: 56 :: 57 :: 58 :: 59 :: 60 :: 3 :: 61 :: 62 :: 19 :: []) (fun g s' V => ∃ (k : Nat) (m : List (Int × Value)), s' 19 = .int .i64 ((k : Nat) : Int) ∧ s' 3 = .int .i64 (0 : Int) ∧ g = cs.length - k ∧ k ≤ cs.length ∧ Only mb w3 V ∧ MapE (Value.int .i64) V mb m ∧ (∀ x : Int, mget m x = if x ∈ (cs.take k).map (·.1) then some (.bool true) else none) ∧ (∀ (j : Nat) (hj : j < cs.length), j < k → chapB (txC cs[j]) = true) ∧ ∀ (i j : Nat) (hij : i < j) (hj : j < cs.length), j < k → (cs[i]'(by omega)).1 ≠ cs[j].1) cs.length ⟨0, [], rfl, rfl, rfl, Nat.zero_le _, .ofExt (.refl _), hM3, fun x => by simp [mget], by intros; omega, by intros; omega⟩ ?_
  rintro _ sd V ⟨k, m, h19, h3, rfl, hk, hOn, hM, hmg, hpre, hid⟩
  refine W.fix h19 (W.fix (d := 3) h3 ?_)
  clear h19 h3
  have hEV : Ext w V := hOn.ext hE3 zmb
  by_cases hkc : k < cs.length
  rotate_left
  · obtain rfl : k = cs.length := by omega
    (refine jjB (jjC (jja rfl rfl (by omega) (jz (jjB (jjK rfl ?_))))); refine jjE (jjB (jjC (jI (eI rfl) (jJ (eI rfl) (jz ?_))))); refine jjF ?_; refine jB rfl rfl ⟨inferInstance, ?_⟩)
    rw [textB_yes h6 (fun j hj => hpre j hj hj) (fun i j hij hj => hid i j hij hj hj)]; exact rfl
  have hgk := List.getElem?_eq_getElem hkc
  have hsk := hs.2 _ (List.getElem_mem hkc)
  have hno : chapB (txC cs[k]) = false → textB (txF cs) = false := textB_chap hkc
  have hrV : RowI V (.slice a cs.length c) true 2 (cs.map encCh) := ⟨hrow.h.ext hEV⟩
  (refine jjB (jjC (jjZ rfl rfl (by omega) (jz (jjB (jjJ rfl ?_))))); refine jjG (jjB (jjD (jjB (jjC ?_)))); refine jF rfl rfl rfl (map_get (by omega)) ?_; intro _ _ _; refine jQ rfl rfl ?_)
  (apply jjR rfl; (intro _; first|exact eI rfl|exact eB rfl|exact eP rfl|exact eS rfl|exact eT rfl|exact eA rfl|exact eU rfl|exact eF rfl|exact eM rfl|exact eN rfl|exact rfl); exact rfl; exact rfl; exact rfl; exact rfl; intro b6 w_b6 hb_b6 hs_b6 hS_b6 hk_b6; have hA_b6 := Bk.of hk_b6)
  (refine jz (jjB (jjB (jjC (jm (jn rfl ?_))))); refine jN rfl rfl rfl ?_)
  (refine jjP (v := .int _ _) rfl (by exact rfl) (by exact rfl) (by exact rfl) (by exact rfl) ?_; intro b7 w_b7 hb_b7 hs_b7 hS_b7 hk_b7; have hR_b7 := RowV.one (agg := false) (k := 1) rfl hk_b7)
  obtain ⟨Bi, hi⟩ : ∃ B, inB 0 9999 cs[k].1 = B := ⟨_, rfl⟩
  skip
  refine jjQ (inOne_leaf 0 9999 cs[k].1 b7 Bi _ hi hR_b7) rfl rfl ?_
  rintro _ w8 hS8 rfl
  cases Bi
  · (refine jq rfl (jI (eB rfl) (jU rfl rfl rfl rfl (jU rfl rfl rfl rfl (jU rfl rfl rfl rfl (jU rfl rfl rfl rfl ?_))))); refine jK rfl (eB rfl) (jI (eB rfl) (jU rfl rfl rfl rfl (jU rfl rfl rfl rfl (jU rfl rfl rfl rfl (jU rfl rfl rfl rfl ?_))))); refine jU rfl rfl rfl rfl (jU rfl rfl rfl rfl (jK rfl (eB rfl) (jz (jjJ rfl (jjB ?_))))); refine jjC (jJ (eI rfl) (jz (jjF ?_))); refine jB rfl rfl ⟨inferInstance, ?_⟩)
    rw [hno (chapB_id hi)]; exact rfl
  have hE8 : Ext V w8 := (hS_b6.ext.trans hS_b7.ext).trans hS8.ext
  have hM8 := hM.ext hE8
  (refine jp rfl (jI (eB rfl) (jT rfl rfl rfl (jI (eM rfl) (jT rfl rfl rfl (jm ?_))))); refine jn rfl (jT rfl rfl rfl (jN rfl rfl rfl (jT rfl rfl rfl ?_))))
  refine Ops.lookup (k := cs[k].1) hM8 rfl rfl ?_
  by_cases hdup : cs[k].1 ∈ (cs.take k).map (·.1)
  · rw [hmg, if_pos hdup]
    have htb : textB (txF cs) = false := by
      obtain ⟨x, hx, hx2⟩ := List.mem_map.1 hdup
      obtain ⟨j, hj, rfl⟩ := List.mem_iff_getElem.1 hx
      rw [List.length_take] at hj
      rw [List.getElem_take] at hx2
      exact textB_dup (i := j) (by omega) hkc hx2
    (refine jL rfl (eB rfl) (jI (eB rfl) (jU rfl rfl rfl rfl (jU rfl rfl rfl rfl (jU rfl rfl rfl rfl (jU rfl rfl rfl rfl ?_))))); refine jU rfl rfl rfl rfl (jU rfl rfl rfl rfl (jK rfl (eB rfl) (jz (jjJ rfl (jjB ?_))))); refine jjC (jJ (eI rfl) (jz (jjF ?_))); refine jB rfl rfl ⟨inferInstance, ?_⟩)
    rw [htb]; exact rfl
  rw [hmg, if_neg hdup]
  (refine jL rfl (eB rfl) (jI (eB rfl) (jT rfl rfl rfl (jm (jn rfl (jT rfl rfl rfl ?_))))); refine jN rfl rfl rfl (jT rfl rfl rfl (jh rfl (jT rfl rfl rfl ?_))))
  (refine jjP (v := .int _ _) rfl (by exact rfl) (by exact rfl) (by exact rfl) (by exact rfl) ?_; intro b9 w_b9 hb_b9 hs_b9 hS_b9 hk_b9; have hR_b9 := RowV.one (agg := false) (k := 1) rfl hk_b9)
  obtain ⟨Bl, hl⟩ : ∃ B, inB 1 10 (cs[k].2.2.2.length : Int) = B := ⟨_, rfl⟩
  (refine jT rfl rfl rfl ?_)
  refine jjQ (inOne_leaf 1 10 (cs[k].2.2.2.length : Int) b9 Bl _ hl hR_b9) rfl rfl ?_
  rintro _ w10 hS10 rfl
  cases Bl
  · (refine jT rfl rfl rfl (jq rfl (jL rfl (eB rfl) (jz (jjJ rfl (jjB ?_))))); refine jjC (jJ (eI rfl) (jz (jjF ?_))); refine jB rfl rfl ⟨inferInstance, ?_⟩)
    rw [hno (chapB_len hl)]; exact rfl
  have hE10 : Ext V w10 := hE8.trans (hS_b9.ext.trans hS10.ext)
  (refine jT rfl rfl rfl (jp rfl (jL rfl (eB rfl) (jz (jjK rfl (jjG ?_))))); refine jjB (jjC (jI (eM rfl) (jm (jn rfl (jN rfl rfl rfl ?_))))))
  refine Ops.mapUpdate (k := cs[k].1) (hM.ext hE10) rfl rfl rfl ?_
  intro w11 o11 hp11 hM11
  have hOn11 : Only mb w3 w11 := (hOn.trans (.ofExt hE10)).trans (.ofPut hp11)
  have hE11 : Ext w w11 := hOn11.ext hE3 zmb
  have hne6 : b6 ≠ mb := by have := hM.lt; omega
  have hb6 : Bk w11 b6 [.int .i64 cs[k].1, .slice cs[k].2.1 cs[k].2.2.2.length cs[k].2.2.1] 118 := hp11.bk (((hA_b6.ext hS_b7.ext).ext hS8.ext).ext (hS_b9.ext.trans hS10.ext)) hne6
  have hmg11 : ∀ x : Int, mget (mset m cs[k].1 (.bool true)) x = if x ∈ (cs.take (k + 1)).map (·.1) then some (.bool true) else none := fun x => by
    rw [take_snoc_get hgk, List.map_append]
    by_cases e : x = cs[k].1
    · subst e; rw [mget_set_same, if_pos (by simp)]
    · rw [mget_set_other _ _ e, hmg]
      congr 1
      simp [e]
  have hidk : ∀ (j : Nat) (hj : j < k), (cs[j]'(by omega)).1 ≠ cs[k].1 := fun j hj he => hdup (List.mem_map.2 ⟨cs[j]'(by omega), List.mem_iff_getElem.2 ⟨j, by rw [List.length_take]; omega, by rw [List.getElem_take]⟩, he⟩)
  have hT11 : TextI w11 cs := hT.ext hE11
  clear hmg hdup hM8
  (refine jz (jjB (jjC (jm (jn rfl (jN rfl rfl rfl ?_))))); refine jh rfl (jI (eI rfl) (jz (jjD ?_))))
  refine W.keep [(3, .int .i64 (0 : Int)), (4, .map (some mb)), (17, .slice a cs.length c), (18, .int .i64 ((cs.length : Nat) : Int)), (19, .int .i64 ((k : Nat) : Int)), (46, .slice cs[k].2.1 cs[k].2.2.2.length cs[k].2.2.1), (47, .int .i64 ((cs[k].2.2.2.length : Nat) : Int)), (48, .int .i64 ((0 : Nat) : Int))] (D := (20 :: 21 :: 22 :: 6 :: 23 :: 24 :: 25 :: 26 :: 27 :: 28 :: 29 :: 30 :: 31 :: 32 :: 33 :: 34 :: 35 :: 36 :: 37 :: 38 :: 39 :: 40 :: 41 :: 2 :: 42 :: 43 :: 44 :: 45 :: 46 :: 47 :: 48 :: 49 :: 50 :: 51 :: 8 :: 52 :: 53 :: 54 :: 55 :: 56 :: 57 :: 58 :: 59 :: 60 :: 3 :: 61 :: 62 :: 19 :: [])) (sO := upds s0 _) (by (((iterate 32 refine Same.upd rfl ?_); exact Same.ovN))) ⟨eI rfl, eM rfl, eS rfl, eI rfl, eI rfl, eS rfl, eI rfl, eI rfl, trivial⟩ fun s1 hs1' => ?_
  refine W.loop (49 :: 50 :: 51 :: 8 :: 52 :: 53 :: 54 :: 55 :: 56 :: 57 :: 58 :: 59 :: 60 :: 3 :: 61 :: 48 :: []) (fun g s' V => ∃ n : Nat, s' 48 = .int .i64 ((n : Nat) : Int) ∧ s' 3 = .int .i64 (0 : Int) ∧ g = cs[k].2.2.2.length - n ∧ n ≤ cs[k].2.2.2.length ∧ ∀ (j : Nat) (hj : j < cs[k].2.2.2.length), j < n → lineB cs[k].2.2.2[j].2.2 = true) cs[k].2.2.2.length ⟨0, rfl, rfl, rfl, Nat.zero_le _, by intros; omega⟩ ?_
  rintro _ sd2 w12 hS12 ⟨n, h48, h3', rfl, hn, hpre2⟩
  refine W.fix h48 (W.fix (d := 3) h3' ?_)
  clear h48 h3'
  by_cases hnl : n < cs[k].2.2.2.length
  rotate_left
  · have hyes := chapB_yes hi hl (fun j hj => hpre2 j hj (by omega))
    (refine jjB (jjC (jja rfl rfl (by omega) (jz (jjB (jjK rfl ?_))))); refine jjE (jjC (jY rfl rfl (by omega) (jI (eI rfl) (jz ?_)))))
    refine ⟨rfl, by (((iterate 5 refine Same.upd rfl ?_); refine Same.ovN' rfl ?_; assumption)), cs.length - (k + 1), by omega, k + 1, _, congrArg (Value.int .i64) (by omega), rfl, rfl, by omega, hOn11.trans (.ofExt hS12.ext), hM11.ext hS12.ext, hmg11, fun j hj hjk => ?_, fun i' j hij hj hjk => ?_⟩
    · by_cases e : j = k
      · subst e; exact hyes
      · exact hpre j hj (by omega)
    · by_cases e : j = k
      · subst e; exact hidk i' hij
      · exact hid i' j hij hj (by omega)
  have hsn := hsk.2 _ (List.getElem_mem hnl)
  have hnoL : lineB cs[k].2.2.2[n].2.2 = false → textB (txF cs) = false := fun h => hno (chapB_line hnl h)
  have hT12 : TextI w12 cs := hT11.ext hS12.ext
  have hE12 : Ext w w12 := hE11.trans hS12.ext
  have i2 := hT12.line hkc
  have hLR := (hT12.word hkc hnl).h
  obtain ⟨Bn, hln⟩ : ∃ B, inB 1 10 (cs[k].2.2.2[n].2.2.length : Int) = B := ⟨_, rfl⟩
  (refine jjB (jjC (jjZ rfl rfl (by omega) (jz (jjB (jjJ rfl ?_))))); refine jjG (jjB (jjD (jjB (jjC ?_)))); refine jF rfl rfl rfl (map_get (by omega)) ?_; intro _ _ _; refine jQ rfl rfl (jJ (eS rfl) (jz (jjB (jjC (jI (eS rfl) ?_))))); refine jh rfl ?_)
  (refine jjP (v := .int _ _) rfl (by exact rfl) (by exact rfl) (by exact rfl) (by exact rfl) ?_; intro b13 w_b13 hb_b13 hs_b13 hS_b13 hk_b13; have hR_b13 := RowV.one (agg := false) (k := 1) rfl hk_b13)
  refine jjQ (inOne_leaf 1 10 (cs[k].2.2.2[n].2.2.length : Int) b13 Bn _ hln hR_b13) rfl rfl ?_
  rintro _ w14 hS14 rfl
  cases Bn
  · (refine jq rfl (jI (eB rfl) (jU rfl rfl rfl rfl (jU rfl rfl rfl rfl (jK rfl (eB rfl) (jz ?_))))); refine jjJ rfl (jjB (jjC (jJ (eI rfl) (jz (jjE ?_))))); refine jjB (jjC (jI (eI rfl) (jJ (eI rfl) (jz (jjF ?_))))); refine jB rfl rfl ⟨inferInstance, ?_⟩)
    rw [hnoL (lineB_len hln)]; exact rfl
  have hE14 : Ext w12 w14 := hS_b13.ext.trans hS14.ext
  obtain ⟨Bw, hw⟩ : ∃ B, (cs[k].2.2.2[n].2.2).any (fun s => !wordB s) = B := ⟨_, rfl⟩
  (refine jp rfl (jI (eB rfl) (jT rfl rfl rfl (jI (eS rfl) (jT rfl rfl rfl ?_)))))
  refine jjQ ((ContainsFunc_string _ _ (.func (.func 94) #[] #[]) strV cs[k].2.2.2[n].2.2 (fun s => !wordB s) (hLR.ext hE14) ⟨_, [], rfl, inferInstance, fun w' x hx hs' => Check1_leaf x w' (hsn.2 x hx)⟩).mono fun v _ _ e => e.trans (by rw [hw])) rfl rfl ?_
  rintro _ w15 hS15 rfl
  rw [not_words] at hw
  cases Bw
  · have hyes : lineB cs[k].2.2.2[n].2.2 = true := by
      have : (cs[k].2.2.2[n].2.2).all wordB = true := by simpa using hw
      rw [lineB, hln, this]; rfl
    (refine jL rfl (eB rfl) (jz (jjK rfl (jjG (jjC (jY rfl rfl (by omega) ?_))))); refine jI (eI rfl) (jz ?_))
    refine ⟨rfl, by (((iterate 17 refine Same.upd rfl ?_); exact Same.ovN)), cs[k].2.2.2.length - (n + 1), by omega, inferInstance, n + 1, congrArg (Value.int .i64) (by omega), rfl, rfl, by omega, fun j hj hjk => ?_⟩
    by_cases e : j = n
    · subst e; exact hyes
    · exact hpre2 j hj (by omega)
  · have hbad : lineB cs[k].2.2.2[n].2.2 = false := by
      have : (cs[k].2.2.2[n].2.2).all wordB = false := by simpa using hw
      rw [lineB, this, Bool.and_false]
    (refine jL rfl (eB rfl) (jz (jjJ rfl (jjB (jjC (jJ (eI rfl) ?_))))); refine jz (jjE (jjB (jjC (jI (eI rfl) (jJ (eI rfl) ?_))))); refine jz (jjF ?_); refine jB rfl rfl ⟨inferInstance, ?_⟩)
    rw [hnoL hbad]; exact rfl
end

section
variable (a : Option Addr) (c : Nat) (cs : List Ch) (w : World) [hrow : RowI w (.slice a cs.length c) true 2 (cs.map encCh)] [hT : TextI w cs]
set_option maxHeartbeats 2000000 in
theorem Great_ref1 : Ct Tryz.prog 19 [.agg #[.slice a cs.length c]] w fun v _ => v = .bool (greatT (txF cs)) := by
  have hlen : (txF cs).length = cs.length := by simp [txF]
  refine Ct.ofW (by simp) ?_
  (refine jjB (jjC ?_))
  (refine jy rfl ?_; intro b1 w_b1 hb_b1 hs_b1 hS_b1 hk_b1; have hA_b1 := At.ofBlock hk_b1)
  by_cases h10 : 10 < cs.length
  · (refine jJ (eB rfl) (jz (jjB (jjB (jjC (jm ?_))))); refine jn rfl (jN rfl rfl rfl (jh rfl (jjd rfl rfl (by omega) (jz (jjJ rfl ?_))))); refine jjB (jjC (jJ (eB rfl) (jz (jjF ?_)))); refine jB rfl rfl ⟨inferInstance, ?_⟩)
    have : greatT (txF cs) = true := by rw [greatT, hlen, decide_eq_true h10, Bool.true_or]
    rw [this]; exact rfl
  (refine jJ (eB rfl) (jz (jjB (jjB (jjC (jm ?_))))); refine jn rfl (jN rfl rfl rfl (jh rfl (jje rfl rfl (by omega) (jz (jjK rfl ?_))))); refine jjG (jjB (jjB (jjC (jJ (eI rfl) (jz ?_))))); refine jjD ?_)
  have hC : ∀ (k : Nat) (hk : k < cs.length), greatC (cs[k].1, cs[k].2.2.2.map (·.2.2)) = true → greatT (txF cs) = true := fun k hk h => by
    have : (txF cs).any greatC = true := any_hit (k := k) (by rw [hlen]; exact hk) (by simpa [txF] using h)
    rw [greatT, this, Bool.or_true]
  refine W.keep0 [(1, .pointer (some ⟨b1, 0, none⟩)), (3, .int .i64 ((0 : Nat) : Int))] ⟨eP rfl, eI rfl, trivial⟩ fun s0 => ?_
  refine W.loop (10 :: 11 :: 12 :: 13 :: 14 :: 17 :: 18 :: 19 :: 20 :: 21 :: 22 :: 23 :: 24 :: 2 :: 4 :: 25 :: 26 :: 27 :: 28 :: 29 :: 30 :: 31 :: 32 :: 33 :: 36 :: 37 :: 38 :: 39 :: 40 :: 41 :: 42 :: 43 :: 44 :: 45 :: 46 :: 5 :: 47 :: 48 :: 49 :: 50 :: 51 :: 52 :: 53 :: 54 :: 55 :: 56 :: 57 :: 58 :: 61 :: 62 :: 63 :: 64 :: 65 :: 66 :: 67 :: 68 :: 69 :: 70 :: 71 :: 72 :: 73 :: 74 :: 59 :: 60 :: 34 :: 35 :: 15 :: 16 :: 3 :: []) (fun g s' V => ∃ k : Nat, s' 3 = .int .i64 ((k : Nat) : Int) ∧ g = cs.length - k ∧ k ≤ cs.length ∧ ∀ (j : Nat) (hj : j < cs.length), j < k → greatC (cs[j].1, cs[j].2.2.2.map (·.2.2)) = false) cs.length ⟨0, rfl, rfl, Nat.zero_le _, by intros; omega⟩ ?_
  rintro _ sd w1 hS1 ⟨k, h3, rfl, hk, hpre⟩
  refine W.fix h3 ?_
  clear h3
  by_cases hkc : k < cs.length
  rotate_left
  · obtain rfl : k = cs.length := by omega
    have : greatT (txF cs) = false := by
      have h1 : (txF cs).any greatC = false := any_miss fun j hj => by
        have hj' : j < cs.length := by rw [← hlen]; exact hj
        simpa [txF] using hpre j hj' hj'
      rw [greatT, h1, hlen, decide_eq_false h10]; rfl
    (refine jjB (jjB (jjC (jI (eI rfl) (jm (jn rfl ?_))))); refine jN rfl rfl rfl (jh rfl (jja rfl rfl (by omega) (jz (jjK rfl (jjE ?_))))); refine jjB (jjC (jJ (eB rfl) (jz (jjF ?_)))); refine jB rfl rfl ⟨inferInstance, ?_⟩)
    rw [this]; exact rfl
  have hTk : TextI w1 cs := inferInstance
  have i1 := hTk.line hkc
  have hCk := hC k hkc
  by_cases h15 : 15 < cs[k].2.2.2.length
  · (refine jjB (jjB (jjC (jI (eI rfl) (jm (jn rfl ?_))))); refine jN rfl rfl rfl (jh rfl (jjZ rfl rfl (by omega) (jz (jjJ rfl (jjG ?_))))); refine jjB (jjD (jjB (jjB (jjC (jm ?_))))); refine jn rfl (jN rfl rfl rfl (jI (eI rfl) ?_)); refine jF rfl rfl rfl (map_get (by omega)) ?_; intro _ _ _; refine jm (jn rfl (jP rfl rfl rfl (jh rfl (jjd rfl rfl (by omega) (jz ?_))))); refine jjJ rfl (jjB (jjC (jJ (eB rfl) (jz (jjF ?_))))); refine jB rfl rfl ⟨inferInstance, ?_⟩)
    rw [hCk (by rw [greatC, List.length_map, decide_eq_true h15, Bool.true_or])]; exact rfl
  (refine jjB (jjB (jjC (jI (eI rfl) (jm (jn rfl ?_))))); refine jN rfl rfl rfl (jh rfl (jjZ rfl rfl (by omega) (jz (jjJ rfl (jjG ?_))))); refine jjB (jjD (jjB (jjB (jjC (jm ?_))))); refine jn rfl (jN rfl rfl rfl (jI (eI rfl) ?_)); refine jF rfl rfl rfl (map_get (by omega)) ?_; intro _ _ _; refine jm (jn rfl (jP rfl rfl rfl (jh rfl (jje rfl rfl (by omega) (jz ?_))))); refine jjK rfl (jjG (jjB (jjC (jJ (eI rfl) (jz ?_))))); refine jjD ?_)
  refine W.keep [(1, .pointer (some ⟨b1, 0, none⟩)), (3, .int .i64 ((k : Nat) : Int)), (4, .int .i64 ((0 : Nat) : Int))] (D := (10 :: 11 :: 12 :: 13 :: 14 :: 17 :: 18 :: 19 :: 20 :: 21 :: 22 :: 23 :: 24 :: 2 :: 4 :: 25 :: 26 :: 27 :: 28 :: 29 :: 30 :: 31 :: 32 :: 33 :: 36 :: 37 :: 38 :: 39 :: 40 :: 41 :: 42 :: 43 :: 44 :: 45 :: 46 :: 5 :: 47 :: 48 :: 49 :: 50 :: 51 :: 52 :: 53 :: 54 :: 55 :: 56 :: 57 :: 58 :: 61 :: 62 :: 63 :: 64 :: 65 :: 66 :: 67 :: 68 :: 69 :: 70 :: 71 :: 72 :: 73 :: 74 :: 59 :: 60 :: 34 :: 35 :: 15 :: 16 :: 3 :: [])) (sO := upds s0 _) (by (((iterate 15 refine Same.upd rfl ?_); exact Same.ovN))) ⟨eP rfl, eI rfl, eI rfl, trivial⟩ fun s1 hs1 => ?_
  refine W.loop (25 :: 26 :: 27 :: 28 :: 29 :: 30 :: 31 :: 32 :: 33 :: 36 :: 37 :: 38 :: 39 :: 40 :: 41 :: 42 :: 43 :: 44 :: 45 :: 46 :: 2 :: 5 :: 47 :: 48 :: 49 :: 50 :: 51 :: 52 :: 53 :: 54 :: 55 :: 56 :: 57 :: 58 :: 61 :: 62 :: 63 :: 64 :: 65 :: 66 :: 67 :: 68 :: 69 :: 70 :: 71 :: 72 :: 73 :: 74 :: 59 :: 60 :: 34 :: 35 :: 4 :: []) (fun g s' V => ∃ n : Nat, s' 4 = .int .i64 ((n : Nat) : Int) ∧ g = cs[k].2.2.2.length - n ∧ n ≤ cs[k].2.2.2.length ∧ ∀ (j : Nat) (hj : j < cs[k].2.2.2.length), j < n → greatL cs[k].2.2.2[j].2.2 = false) cs[k].2.2.2.length ⟨0, rfl, rfl, Nat.zero_le _, by intros; omega⟩ ?_
  rintro _ sd2 w2 hS2 ⟨n, h4, rfl, hn, hpre2⟩
  refine W.fix h4 ?_
  clear h4
  by_cases hnl : n < cs[k].2.2.2.length
  rotate_left
  · have hne : n = cs[k].2.2.2.length := by omega
    have hCf : greatC (cs[k].1, cs[k].2.2.2.map (·.2.2)) = false := by
      have h1 : (cs[k].2.2.2.map (·.2.2)).any greatL = false := any_miss fun j hj => by
        rw [List.length_map] at hj
        rw [List.getElem_map]
        exact hpre2 j hj (by omega)
      rw [greatC, h1, List.length_map, decide_eq_false h15]; rfl
    (refine jjB (jjB (jjC (jI (eI rfl) (jm (jn rfl ?_))))); refine jN rfl rfl rfl (jI (eI rfl) ?_); refine jF rfl rfl rfl (map_get (by omega)) ?_; intro _ _ _; refine jm (jn rfl (jP rfl rfl rfl (jh rfl (jja rfl rfl (by omega) (jz ?_))))); refine jjK rfl (jjE (jjC (jI (eI rfl) (jY rfl rfl (by omega) (jJ (eI rfl) ?_))))); refine jz ?_)
    refine ⟨rfl, by (((iterate 13 refine Same.upd rfl ?_); refine Same.ovN' rfl ?_; assumption)), cs.length - (k + 1), by omega, inferInstance, k + 1, congrArg (Value.int .i64) (by omega), rfl, by omega, fun j hj hjk => ?_⟩
    by_cases e : j = k
    · subst e; exact hCf
    · exact hpre j hj (by omega)
  have hTk2 : TextI w2 cs := inferInstance
  have i2 := hTk2.line hkc
  have i3 := hTk2.word hkc hnl
  have hLk : greatL cs[k].2.2.2[n].2.2 = true → greatT (txF cs) = true := fun h => hCk (by
    have : (cs[k].2.2.2.map (·.2.2)).any greatL = true := any_hit (k := n) (by rw [List.length_map]; exact hnl) (by rw [List.getElem_map]; exact h)
    rw [greatC, this, Bool.or_true])
  by_cases h15' : 15 < cs[k].2.2.2[n].2.2.length
  · (refine jjB (jjB (jjC (jI (eI rfl) (jm (jn rfl ?_))))); refine jN rfl rfl rfl (jI (eI rfl) ?_); refine jF rfl rfl rfl (map_get (by omega)) ?_; intro _ _ _; refine jm (jn rfl (jP rfl rfl rfl (jh rfl (jjZ rfl rfl (by omega) (jz ?_))))); refine jjJ rfl (jjG (jjB (jjD (jjB (jjB ?_))))); refine jjC (jm (jn rfl (jN rfl rfl rfl (jI (eI rfl) ?_)))); refine jF rfl rfl rfl (map_get (by omega)) ?_; intro _ _ _; refine jm (jn rfl (jP rfl rfl rfl (jI (eI rfl) ?_))); refine jF rfl rfl rfl (map_get (by omega)) ?_; intro _ _ _; refine jQ rfl rfl (jh rfl (jjd rfl rfl (by omega) (jz (jjJ rfl (jjB ?_))))); refine jjC (jJ (eB rfl) (jz (jjF ?_))); refine jB rfl rfl ⟨inferInstance, ?_⟩)
    rw [hLk (by rw [greatL, decide_eq_true h15', Bool.true_or])]; exact rfl
  (refine jjB (jjB (jjC (jI (eI rfl) (jm (jn rfl ?_))))); refine jN rfl rfl rfl (jI (eI rfl) ?_); refine jF rfl rfl rfl (map_get (by omega)) ?_; intro _ _ _; refine jm (jn rfl (jP rfl rfl rfl (jh rfl (jjZ rfl rfl (by omega) (jz ?_))))); refine jjJ rfl (jjG (jjB (jjD (jjB (jjB ?_))))); refine jjC (jm (jn rfl (jN rfl rfl rfl (jI (eI rfl) ?_)))); refine jF rfl rfl rfl (map_get (by omega)) ?_; intro _ _ _; refine jm (jn rfl (jP rfl rfl rfl (jI (eI rfl) ?_))); refine jF rfl rfl rfl (map_get (by omega)) ?_; intro _ _ _; refine jQ rfl rfl (jh rfl (jje rfl rfl (by omega) (jz (jjK rfl (jjG ?_))))); refine jjB (jjC (jJ (eI rfl) (jz (jjD ?_)))))
  refine W.keep [(1, .pointer (some ⟨b1, 0, none⟩)), (3, .int .i64 ((k : Nat) : Int)), (4, .int .i64 ((n : Nat) : Int)), (5, .int .i64 ((0 : Nat) : Int))] (D := (25 :: 26 :: 27 :: 28 :: 29 :: 30 :: 31 :: 32 :: 33 :: 36 :: 37 :: 38 :: 39 :: 40 :: 41 :: 42 :: 43 :: 44 :: 45 :: 46 :: 2 :: 5 :: 47 :: 48 :: 49 :: 50 :: 51 :: 52 :: 53 :: 54 :: 55 :: 56 :: 57 :: 58 :: 61 :: 62 :: 63 :: 64 :: 65 :: 66 :: 67 :: 68 :: 69 :: 70 :: 71 :: 72 :: 73 :: 74 :: 59 :: 60 :: 34 :: 35 :: 4 :: [])) (sO := upds s1 _) (by (((iterate 22 refine Same.upd rfl ?_); exact Same.ovN))) ⟨eP rfl, eI rfl, eI rfl, eI rfl, trivial⟩ fun s2 hs2 => ?_
  refine W.loop (47 :: 48 :: 49 :: 50 :: 51 :: 52 :: 53 :: 54 :: 55 :: 56 :: 57 :: 58 :: 61 :: 62 :: 63 :: 64 :: 65 :: 66 :: 67 :: 68 :: 69 :: 70 :: 71 :: 72 :: 73 :: 74 :: 2 :: 59 :: 60 :: 5 :: []) (fun g s' V => ∃ q : Nat, s' 5 = .int .i64 ((q : Nat) : Int) ∧ g = cs[k].2.2.2[n].2.2.length - q ∧ q ≤ cs[k].2.2.2[n].2.2.length ∧ ∀ (j : Nat) (hj : j < cs[k].2.2.2[n].2.2.length), j < q → ¬ 40 < cs[k].2.2.2[n].2.2[j].size) cs[k].2.2.2[n].2.2.length ⟨0, rfl, rfl, Nat.zero_le _, by intros; omega⟩ ?_
  rintro _ sd3 w3 hS3 ⟨q, h5, rfl, hq, hpre3⟩
  refine W.fix h5 ?_
  clear h5
  have hTk3 : TextI w3 cs := inferInstance
  have i4 := hTk3.line hkc
  have i5 := hTk3.word hkc hnl
  by_cases hql : q < cs[k].2.2.2[n].2.2.length
  · by_cases h40 : 40 < cs[k].2.2.2[n].2.2[q].size
    · (refine jjB (jjB (jjC (jI (eI rfl) (jm (jn rfl ?_))))); refine jN rfl rfl rfl (jI (eI rfl) ?_); refine jF rfl rfl rfl (map_get (by omega)) ?_; intro _ _ _; refine jm (jn rfl (jP rfl rfl rfl (jI (eI rfl) ?_))); refine jF rfl rfl rfl (map_get (by omega)) ?_; intro _ _ _; refine jQ rfl rfl (jh rfl (jjZ rfl rfl (by omega) (jz (jjJ rfl (jjG ?_))))); refine jjB (jjD (jjB (jjC (jm (jn rfl ?_))))); refine jN rfl rfl rfl (jI (eI rfl) ?_); refine jF rfl rfl rfl (map_get (by omega)) ?_; intro _ _ _; refine jm (jn rfl (jP rfl rfl rfl (jI (eI rfl) ?_))); refine jF rfl rfl rfl (map_get (by omega)) ?_; intro _ _ _; refine jQ rfl rfl (jI (eI rfl) ?_); refine jF rfl rfl rfl (map_get (by omega)) ?_; intro _ _ _; refine jQ rfl rfl (ji rfl (jjd rfl rfl (by omega) (jz (jjJ rfl (jjB ?_))))); refine jjC (jJ (eB rfl) (jz (jjF ?_))); refine jB rfl rfl ⟨inferInstance, ?_⟩)
      rw [hLk (by
        have : (cs[k].2.2.2[n].2.2).any (fun s => decide (40 < s.size)) = true := any_hit hql (decide_eq_true h40)
        rw [greatL, this, Bool.or_true])]; exact rfl
    · (refine jjB (jjB (jjC (jI (eI rfl) (jm (jn rfl ?_))))); refine jN rfl rfl rfl (jI (eI rfl) ?_); refine jF rfl rfl rfl (map_get (by omega)) ?_; intro _ _ _; refine jm (jn rfl (jP rfl rfl rfl (jI (eI rfl) ?_))); refine jF rfl rfl rfl (map_get (by omega)) ?_; intro _ _ _; refine jQ rfl rfl (jh rfl (jjZ rfl rfl (by omega) (jz (jjJ rfl (jjG ?_))))); refine jjB (jjD (jjB (jjC (jm (jn rfl ?_))))); refine jN rfl rfl rfl (jI (eI rfl) ?_); refine jF rfl rfl rfl (map_get (by omega)) ?_; intro _ _ _; refine jm (jn rfl (jP rfl rfl rfl (jI (eI rfl) ?_))); refine jF rfl rfl rfl (map_get (by omega)) ?_; intro _ _ _; refine jQ rfl rfl (jI (eI rfl) ?_); refine jF rfl rfl rfl (map_get (by omega)) ?_; intro _ _ _; refine jQ rfl rfl (ji rfl (jje rfl rfl (by omega) (jz (jjK rfl (jjG ?_))))); refine jjC (jI (eI rfl) (jY rfl rfl (by omega) (jJ (eI rfl) (jz ?_)))))
      refine ⟨rfl, by (((iterate 30 refine Same.upd rfl ?_); exact Same.ovN)), cs[k].2.2.2[n].2.2.length - (q + 1), by omega, inferInstance, q + 1, congrArg (Value.int .i64) (by omega), rfl, by omega, fun j hj hjk => ?_⟩
      by_cases e : j = q
      · subst e; exact h40
      · exact hpre3 j hj (by omega)
  · have hLf : greatL cs[k].2.2.2[n].2.2 = false := by
      have h1 : (cs[k].2.2.2[n].2.2).any (fun s => decide (40 < s.size)) = false := any_miss fun j hj => decide_eq_false (hpre3 j hj (by omega))
      rw [greatL, h1, decide_eq_false h15']; rfl
    (refine jjB (jjB (jjC (jI (eI rfl) (jm (jn rfl ?_))))); refine jN rfl rfl rfl (jI (eI rfl) ?_); refine jF rfl rfl rfl (map_get (by omega)) ?_; intro _ _ _; refine jm (jn rfl (jP rfl rfl rfl (jI (eI rfl) ?_))); refine jF rfl rfl rfl (map_get (by omega)) ?_; intro _ _ _; refine jQ rfl rfl (jh rfl (jja rfl rfl (by omega) (jz (jjK rfl (jjE ?_))))); refine jjC (jI (eI rfl) (jY rfl rfl (by omega) (jJ (eI rfl) (jz ?_)))))
    refine ⟨rfl, by (((iterate 16 refine Same.upd rfl ?_); refine Same.ovN' rfl ?_; assumption)), cs[k].2.2.2.length - (n + 1), by omega, inferInstance, n + 1, congrArg (Value.int .i64) (by omega), rfl, by omega, fun j hj hjk => ?_⟩
    by_cases e : j = n
    · subst e; exact hLf
    · exact hpre2 j hj (by omega)
end

theorem within_postilref01 (n lo hi : Int) (w : World) : Ct Tryz.prog 91 [.int .i64 n, .int .i64 lo, .int .i64 hi] w fun v _ => v = .bool (inB lo hi n) := by
  refine Ct.ofW (by simp) ?_
  repeat' (first|((first|apply jI|apply jJ|apply jK rfl|apply jL rfl); (first|exact eI rfl|exact eB rfl))|(refine jS ?_; (first|refine jT rfl rfl rfl ?_|refine jU rfl rfl rfl rfl ?_))|(refine jW ?_; (first|refine jd rfl rfl ?_|refine jf rfl rfl ?_))|refine jz ?_|(refine jjA ?_; (first|refine jjB ?_|refine jjC ?_|refine jjF ?_))|(refine jS ?_; (refine jjL rfl rfl ?_ ?_ <;> intro _))|refine jB rfl rfl ⟨inferInstance, ?_⟩)
  · exact congrArg Value.bool (by simp only [inB, decide_eq_decide]; omega)
  · exact congrArg Value.bool (by simp only [inB, Bool.false_eq, decide_eq_false_iff_not]; omega)


theorem within_postilref03 (n lo hi : Int) (w : World) : Ct Tryz.prog 22 [.int .i64 n, .int .i64 lo, .int .i64 hi] w fun v _ => v = .bool (inB lo hi n) := by
  refine Ct.ofW (by simp) ?_
  repeat' (first|((first|apply jI|apply jJ|apply jK rfl|apply jL rfl); (first|exact eI rfl|exact eB rfl))|(refine jS ?_; (first|refine jT rfl rfl rfl ?_|refine jU rfl rfl rfl rfl ?_))|(refine jW ?_; (first|refine jd rfl rfl ?_|refine jf rfl rfl ?_))|refine jz ?_|(refine jjA ?_; (first|refine jjB ?_|refine jjC ?_|refine jjF ?_))|(refine jS ?_; (refine jjL rfl rfl ?_ ?_ <;> intro _))|refine jB rfl rfl ⟨inferInstance, ?_⟩)
  · exact congrArg Value.bool (by simp only [inB, decide_eq_decide]; omega)
  · exact congrArg Value.bool (by simp only [inB, Bool.false_eq, decide_eq_false_iff_not]; omega)


theorem within_postilref05 (n lo hi : Int) (w : World) : Ct Tryz.prog 51 [.int .i64 n, .int .i64 lo, .int .i64 hi] w fun v _ => v = .bool (inB lo hi n) := by
  refine Ct.ofW (by simp) ?_
  repeat' (first|((first|apply jI|apply jJ|apply jK rfl|apply jL rfl); (first|exact eI rfl|exact eB rfl))|(refine jS ?_; (first|refine jT rfl rfl rfl ?_|refine jU rfl rfl rfl rfl ?_))|(refine jW ?_; (first|refine jd rfl rfl ?_|refine jf rfl rfl ?_))|refine jz ?_|(refine jjA ?_; (first|refine jjB ?_|refine jjC ?_|refine jjF ?_))|(refine jS ?_; (refine jjL rfl rfl ?_ ?_ <;> intro _))|refine jB rfl rfl ⟨inferInstance, ?_⟩)
  · exact congrArg Value.bool (by simp only [inB, decide_eq_decide]; omega)
  · exact congrArg Value.bool (by simp only [inB, Bool.false_eq, decide_eq_false_iff_not]; omega)


theorem word_low {s : ByteArray} (h : ∀ j (hj : j < s.size), lowB s[j] = true) : s.data.toList.all lowB = true := by
  rw [List.all_eq_true]
  intro c hc
  obtain ⟨j, hj, rfl⟩ := List.getElem_of_mem hc
  exact h j (by simpa using hj)
theorem word_bad {s : ByteArray} {j : Nat} (hj : j < s.size) (h : lowB s[j] = false) : false = wordB s := by
  have : s.data.toList.all lowB = false := by
    rw [List.all_eq_false]
    exact ⟨s[j], by simp [ByteArray.getElem_eq_getElem_data], by simp [h]⟩
  simp [wordB, this]
theorem lowB_no {c : UInt8} (h : (c.toNat : Int) < 97 ∨ 122 < (c.toNat : Int)) : lowB c = false := by simp only [lowB, decide_eq_false_iff_not]; omega
theorem lowB_yes {c : UInt8} (h1 : ¬ (c.toNat : Int) < 97) (h2 : ¬ 122 < (c.toNat : Int)) : lowB c = true := by simp only [lowB, decide_eq_true_eq]; omega

theorem Word_ref (s : ByteArray) (w : World) (hs : s.size ≤ 140737488355328) : Ct Tryz.prog 53 [.string s] w fun v _ => v = .bool (wordB s) := by
  refine Ct.ofW (by simp) ?_
  (refine jjB (jjC (jJ (eB rfl) (jz (jjB (jjB ?_))))); refine jjC (jJ (eI rfl) (jz (jjD ?_))))
  refine W.loop (4 :: 5 :: 6 :: 7 :: 10 :: 11 :: 12 :: 13 :: 14 :: 15 :: 16 :: 17 :: 18 :: 19 :: 2 :: 8 :: 9 :: 3 :: []) (fun g s' _ => ∃ k : Nat, s' 3 = .int .i64 k ∧ g = s.size - k ∧ k ≤ s.size ∧ ∀ (j : Nat) (hj : j < s.size), j < k → lowB s[j] = true) s.size ⟨0, rfl, by omega, by omega, by intros; omega⟩ ?_
  rintro _ d w' hS ⟨k, h3, rfl, hk, hpre⟩
  refine W.fix h3 ?_
  repeat' (first|((first|apply jI|apply jJ|apply jK rfl|apply jL rfl); (first|exact eI rfl|exact eB rfl|exact eT rfl))|(refine jS ?_; (first|refine jT rfl rfl rfl ?_|refine jU rfl rfl rfl rfl ?_))|(refine jW ?_; (first|refine jX rfl rfl ?_|refine jY rfl rfl (by omega) ?_|refine je rfl rfl ?_))|(refine jg (ji rfl ?_))|refine jt rfl rfl rfl (by omega) ?_|refine jz ?_|(refine jjA ?_; (first|refine jjB ?_|refine jjC ?_|refine jjD ?_|refine jjE ?_|refine jjF ?_|refine jjG ?_|refine jjJ rfl ?_))|(refine jS ?_; (refine jjL rfl rfl ?_ ?_ <;> intro _))|(refine jjA ?_; (refine jjN rfl ?_ ?_ <;> intro _))|refine jB rfl rfl ⟨inferInstance, ?_⟩)
  · exact congrArg Value.bool (word_bad (j := k) (by omega) (lowB_no (.inl ‹_›)))
  · exact congrArg Value.bool (word_bad (j := k) (by omega) (lowB_no (.inr ‹_›)))
  · refine ⟨rfl, by (((iterate 19 refine Same.upd rfl ?_); exact Same.ovN)), s.size - (k + 1), by omega, inferInstance, k + 1, rfl, rfl, by omega, fun j hj hjk => ?_⟩
    by_cases e : j = k
    · subst e; exact lowB_yes ‹_› ‹_›
    · exact hpre j hj (by omega)
  · refine jjQ (within_postilref01 _ 1 12 _) rfl rfl ?_
    rintro _ w2 hS2 rfl
    (refine jJ (eB rfl) (jz (jjF ?_)); refine jB rfl rfl ⟨inferInstance, ?_⟩)
    have := word_low (s := s) fun j hj => hpre j hj (by omega)
    exact congrArg Value.bool (by simp only [wordB, this, inB, Bool.and_true, decide_eq_decide]; omega)


section
variable (a : Option Addr) (c : Nat) (cs : List Ch) (w : World) [hrow : RowI w (.slice a cs.length c) true 2 (cs.map encCh)] [hT : TextI w cs]
set_option maxHeartbeats 4000000 in
theorem Text_ref1 (hs : SmallT cs) : Ct Tryz.prog 50 [.agg #[.slice a cs.length c]] w fun v _ => v = .bool (textB (txF cs)) := by
  have hs1 := hs.1
  refine Ct.ofW (by simp) ?_
  (refine jjB (jjC ?_))
  (refine jy rfl ?_; intro b1 w_b1 hb_b1 hs_b1 hS_b1 hk_b1; have hA_b1 := At.ofBlock hk_b1)
  (refine jJ (eB rfl) (jz (jjB (jjB (jjC (jm ?_))))); refine jn rfl (jN rfl rfl rfl (jh rfl ?_)))
  refine jjQ (within_postilref01 (cs.length : Int) 1 6 _) rfl rfl ?_
  rintro _ w2 hS2 rfl
  cases h6 : inB 1 6 (cs.length : Int)
  · (refine jq rfl (jz (jjJ rfl (jjB (jjC (jJ (eB rfl) ?_))))); refine jz (jjF ?_); refine jB rfl rfl ⟨inferInstance, ?_⟩)
    rw [textB_len h6]; exact rfl
  (refine jp rfl (jz (jjK rfl (jjG (jjB (jjB ?_))))); refine jjC (jJ (eI rfl) (jz (jjD ?_))))
  refine W.keep0 [(1, .pointer (some ⟨b1, 0, none⟩)), (3, .int .i64 ((0 : Nat) : Int))] ⟨eP rfl, eI rfl, trivial⟩ fun s0 => ?_
  refine W.loop (13 :: 14 :: 15 :: 16 :: 17 :: 20 :: 21 :: 22 :: 23 :: 24 :: 4 :: 25 :: 26 :: 27 :: 28 :: 29 :: 30 :: 31 :: 32 :: 33 :: 34 :: 35 :: 2 :: 5 :: 36 :: 37 :: 38 :: 41 :: 42 :: 43 :: 44 :: 45 :: 46 :: 47 :: 48 :: 49 :: 39 :: 40 :: 6 :: 50 :: 51 :: 52 :: 53 :: 54 :: 57 :: 58 :: 59 :: 60 :: 61 :: 62 :: 63 :: 64 :: 7 :: 65 :: 66 :: 67 :: 68 :: 69 :: 70 :: 71 :: 72 :: 75 :: 76 :: 77 :: 78 :: 79 :: 80 :: 81 :: 82 :: 83 :: 84 :: 73 :: 74 :: 55 :: 56 :: 18 :: 19 :: 3 :: []) (fun g s' V => ∃ k : Nat, s' 3 = .int .i64 ((k : Nat) : Int) ∧ g = cs.length - k ∧ k ≤ cs.length ∧ (∀ (j : Nat) (hj : j < cs.length), j < k → chapB (txC cs[j]) = true) ∧ ∀ (i j : Nat) (hij : i < j) (hj : j < cs.length), j < k → (cs[i]'(by omega)).1 ≠ cs[j].1) cs.length ⟨0, rfl, rfl, Nat.zero_le _, by intros; omega, by intros; omega⟩ ?_
  rintro _ sd w3 hS3 ⟨k, h3, rfl, hk, hpre, hid⟩
  refine W.fix h3 ?_
  clear h3
  by_cases hkc : k < cs.length
  rotate_left
  · obtain rfl : k = cs.length := by omega
    (refine jjB (jjB (jjC (jI (eI rfl) (jm (jn rfl ?_))))); refine jN rfl rfl rfl (jh rfl (jja rfl rfl (by omega) (jz (jjK rfl (jjE ?_))))); refine jjB (jjC (jJ (eB rfl) (jz (jjF ?_)))); refine jB rfl rfl ⟨inferInstance, ?_⟩)
    rw [textB_yes h6 (fun j hj => hpre j hj hj) (fun i j hij hj => hid i j hij hj hj)]; exact rfl
  have hsk := hs.2 _ (List.getElem_mem hkc)
  have hno : chapB (txC cs[k]) = false → textB (txF cs) = false := textB_chap hkc
  (refine jjB (jjB (jjC (jI (eI rfl) (jm (jn rfl ?_))))); refine jN rfl rfl rfl (jh rfl (jjZ rfl rfl (by omega) (jz (jjJ rfl (jjG ?_))))); refine jjB (jjD (jjB (jjC (jm (jn rfl ?_))))); refine jN rfl rfl rfl (jI (eI rfl) ?_); refine jF rfl rfl rfl (map_get (by omega)) ?_; intro _ _ _; refine jQ rfl rfl ?_)
  (apply jjR rfl; (intro _; first|exact eI rfl|exact eB rfl|exact eP rfl|exact eS rfl|exact eT rfl|exact eA rfl|exact eU rfl|exact eF rfl|exact eM rfl|exact eN rfl|exact rfl); exact rfl; exact rfl; exact rfl; exact rfl; intro b4 w_b4 hb_b4 hs_b4 hS_b4 hk_b4; have hA_b4 := Bk.of hk_b4)
  (refine jz (jjB (jjB (jjC (jm (jn rfl ?_))))); refine jN rfl rfl rfl ?_)
  refine jjQ (within_postilref01 cs[k].1 0 9999 _) rfl rfl ?_
  rintro _ w4 hS4 rfl
  cases hi : inB 0 9999 cs[k].1
  · (refine jq rfl (jI (eB rfl) (jU rfl rfl rfl rfl (jU rfl rfl rfl rfl (jU rfl rfl rfl rfl (jU rfl rfl rfl rfl ?_))))); refine jU rfl rfl rfl rfl (jK rfl (eB rfl) (jz (jjJ rfl (jjB (jjC ?_))))); refine jJ (eB rfl) (jz (jjF ?_)); refine jB rfl rfl ⟨inferInstance, ?_⟩)
    rw [hno (chapB_id hi)]; exact rfl
  (refine jp rfl (jI (eB rfl) (jT rfl rfl rfl (jm (jn rfl (jT rfl rfl rfl ?_))))); refine jN rfl rfl rfl (jT rfl rfl rfl (jh rfl (jT rfl rfl rfl ?_))))
  refine jjQ (within_postilref01 (cs[k].2.2.2.length : Int) 1 10 _) rfl rfl ?_
  rintro _ w5 hS5 rfl
  cases hl : inB 1 10 (cs[k].2.2.2.length : Int)
  · (refine jT rfl rfl rfl (jq rfl (jL rfl (eB rfl) (jz (jjJ rfl (jjB ?_))))); refine jjC (jJ (eB rfl) (jz (jjF ?_))); refine jB rfl rfl ⟨inferInstance, ?_⟩)
    rw [hno (chapB_len hl)]; exact rfl
  (refine jT rfl rfl rfl (jp rfl (jL rfl (eB rfl) (jz (jjK rfl (jjG ?_))))); refine jjB (jjB (jjC (jJ (eI rfl) (jz (jjD ?_))))))
  have hA1 : At w5 b1 0 [.slice a cs.length c] := inferInstance
  have hA4 : Bk w5 b4 [.int .i64 cs[k].1, .slice cs[k].2.1 cs[k].2.2.2.length cs[k].2.2.1] 118 := (hA_b4.ext hS4.ext).ext hS5.ext
  have hrow5 : RowV w5 true 2 (.slice a cs.length c) (cs.map encCh) := hrow.h.ext inferInstance
  refine W.keep [(1, .pointer (some ⟨b1, 0, none⟩)), (3, .int .i64 ((k : Nat) : Int)), (4, .pointer (some ⟨b4, 0, none⟩)), (5, .int .i64 ((0 : Nat) : Int))] (D := (13 :: 14 :: 15 :: 16 :: 17 :: 20 :: 21 :: 22 :: 23 :: 24 :: 4 :: 25 :: 26 :: 27 :: 28 :: 29 :: 30 :: 31 :: 32 :: 33 :: 34 :: 35 :: 2 :: 5 :: 36 :: 37 :: 38 :: 41 :: 42 :: 43 :: 44 :: 45 :: 46 :: 47 :: 48 :: 49 :: 39 :: 40 :: 6 :: 50 :: 51 :: 52 :: 53 :: 54 :: 57 :: 58 :: 59 :: 60 :: 61 :: 62 :: 63 :: 64 :: 7 :: 65 :: 66 :: 67 :: 68 :: 69 :: 70 :: 71 :: 72 :: 75 :: 76 :: 77 :: 78 :: 79 :: 80 :: 81 :: 82 :: 83 :: 84 :: 73 :: 74 :: 55 :: 56 :: 18 :: 19 :: 3 :: [])) (sO := upds s0 _) (by (((iterate 24 refine Same.upd rfl ?_); exact Same.ovN))) ⟨eP rfl, eI rfl, eP rfl, eI rfl, trivial⟩ fun s1 hs1' => ?_
  refine W.loop (36 :: 37 :: 38 :: 41 :: 42 :: 43 :: 44 :: 45 :: 46 :: 47 :: 48 :: 49 :: 2 :: 39 :: 40 :: 5 :: []) (fun g s' V => ∃ i : Nat, s' 5 = .int .i64 ((i : Nat) : Int) ∧ g = k - i ∧ i ≤ k ∧ ∀ (j : Nat) (hj : j < i) (hjc : j < cs.length), cs[j].1 ≠ cs[k].1) k ⟨0, rfl, rfl, Nat.zero_le _, by intros; omega⟩ ?_
  rintro _ sd2 w6 hS6 ⟨i, h5, rfl, hik, hpre2⟩
  refine W.fix h5 ?_
  clear h5
  by_cases hik' : i < k
  · have hic : i < cs.length := by omega
    have hz := (hrow5.ext hS6.ext).place' (map_get hic)
    obtain ⟨p1, o1, e1, hP⟩ := hz
    have hA1' : At w6 b1 0 [.slice (some ⟨p1, o1, none⟩) cs.length c] := by rw [← e1]; exact hA1.ext hS6.ext
    clear hA1
    have hP' : At w6 p1 (o1 + i * 2) [.int .i64 cs[i].1, .slice cs[i].2.1 cs[i].2.2.2.length cs[i].2.2.1] := hP
    clear hP
    (refine jjB (jjB (jjC (jI (eI rfl) (jI (eI rfl) (jjZ rfl rfl (by omega) ?_))))); refine jz (jjJ rfl (jjG (jjB (jjD (jjB ?_))))))
    refine W.draw (fun w' => Ext w6 w') ?_
    intro w7 hS7
    refine jjV [0, 1, 2, 3, 4, 5, 6, 7, 8] (by decide +kernel) hS7.ext ?_
    (((apply jjT; exact rfl; rintro w' hq; have := hq.toStep; refine jm (jn rfl (jz ?_)); exact ⟨rfl, rfl⟩; apply jjT; exact rfl; rintro w' hq; have := hq.toStep; refine jN rfl rfl rfl (jz ?_); exact ⟨rfl, rfl⟩; refine jjT rfl (fun _ _ => jI (eI rfl) (jz ⟨rfl, rfl⟩)) ?_; apply jjT; exact rfl; rintro w' hq; have := hq.toStep; refine jH _ rfl rfl rfl (by omega) (jz ?_); exact ⟨rfl, rfl⟩; apply jjT; exact rfl; rintro w' hq; have := hq.toStep; refine jm (jn rfl (jz ?_)); exact ⟨rfl, rfl⟩; apply jjT; exact rfl; rintro w' hq; have := hq.toStep; refine jP rfl rfl rfl (jz ?_); exact ⟨rfl, rfl⟩; apply jjT; exact rfl; rintro w' hq; have := hq.toStep; refine jm (jn rfl (jz ?_)); exact ⟨rfl, rfl⟩; apply jjT; exact rfl; rintro w' hq; have := hq.toStep; refine jN rfl rfl rfl (jz ?_); exact ⟨rfl, rfl⟩; refine jjT rfl (fun _ _ => jb rfl rfl (jz ⟨rfl, rfl⟩)) (jjU ?_))))
    refine jjX (by decide +kernel) hS7.ext ?_
    repeat' (first|((first|apply jI|apply jJ); (first|exact eI rfl|exact eB rfl))|(refine jW (jY rfl rfl (by omega) ?_))|refine jz ?_|(refine jjA ?_; (first|refine jjB ?_|refine jjC ?_|refine jjF ?_|refine jjG ?_))|(refine jjA ?_; (refine jjN rfl ?_ ?_ <;> intro _))|refine jB rfl rfl ⟨inferInstance, ?_⟩)
    · have hd : cs[i].1 = cs[k].1 := by assumption
      rw [textB_dup hik' hkc hd]; exact rfl
    · have hd : ¬ cs[i].1 = cs[k].1 := by assumption
      refine ⟨rfl, by (((iterate 16 refine Same.upd rfl ?_); exact Same.ovN)), k - (i + 1), by omega, inferInstance, i + 1, congrArg (Value.int .i64) (by omega), rfl, by omega, fun j hj hjc => ?_⟩
      by_cases e : j = i
      · subst e; exact hd
      · exact hpre2 j (by omega) hjc
  obtain rfl : i = k := by omega
  clear hik' hik
  have hidk : ∀ (j : Nat) (hj : j < i), (cs[j]'(by omega)).1 ≠ cs[i].1 := fun j hj => hpre2 j hj (by omega)
  clear hpre2
  have hA46 : Bk w6 b4 [.int .i64 cs[i].1, .slice cs[i].2.1 cs[i].2.2.2.length cs[i].2.2.1] 118 := hA4.ext hS6.ext
  have hA16 : At w6 b1 0 [.slice a cs.length c] := hA1.ext hS6.ext
  have hT6 : TextI w6 cs := hT.ext inferInstance
  clear hA1 hA4
  (refine jjB (jjB (jjC (jI (eI rfl) (jI (eI rfl) (jja rfl rfl (by omega) ?_))))); refine jz (jjK rfl (jjE (jjB (jjC (jJ (eI rfl) ?_))))); refine jz (jjD ?_))
  refine W.keep [(1, .pointer (some ⟨b1, 0, none⟩)), (3, .int .i64 ((i : Nat) : Int)), (4, .pointer (some ⟨b4, 0, none⟩)), (6, .int .i64 ((0 : Nat) : Int))] (D := (13 :: 14 :: 15 :: 16 :: 17 :: 20 :: 21 :: 22 :: 23 :: 24 :: 4 :: 25 :: 26 :: 27 :: 28 :: 29 :: 30 :: 31 :: 32 :: 33 :: 34 :: 35 :: 2 :: 5 :: 36 :: 37 :: 38 :: 41 :: 42 :: 43 :: 44 :: 45 :: 46 :: 47 :: 48 :: 49 :: 39 :: 40 :: 6 :: 50 :: 51 :: 52 :: 53 :: 54 :: 57 :: 58 :: 59 :: 60 :: 61 :: 62 :: 63 :: 64 :: 7 :: 65 :: 66 :: 67 :: 68 :: 69 :: 70 :: 71 :: 72 :: 75 :: 76 :: 77 :: 78 :: 79 :: 80 :: 81 :: 82 :: 83 :: 84 :: 73 :: 74 :: 55 :: 56 :: 18 :: 19 :: 3 :: [])) (sO := upds s0 _) (by (((iterate 5 refine Same.upd rfl ?_); refine Same.ovN' rfl ?_; assumption))) ⟨eP rfl, eI rfl, eP rfl, eI rfl, trivial⟩ fun s2 hs2 => ?_
  refine W.loop (50 :: 51 :: 52 :: 53 :: 54 :: 57 :: 58 :: 59 :: 60 :: 61 :: 62 :: 63 :: 64 :: 2 :: 7 :: 65 :: 66 :: 67 :: 68 :: 69 :: 70 :: 71 :: 72 :: 75 :: 76 :: 77 :: 78 :: 79 :: 80 :: 81 :: 82 :: 83 :: 84 :: 73 :: 74 :: 55 :: 56 :: 6 :: []) (fun g s' V => ∃ n : Nat, s' 6 = .int .i64 ((n : Nat) : Int) ∧ g = cs[i].2.2.2.length - n ∧ n ≤ cs[i].2.2.2.length ∧ ∀ (j : Nat) (hj : j < cs[i].2.2.2.length), j < n → lineB cs[i].2.2.2[j].2.2 = true) cs[i].2.2.2.length ⟨0, rfl, rfl, Nat.zero_le _, by intros; omega⟩ ?_
  rintro _ sd3 w7 hS7 ⟨n, h6', rfl, hn, hpre3⟩
  refine W.fix h6' ?_
  clear h6'
  by_cases hnl : n < cs[i].2.2.2.length
  rotate_left
  · have hne : n = cs[i].2.2.2.length := by omega
    have hyes := chapB_yes hi hl (fun j hj => hpre3 j hj (by omega))
    (refine jjB (jjB (jjC (jI (eI rfl) (jm (jn rfl ?_))))); refine jN rfl rfl rfl (jh rfl (jja rfl rfl (by omega) (jz (jjK rfl (jjE ?_))))); refine jjC (jI (eI rfl) (jY rfl rfl (by omega) (jJ (eI rfl) (jz ?_)))))
    refine ⟨rfl, by (((iterate 9 refine Same.upd rfl ?_); refine Same.ovN' rfl ?_; assumption)), cs.length - (i + 1), by omega, inferInstance, i + 1, congrArg (Value.int .i64) (by omega), rfl, by omega, fun j hj hjk => ?_, fun i' j hij hj hjk => ?_⟩
    · by_cases e : j = i
      · subst e; exact hyes
      · exact hpre j hj (by omega)
    · by_cases e : j = i
      · subst e; exact hidk i' hij
      · exact hid i' j hij hj (by omega)
  have hsn := hsk.2 _ (List.getElem_mem hnl)
  have hnoL : lineB cs[i].2.2.2[n].2.2 = false → textB (txF cs) = false := fun h => hno (chapB_line hnl h)
  have hT7 : TextI w7 cs := hT6.ext hS7.ext
  have i2 := hT7.line hkc
  have i3 := hT7.word hkc hnl
  (refine jjB (jjB (jjC (jI (eI rfl) (jm (jn rfl ?_))))); refine jN rfl rfl rfl (jh rfl (jjZ rfl rfl (by omega) (jz (jjJ rfl (jjG ?_))))); refine jjB (jjD (jjB (jjB (jjC (jm ?_))))); refine jn rfl (jN rfl rfl rfl (jI (eI rfl) ?_)); refine jF rfl rfl rfl (map_get (by omega)) ?_; intro _ _ _; refine jQ rfl rfl (jh rfl ?_))
  refine jjQ (within_postilref01 (cs[i].2.2.2[n].2.2.length : Int) 1 10 _) rfl rfl ?_
  rintro _ w8 hS8 rfl
  cases hl10 : inB 1 10 (cs[i].2.2.2[n].2.2.length : Int)
  · (refine jq rfl (jz (jjJ rfl (jjB (jjC (jJ (eB rfl) ?_))))); refine jz (jjF ?_); refine jB rfl rfl ⟨inferInstance, ?_⟩)
    rw [hnoL (lineB_len hl10)]; exact rfl
  (refine jp rfl (jz (jjK rfl (jjG (jjB (jjC ?_))))); refine jJ (eI rfl) (jz (jjD ?_)))
  refine W.keep [(1, .pointer (some ⟨b1, 0, none⟩)), (3, .int .i64 ((i : Nat) : Int)), (4, .pointer (some ⟨b4, 0, none⟩)), (6, .int .i64 ((n : Nat) : Int)), (7, .int .i64 ((0 : Nat) : Int))] (D := (50 :: 51 :: 52 :: 53 :: 54 :: 57 :: 58 :: 59 :: 60 :: 61 :: 62 :: 63 :: 64 :: 2 :: 7 :: 65 :: 66 :: 67 :: 68 :: 69 :: 70 :: 71 :: 72 :: 75 :: 76 :: 77 :: 78 :: 79 :: 80 :: 81 :: 82 :: 83 :: 84 :: 73 :: 74 :: 55 :: 56 :: 6 :: [])) (sO := upds s2 _) (by (((iterate 15 refine Same.upd rfl ?_); exact Same.ovN))) ⟨eP rfl, eI rfl, eP rfl, eI rfl, eI rfl, trivial⟩ fun s3 hs3 => ?_
  have hA48 : Bk w8 b4 [.int .i64 cs[i].1, .slice cs[i].2.1 cs[i].2.2.2.length cs[i].2.2.1] 118 := hA46.ext (hS7.ext.trans hS8.ext)
  refine W.loop (65 :: 66 :: 67 :: 68 :: 69 :: 70 :: 71 :: 72 :: 75 :: 76 :: 77 :: 78 :: 79 :: 80 :: 81 :: 82 :: 83 :: 84 :: 2 :: 73 :: 74 :: 7 :: []) (fun g s' V => ∃ q : Nat, s' 7 = .int .i64 ((q : Nat) : Int) ∧ g = cs[i].2.2.2[n].2.2.length - q ∧ q ≤ cs[i].2.2.2[n].2.2.length ∧ ∀ (j : Nat) (hj : j < cs[i].2.2.2[n].2.2.length), j < q → wordB cs[i].2.2.2[n].2.2[j] = true) cs[i].2.2.2[n].2.2.length ⟨0, rfl, rfl, Nat.zero_le _, by intros; omega⟩ ?_
  rintro _ sd4 w9 hS9 ⟨q, h7, rfl, hq, hpre4⟩
  refine W.fix h7 ?_
  clear h7
  have hT9 : TextI w9 cs := hT7.ext (hS8.ext.trans hS9.ext)
  clear i2 i3
  have i4 := hT9.line hkc
  have i5 := hT9.word hkc hnl
  by_cases hql : q < cs[i].2.2.2[n].2.2.length
  · have hsq := hsn.2 _ (List.getElem_mem hql)
    (refine jjB (jjB (jjC (jI (eI rfl) (jm (jn rfl ?_))))); refine jN rfl rfl rfl (jI (eI rfl) ?_); refine jF rfl rfl rfl (map_get (by omega)) ?_; intro _ _ _; refine jQ rfl rfl (jh rfl (jjZ rfl rfl (by omega) (jz (jjJ rfl (jjG ?_))))); refine jjB (jjD (jjB (jjC (jm (jn rfl ?_))))); refine jN rfl rfl rfl (jI (eI rfl) ?_); refine jF rfl rfl rfl (map_get (by omega)) ?_; intro _ _ _; refine jQ rfl rfl (jI (eI rfl) ?_); refine jF rfl rfl rfl (map_get (by omega)) ?_; intro _ _ _; refine jQ rfl rfl ?_)
    have hwb : ∃ b, wordB cs[i].2.2.2[n].2.2[q] = b := ⟨_, rfl⟩
    obtain ⟨b, hw⟩ := hwb
    refine jjQ ((Word_ref cs[i].2.2.2[n].2.2[q] _ (by omega)).mono fun v _ _ e => e.trans (by rw [hw])) rfl rfl ?_
    rintro _ w10 hS10 rfl
    cases b
    · (refine jq rfl (jz (jjJ rfl (jjB (jjC (jJ (eB rfl) ?_))))); refine jz (jjF ?_); refine jB rfl rfl ⟨inferInstance, ?_⟩)
      rw [hnoL (lineB_word hql hw)]; exact rfl
    · (refine jp rfl (jz (jjK rfl (jjG (jjC (jI (eI rfl) ?_))))); refine jY rfl rfl (by omega) (jJ (eI rfl) (jz ?_)))
      refine ⟨rfl, by (((iterate 22 refine Same.upd rfl ?_); exact Same.ovN)), cs[i].2.2.2[n].2.2.length - (q + 1), by omega, inferInstance, q + 1, congrArg (Value.int .i64) (by omega), rfl, by omega, fun j hj hjk => ?_⟩
      by_cases e : j = q
      · subst e; exact hw
      · exact hpre4 j hj (by omega)
  · have hyes := lineB_yes hl10 (fun j hj => hpre4 j hj (by omega))
    (refine jjB (jjB (jjC (jI (eI rfl) (jm (jn rfl ?_))))); refine jN rfl rfl rfl (jI (eI rfl) ?_); refine jF rfl rfl rfl (map_get (by omega)) ?_; intro _ _ _; refine jQ rfl rfl (jh rfl (jja rfl rfl (by omega) (jz (jjK rfl (jjE ?_))))); refine jjC (jI (eI rfl) (jY rfl rfl (by omega) (jJ (eI rfl) (jz ?_)))))
    refine ⟨rfl, by (((iterate 12 refine Same.upd rfl ?_); refine Same.ovN' rfl ?_; assumption)), cs[i].2.2.2.length - (n + 1), by omega, inferInstance, n + 1, congrArg (Value.int .i64) (by omega), rfl, by omega, fun j hj hjk => ?_⟩
    by_cases e : j = n
    · subst e; exact hyes
    · exact hpre3 j hj (by omega)
theorem Check_ref1 (hs : SmallT cs) : Ct Tryz.prog 20 [.agg #[.slice a cs.length c]] w fun v _ => v = .int .i64 (if textB (txF cs) then 0 else 10) := by
  refine Ct.ofW (by simp) ?_
  (refine jjB (jjC ?_))
  (refine jy rfl ?_; intro b1 w_b1 hb_b1 hs_b1 hS_b1 hk_b1; have hA_b1 := At.ofBlock hk_b1)
  (refine jJ (eI rfl) (jz (jjB (jjB (jjC (jO rfl rfl rfl rfl ?_))))))
  refine jjQ (Text_ref1 a c cs _ hs) rfl rfl ?_
  rintro _ w2 hS2 rfl
  cases ht : textB (txF cs)
  · (refine jq rfl (jz (jjJ rfl (jjB (jjC (jJ (eI rfl) ?_))))); refine jz (jjF ?_); refine jB rfl rfl ⟨inferInstance, ?_⟩)
    exact rfl
  · (refine jp rfl (jz (jjK rfl (jjG (jjB (jjC ?_))))); refine jJ (eI rfl) (jz (jjF ?_)); refine jB rfl rfl ⟨inferInstance, ?_⟩)
    exact rfl
end

theorem inOne_slip (lo hi n : Int) (b : Nat) (B : Bool) (w : World) (hB : inB lo hi n = B) (hR : RowV w false 1 (.slice (some ⟨b, 0, none⟩) 1 1) [.int .i64 n]) : Ct Tryz.prog 61 [.int .i64 lo, .int .i64 hi, .slice (some ⟨b, 0, none⟩) 1 1] w fun v _ => v = .bool B :=
  (in_slip lo hi _ [n] w hR).mono fun v _ _ e => e.trans (by rw [all_1, hB])
abbrev encCut (width side : Int) : Value := .agg #[.int .i64 width, .int .u8 side]
def cutB (width side : Int) : Bool := inB 12 80 width && inB 1 3 side
def askE (t : Tx) (width side : Int) : Int := if textB t then (if cutB width side then 0 else 30) else 10

theorem Check_slip (width side : Int) (hs : 0 ≤ side ∧ side ≤ 255) (w : World) : Ct Tryz.prog 27 [encCut width side] w fun v _ => v = .int .i64 (if cutB width side then 0 else 30) := by
  refine Ct.ofW (by simp) ?_
  (refine jjB (jjC ?_))
  (refine jy rfl ?_; intro b1 w_b1 hb_b1 hs_b1 hS_b1 hk_b1; have hA_b1 := At.ofBlock hk_b1)
  (refine jJ (eI rfl) (jz (jjB (jjB (jjC (jm ?_))))); refine jn rfl (jN rfl rfl rfl ?_))
  (refine jjP (v := .int _ _) rfl (by exact rfl) (by exact rfl) (by exact rfl) (by exact rfl) ?_; intro b2 w_b2 hb_b2 hs_b2 hS_b2 hk_b2; have hR_b2 := RowV.one (agg := false) (k := 1) rfl hk_b2)
  obtain ⟨B1, h1⟩ : ∃ B, inB 12 80 width = B := ⟨_, rfl⟩
  refine jjQ (inOne_slip 12 80 width b2 B1 _ h1 hR_b2) rfl rfl ?_
  rintro _ w2 hS2 rfl
  cases B1
  · (refine jq rfl (jI (eB rfl) (jU rfl rfl rfl rfl (jU rfl rfl rfl rfl (jU rfl rfl rfl rfl (jU rfl rfl rfl rfl ?_))))); refine jU rfl rfl rfl rfl (jU rfl rfl rfl rfl (jK rfl (eB rfl) (jz (jjJ rfl (jjB ?_))))); refine jjC (jJ (eI rfl) (jz (jjF ?_))); refine jB rfl rfl ⟨inferInstance, ?_⟩)
    rw [cutB, h1]; exact rfl
  (refine jp rfl (jI (eB rfl) (jT rfl rfl rfl (jm (jn rfl (jT rfl rfl rfl ?_))))); refine jN rfl rfl rfl (jT rfl rfl rfl ?_))
  refine Ops.convI rfl rfl (wrapi (by omega) (by omega)) ?_
  (refine jT rfl rfl rfl ?_)
  (refine jjP (v := .int _ _) rfl (by exact rfl) (by exact rfl) (by exact rfl) (by exact rfl) ?_; intro b3 w_b3 hb_b3 hs_b3 hS_b3 hk_b3; have hR_b3 := RowV.one (agg := false) (k := 1) rfl hk_b3)
  obtain ⟨B2, h2⟩ : ∃ B, inB 1 3 side = B := ⟨_, rfl⟩
  (refine jT rfl rfl rfl ?_)
  refine jjQ (inOne_slip 1 3 side b3 B2 _ h2 hR_b3) rfl rfl ?_
  rintro _ w3 hS3 rfl
  cases B2
  · (refine jT rfl rfl rfl (jq rfl (jL rfl (eB rfl) (jz (jjJ rfl (jjB ?_))))); refine jjC (jJ (eI rfl) (jz (jjF ?_))); refine jB rfl rfl ⟨inferInstance, ?_⟩)
    rw [cutB, h1, h2]; exact rfl
  · (refine jT rfl rfl rfl (jp rfl (jL rfl (eB rfl) (jz (jjK rfl (jjG ?_))))); refine jjB (jjC (jJ (eI rfl) (jz (jjF ?_)))); refine jB rfl rfl ⟨inferInstance, ?_⟩)
    rw [cutB, h1, h2]; exact rfl
theorem Cut_ref3 (width side : Int) (hs : 0 ≤ side ∧ side ≤ 255) (w : World) : Ct Tryz.prog 7 [encCut width side] w fun v _ => v = .bool (cutB width side) := by
  refine Ct.ofW (by simp) ?_
  (refine jjB (jjC ?_))
  (refine jy rfl ?_; intro b1 w_b1 hb_b1 hs_b1 hS_b1 hk_b1; have hA_b1 := At.ofBlock hk_b1)
  (refine jJ (eB rfl) (jz (jjB (jjC (jm (jn rfl ?_))))); refine jN rfl rfl rfl ?_)
  refine jjQ (within_postilref03 width 12 80 _) rfl rfl ?_
  rintro _ w2 hS2 rfl
  cases h1 : inB 12 80 width
  · (refine jI (eB rfl) (jU rfl rfl rfl rfl (jU rfl rfl rfl rfl (jU rfl rfl rfl rfl (jU rfl rfl rfl rfl (jL rfl (eB rfl) ?_))))); refine jJ (eB rfl) (jz (jjF ?_)); refine jB rfl rfl ⟨inferInstance, ?_⟩)
    rw [cutB, h1]; exact rfl
  (refine jI (eB rfl) (jT rfl rfl rfl (jm (jn rfl (jT rfl rfl rfl (jN rfl rfl rfl ?_))))); refine jT rfl rfl rfl ?_)
  refine Ops.convI rfl rfl (wrapi (by omega) (by omega)) ?_
  (refine jT rfl rfl rfl ?_)
  refine jjQ (within_postilref03 side 1 3 _) rfl rfl ?_
  rintro _ w3 hS3 rfl
  (refine jK rfl (eB rfl) (jJ (eB rfl) (jz (jjF ?_))); refine jB rfl rfl ⟨inferInstance, ?_⟩)
  rw [cutB, h1, Bool.true_and]; exact rfl
section
variable (a : Option Addr) (c : Nat) (cs : List Ch) (width side : Int) (w : World) [hrow : RowI w (.slice a cs.length c) true 2 (cs.map encCh)] [hT : TextI w cs]
theorem open_slip (hs : SmallT cs) (hd : 0 ≤ side ∧ side ≤ 255) : Ct Tryz.prog 23 [.agg #[.slice a cs.length c], encCut width side] w fun v _ => v = .int .i64 (askE (txF cs) width side) := by
  refine Ct.ofW (by simp) ?_
  (refine jjB (jjC ?_))
  (refine jy rfl ?_; intro b1 w_b1 hb_b1 hs_b1 hS_b1 hk_b1; have hA_b1 := At.ofBlock hk_b1)
  skip
  (refine jy rfl ?_; intro b2 w_b2 hb_b2 hs_b2 hS_b2 hk_b2; have hA_b2 := At.ofBlock hk_b2)
  (refine jJ (eI rfl) (jz (jjB (jjB (jjC (jO rfl rfl rfl rfl ?_))))))
  refine jjQ (Check_leaf a c cs _ hs) rfl rfl ?_
  rintro _ w2 hS2 rfl
  cases ht : textB (txF cs)
  · (refine jJ (eI rfl) (jz (jjB (jjC (jI (eI rfl) (jc rfl rfl ?_))))); refine jz (jjJ rfl (jjB (jjC (jI (eI rfl) (jJ (eI rfl) ?_))))); refine jz (jjF ?_); refine jB rfl rfl ⟨inferInstance, ?_⟩)
    rw [askE, ht]; exact rfl
  · (refine jJ (eI rfl) (jz (jjB (jjC (jI (eI rfl) (jc rfl rfl ?_))))); refine jz (jjK rfl (jjG (jjB (jjC (jO rfl rfl rfl rfl ?_))))))
    refine jjQ (Check_slip width side hd _) rfl rfl ?_
    rintro _ w3 hS3 rfl
    (refine jJ (eI rfl) (jz (jjF ?_)); refine jB rfl rfl ⟨inferInstance, ?_⟩)
    rw [askE, ht]; exact rfl
end
end Go.Proofs.YtgnkloloehlfnaaGreatDoor

namespace Go.Proofs.YtgnkloloehlfnaaGreatDoor
open Go.ChangeShapes Go.WideShapes Go.ChangeAt Go.RowKit Go.WideElems

theorem read_strs' {H : Type} {enc : TypeId × Value → H} {W : World} {n : Nat} {v : Value} {z : DataW H × List MemPlace} (h : DataW.trod enc Tryz.prog W 0 (fun _ => true) true n 66 [v] = some z)
    (hw : ∀ q ∈ z.1.weights Tryz.prog 66, q ≤ reachBytes) : ∃ (a : Option Addr) (c : Nat) (l : List ByteArray), v = .slice a l.length c ∧ RowV W false 1 (.slice a l.length c) (l.map strV) := by
  obtain ⟨a, c, vs, e, hR, hE⟩ := rowV_of_trod (t := 66) (k := 1) (agg := false) (by kernel_rfl) (by omega) (fun _ => rfl) (fun _ _ _ _ e => by
    obtain ⟨m, e, _, _⟩ := DataW.trod_string Tryz.underlying9 e
    cases e; rfl) (of_decide_eq_true (by kernel_rfl)) h hw
  obtain ⟨l, rfl, _⟩ := exists_map (enc := strV) (Q := fun _ => True) (vs := vs) fun y hy => by
    obtain ⟨n', z, hz, _⟩ := hE y hy
    have hfit := hR.fit y hy
    have hc : y.cells.toList = [y] := by cases y <;> simp [fitsV] at hfit <;> rfl
    rw [hc] at hz
    obtain ⟨m, e, _, _⟩ := DataW.trod_string Tryz.underlying9 hz
    cases e
    exact ⟨m, rfl, trivial⟩
  rw [e] at hR
  rw [List.length_map] at hR e
  exact ⟨a, c, l, e, hR⟩
theorem read_lines' {H : Type} {enc : TypeId × Value → H} {W : World} {n : Nat} {v : Value} {z : DataW H × List MemPlace} (h : DataW.trod enc Tryz.prog W 0 (fun _ => true) true n 63 [v] = some z)
    (hw : ∀ q ∈ z.1.weights Tryz.prog 63, q ≤ reachBytes) : ∃ (a : Option Addr) (c : Nat) (l : List Ln), v = .slice a l.length c ∧ RowV W false 1 (.slice a l.length c) (l.map encLn) ∧ ∀ y ∈ l, RowV W false 1 (encLn y) (y.2.2.map strV) := by
  obtain ⟨a, c, vs, e, hR, hE⟩ := rowV_of_trod (t := 63) (k := 1) (agg := false) (by kernel_rfl) (by omega) (fun _ => rfl) (fun _ _ _ _ e => by
    rcases Deep.open_slice Tryz.underlying66 e with ⟨hcs, _⟩ | ⟨a, len, cap, m, n', D, Pl, hcs, _⟩ <;> cases hcs <;> rfl) (of_decide_eq_true (by kernel_rfl)) h hw
  obtain ⟨l, rfl, hq⟩ := exists_map (enc := encLn) (Q := fun x => RowV W false 1 (encLn x) (x.2.2.map strV)) (vs := vs) fun y hy => by
    obtain ⟨n', z, hz, hzw⟩ := hE y hy
    have hfit := hR.fit y hy
    have hc : y.cells.toList = [y] := by cases y <;> simp [fitsV] at hfit <;> rfl
    rw [hc] at hz
    obtain ⟨a', c', l', rfl, hR'⟩ := read_strs' hz hzw
    exact ⟨(a', c', l'), rfl, hR'⟩
  rw [e] at hR
  rw [List.length_map] at hR e
  exact ⟨a, c, l, e, hR, hq⟩
set_option maxRecDepth 100000 in
theorem read_cut {H : Type} {enc : TypeId × Value → H} {W : World} {base : Nat} {v : Value} {d : DataW H} {p : List MemPlace} (hv : Value.okWide Tryz.prog W .any base 31 v) (h : DataW.Trod enc Tryz.prog W 0 (fun _ => true) true 31 v d p) :
    ∃ wd side : Int, v = encCut wd side ∧ (0 ≤ side ∧ side ≤ 255) := by
  obtain ⟨v0, v1, y0, y1, n, rfl, rfl, _, h0, h1⟩ := Joins.open_agg2 Tryz.underlying31 (by kernel_rfl) (by kernel_rfl) hv h
  obtain ⟨wd, e0, _, _⟩ := DataW.trod_int Tryz.underlying3 h0
  obtain ⟨side, e1, _, hr⟩ := DataW.trod_int Tryz.underlying5 h1
  cases e0; cases e1
  refine ⟨wd, side, rfl, ?_⟩
  simp only [Lit.wf, Bool.and_eq_true, decide_eq_true_eq] at hr
  have m1 : IntKind.u8.min = 0 := by decide
  have m2 : IntKind.u8.max = 255 := by decide
  rw [m1, m2] at hr
  exact hr
theorem nilf_of_trod {H : Type} {tok : TypeId × Value → H} {P : Program} {w : World} {base : Nat} {sp : Nat → Bool} {fuel : Nat} {t : TypeId} {ps rs : Array TypeId} {va : Bool} {v : Value} {q : List MemPlace}
    (ht : P.underlying t = some (.func ps rs va)) (h : DataW.trod tok P w base sp true fuel t [v] = some (.nil, q)) : v = .nilFunc := by
  cases fuel with
  | zero => simp [DataW.trod] at h
  | succ n => cases v <;> simp [DataW.trod, ht] at h <;> rfl

abbrev sidesC' : List Value := [.nilFunc, .func (.func 200) #[] ([] : List Value).toArray, .func (.func 201) #[] ([] : List Value).toArray, .func (.func 202) #[] ([] : List Value).toArray]
theorem g_sides : Tryz.prog.globalNamed "postil/slip.sides" = some 1 := by kernel_rfl
theorem t_sides : (Tryz.prog.globals[1]?).map (·.type) = some 177 := by kernel_rfl
theorem sides_laid {W : World} {laid : List (String × DataW Unit)} (h : laidMetH Tryz.prog laid W) (hx : ("postil/slip.sides", Rows.laid_postil_slip_sides) ∈ laid) : At W 1 0 sidesC' := by
  obtain ⟨g, t, cs, fuel, p, hg, ht, hv, hd⟩ := laidMetH.funcs (d := .agg [.agg [.nil], .agg [.iface "func" (.lit (.string [112, 111, 115, 116, 105, 108, 47, 115, 108, 105, 112, 46, 115, 105, 100, 101, 115, 36, 49]))], .agg [.iface "func" (.lit (.string [112, 111, 115, 116, 105, 108, 47, 115, 108, 105, 112, 46, 115, 105, 100, 101, 115, 36, 50]))], .agg [.iface "func" (.lit (.string [112, 111, 115, 116, 105, 108, 47, 115, 108, 105, 112, 46, 115, 105, 100, 101, 115, 36, 51]))]]) h hx
  obtain rfl := Option.some.inj (g_sides.symm.trans hg)
  obtain rfl := Option.some.inj (t_sides.symm.trans ht)
  have hd' : DataW.trod (funcToken Tryz.prog) Tryz.prog W 0 (fun _ => true) true fuel 177 cs.toList = some (.agg [.agg [.nil], .agg [.held [112, 111, 115, 116, 105, 108, 47, 115, 108, 105, 112, 46, 115, 105, 100, 101, 115, 36, 49]], .agg [.held [112, 111, 115, 116, 105, 108, 47, 115, 108, 105, 112, 46, 115, 105, 100, 101, 115, 36, 50]], .agg [.held [112, 111, 115, 116, 105, 108, 47, 115, 108, 105, 112, 46, 115, 105, 100, 101, 115, 36, 51]]], p) := hd
  obtain ⟨xs, m, _, hxs, hl, hn, hel⟩ := DataW.trod_array Tryz.underlying177 hd'
  have kT : Tryz.prog.cellsOf 177 = 4 := by kernel_rfl
  have kE : Tryz.prog.cellsOf 176 = 1 := by kernel_rfl
  have kF : Tryz.prog.cellsOf 175 = 1 := by kernel_rfl
  obtain ⟨c0, c1, c2, c3, rfl⟩ := Joins.array4 (cs := cs) (by simpa [kT] using hl)
  simp only [Prod.mk.injEq, DataW.agg.injEq] at hxs
  have key : ∀ (i : Nat) (c : Value) (b : DataW (List UInt8)), i < 4 → (([c0, c1, c2, c3].drop (i * 1)).take 1) = [c] → (xs.map (·.1))[i]? = some (.agg [b]) → ∃ n q, DataW.trod (funcToken Tryz.prog) Tryz.prog W 0 (fun _ => true) true n 175 [c] = some (b, q) := fun i c b hi hc hb => by
    have h0 := hel i hi
    rw [kE, hc] at h0
    rw [List.getElem?_map] at hb
    obtain ⟨x, hx1, hx2⟩ := Option.map_eq_some_iff.1 hb
    rw [hx1] at h0
    obtain ⟨y0, n, e, _, h1⟩ := trod_struct1 Tryz.underlying176 h0
    rw [e] at hx2
    simp only [DataW.agg.injEq, List.cons.injEq, and_true] at hx2
    obtain ⟨y1, y2⟩ := y0
    simp only at hx2
    subst hx2
    exact ⟨n, y2, by simpa [kF] using h1⟩
  obtain ⟨n0, q0, k0⟩ := key 0 c0 .nil (by omega) rfl (by rw [← hxs.1]; rfl)
  obtain ⟨n1, q1, k1⟩ := key 1 c1 (.held [112, 111, 115, 116, 105, 108, 47, 115, 108, 105, 112, 46, 115, 105, 100, 101, 115, 36, 49]) (by omega) rfl (by rw [← hxs.1]; rfl)
  obtain ⟨n2, q2, k2⟩ := key 2 c2 (.held [112, 111, 115, 116, 105, 108, 47, 115, 108, 105, 112, 46, 115, 105, 100, 101, 115, 36, 50]) (by omega) rfl (by rw [← hxs.1]; rfl)
  obtain ⟨n3, q3, k3⟩ := key 3 c3 (.held [112, 111, 115, 116, 105, 108, 47, 115, 108, 105, 112, 46, 115, 105, 100, 101, 115, 36, 51]) (by omega) rfl (by rw [← hxs.1]; rfl)
  obtain rfl := nilf_of_trod Tryz.underlying175 k0
  obtain rfl := func_of_trod (f0 := 200) Tryz.underlying175 (by kernel_rfl) k1
  obtain rfl := func_of_trod (f0 := 201) Tryz.underlying175 (by kernel_rfl) k2
  obtain rfl := func_of_trod (f0 := 202) Tryz.underlying175 (by kernel_rfl) k3
  exact ⟨fun i v hv' => by have := World.var?_cell hg hv i; rw [Nat.zero_add, this]; simpa using hv'⟩
end Go.Proofs.YtgnkloloehlfnaaGreatDoor
namespace Go.Proofs.YtgnkloloehlfnaaGreatDoor
open Go.RowKit

def spl : List UInt8 → List (List UInt8)
  | [] => [[]]
  | c :: l => if c = 32 then [] :: spl l else match spl l with
    | [] => [[c]]
    | x :: r => (c :: x) :: r
theorem spl_ne (l : List UInt8) : spl l ≠ [] := by
  cases l with
  | nil => simp [spl]
  | cons c l =>
    rw [spl]
    split
    · simp
    · split <;> simp
theorem index_sp_hit (l : List UInt8) : Lib.index (32 :: l) [32] = 0 := by simp [Lib.index]
theorem index_sp_cons {c : UInt8} (hc : c ≠ 32) (l : List UInt8) : Lib.index (c :: l) [32] = if Lib.index l [32] = -1 then -1 else Lib.index l [32] + 1 := by
  have : ¬ (32 = c) := fun e => hc e.symm
  simp [Lib.index, this]
theorem split_spl : ∀ l : List UInt8, Lib.split l [32] = spl l := by
  intro l
  induction l with
  | nil => rfl
  | cons c l ih =>
    by_cases hc : c = 32
    · subst hc
      rw [spl, if_pos rfl, ← ih, Lib.split, Lib.split, Lib.count_cons_eq, Nat.add_comm, Lib.splitK, index_sp_hit]
      simp
    · have hcnt := Lib.count_cons_ne c 32 l hc
      have hix := index_sp_cons hc l
      rw [spl, if_neg hc, ← ih, Lib.split, Lib.split, hcnt]
      rcases Lib.index_spec l [32] with ⟨h1, _⟩ | ⟨i, h1, hi, _⟩
      · rw [Lib.count_miss h1]; rfl
      · rw [Lib.count_hit (by simp) h1, Nat.add_comm, Lib.splitK, Lib.splitK]
        have hix2 : Lib.index (c :: l) [32] = (i : Int) + 1 := by rw [hix, h1, if_neg (by omega)]
        rw [hix2, h1]
        have e1 : ((i : Int) + 1 == -1) = false := by rw [beq_eq_false_iff_ne]; omega
        have e2 : ((i : Int) == -1) = false := by rw [beq_eq_false_iff_ne]; omega
        have e3 : ((i : Int) + 1).toNat = i + 1 := by omega
        rw [e1, e2, e3]
        simp
abbrev bytesL (l : List UInt8) : ByteArray := ⟨l.toArray⟩
def splB (s : ByteArray) : List ByteArray := (spl s.data.toList).map bytesL
theorem bytesL_data (s : ByteArray) : bytesL s.data.toList = s := by
  apply ByteArray.ext; simp
theorem splitB_spl (s : ByteArray) : Lib.splitB ⟨#[32]⟩ 0 (Lib.countB s ⟨#[32]⟩) s = splB s := by
  have h := Lib.splitB_data ⟨#[32]⟩ 0 (Lib.countB s ⟨#[32]⟩) s
  have h2 : Lib.splitK [32] 0 (Lib.countB s ⟨#[32]⟩) s.data.toList = spl s.data.toList := split_spl s.data.toList
  rw [show (⟨#[32]⟩ : ByteArray).data.toList = [32] from rfl, h2] at h
  rw [splB, ← h, List.map_map]
  symm
  have : (bytesL ∘ fun x : ByteArray => x.data.toList) = id := by funext x; exact bytesL_data x
  rw [this, List.map_id]
theorem splB_len (s : ByteArray) : (splB s).length = Lib.countB s ⟨#[32]⟩ + 1 := by
  rw [← splitB_spl]; exact Lib.splitB_all _ (by decide) 0 _ s rfl
theorem spl_bound (l : List UInt8) : (spl l).length ≤ l.length + 1 ∧ ∀ x ∈ spl l, x.length ≤ l.length := by
  induction l with
  | nil => simp [spl]
  | cons c l ih =>
    obtain ⟨h1, h2⟩ := ih
    rw [spl]
    split
    · refine ⟨by simp; omega, fun x hx => ?_⟩
      rcases List.mem_cons.1 hx with rfl | hx
      · simp
      · have := h2 x hx; simp; omega
    · obtain ⟨y, r, hy⟩ : ∃ x r, spl l = x :: r := List.exists_cons_of_ne_nil (spl_ne l)
      rw [hy] at h1 h2 ⊢
      refine ⟨by simp at h1 ⊢; omega, fun x hx => ?_⟩
      rcases List.mem_cons.1 hx with rfl | hx
      · have := h2 y (by simp); simp; omega
      · have := h2 x (by simp [hx]); simp; omega
theorem splB_bound (s : ByteArray) : (splB s).length ≤ s.size + 1 ∧ ∀ x ∈ splB s, x.size ≤ s.size := by
  have h := spl_bound s.data.toList
  have e : s.data.toList.length = s.size := by rw [Array.length_toList]; rfl
  rw [e] at h
  refine ⟨by rw [splB, List.length_map]; exact h.1, fun x hx => ?_⟩
  obtain ⟨y, hy, rfl⟩ := List.mem_map.1 hx
  have h2 := h.2 y hy
  have e2 : (bytesL y).size = y.length := by show y.toArray.size = _; exact List.size_toArray
  omega
theorem str_nil {s : ByteArray} : s = ⟨#[]⟩ ↔ s.size = 0 := ⟨fun h => by subst h; rfl, fun h => ByteArray.ext (Array.eq_empty_of_size_eq_zero h)⟩

def wordsB (s : ByteArray) : Bool := decide (s.size = 0) || (decide (s.size ≤ 80) && (splB s).all wordB)
def wordsL (s : ByteArray) : List ByteArray := if s.size = 0 then [] else splB s
end Go.Proofs.YtgnkloloehlfnaaGreatDoor

namespace Go.Proofs.YtgnkloloehlfnaaGreatDoor
open Go.Shelf Go.RowKit
def sh_lays156_ren : Go.Shelf.Ren := ⟨fun | 156 => 99 | 165 => 135 | 166 => 136 | 169 => 137 | 240 => 152 | 241 => 153 | 276 => 157 | 277 => 158 | n => n, fun | 31 => 66 | 9 => 9 | 3 => 3 | 4 => 4 | 0 => 0 | 20 => 20 | 72 => 209 | 76 => 213 | 70 => 207 | 37 => 204 | 75 => 212 | 127 => 229 | 164 => 233 | 5 => 5 | 80 => 215 | n => n, fun | n => n⟩

theorem sh_lays156 : Go.Proofs.Lays.n156 Tryz.prog sh_lays156_ren := {
  mixed := by kernel_rfl
  f156 := Tryz.func99.trans (congrArg some (by kernel_rfl))
  f165 := Tryz.func135.trans (congrArg some (by kernel_rfl))
  f166 := Tryz.func136.trans (congrArg some (by kernel_rfl))
  f169 := Tryz.func137.trans (congrArg some (by kernel_rfl))
  f240 := Tryz.func152.trans (congrArg some (by kernel_rfl))
  f241 := Tryz.func153.trans (congrArg some (by kernel_rfl))
  f276 := Tryz.func157.trans (congrArg some (by kernel_rfl))
  f277 := Tryz.func158.trans (congrArg some (by kernel_rfl))
  t0 := Tryz.underlying0
  a0 := Tryz.isAgg0
  z0 := Tryz.sizeOf0
  v0 := Tryz.zeroValue0
  t3 := Tryz.underlying3
  a3 := Tryz.isAgg3
  z3 := Tryz.sizeOf3
  v3 := Tryz.zeroValue3
  t4 := Tryz.underlying4
  a4 := Tryz.isAgg4
  z4 := Tryz.sizeOf4
  v4 := Tryz.zeroValue4
  t9 := Tryz.underlying9
  a9 := Tryz.isAgg9
  z9 := Tryz.sizeOf9
  v9 := Tryz.zeroValue9
  t20 := Tryz.underlying20
  a20 := Tryz.isAgg20
  z20 := Tryz.sizeOf20
  v20 := Tryz.zeroValue20
  t31 := Tryz.underlying66
  a31 := Tryz.isAgg66
  z31 := Tryz.sizeOf66
  v31 := Tryz.zeroValue66
  t37 := Tryz.underlying204
  a37 := Tryz.isAgg204
  z37 := Tryz.sizeOf204
  v37 := Tryz.zeroValue204
  t70 := Tryz.underlying207
  a70 := Tryz.isAgg207
  z70 := Tryz.sizeOf207
  v70 := Tryz.zeroValue207
  t72 := Tryz.underlying209
  a72 := Tryz.isAgg209
  z72 := Tryz.sizeOf209
  v72 := Tryz.zeroValue209
  t75 := Tryz.underlying212
  a75 := Tryz.isAgg212
  z75 := Tryz.sizeOf212
  v75 := Tryz.zeroValue212
  t76 := Tryz.underlying213
  a76 := Tryz.isAgg213
  z76 := Tryz.sizeOf213
  v76 := Tryz.zeroValue213
  t127 := Tryz.underlying229
  a127 := Tryz.isAgg229
  z127 := Tryz.sizeOf229
  v127 := Tryz.zeroValue229
  t164 := Tryz.underlying233
  a164 := Tryz.isAgg233
  z164 := Tryz.sizeOf233
  v164 := Tryz.zeroValue233 }

theorem sh_Builder_Extra_156 : Builder.Extra Tryz.prog sh_lays156_ren := {
  sizeBuilder := by kernel_rfl
  liesBuilder := by kernel_rfl
  t5 := Tryz.underlying5
  a5 := Tryz.isAgg5
  z5 := Tryz.sizeOf5
  v5 := Tryz.zeroValue5
  infoByte := by kernel_rfl
  cellsByte := by kernel_rfl
  sizeByte := by kernel_rfl
  neB5 := by decide }

theorem sh_strings_Join_none (a : Option Addr) (c : Nat) (sep : ByteArray) (w : World) :
    Calls Tryz.prog 99 #[.slice a 0 c, .string sep] w fun e w' => e = .returned (.string ⟨#[]⟩) ∧ w' = w := Any.strings_Join_none sh_lays156 sh_Builder_Extra_156 a c sep w

theorem sh_strings_Join (bk o c : Nat) (xs : List ByteArray) (sep : ByteArray) (w : World) (hcells : ∀ (j : Nat) x, xs[j]? = some x → w.cell? ⟨bk, o + j, none⟩ = some (.string x)) (hbk : bk < w.heap.size) (hN : xs.length ≤ 140737488355328) (hcap : xs.length ≤ c) (hlen : (Lib.join (xs.map (·.data.toList)) sep.data.toList).length ≤ 140737488355328) :
    Calls Tryz.prog 99 #[.slice (some ⟨bk, o, none⟩) xs.length c, .string sep] w fun e w' => e = .returned (.string ⟨(Lib.join (xs.map (·.data.toList)) sep.data.toList).toArray⟩) ∧ Below w.heap.size w w' := Any.strings_Join sh_lays156 sh_Builder_Extra_156 bk o c xs sep w hcells hbk hN hcap hlen

def joinB (ws : List ByteArray) : ByteArray := ⟨(Lib.join (ws.map (·.data.toList)) [32]).toArray⟩
theorem joinB_size (ws : List ByteArray) {m : Nat} (h : ∀ s ∈ ws, s.size ≤ m) : (joinB ws).size ≤ ws.length * (m + 1) := by
  have hl : ∀ l : List ByteArray, (∀ s ∈ l, s.size ≤ m) → Lib.lens (l.map (·.data.toList)) ≤ l.length * m := fun l => by
    induction l with
    | nil => intro _; simp [Lib.lens]
    | cons x l ih =>
      intro h
      have h1 := ih fun s hs => h s (List.mem_cons_of_mem _ hs)
      have h2 := h x (by simp)
      have e : x.data.toList.length = x.size := by rw [Array.length_toList]; rfl
      simp only [Lib.lens, List.map_cons, List.sum_cons, List.length_cons] at h1 ⊢
      rw [Nat.add_mul, e]
      omega
  cases ws with
  | nil => exact Nat.zero_le _
  | cons x r =>
    have e : (joinB (x :: r)).size = (Lib.join ((x :: r).map (·.data.toList)) [32]).length := by simp [joinB, ByteArray.size]
    have h1 := hl (x :: r) h
    rw [e, List.map_cons, Lib.join_length]
    rw [List.map_cons] at h1
    simp only [List.length_cons, List.length_nil, List.length_map] at h1 ⊢
    rw [Nat.mul_add]
    omega
theorem Join_str (a : Option Addr) (c n : Nat) (ws : List ByteArray) (w : World) (hn : ws.length = n) (hrow : RowV w false 1 (.slice a n c) (ws.map strV)) (hl : (joinB ws).size ≤ 140737488355328) : Ct Tryz.prog 99 [.slice a n c, .string ⟨#[32]⟩] w fun v _ => v = .string (joinB ws) := by
  subst hn
  unfold Ct
  have hlen := hrow.len
  rw [List.length_map] at hlen
  rcases hrow.at_ with ⟨h0, _⟩ | ⟨b, o, c', hv, hc, hA⟩
  · obtain rfl : ws = [] := by simpa using h0
    exact (sh_strings_Join_none a c ⟨#[32]⟩ w).mono fun e w' ⟨h1, h2⟩ => ⟨_, h1, by subst h2; exact Ext.refl _, rfl⟩
  · simp only [Value.slice.injEq] at hv
    obtain ⟨rfl, _, rfl⟩ := hv
    rw [List.length_map] at hc
    cases ws with
    | nil => exact (sh_strings_Join_none _ c ⟨#[32]⟩ w).mono fun e w' ⟨h1, h2⟩ => ⟨_, h1, by subst h2; exact Ext.refl _, rfl⟩
    | cons x r =>
      have hcell : ∀ (j : Nat) y, (x :: r)[j]? = some y → w.cell? ⟨b, o + j, none⟩ = some (.string y) := fun j y hy => by
        have := (hA j (strV y) (by rw [List.getElem?_map, hy]; rfl)).h 0 (strV y) rfl
        simpa using this
      have e : (joinB (x :: r)).size = (Lib.join ((x :: r).map (·.data.toList)) [32]).length := by simp [joinB, ByteArray.size]
      refine (sh_strings_Join b o c (x :: r) ⟨#[32]⟩ w hcell (lt_of_cell (hcell 0 x rfl)) hlen hc ?_).mono fun e w' ⟨h1, h2⟩ => ⟨_, h1, ⟨h2⟩, rfl⟩
      rw [← e]; exact hl
end Go.Proofs.YtgnkloloehlfnaaGreatDoor
namespace Go.Proofs.YtgnkloloehlfnaaGreatDoor
open Go.RowKit

theorem OwnL.cells {w : World} {B e n c g : Nat} {l : List Value} (h : OwnL w B e false 1 (.slice (some ⟨g, 0, none⟩) n c) l) : ∃ cs, Bk w g cs e ∧ cs.length = c ∧ n ≤ c ∧ c ≤ maxLen ∧ l.length = n ∧ cs.take n = l ∧ B ≤ g := by
  have hf : ∀ xs : List Value, (∀ x ∈ xs, fitsV false 1 x = true) → xs.flatMap (·.cells.toList) = xs := by
    intro xs
    induction xs with
    | nil => intro _; rfl
    | cons y xs ih =>
      intro hx
      have hy := hx y List.mem_cons_self
      have hc : y.cells.toList = [y] := by cases y <;> simp [fitsV] at hy <;> rfl
      rw [List.flatMap_cons, hc, ih fun z hz => hx z (List.mem_cons_of_mem _ hz)]; rfl
  have e1 := hf l h.fit
  rcases h.own.2 with ⟨e0, _⟩ | ⟨g', cap, cur, e0, hB, hg, hn, hm, hs, ht⟩
  · simp at e0
  · simp only [Value.slice.injEq, Option.some.injEq, Addr.mk.injEq] at e0
    obtain ⟨⟨rfl, _⟩, rfl, rfl⟩ := e0
    rw [e1, Nat.mul_one] at ht
    exact ⟨cur.toList, ⟨by simpa using hg⟩, by simpa using hs, hn, hm, rfl, ht, hB⟩
theorem OwnL.ofCells {w : World} {B e n c g : Nat} {l cs : List Value} (hB : Bk w g cs e) (hc : cs.length = c) (hn : n ≤ c) (hm : c ≤ maxLen) (ht : cs.take n = l) (hn' : n ≤ 140737488355328) (hg : B ≤ g) (hf : ∀ x ∈ l, fitsV false 1 x = true) : OwnL w B e false 1 (.slice (some ⟨g, 0, none⟩) n c) l := by
  have hl : l.length = n := by rw [← ht, List.length_take]; omega
  have hfl : ∀ xs : List Value, (∀ x ∈ xs, fitsV false 1 x = true) → xs.flatMap (·.cells.toList) = xs := by
    intro xs
    induction xs with
    | nil => intro _; rfl
    | cons y xs ih =>
      intro hx
      have hy := hx y List.mem_cons_self
      have hc : y.cells.toList = [y] := by cases y <;> simp [fitsV] at hy <;> rfl
      rw [List.flatMap_cons, hc, ih fun z hz => hx z (List.mem_cons_of_mem _ hz)]; rfl
  refine ⟨⟨by rw [hfl l hf, hl, Nat.mul_one], .inr ⟨g, c, cs.toArray, by rw [hl], hg, hB.h, by omega, hm, by simp [hc], ?_⟩⟩, hf, by rw [hl]; exact hn'⟩
  rw [hfl l hf, hl, Nat.mul_one]; exact ht
end Go.Proofs.YtgnkloloehlfnaaGreatDoor

namespace Go.Proofs.YtgnkloloehlfnaaGreatDoor
open Go.Shelf Go.RowKit
def sh_lays146_ren : Go.Shelf.Ren := ⟨fun | 146 => 143 | 221 => 155 | 268 => 160 | 138 => 161 | 143 => 162 | 195 => 163 | 197 => 164 | 218 => 165 | 219 => 166 | 260 => 167 | 217 => 168 | 225 => 169 | 224 => 170 | 267 => 171 | 266 => 172 | 314 => 173 | n => n, fun | 9 => 9 | 31 => 66 | 3 => 3 | 4 => 4 | 0 => 0 | 105 => 238 | 21 => 21 | 5 => 5 | 46 => 160 | 119 => 241 | 139 => 244 | 138 => 243 | 146 => 245 | 51 => 96 | n => n, fun | 1 => 2 | 3 => 3 | 4 => 4 | n => n⟩

theorem sh_lays146 : Go.Proofs.Lays.n146 Tryz.prog sh_lays146_ren := {
  mixed := by kernel_rfl
  f138 := Tryz.func161.trans (congrArg some (by kernel_rfl))
  f143 := Tryz.func162.trans (congrArg some (by kernel_rfl))
  f146 := Tryz.func143.trans (congrArg some (by kernel_rfl))
  f195 := Tryz.func163.trans (congrArg some (by kernel_rfl))
  f197 := Tryz.func164.trans (congrArg some (by kernel_rfl))
  f217 := Tryz.func168.trans (congrArg some (by kernel_rfl))
  f218 := Tryz.func165.trans (congrArg some (by kernel_rfl))
  f219 := Tryz.func166.trans (congrArg some (by kernel_rfl))
  f221 := Tryz.func155.trans (congrArg some (by kernel_rfl))
  f224 := Tryz.func170.trans (congrArg some (by kernel_rfl))
  f225 := Tryz.func169.trans (congrArg some (by kernel_rfl))
  f260 := Tryz.func167.trans (congrArg some (by kernel_rfl))
  f266 := Tryz.func172.trans (congrArg some (by kernel_rfl))
  f267 := Tryz.func171.trans (congrArg some (by kernel_rfl))
  f268 := Tryz.func160.trans (congrArg some (by kernel_rfl))
  f314 := Tryz.func173.trans (congrArg some (by kernel_rfl))
  t0 := Tryz.underlying0
  a0 := Tryz.isAgg0
  z0 := Tryz.sizeOf0
  v0 := Tryz.zeroValue0
  t3 := Tryz.underlying3
  a3 := Tryz.isAgg3
  z3 := Tryz.sizeOf3
  v3 := Tryz.zeroValue3
  t4 := Tryz.underlying4
  a4 := Tryz.isAgg4
  z4 := Tryz.sizeOf4
  v4 := Tryz.zeroValue4
  t5 := Tryz.underlying5
  a5 := Tryz.isAgg5
  z5 := Tryz.sizeOf5
  v5 := Tryz.zeroValue5
  t9 := Tryz.underlying9
  a9 := Tryz.isAgg9
  z9 := Tryz.sizeOf9
  v9 := Tryz.zeroValue9
  t21 := Tryz.underlying21
  a21 := Tryz.isAgg21
  z21 := Tryz.sizeOf21
  v21 := Tryz.zeroValue21
  t31 := Tryz.underlying66
  a31 := Tryz.isAgg66
  z31 := Tryz.sizeOf66
  v31 := Tryz.zeroValue66
  t46 := Tryz.underlying160
  a46 := Tryz.isAgg160
  z46 := Tryz.sizeOf160
  v46 := Tryz.zeroValue160
  t51 := Tryz.underlying96
  a51 := Tryz.isAgg96
  z51 := Tryz.sizeOf96
  v51 := Tryz.zeroValue96
  t105 := Tryz.underlying238
  a105 := Tryz.isAgg238
  z105 := Tryz.sizeOf238
  v105 := Tryz.zeroValue238
  t119 := Tryz.underlying241
  a119 := Tryz.isAgg241
  z119 := Tryz.sizeOf241
  t138 := Tryz.underlying243
  a138 := Tryz.isAgg243
  z138 := Tryz.sizeOf243
  v138 := Tryz.zeroValue243
  t139 := Tryz.underlying244
  a139 := Tryz.isAgg244
  z139 := Tryz.sizeOf244
  v139 := Tryz.zeroValue244
  t146 := Tryz.underlying245
  a146 := Tryz.isAgg245
  z146 := Tryz.sizeOf245
  v146 := Tryz.zeroValue245
  g1 := by kernel_rfl
  g3 := by kernel_rfl
  g4 := by kernel_rfl }

theorem sh_strings_Split (s sep : ByteArray) (m : Int) (w : World) (hs : s.size < 4294967281) (hm : w.cell? ⟨2, 0, none⟩ = some (.int .i64 m)) (h1 : 1 ≤ sep.size) :
    Calls Tryz.prog 143 #[.string s, .string sep] w fun e w' =>
      e = .returned (.slice (some ⟨w.heap.size, 0, none⟩) (Lib.countB s sep + 1) (Lib.countB s sep + 1)) ∧ w' = w.alloc (.cells ((Lib.splitB sep 0 (Lib.countB s sep) s).map Value.string).toArray 9) := Any.strings_Split sh_lays146 (by kernel_rfl) s sep m w hs hm h1

class MxI (w : World) : Prop where
  h : ∃ m, At w 2 0 [.int .i64 m]
theorem MxI.ext {w w' : World} (h : MxI w) (e : Ext w w') : MxI w' := by
  obtain ⟨m, hm⟩ := h.h
  exact ⟨m, hm.ext e⟩
instance MxI.step {w w' : World} [hs : Step w w'] [h : MxI w] : MxI w' := h.ext ⟨hs.b⟩
theorem Split_str (s : ByteArray) (w : World) (hs : s.size ≤ 1000000) [hx : MxI w] : Ct Tryz.prog 143 [.string s, .string ⟨#[32]⟩] w fun v w' => ∃ sv, v = sv ∧ OwnL w' w.heap.size 9 false 1 sv ((splB s).map strV) := by
  unfold Ct
  obtain ⟨m, hm⟩ := hx.h
  have hc : w.cell? ⟨2, 0, none⟩ = some (.int .i64 m) := by
    have := hm.h 0 _ rfl
    simpa using this
  refine (sh_strings_Split s ⟨#[32]⟩ m w (by omega) hc (by decide)).mono fun e w' hp => ?_
  obtain ⟨h1, h2⟩ := hp
  rw [← splB_len] at h1
  rw [splitB_spl] at h2
  have hx : Ext w w' := by rw [h2]; exact ⟨(Below.refl _ w).alloc (Nat.le_refl _) _⟩
  refine ⟨_, h1, hx, _, rfl, ?_⟩
  have hb : Bk w' w.heap.size ((splB s).map strV) 9 := Bk.of (by rw [h2]; exact World.alloc_heap_new w _)
  have hbd := (splB_bound s).1
  exact OwnL.ofCells hb (List.length_map _) (Nat.le_refl _) (by unfold maxLen; omega) (by rw [List.take_of_length_le]; rw [List.length_map]; exact Nat.le_refl _) (by omega) (Nat.le_refl _) fun x hx => by obtain ⟨y, _, rfl⟩ := List.mem_map.1 hx; rfl
end Go.Proofs.YtgnkloloehlfnaaGreatDoor
namespace Go.Proofs.YtgnkloloehlfnaaGreatDoor
open Go.RowKit

section
variable (a : Option Addr) (c : Nat) (cs : List Ch) (w : World) [hrow : RowI w (.slice a cs.length c) true 2 (cs.map encCh)] [hT : TextI w cs]
end

abbrev Rd := Pl × Int × ByteArray
def lineT (t : Tx) (p : Pl) : Option (List ByteArray) := if 0 ≤ p.1 ∧ 0 ≤ p.2.1 then (t[p.1.toNat]?).bind fun x => x.2[p.2.1.toNat]? else none
def fitR (l : List ByteArray) (q kind : Int) (s : ByteArray) : Bool :=
  if kind = 1 then inB 0 ((l.length : Int) - 1) q && decide (s.size = 0)
  else if kind = 2 then inB 0 (l.length : Int) q && wordB s
  else if kind = 3 then inB 0 ((l.length : Int) - 1) q && (wordB s && decide (s ≠ l.getD q.toNat ⟨#[]⟩))
  else false
def readB (t : Tx) (r : Rd) : Bool := match lineT t r.1 with
  | none => false
  | some l => fitR l r.1.2.2 r.2.1 r.2.2
def nextB (a r : Rd) : Bool := !(befP r.1 a.1) && !(decide (r.1 = a.1) && decide (a.2.1 ≠ 2))
def nextsB : List Rd → Bool
  | a :: r :: l => nextB a r && nextsB (r :: l)
  | _ => true
def hereR (p : Pl) (rs : List Rd) : List Rd := rs.filter fun r => decide (r.1 = p)
def stepR (z : List ByteArray × ByteArray) (r : Rd) : List ByteArray × ByteArray := if r.2.1 = 2 then (z.1 ++ [r.2.2], z.2) else (z.1, r.2.2)
def foldR (o : ByteArray) (l : List Rd) : List ByteArray × ByteArray := l.foldl stepR ([], o)
def wrdS (l : List ByteArray) (rs : List Rd) (k n : Int) (q : Nat) : List ByteArray :=
  let z := foldR (l.getD q ⟨#[]⟩) (hereR (k, n, (q : Int)) rs)
  z.1 ++ if z.2.size = 0 then [] else [z.2]
def lineS (l : List ByteArray) (rs : List Rd) (k n : Int) : List ByteArray := (List.range (l.length + 1)).flatMap (wrdS l rs k n)
def readC (rs : List Rd) (k : Nat) (x : Int × List (List ByteArray)) : Int × List (List ByteArray) := (x.1, x.2.mapIdx fun n l => lineS l rs k n)
def readT (t : Tx) (rs : List Rd) : Tx := t.mapIdx (readC rs)
def lensB (t : Tx) : Bool := t.all fun x => x.2.all fun l => inB 1 10 (l.length : Int)
def copyB (t : Tx) (id : Int) (rs : List Rd) : Bool := inB 0 9999 id && decide (rs.length ≤ 20) && (rs.all (readB t) && nextsB rs) && lensB (readT t rs)
def placeB (t : Tx) (p : Pl) : Bool := match lineT t p with
  | none => false
  | some l => inB 0 ((l.length : Int) - 1) p.2.2
def wordT (t : Tx) (p : Pl) : ByteArray := ((lineT t p).getD []).getD p.2.2.toNat ⟨#[]⟩
theorem befP_iff (a b : Pl) : befP a b = true ↔ a.1 < b.1 ∨ a.1 = b.1 ∧ (a.2.1 < b.2.1 ∨ a.2.1 = b.2.1 ∧ a.2.2 < b.2.2) := by
  by_cases h1 : a.1 = b.1 <;> by_cases h2 : a.2.1 = b.2.1 <;> simp [befP, h1, h2]
theorem befP_irr (a : Pl) : befP a a = false := by unfold befP; simp

section
variable {P : Program}
theorem eqFields_cons {w : World} {f : Field} {fs : List Field} {xs ys : Array Value} {d : Nat} {a b : Value} {r : Bool} (hn : f.name ≠ "_") (pa : (part f.type xs f.offset).run P w = .ok a w) (pb : (part f.type ys f.offset).run P w = .ok b w)
    (he : (Op.equalIn d f.type a b).run P w = .ok r w) : (Op.eqFields d xs ys (f :: fs)).run P w = if r then (Op.eqFields d xs ys fs).run P w else .ok false w := by
  simp only [Op.eqFields, if_pos hn, Sem.run_bind, pa, pb, he, Result.andThen_ok]
  cases r <;> simp
theorem part_cell {t : Nat} {w : World} {dd : TypeDesc} (u : TU P t dd) (hag : TypeDesc.isAgg dd = false) {cs : Array Value} {off : Nat} {v : Value} (h : cs[off]? = some v) : (part t cs off).run P w = .ok v w := by
  simp [part, run_isAgg w u, hag, h]
theorem part_agg {t size bytes : Nat} {w : World} {dd : TypeDesc} {z : Value} (u : TU P t dd) (hag : TypeDesc.isAgg dd = true) (hz : TS P t z size bytes) {cs xs : Array Value} {off : Nat} (h : cs.extract off (off + size) = xs) : (part t cs off).run P w = .ok (.agg xs) w := by
  simp [part, run_isAgg w u, hag, run_sizeOf' w hz, h]
theorem eqInt (w : World) (d : Nat) {t : Nat} (u : TU P t (.int .i64)) (a b : Int) : (Op.equalIn (d + 1) t (.int .i64 a) (.int .i64 b)).run P w = .ok (decide (a = b)) w := by
  rw [run_equalIn_int w d t .i64 .i64 a b u.h]
  congr 1
theorem eqStr (w : World) (d : Nat) {t : Nat} (u : TU P t .string) (a b : ByteArray) : (Op.equalIn (d + 1) t (.string a) (.string b)).run P w = .ok (decide (a = b)) w := by
  rw [run_equalIn_string w d t a b u.h, ← beq_toListBytes, byteArray_beq]
theorem eqIn_int3 {t : Nat} {f0 f1 f2 : Field} (hu : P.underlying t = some (.struct #[f0, f1, f2])) (h0 : f0.name ≠ "_") (h0' : f0.offset = 0) (h1 : f1.name ≠ "_") (h1' : f1.offset = 1) (h2 : f2.name ≠ "_") (h2' : f2.offset = 2)
    (u0 : TU P f0.type (.int .i64)) (u1 : TU P f1.type (.int .i64)) (u2 : TU P f2.type (.int .i64)) (hp : P.stoodInHeld t = false) (w : World) (d : Nat) (a b : Pl) : (Op.equalIn (d + 2) t (encPl a) (encPl b)).run P w = .ok (decide (a = b)) w := by
  have hf : P.fieldsOf t = #[f0, f1, f2] := by simp [Program.fieldsOf, hu]
  have ht : P.underlying t = some (.struct (P.fieldsOf t)) := by rw [hf]; exact hu
  rw [run_equalIn_struct w (d + 1) t _ _ ht hp, hf]
  obtain ⟨a1, a2, a3⟩ := a
  obtain ⟨b1, b2, b3⟩ := b
  rw [eqFields_cons h0 (part_cell u0 rfl (by rw [h0']; rfl)) (part_cell u0 rfl (by rw [h0']; rfl)) (eqInt w d u0 a1 b1)]
  by_cases c0 : a1 = b1
  · rw [decide_eq_true c0, if_pos rfl, eqFields_cons h1 (part_cell u1 rfl (by rw [h1']; rfl)) (part_cell u1 rfl (by rw [h1']; rfl)) (eqInt w d u1 a2 b2)]
    by_cases c1 : a2 = b2
    · rw [decide_eq_true c1, if_pos rfl, eqFields_cons h2 (part_cell u2 rfl (by rw [h2']; rfl)) (part_cell u2 rfl (by rw [h2']; rfl)) (eqInt w d u2 a3 b3)]
      by_cases c2 : a3 = b3
      · simp [c0, c1, c2, Op.eqFields]
      · simp [c2]
    · simp [c1]
  · simp [c0]
theorem eqT_int3 {t : Nat} (h : ∀ (w : World) (d : Nat) (a b : Pl), (Op.equalIn (d + 2) t (encPl a) (encPl b)).run P w = .ok (decide (a = b)) w) (hg : P.eqGuardType P.depth t = false) : EqT P t encPl where
  eq w a b := h w 9998 a b
  guard op x y w a b := by
    cases op <;> simp [encPl, eqGuard, hg]
  kind a b := ⟨fun w => by simp [encPl, binOp], fun w => by simp [encPl, binOp]⟩

end
abbrev Slp := Pl × ByteArray × ByteArray × ByteArray
abbrev encSl (x : Slp) : Value := .agg #[.int .i64 x.1.1, .int .i64 x.1.2.1, .int .i64 x.1.2.2, .string x.2.1, .string x.2.2.1, .string x.2.2.2]
section
variable {P : Program}
theorem eqIn_slip {t bytes : Nat} {z : Value} {d0 : TypeDesc} {f0 f1 f2 f3 : Field} (hu : P.underlying t = some (.struct #[f0, f1, f2, f3])) (h0 : f0.name ≠ "_") (h0' : f0.offset = 0) (h1 : f1.name ≠ "_") (h1' : f1.offset = 3) (h2 : f2.name ≠ "_") (h2' : f2.offset = 4) (h3 : f3.name ≠ "_") (h3' : f3.offset = 5)
    (u0 : TU P f0.type d0) (hag : TypeDesc.isAgg d0 = true) (hz : TS P f0.type z 3 bytes) (u1 : TU P f1.type .string) (u2 : TU P f2.type .string) (u3 : TU P f3.type .string) (hp : P.stoodInHeld t = false)
    (hpl : ∀ (w : World) (d : Nat) (a b : Pl), (Op.equalIn (d + 2) f0.type (encPl a) (encPl b)).run P w = .ok (decide (a = b)) w) (w : World) (d : Nat) (a b : Slp) : (Op.equalIn (d + 3) t (encSl a) (encSl b)).run P w = .ok (decide (a = b)) w := by
  have hf : P.fieldsOf t = #[f0, f1, f2, f3] := by simp [Program.fieldsOf, hu]
  have ht : P.underlying t = some (.struct (P.fieldsOf t)) := by rw [hf]; exact hu
  rw [run_equalIn_struct w (d + 2) t _ _ ht hp, hf]
  obtain ⟨a1, a2, a3, a4⟩ := a
  obtain ⟨b1, b2, b3, b4⟩ := b
  rw [eqFields_cons h0 (part_agg (xs := #[.int .i64 a1.1, .int .i64 a1.2.1, .int .i64 a1.2.2]) u0 hag hz (by rw [h0']; rfl)) (part_agg (xs := #[.int .i64 b1.1, .int .i64 b1.2.1, .int .i64 b1.2.2]) u0 hag hz (by rw [h0']; rfl)) (hpl w d a1 b1)]
  by_cases c0 : a1 = b1
  · rw [decide_eq_true c0, if_pos rfl, eqFields_cons h1 (part_cell u1 rfl (by rw [h1']; rfl)) (part_cell u1 rfl (by rw [h1']; rfl)) (eqStr w (d + 1) u1 a2 b2)]
    by_cases c1 : a2 = b2
    · rw [decide_eq_true c1, if_pos rfl, eqFields_cons h2 (part_cell u2 rfl (by rw [h2']; rfl)) (part_cell u2 rfl (by rw [h2']; rfl)) (eqStr w (d + 1) u2 a3 b3)]
      by_cases c2 : a3 = b3
      · rw [decide_eq_true c2, if_pos rfl, eqFields_cons h3 (part_cell u3 rfl (by rw [h3']; rfl)) (part_cell u3 rfl (by rw [h3']; rfl)) (eqStr w (d + 1) u3 a4 b4)]
        by_cases c3 : a4 = b4
        · simp [c0, c1, c2, c3, Op.eqFields]
        · simp [c3]
      · simp [c2]
    · simp [c1]
  · simp [c0]
theorem eqT_slip {t : Nat} (h : ∀ (w : World) (d : Nat) (a b : Slp), (Op.equalIn (d + 3) t (encSl a) (encSl b)).run P w = .ok (decide (a = b)) w) (hg : P.eqGuardType P.depth t = false) : EqT P t encSl where
  eq w a b := h w 9997 a b
  guard op x y w a b := by
    cases op <;> simp [encSl, eqGuard, hg]
  kind a b := ⟨fun w => by simp [encSl, binOp], fun w => by simp [encSl, binOp]⟩
end
theorem eqIn_place (w : World) (d : Nat) (a b : Pl) : (Op.equalIn (d + 2) 44 (encPl a) (encPl b)).run Tryz.prog w = .ok (decide (a = b)) w :=
  eqIn_int3 Tryz.underlying44 (by decide) rfl (by decide) rfl (by decide) rfl tu3 tu3 tu3 (by kernel_rfl) w d a b
instance : EqT Tryz.prog 44 encPl := eqT_int3 eqIn_place (by kernel_rfl)
instance : EqT Tryz.prog 46 encSl := eqT_slip (eqIn_slip Tryz.underlying46 (by decide) rfl (by decide) rfl (by decide) rfl (by decide) rfl tu44 rfl ts44 tu9 tu9 tu9 (by kernel_rfl) eqIn_place) (by kernel_rfl)

section rules
variable {P : Program} {ro : Option Nat} {n : Nat} {all rest : List Oper} {K : Sl → World → Prop} {s : Sl} {w : World} {d : Nat} {ty : Nat} {pos : String} {af : Array Edge}
variable {x y : Operand} {t t' e : Nat}
theorem jjm {a : Int} (hx : ev n s x = .int .i64 a) (hr : -9223372036854775807 ≤ a ∧ a ≤ 9223372036854775807) (h : Ops P ro n all rest K (upd s d (.int .i64 (-a))) w) :
    Ops P ro n all (⟨some d, .unOp .neg t x, ty, pos, af, none⟩ :: rest) K s w :=
  Ops.ofRun rfl (by have : IntKind.i64.wrap (-a) = -a := by rw [IntKind.wrap_i64]; omega
                    simp [execOp, hx, go_sem, Op.unary, this]) h

abbrev cutV (a : Option Addr) (c k lo hi : Nat) : Value := .slice (if c = lo then a else a.map (·.add (lo * k))) (hi - lo) (c - lo)
theorem RowV.cut {agg : Bool} {k l c : Nat} {a : Option Addr} {xs : List Value} (h : RowV w agg k (.slice a l c) xs) {lo hi : Nat} (h1 : lo ≤ hi) (h2 : hi ≤ xs.length) : RowV w agg k (cutV a c k lo hi) ((xs.take hi).drop lo) := by
  obtain ⟨rfl, hlc⟩ := h.cap
  exact h.part lo hi h1 h2 _ (by omega) _ (fun hlt => by rw [if_neg (by omega)])
theorem Ops.sliceLHv {k bytes l c lo hi : Nat} {z : Value} {a : Option Addr} {i j : Int} {k1 k2 : IntKind} {xl xh : Operand} (hx : ev n s x = .slice a l c) (hl : ev n s xl = .int k1 i) (hh : ev n s xh = .int k2 j)
    (hi' : i = (lo : Int)) (hj' : j = (hi : Int)) (h1 : lo ≤ hi) (h2 : hi ≤ c) [ht : TSl P t e] [hz : TS P e z k bytes]
    (h : Ops P ro n all rest K (upd s d (cutV a c k lo hi)) w) : Ops P ro n all (⟨some d, .slice t x (some xl) (some xh) none, ty, pos, af, none⟩ :: rest) K s w := by
  subst hi' hj'
  refine Ops.ofRun (v := cutV a c k lo hi) (w' := w) rfl ?_ h
  simp [cutV, execOp, Instr.sliceAt, Instr.slice, Instr.sliceBounds, Instr.sliceBound, hx, hl, hh, run_underlying ht.h, asIntOf, h1, h2, run_sizeOf' w hz]
theorem beqS (a b : ByteArray) : (a.toList == b.toList) = decide (a = b) := by rw [← beq_toListBytes, byteArray_beq]
theorem Ops.eqlS {a b : ByteArray} (hx : ev n s x = .string a) (hy : ev n s y = .string b) (h : Ops P ro n all rest K (upd s d (.bool (decide (a = b)))) w) :
    Ops P ro n all (⟨some d, .binOp .eql t x y t', ty, pos, af, none⟩ :: rest) K s w :=
  Ops.ofRun rfl (by simp [execOp, hx, hy, go_sem, beqS, eqGuard]) h
theorem Ops.neqS {a b : ByteArray} (hx : ev n s x = .string a) (hy : ev n s y = .string b) (h : Ops P ro n all rest K (upd s d (.bool (decide (¬ a = b)))) w) :
    Ops P ro n all (⟨some d, .binOp .neq t x y t', ty, pos, af, none⟩ :: rest) K s w :=
  Ops.ofRun rfl (by
    have e : decide (¬ a = b) = !decide (a = b) := by by_cases h : a = b <;> simp [h]
    rw [e]
    simp [execOp, hx, hy, go_sem, beqS, eqGuard]) h
theorem Ops.lssS {a b : ByteArray} (hx : ev n s x = .string a) (hy : ev n s y = .string b) (h : Ops P ro n all rest K (upd s d (.bool (Op.bytesLess a.toList b.toList))) w) :
    Ops P ro n all (⟨some d, .binOp .lss t x y t', ty, pos, af, none⟩ :: rest) K s w :=
  Ops.ofRun rfl (by simp [execOp, hx, hy, go_sem]) h
theorem Ops.gtrS {a b : ByteArray} (hx : ev n s x = .string a) (hy : ev n s y = .string b) (h : Ops P ro n all rest K (upd s d (.bool (!(Op.bytesLess a.toList b.toList || a.toList == b.toList)))) w) :
    Ops P ro n all (⟨some d, .binOp .gtr t x y t', ty, pos, af, none⟩ :: rest) K s w :=
  Ops.ofRun rfl (by simp [execOp, hx, hy, go_sem, binOp, Op.stringOp]) h
theorem Ops.indexAP {z : Value} {size bytes b o len : Nat} {i : Int} {k : IntKind} (j : Nat) (hx : ev n s x = .pointer (some ⟨b, o, none⟩)) (hy : ev n s y = .int k i) (hi : i = (j : Int)) [ht : TArr P t len e] [hz : TS P e z size bytes] (hj : Nat.blt j len = true)
    (h : Ops P ro n all rest K (upd s d (.pointer (some ⟨b, o + j * size, none⟩))) w) :
    Ops P ro n all (⟨some d, .indexAddr t x y, ty, pos, af, none⟩ :: rest) K s w := by
  subst hi
  have hj' : j < len := by simpa using hj
  exact Ops.ofRun rfl (by
    have h1 : (0 : Int) ≤ (j : Int) ∧ (j : Int) < (len : Int) := by omega
    simp [execOp, Instr.indexAt, hx, hy, asIntOf, Instr.sureAddr, run_underlying ht.h, run_sizeOf' w hz, Addr.add_lit, hj']) h
end rules

theorem fin2C {P : Program} {fn : Func} {n t ty b size bytes t1 : Nat} {R : Value → World → Prop} {s : Sl} {w : World} {cs : List Value} {dd : TypeDesc} {z : Value} (hf : fn.results = #[.cell t ty, .tmp t1]) (ht : Nat.blt t n = true) (h1 : Nat.blt t1 n = true)
    (hs : s t = .pointer (some ⟨b, 0, none⟩)) [hb : At w b 0 cs] [hu : TU P ty dd] (hag : TypeDesc.isAgg dd = true) [hz : TS P ty z size bytes] (hl : cs.length = size)
    (h : R (.tuple #[.agg cs.toArray, s t1]) w) : finR P fn n R s [] w := by
  unfold finR
  refine ⟨rfl, _, ?_, h⟩
  have e : (mkA n s []).tmps[t]?.getD undef = .pointer (some ⟨b, 0, none⟩) := by
    rw [mkA_getElem?, if_pos (by simpa using ht)]; exact hs
  have e1 : (mkA n s []).tmps[t1]?.getD undef = s t1 := by rw [mkA_getElem?, if_pos (by simpa using h1)]; rfl
  have := run_loadVar_agg (P := P) (t := ty) (w := w) (b := b) (o := 0) hu hag hz (cs := cs) hl (fun i v hv => by have := hb.h i v hv; simpa using this)
  simp [results, hf, e, e1, asAddr, this]
theorem fin1CM {P : Program} {fn : Func} {n N t ty b size bytes : Nat} {R : Value → World → Prop} {s : Sl} {ds : List Deferred} {w : World} {cs : List Value} {dd : TypeDesc} {z : Value} {e : Nat} (hf : fn.results = #[.cell t ty]) (ht : Nat.blt t n = true) (hs : s t = .pointer (some ⟨b, 0, none⟩)) (hb : Bk w b cs e) [hu : TU P ty dd] (hag : TypeDesc.isAgg dd = true) [hz : TS P ty z size bytes] (hl : cs.length = size) (hm : Mks N w ds)
    (h : ∀ w', Grow N w w' → R (.agg cs.toArray) w') : finM P fn n N R s ds w := by
  unfold finM
  refine ⟨hm, fun w' g => ⟨.agg cs.toArray, ?_, h w' g⟩⟩
  have e : (mkA n s []).tmps[t]?.getD undef = .pointer (some ⟨b, 0, none⟩) := by
    rw [mkA_getElem?, if_pos (by simpa using ht)]; exact hs
  have hA := Bk.toAt (h := hb.grow g)
  have := run_loadVar_agg (P := P) (t := ty) (w := w') (b := b) (o := 0) hu hag hz (cs := cs) hl (fun i v hv => by have := hA.h i v hv; simpa using this)
  simp [results, hf, e, asAddr, this]

section
variable {P : Program} {ro : Option Nat} {n : Nat} {all : List Oper} {S : World → Prop} {K : Sl → World → Prop} {x : Nat}
def AnyX (P : Program) (ro : Option Nat) (n : Nat) (all : List Oper) (S : World → Prop) (K : Sl → World → Prop) (x : Nat) : Nat → Array Bool → Sl → World → Prop
  | 0, listed, s, w => (listed.getD x false = false → S w) ∧ Region.ready .any all.toArray listed = [] ∧ K s w
  | fuel + 1, listed, s, w => (listed.getD x false = false → S w) ∧ (Region.ready .any all.toArray listed = [] → K s w) ∧
      ∀ i ∈ Region.ready .any all.toArray listed, ∀ o, all[i]? = some o → Op1 P ro n all o s w (fun v w' => AnyX P ro n all S K x fuel (listed.setIfInBounds i true) (putS s o.dst v) w')
theorem AnyX.succ {fuel : Nat} {listed : Array Bool} {s : Sl} {w : World} : AnyX P ro n all S K x (fuel + 1) listed s w ↔ ((listed.getD x false = false → S w) ∧ (Region.ready .any all.toArray listed = [] → K s w) ∧
      ∀ i ∈ Region.ready .any all.toArray listed, ∀ o, all[i]? = some o → Op1 P ro n all o s w (fun v w' => AnyX P ro n all S K x fuel (listed.setIfInBounds i true) (putS s o.dst v) w')) := Iff.rfl
theorem AnyX.zero {listed : Array Bool} {s : Sl} {w : World} : AnyX P ro n all S K x 0 listed s w ↔ ((listed.getD x false = false → S w) ∧ Region.ready .any all.toArray listed = [] ∧ K s w) := Iff.rfl
theorem AnyX.sound {ds : List Deferred} {Q : Exit → Act → World → Prop} (hQ : ∀ s w, K s w → Q .normal (mkA n s ds) w) : ∀ (fuel : Nat) (listed : Array Bool) (s : Sl) (w : World), AnyX P ro n all S K x fuel listed s w →
    wpAnyIn (Fw ro) 0 P .any all.toArray Q fuel listed (mkA n s ds) w := by
  intro fuel
  induction fuel with
  | zero => intro listed s w h; exact ⟨h.2.1, hQ _ _ h.2.2⟩
  | succ fuel ih =>
    intro listed s w h
    refine ⟨fun h0 => hQ _ _ (h.2.1 h0), fun i hi => ?_⟩
    obtain ⟨_, o, ho, _⟩ := mem_ready.1 hi
    have ho' : all[i]? = some o := by simpa using ho
    exact Op1.sound ho' (h.2.2 i hi o ho') fun v w' hk => ih _ _ _ hk
def behind (all : List Oper) (x i : Nat) : Bool := (x != i) && (match all[x]? with
  | some o => o.after.toList.any fun e => Region.binds .any e && (e.on == i)
  | none => false)
end
attribute [irreducible] AnyX

section
variable (a : Option Addr) (c : Nat) (cs : List Ch) (w : World) [hrow : RowI w (.slice a cs.length c) true 2 (cs.map encCh)] [hT : TextI w cs]
end

section
variable (a : Option Addr) (c : Nat) (cs : List Ch) (w : World) [hrow : RowI w (.slice a cs.length c) true 2 (cs.map encCh)] [hT : TextI w cs]
end
end Go.Proofs.YtgnkloloehlfnaaGreatDoor

namespace Go.Proofs.YtgnkloloehlfnaaGreatDoor
open Go.ChangeShapes Go.WideShapes Go.ChangeAt Go.RowKit Go.WideElems

theorem okInt {P : Program} {w : World} {r : Reach} {base t : Nat} {v : Value} (hu : P.underlying t = some (.int .i64)) (h : Cell.ok P w r base t v) : ∃ m, v = .int .i64 m := by
  unfold Cell.ok at h
  rw [hu] at h
  cases v <;> first | (simp at h; done) | skip
  case int k m => exact ⟨m, by rw [h.1]⟩
set_option maxRecDepth 100000 in
theorem max_shaped {W : World} (h : W.ShapedOpen Tryz.prog) : MxI W := by
  have h0 : ((begin Tryz.prog (fun _ _ => 0) default).world.heap[2]?).bind Obj.row? = some (#[.int .i64 0], 3) := by kernel_rfl
  obtain ⟨cs, hh, hs, hr⟩ := h.1 2 _ _ (of_decide_eq_true (by kernel_rfl)) h0
  obtain ⟨ts, hts, _, hall⟩ := hr (by kernel_rfl)
  have hc : Tryz.prog.cellTypes Tryz.prog.depth 3 = some [ 3 ] := by kernel_rfl
  rw [hc] at hts
  cases hts
  have h1 : 0 < cs.size := by have : cs.size = 1 := hs; omega
  clear h0 h hr
  generalize hv0 : cs[0]'h1 = v0
  obtain ⟨u, hu', hok⟩ := hall 0 v0 (by rw [← hv0]; exact Array.getElem?_eq_getElem h1)
  have hu : u = 3 := (Option.some.inj hu').symm
  subst hu
  have hcell : W.cell? ⟨2, 0, none⟩ = some v0 := by
    unfold World.cell?
    rw [hh, ← hv0]
    exact Array.getElem?_eq_getElem h1
  have hm := okInt Tryz.underlying3 hok
  obtain ⟨m, hm⟩ := hm
  exact ⟨m, ⟨fun i v hv => by
    cases i with
    | zero =>
      have e : v = .int .i64 m := (Option.some.inj hv).symm
      rw [e, ← hm]; exact hcell
    | succ i => simp at hv⟩⟩
end Go.Proofs.YtgnkloloehlfnaaGreatDoor

namespace Go.Proofs.YtgnkloloehlfnaaGreatDoor
open Go.ChangeShapes Go.WideShapes Go.ChangeAt Go.RowKit Go.WideElems

abbrev bysC' : List Value := [.nilFunc, .func (.func 193) #[] ([] : List Value).toArray, .func (.func 194) #[] ([] : List Value).toArray, .func (.func 196) #[] ([] : List Value).toArray, .func (.func 197) #[] ([] : List Value).toArray]
theorem g_bys : Tryz.prog.globalNamed "postil/rack.bys" = some 0 := by kernel_rfl
theorem t_bys : (Tryz.prog.globals[0]?).map (·.type) = some 102 := by kernel_rfl
theorem array5 {cs : Array Value} (h : cs.size = 5) : ∃ a b c d e, cs = #[a, b, c, d, e] := by
  obtain ⟨l⟩ := cs
  match l, h with
  | [a, b, c, d, e], _ => exact ⟨a, b, c, d, e, rfl⟩
theorem bys_laid {W : World} {laid : List (String × DataW Unit)} (h : laidMetH Tryz.prog laid W) (hx : ("postil/rack.bys", Rows.laid_postil_rack_bys) ∈ laid) : At W 0 0 bysC' := by
  obtain ⟨g, t, cs, fuel, p, hg, ht, hv, hd⟩ := laidMetH.funcs (d := .agg [.agg [.nil], .agg [.iface "func" (.lit (.string [112, 111, 115, 116, 105, 108, 47, 114, 97, 99, 107, 46, 98, 121, 115, 36, 49]))], .agg [.iface "func" (.lit (.string [112, 111, 115, 116, 105, 108, 47, 114, 97, 99, 107, 46, 98, 121, 115, 36, 50]))], .agg [.iface "func" (.lit (.string [112, 111, 115, 116, 105, 108, 47, 114, 97, 99, 107, 46, 98, 121, 115, 36, 51]))], .agg [.iface "func" (.lit (.string [112, 111, 115, 116, 105, 108, 47, 114, 97, 99, 107, 46, 98, 121, 115, 36, 52]))]]) h hx
  obtain rfl := Option.some.inj (g_bys.symm.trans hg)
  obtain rfl := Option.some.inj (t_bys.symm.trans ht)
  have hd' : DataW.trod (funcToken Tryz.prog) Tryz.prog W 0 (fun _ => true) true fuel 102 cs.toList = some (.agg [.agg [.nil], .agg [.held [112, 111, 115, 116, 105, 108, 47, 114, 97, 99, 107, 46, 98, 121, 115, 36, 49]], .agg [.held [112, 111, 115, 116, 105, 108, 47, 114, 97, 99, 107, 46, 98, 121, 115, 36, 50]], .agg [.held [112, 111, 115, 116, 105, 108, 47, 114, 97, 99, 107, 46, 98, 121, 115, 36, 51]], .agg [.held [112, 111, 115, 116, 105, 108, 47, 114, 97, 99, 107, 46, 98, 121, 115, 36, 52]]], p) := hd
  obtain ⟨xs, m, _, hxs, hl, hn, hel⟩ := DataW.trod_array Tryz.underlying102 hd'
  have kT : Tryz.prog.cellsOf 102 = 5 := by kernel_rfl
  have kE : Tryz.prog.cellsOf 101 = 1 := by kernel_rfl
  have kF : Tryz.prog.cellsOf 100 = 1 := by kernel_rfl
  obtain ⟨c0, c1, c2, c3, c4, rfl⟩ := array5 (cs := cs) (by simpa [kT] using hl)
  simp only [Prod.mk.injEq, DataW.agg.injEq] at hxs
  have key : ∀ (i : Nat) (c : Value) (b : DataW (List UInt8)), i < 5 → (([c0, c1, c2, c3, c4].drop (i * 1)).take 1) = [c] → (xs.map (·.1))[i]? = some (.agg [b]) → ∃ n q, DataW.trod (funcToken Tryz.prog) Tryz.prog W 0 (fun _ => true) true n 100 [c] = some (b, q) := fun i c b hi hc hb => by
    have h0 := hel i hi
    rw [kE, hc] at h0
    rw [List.getElem?_map] at hb
    obtain ⟨x, hx1, hx2⟩ := Option.map_eq_some_iff.1 hb
    rw [hx1] at h0
    obtain ⟨y0, n, e, _, h1⟩ := trod_struct1 Tryz.underlying101 h0
    rw [e] at hx2
    simp only [DataW.agg.injEq, List.cons.injEq, and_true] at hx2
    obtain ⟨y1, y2⟩ := y0
    simp only at hx2
    subst hx2
    exact ⟨n, y2, by simpa [kF] using h1⟩
  obtain ⟨n0, q0, k0⟩ := key 0 c0 .nil (by omega) rfl (by rw [← hxs.1]; rfl)
  obtain ⟨n1, q1, k1⟩ := key 1 c1 (.held [112, 111, 115, 116, 105, 108, 47, 114, 97, 99, 107, 46, 98, 121, 115, 36, 49]) (by omega) rfl (by rw [← hxs.1]; rfl)
  obtain ⟨n2, q2, k2⟩ := key 2 c2 (.held [112, 111, 115, 116, 105, 108, 47, 114, 97, 99, 107, 46, 98, 121, 115, 36, 50]) (by omega) rfl (by rw [← hxs.1]; rfl)
  obtain ⟨n3, q3, k3⟩ := key 3 c3 (.held [112, 111, 115, 116, 105, 108, 47, 114, 97, 99, 107, 46, 98, 121, 115, 36, 51]) (by omega) rfl (by rw [← hxs.1]; rfl)
  obtain ⟨n4, q4, k4⟩ := key 4 c4 (.held [112, 111, 115, 116, 105, 108, 47, 114, 97, 99, 107, 46, 98, 121, 115, 36, 52]) (by omega) rfl (by rw [← hxs.1]; rfl)
  obtain rfl := nilf_of_trod Tryz.underlying100 k0
  obtain rfl := func_of_trod (f0 := 193) Tryz.underlying100 (by kernel_rfl) k1
  obtain rfl := func_of_trod (f0 := 194) Tryz.underlying100 (by kernel_rfl) k2
  obtain rfl := func_of_trod (f0 := 196) Tryz.underlying100 (by kernel_rfl) k3
  obtain rfl := func_of_trod (f0 := 197) Tryz.underlying100 (by kernel_rfl) k4
  exact ⟨fun i v hv' => by have := World.var?_cell hg hv i; rw [Nat.zero_add, this]; simpa using hv'⟩
end Go.Proofs.YtgnkloloehlfnaaGreatDoor

namespace Go.Proofs.YtgnkloloehlfnaaGreatDoor
open Go.ChangeShapes Go.WideShapes Go.ChangeAt Go.RowKit
end Go.Proofs.YtgnkloloehlfnaaGreatDoor
namespace Go.Proofs.YtgnkloloehlfnaaGreatDoor
open Go.RowKit
abbrev u32V (x : Int) : Value := .int .u32 x
def U32s (l : List Int) : Prop := ∀ x ∈ l, 0 ≤ x ∧ x ≤ 4294967295
end Go.Proofs.YtgnkloloehlfnaaGreatDoor

namespace Go.Proofs.YtgnkloloehlfnaaGreatDoor
open Go.ChangeShapes Go.WideShapes Go.ChangeAt Go.RowKit Go.WideElems

set_option maxRecDepth 100000 in
theorem read_u32s {H : Type} {enc : TypeId × Value → H} {W : World} {base : Nat} {v : Value} {d : DataW H} {p : List MemPlace} (hv : Value.okWide Tryz.prog W .any base 32 v) (h : DataW.Trod enc Tryz.prog W 0 (fun _ => true) true 32 v d p)
    (hw : ∀ q ∈ d.weights Tryz.prog 32, q ≤ reachBytes) : ∃ (a : Option Addr) (c : Nat) (l : List Int), v = .slice a l.length c ∧ RowV W false 1 (.slice a l.length c) (l.map u32V) ∧ U32s l := by
  obtain ⟨a0, l0, c0, rfl⟩ := okWide_slice Tryz.underlying32 hv
  obtain ⟨fuel, hf⟩ := h
  have hf' : DataW.trod enc Tryz.prog W 0 (fun _ => true) true fuel 32 [.slice a0 l0 c0] = some (d, p) := hf
  obtain ⟨a, c, vs, e, hR, hE⟩ := rowV_of_trod (t := 32) (k := 1) (agg := false) (by kernel_rfl) (by omega) (fun _ => rfl) (fun _ _ _ _ e => by
    obtain ⟨m, e, _, _⟩ := DataW.trod_int Tryz.underlying96 e
    cases e; rfl) (of_decide_eq_true (by kernel_rfl)) hf' hw
  obtain ⟨l, rfl, hq⟩ := exists_map (enc := u32V) (Q := fun x => 0 ≤ x ∧ x ≤ 4294967295) (vs := vs) fun y hy => by
    obtain ⟨n', z, hz, _⟩ := hE y hy
    have hfit := hR.fit y hy
    have hc : y.cells.toList = [y] := by cases y <;> simp [fitsV] at hfit <;> rfl
    rw [hc] at hz
    obtain ⟨m, e, _, hr⟩ := DataW.trod_int Tryz.underlying96 hz
    cases e
    simp only [Lit.wf, Bool.and_eq_true, decide_eq_true_eq] at hr
    have m1 : IntKind.u32.min = 0 := by decide
    have m2 : IntKind.u32.max = 4294967295 := by decide
    rw [m1, m2] at hr
    exact ⟨m, rfl, hr⟩
  rw [e] at hR ⊢
  rw [List.length_map] at hR ⊢
  exact ⟨a, c, l, rfl, hR, hq⟩
end Go.Proofs.YtgnkloloehlfnaaGreatDoor
namespace Go.Proofs.YtgnkloloehlfnaaGreatDoor
open Go.RowKit

abbrev Hp := Int × Int × Int
abbrev encHp (x : Hp) : Value := .agg #[.int .i64 x.1, .int .i64 x.2.1, .int .i64 x.2.2]
abbrev Shr := Int × Int × Int × Int
abbrev encShr (x : Shr) : Value := .agg #[.int .i64 x.1, .int .i64 x.2.1, .int .i64 x.2.2.1, .int .i64 x.2.2.2]
abbrev Sht := Bool × Option Addr × Nat × List Ln
abbrev encSht (x : Sht) : Value := .agg #[.bool x.1, .slice x.2.1 x.2.2.2.length x.2.2.1]
class ShtI (w : World) (xs : List Sht) : Prop where
  lines : ∀ x ∈ xs, RowV w false 1 (.slice x.2.1 x.2.2.2.length x.2.2.1) (x.2.2.2.map encLn)
  words : ∀ x ∈ xs, ∀ y ∈ x.2.2.2, RowV w false 1 (encLn y) (y.2.2.map strV)
theorem ShtI.ext {w w' : World} {xs : List Sht} (h : ShtI w xs) (hs : Ext w w') : ShtI w' xs := ⟨fun x hx => (h.lines x hx).ext hs, fun x hx y hy => (h.words x hx y hy).ext hs⟩
instance ShtI.step {w w' : World} {xs : List Sht} [hs : Step w w'] [h : ShtI w xs] : ShtI w' xs := h.ext ⟨hs.b⟩
theorem ShtI.line {w : World} {xs : List Sht} (h : ShtI w xs) {k : Nat} (hk : k < xs.length) : RowI w (.slice xs[k].2.1 xs[k].2.2.2.length xs[k].2.2.1) false 1 (xs[k].2.2.2.map encLn) := ⟨h.lines _ (List.getElem_mem hk)⟩
theorem ShtI.word {w : World} {xs : List Sht} (h : ShtI w xs) {k n : Nat} (hk : k < xs.length) (hn : n < xs[k].2.2.2.length) : RowI w (encLn xs[k].2.2.2[n]) false 1 (xs[k].2.2.2[n].2.2.map strV) := ⟨h.words _ (List.getElem_mem hk) _ (List.getElem_mem hn)⟩
abbrev noP : Shr := (-1, -1, 0, 0)
def befS (ss : List Shr) (i k : Nat) : Shr := if k ≤ i then ss.getD (i - k) noP else noP
end Go.Proofs.YtgnkloloehlfnaaGreatDoor
