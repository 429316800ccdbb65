/- Texts of the proof, part 2: Types, ReadC, Eng17, Spec0, Txt, Eng19, Eng20, Cmp, Tp1, Lib1, In, Tl1, Tr1, RefB, Tr2, Ts1, ReadT, SpW, ShJ, Eng25, ShP, Tp2, RdS, EqP, Eng21, Eng22, Eng23. -/
import Derived.Test.YtbafmbpmiiplkaaGreatDoorProg
import Derived.KernelRfl
import Derived.Laws.CopyRow
import Derived.Laws.Externs
import Derived.Lib.Overlaps
import Derived.Lib.SliceRun
import Derived.Test.YtbafmbpmiiplkaaGreatDoorRows
import Derived.Lib.SmallJoins
import Derived.LaidMore
import Derived.Lib.SplitLaws
import Derived.Shelf.Strings.OnBuilder
import Derived.Shelf.Strings.Split
import Derived.Laws.Concat
import Derived.Test.YtbafmbpmiiplkaaGreatDoorTP1
namespace Go.Proofs.YtbafmbpmiiplkaaGreatDoor
open Go.RowKit

instance : Mixed Tryz.prog:=⟨by kernel_rfl⟩
instance tu3:TU Tryz.prog 3 (.int .i64):=⟨Tryz.underlying3⟩
instance ts3:TS Tryz.prog 3 (.int .i64 0) 1 8:=⟨by kernel_rfl⟩
instance tu4:TU Tryz.prog 4 (.bool):=⟨Tryz.underlying4⟩
instance ts4:TS Tryz.prog 4 (.bool false) 1 1:=⟨by kernel_rfl⟩
instance tu5:TU Tryz.prog 5 (.int .u8):=⟨Tryz.underlying5⟩
instance ts5:TS Tryz.prog 5 (.int .u8 0) 1 1:=⟨by kernel_rfl⟩
instance tu9:TU Tryz.prog 9 (.string):=⟨Tryz.underlying9⟩
instance ts9:TS Tryz.prog 9 (.string ⟨#[]⟩) 1 16:=⟨by kernel_rfl⟩
instance : TSl Tryz.prog 22 99:=⟨Tryz.underlying22⟩
instance tu22:TU Tryz.prog 22 (.slice 99):=⟨Tryz.underlying22⟩
instance ts22:TS Tryz.prog 22 (.slice none 0 0) 1 24:=⟨by kernel_rfl⟩
instance tu24:TU Tryz.prog 24 (.struct #[{ name := "Chapters", type:=22,offset:=0,embedded:=false,tag := "", pkgPath := "", byteOffset:=0 }]):=⟨Tryz.underlying24⟩
instance ts24:TS Tryz.prog 24 (.agg #[.slice none 0 0]) 1 24:=⟨by kernel_rfl⟩
instance : TSl Tryz.prog 25 109:=⟨Tryz.underlying25⟩
instance tu25:TU Tryz.prog 25 (.slice 109):=⟨Tryz.underlying25⟩
instance ts25:TS Tryz.prog 25 (.slice none 0 0) 1 24:=⟨by kernel_rfl⟩
instance : TSl Tryz.prog 26 46:=⟨Tryz.underlying26⟩
instance tu26:TU Tryz.prog 26 (.slice 46):=⟨Tryz.underlying26⟩
instance ts26:TS Tryz.prog 26 (.slice none 0 0) 1 24:=⟨by kernel_rfl⟩
instance : TSl Tryz.prog 27 69:=⟨Tryz.underlying27⟩
instance tu27:TU Tryz.prog 27 (.slice 69):=⟨Tryz.underlying27⟩
instance ts27:TS Tryz.prog 27 (.slice none 0 0) 1 24:=⟨by kernel_rfl⟩
instance tu29:TU Tryz.prog 29 (.struct #[{ name := "Text", type:=24,offset:=0,embedded:=false,tag := "", pkgPath := "", byteOffset:=0 },{ name := "Helpers", type:=25,offset:=1,embedded:=false,tag := "", pkgPath := "", byteOffset:=24 },{ name := "Shares", type:=26,offset:=2,embedded:=false,tag := "", pkgPath := "", byteOffset:=48 },{ name := "Sheets", type:=27,offset:=3,embedded:=false,tag := "", pkgPath := "", byteOffset:=72 }]):=⟨Tryz.underlying29⟩
instance ts29:TS Tryz.prog 29 (.agg #[.slice none 0 0,.slice none 0 0,.slice none 0 0,.slice none 0 0]) 4 96:=⟨by kernel_rfl⟩
instance tu31:TU Tryz.prog 31 (.struct #[{ name := "Width", type:=3,offset:=0,embedded:=false,tag := "", pkgPath := "", byteOffset:=0 },{ name := "Side", type:=5,offset:=1,embedded:=false,tag := "", pkgPath := "", byteOffset:=8 }]):=⟨Tryz.underlying31⟩
instance ts31:TS Tryz.prog 31 (.agg #[.int .i64 0,.int .u8 0]) 2 16:=⟨by kernel_rfl⟩
instance : TSl Tryz.prog 36 53:=⟨Tryz.underlying36⟩
instance tu36:TU Tryz.prog 36 (.slice 53):=⟨Tryz.underlying36⟩
instance ts36:TS Tryz.prog 36 (.slice none 0 0) 1 24:=⟨by kernel_rfl⟩
instance tu37:TU Tryz.prog 37 (.int .i64):=⟨Tryz.underlying37⟩
instance ts37:TS Tryz.prog 37 (.int .i64 0) 1 8:=⟨by kernel_rfl⟩
instance : TSl Tryz.prog 40 3:=⟨Tryz.underlying40⟩
instance tu40:TU Tryz.prog 40 (.slice 3):=⟨Tryz.underlying40⟩
instance ts40:TS Tryz.prog 40 (.slice none 0 0) 1 24:=⟨by kernel_rfl⟩
instance : TMap Tryz.prog 44 48 3:=⟨Tryz.underlying44⟩
instance tu46:TU Tryz.prog 46 (.struct #[{ name := "From", type:=3,offset:=0,embedded:=false,tag := "", pkgPath := "", byteOffset:=0 },{ name := "To", type:=3,offset:=1,embedded:=false,tag := "", pkgPath := "", byteOffset:=8 },{ name := "Helper", type:=3,offset:=2,embedded:=false,tag := "", pkgPath := "", byteOffset:=16 },{ name := "Sent", type:=3,offset:=3,embedded:=false,tag := "", pkgPath := "", byteOffset:=24 }]):=⟨Tryz.underlying46⟩
instance ts46:TS Tryz.prog 46 (.agg #[.int .i64 0,.int .i64 0,.int .i64 0,.int .i64 0]) 4 32:=⟨by kernel_rfl⟩
instance tu48:TU Tryz.prog 48 (.struct #[{ name := "Chapter", type:=3,offset:=0,embedded:=false,tag := "", pkgPath := "", byteOffset:=0 },{ name := "Line", type:=3,offset:=1,embedded:=false,tag := "", pkgPath := "", byteOffset:=8 },{ name := "Word", type:=3,offset:=2,embedded:=false,tag := "", pkgPath := "", byteOffset:=16 }]):=⟨Tryz.underlying48⟩
instance ts48:TS Tryz.prog 48 (.agg #[.int .i64 0,.int .i64 0,.int .i64 0]) 3 24:=⟨by kernel_rfl⟩
instance tu53:TU Tryz.prog 53 (.struct #[{ name := "At", type:=48,offset:=0,embedded:=false,tag := "", pkgPath := "", byteOffset:=0 },{ name := "Word", type:=9,offset:=3,embedded:=false,tag := "", pkgPath := "", byteOffset:=24 },{ name := "Before", type:=9,offset:=4,embedded:=false,tag := "", pkgPath := "", byteOffset:=40 },{ name := "After", type:=9,offset:=5,embedded:=false,tag := "", pkgPath := "", byteOffset:=56 }]):=⟨Tryz.underlying53⟩
instance ts53:TS Tryz.prog 53 (.agg #[.int .i64 0,.int .i64 0,.int .i64 0,.string ⟨#[]⟩,.string ⟨#[]⟩,.string ⟨#[]⟩]) 6 72:=⟨by kernel_rfl⟩
instance : TMap Tryz.prog 54 3 4:=⟨Tryz.underlying54⟩
instance tu54:TU Tryz.prog 54 (.map 3 4):=⟨Tryz.underlying54⟩
instance ts54:TS Tryz.prog 54 (.map none) 1 8:=⟨by kernel_rfl⟩
instance : TMap Tryz.prog 55 48 4:=⟨Tryz.underlying55⟩
instance : TSl Tryz.prog 58 66:=⟨Tryz.underlying58⟩
instance tu66:TU Tryz.prog 66 (.struct #[{ name := "Kind", type:=5,offset:=0,embedded:=false,tag := "", pkgPath := "", byteOffset:=0 },{ name := "Line", type:=3,offset:=1,embedded:=false,tag := "", pkgPath := "", byteOffset:=8 },{ name := "Words", type:=3,offset:=2,embedded:=false,tag := "", pkgPath := "", byteOffset:=16 }]):=⟨Tryz.underlying66⟩
instance ts66:TS Tryz.prog 66 (.agg #[.int .u8 0,.int .i64 0,.int .i64 0]) 3 24:=⟨by kernel_rfl⟩
instance : TSl Tryz.prog 67 70:=⟨Tryz.underlying67⟩
instance tu67:TU Tryz.prog 67 (.slice 70):=⟨Tryz.underlying67⟩
instance ts67:TS Tryz.prog 67 (.slice none 0 0) 1 24:=⟨by kernel_rfl⟩
instance tu69:TU Tryz.prog 69 (.struct #[{ name := "Back", type:=4,offset:=0,embedded:=false,tag := "", pkgPath := "", byteOffset:=0 },{ name := "Lines", type:=67,offset:=1,embedded:=false,tag := "", pkgPath := "", byteOffset:=8 }]):=⟨Tryz.underlying69⟩
instance ts69:TS Tryz.prog 69 (.agg #[.bool false,.slice none 0 0]) 2 32:=⟨by kernel_rfl⟩
instance : TSl Tryz.prog 70 9:=⟨Tryz.underlying70⟩
instance tu70:TU Tryz.prog 70 (.slice 9):=⟨Tryz.underlying70⟩
instance ts70:TS Tryz.prog 70 (.slice none 0 0) 1 24:=⟨by kernel_rfl⟩
instance tu78:TU Tryz.prog 78 (.pointer 85):=⟨Tryz.underlying78⟩
instance ts78:TS Tryz.prog 78 (.pointer none) 1 8:=⟨by kernel_rfl⟩
instance : TSl Tryz.prog 83 48:=⟨Tryz.underlying83⟩
instance tu83:TU Tryz.prog 83 (.slice 48):=⟨Tryz.underlying83⟩
instance ts83:TS Tryz.prog 83 (.slice none 0 0) 1 24:=⟨by kernel_rfl⟩
instance ts85:TS Tryz.prog 85 (.agg #[.slice none 0 0,.slice none 0 0,.slice none 0 0,.slice none 0 0,.slice none 0 0,.slice none 0 0]) 6 144:=⟨by kernel_rfl⟩
instance tu99:TU Tryz.prog 99 (.struct #[{ name := "Id", type:=3,offset:=0,embedded:=false,tag := "", pkgPath := "", byteOffset:=0 },{ name := "Lines", type:=67,offset:=1,embedded:=false,tag := "", pkgPath := "", byteOffset:=8 }]):=⟨Tryz.underlying99⟩
instance ts99:TS Tryz.prog 99 (.agg #[.int .i64 0,.slice none 0 0]) 2 32:=⟨by kernel_rfl⟩
instance tu109:TU Tryz.prog 109 (.struct #[{ name := "Id", type:=3,offset:=0,embedded:=false,tag := "", pkgPath := "", byteOffset:=0 },{ name := "Post", type:=3,offset:=1,embedded:=false,tag := "", pkgPath := "", byteOffset:=8 },{ name := "Rate", type:=3,offset:=2,embedded:=false,tag := "", pkgPath := "", byteOffset:=16 }]):=⟨Tryz.underlying109⟩
instance ts109:TS Tryz.prog 109 (.agg #[.int .i64 0,.int .i64 0,.int .i64 0]) 3 24:=⟨by kernel_rfl⟩
instance tu110:TU Tryz.prog 110 (.func #[3,3] #[3] false):=⟨Tryz.underlying110⟩
instance ts110:TS Tryz.prog 110 (.nilFunc) 1 8:=⟨by kernel_rfl⟩
instance tu112:TU Tryz.prog 112 (.struct #[{ name := "Chapter", type:=3,offset:=0,embedded:=false,tag := "", pkgPath := "", byteOffset:=0 },{ name := "Line", type:=3,offset:=1,embedded:=false,tag := "", pkgPath := "", byteOffset:=8 },{ name := "Word", type:=3,offset:=2,embedded:=false,tag := "", pkgPath := "", byteOffset:=16 }]):=⟨Tryz.underlying112⟩
instance ts112:TS Tryz.prog 112 (.agg #[.int .i64 0,.int .i64 0,.int .i64 0]) 3 24:=⟨by kernel_rfl⟩
instance : TSl Tryz.prog 115 177:=⟨Tryz.underlying115⟩
instance tu115:TU Tryz.prog 115 (.slice 177):=⟨Tryz.underlying115⟩
instance ts115:TS Tryz.prog 115 (.slice none 0 0) 1 24:=⟨by kernel_rfl⟩
instance tu117:TU Tryz.prog 117 (.struct #[{ name := "Id", type:=3,offset:=0,embedded:=false,tag := "", pkgPath := "", byteOffset:=0 },{ name := "Stretches", type:=115,offset:=1,embedded:=false,tag := "", pkgPath := "", byteOffset:=8 }]):=⟨Tryz.underlying117⟩
instance ts117:TS Tryz.prog 117 (.agg #[.int .i64 0,.slice none 0 0]) 2 32:=⟨by kernel_rfl⟩
instance : TSl Tryz.prog 121 186:=⟨Tryz.underlying121⟩
instance tu121:TU Tryz.prog 121 (.slice 186):=⟨Tryz.underlying121⟩
instance ts121:TS Tryz.prog 121 (.slice none 0 0) 1 24:=⟨by kernel_rfl⟩
instance tu123:TU Tryz.prog 123 (.struct #[{ name := "Id", type:=3,offset:=0,embedded:=false,tag := "", pkgPath := "", byteOffset:=0 },{ name := "Readings", type:=121,offset:=1,embedded:=false,tag := "", pkgPath := "", byteOffset:=8 }]):=⟨Tryz.underlying123⟩
instance ts123:TS Tryz.prog 123 (.agg #[.int .i64 0,.slice none 0 0]) 2 32:=⟨by kernel_rfl⟩
instance tu133:TU Tryz.prog 133 (.struct #[{ name := "Cut", type:=31,offset:=0,embedded:=true,tag := "", pkgPath := "", byteOffset:=0 },{ name := "words", type:=70,offset:=2,embedded:=false,tag := "", pkgPath := "postil/slip", byteOffset:=16 },{ name := "at", type:=83,offset:=3,embedded:=false,tag := "", pkgPath := "postil/slip", byteOffset:=40 }]):=⟨Tryz.underlying133⟩
instance ts133:TS Tryz.prog 133 (.agg #[.int .i64 0,.int .u8 0,.slice none 0 0,.slice none 0 0]) 4 64:=⟨by kernel_rfl⟩
instance : TSl Tryz.prog 138 146:=⟨Tryz.underlying138⟩
instance tu138:TU Tryz.prog 138 (.slice 146):=⟨Tryz.underlying138⟩
instance ts138:TS Tryz.prog 138 (.slice none 0 0) 1 24:=⟨by kernel_rfl⟩
instance : TArr Tryz.prog 146 2 3:=⟨Tryz.underlying146⟩
instance tu146:TU Tryz.prog 146 (.array 2 3):=⟨Tryz.underlying146⟩
instance ts146:TS Tryz.prog 146 (.agg #[.int .i64 0,.int .i64 0]) 2 16:=⟨by kernel_rfl⟩
instance tu148:TU Tryz.prog 148 (.func #[40] #[3,4] false):=⟨Tryz.underlying148⟩
instance tu151:TU Tryz.prog 151 (.pointer 211):=⟨Tryz.underlying151⟩
instance : TMap Tryz.prog 160 163 3:=⟨Tryz.underlying160⟩
instance tu160:TU Tryz.prog 160 (.map 163 3):=⟨Tryz.underlying160⟩
instance ts160:TS Tryz.prog 160 (.map none) 1 8:=⟨by kernel_rfl⟩
instance tu161:TU Tryz.prog 161 (.func #[163] #[3] false):=⟨Tryz.underlying161⟩
instance ts161:TS Tryz.prog 161 (.nilFunc) 1 8:=⟨by kernel_rfl⟩
instance tu163:TU Tryz.prog 163 (.struct #[{ name := "line", type:=3,offset:=0,embedded:=false,tag := "", pkgPath := "postil/hand", byteOffset:=0 },{ name := "sheet", type:=3,offset:=1,embedded:=false,tag := "", pkgPath := "postil/hand", byteOffset:=8 },{ name := "written", type:=4,offset:=2,embedded:=false,tag := "", pkgPath := "postil/hand", byteOffset:=16 }]):=⟨Tryz.underlying163⟩
instance ts163:TS Tryz.prog 163 (.agg #[.int .i64 0,.int .i64 0,.bool false]) 3 24:=⟨by kernel_rfl⟩
instance tu165:TU Tryz.prog 165 (.func #[67,67,163] #[3,163,4] false):=⟨Tryz.underlying165⟩
instance ts165:TS Tryz.prog 165 (.nilFunc) 1 8:=⟨by kernel_rfl⟩
instance tu167:TU Tryz.prog 167 (.struct #[{ name := "kind", type:=5,offset:=0,embedded:=false,tag := "", pkgPath := "postil/hand", byteOffset:=0 },{ name := "of", type:=165,offset:=1,embedded:=false,tag := "", pkgPath := "postil/hand", byteOffset:=8 }]):=⟨Tryz.underlying167⟩
instance ts167:TS Tryz.prog 167 (.agg #[.int .u8 0,.nilFunc]) 2 16:=⟨by kernel_rfl⟩
instance : TArr Tryz.prog 168 3 167:=⟨Tryz.underlying168⟩
instance tu168:TU Tryz.prog 168 (.array 3 167):=⟨Tryz.underlying168⟩
instance ts168:TS Tryz.prog 168 (.agg #[.int .u8 0,.nilFunc,.int .u8 0,.nilFunc,.int .u8 0,.nilFunc]) 6 48:=⟨by kernel_rfl⟩
instance tu171:TU Tryz.prog 171 (.pointer 219):=⟨Tryz.underlying171⟩
instance ts171:TS Tryz.prog 171 (.pointer none) 1 8:=⟨by kernel_rfl⟩
instance tu177:TU Tryz.prog 177 (.struct #[{ name := "Chapter", type:=3,offset:=0,embedded:=false,tag := "", pkgPath := "", byteOffset:=0 },{ name := "From", type:=3,offset:=1,embedded:=false,tag := "", pkgPath := "", byteOffset:=8 },{ name := "To", type:=3,offset:=2,embedded:=false,tag := "", pkgPath := "", byteOffset:=16 },{ name := "As", type:=3,offset:=3,embedded:=false,tag := "", pkgPath := "", byteOffset:=24 },{ name := "First", type:=3,offset:=4,embedded:=false,tag := "", pkgPath := "", byteOffset:=32 }]):=⟨Tryz.underlying177⟩
instance ts177:TS Tryz.prog 177 (.agg #[.int .i64 0,.int .i64 0,.int .i64 0,.int .i64 0,.int .i64 0]) 5 40:=⟨by kernel_rfl⟩
instance : TSl Tryz.prog 178 171:=⟨Tryz.underlying178⟩
instance tu186:TU Tryz.prog 186 (.struct #[{ name := "At", type:=48,offset:=0,embedded:=false,tag := "", pkgPath := "", byteOffset:=0 },{ name := "Kind", type:=5,offset:=3,embedded:=false,tag := "", pkgPath := "", byteOffset:=24 },{ name := "Word", type:=9,offset:=4,embedded:=false,tag := "", pkgPath := "", byteOffset:=32 }]):=⟨Tryz.underlying186⟩
instance ts186:TS Tryz.prog 186 (.agg #[.int .i64 0,.int .i64 0,.int .i64 0,.int .u8 0,.string ⟨#[]⟩]) 5 48:=⟨by kernel_rfl⟩
instance tu192:TU Tryz.prog 192 (.struct #[{ name := "from", type:=3,offset:=0,embedded:=false,tag := "", pkgPath := "postil/slip", byteOffset:=0 },{ name := "word", type:=3,offset:=1,embedded:=false,tag := "", pkgPath := "postil/slip", byteOffset:=8 },{ name := "to", type:=3,offset:=2,embedded:=false,tag := "", pkgPath := "postil/slip", byteOffset:=16 },{ name := "length", type:=3,offset:=3,embedded:=false,tag := "", pkgPath := "postil/slip", byteOffset:=24 }]):=⟨Tryz.underlying192⟩
instance ts192:TS Tryz.prog 192 (.agg #[.int .i64 0,.int .i64 0,.int .i64 0,.int .i64 0]) 4 32:=⟨by kernel_rfl⟩
instance tu197:TU Tryz.prog 197 (.func #[192,192] #[3] false):=⟨Tryz.underlying197⟩
instance ts197:TS Tryz.prog 197 (.nilFunc) 1 8:=⟨by kernel_rfl⟩
instance ts198:TS Tryz.prog 198 (.agg #[.nilFunc]) 1 8:=⟨by kernel_rfl⟩
instance : TArr Tryz.prog 199 4 198:=⟨Tryz.underlying199⟩
instance : TArr Tryz.prog 201 2 46:=⟨Tryz.underlying201⟩
instance ts201:TS Tryz.prog 201 (.agg #[.int .i64 0,.int .i64 0,.int .i64 0,.int .i64 0,.int .i64 0,.int .i64 0,.int .i64 0,.int .i64 0]) 8 64:=⟨by kernel_rfl⟩
instance tu206:TU Tryz.prog 206 (.func #[40] #[4] false):=⟨Tryz.underlying206⟩
instance ts206:TS Tryz.prog 206 (.nilFunc) 1 8:=⟨by kernel_rfl⟩
instance ts211:TS Tryz.prog 211 (.agg #[.slice none 0 0]) 1 24:=⟨by kernel_rfl⟩
instance : TArr Tryz.prog 215 2 3:=⟨Tryz.underlying215⟩
instance tu215:TU Tryz.prog 215 (.array 2 3):=⟨Tryz.underlying215⟩
instance ts215:TS Tryz.prog 215 (.agg #[.int .i64 0,.int .i64 0]) 2 16:=⟨by kernel_rfl⟩
instance : TMap Tryz.prog 217 215 215:=⟨Tryz.underlying217⟩
instance tu217:TU Tryz.prog 217 (.map 215 215):=⟨Tryz.underlying217⟩
instance ts217:TS Tryz.prog 217 (.map none) 1 8:=⟨by kernel_rfl⟩
instance ts219:TS Tryz.prog 219 (.agg #[.int .i64 0,.slice none 0 0,.slice none 0 0,.map none,.map none]) 5 72:=⟨by kernel_rfl⟩
instance : TSl Tryz.prog 220 117:=⟨Tryz.underlying220⟩
instance : TMap Tryz.prog 224 48 121:=⟨Tryz.underlying224⟩
instance tu226:TU Tryz.prog 226 (.func #[9,9] #[4] false):=⟨Tryz.underlying226⟩
instance ts226:TS Tryz.prog 226 (.nilFunc) 1 8:=⟨by kernel_rfl⟩
instance tu227:TU Tryz.prog 227 (.func #[9,9] #[70] false):=⟨Tryz.underlying227⟩
instance ts227:TS Tryz.prog 227 (.nilFunc) 1 8:=⟨by kernel_rfl⟩
instance tu229:TU Tryz.prog 229 (.struct #[{ name := "behind", type:=3,offset:=0,embedded:=false,tag := "", pkgPath := "postil/leaf", byteOffset:=0 },{ name := "right", type:=226,offset:=1,embedded:=false,tag := "", pkgPath := "postil/leaf", byteOffset:=8 },{ name := "makes", type:=227,offset:=2,embedded:=false,tag := "", pkgPath := "postil/leaf", byteOffset:=16 }]):=⟨Tryz.underlying229⟩
instance ts229:TS Tryz.prog 229 (.agg #[.int .i64 0,.nilFunc,.nilFunc]) 3 24:=⟨by kernel_rfl⟩
instance : TArr Tryz.prog 230 4 229:=⟨Tryz.underlying230⟩
instance : TSl Tryz.prog 234 5:=⟨Tryz.underlying234⟩
instance tu255:TU Tryz.prog 255 (.func #[24,177] #[4] false):=⟨Tryz.underlying255⟩
instance ts255:TS Tryz.prog 255 (.nilFunc) 1 8:=⟨by kernel_rfl⟩
instance tu261:TU Tryz.prog 261 (.struct #[{ name := "right", type:=255,offset:=0,embedded:=false,tag := "", pkgPath := "postil/chart", byteOffset:=0 }]):=⟨Tryz.underlying261⟩
instance ts261:TS Tryz.prog 261 (.agg #[.nilFunc]) 1 8:=⟨by kernel_rfl⟩
instance : TArr Tryz.prog 262 3 261:=⟨Tryz.underlying262⟩
instance tu262:TU Tryz.prog 262 (.array 3 261):=⟨Tryz.underlying262⟩
instance ts262:TS Tryz.prog 262 (.agg #[.nilFunc,.nilFunc,.nilFunc]) 3 24:=⟨by kernel_rfl⟩
instance tu284:TU Tryz.prog 284 (.struct #[{ name := "kind", type:=5,offset:=0,embedded:=false,tag := "", pkgPath := "postil/leaf", byteOffset:=0 },{ name := "one", type:=3,offset:=1,embedded:=false,tag := "", pkgPath := "postil/leaf", byteOffset:=8 },{ name := "two", type:=3,offset:=2,embedded:=false,tag := "", pkgPath := "postil/leaf", byteOffset:=16 }]):=⟨Tryz.underlying284⟩
instance ts284:TS Tryz.prog 284 (.agg #[.int .u8 0,.int .i64 0,.int .i64 0]) 3 24:=⟨by kernel_rfl⟩
instance : TArr Tryz.prog 285 3 284:=⟨Tryz.underlying285⟩
instance tu285:TU Tryz.prog 285 (.array 3 284):=⟨Tryz.underlying285⟩
instance ts285:TS Tryz.prog 285 (.agg #[.int .u8 0,.int .i64 0,.int .i64 0,.int .u8 0,.int .i64 0,.int .i64 0,.int .u8 0,.int .i64 0,.int .i64 0]) 9 72:=⟨by kernel_rfl⟩
instance : TMap Tryz.prog 286 146 3:=⟨Tryz.underlying286⟩
instance tu286:TU Tryz.prog 286 (.map 146 3):=⟨Tryz.underlying286⟩
instance ts286:TS Tryz.prog 286 (.map none) 1 8:=⟨by kernel_rfl⟩
instance tu287:TU Tryz.prog 287 (.func #[3,3] #[284,3] false):=⟨Tryz.underlying287⟩
instance ts287:TS Tryz.prog 287 (.nilFunc) 1 8:=⟨by kernel_rfl⟩
instance : TB Tryz.prog 24 [.slice none 0 0] (fun i=>([(0,1)]:List (Nat×Nat))[i]?):=TB.struct Tryz.underlying24 ts24 (by kernel_rfl)
instance : FA Tryz.prog 24 0 0:=⟨_,_,_,_,_,Tryz.underlying24,rfl,rfl,ts22⟩
instance : FV Tryz.prog 24 0 0:=⟨_,_,_,Tryz.underlying24,rfl,rfl,tu22,rfl⟩
instance : TB Tryz.prog 29 [.slice none 0 0,.slice none 0 0,.slice none 0 0,.slice none 0 0] (fun i=>([(0,1),(1,1),(2,1),(3,1)]:List (Nat×Nat))[i]?):=TB.struct Tryz.underlying29 ts29 (by kernel_rfl)
instance : FA Tryz.prog 29 0 0:=⟨_,_,_,_,_,Tryz.underlying29,rfl,rfl,ts24⟩
instance : FA Tryz.prog 29 1 1:=⟨_,_,_,_,_,Tryz.underlying29,rfl,rfl,ts25⟩
instance : FA Tryz.prog 29 2 2:=⟨_,_,_,_,_,Tryz.underlying29,rfl,rfl,ts26⟩
instance : FA Tryz.prog 29 3 3:=⟨_,_,_,_,_,Tryz.underlying29,rfl,rfl,ts27⟩
instance : TB Tryz.prog 31 [.int .i64 0,.int .u8 0] (fun i=>([(0,1),(1,1)]:List (Nat×Nat))[i]?):=TB.struct Tryz.underlying31 ts31 (by kernel_rfl)
instance : FA Tryz.prog 31 0 0:=⟨_,_,_,_,_,Tryz.underlying31,rfl,rfl,ts3⟩
instance : FA Tryz.prog 31 1 1:=⟨_,_,_,_,_,Tryz.underlying31,rfl,rfl,ts5⟩
instance : TB Tryz.prog 46 [.int .i64 0,.int .i64 0,.int .i64 0,.int .i64 0] (fun i=>([(0,1),(1,1),(2,1),(3,1)]:List (Nat×Nat))[i]?):=TB.struct Tryz.underlying46 ts46 (by kernel_rfl)
instance : FA Tryz.prog 46 0 0:=⟨_,_,_,_,_,Tryz.underlying46,rfl,rfl,ts3⟩
instance : FA Tryz.prog 46 1 1:=⟨_,_,_,_,_,Tryz.underlying46,rfl,rfl,ts3⟩
instance : FA Tryz.prog 46 2 2:=⟨_,_,_,_,_,Tryz.underlying46,rfl,rfl,ts3⟩
instance : FA Tryz.prog 46 3 3:=⟨_,_,_,_,_,Tryz.underlying46,rfl,rfl,ts3⟩
instance : TB Tryz.prog 48 [.int .i64 0,.int .i64 0,.int .i64 0] (fun i=>([(0,1),(1,1),(2,1)]:List (Nat×Nat))[i]?):=TB.struct Tryz.underlying48 ts48 (by kernel_rfl)
instance : FA Tryz.prog 48 0 0:=⟨_,_,_,_,_,Tryz.underlying48,rfl,rfl,ts3⟩
instance : FA Tryz.prog 48 1 1:=⟨_,_,_,_,_,Tryz.underlying48,rfl,rfl,ts3⟩
instance : FA Tryz.prog 48 2 2:=⟨_,_,_,_,_,Tryz.underlying48,rfl,rfl,ts3⟩
instance : TB Tryz.prog 53 [.int .i64 0,.int .i64 0,.int .i64 0,.string ⟨#[]⟩,.string ⟨#[]⟩,.string ⟨#[]⟩] (fun i=>([(0,3),(3,1),(4,1),(5,1)]:List (Nat×Nat))[i]?):=TB.struct Tryz.underlying53 ts53 (by kernel_rfl)
instance : FA Tryz.prog 53 0 0:=⟨_,_,_,_,_,Tryz.underlying53,rfl,rfl,ts48⟩
instance : FA Tryz.prog 53 1 3:=⟨_,_,_,_,_,Tryz.underlying53,rfl,rfl,ts9⟩
instance : TB Tryz.prog 66 [.int .u8 0,.int .i64 0,.int .i64 0] (fun i=>([(0,1),(1,1),(2,1)]:List (Nat×Nat))[i]?):=TB.struct Tryz.underlying66 ts66 (by kernel_rfl)
instance : FA Tryz.prog 66 2 2:=⟨_,_,_,_,_,Tryz.underlying66,rfl,rfl,ts3⟩
instance : TB Tryz.prog 69 [.bool false,.slice none 0 0] (fun i=>([(0,1),(1,1)]:List (Nat×Nat))[i]?):=TB.struct Tryz.underlying69 ts69 (by kernel_rfl)
instance : FA Tryz.prog 69 0 0:=⟨_,_,_,_,_,Tryz.underlying69,rfl,rfl,ts4⟩
instance : FA Tryz.prog 69 1 1:=⟨_,_,_,_,_,Tryz.underlying69,rfl,rfl,ts67⟩
instance : TB Tryz.prog 85 [.slice none 0 0,.slice none 0 0,.slice none 0 0,.slice none 0 0,.slice none 0 0,.slice none 0 0] (fun i=>([(0,4),(4,1),(5,1)]:List (Nat×Nat))[i]?):=TB.struct Tryz.underlying85 ts85 (by kernel_rfl)
instance : FA Tryz.prog 85 0 0:=⟨_,_,_,_,_,Tryz.underlying85,rfl,rfl,ts29⟩
instance : FA Tryz.prog 85 1 4:=⟨_,_,_,_,_,Tryz.underlying85,rfl,rfl,ts67⟩
instance : FA Tryz.prog 85 2 5:=⟨_,_,_,_,_,Tryz.underlying85,rfl,rfl,ts83⟩
instance : TB Tryz.prog 99 [.int .i64 0,.slice none 0 0] (fun i=>([(0,1),(1,1)]:List (Nat×Nat))[i]?):=TB.struct Tryz.underlying99 ts99 (by kernel_rfl)
instance : FA Tryz.prog 99 0 0:=⟨_,_,_,_,_,Tryz.underlying99,rfl,rfl,ts3⟩
instance : FA Tryz.prog 99 1 1:=⟨_,_,_,_,_,Tryz.underlying99,rfl,rfl,ts67⟩
instance : TB Tryz.prog 109 [.int .i64 0,.int .i64 0,.int .i64 0] (fun i=>([(0,1),(1,1),(2,1)]:List (Nat×Nat))[i]?):=TB.struct Tryz.underlying109 ts109 (by kernel_rfl)
instance : FA Tryz.prog 109 0 0:=⟨_,_,_,_,_,Tryz.underlying109,rfl,rfl,ts3⟩
instance : FA Tryz.prog 109 1 1:=⟨_,_,_,_,_,Tryz.underlying109,rfl,rfl,ts3⟩
instance : FA Tryz.prog 109 2 2:=⟨_,_,_,_,_,Tryz.underlying109,rfl,rfl,ts3⟩
instance : TB Tryz.prog 112 [.int .i64 0,.int .i64 0,.int .i64 0] (fun i=>([(0,1),(1,1),(2,1)]:List (Nat×Nat))[i]?):=TB.struct Tryz.underlying112 ts112 (by kernel_rfl)
instance : FA Tryz.prog 112 0 0:=⟨_,_,_,_,_,Tryz.underlying112,rfl,rfl,ts3⟩
instance : FA Tryz.prog 112 1 1:=⟨_,_,_,_,_,Tryz.underlying112,rfl,rfl,ts3⟩
instance : FA Tryz.prog 112 2 2:=⟨_,_,_,_,_,Tryz.underlying112,rfl,rfl,ts3⟩
instance : TB Tryz.prog 117 [.int .i64 0,.slice none 0 0] (fun i=>([(0,1),(1,1)]:List (Nat×Nat))[i]?):=TB.struct Tryz.underlying117 ts117 (by kernel_rfl)
instance : FA Tryz.prog 117 0 0:=⟨_,_,_,_,_,Tryz.underlying117,rfl,rfl,ts3⟩
instance : FA Tryz.prog 117 1 1:=⟨_,_,_,_,_,Tryz.underlying117,rfl,rfl,ts115⟩
instance : TB Tryz.prog 123 [.int .i64 0,.slice none 0 0] (fun i=>([(0,1),(1,1)]:List (Nat×Nat))[i]?):=TB.struct Tryz.underlying123 ts123 (by kernel_rfl)
instance : FA Tryz.prog 123 0 0:=⟨_,_,_,_,_,Tryz.underlying123,rfl,rfl,ts3⟩
instance : FA Tryz.prog 123 1 1:=⟨_,_,_,_,_,Tryz.underlying123,rfl,rfl,ts121⟩
instance : TB Tryz.prog 133 [.int .i64 0,.int .u8 0,.slice none 0 0,.slice none 0 0] (fun i=>([(0,2),(2,1),(3,1)]:List (Nat×Nat))[i]?):=TB.struct Tryz.underlying133 ts133 (by kernel_rfl)
instance : FA Tryz.prog 133 0 0:=⟨_,_,_,_,_,Tryz.underlying133,rfl,rfl,ts31⟩
instance : FA Tryz.prog 133 1 2:=⟨_,_,_,_,_,Tryz.underlying133,rfl,rfl,ts70⟩
instance : FA Tryz.prog 133 2 3:=⟨_,_,_,_,_,Tryz.underlying133,rfl,rfl,ts83⟩
instance : TB Tryz.prog 146 [.int .i64 0,.int .i64 0] (fun i=>some (i * 1,1)):=TB.array Tryz.underlying146 ts146 ts3
instance : TB Tryz.prog 163 [.int .i64 0,.int .i64 0,.bool false] (fun i=>([(0,1),(1,1),(2,1)]:List (Nat×Nat))[i]?):=TB.struct Tryz.underlying163 ts163 (by kernel_rfl)
instance : FA Tryz.prog 163 0 0:=⟨_,_,_,_,_,Tryz.underlying163,rfl,rfl,ts3⟩
instance : FA Tryz.prog 163 1 1:=⟨_,_,_,_,_,Tryz.underlying163,rfl,rfl,ts3⟩
instance : FA Tryz.prog 163 2 2:=⟨_,_,_,_,_,Tryz.underlying163,rfl,rfl,ts4⟩
instance : FA Tryz.prog 167 0 0:=⟨_,_,_,_,_,Tryz.underlying167,rfl,rfl,ts5⟩
instance : FA Tryz.prog 167 1 1:=⟨_,_,_,_,_,Tryz.underlying167,rfl,rfl,ts165⟩
instance : TB Tryz.prog 177 [.int .i64 0,.int .i64 0,.int .i64 0,.int .i64 0,.int .i64 0] (fun i=>([(0,1),(1,1),(2,1),(3,1),(4,1)]:List (Nat×Nat))[i]?):=TB.struct Tryz.underlying177 ts177 (by kernel_rfl)
instance : FA Tryz.prog 177 0 0:=⟨_,_,_,_,_,Tryz.underlying177,rfl,rfl,ts3⟩
instance : FA Tryz.prog 177 1 1:=⟨_,_,_,_,_,Tryz.underlying177,rfl,rfl,ts3⟩
instance : FA Tryz.prog 177 2 2:=⟨_,_,_,_,_,Tryz.underlying177,rfl,rfl,ts3⟩
instance : FA Tryz.prog 177 3 3:=⟨_,_,_,_,_,Tryz.underlying177,rfl,rfl,ts3⟩
instance : FA Tryz.prog 177 4 4:=⟨_,_,_,_,_,Tryz.underlying177,rfl,rfl,ts3⟩
instance : TB Tryz.prog 186 [.int .i64 0,.int .i64 0,.int .i64 0,.int .u8 0,.string ⟨#[]⟩] (fun i=>([(0,3),(3,1),(4,1)]:List (Nat×Nat))[i]?):=TB.struct Tryz.underlying186 ts186 (by kernel_rfl)
instance : FA Tryz.prog 186 0 0:=⟨_,_,_,_,_,Tryz.underlying186,rfl,rfl,ts48⟩
instance : FA Tryz.prog 186 1 3:=⟨_,_,_,_,_,Tryz.underlying186,rfl,rfl,ts5⟩
instance : FA Tryz.prog 186 2 4:=⟨_,_,_,_,_,Tryz.underlying186,rfl,rfl,ts9⟩
instance : TB Tryz.prog 192 [.int .i64 0,.int .i64 0,.int .i64 0,.int .i64 0] (fun i=>([(0,1),(1,1),(2,1),(3,1)]:List (Nat×Nat))[i]?):=TB.struct Tryz.underlying192 ts192 (by kernel_rfl)
instance : FA Tryz.prog 192 0 0:=⟨_,_,_,_,_,Tryz.underlying192,rfl,rfl,ts3⟩
instance : FA Tryz.prog 192 1 1:=⟨_,_,_,_,_,Tryz.underlying192,rfl,rfl,ts3⟩
instance : FA Tryz.prog 192 2 2:=⟨_,_,_,_,_,Tryz.underlying192,rfl,rfl,ts3⟩
instance : FA Tryz.prog 192 3 3:=⟨_,_,_,_,_,Tryz.underlying192,rfl,rfl,ts3⟩
instance : FA Tryz.prog 198 0 0:=⟨_,_,_,_,_,Tryz.underlying198,rfl,rfl,ts197⟩
instance : TB Tryz.prog 201 [.int .i64 0,.int .i64 0,.int .i64 0,.int .i64 0,.int .i64 0,.int .i64 0,.int .i64 0,.int .i64 0] (fun i=>some (i * 4,4)):=TB.array Tryz.underlying201 ts201 ts46
instance : TB Tryz.prog 211 [.slice none 0 0] (fun i=>([(0,1)]:List (Nat×Nat))[i]?):=TB.struct Tryz.underlying211 ts211 (by kernel_rfl)
instance : FA Tryz.prog 211 0 0:=⟨_,_,_,_,_,Tryz.underlying211,rfl,rfl,ts24⟩
instance : TB Tryz.prog 215 [.int .i64 0,.int .i64 0] (fun i=>some (i * 1,1)):=TB.array Tryz.underlying215 ts215 ts3
instance : TB Tryz.prog 219 [.int .i64 0,.slice none 0 0,.slice none 0 0,.map none,.map none] (fun i=>([(0,2),(2,1),(3,1),(4,1)]:List (Nat×Nat))[i]?):=TB.struct Tryz.underlying219 ts219 (by kernel_rfl)
instance : FA Tryz.prog 219 1 2:=⟨_,_,_,_,_,Tryz.underlying219,rfl,rfl,ts24⟩
instance : FA Tryz.prog 219 2 3:=⟨_,_,_,_,_,Tryz.underlying219,rfl,rfl,ts217⟩
instance : FA Tryz.prog 219 3 4:=⟨_,_,_,_,_,Tryz.underlying219,rfl,rfl,ts217⟩
instance : FA Tryz.prog 229 0 0:=⟨_,_,_,_,_,Tryz.underlying229,rfl,rfl,ts3⟩
instance : FA Tryz.prog 229 1 1:=⟨_,_,_,_,_,Tryz.underlying229,rfl,rfl,ts226⟩
instance : FA Tryz.prog 229 2 2:=⟨_,_,_,_,_,Tryz.underlying229,rfl,rfl,ts227⟩
instance : FA Tryz.prog 261 0 0:=⟨_,_,_,_,_,Tryz.underlying261,rfl,rfl,ts255⟩
instance : TB Tryz.prog 284 [.int .u8 0,.int .i64 0,.int .i64 0] (fun i=>([(0,1),(1,1),(2,1)]:List (Nat×Nat))[i]?):=TB.struct Tryz.underlying284 ts284 (by kernel_rfl)
instance : FA Tryz.prog 284 0 0:=⟨_,_,_,_,_,Tryz.underlying284,rfl,rfl,ts5⟩
instance : FA Tryz.prog 284 1 1:=⟨_,_,_,_,_,Tryz.underlying284,rfl,rfl,ts3⟩
instance : FA Tryz.prog 284 2 2:=⟨_,_,_,_,_,Tryz.underlying284,rfl,rfl,ts3⟩
instance : TB Tryz.prog 285 [.int .u8 0,.int .i64 0,.int .i64 0,.int .u8 0,.int .i64 0,.int .i64 0,.int .u8 0,.int .i64 0,.int .i64 0] (fun i=>some (i * 3,3)):=TB.array Tryz.underlying285 ts285 ts284
instance : KeyL Tryz.prog 3 (Value.int .i64):=keyL_int Tryz.underlying3
noncomputable def c3:Code:=Tryz.f3.body.getD .skip
instance : FnI Tryz.prog 3 Tryz.f3 c3 258:=⟨Tryz.func3,by kernel_rfl,Tryz.ntmps3⟩
noncomputable def c4:Code:=Tryz.f4.body.getD .skip
instance : FnI Tryz.prog 4 Tryz.f4 c4 58:=⟨Tryz.func4,by kernel_rfl,Tryz.ntmps4⟩
instance : Enters Tryz.prog 4:=⟨Tryz.call4⟩
noncomputable def c5:Code:=Tryz.f5.body.getD .skip
instance : FnI Tryz.prog 5 Tryz.f5 c5 92:=⟨Tryz.func5,by kernel_rfl,Tryz.ntmps5⟩
instance : Enters Tryz.prog 5:=⟨Tryz.call5⟩
noncomputable def c6:Code:=Tryz.f6.body.getD .skip
instance : FnI Tryz.prog 6 Tryz.f6 c6 13:=⟨Tryz.func6,by kernel_rfl,Tryz.ntmps6⟩
instance : Enters Tryz.prog 6:=⟨Tryz.call6⟩
noncomputable def c7:Code:=Tryz.f7.body.getD .skip
instance : FnI Tryz.prog 7 Tryz.f7 c7 12:=⟨Tryz.func7,by kernel_rfl,Tryz.ntmps7⟩
instance : Enters Tryz.prog 7:=⟨Tryz.call7⟩
noncomputable def c8:Code:=Tryz.f8.body.getD .skip
instance : FnI Tryz.prog 8 Tryz.f8 c8 17:=⟨Tryz.func8,by kernel_rfl,Tryz.ntmps8⟩
instance : Enters Tryz.prog 8:=⟨Tryz.call8⟩
noncomputable def c9:Code:=Tryz.f9.body.getD .skip
instance : FnI Tryz.prog 9 Tryz.f9 c9 38:=⟨Tryz.func9,by kernel_rfl,Tryz.ntmps9⟩
instance : Enters Tryz.prog 9:=⟨Tryz.call9⟩
noncomputable def c10:Code:=Tryz.f10.body.getD .skip
instance : FnI Tryz.prog 10 Tryz.f10 c10 77:=⟨Tryz.func10,by kernel_rfl,Tryz.ntmps10⟩
instance : Enters Tryz.prog 10:=⟨Tryz.call10⟩
noncomputable def c11:Code:=Tryz.f11.body.getD .skip
instance : FnI Tryz.prog 11 Tryz.f11 c11 76:=⟨Tryz.func11,by kernel_rfl,Tryz.ntmps11⟩
instance : Enters Tryz.prog 11:=⟨Tryz.call11⟩
noncomputable def c12:Code:=Tryz.f12.body.getD .skip
instance : FnI Tryz.prog 12 Tryz.f12 c12 70:=⟨Tryz.func12,by kernel_rfl,Tryz.ntmps12⟩
instance : Enters Tryz.prog 12:=⟨Tryz.call12⟩
noncomputable def c13:Code:=Tryz.f13.body.getD .skip
instance : FnI Tryz.prog 13 Tryz.f13 c13 85:=⟨Tryz.func13,by kernel_rfl,Tryz.ntmps13⟩
instance : Enters Tryz.prog 13:=⟨Tryz.call13⟩
noncomputable def c14:Code:=Tryz.f14.body.getD .skip
instance : FnI Tryz.prog 14 Tryz.f14 c14 67:=⟨Tryz.func14,by kernel_rfl,Tryz.ntmps14⟩
instance : Enters Tryz.prog 14:=⟨Tryz.call14⟩
noncomputable def c15:Code:=Tryz.f15.body.getD .skip
instance : FnI Tryz.prog 15 Tryz.f15 c15 13:=⟨Tryz.func15,by kernel_rfl,Tryz.ntmps15⟩
instance : Enters Tryz.prog 15:=⟨Tryz.call15⟩
noncomputable def c16:Code:=Tryz.f16.body.getD .skip
instance : FnI Tryz.prog 16 Tryz.f16 c16 73:=⟨Tryz.func16,by kernel_rfl,Tryz.ntmps16⟩
instance : Enters Tryz.prog 16:=⟨Tryz.call16⟩
noncomputable def c17:Code:=Tryz.f17.body.getD .skip
instance : FnI Tryz.prog 17 Tryz.f17 c17 94:=⟨Tryz.func17,by kernel_rfl,Tryz.ntmps17⟩
instance : Enters Tryz.prog 17:=⟨Tryz.call17⟩
noncomputable def c18:Code:=Tryz.f18.body.getD .skip
instance : FnI Tryz.prog 18 Tryz.f18 c18 26:=⟨Tryz.func18,by kernel_rfl,Tryz.ntmps18⟩
instance : Enters Tryz.prog 18:=⟨Tryz.call18⟩
noncomputable def c19:Code:=Tryz.f19.body.getD .skip
instance : FnI Tryz.prog 19 Tryz.f19 c19 75:=⟨Tryz.func19,by kernel_rfl,Tryz.ntmps19⟩
instance : Enters Tryz.prog 19:=⟨Tryz.call19⟩
noncomputable def c20:Code:=Tryz.f20.body.getD .skip
instance : FnI Tryz.prog 20 Tryz.f20 c20 6:=⟨Tryz.func20,by kernel_rfl,Tryz.ntmps20⟩
instance : Enters Tryz.prog 20:=⟨Tryz.call20⟩
noncomputable def c21:Code:=Tryz.f21.body.getD .skip
instance : FnI Tryz.prog 21 Tryz.f21 c21 215:=⟨Tryz.func21,by kernel_rfl,Tryz.ntmps21⟩
instance : Enters Tryz.prog 21:=⟨Tryz.call21⟩
noncomputable def c22:Code:=Tryz.f22.body.getD .skip
instance : FnI Tryz.prog 22 Tryz.f22 c22 15:=⟨Tryz.func22,by kernel_rfl,Tryz.ntmps22⟩
instance : Enters Tryz.prog 22:=⟨Tryz.call22⟩
noncomputable def c23:Code:=Tryz.f23.body.getD .skip
instance : FnI Tryz.prog 23 Tryz.f23 c23 13:=⟨Tryz.func23,by kernel_rfl,Tryz.ntmps23⟩
instance : Enters Tryz.prog 23:=⟨Tryz.call23⟩
noncomputable def c24:Code:=Tryz.f24.body.getD .skip
instance : FnI Tryz.prog 24 Tryz.f24 c24 5:=⟨Tryz.func24,by kernel_rfl,Tryz.ntmps24⟩
instance : Enters Tryz.prog 24:=⟨Tryz.call24⟩
noncomputable def c25:Code:=Tryz.f25.body.getD .skip
instance : FnI Tryz.prog 25 Tryz.f25 c25 6:=⟨Tryz.func25,by kernel_rfl,Tryz.ntmps25⟩
instance : Enters Tryz.prog 25:=⟨Tryz.call25⟩
noncomputable def c26:Code:=Tryz.f26.body.getD .skip
instance : FnI Tryz.prog 26 Tryz.f26 c26 18:=⟨Tryz.func26,by kernel_rfl,Tryz.ntmps26⟩
instance : Enters Tryz.prog 26:=⟨Tryz.call26⟩
noncomputable def c27:Code:=Tryz.f27.body.getD .skip
instance : FnI Tryz.prog 27 Tryz.f27 c27 43:=⟨Tryz.func27,by kernel_rfl,Tryz.ntmps27⟩
instance : Enters Tryz.prog 27:=⟨Tryz.call27⟩
noncomputable def c28:Code:=Tryz.f28.body.getD .skip
instance : FnI Tryz.prog 28 Tryz.f28 c28 13:=⟨Tryz.func28,by kernel_rfl,Tryz.ntmps28⟩
instance : Enters Tryz.prog 28:=⟨Tryz.call28⟩
noncomputable def c29:Code:=Tryz.f29.body.getD .skip
instance : FnI Tryz.prog 29 Tryz.f29 c29 16:=⟨Tryz.func29,by kernel_rfl,Tryz.ntmps29⟩
instance : Enters Tryz.prog 29:=⟨Tryz.call29⟩
noncomputable def c30:Code:=Tryz.f30.body.getD .skip
instance : FnI Tryz.prog 30 Tryz.f30 c30 37:=⟨Tryz.func30,by kernel_rfl,Tryz.ntmps30⟩
instance : Enters Tryz.prog 30:=⟨Tryz.call30⟩
noncomputable def c31:Code:=Tryz.f31.body.getD .skip
instance : FnI Tryz.prog 31 Tryz.f31 c31 20:=⟨Tryz.func31,by kernel_rfl,Tryz.ntmps31⟩
instance : Enters Tryz.prog 31:=⟨Tryz.call31⟩
noncomputable def c32:Code:=Tryz.f32.body.getD .skip
instance : FnI Tryz.prog 32 Tryz.f32 c32 9:=⟨Tryz.func32,by kernel_rfl,Tryz.ntmps32⟩
instance : Enters Tryz.prog 32:=⟨Tryz.call32⟩
noncomputable def c33:Code:=Tryz.f33.body.getD .skip
instance : FnI Tryz.prog 33 Tryz.f33 c33 29:=⟨Tryz.func33,by kernel_rfl,Tryz.ntmps33⟩
instance : Enters Tryz.prog 33:=⟨Tryz.call33⟩
noncomputable def c34:Code:=Tryz.f34.body.getD .skip
instance : FnI Tryz.prog 34 Tryz.f34 c34 34:=⟨Tryz.func34,by kernel_rfl,Tryz.ntmps34⟩
instance : Enters Tryz.prog 34:=⟨Tryz.call34⟩
noncomputable def c35:Code:=Tryz.f35.body.getD .skip
instance : FnI Tryz.prog 35 Tryz.f35 c35 28:=⟨Tryz.func35,by kernel_rfl,Tryz.ntmps35⟩
instance : Enters Tryz.prog 35:=⟨Tryz.call35⟩
noncomputable def c36:Code:=Tryz.f36.body.getD .skip
instance : FnI Tryz.prog 36 Tryz.f36 c36 35:=⟨Tryz.func36,by kernel_rfl,Tryz.ntmps36⟩
instance : Enters Tryz.prog 36:=⟨Tryz.call36⟩
noncomputable def c37:Code:=Tryz.f37.body.getD .skip
instance : FnI Tryz.prog 37 Tryz.f37 c37 22:=⟨Tryz.func37,by kernel_rfl,Tryz.ntmps37⟩
instance : Enters Tryz.prog 37:=⟨Tryz.call37⟩
noncomputable def c38:Code:=Tryz.f38.body.getD .skip
instance : FnI Tryz.prog 38 Tryz.f38 c38 15:=⟨Tryz.func38,by kernel_rfl,Tryz.ntmps38⟩
instance : Enters Tryz.prog 38:=⟨Tryz.call38⟩
noncomputable def c39:Code:=Tryz.f39.body.getD .skip
instance : FnI Tryz.prog 39 Tryz.f39 c39 23:=⟨Tryz.func39,by kernel_rfl,Tryz.ntmps39⟩
instance : Enters Tryz.prog 39:=⟨Tryz.call39⟩
noncomputable def c40:Code:=Tryz.f40.body.getD .skip
instance : FnI Tryz.prog 40 Tryz.f40 c40 28:=⟨Tryz.func40,by kernel_rfl,Tryz.ntmps40⟩
instance : Enters Tryz.prog 40:=⟨Tryz.call40⟩
noncomputable def c41:Code:=Tryz.f41.body.getD .skip
instance : FnI Tryz.prog 41 Tryz.f41 c41 6:=⟨Tryz.func41,by kernel_rfl,Tryz.ntmps41⟩
instance : Enters Tryz.prog 41:=⟨Tryz.call41⟩
noncomputable def c42:Code:=Tryz.f42.body.getD .skip
instance : FnI Tryz.prog 42 Tryz.f42 c42 90:=⟨Tryz.func42,by kernel_rfl,Tryz.ntmps42⟩
instance : Enters Tryz.prog 42:=⟨Tryz.call42⟩
noncomputable def c43:Code:=Tryz.f43.body.getD .skip
instance : FnI Tryz.prog 43 Tryz.f43 c43 7:=⟨Tryz.func43,by kernel_rfl,Tryz.ntmps43⟩
instance : Enters Tryz.prog 43:=⟨Tryz.call43⟩
noncomputable def c44:Code:=Tryz.f44.body.getD .skip
instance : FnI Tryz.prog 44 Tryz.f44 c44 25:=⟨Tryz.func44,by kernel_rfl,Tryz.ntmps44⟩
instance : Enters Tryz.prog 44:=⟨Tryz.call44⟩
noncomputable def c45:Code:=Tryz.f45.body.getD .skip
instance : FnI Tryz.prog 45 Tryz.f45 c45 8:=⟨Tryz.func45,by kernel_rfl,Tryz.ntmps45⟩
instance : Enters Tryz.prog 45:=⟨Tryz.call45⟩
noncomputable def c46:Code:=Tryz.f46.body.getD .skip
instance : FnI Tryz.prog 46 Tryz.f46 c46 33:=⟨Tryz.func46,by kernel_rfl,Tryz.ntmps46⟩
instance : Enters Tryz.prog 46:=⟨Tryz.call46⟩
noncomputable def c47:Code:=Tryz.f47.body.getD .skip
instance : FnI Tryz.prog 47 Tryz.f47 c47 4:=⟨Tryz.func47,by kernel_rfl,Tryz.ntmps47⟩
instance : Enters Tryz.prog 47:=⟨Tryz.call47⟩
noncomputable def c48:Code:=Tryz.f48.body.getD .skip
instance : FnI Tryz.prog 48 Tryz.f48 c48 36:=⟨Tryz.func48,by kernel_rfl,Tryz.ntmps48⟩
instance : Enters Tryz.prog 48:=⟨Tryz.call48⟩
noncomputable def c49:Code:=Tryz.f49.body.getD .skip
instance : FnI Tryz.prog 49 Tryz.f49 c49 75:=⟨Tryz.func49,by kernel_rfl,Tryz.ntmps49⟩
instance : Enters Tryz.prog 49:=⟨Tryz.call49⟩
noncomputable def c50:Code:=Tryz.f50.body.getD .skip
instance : FnI Tryz.prog 50 Tryz.f50 c50 7:=⟨Tryz.func50,by kernel_rfl,Tryz.ntmps50⟩
instance : Enters Tryz.prog 50:=⟨Tryz.call50⟩
noncomputable def c51:Code:=Tryz.f51.body.getD .skip
instance : FnI Tryz.prog 51 Tryz.f51 c51 21:=⟨Tryz.func51,by kernel_rfl,Tryz.ntmps51⟩
instance : Enters Tryz.prog 51:=⟨Tryz.call51⟩
noncomputable def c52:Code:=Tryz.f52.body.getD .skip
instance : FnI Tryz.prog 52 Tryz.f52 c52 66:=⟨Tryz.func52,by kernel_rfl,Tryz.ntmps52⟩
instance : Enters Tryz.prog 52:=⟨Tryz.call52⟩
noncomputable def c53:Code:=Tryz.f53.body.getD .skip
instance : FnI Tryz.prog 53 Tryz.f53 c53 15:=⟨Tryz.func53,by kernel_rfl,Tryz.ntmps53⟩
instance : Enters Tryz.prog 53:=⟨Tryz.call53⟩
noncomputable def c54:Code:=Tryz.f54.body.getD .skip
instance : FnI Tryz.prog 54 Tryz.f54 c54 37:=⟨Tryz.func54,by kernel_rfl,Tryz.ntmps54⟩
instance : Enters Tryz.prog 54:=⟨Tryz.call54⟩
noncomputable def c55:Code:=Tryz.f55.body.getD .skip
instance : FnI Tryz.prog 55 Tryz.f55 c55 64:=⟨Tryz.func55,by kernel_rfl,Tryz.ntmps55⟩
instance : Enters Tryz.prog 55:=⟨Tryz.call55⟩
noncomputable def c56:Code:=Tryz.f56.body.getD .skip
instance : FnI Tryz.prog 56 Tryz.f56 c56 13:=⟨Tryz.func56,by kernel_rfl,Tryz.ntmps56⟩
instance : Enters Tryz.prog 56:=⟨Tryz.call56⟩
noncomputable def c57:Code:=Tryz.f57.body.getD .skip
instance : FnI Tryz.prog 57 Tryz.f57 c57 31:=⟨Tryz.func57,by kernel_rfl,Tryz.ntmps57⟩
instance : Enters Tryz.prog 57:=⟨Tryz.call57⟩
noncomputable def c58:Code:=Tryz.f58.body.getD .skip
instance : FnI Tryz.prog 58 Tryz.f58 c58 51:=⟨Tryz.func58,by kernel_rfl,Tryz.ntmps58⟩
instance : Enters Tryz.prog 58:=⟨Tryz.call58⟩
noncomputable def c59:Code:=Tryz.f59.body.getD .skip
instance : FnI Tryz.prog 59 Tryz.f59 c59 38:=⟨Tryz.func59,by kernel_rfl,Tryz.ntmps59⟩
instance : Enters Tryz.prog 59:=⟨Tryz.call59⟩
noncomputable def c60:Code:=Tryz.f60.body.getD .skip
instance : FnI Tryz.prog 60 Tryz.f60 c60 53:=⟨Tryz.func60,by kernel_rfl,Tryz.ntmps60⟩
instance : Enters Tryz.prog 60:=⟨Tryz.call60⟩
noncomputable def c61:Code:=Tryz.f61.body.getD .skip
instance : FnI Tryz.prog 61 Tryz.f61 c61 197:=⟨Tryz.func61,by kernel_rfl,Tryz.ntmps61⟩
instance : Enters Tryz.prog 61:=⟨Tryz.call61⟩
noncomputable def c62:Code:=Tryz.f62.body.getD .skip
instance : FnI Tryz.prog 62 Tryz.f62 c62 11:=⟨Tryz.func62,by kernel_rfl,Tryz.ntmps62⟩
instance : Enters Tryz.prog 62:=⟨Tryz.call62⟩
noncomputable def c63:Code:=Tryz.f63.body.getD .skip
instance : FnI Tryz.prog 63 Tryz.f63 c63 23:=⟨Tryz.func63,by kernel_rfl,Tryz.ntmps63⟩
instance : Enters Tryz.prog 63:=⟨Tryz.call63⟩
noncomputable def c64:Code:=Tryz.f64.body.getD .skip
instance : FnI Tryz.prog 64 Tryz.f64 c64 83:=⟨Tryz.func64,by kernel_rfl,Tryz.ntmps64⟩
instance : Enters Tryz.prog 64:=⟨Tryz.call64⟩
noncomputable def c65:Code:=Tryz.f65.body.getD .skip
instance : FnI Tryz.prog 65 Tryz.f65 c65 31:=⟨Tryz.func65,by kernel_rfl,Tryz.ntmps65⟩
instance : Enters Tryz.prog 65:=⟨Tryz.call65⟩
noncomputable def c66:Code:=Tryz.f66.body.getD .skip
instance : FnI Tryz.prog 66 Tryz.f66 c66 6:=⟨Tryz.func66,by kernel_rfl,Tryz.ntmps66⟩
instance : Enters Tryz.prog 66:=⟨Tryz.call66⟩
noncomputable def c67:Code:=Tryz.f67.body.getD .skip
instance : FnI Tryz.prog 67 Tryz.f67 c67 34:=⟨Tryz.func67,by kernel_rfl,Tryz.ntmps67⟩
instance : Enters Tryz.prog 67:=⟨Tryz.call67⟩
noncomputable def c68:Code:=Tryz.f68.body.getD .skip
instance : FnI Tryz.prog 68 Tryz.f68 c68 9:=⟨Tryz.func68,by kernel_rfl,Tryz.ntmps68⟩
instance : Enters Tryz.prog 68:=⟨Tryz.call68⟩
noncomputable def c69:Code:=Tryz.f69.body.getD .skip
instance : FnI Tryz.prog 69 Tryz.f69 c69 9:=⟨Tryz.func69,by kernel_rfl,Tryz.ntmps69⟩
instance : Enters Tryz.prog 69:=⟨Tryz.call69⟩
noncomputable def c70:Code:=Tryz.f70.body.getD .skip
instance : FnI Tryz.prog 70 Tryz.f70 c70 9:=⟨Tryz.func70,by kernel_rfl,Tryz.ntmps70⟩
instance : Enters Tryz.prog 70:=⟨Tryz.call70⟩
noncomputable def c71:Code:=Tryz.f71.body.getD .skip
instance : FnI Tryz.prog 71 Tryz.f71 c71 30:=⟨Tryz.func71,by kernel_rfl,Tryz.ntmps71⟩
instance : Enters Tryz.prog 71:=⟨Tryz.call71⟩
noncomputable def c72:Code:=Tryz.f72.body.getD .skip
instance : FnI Tryz.prog 72 Tryz.f72 c72 19:=⟨Tryz.func72,by kernel_rfl,Tryz.ntmps72⟩
instance : Enters Tryz.prog 72:=⟨Tryz.call72⟩
noncomputable def c73:Code:=Tryz.f73.body.getD .skip
instance : FnI Tryz.prog 73 Tryz.f73 c73 11:=⟨Tryz.func73,by kernel_rfl,Tryz.ntmps73⟩
instance : Enters Tryz.prog 73:=⟨Tryz.call73⟩
noncomputable def c74:Code:=Tryz.f74.body.getD .skip
instance : FnI Tryz.prog 74 Tryz.f74 c74 8:=⟨Tryz.func74,by kernel_rfl,Tryz.ntmps74⟩
instance : Enters Tryz.prog 74:=⟨Tryz.call74⟩
noncomputable def c75:Code:=Tryz.f75.body.getD .skip
instance : FnI Tryz.prog 75 Tryz.f75 c75 13:=⟨Tryz.func75,by kernel_rfl,Tryz.ntmps75⟩
instance : Enters Tryz.prog 75:=⟨Tryz.call75⟩
noncomputable def c76:Code:=Tryz.f76.body.getD .skip
instance : FnI Tryz.prog 76 Tryz.f76 c76 4:=⟨Tryz.func76,by kernel_rfl,Tryz.ntmps76⟩
instance : Enters Tryz.prog 76:=⟨Tryz.call76⟩
noncomputable def c77:Code:=Tryz.f77.body.getD .skip
instance : FnI Tryz.prog 77 Tryz.f77 c77 19:=⟨Tryz.func77,by kernel_rfl,Tryz.ntmps77⟩
instance : Enters Tryz.prog 77:=⟨Tryz.call77⟩
noncomputable def c78:Code:=Tryz.f78.body.getD .skip
instance : FnI Tryz.prog 78 Tryz.f78 c78 18:=⟨Tryz.func78,by kernel_rfl,Tryz.ntmps78⟩
instance : Enters Tryz.prog 78:=⟨Tryz.call78⟩
noncomputable def c79:Code:=Tryz.f79.body.getD .skip
instance : FnI Tryz.prog 79 Tryz.f79 c79 20:=⟨Tryz.func79,by kernel_rfl,Tryz.ntmps79⟩
instance : Enters Tryz.prog 79:=⟨Tryz.call79⟩
noncomputable def c80:Code:=Tryz.f80.body.getD .skip
instance : FnI Tryz.prog 80 Tryz.f80 c80 38:=⟨Tryz.func80,by kernel_rfl,Tryz.ntmps80⟩
instance : Enters Tryz.prog 80:=⟨Tryz.call80⟩
noncomputable def c81:Code:=Tryz.f81.body.getD .skip
instance : FnI Tryz.prog 81 Tryz.f81 c81 62:=⟨Tryz.func81,by kernel_rfl,Tryz.ntmps81⟩
instance : Enters Tryz.prog 81:=⟨Tryz.call81⟩
noncomputable def c82:Code:=Tryz.f82.body.getD .skip
instance : FnI Tryz.prog 82 Tryz.f82 c82 25:=⟨Tryz.func82,by kernel_rfl,Tryz.ntmps82⟩
instance : Enters Tryz.prog 82:=⟨Tryz.call82⟩
noncomputable def c83:Code:=Tryz.f83.body.getD .skip
instance : FnI Tryz.prog 83 Tryz.f83 c83 34:=⟨Tryz.func83,by kernel_rfl,Tryz.ntmps83⟩
instance : Enters Tryz.prog 83:=⟨Tryz.call83⟩
noncomputable def c84:Code:=Tryz.f84.body.getD .skip
instance : FnI Tryz.prog 84 Tryz.f84 c84 32:=⟨Tryz.func84,by kernel_rfl,Tryz.ntmps84⟩
instance : Enters Tryz.prog 84:=⟨Tryz.call84⟩
noncomputable def c85:Code:=Tryz.f85.body.getD .skip
instance : FnI Tryz.prog 85 Tryz.f85 c85 29:=⟨Tryz.func85,by kernel_rfl,Tryz.ntmps85⟩
instance : Enters Tryz.prog 85:=⟨Tryz.call85⟩
noncomputable def c86:Code:=Tryz.f86.body.getD .skip
instance : FnI Tryz.prog 86 Tryz.f86 c86 52:=⟨Tryz.func86,by kernel_rfl,Tryz.ntmps86⟩
instance : Enters Tryz.prog 86:=⟨Tryz.call86⟩
noncomputable def c87:Code:=Tryz.f87.body.getD .skip
instance : FnI Tryz.prog 87 Tryz.f87 c87 27:=⟨Tryz.func87,by kernel_rfl,Tryz.ntmps87⟩
instance : Enters Tryz.prog 87:=⟨Tryz.call87⟩
noncomputable def c88:Code:=Tryz.f88.body.getD .skip
instance : FnI Tryz.prog 88 Tryz.f88 c88 21:=⟨Tryz.func88,by kernel_rfl,Tryz.ntmps88⟩
instance : Enters Tryz.prog 88:=⟨Tryz.call88⟩
noncomputable def c89:Code:=Tryz.f89.body.getD .skip
instance : FnI Tryz.prog 89 Tryz.f89 c89 121:=⟨Tryz.func89,by kernel_rfl,Tryz.ntmps89⟩
instance : Enters Tryz.prog 89:=⟨Tryz.call89⟩
noncomputable def c90:Code:=Tryz.f90.body.getD .skip
instance : FnI Tryz.prog 90 Tryz.f90 c90 26:=⟨Tryz.func90,by kernel_rfl,Tryz.ntmps90⟩
instance : Enters Tryz.prog 90:=⟨Tryz.call90⟩
noncomputable def c91:Code:=Tryz.f91.body.getD .skip
instance : FnI Tryz.prog 91 Tryz.f91 c91 11:=⟨Tryz.func91,by kernel_rfl,Tryz.ntmps91⟩
instance : Enters Tryz.prog 91:=⟨Tryz.call91⟩
noncomputable def c92:Code:=Tryz.f92.body.getD .skip
instance : FnI Tryz.prog 92 Tryz.f92 c92 9:=⟨Tryz.func92,by kernel_rfl,Tryz.ntmps92⟩
instance : Enters Tryz.prog 92:=⟨Tryz.call92⟩
noncomputable def c93:Code:=Tryz.f93.body.getD .skip
instance : FnI Tryz.prog 93 Tryz.f93 c93 6:=⟨Tryz.func93,by kernel_rfl,Tryz.ntmps93⟩
instance : Enters Tryz.prog 93:=⟨Tryz.call93⟩
noncomputable def c94:Code:=Tryz.f94.body.getD .skip
instance : FnI Tryz.prog 94 Tryz.f94 c94 13:=⟨Tryz.func94,by kernel_rfl,Tryz.ntmps94⟩
instance : Enters Tryz.prog 94:=⟨Tryz.call94⟩
noncomputable def c95:Code:=Tryz.f95.body.getD .skip
instance : FnI Tryz.prog 95 Tryz.f95 c95 21:=⟨Tryz.func95,by kernel_rfl,Tryz.ntmps95⟩
instance : Enters Tryz.prog 95:=⟨Tryz.call95⟩
noncomputable def c96:Code:=Tryz.f96.body.getD .skip
instance : FnI Tryz.prog 96 Tryz.f96 c96 6:=⟨Tryz.func96,by kernel_rfl,Tryz.ntmps96⟩
instance : Enters Tryz.prog 96:=⟨Tryz.call96⟩
noncomputable def c97:Code:=Tryz.f97.body.getD .skip
instance : FnI Tryz.prog 97 Tryz.f97 c97 22:=⟨Tryz.func97,by kernel_rfl,Tryz.ntmps97⟩
instance : Enters Tryz.prog 97:=⟨Tryz.call97⟩
instance : Enters Tryz.prog 98:=⟨Tryz.call98⟩
noncomputable def c99:Code:=Tryz.f99.body.getD .skip
instance : FnI Tryz.prog 99 Tryz.f99 c99 9:=⟨Tryz.func99,by kernel_rfl,Tryz.ntmps99⟩
instance : Enters Tryz.prog 99:=⟨Tryz.call99⟩
noncomputable def c100:Code:=Tryz.f100.body.getD .skip
instance : FnI Tryz.prog 100 Tryz.f100 c100 7:=⟨Tryz.func100,by kernel_rfl,Tryz.ntmps100⟩
instance : Enters Tryz.prog 100:=⟨Tryz.call100⟩
noncomputable def c101:Code:=Tryz.f101.body.getD .skip
instance : FnI Tryz.prog 101 Tryz.f101 c101 8:=⟨Tryz.func101,by kernel_rfl,Tryz.ntmps101⟩
instance : Enters Tryz.prog 101:=⟨Tryz.call101⟩
noncomputable def c102:Code:=Tryz.f102.body.getD .skip
instance : FnI Tryz.prog 102 Tryz.f102 c102 13:=⟨Tryz.func102,by kernel_rfl,Tryz.ntmps102⟩
instance : Enters Tryz.prog 102:=⟨Tryz.call102⟩
noncomputable def c103:Code:=Tryz.f103.body.getD .skip
instance : FnI Tryz.prog 103 Tryz.f103 c103 30:=⟨Tryz.func103,by kernel_rfl,Tryz.ntmps103⟩
instance : Enters Tryz.prog 103:=⟨Tryz.call103⟩
noncomputable def c104:Code:=Tryz.f104.body.getD .skip
instance : FnI Tryz.prog 104 Tryz.f104 c104 19:=⟨Tryz.func104,by kernel_rfl,Tryz.ntmps104⟩
instance : Enters Tryz.prog 104:=⟨Tryz.call104⟩
noncomputable def c105:Code:=Tryz.f105.body.getD .skip
instance : FnI Tryz.prog 105 Tryz.f105 c105 32:=⟨Tryz.func105,by kernel_rfl,Tryz.ntmps105⟩
instance : Enters Tryz.prog 105:=⟨Tryz.call105⟩
noncomputable def c106:Code:=Tryz.f106.body.getD .skip
instance : FnI Tryz.prog 106 Tryz.f106 c106 26:=⟨Tryz.func106,by kernel_rfl,Tryz.ntmps106⟩
instance : Enters Tryz.prog 106:=⟨Tryz.call106⟩
noncomputable def c107:Code:=Tryz.f107.body.getD .skip
instance : FnI Tryz.prog 107 Tryz.f107 c107 8:=⟨Tryz.func107,by kernel_rfl,Tryz.ntmps107⟩
instance : Enters Tryz.prog 107:=⟨Tryz.call107⟩
noncomputable def c108:Code:=Tryz.f108.body.getD .skip
instance : FnI Tryz.prog 108 Tryz.f108 c108 28:=⟨Tryz.func108,by kernel_rfl,Tryz.ntmps108⟩
instance : Enters Tryz.prog 108:=⟨Tryz.call108⟩
noncomputable def c109:Code:=Tryz.f109.body.getD .skip
instance : FnI Tryz.prog 109 Tryz.f109 c109 8:=⟨Tryz.func109,by kernel_rfl,Tryz.ntmps109⟩
instance : Enters Tryz.prog 109:=⟨Tryz.call109⟩
noncomputable def c110:Code:=Tryz.f110.body.getD .skip
instance : FnI Tryz.prog 110 Tryz.f110 c110 19:=⟨Tryz.func110,by kernel_rfl,Tryz.ntmps110⟩
instance : Enters Tryz.prog 110:=⟨Tryz.call110⟩
noncomputable def c111:Code:=Tryz.f111.body.getD .skip
instance : FnI Tryz.prog 111 Tryz.f111 c111 19:=⟨Tryz.func111,by kernel_rfl,Tryz.ntmps111⟩
instance : Enters Tryz.prog 111:=⟨Tryz.call111⟩
noncomputable def c112:Code:=Tryz.f112.body.getD .skip
instance : FnI Tryz.prog 112 Tryz.f112 c112 13:=⟨Tryz.func112,by kernel_rfl,Tryz.ntmps112⟩
instance : Enters Tryz.prog 112:=⟨Tryz.call112⟩
noncomputable def c113:Code:=Tryz.f113.body.getD .skip
instance : FnI Tryz.prog 113 Tryz.f113 c113 46:=⟨Tryz.func113,by kernel_rfl,Tryz.ntmps113⟩
instance : Enters Tryz.prog 113:=⟨Tryz.call113⟩
noncomputable def c114:Code:=Tryz.f114.body.getD .skip
instance : FnI Tryz.prog 114 Tryz.f114 c114 6:=⟨Tryz.func114,by kernel_rfl,Tryz.ntmps114⟩
instance : Enters Tryz.prog 114:=⟨Tryz.call114⟩
noncomputable def c115:Code:=Tryz.f115.body.getD .skip
instance : FnI Tryz.prog 115 Tryz.f115 c115 50:=⟨Tryz.func115,by kernel_rfl,Tryz.ntmps115⟩
instance : Enters Tryz.prog 115:=⟨Tryz.call115⟩
noncomputable def c116:Code:=Tryz.f116.body.getD .skip
instance : FnI Tryz.prog 116 Tryz.f116 c116 24:=⟨Tryz.func116,by kernel_rfl,Tryz.ntmps116⟩
instance : Enters Tryz.prog 116:=⟨Tryz.call116⟩
noncomputable def c117:Code:=Tryz.f117.body.getD .skip
instance : FnI Tryz.prog 117 Tryz.f117 c117 11:=⟨Tryz.func117,by kernel_rfl,Tryz.ntmps117⟩
instance : Enters Tryz.prog 117:=⟨Tryz.call117⟩
noncomputable def c118:Code:=Tryz.f118.body.getD .skip
instance : FnI Tryz.prog 118 Tryz.f118 c118 14:=⟨Tryz.func118,by kernel_rfl,Tryz.ntmps118⟩
instance : Enters Tryz.prog 118:=⟨Tryz.call118⟩
noncomputable def c119:Code:=Tryz.f119.body.getD .skip
instance : FnI Tryz.prog 119 Tryz.f119 c119 35:=⟨Tryz.func119,by kernel_rfl,Tryz.ntmps119⟩
instance : Enters Tryz.prog 119:=⟨Tryz.call119⟩
noncomputable def c120:Code:=Tryz.f120.body.getD .skip
instance : FnI Tryz.prog 120 Tryz.f120 c120 114:=⟨Tryz.func120,by kernel_rfl,Tryz.ntmps120⟩
instance : Enters Tryz.prog 120:=⟨Tryz.call120⟩
noncomputable def c121:Code:=Tryz.f121.body.getD .skip
instance : FnI Tryz.prog 121 Tryz.f121 c121 13:=⟨Tryz.func121,by kernel_rfl,Tryz.ntmps121⟩
instance : Enters Tryz.prog 121:=⟨Tryz.call121⟩
noncomputable def c122:Code:=Tryz.f122.body.getD .skip
instance : FnI Tryz.prog 122 Tryz.f122 c122 42:=⟨Tryz.func122,by kernel_rfl,Tryz.ntmps122⟩
instance : Enters Tryz.prog 122:=⟨Tryz.call122⟩
noncomputable def c123:Code:=Tryz.f123.body.getD .skip
instance : FnI Tryz.prog 123 Tryz.f123 c123 5:=⟨Tryz.func123,by kernel_rfl,Tryz.ntmps123⟩
instance : Enters Tryz.prog 123:=⟨Tryz.call123⟩
noncomputable def c124:Code:=Tryz.f124.body.getD .skip
instance : FnI Tryz.prog 124 Tryz.f124 c124 13:=⟨Tryz.func124,by kernel_rfl,Tryz.ntmps124⟩
instance : Enters Tryz.prog 124:=⟨Tryz.call124⟩
noncomputable def c125:Code:=Tryz.f125.body.getD .skip
instance : FnI Tryz.prog 125 Tryz.f125 c125 19:=⟨Tryz.func125,by kernel_rfl,Tryz.ntmps125⟩
instance : Enters Tryz.prog 125:=⟨Tryz.call125⟩
noncomputable def c126:Code:=Tryz.f126.body.getD .skip
instance : FnI Tryz.prog 126 Tryz.f126 c126 9:=⟨Tryz.func126,by kernel_rfl,Tryz.ntmps126⟩
instance : Enters Tryz.prog 126:=⟨Tryz.call126⟩
noncomputable def c127:Code:=Tryz.f127.body.getD .skip
instance : FnI Tryz.prog 127 Tryz.f127 c127 9:=⟨Tryz.func127,by kernel_rfl,Tryz.ntmps127⟩
instance : Enters Tryz.prog 127:=⟨Tryz.call127⟩
noncomputable def c128:Code:=Tryz.f128.body.getD .skip
instance : FnI Tryz.prog 128 Tryz.f128 c128 61:=⟨Tryz.func128,by kernel_rfl,Tryz.ntmps128⟩
instance : Enters Tryz.prog 128:=⟨Tryz.call128⟩
noncomputable def c132:Code:=Tryz.f132.body.getD .skip
instance : FnI Tryz.prog 132 Tryz.f132 c132 19:=⟨Tryz.func132,by kernel_rfl,Tryz.ntmps132⟩
instance : Enters Tryz.prog 132:=⟨Tryz.call132⟩
noncomputable def c133:Code:=Tryz.f133.body.getD .skip
instance : FnI Tryz.prog 133 Tryz.f133 c133 32:=⟨Tryz.func133,by kernel_rfl,Tryz.ntmps133⟩
instance : Enters Tryz.prog 133:=⟨Tryz.call133⟩
noncomputable def c134:Code:=Tryz.f134.body.getD .skip
instance : FnI Tryz.prog 134 Tryz.f134 c134 124:=⟨Tryz.func134,by kernel_rfl,Tryz.ntmps134⟩
instance : Enters Tryz.prog 134:=⟨Tryz.call134⟩
noncomputable def c135:Code:=Tryz.f135.body.getD .skip
instance : FnI Tryz.prog 135 Tryz.f135 c135 21:=⟨Tryz.func135,by kernel_rfl,Tryz.ntmps135⟩
instance : Enters Tryz.prog 135:=⟨Tryz.call135⟩
noncomputable def c136:Code:=Tryz.f136.body.getD .skip
instance : FnI Tryz.prog 136 Tryz.f136 c136 50:=⟨Tryz.func136,by kernel_rfl,Tryz.ntmps136⟩
instance : Enters Tryz.prog 136:=⟨Tryz.call136⟩
noncomputable def c137:Code:=Tryz.f137.body.getD .skip
instance : FnI Tryz.prog 137 Tryz.f137 c137 13:=⟨Tryz.func137,by kernel_rfl,Tryz.ntmps137⟩
instance : Enters Tryz.prog 137:=⟨Tryz.call137⟩
noncomputable def c138:Code:=Tryz.f138.body.getD .skip
instance : FnI Tryz.prog 138 Tryz.f138 c138 22:=⟨Tryz.func138,by kernel_rfl,Tryz.ntmps138⟩
instance : Enters Tryz.prog 138:=⟨Tryz.call138⟩
noncomputable def c139:Code:=Tryz.f139.body.getD .skip
instance : FnI Tryz.prog 139 Tryz.f139 c139 8:=⟨Tryz.func139,by kernel_rfl,Tryz.ntmps139⟩
instance : Enters Tryz.prog 139:=⟨Tryz.call139⟩
noncomputable def c140:Code:=Tryz.f140.body.getD .skip
instance : FnI Tryz.prog 140 Tryz.f140 c140 19:=⟨Tryz.func140,by kernel_rfl,Tryz.ntmps140⟩
instance : Enters Tryz.prog 140:=⟨Tryz.call140⟩
noncomputable def c143:Code:=Tryz.f143.body.getD .skip
instance : FnI Tryz.prog 143 Tryz.f143 c143 23:=⟨Tryz.func143,by kernel_rfl,Tryz.ntmps143⟩
instance : Enters Tryz.prog 143:=⟨Tryz.call143⟩
noncomputable def c144:Code:=Tryz.f144.body.getD .skip
instance : FnI Tryz.prog 144 Tryz.f144 c144 8:=⟨Tryz.func144,by kernel_rfl,Tryz.ntmps144⟩
instance : Enters Tryz.prog 144:=⟨Tryz.call144⟩
noncomputable def c145:Code:=Tryz.f145.body.getD .skip
instance : FnI Tryz.prog 145 Tryz.f145 c145 18:=⟨Tryz.func145,by kernel_rfl,Tryz.ntmps145⟩
instance : Enters Tryz.prog 145:=⟨Tryz.call145⟩
noncomputable def c166:Code:=Tryz.f166.body.getD .skip
instance : FnI Tryz.prog 166 Tryz.f166 c166 19:=⟨Tryz.func166,by kernel_rfl,Tryz.ntmps166⟩
instance : Enters Tryz.prog 166:=⟨Tryz.call166⟩
noncomputable def c169:Code:=Tryz.f169.body.getD .skip
instance : FnI Tryz.prog 169 Tryz.f169 c169 40:=⟨Tryz.func169,by kernel_rfl,Tryz.ntmps169⟩
instance : Enters Tryz.prog 169:=⟨Tryz.call169⟩
noncomputable def c170:Code:=Tryz.f170.body.getD .skip
instance : FnI Tryz.prog 170 Tryz.f170 c170 48:=⟨Tryz.func170,by kernel_rfl,Tryz.ntmps170⟩
instance : Enters Tryz.prog 170:=⟨Tryz.call170⟩
noncomputable def c171:Code:=Tryz.f171.body.getD .skip
instance : FnI Tryz.prog 171 Tryz.f171 c171 17:=⟨Tryz.func171,by kernel_rfl,Tryz.ntmps171⟩
instance : Enters Tryz.prog 171:=⟨Tryz.call171⟩
noncomputable def c172:Code:=Tryz.f172.body.getD .skip
instance : FnI Tryz.prog 172 Tryz.f172 c172 20:=⟨Tryz.func172,by kernel_rfl,Tryz.ntmps172⟩
instance : Enters Tryz.prog 172:=⟨Tryz.call172⟩
noncomputable def c173:Code:=Tryz.f173.body.getD .skip
instance : FnI Tryz.prog 173 Tryz.f173 c173 21:=⟨Tryz.func173,by kernel_rfl,Tryz.ntmps173⟩
instance : Enters Tryz.prog 173:=⟨Tryz.call173⟩
noncomputable def c174:Code:=Tryz.f174.body.getD .skip
instance : FnI Tryz.prog 174 Tryz.f174 c174 46:=⟨Tryz.func174,by kernel_rfl,Tryz.ntmps174⟩
instance : Enters Tryz.prog 174:=⟨Tryz.call174⟩
noncomputable def c175:Code:=Tryz.f175.body.getD .skip
instance : FnI Tryz.prog 175 Tryz.f175 c175 32:=⟨Tryz.func175,by kernel_rfl,Tryz.ntmps175⟩
instance : Enters Tryz.prog 175:=⟨Tryz.call175⟩
noncomputable def c176:Code:=Tryz.f176.body.getD .skip
instance : FnI Tryz.prog 176 Tryz.f176 c176 19:=⟨Tryz.func176,by kernel_rfl,Tryz.ntmps176⟩
instance : Enters Tryz.prog 176:=⟨Tryz.call176⟩
noncomputable def c177:Code:=Tryz.f177.body.getD .skip
instance : FnI Tryz.prog 177 Tryz.f177 c177 96:=⟨Tryz.func177,by kernel_rfl,Tryz.ntmps177⟩
instance : Enters Tryz.prog 177:=⟨Tryz.call177⟩
noncomputable def c178:Code:=Tryz.f178.body.getD .skip
instance : FnI Tryz.prog 178 Tryz.f178 c178 57:=⟨Tryz.func178,by kernel_rfl,Tryz.ntmps178⟩
instance : Enters Tryz.prog 178:=⟨Tryz.call178⟩
noncomputable def c179:Code:=Tryz.f179.body.getD .skip
instance : FnI Tryz.prog 179 Tryz.f179 c179 79:=⟨Tryz.func179,by kernel_rfl,Tryz.ntmps179⟩
instance : Enters Tryz.prog 179:=⟨Tryz.call179⟩
noncomputable def c180:Code:=Tryz.f180.body.getD .skip
instance : FnI Tryz.prog 180 Tryz.f180 c180 10:=⟨Tryz.func180,by kernel_rfl,Tryz.ntmps180⟩
instance : Enters Tryz.prog 180:=⟨Tryz.call180⟩
noncomputable def c181:Code:=Tryz.f181.body.getD .skip
instance : FnI Tryz.prog 181 Tryz.f181 c181 10:=⟨Tryz.func181,by kernel_rfl,Tryz.ntmps181⟩
instance : Enters Tryz.prog 181:=⟨Tryz.call181⟩
noncomputable def c182:Code:=Tryz.f182.body.getD .skip
instance : FnI Tryz.prog 182 Tryz.f182 c182 17:=⟨Tryz.func182,by kernel_rfl,Tryz.ntmps182⟩
instance : Enters Tryz.prog 182:=⟨Tryz.call182⟩
noncomputable def c183:Code:=Tryz.f183.body.getD .skip
instance : FnI Tryz.prog 183 Tryz.f183 c183 7:=⟨Tryz.func183,by kernel_rfl,Tryz.ntmps183⟩
instance : Enters Tryz.prog 183:=⟨Tryz.call183⟩
noncomputable def c184:Code:=Tryz.f184.body.getD .skip
instance : FnI Tryz.prog 184 Tryz.f184 c184 5:=⟨Tryz.func184,by kernel_rfl,Tryz.ntmps184⟩
instance : Enters Tryz.prog 184:=⟨Tryz.call184⟩
noncomputable def c185:Code:=Tryz.f185.body.getD .skip
instance : FnI Tryz.prog 185 Tryz.f185 c185 7:=⟨Tryz.func185,by kernel_rfl,Tryz.ntmps185⟩
instance : Enters Tryz.prog 185:=⟨Tryz.call185⟩
noncomputable def c186:Code:=Tryz.f186.body.getD .skip
instance : FnI Tryz.prog 186 Tryz.f186 c186 8:=⟨Tryz.func186,by kernel_rfl,Tryz.ntmps186⟩
instance : Enters Tryz.prog 186:=⟨Tryz.call186⟩
noncomputable def c187:Code:=Tryz.f187.body.getD .skip
instance : FnI Tryz.prog 187 Tryz.f187 c187 12:=⟨Tryz.func187,by kernel_rfl,Tryz.ntmps187⟩
instance : Enters Tryz.prog 187:=⟨Tryz.call187⟩
noncomputable def c188:Code:=Tryz.f188.body.getD .skip
instance : FnI Tryz.prog 188 Tryz.f188 c188 7:=⟨Tryz.func188,by kernel_rfl,Tryz.ntmps188⟩
instance : Enters Tryz.prog 188:=⟨Tryz.call188⟩
noncomputable def c189:Code:=Tryz.f189.body.getD .skip
instance : FnI Tryz.prog 189 Tryz.f189 c189 13:=⟨Tryz.func189,by kernel_rfl,Tryz.ntmps189⟩
instance : Enters Tryz.prog 189:=⟨Tryz.call189⟩
noncomputable def c190:Code:=Tryz.f190.body.getD .skip
instance : FnI Tryz.prog 190 Tryz.f190 c190 30:=⟨Tryz.func190,by kernel_rfl,Tryz.ntmps190⟩
instance : Enters Tryz.prog 190:=⟨Tryz.call190⟩
noncomputable def c191:Code:=Tryz.f191.body.getD .skip
instance : FnI Tryz.prog 191 Tryz.f191 c191 23:=⟨Tryz.func191,by kernel_rfl,Tryz.ntmps191⟩
instance : Enters Tryz.prog 191:=⟨Tryz.call191⟩
end Go.Proofs.YtbafmbpmiiplkaaGreatDoor

namespace Go.Proofs.YtbafmbpmiiplkaaGreatDoor
open Go.ChangeShapes Go.WideShapes Go.ChangeAt Go.RowKit Go.WideElems

end Go.Proofs.YtbafmbpmiiplkaaGreatDoor
namespace Go.Proofs.YtbafmbpmiiplkaaGreatDoor
open Go.RowKit

theorem Bk.cellO {w:World} {b e o:Nat} {cs:List Value} {v:Value} (h:Bk w b cs e) (hv:cs[o]?=some v):w.cell? ⟨b,o,none⟩=some v:=by have:=(Bk.toAt (h:=h)).h o v hv;simpa using this
theorem OwnL.ne {w:World} {B B' e e':Nat} {agg agg':Bool} {k k':Nat} {v v':Value} {xs ys:List Value} (h:OwnL w B e agg k v xs) (h':OwnL w B' e' agg' k' v' ys) (he:e≠e'):∀ g,v.ownBlock=some g→v'.ownBlock≠some g:=fun g hg hg'=>by
 rcases h.own.2 with ⟨rfl,_⟩|⟨g1,cap1,cur1,rfl,_,h1,_⟩
 ·simp [Value.ownBlock] at hg
 ·rcases h'.own.2 with ⟨rfl,_⟩|⟨g2,cap2,cur2,rfl,_,h2,_⟩
  ·simp [Value.ownBlock] at hg'
  ·simp only [Value.ownBlock,Option.some.injEq] at hg hg'
   subst hg;subst hg'
   rw [h1] at h2
   simp only [Option.some.injEq,Obj.cells.injEq] at h2
   exact he h2.2.1

def inB (lo hi n:Int):Bool:=decide (lo≤n∧n≤hi)
theorem not_any_not {α:Type} (q:α→Bool) (xs:List α):(!(xs.any fun n=>!q n))=xs.all q:=by
 induction xs with
 | nil=>rfl
 | cons x xs ih=>simp only [List.any_cons,List.all_cons,Bool.not_or,ih,Bool.not_not]
theorem any_not {α:Type} (q:α→Bool) (xs:List α):(xs.any fun n=>!q n)=!xs.all q:=by
 rw [←not_any_not,Bool.not_not]
def lowB (c:UInt8):Bool:=decide (97≤c.toNat∧c.toNat≤122)
def wordB (s:ByteArray):Bool:=decide (1≤s.size∧s.size≤12) && s.data.toList.all lowB
theorem low_any (l:List UInt8):(!l.any fun c=>decide ((c.toNat:Int)<97∨122<(c.toNat:Int)))=l.all lowB:=by
 rw [←not_any_not]
 congr 2
 funext c
 rw [lowB,←decide_not,decide_eq_decide]
 omega
theorem word_yes (s:ByteArray) (h:[(s.size:Int)].all (inB 1 12)=true):(!s.data.toList.any fun c=>decide ((c.toNat:Int)<97∨122<(c.toNat:Int)))=wordB s:=by
 rw [low_any,wordB]
 simp [inB] at h
 have:decide (1≤s.size∧s.size≤12)=true:=decide_eq_true (by omega)
 rw [this];rfl
theorem word_no (s:ByteArray) (h:[(s.size:Int)].all (inB 1 12)=false):false=wordB s:=by
 rw [wordB]
 simp [inB] at h
 have:decide (1≤s.size∧s.size≤12)=false:=decide_eq_false (by omega)
 rw [this];rfl

abbrev strV (s:ByteArray):Value:=.string s
abbrev Ln:=Option Addr×Nat×List ByteArray
abbrev encLn (x:Ln):Value:=.slice x.1 x.2.2.length x.2.1
abbrev Ch:=Int×Option Addr×Nat×List Ln
abbrev encCh (x:Ch):Value:=.agg #[.int .i64 x.1,.slice x.2.1 x.2.2.2.length x.2.2.1]
class TextI (w:World) (cs:List Ch):Prop where
 lines:∀ x∈cs,RowV w false 1 (.slice x.2.1 x.2.2.2.length x.2.2.1) (x.2.2.2.map encLn)
 words:∀ x∈cs,∀ y∈x.2.2.2,RowV w false 1 (encLn y) (y.2.2.map strV)
theorem TextI.ext {w w':World} {cs:List Ch} (h:TextI w cs) (hs:Ext w w'):TextI w' cs:=⟨fun x hx=>(h.lines x hx).ext hs,fun x hx y hy=>(h.words x hx y hy).ext hs⟩
instance TextI.step {w w':World} {cs:List Ch} [hs:Step w w'] [h:TextI w cs]:TextI w' cs:=h.ext ⟨hs.b⟩
theorem TextI.line {w:World} {cs:List Ch} (h:TextI w cs) {k:Nat} (hk:k<cs.length):RowI w (.slice cs[k].2.1 cs[k].2.2.2.length cs[k].2.2.1) false 1 (cs[k].2.2.2.map encLn):=⟨h.lines _ (List.getElem_mem hk)⟩
theorem TextI.word {w:World} {cs:List Ch} (h:TextI w cs) {k n:Nat} (hk:k<cs.length) (hn:n<cs[k].2.2.2.length):RowI w (.slice cs[k].2.2.2[n].1 cs[k].2.2.2[n].2.2.length cs[k].2.2.2[n].2.1) false 1 (cs[k].2.2.2[n].2.2.map strV):=⟨h.words _ (List.getElem_mem hk) _ (List.getElem_mem hn)⟩
abbrev Tx:=List (Int×List (List ByteArray))
def txF (cs:List Ch):Tx:=cs.map fun x=>(x.1,x.2.2.2.map (·.2.2))
def greatL (y:List ByteArray):Bool:=decide (15<y.length) || y.any fun s=>decide (40<s.size)
def greatC (x:Int×List (List ByteArray)):Bool:=decide (15<x.2.length) || x.2.any greatL
def greatT (t:Tx):Bool:=decide (10<t.length) || t.any greatC
theorem any_hit {α:Type} {p:α→Bool} {l:List α} {k:Nat} (hk:k<l.length) (h:p l[k]=true):l.any p=true:=List.any_eq_true.2 ⟨_,List.getElem_mem hk,h⟩
theorem any_miss {α:Type} {p:α→Bool} {l:List α} (h:∀ (j:Nat) (hj:j<l.length),p l[j]=false):l.any p=false:=by
 rw [List.any_eq_false]
 intro x hx
 obtain ⟨i,hi,rfl⟩:=List.mem_iff_getElem.1 hx
 rw [h i hi];simp
theorem all_1 (p:Int→Bool) (n:Int):[n].all p=p n:=by simp
def lineB (y:List ByteArray):Bool:=inB 1 10 (y.length:Int) && y.all wordB
def chapB (x:Int×List (List ByteArray)):Bool:=inB 0 9999 x.1 && inB 1 10 (x.2.length:Int) && x.2.all lineB
def textB (t:Tx):Bool:=inB 1 6 (t.length:Int) && t.all chapB && decide ((t.map (·.1)).Nodup)
abbrev txC (x:Ch):Int×List (List ByteArray):=(x.1,x.2.2.2.map (·.2.2))
theorem txF_len (cs:List Ch):(txF cs).length=cs.length:=by simp [txF]
theorem all_no {α:Type} {p:α→Bool} {l:List α} {k:Nat} (hk:k<l.length) (h:p l[k]=false):l.all p=false:=by
 rw [List.all_eq_false];exact ⟨_,List.getElem_mem hk,by rw [h];simp⟩
theorem all_yes {α:Type} {p:α→Bool} {l:List α} (h:∀ (j:Nat) (hj:j<l.length),p l[j]=true):l.all p=true:=by
 rw [List.all_eq_true]
 intro x hx
 obtain ⟨i,hi,rfl⟩:=List.mem_iff_getElem.1 hx
 exact h i hi
theorem textB_len {cs:List Ch} (h:inB 1 6 (cs.length:Int)=false):textB (txF cs)=false:=by rw [textB,txF_len,h];rfl
theorem textB_chap {cs:List Ch} {k:Nat} (hk:k<cs.length) (h:chapB (txC cs[k])=false):textB (txF cs)=false:=by
 have:(txF cs).all chapB=false:=all_no (k:=k) (by rw [txF_len];exact hk) (by simpa [txF] using h)
 rw [textB,this,Bool.and_false];rfl
theorem textB_dup {cs:List Ch} {i k:Nat} (hik:i<k) (hk:k<cs.length) (h:(cs[i]'(by omega)).1=cs[k].1):textB (txF cs)=false:=by
 have:¬ ((txF cs).map (·.1)).Nodup:=fun hn=>by
  have h1:=List.pairwise_iff_getElem.1 hn i k (by simp [txF];omega) (by simp [txF];omega) hik
  simp [txF] at h1
  exact h1 h
 rw [textB,decide_eq_false this,Bool.and_false]
theorem textB_yes {cs:List Ch} (h1:inB 1 6 (cs.length:Int)=true) (h2:∀ (k:Nat) (hk:k<cs.length),chapB (txC cs[k])=true) (h3:∀ (i k:Nat) (hik:i<k) (hk:k<cs.length),(cs[i]'(by omega)).1≠cs[k].1):textB (txF cs)=true:=by
 have e1:(txF cs).all chapB=true:=all_yes fun k hk=>by
  have:=h2 k (by rw [←txF_len];exact hk)
  simpa [txF] using this
 have e2:((txF cs).map (·.1)).Nodup:=by
  refine List.pairwise_iff_getElem.2 fun i k hi hk hik=>?_
  have:=h3 i k hik (by simpa [txF] using hk)
  simpa [txF] using this
 rw [textB,txF_len,h1,e1,decide_eq_true e2];rfl
theorem chapB_id {x:Ch} (h:inB 0 9999 x.1=false):chapB (txC x)=false:=by rw [chapB,h];rfl
theorem chapB_len {x:Ch} (h:inB 1 10 (x.2.2.2.length:Int)=false):chapB (txC x)=false:=by rw [chapB,List.length_map,h,Bool.and_false];rfl
theorem chapB_line {x:Ch} {n:Nat} (hn:n<x.2.2.2.length) (h:lineB x.2.2.2[n].2.2=false):chapB (txC x)=false:=by
 have:(x.2.2.2.map (·.2.2)).all lineB=false:=all_no (k:=n) (by rw [List.length_map];exact hn) (by rw [List.getElem_map];exact h)
 rw [chapB,this,Bool.and_false]
theorem chapB_yes {x:Ch} (h1:inB 0 9999 x.1=true) (h2:inB 1 10 (x.2.2.2.length:Int)=true) (h3:∀ (n:Nat) (hn:n<x.2.2.2.length),lineB x.2.2.2[n].2.2=true):chapB (txC x)=true:=by
 have:(x.2.2.2.map (·.2.2)).all lineB=true:=all_yes fun n hn=>by
  rw [List.length_map] at hn
  rw [List.getElem_map];exact h3 n hn
 rw [chapB,List.length_map,h1,h2,this];rfl
theorem lineB_len {y:List ByteArray} (h:inB 1 10 (y.length:Int)=false):lineB y=false:=by rw [lineB,h];rfl
theorem lineB_word {y:List ByteArray} {q:Nat} (hq:q<y.length) (h:wordB y[q]=false):lineB y=false:=by rw [lineB,all_no hq h,Bool.and_false]
theorem lineB_yes {y:List ByteArray} (h1:inB 1 10 (y.length:Int)=true) (h2:∀ (q:Nat) (hq:q<y.length),wordB y[q]=true):lineB y=true:=by rw [lineB,h1,all_yes h2];rfl
def SmallT (cs:List Ch):Prop:=cs.length≤1000∧∀ x∈cs,x.2.2.2.length≤1000∧∀ y∈x.2.2.2,y.2.2.length≤1000∧∀ s∈y.2.2,s.size≤1000
theorem small_of_great {cs:List Ch} (h:greatT (txF cs)=false):SmallT cs:=by
 simp only [greatT,Bool.or_eq_false_iff,decide_eq_false_iff_not,List.any_eq_false,txF_len] at h
 refine ⟨by omega,fun x hx=>?_⟩
 have h1:=h.2 (txC x) (List.mem_map.2 ⟨x,hx,rfl⟩)
 simp only [greatC,Bool.or_eq_true,decide_eq_true_eq,List.any_eq_true,not_or,not_exists,not_and,List.length_map] at h1
 refine ⟨by omega,fun y hy=>?_⟩
 have h2:=h1.2 y.2.2 (List.mem_map.2 ⟨y,hy,rfl⟩)
 simp only [greatL,Bool.or_eq_true,decide_eq_true_eq,List.any_eq_true,not_or,not_exists,not_and] at h2
 exact ⟨by omega,fun s hs=>by have:=h2.2 s hs;omega⟩

section rules
variable {P:Program} {ro:Option Nat} {n:Nat} {all rest:List Oper} {K:Sl→World→Prop} {s:Sl} {w:World} {d:Nat} {ty:Nat} {pos:String} {af:Array Edge} {x y:Operand} {t t' e bytes:Nat} {z:Value}
variable {g o l c lo hi:Nat} {i j:Int} {k1 k2 k3:IntKind} {xl xh xm:Operand}
theorem Ops.sliceXH (hx:ev n s x=.slice (some ⟨g,o,none⟩) l c) (hh:ev n s xh=.int k2 j) (hj:j=(hi:Int)) (h2:hi≤c) [ht:TSl P t e] [hz:TS P e z 1 bytes]
  (h:Ops P ro n all rest K (upd s d (.slice (some ⟨g,o,none⟩) hi c)) w):Ops P ro n all (⟨some d,.slice t x none (some xh) none,ty,pos,af,none⟩::rest) K s w:=by
 subst hj
 refine Ops.ofRun rfl ?_ h
 by_cases hc:c=0
 ·obtain rfl:hi=0:=by omega
  simp [execOp,Instr.sliceAt,Instr.slice,Instr.sliceBounds,Instr.sliceBound,hx,hh,run_underlying ht.h,asIntOf,run_sizeOf' w hz,hc]
 ·simp [execOp,Instr.sliceAt,Instr.slice,Instr.sliceBounds,Instr.sliceBound,hx,hh,run_underlying ht.h,asIntOf,h2,run_sizeOf' w hz,hc,Addr.add_lit]
theorem Ops.sliceXL (hx:ev n s x=.slice (some ⟨g,o,none⟩) l c) (hl:ev n s xl=.int k1 i) (hi':i=(lo:Int)) (h1:lo≤l) [ht:TSl P t e] [hz:TS P e z 1 bytes]
  (h:Ops P ro n all rest K (upd s d (.slice (some ⟨g,if c=lo then o else o+lo,none⟩) (l-lo) (c-lo))) w):Ops P ro n all (⟨some d,.slice t x (some xl) none none,ty,pos,af,none⟩::rest) K s w:=by
 subst hi'
 refine Ops.ofRun rfl ?_ h
 by_cases hc:c=lo
 ·simp [execOp,Instr.sliceAt,Instr.slice,Instr.sliceBounds,Instr.sliceBound,hx,hl,run_underlying ht.h,asIntOf,h1,run_sizeOf' w hz,hc]
 ·simp [execOp,Instr.sliceAt,Instr.slice,Instr.sliceBounds,Instr.sliceBound,hx,hl,run_underlying ht.h,asIntOf,h1,run_sizeOf' w hz,hc,Addr.add_lit]
theorem Ops.sliceXL2 (hx:ev n s x=.slice (some ⟨g,o,none⟩) l c) (hl:ev n s xl=.int k1 i) (hi':i=(lo:Int)) (h1:lo≤l) (h2:lo<c) [ht:TSl P t e] [hz:TS P e z 1 bytes]
  (h:Ops P ro n all rest K (upd s d (.slice (some ⟨g,o+lo,none⟩) (l-lo) (c-lo))) w):Ops P ro n all (⟨some d,.slice t x (some xl) none none,ty,pos,af,none⟩::rest) K s w :=
 Ops.sliceXL (lo:=lo) hx hl hi' h1 (by rw [if_neg (by omega)];exact h)
variable {cs us:List Value} {a:Addr} {sl sc dl dc:Nat}
theorem Ops.clearB (hB:Bk w g cs e) (hx:ev n s x=.slice (some ⟨g,o,none⟩) l c) (hl0:0<l) (hfit:o+l≤cs.length) [ht:TSl P t e] [hz:TS P e z 1 bytes] (hzc:z.cells=#[z]) (h1:z.oneCell'=true)
  (h:∀ w',PutO w w' g (.cells (cs.take o++List.replicate l z++cs.drop (o+l)).toArray e (0,0))→Ops P ro n all rest K s w') :
  Ops P ro n all (⟨none,.call { callee:=.builtin .clear,args:=#[x],argTypes:=#[t] },ty,pos,af,none⟩::rest) K s w:=by
 obtain ⟨inf,hi1,hiz,his,_⟩:=hz.info
 have hzv:(zeroValue e).run P w=.ok z w:=by simp [zeroValue,typeInfo,hi1,hiz]
 have hzl:(Builtin.zeroCells z.cells l).toList=List.replicate l z:=by
  rw [hzc]
  simp [Builtin.zeroCells]
  apply List.ext_getElem
  ·simp
  ·intro i h1 h2
   simp [Nat.mod_one]
 have hst:=run_storeCells_at P g o e (List.replicate l z) 0 cs.toArray w hB.h (by simpa using hfit) (by intro v hv';rw [List.eq_of_mem_replicate hv'];exact h1)
 simp only [Nat.add_zero,List.length_replicate] at hst
 have hr:(Builtin.clear_ #[t] ty #[.slice (some ⟨g,o,none⟩) l c]).run P w=.ok (.tuple #[]) (w.setRow g (cs.take o++List.replicate l z++cs.drop (o+l)).toArray):=by
  obtain ⟨m,rfl⟩:∃ m,l=m+1:=⟨l-1,by omega⟩
  simp [Builtin.clear_,run_underlying ht.h,hzv,hzl,hst]
 exact Ops.step rfl (OpW.ofRun (v:=.tuple #[]) (w':=w.setRow g (cs.take o++List.replicate l z++cs.drop (o+l)).toArray) rfl (by simp [execOp,resolve,invoke,builtin,hx,hr]) (h _ (putO_setRow hB)))
theorem Ops.buildSlice2 {u v:Value} (hx:ev n s x=u) (hy:ev n s y=v) [ht:TSl P t e] [hz:TS P e z 1 bytes] (hu:u.cells=#[u]) (hv:v.cells=#[v]) (hzz:z.cells.size=1)
  (h:∀ b w',b=w.heap.size→w'.heap.size=w.heap.size+1→Step w w'→Bk w' b [u,v] e→Ops P ro n all rest K (upd s d (.slice (some ⟨b,0,none⟩) 2 2)) w') :
  Ops P ro n all (⟨some d,.buildSlice t 2 #[(0,x),(1,y)],ty,pos,af,none⟩::rest) K s w:=by
 obtain ⟨inf,hi1,hiz,his,_⟩:=hz.info
 have hfill:∀ (a b:Value),Instr.fill (fun i=>some (i,1)) #[a,b] [(0,u),(1,v)]=some #[u,v]:=by
  intro a b
  simp [Instr.fill,hu,hv]
 have hzv:(zeroValue e).run P w=.ok z w:=by simp [zeroValue,typeInfo,hi1,hiz]
 have hrange:(Array.range 2).map (fun x=>z.cells[x % z.cells.size]!)=#[z.cells[0]!,z.cells[0]!]:=by
  rw [hzz,show Array.range 2=#[0,1] from by decide];simp [Nat.mod_one]
 refine Ops.ofRun (w':=w.alloc (.cells #[u,v] e)) rfl ?_ (h w.heap.size _ rfl (by simp) ⟨(Below.refl _ w).alloc (Nat.le_refl _) _⟩ ⟨World.alloc_heap_new w _⟩)
 simp [execOp,Instr.buildSlice,run_underlying ht.h,run_sizeOf' w hz,hx,hy,hzv,hrange,hfill,newRow]
end rules

section rules
variable {P:Program} {ro:Option Nat} {n:Nat} {all rest:List Oper} {K:Sl→World→Prop} {s:Sl} {w:World} {d:Nat} {ty:Nat} {pos:String} {af:Array Edge} {x1 x2 x3 x4:Operand} {t e bytes:Nat} {z:Value}
theorem Ops.buildSlice3 {v1 v2 v3:Value} (h1:ev n s x1=v1) (h2:ev n s x2=v2) (h3:ev n s x3=v3) [ht:TSl P t e] [hz:TS P e z 1 bytes] (c1:v1.cells=#[v1]) (c2:v2.cells=#[v2]) (c3:v3.cells=#[v3]) (hzz:z.cells.size=1)
  (h:∀ b w',b=w.heap.size→w'.heap.size=w.heap.size+1→Step w w'→Bk w' b [v1,v2,v3] e→Ops P ro n all rest K (upd s d (.slice (some ⟨b,0,none⟩) 3 3)) w') :
  Ops P ro n all (⟨some d,.buildSlice t 3 #[(0,x1),(1,x2),(2,x3)],ty,pos,af,none⟩::rest) K s w:=by
 obtain ⟨inf,hi1,hiz,his,_⟩:=hz.info
 have hfill:∀ (a b c:Value),Instr.fill (fun i=>some (i,1)) #[a,b,c] [(0,v1),(1,v2),(2,v3)]=some #[v1,v2,v3]:=by
  intro a b c
  simp [Instr.fill,c1,c2,c3]
 have hzv:(zeroValue e).run P w=.ok z w:=by simp [zeroValue,typeInfo,hi1,hiz]
 have hrange:(Array.range 3).map (fun x=>z.cells[x % z.cells.size]!)=#[z.cells[0]!,z.cells[0]!,z.cells[0]!]:=by
  rw [hzz,show Array.range 3=#[0,1,2] from by decide];simp [Nat.mod_one]
 refine Ops.ofRun (w':=w.alloc (.cells #[v1,v2,v3] e)) rfl ?_ (h w.heap.size _ rfl (by simp) ⟨(Below.refl _ w).alloc (Nat.le_refl _) _⟩ ⟨World.alloc_heap_new w _⟩)
 simp [execOp,Instr.buildSlice,run_underlying ht.h,run_sizeOf' w hz,h1,h2,h3,hzv,hrange,hfill,newRow]
end rules

theorem isNaN_cmp (x:Int) (w:World):Ct Tryz.prog 114 [.int .i64 x] w fun v _=>v=.bool false:=by
 refine Ct.ofW (by simp) ?_
 (refine jjB (jjC (jJ (eB rfl) (jz (jjB (jjC ?_)))));refine jI (eI rfl) (jI (eI rfl) (jc rfl rfl (jJ (eB rfl) (jz (jjF ?_)))));refine jB rfl rfl ⟨inferInstance,?_⟩)
 exact congrArg Value.bool (by simp)
theorem Compare_int (x y:Int) (w:World):Ct Tryz.prog 79 [.int .i64 x,.int .i64 y] w fun v _=>v=.int .i64 (if x<y then -1 else if y<x then 1 else 0):=by
 refine Ct.ofW (by simp) ?_
 (refine jjB (jjC (jJ (eI rfl) (jz (jjB (jjC ?_)))));refine jI (eI rfl) ?_)
 refine jjQ (isNaN_cmp x _) rfl rfl ?_
 rintro _ w2 hS2 rfl
 (refine jJ (eB rfl) (jz (jjB (jjC (jI (eI rfl) ?_)))))
 refine jjQ (isNaN_cmp y _) rfl rfl ?_
 rintro _ w3 hS3 rfl
 repeat' (first|((first|apply jI|apply jJ);(first|exact eI rfl|exact eB rfl))|(refine jW ?_;(first|refine jX rfl rfl ?_|refine je rfl rfl ?_))|refine jz ?_|(refine jjA ?_;(first|refine jjB ?_|refine jjC ?_|refine jjF ?_|refine jjG ?_|refine jjK rfl ?_))|(refine jjA ?_;(refine jjN rfl ?_ ?_<;>intro _))|refine jB rfl rfl ⟨inferInstance,?_⟩)
 ·rw [if_pos ‹_›];exact rfl
 ·rw [if_neg ‹_›,if_pos ‹_›];exact rfl
 ·rw [if_neg ‹_›,if_neg ‹_›];exact rfl

abbrev Pl:=Int×Int×Int
abbrev encPl (p:Pl):Value:=.agg #[.int .i64 p.1,.int .i64 p.2.1,.int .i64 p.2.2]
def orF:List Int→Int
 | []=>0
 | x::l=>if x=0 then orF l else x
def cmp1 (x y:Int):Int:=if x<y then -1 else if y<x then 1 else 0
def cmpP (a b:Pl):Int:=orF [cmp1 a.1 b.1,cmp1 a.2.1 b.2.1,cmp1 a.2.2 b.2.2]
def befP (a b:Pl):Bool:=if a.1≠b.1 then decide (a.1<b.1) else if a.2.1≠b.2.1 then decide (a.2.1<b.2.1) else decide (a.2.2<b.2.2)
theorem orF_drop {l:List Int}:∀ {k:Nat},(∀ (j:Nat) (hj:j<l.length),j<k→l[j]=0)→orF l=orF (l.drop k):=by
 intro k
 induction k with
 | zero=>intro _;rfl
 | succ k ih =>
   intro h
   rw [ih fun j hj hk=>h j hj (by omega)]
   by_cases hk:k<l.length
   ·rw [List.drop_eq_getElem_cons hk,orF,if_pos (h k hk (by omega))]
   ·rw [List.drop_of_length_le (by omega),List.drop_of_length_le (by omega)]
theorem cmpP_neg (a b:Pl):decide (cmpP a b<0)=befP a b:=by
 unfold cmpP befP orF orF orF orF cmp1
 repeat' split
 all_goals (first|rfl|(simp only [decide_eq_decide];omega)|(exfalso;omega)|(simp;omega))
theorem cmpP_pos (a b:Pl):decide (0<cmpP a b)=befP b a:=by
 unfold cmpP befP orF orF orF orF cmp1
 repeat' split
 all_goals (first|rfl|(simp only [decide_eq_decide];omega)|(exfalso;omega)|(simp;omega))

theorem Or_int (a:Option Addr) (c n:Nat) (l:List Int) (w:World) (hn:l.length=n) (hrow:RowV w false 1 (.slice a n c) (l.map intV)):Ct Tryz.prog 78 [.slice a n c] w fun v _=>v=.int .i64 (orF l):=by
 subst hn
 have hI:RowI w (.slice a l.length c) false 1 (l.map intV):=⟨hrow⟩
 have hlen:=hrow.len
 rw [List.length_map] at hlen
 refine Ct.ofW (by simp) ?_
 (refine jjB (jjC (jJ (eI rfl) (jz (jjB (jjC ?_)))));refine jJ (eI rfl) (jz (jjB (jjB (jjC (jI (eS rfl) ?_)))));refine jh rfl (jI (eI rfl) (jz (jjD ?_))))
 refine W.keep0 [(3,.int .i64 (0:Int)),(6,.slice a l.length c),(7,.int .i64 ((l.length:Nat):Int)),(8,.int .i64 ((0:Nat):Int))] ⟨eI rfl,eS rfl,eI rfl,eI rfl,trivial⟩ fun s0=>?_
 refine W.loop (9::10::11::5::12::13::14::15::2::16::8::[]) (fun g s' V=>∃ k:Nat,s' 8=.int .i64 ((k:Nat):Int)∧g=l.length-k∧k≤l.length∧∀ (j:Nat) (hj:j<l.length),j<k→l[j]=0) l.length ⟨0,rfl,rfl,Nat.zero_le _,by intros;omega⟩ ?_
 rintro _ sd w1 hS1 ⟨k,h8,rfl,hk,hpre⟩
 refine W.fix h8 ?_
 clear h8
 by_cases hkl:k<l.length
 ·by_cases h0:l[k]=0
  ·(refine jjB (jjC (jjZ rfl rfl (by omega) (jz (jjB (jjJ rfl ?_)))));refine jjG (jjB (jjD (jjB (jjC ?_))));refine jF rfl rfl rfl (map_get (by omega)) ?_;intro _ _ _;refine jQ rfl rfl (jJ (eI rfl) (jz (jjB (jjC (jI (eI rfl) ?_)))));refine jI (eI rfl) (jjk rfl rfl (by omega) (jz (jjK rfl (jjG (jjC ?_)))));refine jY rfl rfl (by omega) (jI (eI rfl) (jz ?_)))
   refine ⟨rfl,by (((iterate 10 refine Same.upd rfl ?_);exact Same.ovN)),l.length-(k+1),by omega,inferInstance,k+1,congrArg (Value.int .i64) (by omega),rfl,by omega,fun j hj hjk=>?_⟩
   by_cases e:j=k
   ·subst e;exact h0
   ·exact hpre j hj (by omega)
  ·(refine jjB (jjC (jjZ rfl rfl (by omega) (jz (jjB (jjJ rfl ?_)))));refine jjG (jjB (jjD (jjB (jjC ?_))));refine jF rfl rfl rfl (map_get (by omega)) ?_;intro _ _ _;refine jQ rfl rfl (jJ (eI rfl) (jz (jjB (jjC (jI (eI rfl) ?_)))));refine jI (eI rfl) (jjj rfl rfl (by omega) (jz (jjJ rfl (jjB (jjC ?_)))));refine jI (eI rfl) (jJ (eI rfl) (jz (jjF ?_)));refine jB rfl rfl ⟨inferInstance,?_⟩)
   rw [orF_drop hpre,List.drop_eq_getElem_cons hkl,orF,if_neg h0];exact rfl
 ·(refine jjB (jjC (jja rfl rfl (by omega) (jz (jjB (jjK rfl ?_)))));refine jjE (jjB (jjC (jI (eI rfl) (jJ (eI rfl) (jz ?_)))));refine jjF ?_;refine jB rfl rfl ⟨inferInstance,?_⟩)
  rw [orF_drop hpre,List.drop_of_length_le (by omega),orF];exact rfl

theorem places_slip (a b:Pl) (w:World):Ct Tryz.prog 37 [encPl a,encPl b] w fun v _=>v=.int .i64 (cmpP a b):=by
 refine Ct.ofW (by simp) ?_
 (refine jjB (jjC ?_))
 (refine jy rfl ?_;intro b1 w_b1 hb_b1 hs_b1 hS_b1 hk_b1;have hA_b1:=At.ofBlock hk_b1)
 skip
 (refine jy rfl ?_;intro b2 w_b2 hb_b2 hs_b2 hS_b2 hk_b2;have hA_b2:=At.ofBlock hk_b2)
 (refine jJ (eI rfl) (jz (jjB ?_)))
 refine W.draw (fun w'=>Ext w_b2 w') ?_
 intro w1 hS1
 (refine jjV [0,1,2,3,5,6,7,8,10,11,12,13] ?_ ?_ ?_;(decide +kernel);(exact hS1.ext);(((apply jjT;exact rfl;rintro w' hq;have:=hq.toStep;refine jm (jn rfl (jz ?_));exact ⟨rfl,rfl⟩;apply jjT;exact rfl;rintro w' hq;have:=hq.toStep;refine jN rfl rfl rfl (jz ?_);exact ⟨rfl,rfl⟩;apply jjT;exact rfl;rintro w' hq;have:=hq.toStep;refine jm (jn rfl (jz ?_));exact ⟨rfl,rfl⟩;apply jjT;exact rfl;rintro w' hq;have:=hq.toStep;refine jN rfl rfl rfl (jz ?_);exact ⟨rfl,rfl⟩;apply jjT;exact rfl;rintro w' hq;have:=hq.toStep;refine jm (jn rfl (jz ?_));exact ⟨rfl,rfl⟩;apply jjT;exact rfl;rintro w' hq;have:=hq.toStep;refine jN rfl rfl rfl (jz ?_);exact ⟨rfl,rfl⟩;apply jjT;exact rfl;rintro w' hq;have:=hq.toStep;refine jm (jn rfl (jz ?_));exact ⟨rfl,rfl⟩;apply jjT;exact rfl;rintro w' hq;have:=hq.toStep;refine jN rfl rfl rfl (jz ?_);exact ⟨rfl,rfl⟩;apply jjT;exact rfl;rintro w' hq;have:=hq.toStep;refine jm (jn rfl (jz ?_));exact ⟨rfl,rfl⟩;apply jjT;exact rfl;rintro w' hq;have:=hq.toStep;refine jN rfl rfl rfl (jz ?_);exact ⟨rfl,rfl⟩;apply jjT;exact rfl;rintro w' hq;have:=hq.toStep;refine jm (jn rfl (jz ?_));exact ⟨rfl,rfl⟩;apply jjT;exact rfl;rintro w' hq;have:=hq.toStep;refine jN rfl rfl rfl (jz ?_);exact ⟨rfl,rfl⟩;refine jjU ?_))))
 (apply jjW 4;(decide +kernel);exact rfl;(exact hS1.ext))
 refine jjQ (Compare_int _ _ _) rfl rfl ?_
 rintro _ w2 hS2 rfl
 refine jz ?_
 (apply jjW 9;(decide +kernel);exact rfl;(exact hS1.ext.trans hS2.ext))
 refine jjQ (Compare_int _ _ _) rfl rfl ?_
 rintro _ w3 hS3 rfl
 refine jz ?_
 (apply jjW 14;(decide +kernel);exact rfl;(exact (hS1.ext.trans hS2.ext).trans hS3.ext))
 refine jjQ (Compare_int _ _ _) rfl rfl ?_
 rintro _ w4 hS4 rfl
 refine jz ?_
 have hq2:Ext w_b2 w4:=((hS1.ext.trans hS2.ext).trans hS3.ext).trans hS4.ext
 (apply jjW 15;(decide +kernel);exact rfl;(exact hq2))
 refine Ops.buildSlice3 (v1:=.int .i64 (cmp1 a.1 b.1)) (v2:=.int .i64 (cmp1 a.2.1 b.2.1)) (v3:=.int .i64 (cmp1 a.2.2 b.2.2)) rfl rfl rfl rfl rfl rfl rfl ?_
 intro b3 w3 hb3 hs3 hS3 hk3
 refine jz ?_
 (apply jjW 16;(decide +kernel);exact rfl;(exact hq2.trans hS3.ext))
 have hr3:RowV w3 false 1 (.slice (some ⟨b3,0,none⟩) 3 3) ([cmp1 a.1 b.1,cmp1 a.2.1 b.2.1,cmp1 a.2.2 b.2.2].map intV):=hk3.row (fun x hx=>by simp at hx;rcases hx with rfl|rfl|rfl<;>rfl) (by simp)
 refine jjQ (Or_int _ _ _ [cmp1 a.1 b.1,cmp1 a.2.1 b.2.1,cmp1 a.2.2 b.2.2] _ rfl hr3) rfl rfl ?_
 rintro _ w4 hS4 rfl
 refine jz ?_
 (apply jjW 17;(decide +kernel);exact rfl;(exact (hq2.trans hS3.ext).trans hS4.ext))
 (refine jJ (eI rfl) (jz ?_))
 refine jjX (by decide +kernel) ((hq2.trans hS3.ext).trans hS4.ext) ?_
 (refine jjF ?_;refine jB rfl rfl ⟨inferInstance,?_⟩)
 exact rfl

theorem IndexFunc_int {α:Type} (w:World) (v fv:Value) (enc:α→Value) (xs:List α) (p:α→Bool) (hrow:RowV w false 1 v (xs.map enc)) (hp:PredE Tryz.prog w fv enc xs p) :
  Ct Tryz.prog 110 [v,fv] w fun r _=>r=.int .i64 (idxV p xs):=by
 obtain ⟨a,c,rfl⟩:=hrow.slice
 obtain ⟨g,cap,rfl,hg,hp⟩:=hp.h
 have hlen:=hrow.len
 rw [List.length_map] at hlen hrow ⊢
 refine Ct.ofW (by simp) ?_
 (refine jjB (jjC (jJ (eI rfl) (jz (jjB (jjB ?_)))));refine jjC (jI (eS rfl) (jh rfl (jI (eI rfl) (jz (jjD ?_))))))
 refine W.loop (9::10::5::11::12::13::14::15::16::17::4::18::8::[]) (fun g s' _=>∃ k:Nat,s' 8=.int .i64 k∧g=xs.length-k∧k≤xs.length∧∀ (j:Nat) (hj:j<xs.length),j<k→p xs[j]=false) xs.length ?_ ?_
 ·exact ⟨0,rfl,by omega,by omega,by intros;omega⟩
 ·rintro _ d w' hS ⟨k,h8,rfl,hk,hpre⟩
  refine W.fix h8 ?_
  repeat' (first|((first|apply jI|apply jJ);(first|exact eI rfl|exact eS rfl|exact eF rfl))|(refine jW (jX rfl rfl ?_))|refine jz ?_|(refine jjA ?_;(first|refine jjB ?_|refine jjC ?_|refine jjD ?_|refine jjE ?_|refine jjF ?_|refine jjG ?_))|(refine jjA ?_;(refine jjN rfl ?_ ?_<;>intro _))|refine jB rfl rfl ⟨inferInstance,?_⟩)
  ·have hk':k<xs.length:=by omega
   refine Ops.indexRow rfl rfl (hrow.ext inferInstance) rfl (map_get hk') ?_
   intro b o hA
   refine Ops.loadV rfl hA (by exact hrow.get (List.getElem_mem hk')) ?_
   refine jjQ (hp _ _ (List.getElem_mem hk') inferInstance) rfl rfl ?_
   rintro v w2 hS2 rfl
   repeat' (first|((first|apply jI|apply jJ);exact eI rfl)|(refine jW (jY rfl rfl (by omega) ?_))|refine jz ?_|(refine jjA ?_;(first|refine jjB ?_|refine jjC ?_|refine jjF ?_|refine jjG ?_))|(refine jjA ?_;(refine jjO rfl ?_ ?_<;>intro _))|refine jB rfl rfl ⟨inferInstance,?_⟩)
   ·exact congrArg _ (idxV_hit hk' ‹_› hpre).symm
   ·refine ⟨rfl,by (((iterate 12 refine Same.upd rfl ?_);exact Same.ovN)),xs.length-(k+1),by omega,inferInstance,k+1,rfl,rfl,by omega,fun j hj hjk=>?_⟩
    by_cases e:j=k
    ·subst e;assumption
    ·exact hpre j hj (by omega)
  ·exact congrArg _ (idxV_miss fun j hj=>hpre j hj (by omega)).symm


theorem IndexFunc_string {α:Type} (w:World) (v fv:Value) (enc:α→Value) (xs:List α) (p:α→Bool) (hrow:RowV w false 1 v (xs.map enc)) (hp:PredE Tryz.prog w fv enc xs p) :
  Ct Tryz.prog 125 [v,fv] w fun r _=>r=.int .i64 (idxV p xs):=by
 obtain ⟨a,c,rfl⟩:=hrow.slice
 obtain ⟨g,cap,rfl,hg,hp⟩:=hp.h
 have hlen:=hrow.len
 rw [List.length_map] at hlen hrow ⊢
 refine Ct.ofW (by simp) ?_
 (refine jjB (jjC (jJ (eI rfl) (jz (jjB (jjB ?_)))));refine jjC (jI (eS rfl) (jh rfl (jI (eI rfl) (jz (jjD ?_))))))
 refine W.loop (9::10::5::11::12::13::14::15::16::17::4::18::8::[]) (fun g s' _=>∃ k:Nat,s' 8=.int .i64 k∧g=xs.length-k∧k≤xs.length∧∀ (j:Nat) (hj:j<xs.length),j<k→p xs[j]=false) xs.length ?_ ?_
 ·exact ⟨0,rfl,by omega,by omega,by intros;omega⟩
 ·rintro _ d w' hS ⟨k,h8,rfl,hk,hpre⟩
  refine W.fix h8 ?_
  repeat' (first|((first|apply jI|apply jJ);(first|exact eI rfl|exact eS rfl|exact eF rfl))|(refine jW (jX rfl rfl ?_))|refine jz ?_|(refine jjA ?_;(first|refine jjB ?_|refine jjC ?_|refine jjD ?_|refine jjE ?_|refine jjF ?_|refine jjG ?_))|(refine jjA ?_;(refine jjN rfl ?_ ?_<;>intro _))|refine jB rfl rfl ⟨inferInstance,?_⟩)
  ·have hk':k<xs.length:=by omega
   refine Ops.indexRow rfl rfl (hrow.ext inferInstance) rfl (map_get hk') ?_
   intro b o hA
   refine Ops.loadV rfl hA (by exact hrow.get (List.getElem_mem hk')) ?_
   refine jjQ (hp _ _ (List.getElem_mem hk') inferInstance) rfl rfl ?_
   rintro v w2 hS2 rfl
   repeat' (first|((first|apply jI|apply jJ);exact eI rfl)|(refine jW (jY rfl rfl (by omega) ?_))|refine jz ?_|(refine jjA ?_;(first|refine jjB ?_|refine jjC ?_|refine jjF ?_|refine jjG ?_))|(refine jjA ?_;(refine jjO rfl ?_ ?_<;>intro _))|refine jB rfl rfl ⟨inferInstance,?_⟩)
   ·exact congrArg _ (idxV_hit hk' ‹_› hpre).symm
   ·refine ⟨rfl,by (((iterate 12 refine Same.upd rfl ?_);exact Same.ovN)),xs.length-(k+1),by omega,inferInstance,k+1,rfl,rfl,by omega,fun j hj hjk=>?_⟩
    by_cases e:j=k
    ·subst e;assumption
    ·exact hpre j hj (by omega)
  ·exact congrArg _ (idxV_miss fun j hj=>hpre j hj (by omega)).symm


theorem IndexFunc_Slstring {α:Type} (w:World) (v fv:Value) (enc:α→Value) (xs:List α) (p:α→Bool) (hrow:RowV w false 1 v (xs.map enc)) (hp:PredE Tryz.prog w fv enc xs p) :
  Ct Tryz.prog 132 [v,fv] w fun r _=>r=.int .i64 (idxV p xs):=by
 obtain ⟨a,c,rfl⟩:=hrow.slice
 obtain ⟨g,cap,rfl,hg,hp⟩:=hp.h
 have hlen:=hrow.len
 rw [List.length_map] at hlen hrow ⊢
 refine Ct.ofW (by simp) ?_
 (refine jjB (jjC (jJ (eI rfl) (jz (jjB (jjB ?_)))));refine jjC (jI (eS rfl) (jh rfl (jI (eI rfl) (jz (jjD ?_))))))
 refine W.loop (9::10::5::11::12::13::14::15::16::17::4::18::8::[]) (fun g s' _=>∃ k:Nat,s' 8=.int .i64 k∧g=xs.length-k∧k≤xs.length∧∀ (j:Nat) (hj:j<xs.length),j<k→p xs[j]=false) xs.length ?_ ?_
 ·exact ⟨0,rfl,by omega,by omega,by intros;omega⟩
 ·rintro _ d w' hS ⟨k,h8,rfl,hk,hpre⟩
  refine W.fix h8 ?_
  repeat' (first|((first|apply jI|apply jJ);(first|exact eI rfl|exact eS rfl|exact eF rfl))|(refine jW (jX rfl rfl ?_))|refine jz ?_|(refine jjA ?_;(first|refine jjB ?_|refine jjC ?_|refine jjD ?_|refine jjE ?_|refine jjF ?_|refine jjG ?_))|(refine jjA ?_;(refine jjN rfl ?_ ?_<;>intro _))|refine jB rfl rfl ⟨inferInstance,?_⟩)
  ·have hk':k<xs.length:=by omega
   refine Ops.indexRow rfl rfl (hrow.ext inferInstance) rfl (map_get hk') ?_
   intro b o hA
   refine Ops.loadV rfl hA (by exact hrow.get (List.getElem_mem hk')) ?_
   refine jjQ (hp _ _ (List.getElem_mem hk') inferInstance) rfl rfl ?_
   rintro v w2 hS2 rfl
   repeat' (first|((first|apply jI|apply jJ);exact eI rfl)|(refine jW (jY rfl rfl (by omega) ?_))|refine jz ?_|(refine jjA ?_;(first|refine jjB ?_|refine jjC ?_|refine jjF ?_|refine jjG ?_))|(refine jjA ?_;(refine jjO rfl ?_ ?_<;>intro _))|refine jB rfl rfl ⟨inferInstance,?_⟩)
   ·exact congrArg _ (idxV_hit hk' ‹_› hpre).symm
   ·refine ⟨rfl,by (((iterate 12 refine Same.upd rfl ?_);exact Same.ovN)),xs.length-(k+1),by omega,inferInstance,k+1,rfl,rfl,by omega,fun j hj hjk=>?_⟩
    by_cases e:j=k
    ·subst e;assumption
    ·exact hpre j hj (by omega)
  ·exact congrArg _ (idxV_miss fun j hj=>hpre j hj (by omega)).symm


theorem IndexFunc_byte {α:Type} (w:World) (v fv:Value) (enc:α→Value) (xs:List α) (p:α→Bool) (hrow:RowV w false 1 v (xs.map enc)) (hp:PredE Tryz.prog w fv enc xs p) :
  Ct Tryz.prog 140 [v,fv] w fun r _=>r=.int .i64 (idxV p xs):=by
 obtain ⟨a,c,rfl⟩:=hrow.slice
 obtain ⟨g,cap,rfl,hg,hp⟩:=hp.h
 have hlen:=hrow.len
 rw [List.length_map] at hlen hrow ⊢
 refine Ct.ofW (by simp) ?_
 (refine jjB (jjC (jJ (eI rfl) (jz (jjB (jjB ?_)))));refine jjC (jI (eS rfl) (jh rfl (jI (eI rfl) (jz (jjD ?_))))))
 refine W.loop (9::10::5::11::12::13::14::15::16::17::4::18::8::[]) (fun g s' _=>∃ k:Nat,s' 8=.int .i64 k∧g=xs.length-k∧k≤xs.length∧∀ (j:Nat) (hj:j<xs.length),j<k→p xs[j]=false) xs.length ?_ ?_
 ·exact ⟨0,rfl,by omega,by omega,by intros;omega⟩
 ·rintro _ d w' hS ⟨k,h8,rfl,hk,hpre⟩
  refine W.fix h8 ?_
  repeat' (first|((first|apply jI|apply jJ);(first|exact eI rfl|exact eS rfl|exact eF rfl))|(refine jW (jX rfl rfl ?_))|refine jz ?_|(refine jjA ?_;(first|refine jjB ?_|refine jjC ?_|refine jjD ?_|refine jjE ?_|refine jjF ?_|refine jjG ?_))|(refine jjA ?_;(refine jjN rfl ?_ ?_<;>intro _))|refine jB rfl rfl ⟨inferInstance,?_⟩)
  ·have hk':k<xs.length:=by omega
   refine Ops.indexRow rfl rfl (hrow.ext inferInstance) rfl (map_get hk') ?_
   intro b o hA
   refine Ops.loadV rfl hA (by exact hrow.get (List.getElem_mem hk')) ?_
   refine jjQ (hp _ _ (List.getElem_mem hk') inferInstance) rfl rfl ?_
   rintro v w2 hS2 rfl
   repeat' (first|((first|apply jI|apply jJ);exact eI rfl)|(refine jW (jY rfl rfl (by omega) ?_))|refine jz ?_|(refine jjA ?_;(first|refine jjB ?_|refine jjC ?_|refine jjF ?_|refine jjG ?_))|(refine jjA ?_;(refine jjO rfl ?_ ?_<;>intro _))|refine jB rfl rfl ⟨inferInstance,?_⟩)
   ·exact congrArg _ (idxV_hit hk' ‹_› hpre).symm
   ·refine ⟨rfl,by (((iterate 12 refine Same.upd rfl ?_);exact Same.ovN)),xs.length-(k+1),by omega,inferInstance,k+1,rfl,rfl,by omega,fun j hj hjk=>?_⟩
    by_cases e:j=k
    ·subst e;assumption
    ·exact hpre j hj (by omega)
  ·exact congrArg _ (idxV_miss fun j hj=>hpre j hj (by omega)).symm


theorem ContainsFunc_int {α:Type} (w:World) (v fv:Value) (enc:α→Value) (xs:List α) (p:α→Bool) (hrow:RowV w false 1 v (xs.map enc)) (hp:PredE Tryz.prog w fv enc xs p) :
  Ct Tryz.prog 68 [v,fv] w fun r _=>r=.bool (xs.any p):=by
 refine Ct.ofW (by simp) ?_
 (refine jjB (jjC (jJ (eB rfl) (jz (jjB (jjC ?_)))));refine jI rfl (jI rfl ?_))
 refine jjQ (IndexFunc_int _ _ _ enc _ _ (hrow.ext inferInstance) (hp.ext inferInstance)) rfl rfl ?_
 rintro _ w2 hS2 rfl
 (refine jf rfl rfl (jJ (eB rfl) (jz (jjF ?_)));refine jB rfl rfl ⟨inferInstance,?_⟩)
 exact congrArg Value.bool (idxV_nonneg p xs)


theorem ContainsFunc_string {α:Type} (w:World) (v fv:Value) (enc:α→Value) (xs:List α) (p:α→Bool) (hrow:RowV w false 1 v (xs.map enc)) (hp:PredE Tryz.prog w fv enc xs p) :
  Ct Tryz.prog 92 [v,fv] w fun r _=>r=.bool (xs.any p):=by
 refine Ct.ofW (by simp) ?_
 (refine jjB (jjC (jJ (eB rfl) (jz (jjB (jjC ?_)))));refine jI rfl (jI rfl ?_))
 refine jjQ (IndexFunc_string _ _ _ enc _ _ (hrow.ext inferInstance) (hp.ext inferInstance)) rfl rfl ?_
 rintro _ w2 hS2 rfl
 (refine jf rfl rfl (jJ (eB rfl) (jz (jjF ?_)));refine jB rfl rfl ⟨inferInstance,?_⟩)
 exact congrArg Value.bool (idxV_nonneg p xs)


theorem ContainsFunc_Slstring {α:Type} (w:World) (v fv:Value) (enc:α→Value) (xs:List α) (p:α→Bool) (hrow:RowV w false 1 v (xs.map enc)) (hp:PredE Tryz.prog w fv enc xs p) :
  Ct Tryz.prog 99 [v,fv] w fun r _=>r=.bool (xs.any p):=by
 refine Ct.ofW (by simp) ?_
 (refine jjB (jjC (jJ (eB rfl) (jz (jjB (jjC ?_)))));refine jI rfl (jI rfl ?_))
 refine jjQ (IndexFunc_Slstring _ _ _ enc _ _ (hrow.ext inferInstance) (hp.ext inferInstance)) rfl rfl ?_
 rintro _ w2 hS2 rfl
 (refine jf rfl rfl (jJ (eB rfl) (jz (jjF ?_)));refine jB rfl rfl ⟨inferInstance,?_⟩)
 exact congrArg Value.bool (idxV_nonneg p xs)


theorem ContainsFunc_byte {α:Type} (w:World) (v fv:Value) (enc:α→Value) (xs:List α) (p:α→Bool) (hrow:RowV w false 1 v (xs.map enc)) (hp:PredE Tryz.prog w fv enc xs p) :
  Ct Tryz.prog 126 [v,fv] w fun r _=>r=.bool (xs.any p):=by
 refine Ct.ofW (by simp) ?_
 (refine jjB (jjC (jJ (eB rfl) (jz (jjB (jjC ?_)))));refine jI rfl (jI rfl ?_))
 refine jjQ (IndexFunc_byte _ _ _ enc _ _ (hrow.ext inferInstance) (hp.ext inferInstance)) rfl rfl ?_
 rintro _ w2 hS2 rfl
 (refine jf rfl rfl (jJ (eB rfl) (jz (jjF ?_)));refine jB rfl rfl ⟨inferInstance,?_⟩)
 exact congrArg Value.bool (idxV_nonneg p xs)


theorem in1_leaf (n lo hi:Int) (b c:Nat) (w:World) [At w b 0 [.int .i64 lo]] [At w c 0 [.int .i64 hi]] :
  Ct Tryz.prog 124 [.int .i64 n,.pointer (some ⟨b,0,none⟩),.pointer (some ⟨c,0,none⟩)] w fun v _=>v=.bool (!inB lo hi n):=by
 refine Ct.ofW (by simp) ?_
 repeat' (first|((first|apply jI|apply jJ|apply jK rfl|apply jL rfl);(first|exact eI rfl|exact eB rfl))|(refine jM (jN rfl rfl rfl ?_))|(refine jS ?_;(first|refine jT rfl rfl rfl ?_|refine jU rfl rfl rfl rfl ?_))|(refine jW ?_;(first|refine jX rfl rfl ?_|refine je rfl rfl ?_))|refine jz ?_|(refine jjA ?_;(first|refine jjB ?_|refine jjC ?_|refine jjF ?_))|(refine jS ?_;(refine jjL rfl rfl ?_ ?_<;>intro _))|refine jB rfl rfl ⟨inferInstance,?_⟩)
 ·exact congrArg Value.bool (by simp only [inB,Bool.true_eq,Bool.not_eq_true',decide_eq_false_iff_not];omega)
 ·exact congrArg Value.bool (by rw [inB,←decide_not,decide_eq_decide];omega)

theorem in_leaf (lo hi:Int) (v:Value) (xs:List Int) (w:World) (hrow:RowV w false 1 v (xs.map (.int .i64))) :
  Ct Tryz.prog 91 [.int .i64 lo,.int .i64 hi,v] w fun r _=>r=.bool (xs.all (inB lo hi)):=by
 refine Ct.ofW (by simp) ?_
 (refine jjB (jjC ?_))
 (refine jy rfl ?_;intro b1 w_b1 hb_b1 hs_b1 hS_b1 hk_b1;have hA_b1:=At.ofBlock hk_b1)
 (refine jy rfl ?_;intro b2 w_b2 hb_b2 hs_b2 hS_b2 hk_b2;have hA_b2:=At.ofBlock hk_b2)
 (refine jJ (eB rfl) (jz (jjB (jjC (jI rfl (jv ?_))))))
 refine jjQ (ContainsFunc_int _ _ (.func (.func 124) #[] [.pointer (some ⟨b1,0,none⟩),.pointer (some ⟨b2,0,none⟩)].toArray) (.int .i64) xs (fun n=>!inB lo hi n) (hrow.ext inferInstance) ?hp) rfl rfl ?_
 case hp =>
  refine ⟨_,_,rfl,inferInstance,fun w' y _ hs=>?_⟩
  have:=hA_b2.ext hs
  have:=(inferInstance:At w_b2 b1 0 _).ext hs
  exact in1_leaf y lo hi b1 b2 w'
 rintro _ w2 hS2 rfl
 (refine js rfl (jJ (eB rfl) (jz (jjF ?_)));refine jB rfl rfl ⟨inferInstance,?_⟩)
 exact congrArg Value.bool (not_any_not _ xs)


theorem word1_leaf (n:Int) (w:World):Ct Tryz.prog 127 [.int .u8 n] w fun v _=>v=.bool (decide (n<97∨122<n)):=by
 refine Ct.ofW (by simp) ?_
 repeat' (first|((first|apply jI|apply jJ|apply jK rfl|apply jL rfl);(first|exact eI rfl|exact eB rfl))|(refine jS ?_;(first|refine jT rfl rfl rfl ?_|refine jU rfl rfl rfl rfl ?_))|(refine jW ?_;(first|refine jX rfl rfl ?_|refine je rfl rfl ?_))|refine jz ?_|(refine jjA ?_;(first|refine jjB ?_|refine jjC ?_|refine jjF ?_))|(refine jS ?_;(refine jjL rfl rfl ?_ ?_<;>intro _))|refine jB rfl rfl ⟨inferInstance,?_⟩)
 ·exact congrArg Value.bool (by simp only [Bool.true_eq,decide_eq_true_eq];omega)
 ·exact congrArg Value.bool (by rw [decide_eq_decide];omega)

theorem word_leaf (s:ByteArray) (w:World) (hs:s.size≤140737488351232):Ct Tryz.prog 94 [.string s] w fun r _=>r=.bool (wordB s):=by
 refine Ct.ofW (by simp) ?_
 (refine jjB (jjC (jJ (eB rfl) (jz (jjB (jjC ?_)))));refine jI (eT rfl) (ji rfl ?_))
 (refine jjP (v:=.int _ _) rfl (by exact rfl) (by exact rfl) (by exact rfl) (by exact rfl) ?_;intro b1 w_b1 hb_b1 hs_b1 hS_b1 hk_b1;have hR_b1:=RowV.one (agg:=false) (k:=1) rfl hk_b1)
 refine jjQ (in_leaf 1 12 _ [(s.size:Int)] _ hR_b1) rfl rfl ?_
 rintro _ w2 hS2 rfl
 repeat' (first|((first|apply jI|apply jJ|apply jL rfl);(first|exact eB rfl|exact eT rfl))|(refine jS ?_;(first|refine jT rfl rfl rfl ?_|refine jU rfl rfl rfl rfl ?_))|refine jz ?_|(refine jjA (jjF ?_))|(refine jS ?_;(refine jjM rfl rfl ?_ ?_<;>intro _))|refine jB rfl rfl ⟨inferInstance,?_⟩)
 ·refine Ops.bytesOf rfl (by omega) ?_
  intro v w3 hS3 hR3
  (refine jT rfl rfl rfl ?_)
  refine jjQ (ContainsFunc_byte _ _ (.func (.func 127) #[] ([]:List Value).toArray) byteV s.data.toList (fun c=>decide ((c.toNat:Int)<97∨122<(c.toNat:Int))) hR3 ?hp) rfl rfl ?_
  case hp =>
   exact ⟨_,_,rfl,inferInstance,fun w' y _ hs=>word1_leaf _ w'⟩
  rintro _ w4 hS4 rfl
  (refine jT rfl rfl rfl (js rfl (jK rfl (eB rfl) (jJ (eB rfl) (jz (jjF ?_)))));refine jB rfl rfl ⟨inferInstance,?_⟩)
  exact congrArg Value.bool (word_yes s ‹_›)
 ·exact congrArg Value.bool (word_no s ‹_›)


theorem in1_slip (n lo hi:Int) (b c:Nat) (w:World) [At w b 0 [.int .i64 lo]] [At w c 0 [.int .i64 hi]] :
  Ct Tryz.prog 102 [.int .i64 n,.pointer (some ⟨b,0,none⟩),.pointer (some ⟨c,0,none⟩)] w fun v _=>v=.bool (!inB lo hi n):=by
 refine Ct.ofW (by simp) ?_
 repeat' (first|((first|apply jI|apply jJ|apply jK rfl|apply jL rfl);(first|exact eI rfl|exact eB rfl))|(refine jM (jN rfl rfl rfl ?_))|(refine jS ?_;(first|refine jT rfl rfl rfl ?_|refine jU rfl rfl rfl rfl ?_))|(refine jW ?_;(first|refine jX rfl rfl ?_|refine je rfl rfl ?_))|refine jz ?_|(refine jjA ?_;(first|refine jjB ?_|refine jjC ?_|refine jjF ?_))|(refine jS ?_;(refine jjL rfl rfl ?_ ?_<;>intro _))|refine jB rfl rfl ⟨inferInstance,?_⟩)
 ·exact congrArg Value.bool (by simp only [inB,Bool.true_eq,Bool.not_eq_true',decide_eq_false_iff_not];omega)
 ·exact congrArg Value.bool (by rw [inB,←decide_not,decide_eq_decide];omega)

theorem in_slip (lo hi:Int) (v:Value) (xs:List Int) (w:World) (hrow:RowV w false 1 v (xs.map (.int .i64))) :
  Ct Tryz.prog 62 [.int .i64 lo,.int .i64 hi,v] w fun r _=>r=.bool (xs.all (inB lo hi)):=by
 refine Ct.ofW (by simp) ?_
 (refine jjB (jjC ?_))
 (refine jy rfl ?_;intro b1 w_b1 hb_b1 hs_b1 hS_b1 hk_b1;have hA_b1:=At.ofBlock hk_b1)
 (refine jy rfl ?_;intro b2 w_b2 hb_b2 hs_b2 hS_b2 hk_b2;have hA_b2:=At.ofBlock hk_b2)
 (refine jJ (eB rfl) (jz (jjB (jjC (jI rfl (jv ?_))))))
 refine jjQ (ContainsFunc_int _ _ (.func (.func 102) #[] [.pointer (some ⟨b1,0,none⟩),.pointer (some ⟨b2,0,none⟩)].toArray) (.int .i64) xs (fun n=>!inB lo hi n) (hrow.ext inferInstance) ?hp) rfl rfl ?_
 case hp =>
  refine ⟨_,_,rfl,inferInstance,fun w' y _ hs=>?_⟩
  have:=hA_b2.ext hs
  have:=(inferInstance:At w_b2 b1 0 _).ext hs
  exact in1_slip y lo hi b1 b2 w'
 rintro _ w2 hS2 rfl
 (refine js rfl (jJ (eB rfl) (jz (jjF ?_)));refine jB rfl rfl ⟨inferInstance,?_⟩)
 exact congrArg Value.bool (not_any_not _ xs)


theorem in1_chart (n lo hi:Int) (b c:Nat) (w:World) [At w b 0 [.int .i64 lo]] [At w c 0 [.int .i64 hi]] :
  Ct Tryz.prog 137 [.int .i64 n,.pointer (some ⟨b,0,none⟩),.pointer (some ⟨c,0,none⟩)] w fun v _=>v=.bool (!inB lo hi n):=by
 refine Ct.ofW (by simp) ?_
 repeat' (first|((first|apply jI|apply jJ|apply jK rfl|apply jL rfl);(first|exact eI rfl|exact eB rfl))|(refine jM (jN rfl rfl rfl ?_))|(refine jS ?_;(first|refine jT rfl rfl rfl ?_|refine jU rfl rfl rfl rfl ?_))|(refine jW ?_;(first|refine jX rfl rfl ?_|refine je rfl rfl ?_))|refine jz ?_|(refine jjA ?_;(first|refine jjB ?_|refine jjC ?_|refine jjF ?_))|(refine jS ?_;(refine jjL rfl rfl ?_ ?_<;>intro _))|refine jB rfl rfl ⟨inferInstance,?_⟩)
 ·exact congrArg Value.bool (by simp only [inB,Bool.true_eq,Bool.not_eq_true',decide_eq_false_iff_not];omega)
 ·exact congrArg Value.bool (by rw [inB,←decide_not,decide_eq_decide];omega)

theorem in_chart (lo hi:Int) (v:Value) (xs:List Int) (w:World) (hrow:RowV w false 1 v (xs.map (.int .i64))) :
  Ct Tryz.prog 117 [.int .i64 lo,.int .i64 hi,v] w fun r _=>r=.bool (xs.all (inB lo hi)):=by
 refine Ct.ofW (by simp) ?_
 (refine jjB (jjC ?_))
 (refine jy rfl ?_;intro b1 w_b1 hb_b1 hs_b1 hS_b1 hk_b1;have hA_b1:=At.ofBlock hk_b1)
 (refine jy rfl ?_;intro b2 w_b2 hb_b2 hs_b2 hS_b2 hk_b2;have hA_b2:=At.ofBlock hk_b2)
 (refine jJ (eB rfl) (jz (jjB (jjC (jI rfl (jv ?_))))))
 refine jjQ (ContainsFunc_int _ _ (.func (.func 137) #[] [.pointer (some ⟨b1,0,none⟩),.pointer (some ⟨b2,0,none⟩)].toArray) (.int .i64) xs (fun n=>!inB lo hi n) (hrow.ext inferInstance) ?hp) rfl rfl ?_
 case hp =>
  refine ⟨_,_,rfl,inferInstance,fun w' y _ hs=>?_⟩
  have:=hA_b2.ext hs
  have:=(inferInstance:At w_b2 b1 0 _).ext hs
  exact in1_chart y lo hi b1 b2 w'
 rintro _ w2 hS2 rfl
 (refine js rfl (jJ (eB rfl) (jz (jjF ?_)));refine jB rfl rfl ⟨inferInstance,?_⟩)
 exact congrArg Value.bool (not_any_not _ xs)


theorem in1_hand (n lo hi:Int) (b c:Nat) (w:World) [At w b 0 [.int .i64 lo]] [At w c 0 [.int .i64 hi]] :
  Ct Tryz.prog 112 [.int .i64 n,.pointer (some ⟨b,0,none⟩),.pointer (some ⟨c,0,none⟩)] w fun v _=>v=.bool (!inB lo hi n):=by
 refine Ct.ofW (by simp) ?_
 repeat' (first|((first|apply jI|apply jJ|apply jK rfl|apply jL rfl);(first|exact eI rfl|exact eB rfl))|(refine jM (jN rfl rfl rfl ?_))|(refine jS ?_;(first|refine jT rfl rfl rfl ?_|refine jU rfl rfl rfl rfl ?_))|(refine jW ?_;(first|refine jX rfl rfl ?_|refine je rfl rfl ?_))|refine jz ?_|(refine jjA ?_;(first|refine jjB ?_|refine jjC ?_|refine jjF ?_))|(refine jS ?_;(refine jjL rfl rfl ?_ ?_<;>intro _))|refine jB rfl rfl ⟨inferInstance,?_⟩)
 ·exact congrArg Value.bool (by simp only [inB,Bool.true_eq,Bool.not_eq_true',decide_eq_false_iff_not];omega)
 ·exact congrArg Value.bool (by rw [inB,←decide_not,decide_eq_decide];omega)

theorem in_hand (lo hi:Int) (v:Value) (xs:List Int) (w:World) (hrow:RowV w false 1 v (xs.map (.int .i64))) :
  Ct Tryz.prog 73 [.int .i64 lo,.int .i64 hi,v] w fun r _=>r=.bool (xs.all (inB lo hi)):=by
 refine Ct.ofW (by simp) ?_
 (refine jjB (jjC ?_))
 (refine jy rfl ?_;intro b1 w_b1 hb_b1 hs_b1 hS_b1 hk_b1;have hA_b1:=At.ofBlock hk_b1)
 (refine jy rfl ?_;intro b2 w_b2 hb_b2 hs_b2 hS_b2 hk_b2;have hA_b2:=At.ofBlock hk_b2)
 (refine jJ (eB rfl) (jz (jjB (jjC (jI rfl (jv ?_))))))
 refine jjQ (ContainsFunc_int _ _ (.func (.func 112) #[] [.pointer (some ⟨b1,0,none⟩),.pointer (some ⟨b2,0,none⟩)].toArray) (.int .i64) xs (fun n=>!inB lo hi n) (hrow.ext inferInstance) ?hp) rfl rfl ?_
 case hp =>
  refine ⟨_,_,rfl,inferInstance,fun w' y _ hs=>?_⟩
  have:=hA_b2.ext hs
  have:=(inferInstance:At w_b2 b1 0 _).ext hs
  exact in1_hand y lo hi b1 b2 w'
 rintro _ w2 hS2 rfl
 (refine js rfl (jJ (eB rfl) (jz (jjF ?_)));refine jB rfl rfl ⟨inferInstance,?_⟩)
 exact congrArg Value.bool (not_any_not _ xs)


theorem inOne_leaf (lo hi n:Int) (b:Nat) (B:Bool) (w:World) (hB:inB lo hi n=B) (hR:RowV w false 1 (.slice (some ⟨b,0,none⟩) 1 1) [.int .i64 n]):Ct Tryz.prog 91 [.int .i64 lo,.int .i64 hi,.slice (some ⟨b,0,none⟩) 1 1] w fun v _=>v=.bool B :=
 (in_leaf lo hi _ [n] w hR).mono fun v _ _ e=>e.trans (by rw [all_1,hB])
theorem Check1_leaf (s:ByteArray) (w:World) (hs:s.size≤1000):Ct Tryz.prog 93 [.string s] w fun v _=>v=.bool (!wordB s):=by
 refine Ct.ofW (by simp) ?_
 (refine jjB (jjC (jJ (eB rfl) (jz (jjB (jjC ?_)))));refine jI (eT rfl) ?_)
 refine jjQ (word_leaf s _ (by omega)) rfl rfl ?_
 rintro _ w2 hS2 rfl
 (refine js rfl (jJ (eB rfl) (jz (jjF ?_)));refine jB rfl rfl ⟨inferInstance,?_⟩)
 exact rfl
theorem not_words (l:List ByteArray):l.any (fun s=>!wordB s)=!l.all wordB:=by
 rw [any_not]

section
variable (a:Option Addr) (c:Nat) (cs:List Ch) (w:World) [hrow:RowI w (.slice a cs.length c) true 2 (cs.map encCh)] [hT:TextI w cs]
set_option maxHeartbeats 4000000 in
theorem Check_leaf (hs:SmallT cs):Ct Tryz.prog 55 [.agg #[.slice a cs.length c]] w fun v _=>v=.int .i64 (if textB (txF cs) then 0 else 10):=by
 have hs1:=hs.1
 refine Ct.ofW (by simp) ?_
 (refine jjB (jjC ?_))
 (refine jy rfl ?_;intro b1 w_b1 hb_b1 hs_b1 hS_b1 hk_b1;have hA_b1:=At.ofBlock hk_b1)
 (refine jJ (eI rfl) (jz (jjH (jjB (jjB (jjC ?_)))));refine jm (jn rfl (jN rfl rfl rfl (jh rfl ?_))))
 (refine jjP (v:=.int _ _) rfl (by exact rfl) (by exact rfl) (by exact rfl) (by exact rfl) ?_;intro b2 w_b2 hb_b2 hs_b2 hS_b2 hk_b2;have hR_b2:=RowV.one (agg:=false) (k:=1) rfl hk_b2)
 obtain ⟨B6,h6⟩:∃ B,inB 1 6 (cs.length:Int)=B:=⟨_,rfl⟩
 skip
 refine jjQ (inOne_leaf 1 6 (cs.length:Int) b2 B6 _ h6 hR_b2) rfl rfl ?_
 rintro _ w2 hS2 rfl
 cases B6
 ·(refine jq rfl (jz (jjJ rfl (jjB (jjC (jJ (eI rfl) ?_)))));refine jz (jjF ?_);refine jB rfl rfl ⟨inferInstance,?_⟩)
  rw [textB_len h6];exact rfl
 (refine jp rfl (jz (jjK rfl (jjG (jjB (jjC ?_)))));refine jJ (eI rfl) (jz (jjB (jjC ?_))))
 refine Ops.makeMap (Value.int .i64) ?_
 intro mb w3 hmb hs3 hS3 hM3
 (refine jJ (eM rfl) (jz (jjB (jjI (jjB (jjB ?_)))));refine jjC (jm (jn rfl (jN rfl rfl rfl (jh rfl (jI (eI rfl) ?_)))));refine jz (jjD ?_))
 have hE3:Ext w w3:=inferInstance
 have hT3:TextI w3 cs:=hT.ext hE3
 have hrow3:RowV w3 true 2 (.slice a cs.length c) (cs.map encCh):=hrow.h.ext hE3
 have zmb:w.heap.size≤mb:=by have:=(inferInstance:Ext w w2).size;omega
 refine W.keep0 [(3,.int .i64 (0:Int)),(4,.map (some mb)),(17,.slice a cs.length c),(18,.int .i64 ((cs.length:Nat):Int)),(19,.int .i64 ((0:Nat):Int))] ⟨eI rfl,eM rfl,eS rfl,eI rfl,eI rfl,trivial⟩ fun s0=>?_
 refine W.loopG (20::21::22::6::23::24::25::26::27::28::29::30::31::32::33::34::35::36::37::38::39::40::41::2::42::43::44::45::46::47::48::49::50::51::8::52::53::54::55::56::57::58::59::60::3::61::62::19::[]) (fun g s' V=>∃ (k:Nat) (m:List (Int×Value)),s' 19=.int .i64 ((k:Nat):Int)∧s' 3=.int .i64 (0:Int)∧g=cs.length-k∧k≤cs.length∧Only mb w3 V∧MapE (Value.int .i64) V mb m∧(∀ x:Int,mget m x=if x∈(cs.take k).map (·.1) then some (.bool true) else none)∧(∀ (j:Nat) (hj:j<cs.length),j<k→chapB (txC cs[j])=true)∧∀ (i j:Nat) (hij:i<j) (hj:j<cs.length),j<k→(cs[i]'(by omega)).1≠cs[j].1) cs.length ⟨0,[],rfl,rfl,rfl,Nat.zero_le _,.ofExt (.refl _),hM3,fun x=>by simp [mget],by intros;omega,by intros;omega⟩ ?_
 rintro _ sd V ⟨k,m,h19,h3,rfl,hk,hOn,hM,hmg,hpre,hid⟩
 refine W.fix h19 (W.fix (d:=3) h3 ?_)
 clear h19 h3
 have hEV:Ext w V:=hOn.ext hE3 zmb
 by_cases hkc:k<cs.length
 rotate_left
 ·obtain rfl:k=cs.length:=by omega
  (refine jjB (jjC (jja rfl rfl (by omega) (jz (jjB (jjK rfl ?_)))));refine jjE (jjB (jjC (jI (eI rfl) (jJ (eI rfl) (jz ?_)))));refine jjF ?_;refine jB rfl rfl ⟨inferInstance,?_⟩)
  rw [textB_yes h6 (fun j hj=>hpre j hj hj) (fun i j hij hj=>hid i j hij hj hj)];exact rfl
 have hgk:=List.getElem?_eq_getElem hkc
 have hsk:=hs.2 _ (List.getElem_mem hkc)
 have hno:chapB (txC cs[k])=false→textB (txF cs)=false:=textB_chap hkc
 have hrV:RowI V (.slice a cs.length c) true 2 (cs.map encCh):=⟨hrow.h.ext hEV⟩
 (refine jjB (jjC (jjZ rfl rfl (by omega) (jz (jjB (jjJ rfl ?_)))));refine jjG (jjB (jjD (jjB (jjC ?_))));refine jF rfl rfl rfl (map_get (by omega)) ?_;intro _ _ _;refine jQ rfl rfl ?_)
 (apply jjR rfl;(intro _;first|exact eI rfl|exact eB rfl|exact eP rfl|exact eS rfl|exact eT rfl|exact eA rfl|exact eU rfl|exact eF rfl|exact eM rfl|exact eN rfl|exact rfl);exact rfl;exact rfl;exact rfl;exact rfl;intro b6 w_b6 hb_b6 hs_b6 hS_b6 hk_b6;have hA_b6:=Bk.of hk_b6)
 (refine jz (jjB (jjB (jjC (jm (jn rfl ?_)))));refine jN rfl rfl rfl ?_)
 (refine jjP (v:=.int _ _) rfl (by exact rfl) (by exact rfl) (by exact rfl) (by exact rfl) ?_;intro b7 w_b7 hb_b7 hs_b7 hS_b7 hk_b7;have hR_b7:=RowV.one (agg:=false) (k:=1) rfl hk_b7)
 obtain ⟨Bi,hi⟩:∃ B,inB 0 9999 cs[k].1=B:=⟨_,rfl⟩
 skip
 refine jjQ (inOne_leaf 0 9999 cs[k].1 b7 Bi _ hi hR_b7) rfl rfl ?_
 rintro _ w8 hS8 rfl
 cases Bi
 ·(refine jq rfl (jI (eB rfl) (jU rfl rfl rfl rfl (jU rfl rfl rfl rfl (jU rfl rfl rfl rfl (jU rfl rfl rfl rfl ?_)))));refine jK rfl (eB rfl) (jI (eB rfl) (jU rfl rfl rfl rfl (jU rfl rfl rfl rfl (jU rfl rfl rfl rfl (jU rfl rfl rfl rfl ?_)))));refine jU rfl rfl rfl rfl (jU rfl rfl rfl rfl (jK rfl (eB rfl) (jz (jjJ rfl (jjB ?_)))));refine jjC (jJ (eI rfl) (jz (jjF ?_)));refine jB rfl rfl ⟨inferInstance,?_⟩)
  rw [hno (chapB_id hi)];exact rfl
 have hE8:Ext V w8:=(hS_b6.ext.trans hS_b7.ext).trans hS8.ext
 have hM8:=hM.ext hE8
 (refine jp rfl (jI (eB rfl) (jT rfl rfl rfl (jI (eM rfl) (jT rfl rfl rfl (jm ?_)))));refine jn rfl (jT rfl rfl rfl (jN rfl rfl rfl (jT rfl rfl rfl ?_))))
 refine Ops.lookup (k:=cs[k].1) hM8 rfl rfl ?_
 by_cases hdup:cs[k].1∈(cs.take k).map (·.1)
 ·rw [hmg,if_pos hdup]
  have htb:textB (txF cs)=false:=by
   obtain ⟨x,hx,hx2⟩:=List.mem_map.1 hdup
   obtain ⟨j,hj,rfl⟩:=List.mem_iff_getElem.1 hx
   rw [List.length_take] at hj
   rw [List.getElem_take] at hx2
   exact textB_dup (i:=j) (by omega) hkc hx2
  (refine jL rfl (eB rfl) (jI (eB rfl) (jU rfl rfl rfl rfl (jU rfl rfl rfl rfl (jU rfl rfl rfl rfl (jU rfl rfl rfl rfl ?_)))));refine jU rfl rfl rfl rfl (jU rfl rfl rfl rfl (jK rfl (eB rfl) (jz (jjJ rfl (jjB ?_)))));refine jjC (jJ (eI rfl) (jz (jjF ?_)));refine jB rfl rfl ⟨inferInstance,?_⟩)
  rw [htb];exact rfl
 rw [hmg,if_neg hdup]
 (refine jL rfl (eB rfl) (jI (eB rfl) (jT rfl rfl rfl (jm (jn rfl (jT rfl rfl rfl ?_)))));refine jN rfl rfl rfl (jT rfl rfl rfl (jh rfl (jT rfl rfl rfl ?_))))
 (refine jjP (v:=.int _ _) rfl (by exact rfl) (by exact rfl) (by exact rfl) (by exact rfl) ?_;intro b9 w_b9 hb_b9 hs_b9 hS_b9 hk_b9;have hR_b9:=RowV.one (agg:=false) (k:=1) rfl hk_b9)
 obtain ⟨Bl,hl⟩:∃ B,inB 1 10 (cs[k].2.2.2.length:Int)=B:=⟨_,rfl⟩
 (refine jT rfl rfl rfl ?_)
 refine jjQ (inOne_leaf 1 10 (cs[k].2.2.2.length:Int) b9 Bl _ hl hR_b9) rfl rfl ?_
 rintro _ w10 hS10 rfl
 cases Bl
 ·(refine jT rfl rfl rfl (jq rfl (jL rfl (eB rfl) (jz (jjJ rfl (jjB ?_)))));refine jjC (jJ (eI rfl) (jz (jjF ?_)));refine jB rfl rfl ⟨inferInstance,?_⟩)
  rw [hno (chapB_len hl)];exact rfl
 have hE10:Ext V w10:=hE8.trans (hS_b9.ext.trans hS10.ext)
 (refine jT rfl rfl rfl (jp rfl (jL rfl (eB rfl) (jz (jjK rfl (jjG ?_)))));refine jjB (jjC (jI (eM rfl) (jm (jn rfl (jN rfl rfl rfl ?_))))))
 refine Ops.mapUpdate (k:=cs[k].1) (hM.ext hE10) rfl rfl rfl ?_
 intro w11 o11 hp11 hM11
 have hOn11:Only mb w3 w11:=(hOn.trans (.ofExt hE10)).trans (.ofPut hp11)
 have hE11:Ext w w11:=hOn11.ext hE3 zmb
 have hne6:b6≠mb:=by have:=hM.lt;omega
 have hb6:Bk w11 b6 [.int .i64 cs[k].1,.slice cs[k].2.1 cs[k].2.2.2.length cs[k].2.2.1] 99:=hp11.bk (((hA_b6.ext hS_b7.ext).ext hS8.ext).ext (hS_b9.ext.trans hS10.ext)) hne6
 have hmg11:∀ x:Int,mget (mset m cs[k].1 (.bool true)) x=if x∈(cs.take (k+1)).map (·.1) then some (.bool true) else none:=fun x=>by
  rw [take_snoc_get hgk,List.map_append]
  by_cases e:x=cs[k].1
  ·subst e;rw [mget_set_same,if_pos (by simp)]
  ·rw [mget_set_other _ _ e,hmg]
   congr 1
   simp [e]
 have hidk:∀ (j:Nat) (hj:j<k),(cs[j]'(by omega)).1≠cs[k].1:=fun j hj he=>hdup (List.mem_map.2 ⟨cs[j]'(by omega),List.mem_iff_getElem.2 ⟨j,by rw [List.length_take];omega,by rw [List.getElem_take]⟩,he⟩)
 have hT11:TextI w11 cs:=hT.ext hE11
 clear hmg hdup hM8
 (refine jz (jjB (jjC (jm (jn rfl (jN rfl rfl rfl ?_)))));refine jh rfl (jI (eI rfl) (jz (jjD ?_))))
 refine W.keep [(3,.int .i64 (0:Int)),(4,.map (some mb)),(17,.slice a cs.length c),(18,.int .i64 ((cs.length:Nat):Int)),(19,.int .i64 ((k:Nat):Int)),(46,.slice cs[k].2.1 cs[k].2.2.2.length cs[k].2.2.1),(47,.int .i64 ((cs[k].2.2.2.length:Nat):Int)),(48,.int .i64 ((0:Nat):Int))] (D:=(20::21::22::6::23::24::25::26::27::28::29::30::31::32::33::34::35::36::37::38::39::40::41::2::42::43::44::45::46::47::48::49::50::51::8::52::53::54::55::56::57::58::59::60::3::61::62::19::[])) (sO:=upds s0 _) (by (((iterate 32 refine Same.upd rfl ?_);exact Same.ovN))) ⟨eI rfl,eM rfl,eS rfl,eI rfl,eI rfl,eS rfl,eI rfl,eI rfl,trivial⟩ fun s1 hs1'=>?_
 refine W.loop (49::50::51::8::52::53::54::55::56::57::58::59::60::3::61::48::[]) (fun g s' V=>∃ n:Nat,s' 48=.int .i64 ((n:Nat):Int)∧s' 3=.int .i64 (0:Int)∧g=cs[k].2.2.2.length-n∧n≤cs[k].2.2.2.length∧∀ (j:Nat) (hj:j<cs[k].2.2.2.length),j<n→lineB cs[k].2.2.2[j].2.2=true) cs[k].2.2.2.length ⟨0,rfl,rfl,rfl,Nat.zero_le _,by intros;omega⟩ ?_
 rintro _ sd2 w12 hS12 ⟨n,h48,h3',rfl,hn,hpre2⟩
 refine W.fix h48 (W.fix (d:=3) h3' ?_)
 clear h48 h3'
 by_cases hnl:n<cs[k].2.2.2.length
 rotate_left
 ·have hyes:=chapB_yes hi hl (fun j hj=>hpre2 j hj (by omega))
  (refine jjB (jjC (jja rfl rfl (by omega) (jz (jjB (jjK rfl ?_)))));refine jjE (jjC (jY rfl rfl (by omega) (jI (eI rfl) (jz ?_)))))
  refine ⟨rfl,by (((iterate 5 refine Same.upd rfl ?_);refine Same.ovN' rfl ?_;assumption)),cs.length-(k+1),by omega,k+1,_,congrArg (Value.int .i64) (by omega),rfl,rfl,by omega,hOn11.trans (.ofExt hS12.ext),hM11.ext hS12.ext,hmg11,fun j hj hjk=>?_,fun i' j hij hj hjk=>?_⟩
  ·by_cases e:j=k
   ·subst e;exact hyes
   ·exact hpre j hj (by omega)
  ·by_cases e:j=k
   ·subst e;exact hidk i' hij
   ·exact hid i' j hij hj (by omega)
 have hsn:=hsk.2 _ (List.getElem_mem hnl)
 have hnoL:lineB cs[k].2.2.2[n].2.2=false→textB (txF cs)=false:=fun h=>hno (chapB_line hnl h)
 have hT12:TextI w12 cs:=hT11.ext hS12.ext
 have hE12:Ext w w12:=hE11.trans hS12.ext
 have i2:=hT12.line hkc
 have hLR:=(hT12.word hkc hnl).h
 obtain ⟨Bn,hln⟩:∃ B,inB 1 10 (cs[k].2.2.2[n].2.2.length:Int)=B:=⟨_,rfl⟩
 (refine jjB (jjC (jjZ rfl rfl (by omega) (jz (jjB (jjJ rfl ?_)))));refine jjG (jjB (jjD (jjB (jjC ?_))));refine jF rfl rfl rfl (map_get (by omega)) ?_;intro _ _ _;refine jQ rfl rfl (jJ (eS rfl) (jz (jjB (jjC (jI (eS rfl) ?_)))));refine jh rfl ?_)
 (refine jjP (v:=.int _ _) rfl (by exact rfl) (by exact rfl) (by exact rfl) (by exact rfl) ?_;intro b13 w_b13 hb_b13 hs_b13 hS_b13 hk_b13;have hR_b13:=RowV.one (agg:=false) (k:=1) rfl hk_b13)
 refine jjQ (inOne_leaf 1 10 (cs[k].2.2.2[n].2.2.length:Int) b13 Bn _ hln hR_b13) rfl rfl ?_
 rintro _ w14 hS14 rfl
 cases Bn
 ·(refine jq rfl (jI (eB rfl) (jU rfl rfl rfl rfl (jU rfl rfl rfl rfl (jK rfl (eB rfl) (jz ?_)))));refine jjJ rfl (jjB (jjC (jJ (eI rfl) (jz (jjE ?_)))));refine jjB (jjC (jI (eI rfl) (jJ (eI rfl) (jz (jjF ?_)))));refine jB rfl rfl ⟨inferInstance,?_⟩)
  rw [hnoL (lineB_len hln)];exact rfl
 have hE14:Ext w12 w14:=hS_b13.ext.trans hS14.ext
 obtain ⟨Bw,hw⟩:∃ B,(cs[k].2.2.2[n].2.2).any (fun s=>!wordB s)=B:=⟨_,rfl⟩
 (refine jp rfl (jI (eB rfl) (jT rfl rfl rfl (jI (eS rfl) (jT rfl rfl rfl ?_)))))
 refine jjQ ((ContainsFunc_string _ _ (.func (.func 93) #[] #[]) strV cs[k].2.2.2[n].2.2 (fun s=>!wordB s) (hLR.ext hE14) ⟨_,[],rfl,inferInstance,fun w' x hx hs'=>Check1_leaf x w' (hsn.2 x hx)⟩).mono fun v _ _ e=>e.trans (by rw [hw])) rfl rfl ?_
 rintro _ w15 hS15 rfl
 rw [not_words] at hw
 cases Bw
 ·have hyes:lineB cs[k].2.2.2[n].2.2=true:=by
   have:(cs[k].2.2.2[n].2.2).all wordB=true:=by simpa using hw
   rw [lineB,hln,this];rfl
  (refine jL rfl (eB rfl) (jz (jjK rfl (jjG (jjC (jY rfl rfl (by omega) ?_)))));refine jI (eI rfl) (jz ?_))
  refine ⟨rfl,by (((iterate 17 refine Same.upd rfl ?_);exact Same.ovN)),cs[k].2.2.2.length-(n+1),by omega,inferInstance,n+1,congrArg (Value.int .i64) (by omega),rfl,rfl,by omega,fun j hj hjk=>?_⟩
  by_cases e:j=n
  ·subst e;exact hyes
  ·exact hpre2 j hj (by omega)
 ·have hbad:lineB cs[k].2.2.2[n].2.2=false:=by
   have:(cs[k].2.2.2[n].2.2).all wordB=false:=by simpa using hw
   rw [lineB,this,Bool.and_false]
  (refine jL rfl (eB rfl) (jz (jjJ rfl (jjB (jjC (jJ (eI rfl) ?_)))));refine jz (jjE (jjB (jjC (jI (eI rfl) (jJ (eI rfl) ?_)))));refine jz (jjF ?_);refine jB rfl rfl ⟨inferInstance,?_⟩)
  rw [hnoL hbad];exact rfl
end

section
variable (a:Option Addr) (c:Nat) (cs:List Ch) (w:World) [hrow:RowI w (.slice a cs.length c) true 2 (cs.map encCh)] [hT:TextI w cs]
set_option maxHeartbeats 2000000 in
theorem Great_ref1:Ct Tryz.prog 19 [.agg #[.slice a cs.length c]] w fun v _=>v=.bool (greatT (txF cs)):=by
 have hlen:(txF cs).length=cs.length:=by simp [txF]
 refine Ct.ofW (by simp) ?_
 (refine jjB (jjC ?_))
 (refine jy rfl ?_;intro b1 w_b1 hb_b1 hs_b1 hS_b1 hk_b1;have hA_b1:=At.ofBlock hk_b1)
 by_cases h10:10<cs.length
 ·(refine jJ (eB rfl) (jz (jjB (jjB (jjC (jm ?_)))));refine jn rfl (jN rfl rfl rfl (jh rfl (jjd rfl rfl (by omega) (jz (jjJ rfl ?_)))));refine jjB (jjC (jJ (eB rfl) (jz (jjF ?_))));refine jB rfl rfl ⟨inferInstance,?_⟩)
  have:greatT (txF cs)=true:=by rw [greatT,hlen,decide_eq_true h10,Bool.true_or]
  rw [this];exact rfl
 (refine jJ (eB rfl) (jz (jjB (jjB (jjC (jm ?_)))));refine jn rfl (jN rfl rfl rfl (jh rfl (jje rfl rfl (by omega) (jz (jjK rfl ?_)))));refine jjG (jjB (jjB (jjC (jJ (eI rfl) (jz ?_)))));refine jjD ?_)
 have hC:∀ (k:Nat) (hk:k<cs.length),greatC (cs[k].1,cs[k].2.2.2.map (·.2.2))=true→greatT (txF cs)=true:=fun k hk h=>by
  have:(txF cs).any greatC=true:=any_hit (k:=k) (by rw [hlen];exact hk) (by simpa [txF] using h)
  rw [greatT,this,Bool.or_true]
 refine W.keep0 [(1,.pointer (some ⟨b1,0,none⟩)),(3,.int .i64 ((0:Nat):Int))] ⟨eP rfl,eI rfl,trivial⟩ fun s0=>?_
 refine W.loop (10::11::12::13::14::17::18::19::20::21::22::23::24::2::4::25::26::27::28::29::30::31::32::33::36::37::38::39::40::41::42::43::44::45::46::5::47::48::49::50::51::52::53::54::55::56::57::58::61::62::63::64::65::66::67::68::69::70::71::72::73::74::59::60::34::35::15::16::3::[]) (fun g s' V=>∃ k:Nat,s' 3=.int .i64 ((k:Nat):Int)∧g=cs.length-k∧k≤cs.length∧∀ (j:Nat) (hj:j<cs.length),j<k→greatC (cs[j].1,cs[j].2.2.2.map (·.2.2))=false) cs.length ⟨0,rfl,rfl,Nat.zero_le _,by intros;omega⟩ ?_
 rintro _ sd w1 hS1 ⟨k,h3,rfl,hk,hpre⟩
 refine W.fix h3 ?_
 clear h3
 by_cases hkc:k<cs.length
 rotate_left
 ·obtain rfl:k=cs.length:=by omega
  have:greatT (txF cs)=false:=by
   have h1:(txF cs).any greatC=false:=any_miss fun j hj=>by
    have hj':j<cs.length:=by rw [←hlen];exact hj
    simpa [txF] using hpre j hj' hj'
   rw [greatT,h1,hlen,decide_eq_false h10];rfl
  (refine jjB (jjB (jjC (jI (eI rfl) (jm (jn rfl ?_)))));refine jN rfl rfl rfl (jh rfl (jja rfl rfl (by omega) (jz (jjK rfl (jjE ?_)))));refine jjB (jjC (jJ (eB rfl) (jz (jjF ?_))));refine jB rfl rfl ⟨inferInstance,?_⟩)
  rw [this];exact rfl
 have hTk:TextI w1 cs:=inferInstance
 have i1:=hTk.line hkc
 have hCk:=hC k hkc
 by_cases h15:15<cs[k].2.2.2.length
 ·(refine jjB (jjB (jjC (jI (eI rfl) (jm (jn rfl ?_)))));refine jN rfl rfl rfl (jh rfl (jjZ rfl rfl (by omega) (jz (jjJ rfl (jjG ?_)))));refine jjB (jjD (jjB (jjB (jjC (jm ?_)))));refine jn rfl (jN rfl rfl rfl (jI (eI rfl) ?_));refine jF rfl rfl rfl (map_get (by omega)) ?_;intro _ _ _;refine jm (jn rfl (jP rfl rfl rfl (jh rfl (jjd rfl rfl (by omega) (jz ?_)))));refine jjJ rfl (jjB (jjC (jJ (eB rfl) (jz (jjF ?_)))));refine jB rfl rfl ⟨inferInstance,?_⟩)
  rw [hCk (by rw [greatC,List.length_map,decide_eq_true h15,Bool.true_or])];exact rfl
 (refine jjB (jjB (jjC (jI (eI rfl) (jm (jn rfl ?_)))));refine jN rfl rfl rfl (jh rfl (jjZ rfl rfl (by omega) (jz (jjJ rfl (jjG ?_)))));refine jjB (jjD (jjB (jjB (jjC (jm ?_)))));refine jn rfl (jN rfl rfl rfl (jI (eI rfl) ?_));refine jF rfl rfl rfl (map_get (by omega)) ?_;intro _ _ _;refine jm (jn rfl (jP rfl rfl rfl (jh rfl (jje rfl rfl (by omega) (jz ?_)))));refine jjK rfl (jjG (jjB (jjC (jJ (eI rfl) (jz ?_)))));refine jjD ?_)
 refine W.keep [(1,.pointer (some ⟨b1,0,none⟩)),(3,.int .i64 ((k:Nat):Int)),(4,.int .i64 ((0:Nat):Int))] (D:=(10::11::12::13::14::17::18::19::20::21::22::23::24::2::4::25::26::27::28::29::30::31::32::33::36::37::38::39::40::41::42::43::44::45::46::5::47::48::49::50::51::52::53::54::55::56::57::58::61::62::63::64::65::66::67::68::69::70::71::72::73::74::59::60::34::35::15::16::3::[])) (sO:=upds s0 _) (by (((iterate 15 refine Same.upd rfl ?_);exact Same.ovN))) ⟨eP rfl,eI rfl,eI rfl,trivial⟩ fun s1 hs1=>?_
 refine W.loop (25::26::27::28::29::30::31::32::33::36::37::38::39::40::41::42::43::44::45::46::2::5::47::48::49::50::51::52::53::54::55::56::57::58::61::62::63::64::65::66::67::68::69::70::71::72::73::74::59::60::34::35::4::[]) (fun g s' V=>∃ n:Nat,s' 4=.int .i64 ((n:Nat):Int)∧g=cs[k].2.2.2.length-n∧n≤cs[k].2.2.2.length∧∀ (j:Nat) (hj:j<cs[k].2.2.2.length),j<n→greatL cs[k].2.2.2[j].2.2=false) cs[k].2.2.2.length ⟨0,rfl,rfl,Nat.zero_le _,by intros;omega⟩ ?_
 rintro _ sd2 w2 hS2 ⟨n,h4,rfl,hn,hpre2⟩
 refine W.fix h4 ?_
 clear h4
 by_cases hnl:n<cs[k].2.2.2.length
 rotate_left
 ·have hne:n=cs[k].2.2.2.length:=by omega
  have hCf:greatC (cs[k].1,cs[k].2.2.2.map (·.2.2))=false:=by
   have h1:(cs[k].2.2.2.map (·.2.2)).any greatL=false:=any_miss fun j hj=>by
    rw [List.length_map] at hj
    rw [List.getElem_map]
    exact hpre2 j hj (by omega)
   rw [greatC,h1,List.length_map,decide_eq_false h15];rfl
  (refine jjB (jjB (jjC (jI (eI rfl) (jm (jn rfl ?_)))));refine jN rfl rfl rfl (jI (eI rfl) ?_);refine jF rfl rfl rfl (map_get (by omega)) ?_;intro _ _ _;refine jm (jn rfl (jP rfl rfl rfl (jh rfl (jja rfl rfl (by omega) (jz ?_)))));refine jjK rfl (jjE (jjC (jI (eI rfl) (jY rfl rfl (by omega) (jJ (eI rfl) ?_)))));refine jz ?_)
  refine ⟨rfl,by (((iterate 13 refine Same.upd rfl ?_);refine Same.ovN' rfl ?_;assumption)),cs.length-(k+1),by omega,inferInstance,k+1,congrArg (Value.int .i64) (by omega),rfl,by omega,fun j hj hjk=>?_⟩
  by_cases e:j=k
  ·subst e;exact hCf
  ·exact hpre j hj (by omega)
 have hTk2:TextI w2 cs:=inferInstance
 have i2:=hTk2.line hkc
 have i3:=hTk2.word hkc hnl
 have hLk:greatL cs[k].2.2.2[n].2.2=true→greatT (txF cs)=true:=fun h=>hCk (by
  have:(cs[k].2.2.2.map (·.2.2)).any greatL=true:=any_hit (k:=n) (by rw [List.length_map];exact hnl) (by rw [List.getElem_map];exact h)
  rw [greatC,this,Bool.or_true])
 by_cases h15':15<cs[k].2.2.2[n].2.2.length
 ·(refine jjB (jjB (jjC (jI (eI rfl) (jm (jn rfl ?_)))));refine jN rfl rfl rfl (jI (eI rfl) ?_);refine jF rfl rfl rfl (map_get (by omega)) ?_;intro _ _ _;refine jm (jn rfl (jP rfl rfl rfl (jh rfl (jjZ rfl rfl (by omega) (jz ?_)))));refine jjJ rfl (jjG (jjB (jjD (jjB (jjB ?_)))));refine jjC (jm (jn rfl (jN rfl rfl rfl (jI (eI rfl) ?_))));refine jF rfl rfl rfl (map_get (by omega)) ?_;intro _ _ _;refine jm (jn rfl (jP rfl rfl rfl (jI (eI rfl) ?_)));refine jF rfl rfl rfl (map_get (by omega)) ?_;intro _ _ _;refine jQ rfl rfl (jh rfl (jjd rfl rfl (by omega) (jz (jjJ rfl (jjB ?_)))));refine jjC (jJ (eB rfl) (jz (jjF ?_)));refine jB rfl rfl ⟨inferInstance,?_⟩)
  rw [hLk (by rw [greatL,decide_eq_true h15',Bool.true_or])];exact rfl
 (refine jjB (jjB (jjC (jI (eI rfl) (jm (jn rfl ?_)))));refine jN rfl rfl rfl (jI (eI rfl) ?_);refine jF rfl rfl rfl (map_get (by omega)) ?_;intro _ _ _;refine jm (jn rfl (jP rfl rfl rfl (jh rfl (jjZ rfl rfl (by omega) (jz ?_)))));refine jjJ rfl (jjG (jjB (jjD (jjB (jjB ?_)))));refine jjC (jm (jn rfl (jN rfl rfl rfl (jI (eI rfl) ?_))));refine jF rfl rfl rfl (map_get (by omega)) ?_;intro _ _ _;refine jm (jn rfl (jP rfl rfl rfl (jI (eI rfl) ?_)));refine jF rfl rfl rfl (map_get (by omega)) ?_;intro _ _ _;refine jQ rfl rfl (jh rfl (jje rfl rfl (by omega) (jz (jjK rfl (jjG ?_)))));refine jjB (jjC (jJ (eI rfl) (jz (jjD ?_)))))
 refine W.keep [(1,.pointer (some ⟨b1,0,none⟩)),(3,.int .i64 ((k:Nat):Int)),(4,.int .i64 ((n:Nat):Int)),(5,.int .i64 ((0:Nat):Int))] (D:=(25::26::27::28::29::30::31::32::33::36::37::38::39::40::41::42::43::44::45::46::2::5::47::48::49::50::51::52::53::54::55::56::57::58::61::62::63::64::65::66::67::68::69::70::71::72::73::74::59::60::34::35::4::[])) (sO:=upds s1 _) (by (((iterate 22 refine Same.upd rfl ?_);exact Same.ovN))) ⟨eP rfl,eI rfl,eI rfl,eI rfl,trivial⟩ fun s2 hs2=>?_
 refine W.loop (47::48::49::50::51::52::53::54::55::56::57::58::61::62::63::64::65::66::67::68::69::70::71::72::73::74::2::59::60::5::[]) (fun g s' V=>∃ q:Nat,s' 5=.int .i64 ((q:Nat):Int)∧g=cs[k].2.2.2[n].2.2.length-q∧q≤cs[k].2.2.2[n].2.2.length∧∀ (j:Nat) (hj:j<cs[k].2.2.2[n].2.2.length),j<q→¬ 40<cs[k].2.2.2[n].2.2[j].size) cs[k].2.2.2[n].2.2.length ⟨0,rfl,rfl,Nat.zero_le _,by intros;omega⟩ ?_
 rintro _ sd3 w3 hS3 ⟨q,h5,rfl,hq,hpre3⟩
 refine W.fix h5 ?_
 clear h5
 have hTk3:TextI w3 cs:=inferInstance
 have i4:=hTk3.line hkc
 have i5:=hTk3.word hkc hnl
 by_cases hql:q<cs[k].2.2.2[n].2.2.length
 ·by_cases h40:40<cs[k].2.2.2[n].2.2[q].size
  ·(refine jjB (jjB (jjC (jI (eI rfl) (jm (jn rfl ?_)))));refine jN rfl rfl rfl (jI (eI rfl) ?_);refine jF rfl rfl rfl (map_get (by omega)) ?_;intro _ _ _;refine jm (jn rfl (jP rfl rfl rfl (jI (eI rfl) ?_)));refine jF rfl rfl rfl (map_get (by omega)) ?_;intro _ _ _;refine jQ rfl rfl (jh rfl (jjZ rfl rfl (by omega) (jz (jjJ rfl (jjG ?_)))));refine jjB (jjD (jjB (jjC (jm (jn rfl ?_)))));refine jN rfl rfl rfl (jI (eI rfl) ?_);refine jF rfl rfl rfl (map_get (by omega)) ?_;intro _ _ _;refine jm (jn rfl (jP rfl rfl rfl (jI (eI rfl) ?_)));refine jF rfl rfl rfl (map_get (by omega)) ?_;intro _ _ _;refine jQ rfl rfl (jI (eI rfl) ?_);refine jF rfl rfl rfl (map_get (by omega)) ?_;intro _ _ _;refine jQ rfl rfl (ji rfl (jjd rfl rfl (by omega) (jz (jjJ rfl (jjB ?_)))));refine jjC (jJ (eB rfl) (jz (jjF ?_)));refine jB rfl rfl ⟨inferInstance,?_⟩)
   rw [hLk (by
    have:(cs[k].2.2.2[n].2.2).any (fun s=>decide (40<s.size))=true:=any_hit hql (decide_eq_true h40)
    rw [greatL,this,Bool.or_true])];exact rfl
  ·(refine jjB (jjB (jjC (jI (eI rfl) (jm (jn rfl ?_)))));refine jN rfl rfl rfl (jI (eI rfl) ?_);refine jF rfl rfl rfl (map_get (by omega)) ?_;intro _ _ _;refine jm (jn rfl (jP rfl rfl rfl (jI (eI rfl) ?_)));refine jF rfl rfl rfl (map_get (by omega)) ?_;intro _ _ _;refine jQ rfl rfl (jh rfl (jjZ rfl rfl (by omega) (jz (jjJ rfl (jjG ?_)))));refine jjB (jjD (jjB (jjC (jm (jn rfl ?_)))));refine jN rfl rfl rfl (jI (eI rfl) ?_);refine jF rfl rfl rfl (map_get (by omega)) ?_;intro _ _ _;refine jm (jn rfl (jP rfl rfl rfl (jI (eI rfl) ?_)));refine jF rfl rfl rfl (map_get (by omega)) ?_;intro _ _ _;refine jQ rfl rfl (jI (eI rfl) ?_);refine jF rfl rfl rfl (map_get (by omega)) ?_;intro _ _ _;refine jQ rfl rfl (ji rfl (jje rfl rfl (by omega) (jz (jjK rfl (jjG ?_)))));refine jjC (jI (eI rfl) (jY rfl rfl (by omega) (jJ (eI rfl) (jz ?_)))))
   refine ⟨rfl,by (((iterate 30 refine Same.upd rfl ?_);exact Same.ovN)),cs[k].2.2.2[n].2.2.length-(q+1),by omega,inferInstance,q+1,congrArg (Value.int .i64) (by omega),rfl,by omega,fun j hj hjk=>?_⟩
   by_cases e:j=q
   ·subst e;exact h40
   ·exact hpre3 j hj (by omega)
 ·have hLf:greatL cs[k].2.2.2[n].2.2=false:=by
   have h1:(cs[k].2.2.2[n].2.2).any (fun s=>decide (40<s.size))=false:=any_miss fun j hj=>decide_eq_false (hpre3 j hj (by omega))
   rw [greatL,h1,decide_eq_false h15'];rfl
  (refine jjB (jjB (jjC (jI (eI rfl) (jm (jn rfl ?_)))));refine jN rfl rfl rfl (jI (eI rfl) ?_);refine jF rfl rfl rfl (map_get (by omega)) ?_;intro _ _ _;refine jm (jn rfl (jP rfl rfl rfl (jI (eI rfl) ?_)));refine jF rfl rfl rfl (map_get (by omega)) ?_;intro _ _ _;refine jQ rfl rfl (jh rfl (jja rfl rfl (by omega) (jz (jjK rfl (jjE ?_)))));refine jjC (jI (eI rfl) (jY rfl rfl (by omega) (jJ (eI rfl) (jz ?_)))))
  refine ⟨rfl,by (((iterate 16 refine Same.upd rfl ?_);refine Same.ovN' rfl ?_;assumption)),cs[k].2.2.2.length-(n+1),by omega,inferInstance,n+1,congrArg (Value.int .i64) (by omega),rfl,by omega,fun j hj hjk=>?_⟩
  by_cases e:j=n
  ·subst e;exact hLf
  ·exact hpre2 j hj (by omega)
end

theorem within_postilref01 (n lo hi:Int) (w:World):Ct Tryz.prog 38 [.int .i64 n,.int .i64 lo,.int .i64 hi] w fun v _=>v=.bool (inB lo hi n):=by
 refine Ct.ofW (by simp) ?_
 repeat' (first|((first|apply jI|apply jJ|apply jK rfl|apply jL rfl);(first|exact eI rfl|exact eB rfl))|(refine jS ?_;(first|refine jT rfl rfl rfl ?_|refine jU rfl rfl rfl rfl ?_))|(refine jW ?_;(first|refine jd rfl rfl ?_|refine jf rfl rfl ?_))|refine jz ?_|(refine jjA ?_;(first|refine jjB ?_|refine jjC ?_|refine jjF ?_))|(refine jS ?_;(refine jjL rfl rfl ?_ ?_<;>intro _))|refine jB rfl rfl ⟨inferInstance,?_⟩)
 ·exact congrArg Value.bool (by simp only [inB,decide_eq_decide];omega)
 ·exact congrArg Value.bool (by simp only [inB,Bool.false_eq,decide_eq_false_iff_not];omega)


theorem within_postilref03 (n lo hi:Int) (w:World):Ct Tryz.prog 22 [.int .i64 n,.int .i64 lo,.int .i64 hi] w fun v _=>v=.bool (inB lo hi n):=by
 refine Ct.ofW (by simp) ?_
 repeat' (first|((first|apply jI|apply jJ|apply jK rfl|apply jL rfl);(first|exact eI rfl|exact eB rfl))|(refine jS ?_;(first|refine jT rfl rfl rfl ?_|refine jU rfl rfl rfl rfl ?_))|(refine jW ?_;(first|refine jd rfl rfl ?_|refine jf rfl rfl ?_))|refine jz ?_|(refine jjA ?_;(first|refine jjB ?_|refine jjC ?_|refine jjF ?_))|(refine jS ?_;(refine jjL rfl rfl ?_ ?_<;>intro _))|refine jB rfl rfl ⟨inferInstance,?_⟩)
 ·exact congrArg Value.bool (by simp only [inB,decide_eq_decide];omega)
 ·exact congrArg Value.bool (by simp only [inB,Bool.false_eq,decide_eq_false_iff_not];omega)


theorem within_postilref05 (n lo hi:Int) (w:World):Ct Tryz.prog 53 [.int .i64 n,.int .i64 lo,.int .i64 hi] w fun v _=>v=.bool (inB lo hi n):=by
 refine Ct.ofW (by simp) ?_
 repeat' (first|((first|apply jI|apply jJ|apply jK rfl|apply jL rfl);(first|exact eI rfl|exact eB rfl))|(refine jS ?_;(first|refine jT rfl rfl rfl ?_|refine jU rfl rfl rfl rfl ?_))|(refine jW ?_;(first|refine jd rfl rfl ?_|refine jf rfl rfl ?_))|refine jz ?_|(refine jjA ?_;(first|refine jjB ?_|refine jjC ?_|refine jjF ?_))|(refine jS ?_;(refine jjL rfl rfl ?_ ?_<;>intro _))|refine jB rfl rfl ⟨inferInstance,?_⟩)
 ·exact congrArg Value.bool (by simp only [inB,decide_eq_decide];omega)
 ·exact congrArg Value.bool (by simp only [inB,Bool.false_eq,decide_eq_false_iff_not];omega)


theorem word_low {s:ByteArray} (h:∀ j (hj:j<s.size),lowB s[j]=true):s.data.toList.all lowB=true:=by
 rw [List.all_eq_true]
 intro c hc
 obtain ⟨j,hj,rfl⟩:=List.getElem_of_mem hc
 exact h j (by simpa using hj)
theorem word_bad {s:ByteArray} {j:Nat} (hj:j<s.size) (h:lowB s[j]=false):false=wordB s:=by
 have:s.data.toList.all lowB=false:=by
  rw [List.all_eq_false]
  exact ⟨s[j],by simp [ByteArray.getElem_eq_getElem_data],by simp [h]⟩
 simp [wordB,this]
theorem lowB_no {c:UInt8} (h:(c.toNat:Int)<97∨122<(c.toNat:Int)):lowB c=false:=by simp only [lowB,decide_eq_false_iff_not];omega
theorem lowB_yes {c:UInt8} (h1:¬ (c.toNat:Int)<97) (h2:¬ 122<(c.toNat:Int)):lowB c=true:=by simp only [lowB,decide_eq_true_eq];omega

theorem Word_ref (s:ByteArray) (w:World) (hs:s.size≤140737488355328):Ct Tryz.prog 39 [.string s] w fun v _=>v=.bool (wordB s):=by
 refine Ct.ofW (by simp) ?_
 (refine jjB (jjC (jJ (eB rfl) (jz (jjB (jjB ?_)))));refine jjC (jJ (eI rfl) (jz (jjD ?_))))
 refine W.loop (4::5::6::7::10::11::12::13::14::15::16::17::18::19::2::8::9::3::[]) (fun g s' _=>∃ k:Nat,s' 3=.int .i64 k∧g=s.size-k∧k≤s.size∧∀ (j:Nat) (hj:j<s.size),j<k→lowB s[j]=true) s.size ⟨0,rfl,by omega,by omega,by intros;omega⟩ ?_
 rintro _ d w' hS ⟨k,h3,rfl,hk,hpre⟩
 refine W.fix h3 ?_
 repeat' (first|((first|apply jI|apply jJ|apply jK rfl|apply jL rfl);(first|exact eI rfl|exact eB rfl|exact eT rfl))|(refine jS ?_;(first|refine jT rfl rfl rfl ?_|refine jU rfl rfl rfl rfl ?_))|(refine jW ?_;(first|refine jX rfl rfl ?_|refine jY rfl rfl (by omega) ?_|refine je rfl rfl ?_))|(refine jg (ji rfl ?_))|refine jt rfl rfl rfl (by omega) ?_|refine jz ?_|(refine jjA ?_;(first|refine jjB ?_|refine jjC ?_|refine jjD ?_|refine jjE ?_|refine jjF ?_|refine jjG ?_|refine jjJ rfl ?_))|(refine jS ?_;(refine jjL rfl rfl ?_ ?_<;>intro _))|(refine jjA ?_;(refine jjN rfl ?_ ?_<;>intro _))|refine jB rfl rfl ⟨inferInstance,?_⟩)
 ·exact congrArg Value.bool (word_bad (j:=k) (by omega) (lowB_no (.inl ‹_›)))
 ·exact congrArg Value.bool (word_bad (j:=k) (by omega) (lowB_no (.inr ‹_›)))
 ·refine ⟨rfl,by (((iterate 19 refine Same.upd rfl ?_);exact Same.ovN)),s.size-(k+1),by omega,inferInstance,k+1,rfl,rfl,by omega,fun j hj hjk=>?_⟩
  by_cases e:j=k
  ·subst e;exact lowB_yes ‹_› ‹_›
  ·exact hpre j hj (by omega)
 ·refine jjQ (within_postilref01 _ 1 12 _) rfl rfl ?_
  rintro _ w2 hS2 rfl
  (refine jJ (eB rfl) (jz (jjF ?_));refine jB rfl rfl ⟨inferInstance,?_⟩)
  have:=word_low (s:=s) fun j hj=>hpre j hj (by omega)
  exact congrArg Value.bool (by simp only [wordB,this,inB,Bool.and_true,decide_eq_decide];omega)


section
variable (a:Option Addr) (c:Nat) (cs:List Ch) (w:World) [hrow:RowI w (.slice a cs.length c) true 2 (cs.map encCh)] [hT:TextI w cs]
set_option maxHeartbeats 4000000 in
theorem Text_ref1 (hs:SmallT cs):Ct Tryz.prog 13 [.agg #[.slice a cs.length c]] w fun v _=>v=.bool (textB (txF cs)):=by
 have hs1:=hs.1
 refine Ct.ofW (by simp) ?_
 (refine jjB (jjC ?_))
 (refine jy rfl ?_;intro b1 w_b1 hb_b1 hs_b1 hS_b1 hk_b1;have hA_b1:=At.ofBlock hk_b1)
 (refine jJ (eB rfl) (jz (jjB (jjB (jjC (jm ?_)))));refine jn rfl (jN rfl rfl rfl (jh rfl ?_)))
 refine jjQ (within_postilref01 (cs.length:Int) 1 6 _) rfl rfl ?_
 rintro _ w2 hS2 rfl
 cases h6:inB 1 6 (cs.length:Int)
 ·(refine jq rfl (jz (jjJ rfl (jjB (jjC (jJ (eB rfl) ?_)))));refine jz (jjF ?_);refine jB rfl rfl ⟨inferInstance,?_⟩)
  rw [textB_len h6];exact rfl
 (refine jp rfl (jz (jjK rfl (jjG (jjB (jjB ?_)))));refine jjC (jJ (eI rfl) (jz (jjD ?_))))
 refine W.keep0 [(1,.pointer (some ⟨b1,0,none⟩)),(3,.int .i64 ((0:Nat):Int))] ⟨eP rfl,eI rfl,trivial⟩ fun s0=>?_
 refine W.loop (13::14::15::16::17::20::21::22::23::24::4::25::26::27::28::29::30::31::32::33::34::35::2::5::36::37::38::41::42::43::44::45::46::47::48::49::39::40::6::50::51::52::53::54::57::58::59::60::61::62::63::64::7::65::66::67::68::69::70::71::72::75::76::77::78::79::80::81::82::83::84::73::74::55::56::18::19::3::[]) (fun g s' V=>∃ k:Nat,s' 3=.int .i64 ((k:Nat):Int)∧g=cs.length-k∧k≤cs.length∧(∀ (j:Nat) (hj:j<cs.length),j<k→chapB (txC cs[j])=true)∧∀ (i j:Nat) (hij:i<j) (hj:j<cs.length),j<k→(cs[i]'(by omega)).1≠cs[j].1) cs.length ⟨0,rfl,rfl,Nat.zero_le _,by intros;omega,by intros;omega⟩ ?_
 rintro _ sd w3 hS3 ⟨k,h3,rfl,hk,hpre,hid⟩
 refine W.fix h3 ?_
 clear h3
 by_cases hkc:k<cs.length
 rotate_left
 ·obtain rfl:k=cs.length:=by omega
  (refine jjB (jjB (jjC (jI (eI rfl) (jm (jn rfl ?_)))));refine jN rfl rfl rfl (jh rfl (jja rfl rfl (by omega) (jz (jjK rfl (jjE ?_)))));refine jjB (jjC (jJ (eB rfl) (jz (jjF ?_))));refine jB rfl rfl ⟨inferInstance,?_⟩)
  rw [textB_yes h6 (fun j hj=>hpre j hj hj) (fun i j hij hj=>hid i j hij hj hj)];exact rfl
 have hsk:=hs.2 _ (List.getElem_mem hkc)
 have hno:chapB (txC cs[k])=false→textB (txF cs)=false:=textB_chap hkc
 (refine jjB (jjB (jjC (jI (eI rfl) (jm (jn rfl ?_)))));refine jN rfl rfl rfl (jh rfl (jjZ rfl rfl (by omega) (jz (jjJ rfl (jjG ?_)))));refine jjB (jjD (jjB (jjC (jm (jn rfl ?_)))));refine jN rfl rfl rfl (jI (eI rfl) ?_);refine jF rfl rfl rfl (map_get (by omega)) ?_;intro _ _ _;refine jQ rfl rfl ?_)
 (apply jjR rfl;(intro _;first|exact eI rfl|exact eB rfl|exact eP rfl|exact eS rfl|exact eT rfl|exact eA rfl|exact eU rfl|exact eF rfl|exact eM rfl|exact eN rfl|exact rfl);exact rfl;exact rfl;exact rfl;exact rfl;intro b4 w_b4 hb_b4 hs_b4 hS_b4 hk_b4;have hA_b4:=Bk.of hk_b4)
 (refine jz (jjB (jjB (jjC (jm (jn rfl ?_)))));refine jN rfl rfl rfl ?_)
 refine jjQ (within_postilref01 cs[k].1 0 9999 _) rfl rfl ?_
 rintro _ w4 hS4 rfl
 cases hi:inB 0 9999 cs[k].1
 ·(refine jq rfl (jI (eB rfl) (jU rfl rfl rfl rfl (jU rfl rfl rfl rfl (jU rfl rfl rfl rfl (jU rfl rfl rfl rfl ?_)))));refine jU rfl rfl rfl rfl (jK rfl (eB rfl) (jz (jjJ rfl (jjB (jjC ?_)))));refine jJ (eB rfl) (jz (jjF ?_));refine jB rfl rfl ⟨inferInstance,?_⟩)
  rw [hno (chapB_id hi)];exact rfl
 (refine jp rfl (jI (eB rfl) (jT rfl rfl rfl (jm (jn rfl (jT rfl rfl rfl ?_)))));refine jN rfl rfl rfl (jT rfl rfl rfl (jh rfl (jT rfl rfl rfl ?_))))
 refine jjQ (within_postilref01 (cs[k].2.2.2.length:Int) 1 10 _) rfl rfl ?_
 rintro _ w5 hS5 rfl
 cases hl:inB 1 10 (cs[k].2.2.2.length:Int)
 ·(refine jT rfl rfl rfl (jq rfl (jL rfl (eB rfl) (jz (jjJ rfl (jjB ?_)))));refine jjC (jJ (eB rfl) (jz (jjF ?_)));refine jB rfl rfl ⟨inferInstance,?_⟩)
  rw [hno (chapB_len hl)];exact rfl
 (refine jT rfl rfl rfl (jp rfl (jL rfl (eB rfl) (jz (jjK rfl (jjG ?_)))));refine jjB (jjB (jjC (jJ (eI rfl) (jz (jjD ?_))))))
 have hA1:At w5 b1 0 [.slice a cs.length c]:=inferInstance
 have hA4:Bk w5 b4 [.int .i64 cs[k].1,.slice cs[k].2.1 cs[k].2.2.2.length cs[k].2.2.1] 99:=(hA_b4.ext hS4.ext).ext hS5.ext
 have hrow5:RowV w5 true 2 (.slice a cs.length c) (cs.map encCh):=hrow.h.ext inferInstance
 refine W.keep [(1,.pointer (some ⟨b1,0,none⟩)),(3,.int .i64 ((k:Nat):Int)),(4,.pointer (some ⟨b4,0,none⟩)),(5,.int .i64 ((0:Nat):Int))] (D:=(13::14::15::16::17::20::21::22::23::24::4::25::26::27::28::29::30::31::32::33::34::35::2::5::36::37::38::41::42::43::44::45::46::47::48::49::39::40::6::50::51::52::53::54::57::58::59::60::61::62::63::64::7::65::66::67::68::69::70::71::72::75::76::77::78::79::80::81::82::83::84::73::74::55::56::18::19::3::[])) (sO:=upds s0 _) (by (((iterate 24 refine Same.upd rfl ?_);exact Same.ovN))) ⟨eP rfl,eI rfl,eP rfl,eI rfl,trivial⟩ fun s1 hs1'=>?_
 refine W.loop (36::37::38::41::42::43::44::45::46::47::48::49::2::39::40::5::[]) (fun g s' V=>∃ i:Nat,s' 5=.int .i64 ((i:Nat):Int)∧g=k-i∧i≤k∧∀ (j:Nat) (hj:j<i) (hjc:j<cs.length),cs[j].1≠cs[k].1) k ⟨0,rfl,rfl,Nat.zero_le _,by intros;omega⟩ ?_
 rintro _ sd2 w6 hS6 ⟨i,h5,rfl,hik,hpre2⟩
 refine W.fix h5 ?_
 clear h5
 by_cases hik':i<k
 ·have hic:i<cs.length:=by omega
  have hz:=(hrow5.ext hS6.ext).place' (map_get hic)
  obtain ⟨p1,o1,e1,hP⟩:=hz
  have hA1':At w6 b1 0 [.slice (some ⟨p1,o1,none⟩) cs.length c]:=by rw [←e1];exact hA1.ext hS6.ext
  clear hA1
  have hP':At w6 p1 (o1+i * 2) [.int .i64 cs[i].1,.slice cs[i].2.1 cs[i].2.2.2.length cs[i].2.2.1]:=hP
  clear hP
  (refine jjB (jjB (jjC (jI (eI rfl) (jI (eI rfl) (jjZ rfl rfl (by omega) ?_)))));refine jz (jjJ rfl (jjG (jjB (jjD (jjB ?_))))))
  refine W.draw (fun w'=>Ext w6 w') ?_
  intro w7 hS7
  refine jjV [0,1,2,3,4,5,6,7,8] (by decide +kernel) hS7.ext ?_
  (((apply jjT;exact rfl;rintro w' hq;have:=hq.toStep;refine jm (jn rfl (jz ?_));exact ⟨rfl,rfl⟩;apply jjT;exact rfl;rintro w' hq;have:=hq.toStep;refine jN rfl rfl rfl (jz ?_);exact ⟨rfl,rfl⟩;refine jjT rfl (fun _ _=>jI (eI rfl) (jz ⟨rfl,rfl⟩)) ?_;apply jjT;exact rfl;rintro w' hq;have:=hq.toStep;refine jH _ rfl rfl rfl (by omega) (jz ?_);exact ⟨rfl,rfl⟩;apply jjT;exact rfl;rintro w' hq;have:=hq.toStep;refine jm (jn rfl (jz ?_));exact ⟨rfl,rfl⟩;apply jjT;exact rfl;rintro w' hq;have:=hq.toStep;refine jP rfl rfl rfl (jz ?_);exact ⟨rfl,rfl⟩;apply jjT;exact rfl;rintro w' hq;have:=hq.toStep;refine jm (jn rfl (jz ?_));exact ⟨rfl,rfl⟩;apply jjT;exact rfl;rintro w' hq;have:=hq.toStep;refine jN rfl rfl rfl (jz ?_);exact ⟨rfl,rfl⟩;refine jjT rfl (fun _ _=>jb rfl rfl (jz ⟨rfl,rfl⟩)) (jjU ?_))))
  refine jjX (by decide +kernel) hS7.ext ?_
  repeat' (first|((first|apply jI|apply jJ);(first|exact eI rfl|exact eB rfl))|(refine jW (jY rfl rfl (by omega) ?_))|refine jz ?_|(refine jjA ?_;(first|refine jjB ?_|refine jjC ?_|refine jjF ?_|refine jjG ?_))|(refine jjA ?_;(refine jjN rfl ?_ ?_<;>intro _))|refine jB rfl rfl ⟨inferInstance,?_⟩)
  ·have hd:cs[i].1=cs[k].1:=by assumption
   rw [textB_dup hik' hkc hd];exact rfl
  ·have hd:¬ cs[i].1=cs[k].1:=by assumption
   refine ⟨rfl,by (((iterate 16 refine Same.upd rfl ?_);exact Same.ovN)),k-(i+1),by omega,inferInstance,i+1,congrArg (Value.int .i64) (by omega),rfl,by omega,fun j hj hjc=>?_⟩
   by_cases e:j=i
   ·subst e;exact hd
   ·exact hpre2 j (by omega) hjc
 obtain rfl:i=k:=by omega
 clear hik' hik
 have hidk:∀ (j:Nat) (hj:j<i),(cs[j]'(by omega)).1≠cs[i].1:=fun j hj=>hpre2 j hj (by omega)
 clear hpre2
 have hA46:Bk w6 b4 [.int .i64 cs[i].1,.slice cs[i].2.1 cs[i].2.2.2.length cs[i].2.2.1] 99:=hA4.ext hS6.ext
 have hA16:At w6 b1 0 [.slice a cs.length c]:=hA1.ext hS6.ext
 have hT6:TextI w6 cs:=hT.ext inferInstance
 clear hA1 hA4
 (refine jjB (jjB (jjC (jI (eI rfl) (jI (eI rfl) (jja rfl rfl (by omega) ?_)))));refine jz (jjK rfl (jjE (jjB (jjC (jJ (eI rfl) ?_)))));refine jz (jjD ?_))
 refine W.keep [(1,.pointer (some ⟨b1,0,none⟩)),(3,.int .i64 ((i:Nat):Int)),(4,.pointer (some ⟨b4,0,none⟩)),(6,.int .i64 ((0:Nat):Int))] (D:=(13::14::15::16::17::20::21::22::23::24::4::25::26::27::28::29::30::31::32::33::34::35::2::5::36::37::38::41::42::43::44::45::46::47::48::49::39::40::6::50::51::52::53::54::57::58::59::60::61::62::63::64::7::65::66::67::68::69::70::71::72::75::76::77::78::79::80::81::82::83::84::73::74::55::56::18::19::3::[])) (sO:=upds s0 _) (by (((iterate 5 refine Same.upd rfl ?_);refine Same.ovN' rfl ?_;assumption))) ⟨eP rfl,eI rfl,eP rfl,eI rfl,trivial⟩ fun s2 hs2=>?_
 refine W.loop (50::51::52::53::54::57::58::59::60::61::62::63::64::2::7::65::66::67::68::69::70::71::72::75::76::77::78::79::80::81::82::83::84::73::74::55::56::6::[]) (fun g s' V=>∃ n:Nat,s' 6=.int .i64 ((n:Nat):Int)∧g=cs[i].2.2.2.length-n∧n≤cs[i].2.2.2.length∧∀ (j:Nat) (hj:j<cs[i].2.2.2.length),j<n→lineB cs[i].2.2.2[j].2.2=true) cs[i].2.2.2.length ⟨0,rfl,rfl,Nat.zero_le _,by intros;omega⟩ ?_
 rintro _ sd3 w7 hS7 ⟨n,h6',rfl,hn,hpre3⟩
 refine W.fix h6' ?_
 clear h6'
 by_cases hnl:n<cs[i].2.2.2.length
 rotate_left
 ·have hne:n=cs[i].2.2.2.length:=by omega
  have hyes:=chapB_yes hi hl (fun j hj=>hpre3 j hj (by omega))
  (refine jjB (jjB (jjC (jI (eI rfl) (jm (jn rfl ?_)))));refine jN rfl rfl rfl (jh rfl (jja rfl rfl (by omega) (jz (jjK rfl (jjE ?_)))));refine jjC (jI (eI rfl) (jY rfl rfl (by omega) (jJ (eI rfl) (jz ?_)))))
  refine ⟨rfl,by (((iterate 9 refine Same.upd rfl ?_);refine Same.ovN' rfl ?_;assumption)),cs.length-(i+1),by omega,inferInstance,i+1,congrArg (Value.int .i64) (by omega),rfl,by omega,fun j hj hjk=>?_,fun i' j hij hj hjk=>?_⟩
  ·by_cases e:j=i
   ·subst e;exact hyes
   ·exact hpre j hj (by omega)
  ·by_cases e:j=i
   ·subst e;exact hidk i' hij
   ·exact hid i' j hij hj (by omega)
 have hsn:=hsk.2 _ (List.getElem_mem hnl)
 have hnoL:lineB cs[i].2.2.2[n].2.2=false→textB (txF cs)=false:=fun h=>hno (chapB_line hnl h)
 have hT7:TextI w7 cs:=hT6.ext hS7.ext
 have i2:=hT7.line hkc
 have i3:=hT7.word hkc hnl
 (refine jjB (jjB (jjC (jI (eI rfl) (jm (jn rfl ?_)))));refine jN rfl rfl rfl (jh rfl (jjZ rfl rfl (by omega) (jz (jjJ rfl (jjG ?_)))));refine jjB (jjD (jjB (jjB (jjC (jm ?_)))));refine jn rfl (jN rfl rfl rfl (jI (eI rfl) ?_));refine jF rfl rfl rfl (map_get (by omega)) ?_;intro _ _ _;refine jQ rfl rfl (jh rfl ?_))
 refine jjQ (within_postilref01 (cs[i].2.2.2[n].2.2.length:Int) 1 10 _) rfl rfl ?_
 rintro _ w8 hS8 rfl
 cases hl10:inB 1 10 (cs[i].2.2.2[n].2.2.length:Int)
 ·(refine jq rfl (jz (jjJ rfl (jjB (jjC (jJ (eB rfl) ?_)))));refine jz (jjF ?_);refine jB rfl rfl ⟨inferInstance,?_⟩)
  rw [hnoL (lineB_len hl10)];exact rfl
 (refine jp rfl (jz (jjK rfl (jjG (jjB (jjC ?_)))));refine jJ (eI rfl) (jz (jjD ?_)))
 refine W.keep [(1,.pointer (some ⟨b1,0,none⟩)),(3,.int .i64 ((i:Nat):Int)),(4,.pointer (some ⟨b4,0,none⟩)),(6,.int .i64 ((n:Nat):Int)),(7,.int .i64 ((0:Nat):Int))] (D:=(50::51::52::53::54::57::58::59::60::61::62::63::64::2::7::65::66::67::68::69::70::71::72::75::76::77::78::79::80::81::82::83::84::73::74::55::56::6::[])) (sO:=upds s2 _) (by (((iterate 15 refine Same.upd rfl ?_);exact Same.ovN))) ⟨eP rfl,eI rfl,eP rfl,eI rfl,eI rfl,trivial⟩ fun s3 hs3=>?_
 have hA48:Bk w8 b4 [.int .i64 cs[i].1,.slice cs[i].2.1 cs[i].2.2.2.length cs[i].2.2.1] 99:=hA46.ext (hS7.ext.trans hS8.ext)
 refine W.loop (65::66::67::68::69::70::71::72::75::76::77::78::79::80::81::82::83::84::2::73::74::7::[]) (fun g s' V=>∃ q:Nat,s' 7=.int .i64 ((q:Nat):Int)∧g=cs[i].2.2.2[n].2.2.length-q∧q≤cs[i].2.2.2[n].2.2.length∧∀ (j:Nat) (hj:j<cs[i].2.2.2[n].2.2.length),j<q→wordB cs[i].2.2.2[n].2.2[j]=true) cs[i].2.2.2[n].2.2.length ⟨0,rfl,rfl,Nat.zero_le _,by intros;omega⟩ ?_
 rintro _ sd4 w9 hS9 ⟨q,h7,rfl,hq,hpre4⟩
 refine W.fix h7 ?_
 clear h7
 have hT9:TextI w9 cs:=hT7.ext (hS8.ext.trans hS9.ext)
 clear i2 i3
 have i4:=hT9.line hkc
 have i5:=hT9.word hkc hnl
 by_cases hql:q<cs[i].2.2.2[n].2.2.length
 ·have hsq:=hsn.2 _ (List.getElem_mem hql)
  (refine jjB (jjB (jjC (jI (eI rfl) (jm (jn rfl ?_)))));refine jN rfl rfl rfl (jI (eI rfl) ?_);refine jF rfl rfl rfl (map_get (by omega)) ?_;intro _ _ _;refine jQ rfl rfl (jh rfl (jjZ rfl rfl (by omega) (jz (jjJ rfl (jjG ?_)))));refine jjB (jjD (jjB (jjC (jm (jn rfl ?_)))));refine jN rfl rfl rfl (jI (eI rfl) ?_);refine jF rfl rfl rfl (map_get (by omega)) ?_;intro _ _ _;refine jQ rfl rfl (jI (eI rfl) ?_);refine jF rfl rfl rfl (map_get (by omega)) ?_;intro _ _ _;refine jQ rfl rfl ?_)
  have hwb:∃ b,wordB cs[i].2.2.2[n].2.2[q]=b:=⟨_,rfl⟩
  obtain ⟨b,hw⟩:=hwb
  refine jjQ ((Word_ref cs[i].2.2.2[n].2.2[q] _ (by omega)).mono fun v _ _ e=>e.trans (by rw [hw])) rfl rfl ?_
  rintro _ w10 hS10 rfl
  cases b
  ·(refine jq rfl (jz (jjJ rfl (jjB (jjC (jJ (eB rfl) ?_)))));refine jz (jjF ?_);refine jB rfl rfl ⟨inferInstance,?_⟩)
   rw [hnoL (lineB_word hql hw)];exact rfl
  ·(refine jp rfl (jz (jjK rfl (jjG (jjC (jI (eI rfl) ?_)))));refine jY rfl rfl (by omega) (jJ (eI rfl) (jz ?_)))
   refine ⟨rfl,by (((iterate 22 refine Same.upd rfl ?_);exact Same.ovN)),cs[i].2.2.2[n].2.2.length-(q+1),by omega,inferInstance,q+1,congrArg (Value.int .i64) (by omega),rfl,by omega,fun j hj hjk=>?_⟩
   by_cases e:j=q
   ·subst e;exact hw
   ·exact hpre4 j hj (by omega)
 ·have hyes:=lineB_yes hl10 (fun j hj=>hpre4 j hj (by omega))
  (refine jjB (jjB (jjC (jI (eI rfl) (jm (jn rfl ?_)))));refine jN rfl rfl rfl (jI (eI rfl) ?_);refine jF rfl rfl rfl (map_get (by omega)) ?_;intro _ _ _;refine jQ rfl rfl (jh rfl (jja rfl rfl (by omega) (jz (jjK rfl (jjE ?_)))));refine jjC (jI (eI rfl) (jY rfl rfl (by omega) (jJ (eI rfl) (jz ?_)))))
  refine ⟨rfl,by (((iterate 12 refine Same.upd rfl ?_);refine Same.ovN' rfl ?_;assumption)),cs[i].2.2.2.length-(n+1),by omega,inferInstance,n+1,congrArg (Value.int .i64) (by omega),rfl,by omega,fun j hj hjk=>?_⟩
  by_cases e:j=n
  ·subst e;exact hyes
  ·exact hpre3 j hj (by omega)
theorem Check_ref1 (hs:SmallT cs):Ct Tryz.prog 20 [.agg #[.slice a cs.length c]] w fun v _=>v=.int .i64 (if textB (txF cs) then 0 else 10):=by
 refine Ct.ofW (by simp) ?_
 (refine jjB (jjC ?_))
 (refine jy rfl ?_;intro b1 w_b1 hb_b1 hs_b1 hS_b1 hk_b1;have hA_b1:=At.ofBlock hk_b1)
 (refine jJ (eI rfl) (jz (jjB (jjB (jjC (jO rfl rfl rfl rfl ?_))))))
 refine jjQ (Text_ref1 a c cs _ hs) rfl rfl ?_
 rintro _ w2 hS2 rfl
 cases ht:textB (txF cs)
 ·(refine jq rfl (jz (jjJ rfl (jjB (jjC (jJ (eI rfl) ?_)))));refine jz (jjF ?_);refine jB rfl rfl ⟨inferInstance,?_⟩)
  exact rfl
 ·(refine jp rfl (jz (jjK rfl (jjG (jjB (jjC ?_)))));refine jJ (eI rfl) (jz (jjF ?_));refine jB rfl rfl ⟨inferInstance,?_⟩)
  exact rfl
end

theorem inOne_slip (lo hi n:Int) (b:Nat) (B:Bool) (w:World) (hB:inB lo hi n=B) (hR:RowV w false 1 (.slice (some ⟨b,0,none⟩) 1 1) [.int .i64 n]):Ct Tryz.prog 62 [.int .i64 lo,.int .i64 hi,.slice (some ⟨b,0,none⟩) 1 1] w fun v _=>v=.bool B :=
 (in_slip lo hi _ [n] w hR).mono fun v _ _ e=>e.trans (by rw [all_1,hB])
abbrev encCut (width side:Int):Value:=.agg #[.int .i64 width,.int .u8 side]
def cutB (width side:Int):Bool:=inB 12 80 width && inB 1 3 side
def askE (t:Tx) (width side:Int):Int:=if textB t then (if cutB width side then 0 else 30) else 10

theorem Check_slip (width side:Int) (hs:0≤side∧side≤255) (w:World):Ct Tryz.prog 29 [encCut width side] w fun v _=>v=.int .i64 (if cutB width side then 0 else 30):=by
 refine Ct.ofW (by simp) ?_
 (refine jjB (jjC ?_))
 (refine jy rfl ?_;intro b1 w_b1 hb_b1 hs_b1 hS_b1 hk_b1;have hA_b1:=At.ofBlock hk_b1)
 (refine jJ (eI rfl) (jz (jjB (jjB (jjC (jm ?_)))));refine jn rfl (jN rfl rfl rfl ?_))
 (refine jjP (v:=.int _ _) rfl (by exact rfl) (by exact rfl) (by exact rfl) (by exact rfl) ?_;intro b2 w_b2 hb_b2 hs_b2 hS_b2 hk_b2;have hR_b2:=RowV.one (agg:=false) (k:=1) rfl hk_b2)
 obtain ⟨B1,h1⟩:∃ B,inB 12 80 width=B:=⟨_,rfl⟩
 refine jjQ (inOne_slip 12 80 width b2 B1 _ h1 hR_b2) rfl rfl ?_
 rintro _ w2 hS2 rfl
 cases B1
 ·(refine jq rfl (jI (eB rfl) (jU rfl rfl rfl rfl (jU rfl rfl rfl rfl (jU rfl rfl rfl rfl (jU rfl rfl rfl rfl ?_)))));refine jU rfl rfl rfl rfl (jU rfl rfl rfl rfl (jK rfl (eB rfl) (jz (jjJ rfl (jjB ?_)))));refine jjC (jJ (eI rfl) (jz (jjF ?_)));refine jB rfl rfl ⟨inferInstance,?_⟩)
  rw [cutB,h1];exact rfl
 (refine jp rfl (jI (eB rfl) (jT rfl rfl rfl (jm (jn rfl (jT rfl rfl rfl ?_)))));refine jN rfl rfl rfl (jT rfl rfl rfl ?_))
 refine Ops.convI rfl rfl (wrapi (by omega) (by omega)) ?_
 (refine jT rfl rfl rfl ?_)
 (refine jjP (v:=.int _ _) rfl (by exact rfl) (by exact rfl) (by exact rfl) (by exact rfl) ?_;intro b3 w_b3 hb_b3 hs_b3 hS_b3 hk_b3;have hR_b3:=RowV.one (agg:=false) (k:=1) rfl hk_b3)
 obtain ⟨B2,h2⟩:∃ B,inB 1 3 side=B:=⟨_,rfl⟩
 (refine jT rfl rfl rfl ?_)
 refine jjQ (inOne_slip 1 3 side b3 B2 _ h2 hR_b3) rfl rfl ?_
 rintro _ w3 hS3 rfl
 cases B2
 ·(refine jT rfl rfl rfl (jq rfl (jL rfl (eB rfl) (jz (jjJ rfl (jjB ?_)))));refine jjC (jJ (eI rfl) (jz (jjF ?_)));refine jB rfl rfl ⟨inferInstance,?_⟩)
  rw [cutB,h1,h2];exact rfl
 ·(refine jT rfl rfl rfl (jp rfl (jL rfl (eB rfl) (jz (jjK rfl (jjG ?_)))));refine jjB (jjC (jJ (eI rfl) (jz (jjF ?_))));refine jB rfl rfl ⟨inferInstance,?_⟩)
  rw [cutB,h1,h2];exact rfl
theorem Cut_ref3 (width side:Int) (hs:0≤side∧side≤255) (w:World):Ct Tryz.prog 7 [encCut width side] w fun v _=>v=.bool (cutB width side):=by
 refine Ct.ofW (by simp) ?_
 (refine jjB (jjC ?_))
 (refine jy rfl ?_;intro b1 w_b1 hb_b1 hs_b1 hS_b1 hk_b1;have hA_b1:=At.ofBlock hk_b1)
 (refine jJ (eB rfl) (jz (jjB (jjC (jm (jn rfl ?_)))));refine jN rfl rfl rfl ?_)
 refine jjQ (within_postilref03 width 12 80 _) rfl rfl ?_
 rintro _ w2 hS2 rfl
 cases h1:inB 12 80 width
 ·(refine jI (eB rfl) (jU rfl rfl rfl rfl (jU rfl rfl rfl rfl (jU rfl rfl rfl rfl (jU rfl rfl rfl rfl (jL rfl (eB rfl) ?_)))));refine jJ (eB rfl) (jz (jjF ?_));refine jB rfl rfl ⟨inferInstance,?_⟩)
  rw [cutB,h1];exact rfl
 (refine jI (eB rfl) (jT rfl rfl rfl (jm (jn rfl (jT rfl rfl rfl (jN rfl rfl rfl ?_)))));refine jT rfl rfl rfl ?_)
 refine Ops.convI rfl rfl (wrapi (by omega) (by omega)) ?_
 (refine jT rfl rfl rfl ?_)
 refine jjQ (within_postilref03 side 1 3 _) rfl rfl ?_
 rintro _ w3 hS3 rfl
 (refine jK rfl (eB rfl) (jJ (eB rfl) (jz (jjF ?_)));refine jB rfl rfl ⟨inferInstance,?_⟩)
 rw [cutB,h1,Bool.true_and];exact rfl
section
variable (a:Option Addr) (c:Nat) (cs:List Ch) (width side:Int) (w:World) [hrow:RowI w (.slice a cs.length c) true 2 (cs.map encCh)] [hT:TextI w cs]
theorem open_slip (hs:SmallT cs) (hd:0≤side∧side≤255):Ct Tryz.prog 23 [.agg #[.slice a cs.length c],encCut width side] w fun v _=>v=.int .i64 (askE (txF cs) width side):=by
 refine Ct.ofW (by simp) ?_
 (refine jjB (jjC ?_))
 (refine jy rfl ?_;intro b1 w_b1 hb_b1 hs_b1 hS_b1 hk_b1;have hA_b1:=At.ofBlock hk_b1)
 skip
 (refine jy rfl ?_;intro b2 w_b2 hb_b2 hs_b2 hS_b2 hk_b2;have hA_b2:=At.ofBlock hk_b2)
 (refine jJ (eI rfl) (jz (jjB (jjB (jjC (jO rfl rfl rfl rfl ?_))))))
 refine jjQ (Check_leaf a c cs _ hs) rfl rfl ?_
 rintro _ w2 hS2 rfl
 cases ht:textB (txF cs)
 ·(refine jJ (eI rfl) (jz (jjB (jjC (jI (eI rfl) (jc rfl rfl ?_)))));refine jz (jjJ rfl (jjB (jjC (jI (eI rfl) (jJ (eI rfl) ?_)))));refine jz (jjF ?_);refine jB rfl rfl ⟨inferInstance,?_⟩)
  rw [askE,ht];exact rfl
 ·(refine jJ (eI rfl) (jz (jjB (jjC (jI (eI rfl) (jc rfl rfl ?_)))));refine jz (jjK rfl (jjG (jjB (jjC (jO rfl rfl rfl rfl ?_))))))
  refine jjQ (Check_slip width side hd _) rfl rfl ?_
  rintro _ w3 hS3 rfl
  (refine jJ (eI rfl) (jz (jjF ?_));refine jB rfl rfl ⟨inferInstance,?_⟩)
  rw [askE,ht];exact rfl
end
end Go.Proofs.YtbafmbpmiiplkaaGreatDoor

namespace Go.Proofs.YtbafmbpmiiplkaaGreatDoor
open Go.ChangeShapes Go.WideShapes Go.ChangeAt Go.RowKit Go.WideElems

theorem read_strs' {H:Type} {enc:TypeId×Value→H} {W:World} {n:Nat} {v:Value} {z:DataW H×List MemPlace} (h:DataW.trod enc Tryz.prog W 0 (fun _=>true) true n 70 [v]=some z)
  (hw:∀ q∈z.1.weights Tryz.prog 70,q≤reachBytes):∃ (a:Option Addr) (c:Nat) (l:List ByteArray),v=.slice a l.length c∧RowV W false 1 (.slice a l.length c) (l.map strV):=by
 obtain ⟨a,c,vs,e,hR,hE⟩:=rowV_of_trod (t:=70) (k:=1) (agg:=false) (by kernel_rfl) (by omega) (fun _=>rfl) (fun _ _ _ _ e=>by
  obtain ⟨m,e,_,_⟩:=DataW.trod_string Tryz.underlying9 e
  cases e;rfl) (of_decide_eq_true (by kernel_rfl)) h hw
 obtain ⟨l,rfl,_⟩:=exists_map (enc:=strV) (Q:=fun _=>True) (vs:=vs) fun y hy=>by
  obtain ⟨n',z,hz,_⟩:=hE y hy
  have hfit:=hR.fit y hy
  have hc:y.cells.toList=[y]:=by cases y<;>simp [fitsV] at hfit<;>rfl
  rw [hc] at hz
  obtain ⟨m,e,_,_⟩:=DataW.trod_string Tryz.underlying9 hz
  cases e
  exact ⟨m,rfl,trivial⟩
 rw [e] at hR
 rw [List.length_map] at hR e
 exact ⟨a,c,l,e,hR⟩
theorem read_lines' {H:Type} {enc:TypeId×Value→H} {W:World} {n:Nat} {v:Value} {z:DataW H×List MemPlace} (h:DataW.trod enc Tryz.prog W 0 (fun _=>true) true n 67 [v]=some z)
  (hw:∀ q∈z.1.weights Tryz.prog 67,q≤reachBytes):∃ (a:Option Addr) (c:Nat) (l:List Ln),v=.slice a l.length c∧RowV W false 1 (.slice a l.length c) (l.map encLn)∧∀ y∈l,RowV W false 1 (encLn y) (y.2.2.map strV):=by
 obtain ⟨a,c,vs,e,hR,hE⟩:=rowV_of_trod (t:=67) (k:=1) (agg:=false) (by kernel_rfl) (by omega) (fun _=>rfl) (fun _ _ _ _ e=>by
  rcases Deep.open_slice Tryz.underlying70 e with ⟨hcs,_⟩|⟨a,len,cap,m,n',D,Pl,hcs,_⟩<;>cases hcs<;>rfl) (of_decide_eq_true (by kernel_rfl)) h hw
 obtain ⟨l,rfl,hq⟩:=exists_map (enc:=encLn) (Q:=fun x=>RowV W false 1 (encLn x) (x.2.2.map strV)) (vs:=vs) fun y hy=>by
  obtain ⟨n',z,hz,hzw⟩:=hE y hy
  have hfit:=hR.fit y hy
  have hc:y.cells.toList=[y]:=by cases y<;>simp [fitsV] at hfit<;>rfl
  rw [hc] at hz
  obtain ⟨a',c',l',rfl,hR'⟩:=read_strs' hz hzw
  exact ⟨(a',c',l'),rfl,hR'⟩
 rw [e] at hR
 rw [List.length_map] at hR e
 exact ⟨a,c,l,e,hR,hq⟩
set_option maxRecDepth 100000 in
theorem read_cut {H:Type} {enc:TypeId×Value→H} {W:World} {base:Nat} {v:Value} {d:DataW H} {p:List MemPlace} (hv:Value.okWide Tryz.prog W .any base 31 v) (h:DataW.Trod enc Tryz.prog W 0 (fun _=>true) true 31 v d p) :
  ∃ wd side:Int,v=encCut wd side∧(0≤side∧side≤255):=by
 obtain ⟨v0,v1,y0,y1,n,rfl,rfl,_,h0,h1⟩:=Joins.open_agg2 Tryz.underlying31 (by kernel_rfl) (by kernel_rfl) hv h
 obtain ⟨wd,e0,_,_⟩:=DataW.trod_int Tryz.underlying3 h0
 obtain ⟨side,e1,_,hr⟩:=DataW.trod_int Tryz.underlying5 h1
 cases e0;cases e1
 refine ⟨wd,side,rfl,?_⟩
 simp only [Lit.wf,Bool.and_eq_true,decide_eq_true_eq] at hr
 have m1:IntKind.u8.min=0:=by decide
 have m2:IntKind.u8.max=255:=by decide
 rw [m1,m2] at hr
 exact hr
theorem nilf_of_trod {H:Type} {tok:TypeId×Value→H} {P:Program} {w:World} {base:Nat} {sp:Nat→Bool} {fuel:Nat} {t:TypeId} {ps rs:Array TypeId} {va:Bool} {v:Value} {q:List MemPlace}
  (ht:P.underlying t=some (.func ps rs va)) (h:DataW.trod tok P w base sp true fuel t [v]=some (.nil,q)):v=.nilFunc:=by
 cases fuel with
 | zero=>simp [DataW.trod] at h
 | succ n=>cases v<;>simp [DataW.trod,ht] at h<;>rfl

abbrev sidesC':List Value:=[.nilFunc,.func (.func 180) #[] ([]:List Value).toArray,.func (.func 181) #[] ([]:List Value).toArray,.func (.func 182) #[] ([]:List Value).toArray]
theorem g_sides:Tryz.prog.globalNamed "postil/slip.sides" = some 1:=by kernel_rfl
theorem t_sides:(Tryz.prog.globals[1]?).map (·.type)=some 199:=by kernel_rfl
theorem sides_laid {W:World} {laid:List (String×DataW Unit)} (h:laidMetH Tryz.prog laid W) (hx:("postil/slip.sides", Rows.laid_postil_slip_sides)∈laid):At W 1 0 sidesC':=by
 obtain ⟨g,t,cs,fuel,p,hg,ht,hv,hd⟩:=laidMetH.funcs (d:=.agg [.agg [.nil],.agg [.iface "func" (.lit (.string [112,111,115,116,105,108,47,115,108,105,112,46,115,105,100,101,115,36,49]))],.agg [.iface "func" (.lit (.string [112,111,115,116,105,108,47,115,108,105,112,46,115,105,100,101,115,36,50]))],.agg [.iface "func" (.lit (.string [112,111,115,116,105,108,47,115,108,105,112,46,115,105,100,101,115,36,51]))]]) h hx
 obtain rfl:=Option.some.inj (g_sides.symm.trans hg)
 obtain rfl:=Option.some.inj (t_sides.symm.trans ht)
 have hd':DataW.trod (funcToken Tryz.prog) Tryz.prog W 0 (fun _=>true) true fuel 199 cs.toList=some (.agg [.agg [.nil],.agg [.held [112,111,115,116,105,108,47,115,108,105,112,46,115,105,100,101,115,36,49]],.agg [.held [112,111,115,116,105,108,47,115,108,105,112,46,115,105,100,101,115,36,50]],.agg [.held [112,111,115,116,105,108,47,115,108,105,112,46,115,105,100,101,115,36,51]]],p):=hd
 obtain ⟨xs,m,_,hxs,hl,hn,hel⟩:=DataW.trod_array Tryz.underlying199 hd'
 have kT:Tryz.prog.cellsOf 199=4:=by kernel_rfl
 have kE:Tryz.prog.cellsOf 198=1:=by kernel_rfl
 have kF:Tryz.prog.cellsOf 197=1:=by kernel_rfl
 obtain ⟨c0,c1,c2,c3,rfl⟩:=Joins.array4 (cs:=cs) (by simpa [kT] using hl)
 simp only [Prod.mk.injEq,DataW.agg.injEq] at hxs
 have key:∀ (i:Nat) (c:Value) (b:DataW (List UInt8)),i<4→(([c0,c1,c2,c3].drop (i * 1)).take 1)=[c]→(xs.map (·.1))[i]?=some (.agg [b])→∃ n q,DataW.trod (funcToken Tryz.prog) Tryz.prog W 0 (fun _=>true) true n 197 [c]=some (b,q):=fun i c b hi hc hb=>by
  have h0:=hel i hi
  rw [kE,hc] at h0
  rw [List.getElem?_map] at hb
  obtain ⟨x,hx1,hx2⟩:=Option.map_eq_some_iff.1 hb
  rw [hx1] at h0
  obtain ⟨y0,n,e,_,h1⟩:=trod_struct1 Tryz.underlying198 h0
  rw [e] at hx2
  simp only [DataW.agg.injEq,List.cons.injEq,and_true] at hx2
  obtain ⟨y1,y2⟩:=y0
  simp only at hx2
  subst hx2
  exact ⟨n,y2,by simpa [kF] using h1⟩
 obtain ⟨n0,q0,k0⟩:=key 0 c0 .nil (by omega) rfl (by rw [←hxs.1];rfl)
 obtain ⟨n1,q1,k1⟩:=key 1 c1 (.held [112,111,115,116,105,108,47,115,108,105,112,46,115,105,100,101,115,36,49]) (by omega) rfl (by rw [←hxs.1];rfl)
 obtain ⟨n2,q2,k2⟩:=key 2 c2 (.held [112,111,115,116,105,108,47,115,108,105,112,46,115,105,100,101,115,36,50]) (by omega) rfl (by rw [←hxs.1];rfl)
 obtain ⟨n3,q3,k3⟩:=key 3 c3 (.held [112,111,115,116,105,108,47,115,108,105,112,46,115,105,100,101,115,36,51]) (by omega) rfl (by rw [←hxs.1];rfl)
 obtain rfl:=nilf_of_trod Tryz.underlying197 k0
 obtain rfl:=func_of_trod (f0:=180) Tryz.underlying197 (by kernel_rfl) k1
 obtain rfl:=func_of_trod (f0:=181) Tryz.underlying197 (by kernel_rfl) k2
 obtain rfl:=func_of_trod (f0:=182) Tryz.underlying197 (by kernel_rfl) k3
 exact ⟨fun i v hv'=>by have:=World.var?_cell hg hv i;rw [Nat.zero_add,this];simpa using hv'⟩
end Go.Proofs.YtbafmbpmiiplkaaGreatDoor
namespace Go.Proofs.YtbafmbpmiiplkaaGreatDoor
open Go.RowKit

def spl:List UInt8→List (List UInt8)
 | []=>[[]]
 | c::l=>if c=32 then []::spl l else match spl l with
   | []=>[[c]]
   | x::r=>(c::x)::r
abbrev bytesL (l:List UInt8):ByteArray:=⟨l.toArray⟩
def splB (s:ByteArray):List ByteArray:=(spl s.data.toList).map bytesL
theorem bytesL_data (s:ByteArray):bytesL s.data.toList=s:=by
 apply ByteArray.ext;simp
theorem str_nil {s:ByteArray}:s=⟨#[]⟩↔s.size=0:=⟨fun h=>by subst h;rfl,fun h=>ByteArray.ext (Array.eq_empty_of_size_eq_zero h)⟩

def wordsB (s:ByteArray):Bool:=decide (s.size=0) || (decide (s.size≤80) && (splB s).all wordB)
end Go.Proofs.YtbafmbpmiiplkaaGreatDoor

namespace Go.Proofs.YtbafmbpmiiplkaaGreatDoor
open Go.Shelf Go.RowKit
def sh_lays156_ren:Go.Shelf.Ren:=⟨fun|156=>98|165=>129|166=>130|169=>131|240=>141|241=>142|276=>147|277=>148|n=>n,fun|31=>70|9=>9|3=>3|4=>4|0=>0|20=>20|72=>239|76=>243|70=>237|37=>234|75=>242|127=>253|164=>258|5=>5|80=>245|n=>n,fun|n=>n⟩

theorem sh_lays156:Go.Proofs.Lays.n156 Tryz.prog sh_lays156_ren:={
 mixed:=by kernel_rfl
 f156:=Tryz.func98.trans (congrArg some (by kernel_rfl))
 f165:=Tryz.func129.trans (congrArg some (by kernel_rfl))
 f166:=Tryz.func130.trans (congrArg some (by kernel_rfl))
 f169:=Tryz.func131.trans (congrArg some (by kernel_rfl))
 f240:=Tryz.func141.trans (congrArg some (by kernel_rfl))
 f241:=Tryz.func142.trans (congrArg some (by kernel_rfl))
 f276:=Tryz.func147.trans (congrArg some (by kernel_rfl))
 f277:=Tryz.func148.trans (congrArg some (by kernel_rfl))
 t0:=Tryz.underlying0
 a0:=Tryz.isAgg0
 z0:=Tryz.sizeOf0
 v0:=Tryz.zeroValue0
 t3:=Tryz.underlying3
 a3:=Tryz.isAgg3
 z3:=Tryz.sizeOf3
 v3:=Tryz.zeroValue3
 t4:=Tryz.underlying4
 a4:=Tryz.isAgg4
 z4:=Tryz.sizeOf4
 v4:=Tryz.zeroValue4
 t9:=Tryz.underlying9
 a9:=Tryz.isAgg9
 z9:=Tryz.sizeOf9
 v9:=Tryz.zeroValue9
 t20:=Tryz.underlying20
 a20:=Tryz.isAgg20
 z20:=Tryz.sizeOf20
 v20:=Tryz.zeroValue20
 t31:=Tryz.underlying70
 a31:=Tryz.isAgg70
 z31:=Tryz.sizeOf70
 v31:=Tryz.zeroValue70
 t37:=Tryz.underlying234
 a37:=Tryz.isAgg234
 z37:=Tryz.sizeOf234
 v37:=Tryz.zeroValue234
 t70:=Tryz.underlying237
 a70:=Tryz.isAgg237
 z70:=Tryz.sizeOf237
 v70:=Tryz.zeroValue237
 t72:=Tryz.underlying239
 a72:=Tryz.isAgg239
 z72:=Tryz.sizeOf239
 v72:=Tryz.zeroValue239
 t75:=Tryz.underlying242
 a75:=Tryz.isAgg242
 z75:=Tryz.sizeOf242
 v75:=Tryz.zeroValue242
 t76:=Tryz.underlying243
 a76:=Tryz.isAgg243
 z76:=Tryz.sizeOf243
 v76:=Tryz.zeroValue243
 t127:=Tryz.underlying253
 a127:=Tryz.isAgg253
 z127:=Tryz.sizeOf253
 v127:=Tryz.zeroValue253
 t164:=Tryz.underlying258
 a164:=Tryz.isAgg258
 z164:=Tryz.sizeOf258
 v164:=Tryz.zeroValue258 }

theorem sh_Builder_Extra_156:Builder.Extra Tryz.prog sh_lays156_ren:={
 sizeBuilder:=by kernel_rfl
 liesBuilder:=by kernel_rfl
 t5:=Tryz.underlying5
 a5:=Tryz.isAgg5
 z5:=Tryz.sizeOf5
 v5:=Tryz.zeroValue5
 infoByte:=by kernel_rfl
 cellsByte:=by kernel_rfl
 sizeByte:=by kernel_rfl
 neB5:=by decide }

theorem sh_strings_Join_none (a:Option Addr) (c:Nat) (sep:ByteArray) (w:World) :
  Calls Tryz.prog 98 #[.slice a 0 c,.string sep] w fun e w'=>e=.returned (.string ⟨#[]⟩)∧w'=w:=Any.strings_Join_none sh_lays156 sh_Builder_Extra_156 a c sep w

theorem sh_strings_Join (bk o c:Nat) (xs:List ByteArray) (sep:ByteArray) (w:World) (hcells:∀ (j:Nat) x,xs[j]?=some x→w.cell? ⟨bk,o+j,none⟩=some (.string x)) (hbk:bk<w.heap.size) (hN:xs.length≤140737488355328) (hcap:xs.length≤c) (hlen:(Lib.join (xs.map (·.data.toList)) sep.data.toList).length≤140737488355328) :
  Calls Tryz.prog 98 #[.slice (some ⟨bk,o,none⟩) xs.length c,.string sep] w fun e w'=>e=.returned (.string ⟨(Lib.join (xs.map (·.data.toList)) sep.data.toList).toArray⟩)∧Below w.heap.size w w':=Any.strings_Join sh_lays156 sh_Builder_Extra_156 bk o c xs sep w hcells hbk hN hcap hlen
def joinB (ws:List ByteArray):ByteArray:=⟨(Lib.join (ws.map (·.data.toList)) [32]).toArray⟩
theorem joinB_size (ws:List ByteArray) {m:Nat} (h:∀ s∈ws,s.size≤m):(joinB ws).size≤ws.length * (m+1):=by
 have hl:∀ l:List ByteArray,(∀ s∈l,s.size≤m)→Lib.lens (l.map (·.data.toList))≤l.length * m:=fun l=>by
  induction l with
  | nil=>intro _;simp [Lib.lens]
  | cons x l ih =>
    intro h
    have h1:=ih fun s hs=>h s (List.mem_cons_of_mem _ hs)
    have h2:=h x (by simp)
    have e:x.data.toList.length=x.size:=by rw [Array.length_toList];rfl
    simp only [Lib.lens,List.map_cons,List.sum_cons,List.length_cons] at h1 ⊢
    rw [Nat.add_mul,e]
    omega
 cases ws with
 | nil=>exact Nat.zero_le _
 | cons x r =>
   have e:(joinB (x::r)).size=(Lib.join ((x::r).map (·.data.toList)) [32]).length:=by simp [joinB,ByteArray.size]
   have h1:=hl (x::r) h
   rw [e,List.map_cons,Lib.join_length]
   rw [List.map_cons] at h1
   simp only [List.length_cons,List.length_nil,List.length_map] at h1 ⊢
   rw [Nat.mul_add]
   omega
theorem Join_str (a:Option Addr) (c n:Nat) (ws:List ByteArray) (w:World) (hn:ws.length=n) (hrow:RowV w false 1 (.slice a n c) (ws.map strV)) (hl:(joinB ws).size≤140737488355328):Ct Tryz.prog 98 [.slice a n c,.string ⟨#[32]⟩] w fun v _=>v=.string (joinB ws):=by
 subst hn
 unfold Ct
 have hlen:=hrow.len
 rw [List.length_map] at hlen
 rcases hrow.at_ with ⟨h0,_⟩|⟨b,o,c',hv,hc,hA⟩
 ·obtain rfl:ws=[]:=by simpa using h0
  exact (sh_strings_Join_none a c ⟨#[32]⟩ w).mono fun e w' ⟨h1,h2⟩=>⟨_,h1,by subst h2;exact Ext.refl _,rfl⟩
 ·simp only [Value.slice.injEq] at hv
  obtain ⟨rfl,_,rfl⟩:=hv
  rw [List.length_map] at hc
  cases ws with
  | nil=>exact (sh_strings_Join_none _ c ⟨#[32]⟩ w).mono fun e w' ⟨h1,h2⟩=>⟨_,h1,by subst h2;exact Ext.refl _,rfl⟩
  | cons x r =>
    have hcell:∀ (j:Nat) y,(x::r)[j]?=some y→w.cell? ⟨b,o+j,none⟩=some (.string y):=fun j y hy=>by
     have:=(hA j (strV y) (by rw [List.getElem?_map,hy];rfl)).h 0 (strV y) rfl
     simpa using this
    have e:(joinB (x::r)).size=(Lib.join ((x::r).map (·.data.toList)) [32]).length:=by simp [joinB,ByteArray.size]
    refine (sh_strings_Join b o c (x::r) ⟨#[32]⟩ w hcell (lt_of_cell (hcell 0 x rfl)) hlen hc ?_).mono fun e w' ⟨h1,h2⟩=>⟨_,h1,⟨h2⟩,rfl⟩
    rw [←e];exact hl
end Go.Proofs.YtbafmbpmiiplkaaGreatDoor
namespace Go.Proofs.YtbafmbpmiiplkaaGreatDoor
open Go.RowKit

theorem OwnL.cells {w:World} {B e n c g:Nat} {l:List Value} (h:OwnL w B e false 1 (.slice (some ⟨g,0,none⟩) n c) l):∃ cs,Bk w g cs e∧cs.length=c∧n≤c∧c≤maxLen∧l.length=n∧cs.take n=l∧B≤g:=by
 have hf:∀ xs:List Value,(∀ x∈xs,fitsV false 1 x=true)→xs.flatMap (·.cells.toList)=xs:=by
  intro xs
  induction xs with
  | nil=>intro _;rfl
  | cons y xs ih =>
    intro hx
    have hy:=hx y List.mem_cons_self
    have hc:y.cells.toList=[y]:=by cases y<;>simp [fitsV] at hy<;>rfl
    rw [List.flatMap_cons,hc,ih fun z hz=>hx z (List.mem_cons_of_mem _ hz)];rfl
 have e1:=hf l h.fit
 rcases h.own.2 with ⟨e0,_⟩|⟨g',cap,cur,e0,hB,hg,hn,hm,hs,ht⟩
 ·simp at e0
 ·simp only [Value.slice.injEq,Option.some.injEq,Addr.mk.injEq] at e0
  obtain ⟨⟨rfl,_⟩,rfl,rfl⟩:=e0
  rw [e1,Nat.mul_one] at ht
  exact ⟨cur.toList,⟨by simpa using hg⟩,by simpa using hs,hn,hm,rfl,ht,hB⟩
theorem OwnL.ofCells {w:World} {B e n c g:Nat} {l cs:List Value} (hB:Bk w g cs e) (hc:cs.length=c) (hn:n≤c) (hm:c≤maxLen) (ht:cs.take n=l) (hn':n≤140737488355328) (hg:B≤g) (hf:∀ x∈l,fitsV false 1 x=true):OwnL w B e false 1 (.slice (some ⟨g,0,none⟩) n c) l:=by
 have hl:l.length=n:=by rw [←ht,List.length_take];omega
 have hfl:∀ xs:List Value,(∀ x∈xs,fitsV false 1 x=true)→xs.flatMap (·.cells.toList)=xs:=by
  intro xs
  induction xs with
  | nil=>intro _;rfl
  | cons y xs ih =>
    intro hx
    have hy:=hx y List.mem_cons_self
    have hc:y.cells.toList=[y]:=by cases y<;>simp [fitsV] at hy<;>rfl
    rw [List.flatMap_cons,hc,ih fun z hz=>hx z (List.mem_cons_of_mem _ hz)];rfl
 refine ⟨⟨by rw [hfl l hf,hl,Nat.mul_one],.inr ⟨g,c,cs.toArray,by rw [hl],hg,hB.h,by omega,hm,by simp [hc],?_⟩⟩,hf,by rw [hl];exact hn'⟩
 rw [hfl l hf,hl,Nat.mul_one];exact ht
end Go.Proofs.YtbafmbpmiiplkaaGreatDoor

namespace Go.Proofs.YtbafmbpmiiplkaaGreatDoor
open Go.Shelf Go.RowKit

class MxI (w:World):Prop where
 h:∃ m,At w 4 0 [.int .i64 m]
end Go.Proofs.YtbafmbpmiiplkaaGreatDoor
namespace Go.Proofs.YtbafmbpmiiplkaaGreatDoor
open Go.RowKit

def lineC (cs:List Ch) (p:Pl):Option Ln:=if 0≤p.1∧0≤p.2.1 then (cs[p.1.toNat]?).bind fun x=>x.2.2.2[p.2.1.toNat]? else none
theorem lineC_no1 {cs:List Ch} {p:Pl} (h:inB 0 ((cs.length:Int)-1) p.1=false):lineC cs p=none:=by
 unfold lineC
 simp [inB] at h
 by_cases h0:0≤p.1
 ·rw [List.getElem?_eq_none (by omega)];simp
 ·rw [if_neg (by omega)]
theorem lineC_no2 {cs:List Ch} {k:Nat} {n m:Int} (hk:k<cs.length) (h:inB 0 ((cs[k].2.2.2.length:Int)-1) n=false):lineC cs ((k:Int),n,m)=none:=by
 unfold lineC
 simp [inB] at h
 by_cases h0:0≤n
 ·simp only [Int.toNat_natCast,List.getElem?_eq_getElem hk,Option.bind_some]
  rw [List.getElem?_eq_none (by omega)];simp
 ·rw [if_neg (by simp;omega)]
theorem lineC_yes {cs:List Ch} {k n:Nat} {m:Int} (hk:k<cs.length) (hn:n<cs[k].2.2.2.length):lineC cs ((k:Int),(n:Int),m)=some cs[k].2.2.2[n]:=by
 unfold lineC
 rw [if_pos (by simp)]
 simp [List.getElem?_eq_getElem hk,List.getElem?_eq_getElem hn]

section
variable (a:Option Addr) (c:Nat) (cs:List Ch) (w:World) [hrow:RowI w (.slice a cs.length c) true 2 (cs.map encCh)] [hT:TextI w cs]
def placeC (cs:List Ch) (p:Pl):Bool:=match lineC cs p with
 | some y=>inB 0 ((y.2.2.length:Int)-1) p.2.2
 | none=>false
end

abbrev Rd:=Pl×Int×ByteArray
abbrev encRd (r:Rd):Value:=.agg #[.int .i64 r.1.1,.int .i64 r.1.2.1,.int .i64 r.1.2.2,.int .u8 r.2.1,.string r.2.2]
def lineT (t:Tx) (p:Pl):Option (List ByteArray):=if 0≤p.1∧0≤p.2.1 then (t[p.1.toNat]?).bind fun x=>x.2[p.2.1.toNat]? else none
def fitR (l:List ByteArray) (q kind:Int) (s:ByteArray):Bool :=
 if kind=1 then inB 0 ((l.length:Int)-1) q && decide (s.size=0)
 else if kind=2 then inB 0 (l.length:Int) q && wordB s
 else if kind=3 then inB 0 ((l.length:Int)-1) q && (wordB s && decide (s≠l.getD q.toNat ⟨#[]⟩))
 else false
def readB (t:Tx) (r:Rd):Bool:=match lineT t r.1 with
 | none=>false
 | some l=>fitR l r.1.2.2 r.2.1 r.2.2
def nextB (a r:Rd):Bool:=!(befP r.1 a.1) && !(decide (r.1=a.1) && decide (a.2.1≠2))
def nextsB:List Rd→Bool
 | a::r::l=>nextB a r && nextsB (r::l)
 | _=>true
def hereR (p:Pl) (rs:List Rd):List Rd:=rs.filter fun r=>decide (r.1=p)
def stepR (z:List ByteArray×ByteArray) (r:Rd):List ByteArray×ByteArray:=if r.2.1=2 then (z.1++[r.2.2],z.2) else (z.1,r.2.2)
def foldR (o:ByteArray) (l:List Rd):List ByteArray×ByteArray:=l.foldl stepR ([],o)
def fullB (s:ByteArray):Bool:=decide (s.size≠0)
def wrdS (l:List ByteArray) (rs:List Rd) (k n:Int) (q:Nat):List ByteArray :=
 let z:=foldR (l.getD q ⟨#[]⟩) (hereR (k,n,(q:Int)) rs)
 z.1++if z.2.size=0 then [] else [z.2]
def lineS (l:List ByteArray) (rs:List Rd) (k n:Int):List ByteArray:=(List.range (l.length+1)).flatMap (wrdS l rs k n)
def readC (rs:List Rd) (k:Nat) (x:Int×List (List ByteArray)):Int×List (List ByteArray):=(x.1,x.2.mapIdx fun n l=>lineS l rs k n)
def readT (t:Tx) (rs:List Rd):Tx:=t.mapIdx (readC rs)
def lensB (t:Tx):Bool:=t.all fun x=>x.2.all fun l=>inB 1 10 (l.length:Int)
def copyB (t:Tx) (id:Int) (rs:List Rd):Bool:=inB 0 9999 id && decide (rs.length≤20) && (rs.all (readB t) && nextsB rs) && lensB (readT t rs)
def cpE (t:Tx) (id:Int) (rs:List Rd):Int:=if textB t then (if copyB t id rs then 0 else 11) else 10
def placeB (t:Tx) (p:Pl):Bool:=match lineT t p with
 | none=>false
 | some l=>inB 0 ((l.length:Int)-1) p.2.2
def wordT (t:Tx) (p:Pl):ByteArray:=((lineT t p).getD []).getD p.2.2.toNat ⟨#[]⟩
def standsB (t:Tx) (rs:List Rd) (p:Pl):ByteArray:=match rs.find? fun r=>decide (r.1=p) && decide (r.2.1≠2) with
 | some r=>r.2.2
 | none=>wordT t p
def moveR (p:Pl):List Rd→Int→Option Int
 | [],q=>some q
 | r::l,q=>if r.1.1≠p.1∨r.1.2.1≠p.2.1∨p.2.2<r.1.2.2 then moveR p l q
   else if r.2.1=2 then moveR p l (q+1)
   else if r.2.1=1 then (if r.1.2.2=p.2.2 then none else moveR p l (q-1))
   else moveR p l q
def movedS (t:Tx) (id:Int) (rs:List Rd) (p:Pl):Pl×Int :=
 if cpE t id rs≠0 then ((0,0,0),cpE t id rs) else if placeB t p=false then ((0,0,0),12)
 else match moveR p rs p.2.2 with
  | none=>((0,0,0),6)
  | some q=>((p.1,p.2.1,q),0)
theorem nextsB_get:∀ {rs:List Rd},nextsB rs=true→∀ (j:Nat) (hj:j+1<rs.length),nextB rs[j] rs[j+1]=true
 | [],_,j,hj=>absurd hj (Nat.not_lt_zero _)
 | [_],_,j,hj=>absurd hj (by simp)
 | a::r::l,h,0,_=>by rw [nextsB,Bool.and_eq_true] at h;exact h.1
 | a::r::l,h,j+1,hj=>by
   rw [nextsB,Bool.and_eq_true] at h
   exact nextsB_get h.2 j (by simpa using hj)
theorem nextsB_no:∀ {rs:List Rd} (j:Nat) (hj:j+1<rs.length),nextB rs[j] rs[j+1]=false→nextsB rs=false
 | [],j,hj,_=>absurd hj (Nat.not_lt_zero _)
 | [_],j,hj,_=>absurd hj (by simp)
 | a::r::l,0,_,h=>by
   have h':nextB a r=false:=h
   rw [nextsB,h'];rfl
 | a::r::l,j+1,hj,h=>by rw [nextsB,nextsB_no j (by simpa using hj) h,Bool.and_false]
theorem nextsB_yes:∀ {rs:List Rd},(∀ (j:Nat) (hj:j+1<rs.length),nextB rs[j] rs[j+1]=true)→nextsB rs=true
 | [],_=>rfl
 | [_],_=>rfl
 | a::r::l,h=>by
   have h0:nextB a r=true:=h 0 (by simp)
   rw [nextsB,h0,nextsB_yes fun j hj=>h (j+1) (by simpa using hj)];rfl
theorem befP_iff (a b:Pl):befP a b=true↔a.1<b.1∨a.1=b.1∧(a.2.1<b.2.1∨a.2.1=b.2.1∧a.2.2<b.2.2):=by
 by_cases h1:a.1=b.1<;>by_cases h2:a.2.1=b.2.1<;>simp [befP,h1,h2]
theorem befP_trans {a b c:Pl} (h1:befP a b=true) (h2:befP b c=true):befP a c=true:=by
 rw [befP_iff] at *
 omega
theorem befP_tri (a b:Pl):befP a b=true∨a=b∨befP b a=true:=by
 obtain ⟨a1,a2,a3⟩:=a
 obtain ⟨b1,b2,b3⟩:=b
 rw [befP_iff,befP_iff]
 simp only [Prod.mk.injEq]
 omega
theorem befP_irr (a:Pl):befP a a=false:=by unfold befP;simp
theorem nextsB_mono {rs:List Rd} (h:nextsB rs=true):∀ (d i:Nat) (hj:i+d<rs.length),befP rs[i+d].1 (rs[i]'(by omega)).1=false
 | 0,i,hj=>befP_irr _
 | d+1,i,hj=>by
   have h1:=nextsB_mono h d i (by omega)
   have h2:=nextsB_get h (i+d) (by omega)
   rw [nextB,Bool.and_eq_true] at h2
   have h3:befP rs[i+d+1].1 rs[i+d].1=false:=by simpa using h2.1
   show befP rs[i+d+1].1 _=false
   rcases befP_tri rs[i+d+1].1 (rs[i]'(by omega)).1 with h4|h4|h4
   ·exfalso
    rcases befP_tri rs[i+d].1 rs[i+d+1].1 with h5|h5|h5
    ·rw [befP_trans h5 h4] at h1;cases h1
    ·rw [h5] at h1;rw [h1] at h4;cases h4
    ·rw [h3] at h5;cases h5
   ·rw [h4];exact befP_irr _
   ·cases hb:befP rs[i+d+1].1 (rs[i]'(by omega)).1 with
    | false=>rfl
    | true=>have:=befP_trans hb h4;rw [befP_irr] at this;cases this
theorem nextsB_put {rs:List Rd} (h:nextsB rs=true) {i j:Nat} (hij:i<j) (hj:j<rs.length) (he:rs[j].1=(rs[i]'(by omega)).1):(rs[i]'(by omega)).2.1=2:=by
 have h1:=nextsB_get h i (by omega)
 have e:rs[i+1].1=(rs[i]'(by omega)).1:=by
  have a1:=nextsB_mono h 1 i (by omega)
  obtain ⟨d,rfl⟩:∃ d,j=i+1+d:=⟨j-(i+1),by omega⟩
  have a2:=nextsB_mono h d (i+1) (by omega)
  rw [he] at a2
  rcases befP_tri rs[i+1].1 (rs[i]'(by omega)).1 with h4|h4|h4
  ·rw [a1] at h4;cases h4
  ·exact h4
  ·rw [a2] at h4;cases h4
 rw [nextB,Bool.and_eq_true] at h1
 have h2:=h1.2
 simp only [e,decide_true,Bool.true_and,Bool.not_eq_true',decide_eq_false_iff_not,ne_eq,Decidable.not_not] at h2
 exact h2
theorem filter_pair {α:Type} (f:α→Bool):∀ (l:List α) (j:Nat) (hj:j+1<(l.filter f).length),∃ (a b:Nat) (hab:a<b) (hb:b<l.length),(l[a]'(by omega))=(l.filter f)[j]∧f (l[a]'(by omega))=true∧f l[b]=true
 | [],j,hj=>absurd hj (by simp)
 | x::l,j,hj=>by
   by_cases hx:f x=true
   ·cases j with
    | zero =>
      have h1:0<(l.filter f).length:=by rw [List.filter_cons,if_pos hx] at hj;simpa using hj
      have h2:=List.getElem_mem h1
      obtain ⟨h3,h4⟩:=List.mem_filter.1 h2
      obtain ⟨b,hb,e⟩:=List.mem_iff_getElem.1 h3
      refine ⟨0,b+1,by omega,by simpa using hb,?_,hx,?_⟩
      ·simp [hx]
      ·simp only [List.getElem_cons_succ];rw [e];exact h4
    | succ j =>
      have h1:j+1<(l.filter f).length:=by rw [List.filter_cons,if_pos hx] at hj;simpa using hj
      obtain ⟨a,b,hab,hb,e1,e2,e3⟩:=filter_pair f l j h1
      refine ⟨a+1,b+1,by omega,by simpa using hb,?_,by simpa using e2,by simpa using e3⟩
      simp only [List.getElem_cons_succ]
      rw [e1]
      simp [hx]
   ·have h1:j+1<(l.filter f).length:=by rw [List.filter_cons,if_neg hx] at hj;exact hj
    obtain ⟨a,b,hab,hb,e1,e2,e3⟩:=filter_pair f l j h1
    refine ⟨a+1,b+1,by omega,by simpa using hb,?_,by simpa using e2,by simpa using e3⟩
    simp only [List.getElem_cons_succ]
    rw [e1]
    simp [hx]
theorem here_put {rs:List Rd} (h:nextsB rs=true) {p:Pl} {j:Nat} (hj:j+1<(hereR p rs).length):(hereR p rs)[j].2.1=2:=by
 obtain ⟨a,b,hab,hb,e1,e2,e3⟩:=filter_pair _ _ _ hj
 have e4:=of_decide_eq_true e2
 have e5:=of_decide_eq_true e3
 have:=nextsB_put h hab hb (e5.trans e4.symm)
 have e6:(hereR p rs)[j]=rs[a]:=e1.symm
 rw [e6];exact this
theorem here_mem {rs:List Rd} {p:Pl} {r:Rd} (h:r∈hereR p rs):r∈rs∧r.1=p:=by
 obtain ⟨h1,h2⟩:=List.mem_filter.1 h
 exact ⟨h1,of_decide_eq_true h2⟩
theorem here_len (p:Pl) (rs:List Rd):(hereR p rs).length≤rs.length:=List.length_filter_le _ _
theorem foldR_snoc {o:ByteArray} {l:List Rd} {j:Nat} {r:Rd} (h:l[j]?=some r):foldR o (l.take (j+1))=stepR (foldR o (l.take j)) r:=by
 rw [take_snoc_get h,foldR,foldR,List.foldl_append];rfl
theorem foldR_len (o:ByteArray) (l:List Rd):(foldR o l).1.length≤l.length:=by
 have:∀ (l:List Rd) (z:List ByteArray×ByteArray),(l.foldl stepR z).1.length≤z.1.length+l.length:=by
  intro l
  induction l with
  | nil=>intro z;simp
  | cons r l ih =>
    intro z
    have:=ih (stepR z r)
    have h2:(stepR z r).1.length≤z.1.length+1:=by unfold stepR;split<;>simp
    rw [List.foldl_cons,List.length_cons]
    omega
 have h:=this l ([],o)
 simp only [List.length_nil,Nat.zero_add] at h
 exact h

section
variable {P:Program}
theorem eqFields_cons {w:World} {f:Field} {fs:List Field} {xs ys:Array Value} {d:Nat} {a b:Value} {r:Bool} (hn:f.name ≠ "_") (pa:(part f.type xs f.offset).run P w=.ok a w) (pb:(part f.type ys f.offset).run P w=.ok b w)
  (he:(Op.equalIn d f.type a b).run P w=.ok r w):(Op.eqFields d xs ys (f::fs)).run P w=if r then (Op.eqFields d xs ys fs).run P w else .ok false w:=by
 simp only [Op.eqFields,if_pos hn,Sem.run_bind,pa,pb,he,Result.andThen_ok]
 cases r<;>simp
theorem part_cell {t:Nat} {w:World} {dd:TypeDesc} (u:TU P t dd) (hag:TypeDesc.isAgg dd=false) {cs:Array Value} {off:Nat} {v:Value} (h:cs[off]?=some v):(part t cs off).run P w=.ok v w:=by
 simp [part,run_isAgg w u,hag,h]
theorem part_agg {t size bytes:Nat} {w:World} {dd:TypeDesc} {z:Value} (u:TU P t dd) (hag:TypeDesc.isAgg dd=true) (hz:TS P t z size bytes) {cs xs:Array Value} {off:Nat} (h:cs.extract off (off+size)=xs):(part t cs off).run P w=.ok (.agg xs) w:=by
 simp [part,run_isAgg w u,hag,run_sizeOf' w hz,h]
theorem eqInt (w:World) (d:Nat) {t:Nat} (u:TU P t (.int .i64)) (a b:Int):(Op.equalIn (d+1) t (.int .i64 a) (.int .i64 b)).run P w=.ok (decide (a=b)) w:=by
 rw [run_equalIn_int w d t .i64 .i64 a b u.h]
 congr 1
theorem eqStr (w:World) (d:Nat) {t:Nat} (u:TU P t .string) (a b:ByteArray):(Op.equalIn (d+1) t (.string a) (.string b)).run P w=.ok (decide (a=b)) w:=by
 rw [run_equalIn_string w d t a b u.h,←beq_toListBytes,byteArray_beq]
theorem eqIn_int3 {t:Nat} {f0 f1 f2:Field} (hu:P.underlying t=some (.struct #[f0,f1,f2])) (h0:f0.name ≠ "_") (h0':f0.offset=0) (h1:f1.name ≠ "_") (h1':f1.offset=1) (h2:f2.name ≠ "_") (h2':f2.offset=2)
  (u0:TU P f0.type (.int .i64)) (u1:TU P f1.type (.int .i64)) (u2:TU P f2.type (.int .i64)) (hp:P.stoodInHeld t=false) (w:World) (d:Nat) (a b:Pl):(Op.equalIn (d+2) t (encPl a) (encPl b)).run P w=.ok (decide (a=b)) w:=by
 have hf:P.fieldsOf t=#[f0,f1,f2]:=by simp [Program.fieldsOf,hu]
 have ht:P.underlying t=some (.struct (P.fieldsOf t)):=by rw [hf];exact hu
 rw [run_equalIn_struct w (d+1) t _ _ ht hp,hf]
 obtain ⟨a1,a2,a3⟩:=a
 obtain ⟨b1,b2,b3⟩:=b
 rw [eqFields_cons h0 (part_cell u0 rfl (by rw [h0'];rfl)) (part_cell u0 rfl (by rw [h0'];rfl)) (eqInt w d u0 a1 b1)]
 by_cases c0:a1=b1
 ·rw [decide_eq_true c0,if_pos rfl,eqFields_cons h1 (part_cell u1 rfl (by rw [h1'];rfl)) (part_cell u1 rfl (by rw [h1'];rfl)) (eqInt w d u1 a2 b2)]
  by_cases c1:a2=b2
  ·rw [decide_eq_true c1,if_pos rfl,eqFields_cons h2 (part_cell u2 rfl (by rw [h2'];rfl)) (part_cell u2 rfl (by rw [h2'];rfl)) (eqInt w d u2 a3 b3)]
   by_cases c2:a3=b3
   ·simp [c0,c1,c2,Op.eqFields]
   ·simp [c2]
  ·simp [c1]
 ·simp [c0]
theorem eqT_int3 {t:Nat} (h:∀ (w:World) (d:Nat) (a b:Pl),(Op.equalIn (d+2) t (encPl a) (encPl b)).run P w=.ok (decide (a=b)) w) (hg:P.eqGuardType P.depth t=false):EqT P t encPl where
 eq w a b:=h w 9998 a b
 guard op x y w a b:=by
  cases op<;>simp [encPl,eqGuard,hg]
 kind a b:=⟨fun w=>by simp [encPl,binOp],fun w=>by simp [encPl,binOp]⟩

end
abbrev Slp:=Pl×ByteArray×ByteArray×ByteArray
abbrev encSl (x:Slp):Value:=.agg #[.int .i64 x.1.1,.int .i64 x.1.2.1,.int .i64 x.1.2.2,.string x.2.1,.string x.2.2.1,.string x.2.2.2]
section
variable {P:Program}
theorem eqIn_slip {t bytes:Nat} {z:Value} {d0:TypeDesc} {f0 f1 f2 f3:Field} (hu:P.underlying t=some (.struct #[f0,f1,f2,f3])) (h0:f0.name ≠ "_") (h0':f0.offset=0) (h1:f1.name ≠ "_") (h1':f1.offset=3) (h2:f2.name ≠ "_") (h2':f2.offset=4) (h3:f3.name ≠ "_") (h3':f3.offset=5)
  (u0:TU P f0.type d0) (hag:TypeDesc.isAgg d0=true) (hz:TS P f0.type z 3 bytes) (u1:TU P f1.type .string) (u2:TU P f2.type .string) (u3:TU P f3.type .string) (hp:P.stoodInHeld t=false)
  (hpl:∀ (w:World) (d:Nat) (a b:Pl),(Op.equalIn (d+2) f0.type (encPl a) (encPl b)).run P w=.ok (decide (a=b)) w) (w:World) (d:Nat) (a b:Slp):(Op.equalIn (d+3) t (encSl a) (encSl b)).run P w=.ok (decide (a=b)) w:=by
 have hf:P.fieldsOf t=#[f0,f1,f2,f3]:=by simp [Program.fieldsOf,hu]
 have ht:P.underlying t=some (.struct (P.fieldsOf t)):=by rw [hf];exact hu
 rw [run_equalIn_struct w (d+2) t _ _ ht hp,hf]
 obtain ⟨a1,a2,a3,a4⟩:=a
 obtain ⟨b1,b2,b3,b4⟩:=b
 rw [eqFields_cons h0 (part_agg (xs:=#[.int .i64 a1.1,.int .i64 a1.2.1,.int .i64 a1.2.2]) u0 hag hz (by rw [h0'];rfl)) (part_agg (xs:=#[.int .i64 b1.1,.int .i64 b1.2.1,.int .i64 b1.2.2]) u0 hag hz (by rw [h0'];rfl)) (hpl w d a1 b1)]
 by_cases c0:a1=b1
 ·rw [decide_eq_true c0,if_pos rfl,eqFields_cons h1 (part_cell u1 rfl (by rw [h1'];rfl)) (part_cell u1 rfl (by rw [h1'];rfl)) (eqStr w (d+1) u1 a2 b2)]
  by_cases c1:a2=b2
  ·rw [decide_eq_true c1,if_pos rfl,eqFields_cons h2 (part_cell u2 rfl (by rw [h2'];rfl)) (part_cell u2 rfl (by rw [h2'];rfl)) (eqStr w (d+1) u2 a3 b3)]
   by_cases c2:a3=b3
   ·rw [decide_eq_true c2,if_pos rfl,eqFields_cons h3 (part_cell u3 rfl (by rw [h3'];rfl)) (part_cell u3 rfl (by rw [h3'];rfl)) (eqStr w (d+1) u3 a4 b4)]
    by_cases c3:a4=b4
    ·simp [c0,c1,c2,c3,Op.eqFields]
    ·simp [c3]
   ·simp [c2]
  ·simp [c1]
 ·simp [c0]
theorem eqT_slip {t:Nat} (h:∀ (w:World) (d:Nat) (a b:Slp),(Op.equalIn (d+3) t (encSl a) (encSl b)).run P w=.ok (decide (a=b)) w) (hg:P.eqGuardType P.depth t=false):EqT P t encSl where
 eq w a b:=h w 9997 a b
 guard op x y w a b:=by
  cases op<;>simp [encSl,eqGuard,hg]
 kind a b:=⟨fun w=>by simp [encSl,binOp],fun w=>by simp [encSl,binOp]⟩
end
theorem eqIn_place (w:World) (d:Nat) (a b:Pl):(Op.equalIn (d+2) 48 (encPl a) (encPl b)).run Tryz.prog w=.ok (decide (a=b)) w :=
 eqIn_int3 Tryz.underlying48 (by decide) rfl (by decide) rfl (by decide) rfl tu3 tu3 tu3 (by kernel_rfl) w d a b
instance : EqT Tryz.prog 48 encPl:=eqT_int3 eqIn_place (by kernel_rfl)
instance : EqT Tryz.prog 53 encSl:=eqT_slip (eqIn_slip Tryz.underlying53 (by decide) rfl (by decide) rfl (by decide) rfl (by decide) rfl tu48 rfl ts48 tu9 tu9 tu9 (by kernel_rfl) eqIn_place) (by kernel_rfl)

section rules
variable {P:Program} {ro:Option Nat} {n:Nat} {all rest:List Oper} {K:Sl→World→Prop} {s:Sl} {w:World} {d:Nat} {ty:Nat} {pos:String} {af:Array Edge}
variable {x y:Operand} {t t' e:Nat}
theorem jjm {a:Int} (hx:ev n s x=.int .i64 a) (hr:-9223372036854775807≤a∧a≤9223372036854775807) (h:Ops P ro n all rest K (upd s d (.int .i64 (-a))) w) :
  Ops P ro n all (⟨some d,.unOp .neg t x,ty,pos,af,none⟩::rest) K s w :=
 Ops.ofRun rfl (by have:IntKind.i64.wrap (-a)=-a:=by rw [IntKind.wrap_i64];omega
                   simp [execOp,hx,go_sem,Op.unary,this]) h

abbrev cutV (a:Option Addr) (c k lo hi:Nat):Value:=.slice (if c=lo then a else a.map (·.add (lo * k))) (hi-lo) (c-lo)
theorem RowV.cut {agg:Bool} {k l c:Nat} {a:Option Addr} {xs:List Value} (h:RowV w agg k (.slice a l c) xs) {lo hi:Nat} (h1:lo≤hi) (h2:hi≤xs.length):RowV w agg k (cutV a c k lo hi) ((xs.take hi).drop lo):=by
 obtain ⟨rfl,hlc⟩:=h.cap
 exact h.part lo hi h1 h2 _ (by omega) _ (fun hlt=>by rw [if_neg (by omega)])
theorem Ops.sliceLHv {k bytes l c lo hi:Nat} {z:Value} {a:Option Addr} {i j:Int} {k1 k2:IntKind} {xl xh:Operand} (hx:ev n s x=.slice a l c) (hl:ev n s xl=.int k1 i) (hh:ev n s xh=.int k2 j)
  (hi':i=(lo:Int)) (hj':j=(hi:Int)) (h1:lo≤hi) (h2:hi≤c) [ht:TSl P t e] [hz:TS P e z k bytes]
  (h:Ops P ro n all rest K (upd s d (cutV a c k lo hi)) w):Ops P ro n all (⟨some d,.slice t x (some xl) (some xh) none,ty,pos,af,none⟩::rest) K s w:=by
 subst hi' hj'
 refine Ops.ofRun (v:=cutV a c k lo hi) (w':=w) rfl ?_ h
 simp [cutV,execOp,Instr.sliceAt,Instr.slice,Instr.sliceBounds,Instr.sliceBound,hx,hl,hh,run_underlying ht.h,asIntOf,h1,h2,run_sizeOf' w hz]
theorem beqS (a b:ByteArray):(a.toList == b.toList)=decide (a=b):=by rw [←beq_toListBytes,byteArray_beq]
theorem Ops.eqlS {a b:ByteArray} (hx:ev n s x=.string a) (hy:ev n s y=.string b) (h:Ops P ro n all rest K (upd s d (.bool (decide (a=b)))) w) :
  Ops P ro n all (⟨some d,.binOp .eql t x y t',ty,pos,af,none⟩::rest) K s w :=
 Ops.ofRun rfl (by simp [execOp,hx,hy,go_sem,beqS,eqGuard]) h
theorem Ops.neqS {a b:ByteArray} (hx:ev n s x=.string a) (hy:ev n s y=.string b) (h:Ops P ro n all rest K (upd s d (.bool (decide (¬ a=b)))) w) :
  Ops P ro n all (⟨some d,.binOp .neq t x y t',ty,pos,af,none⟩::rest) K s w :=
 Ops.ofRun rfl (by
  have e:decide (¬ a=b)=!decide (a=b):=by by_cases h:a=b<;>simp [h]
  rw [e]
  simp [execOp,hx,hy,go_sem,beqS,eqGuard]) h
theorem Ops.indexAP {z:Value} {size bytes b o len:Nat} {i:Int} {k:IntKind} (j:Nat) (hx:ev n s x=.pointer (some ⟨b,o,none⟩)) (hy:ev n s y=.int k i) (hi:i=(j:Int)) [ht:TArr P t len e] [hz:TS P e z size bytes] (hj:Nat.blt j len=true)
  (h:Ops P ro n all rest K (upd s d (.pointer (some ⟨b,o+j * size,none⟩))) w) :
  Ops P ro n all (⟨some d,.indexAddr t x y,ty,pos,af,none⟩::rest) K s w:=by
 subst hi
 have hj':j<len:=by simpa using hj
 exact Ops.ofRun rfl (by
  have h1:(0:Int)≤(j:Int)∧(j:Int)<(len:Int):=by omega
  simp [execOp,Instr.indexAt,hx,hy,asIntOf,Instr.sureAddr,run_underlying ht.h,run_sizeOf' w hz,Addr.add_lit,hj']) h
end rules

theorem OwnL.slice3 {w:World} {B e:Nat} {agg:Bool} {k:Nat} {v:Value} {xs:List Value} (h:OwnL w B e agg k v xs):∃ a l c,v=.slice a l c:=by
 obtain ⟨a,c,h⟩:=h.slice
 exact ⟨a,_,c,h⟩

theorem fin2C {P:Program} {fn:Func} {n t ty b size bytes t1:Nat} {R:Value→World→Prop} {s:Sl} {w:World} {cs:List Value} {dd:TypeDesc} {z:Value} (hf:fn.results=#[.cell t ty,.tmp t1]) (ht:Nat.blt t n=true) (h1:Nat.blt t1 n=true)
  (hs:s t=.pointer (some ⟨b,0,none⟩)) [hb:At w b 0 cs] [hu:TU P ty dd] (hag:TypeDesc.isAgg dd=true) [hz:TS P ty z size bytes] (hl:cs.length=size)
  (h:R (.tuple #[.agg cs.toArray,s t1]) w):finR P fn n R s [] w:=by
 unfold finR
 refine ⟨rfl,_,?_,h⟩
 have e:(mkA n s []).tmps[t]?.getD undef=.pointer (some ⟨b,0,none⟩):=by
  rw [mkA_getElem?,if_pos (by simpa using ht)];exact hs
 have e1:(mkA n s []).tmps[t1]?.getD undef=s t1:=by rw [mkA_getElem?,if_pos (by simpa using h1)];rfl
 have:=run_loadVar_agg (P:=P) (t:=ty) (w:=w) (b:=b) (o:=0) hu hag hz (cs:=cs) hl (fun i v hv=>by have:=hb.h i v hv;simpa using this)
 simp [results,hf,e,e1,asAddr,this]
theorem fin1CM {P:Program} {fn:Func} {n N t ty b size bytes:Nat} {R:Value→World→Prop} {s:Sl} {ds:List Deferred} {w:World} {cs:List Value} {dd:TypeDesc} {z:Value} {e:Nat} (hf:fn.results=#[.cell t ty]) (ht:Nat.blt t n=true) (hs:s t=.pointer (some ⟨b,0,none⟩)) (hb:Bk w b cs e) [hu:TU P ty dd] (hag:TypeDesc.isAgg dd=true) [hz:TS P ty z size bytes] (hl:cs.length=size) (hm:Mks N w ds)
  (h:∀ w',Grow N w w'→R (.agg cs.toArray) w'):finM P fn n N R s ds w:=by
 unfold finM
 refine ⟨hm,fun w' g=>⟨.agg cs.toArray,?_,h w' g⟩⟩
 have e:(mkA n s []).tmps[t]?.getD undef=.pointer (some ⟨b,0,none⟩):=by
  rw [mkA_getElem?,if_pos (by simpa using ht)];exact hs
 have hA:=Bk.toAt (h:=hb.grow g)
 have:=run_loadVar_agg (P:=P) (t:=ty) (w:=w') (b:=b) (o:=0) hu hag hz (cs:=cs) hl (fun i v hv=>by have:=hA.h i v hv;simpa using this)
 simp [results,hf,e,asAddr,this]

section
variable {P:Program} {ro:Option Nat} {n:Nat} {all:List Oper} {S:World→Prop} {K:Sl→World→Prop} {x:Nat}
theorem AnyS.mono {K':Sl→World→Prop} (hk:∀ s w,K' s w→K s w):∀ {fuel:Nat} {listed:Array Bool} {s:Sl} {w:World},AnyS P ro n all S K' fuel listed s w→AnyS P ro n all S K fuel listed s w:=by
 intro fuel
 induction fuel with
 | zero =>
   intro listed s w h
   rw [AnyS.zero] at h ⊢
   exact ⟨h.1,h.2.1,hk _ _ h.2.2⟩
 | succ fuel ih =>
   intro listed s w h
   rw [AnyS.succ] at h ⊢
   exact ⟨h.1,fun e=>hk _ _ (h.2.1 e),fun i hi o ho=>(h.2.2 i hi o ho).mono fun v w' h=>ih h⟩
def AnyX (P:Program) (ro:Option Nat) (n:Nat) (all:List Oper) (S:World→Prop) (K:Sl→World→Prop) (x:Nat):Nat→Array Bool→Sl→World→Prop
 | 0,listed,s,w=>(listed.getD x false=false→S w)∧Region.ready .any all.toArray listed=[]∧K s w
 | fuel+1,listed,s,w=>(listed.getD x false=false→S w)∧(Region.ready .any all.toArray listed=[]→K s w) ∧
   ∀ i∈Region.ready .any all.toArray listed,∀ o,all[i]?=some o→Op1 P ro n all o s w (fun v w'=>AnyX P ro n all S K x fuel (listed.setIfInBounds i true) (putS s o.dst v) w')
theorem AnyX.succ {fuel:Nat} {listed:Array Bool} {s:Sl} {w:World}:AnyX P ro n all S K x (fuel+1) listed s w↔((listed.getD x false=false→S w)∧(Region.ready .any all.toArray listed=[]→K s w) ∧
   ∀ i∈Region.ready .any all.toArray listed,∀ o,all[i]?=some o→Op1 P ro n all o s w (fun v w'=>AnyX P ro n all S K x fuel (listed.setIfInBounds i true) (putS s o.dst v) w')):=Iff.rfl
theorem AnyX.zero {listed:Array Bool} {s:Sl} {w:World}:AnyX P ro n all S K x 0 listed s w↔((listed.getD x false=false→S w)∧Region.ready .any all.toArray listed=[]∧K s w):=Iff.rfl
theorem AnyX.inS:∀ {fuel:Nat} {listed:Array Bool} {s:Sl} {w:World},AnyX P ro n all S K x fuel listed s w→listed.getD x false=false→S w
 | 0,_,_,_,h=>h.1
 | _+1,_,_,_,h=>h.1
theorem AnyX.sound {ds:List Deferred} {Q:Exit→Act→World→Prop} (hQ:∀ s w,K s w→Q .normal (mkA n s ds) w):∀ (fuel:Nat) (listed:Array Bool) (s:Sl) (w:World),AnyX P ro n all S K x fuel listed s w →
  wpAnyIn (Fw ro) 0 P .any all.toArray Q fuel listed (mkA n s ds) w:=by
 intro fuel
 induction fuel with
 | zero=>intro listed s w h;exact ⟨h.2.1,hQ _ _ h.2.2⟩
 | succ fuel ih =>
   intro listed s w h
   refine ⟨fun h0=>hQ _ _ (h.2.1 h0),fun i hi=>?_⟩
   obtain ⟨_,o,ho,_⟩:=mem_ready.1 hi
   have ho':all[i]?=some o:=by simpa using ho
   exact Op1.sound ho' (h.2.2 i hi o ho') fun v w' hk=>ih _ _ _ hk
def behind (all:List Oper) (x i:Nat):Bool:=(x != i) && (match all[x]? with
 | some o=>o.after.toList.any fun e=>Region.binds .any e && (e.on == i)
 | none=>false)
theorem AnyX.first {i:Nat} {oi:Oper} {v:Value} (hn:niceAll all=true) (hi:all[i]?=some oi) (hbx:behind all x i=true) :
  ∀ (fuel:Nat) (listed:Array Bool) (s:Sl) (w:World),
   (∀ j oj,all[j]?=some oj→j≠i→listed.getD j true=false→(∀ e∈oj.after,Region.binds .any e=true→e.on≠i)→oi.apart all.toArray oj=true) →
   i∈Region.ready .any all.toArray listed→Quiet P ro n all S oi v s→S w→listed.getD x false=false →
   AnyX P ro n all S K x fuel (listed.setIfInBounds i true) (putS s oi.dst v) w→AnyX P ro n all S K x (fuel+1) listed s w:=by
 have putv:∀ (s:Sl) (u:Value),(∀ d,oi.dst=some d→u=v)→putS s oi.dst u=putS s oi.dst v:=fun s u h=>by
  cases hd:oi.dst with
  | none=>rfl
  | some d=>rw [h d hd]
 have hxi:i≠x:=fun e=>by subst e;simp [behind] at hbx
 intro fuel
 induction fuel with
 | zero =>
   intro listed s w _ hr hy hS hx H
   refine AnyX.succ.2 ⟨fun _=>hS,fun h=>(by rw [h] at hr;cases hr),fun j hj oj hoj=>?_⟩
   by_cases hji:j=i
   ·subst hji
    have:oj=oi:=by rw [hi] at hoj;exact (Option.some.inj hoj).symm
    subst this
    refine (hy w hS).mono fun u w' ⟨h1,h2⟩=>?_
    subst h2;rw [putv s u h1];exact H
   ·have:=ready_mono hj hji
    rw [(AnyX.zero.1 H).2.1] at this
    cases this
 | succ fuel ih =>
   intro listed s w hfree hr hy hS hx H
   refine AnyX.succ.2 ⟨fun _=>hS,fun h=>(by rw [h] at hr;cases hr),fun j hj oj hoj=>?_⟩
   by_cases hji:j=i
   ·subst hji
    have:oj=oi:=by rw [hi] at hoj;exact (Option.some.inj hoj).symm
    subst this
    refine (hy w hS).mono fun u w' ⟨h1,h2⟩=>?_
    subst h2;rw [putv s u h1];exact H
   ·obtain ⟨hjun,oj',hoj',hall⟩:=mem_ready.1 hj
    have:oj'=oj:=by
     have:all[j]?=some oj':=by simpa using hoj'
     rw [hoj] at this;exact (Option.some.inj this).symm
    subst this
    have hnot:∀ e∈oj'.after,Region.binds .any e=true→e.on≠i:=fun e he hb heq=>by
     have h1:=hall e he hb
     have h0:=(mem_ready.1 hr).1
     rw [heq] at h1
     rcases Nat.lt_or_ge i listed.size with h'|h'
     ·simp [h'] at h0 h1;rw [h0] at h1;cases h1
     ·simp [Array.getElem?_eq_none h'] at h1
    have hjx:j≠x:=fun e=>by
     subst e
     simp only [behind,hoj,Bool.and_eq_true,List.any_eq_true,beq_iff_eq] at hbx
     obtain ⟨_,e,he,hb,ho⟩:=hbx
     exact hnot e (by simpa using he) hb ho
    obtain ⟨a1,a2,a3⟩:=Oper.apart_spec (hfree j oj' hoj hji hjun hnot)
    have h1:=(Op1.congr (niceAll.get hn hoj) a1).2 ((AnyX.succ.1 H).2.2 j (ready_mono hj hji) oj' hoj)
    have hfree':∀ k ok,all[k]?=some ok→k≠i→(listed.setIfInBounds j true).getD k true=false →
      (∀ e∈ok.after,Region.binds .any e=true→e.on≠i)→oi.apart all.toArray ok=true:=fun k ok hk hki hun hno=>by
     refine hfree k ok hk hki ?_ hno
     by_cases hjk:j=k
     ·subst hjk;exact hjun
     ·rw [getD_set_ne true hjk] at hun;exact hun
    refine h1.mono fun u w' h3=>?_
    have hx':(listed.setIfInBounds j true).getD x false=false:=by rw [getD_set_ne false hjx];exact hx
    refine ih (listed.setIfInBounds j true) (putS s oj'.dst u) w' hfree' (ready_mono hr (Ne.symm hji)) (fun w hw=>(Op1.congr (niceAll.get hn hi) a3).1 (hy w hw)) (h3.inS (by rw [getD_set_ne false hjx,getD_set_ne false hxi];exact hx)) hx' ?_
    rw [Array.setIfInBounds_comm _ _ hji,←putS_comm s v u a2]
    exact h3
theorem Takes.nilD {K:Sl→Prop} {s:Sl} (h:Takes P ro n all S [] K s):K s:=by
 with_unfolding_all exact h
theorem Takes.consD {i:Nat} {is:List Nat} {K:Sl→Prop} {s:Sl} (h:Takes P ro n all S (i::is) K s):∃ o v,all[i]?=some o∧(∀ w,S w→Ops P ro n all [o] (fun s' w'=>s'=putS s o.dst v∧w'=w) s w)∧Takes P ro n all S is K (putS s o.dst v):=by
 with_unfolding_all exact h
theorem AnyX.takes (hn:niceAll all=true):∀ (is:List Nat) {fuel:Nat} {listed:Array Bool} {s:Sl} {w:World},okTake all is listed=true→is.all (behind all x)=true→listed.getD x false=false→S w →
  Takes P ro n all S is (fun s'=>AnyX P ro n all S K x fuel (listAll listed is) s' w) s→AnyX P ro n all S K x (fuel+is.length) listed s w:=by
 intro is
 induction is with
 | nil=>intro fuel listed s w _ _ _ _ h;exact h.nilD
 | cons i is ih =>
   intro fuel listed s w hok hb hx hS h
   simp only [okTake,Bool.and_eq_true] at hok
   simp only [List.all_cons,Bool.and_eq_true] at hb
   obtain ⟨⟨h1,h2⟩,h3⟩:=hok
   obtain ⟨o,v,ho,hq,hr⟩:=h.consD
   have ho':all.toArray[i]?=some o:=by simpa using ho
   have hxi:i≠x:=fun e=>by have:=hb.1;subst e;simp [behind] at this
   refine AnyX.first (v:=v) hn ho hb.1 (fuel+is.length) listed s w (fun j oj hj=>Region.free_spec ho' h2 j oj (by simpa using hj)) (by simpa using h1) ?_ hS hx (ih h3 hb.2 (by rw [getD_set_ne false hxi];exact hx) hS hr)
   intro w hw
   have:=hq w hw
   rw [op1_ops] at this
   refine this.mono fun u w' ⟨e1,e2⟩=>⟨fun d hd=>?_,e2⟩
   rw [hd] at e1
   have:=congrFun e1 d
   simpa [putS,upd] using this
theorem AnyX.take (is:List Nat) {fuel:Nat} {listed:Array Bool} {s:Sl} {w:World} (hok:(niceAll all && Nat.ble is.length fuel && okTake all is listed && is.all (behind all x) && !listed.getD x false)=true) (hS:S w)
  (h:Takes P ro n all S is (fun s'=>AnyX P ro n all S K x (fuel-is.length) (listAll listed is) s' w) s):AnyX P ro n all S K x fuel listed s w:=by
 simp only [Bool.and_eq_true,Bool.not_eq_true'] at hok
 have hle:is.length≤fuel:=by simpa using hok.1.1.1.2
 have:=AnyX.takes (K:=K) (fuel:=fuel-is.length) hok.1.1.1.1 is hok.1.1.2 hok.1.2 hok.2 hS h
 rwa [Nat.sub_add_cancel hle] at this
theorem AnyX.done {fuel:Nat} {listed:Array Bool} {s:Sl} {w:World} (hr:((Region.ready .any all.toArray listed).isEmpty && listed.getD x false)=true) (h:K s w):AnyX P ro n all S K x fuel listed s w:=by
 simp only [Bool.and_eq_true] at hr
 have hr':Region.ready .any all.toArray listed=[]:=List.isEmpty_iff.1 hr.1
 have hx:listed.getD x false=false→S w:=fun h=>by rw [hr.2] at h;cases h
 cases fuel with
 | zero=>exact ⟨hx,hr',h⟩
 | succ fuel=>exact ⟨hx,fun _=>h,fun i hi=>by rw [hr'] at hi;cases hi⟩
theorem AnyX.one (i:Nat) {o:Oper} {fuel:Nat} {listed:Array Bool} {s:Sl} {w:World} (hr:(Nat.blt 0 fuel && (Region.ready .any all.toArray listed == [i]))=true) (ho:all[i]?=some o) (hS:S w)
  (h:Ops P ro n all [o] (fun s' w'=>AnyX P ro n all S K x (fuel-1) (listed.setIfInBounds i true) s' w') s w):AnyX P ro n all S K x fuel listed s w:=by
 simp only [Bool.and_eq_true,beq_iff_eq] at hr
 obtain ⟨hf,hr⟩:=hr
 have hf:0<fuel:=by simpa using hf
 obtain ⟨f,rfl⟩:∃ f,fuel=f+1:=⟨fuel-1,by omega⟩
 refine ⟨fun _=>hS,fun h0=>(by rw [hr] at h0;cases h0),fun j hj oj hoj=>?_⟩
 rw [hr] at hj
 obtain rfl:j=i:=by simpa using hj
 obtain rfl:o=oj:=by rw [ho] at hoj;exact Option.some.inj hoj
 rw [op1_ops] at h;exact h
theorem W.drawX {X:Ctx} {s:Sl} {ds:List Deferred} {w:World} {id:Nat} {ops:List Oper} [hm:Mixed P] (x:Nat) (S:World→Prop)
  (h:∀ w1,Step w w1→AnyX P ro n ops S (fun s' w'=>X.nx s' ds w') x ops.length (Array.replicate ops.length false) s w1):W P ro n (.region id ops.toArray true) X s ds w:=by
 unfold W
 refine wpIn_region_any hm.h ?_
 have h1:=h { w with drawn:=w.drawn+1 } ⟨(Below.refl _ w).drew⟩
 have:=AnyX.sound (ds:=ds) (Q:=X.post n) (fun s w hk=>⟨s,ds,rfl,hk⟩) _ _ _ _ h1
 simpa using this
end
attribute [irreducible] AnyX
end Go.Proofs.YtbafmbpmiiplkaaGreatDoor
