/- the facts of the seat's types. Printed by a small program. -/
import Derived.Test.YtedpfdflolkpeaaGreatDoorChecked
import Derived.Test.YtedpfdflolkpeaaGreatDoorAmWalk
import Derived.KernelRfl
namespace Go.Proofs.YtedpfdflolkpeaaGreatDoor
open Go.AM
theorem ti3 : Tryz.prog.info? 3 = some (inf Tryz.prog 3) := by kernel_rfl
theorem ts3 : (inf Tryz.prog 3).size = 1 := by kernel_rfl
theorem tb3 : (inf Tryz.prog 3).bytes = 8 := by kernel_rfl
theorem tc3 : Tryz.prog.cellsOf 3 = 1 := by kernel_rfl
theorem ta3 : aggT Tryz.prog 3 = some false := by kernel_rfl
theorem tz3 : (inf Tryz.prog 3).zero = some (.int .i64 0) := by kernel_rfl
theorem ty3 : zeroT Tryz.prog 3 = some (.int .i64 0) := by kernel_rfl
attribute [go_sem] ti3 ts3 tb3 tc3 ta3 Tryz.underlying3 tz3 ty3
theorem ti4 : Tryz.prog.info? 4 = some (inf Tryz.prog 4) := by kernel_rfl
theorem ts4 : (inf Tryz.prog 4).size = 1 := by kernel_rfl
theorem tb4 : (inf Tryz.prog 4).bytes = 1 := by kernel_rfl
theorem tc4 : Tryz.prog.cellsOf 4 = 1 := by kernel_rfl
theorem ta4 : aggT Tryz.prog 4 = some false := by kernel_rfl
theorem tz4 : (inf Tryz.prog 4).zero = some (.bool false) := by kernel_rfl
theorem ty4 : zeroT Tryz.prog 4 = some (.bool false) := by kernel_rfl
attribute [go_sem] ti4 ts4 tb4 tc4 ta4 Tryz.underlying4 tz4 ty4
theorem ti5 : Tryz.prog.info? 5 = some (inf Tryz.prog 5) := by kernel_rfl
theorem ts5 : (inf Tryz.prog 5).size = 1 := by kernel_rfl
theorem tb5 : (inf Tryz.prog 5).bytes = 1 := by kernel_rfl
theorem tc5 : Tryz.prog.cellsOf 5 = 1 := by kernel_rfl
theorem ta5 : aggT Tryz.prog 5 = some false := by kernel_rfl
theorem tz5 : (inf Tryz.prog 5).zero = some (.int .u8 0) := by kernel_rfl
theorem ty5 : zeroT Tryz.prog 5 = some (.int .u8 0) := by kernel_rfl
attribute [go_sem] ti5 ts5 tb5 tc5 ta5 Tryz.underlying5 tz5 ty5
theorem ti9 : Tryz.prog.info? 9 = some (inf Tryz.prog 9) := by kernel_rfl
theorem ts9 : (inf Tryz.prog 9).size = 1 := by kernel_rfl
theorem tb9 : (inf Tryz.prog 9).bytes = 16 := by kernel_rfl
theorem tc9 : Tryz.prog.cellsOf 9 = 1 := by kernel_rfl
theorem ta9 : aggT Tryz.prog 9 = some false := by kernel_rfl
theorem tz9 : (inf Tryz.prog 9).zero = some (.string ByteArray.empty) := by kernel_rfl
theorem ty9 : zeroT Tryz.prog 9 = some (.string ByteArray.empty) := by kernel_rfl
attribute [go_sem] ti9 ts9 tb9 tc9 ta9 Tryz.underlying9 tz9 ty9
theorem ti20 : Tryz.prog.info? 20 = some (inf Tryz.prog 20) := by kernel_rfl
theorem ts20 : (inf Tryz.prog 20).size = 1 := by kernel_rfl
theorem tb20 : (inf Tryz.prog 20).bytes = 16 := by kernel_rfl
theorem tc20 : Tryz.prog.cellsOf 20 = 1 := by kernel_rfl
theorem ta20 : aggT Tryz.prog 20 = some false := by kernel_rfl
theorem tz20 : (inf Tryz.prog 20).zero = some (.nilIface) := by kernel_rfl
theorem ty20 : zeroT Tryz.prog 20 = some (.nilIface) := by kernel_rfl
attribute [go_sem] ti20 ts20 tb20 tc20 ta20 Tryz.underlying20 tz20 ty20
theorem ti22 : Tryz.prog.info? 22 = some (inf Tryz.prog 22) := by kernel_rfl
theorem ts22 : (inf Tryz.prog 22).size = 1 := by kernel_rfl
theorem tb22 : (inf Tryz.prog 22).bytes = 24 := by kernel_rfl
theorem tc22 : Tryz.prog.cellsOf 22 = 1 := by kernel_rfl
theorem ta22 : aggT Tryz.prog 22 = some false := by kernel_rfl
theorem tz22 : (inf Tryz.prog 22).zero = some (.slice none 0 0) := by kernel_rfl
theorem ty22 : zeroT Tryz.prog 22 = some (.slice none 0 0) := by kernel_rfl
attribute [go_sem] ti22 ts22 tb22 tc22 ta22 Tryz.underlying22 tz22 ty22
theorem ti23 : Tryz.prog.info? 23 = some (inf Tryz.prog 23) := by kernel_rfl
theorem ts23 : (inf Tryz.prog 23).size = 1 := by kernel_rfl
theorem tb23 : (inf Tryz.prog 23).bytes = 24 := by kernel_rfl
theorem tc23 : Tryz.prog.cellsOf 23 = 1 := by kernel_rfl
theorem ta23 : aggT Tryz.prog 23 = some false := by kernel_rfl
theorem tz23 : (inf Tryz.prog 23).zero = some (.slice none 0 0) := by kernel_rfl
theorem ty23 : zeroT Tryz.prog 23 = some (.slice none 0 0) := by kernel_rfl
attribute [go_sem] ti23 ts23 tb23 tc23 ta23 Tryz.underlying23 tz23 ty23
theorem ti24 : Tryz.prog.info? 24 = some (inf Tryz.prog 24) := by kernel_rfl
theorem ts24 : (inf Tryz.prog 24).size = 1 := by kernel_rfl
theorem tb24 : (inf Tryz.prog 24).bytes = 8 := by kernel_rfl
theorem tc24 : Tryz.prog.cellsOf 24 = 1 := by kernel_rfl
theorem ta24 : aggT Tryz.prog 24 = some false := by kernel_rfl
theorem tz24 : (inf Tryz.prog 24).zero = some (.pointer none) := by kernel_rfl
theorem ty24 : zeroT Tryz.prog 24 = some (.pointer none) := by kernel_rfl
attribute [go_sem] ti24 ts24 tb24 tc24 ta24 Tryz.underlying24 tz24 ty24
theorem ti25 : Tryz.prog.info? 25 = some (inf Tryz.prog 25) := by kernel_rfl
theorem ts25 : (inf Tryz.prog 25).size = 1 := by kernel_rfl
theorem tb25 : (inf Tryz.prog 25).bytes = 8 := by kernel_rfl
theorem tc25 : Tryz.prog.cellsOf 25 = 1 := by kernel_rfl
theorem ta25 : aggT Tryz.prog 25 = some false := by kernel_rfl
theorem tz25 : (inf Tryz.prog 25).zero = some (.int .i64 0) := by kernel_rfl
theorem ty25 : zeroT Tryz.prog 25 = some (.int .i64 0) := by kernel_rfl
attribute [go_sem] ti25 ts25 tb25 tc25 ta25 Tryz.underlying25 tz25 ty25
theorem ti30 : Tryz.prog.info? 30 = some (inf Tryz.prog 30) := by kernel_rfl
theorem ts30 : (inf Tryz.prog 30).size = 1 := by kernel_rfl
theorem tb30 : (inf Tryz.prog 30).bytes = 24 := by kernel_rfl
theorem tc30 : Tryz.prog.cellsOf 30 = 1 := by kernel_rfl
theorem ta30 : aggT Tryz.prog 30 = some false := by kernel_rfl
theorem tz30 : (inf Tryz.prog 30).zero = some (.slice none 0 0) := by kernel_rfl
theorem ty30 : zeroT Tryz.prog 30 = some (.slice none 0 0) := by kernel_rfl
attribute [go_sem] ti30 ts30 tb30 tc30 ta30 Tryz.underlying30 tz30 ty30
theorem ti32 : Tryz.prog.info? 32 = some (inf Tryz.prog 32) := by kernel_rfl
theorem ts32 : (inf Tryz.prog 32).size = 4 := by kernel_rfl
theorem tb32 : (inf Tryz.prog 32).bytes = 48 := by kernel_rfl
theorem tc32 : Tryz.prog.cellsOf 32 = 4 := by kernel_rfl
theorem ta32 : aggT Tryz.prog 32 = some true := by kernel_rfl
theorem tg32 : Tryz.prog.eqGuardType Tryz.prog.depth 32 = false := by kernel_rfl
theorem th32 : Tryz.prog.stoodInHeld 32 = false := by kernel_rfl
theorem tz32 : (inf Tryz.prog 32).zero = some (.agg #[.int .i64 0, .int .i64 0, .int .i64 0, .slice none 0 0]) := by kernel_rfl
theorem ty32 : zeroT Tryz.prog 32 = some (.agg #[.int .i64 0, .int .i64 0, .int .i64 0, .slice none 0 0]) := by kernel_rfl
attribute [go_sem] ti32 ts32 tb32 tc32 ta32 Tryz.underlying32 tg32 th32 tz32 ty32
theorem ti33 : Tryz.prog.info? 33 = some (inf Tryz.prog 33) := by kernel_rfl
theorem ts33 : (inf Tryz.prog 33).size = 1 := by kernel_rfl
theorem tb33 : (inf Tryz.prog 33).bytes = 24 := by kernel_rfl
theorem tc33 : Tryz.prog.cellsOf 33 = 1 := by kernel_rfl
theorem ta33 : aggT Tryz.prog 33 = some false := by kernel_rfl
theorem tz33 : (inf Tryz.prog 33).zero = some (.slice none 0 0) := by kernel_rfl
theorem ty33 : zeroT Tryz.prog 33 = some (.slice none 0 0) := by kernel_rfl
attribute [go_sem] ti33 ts33 tb33 tc33 ta33 Tryz.underlying33 tz33 ty33
theorem ti35 : Tryz.prog.info? 35 = some (inf Tryz.prog 35) := by kernel_rfl
theorem ts35 : (inf Tryz.prog 35).size = 10 := by kernel_rfl
theorem tb35 : (inf Tryz.prog 35).bytes = 112 := by kernel_rfl
theorem tc35 : Tryz.prog.cellsOf 35 = 10 := by kernel_rfl
theorem ta35 : aggT Tryz.prog 35 = some true := by kernel_rfl
theorem tg35 : Tryz.prog.eqGuardType Tryz.prog.depth 35 = false := by kernel_rfl
theorem th35 : Tryz.prog.stoodInHeld 35 = false := by kernel_rfl
theorem tz35 : (inf Tryz.prog 35).zero = some (.agg #[.int .u8 0, .int .i64 0, .int .i64 0, .int .i64 0, .int .i64 0, .int .i64 0, .int .i64 0, .slice none 0 0, .slice none 0 0, .bool false]) := by kernel_rfl
theorem ty35 : zeroT Tryz.prog 35 = some (.agg #[.int .u8 0, .int .i64 0, .int .i64 0, .int .i64 0, .int .i64 0, .int .i64 0, .int .i64 0, .slice none 0 0, .slice none 0 0, .bool false]) := by kernel_rfl
attribute [go_sem] ti35 ts35 tb35 tc35 ta35 Tryz.underlying35 tg35 th35 tz35 ty35
theorem ti36 : Tryz.prog.info? 36 = some (inf Tryz.prog 36) := by kernel_rfl
theorem ts36 : (inf Tryz.prog 36).size = 1 := by kernel_rfl
theorem tb36 : (inf Tryz.prog 36).bytes = 24 := by kernel_rfl
theorem tc36 : Tryz.prog.cellsOf 36 = 1 := by kernel_rfl
theorem ta36 : aggT Tryz.prog 36 = some false := by kernel_rfl
theorem tz36 : (inf Tryz.prog 36).zero = some (.slice none 0 0) := by kernel_rfl
theorem ty36 : zeroT Tryz.prog 36 = some (.slice none 0 0) := by kernel_rfl
attribute [go_sem] ti36 ts36 tb36 tc36 ta36 Tryz.underlying36 tz36 ty36
theorem ti38 : Tryz.prog.info? 38 = some (inf Tryz.prog 38) := by kernel_rfl
theorem ts38 : (inf Tryz.prog 38).size = 3 := by kernel_rfl
theorem tb38 : (inf Tryz.prog 38).bytes = 40 := by kernel_rfl
theorem tc38 : Tryz.prog.cellsOf 38 = 3 := by kernel_rfl
theorem ta38 : aggT Tryz.prog 38 = some true := by kernel_rfl
theorem tg38 : Tryz.prog.eqGuardType Tryz.prog.depth 38 = false := by kernel_rfl
theorem th38 : Tryz.prog.stoodInHeld 38 = false := by kernel_rfl
theorem tz38 : (inf Tryz.prog 38).zero = some (.agg #[.int .i64 0, .int .i64 0, .slice none 0 0]) := by kernel_rfl
theorem ty38 : zeroT Tryz.prog 38 = some (.agg #[.int .i64 0, .int .i64 0, .slice none 0 0]) := by kernel_rfl
attribute [go_sem] ti38 ts38 tb38 tc38 ta38 Tryz.underlying38 tg38 th38 tz38 ty38
theorem ti46 : Tryz.prog.info? 46 = some (inf Tryz.prog 46) := by kernel_rfl
theorem ts46 : (inf Tryz.prog 46).size = 1 := by kernel_rfl
theorem tb46 : (inf Tryz.prog 46).bytes = 8 := by kernel_rfl
theorem tc46 : Tryz.prog.cellsOf 46 = 1 := by kernel_rfl
theorem ta46 : aggT Tryz.prog 46 = some false := by kernel_rfl
theorem tz46 : (inf Tryz.prog 46).zero = some (.nilFunc) := by kernel_rfl
theorem ty46 : zeroT Tryz.prog 46 = some (.nilFunc) := by kernel_rfl
attribute [go_sem] ti46 ts46 tb46 tc46 ta46 Tryz.underlying46 tz46 ty46
theorem ti47 : Tryz.prog.info? 47 = some (inf Tryz.prog 47) := by kernel_rfl
theorem ts47 : (inf Tryz.prog 47).size = 1 := by kernel_rfl
theorem tb47 : (inf Tryz.prog 47).bytes = 8 := by kernel_rfl
theorem tc47 : Tryz.prog.cellsOf 47 = 1 := by kernel_rfl
theorem ta47 : aggT Tryz.prog 47 = some false := by kernel_rfl
theorem tz47 : (inf Tryz.prog 47).zero = some (.int .u64 0) := by kernel_rfl
theorem ty47 : zeroT Tryz.prog 47 = some (.int .u64 0) := by kernel_rfl
attribute [go_sem] ti47 ts47 tb47 tc47 ta47 Tryz.underlying47 tz47 ty47
theorem ti49 : Tryz.prog.info? 49 = some (inf Tryz.prog 49) := by kernel_rfl
theorem ts49 : (inf Tryz.prog 49).size = 3 := by kernel_rfl
theorem tb49 : (inf Tryz.prog 49).bytes = 40 := by kernel_rfl
theorem tc49 : Tryz.prog.cellsOf 49 = 3 := by kernel_rfl
theorem ta49 : aggT Tryz.prog 49 = some true := by kernel_rfl
theorem tg49 : Tryz.prog.eqGuardType Tryz.prog.depth 49 = false := by kernel_rfl
theorem th49 : Tryz.prog.stoodInHeld 49 = false := by kernel_rfl
theorem tz49 : (inf Tryz.prog 49).zero = some (.agg #[.int .i64 0, .int .i64 0, .slice none 0 0]) := by kernel_rfl
theorem ty49 : zeroT Tryz.prog 49 = some (.agg #[.int .i64 0, .int .i64 0, .slice none 0 0]) := by kernel_rfl
attribute [go_sem] ti49 ts49 tb49 tc49 ta49 Tryz.underlying49 tg49 th49 tz49 ty49
theorem ti56 : Tryz.prog.info? 56 = some (inf Tryz.prog 56) := by kernel_rfl
theorem ts56 : (inf Tryz.prog 56).size = 1 := by kernel_rfl
theorem tb56 : (inf Tryz.prog 56).bytes = 24 := by kernel_rfl
theorem tc56 : Tryz.prog.cellsOf 56 = 1 := by kernel_rfl
theorem ta56 : aggT Tryz.prog 56 = some false := by kernel_rfl
theorem tz56 : (inf Tryz.prog 56).zero = some (.slice none 0 0) := by kernel_rfl
theorem ty56 : zeroT Tryz.prog 56 = some (.slice none 0 0) := by kernel_rfl
attribute [go_sem] ti56 ts56 tb56 tc56 ta56 Tryz.underlying56 tz56 ty56
theorem ti61 : Tryz.prog.info? 61 = some (inf Tryz.prog 61) := by kernel_rfl
theorem ts61 : (inf Tryz.prog 61).size = 1 := by kernel_rfl
theorem tb61 : (inf Tryz.prog 61).bytes = 24 := by kernel_rfl
theorem tc61 : Tryz.prog.cellsOf 61 = 1 := by kernel_rfl
theorem ta61 : aggT Tryz.prog 61 = some false := by kernel_rfl
theorem tz61 : (inf Tryz.prog 61).zero = some (.slice none 0 0) := by kernel_rfl
theorem ty61 : zeroT Tryz.prog 61 = some (.slice none 0 0) := by kernel_rfl
attribute [go_sem] ti61 ts61 tb61 tc61 ta61 Tryz.underlying61 tz61 ty61
theorem ti63 : Tryz.prog.info? 63 = some (inf Tryz.prog 63) := by kernel_rfl
theorem ts63 : (inf Tryz.prog 63).size = 4 := by kernel_rfl
theorem tb63 : (inf Tryz.prog 63).bytes = 64 := by kernel_rfl
theorem tc63 : Tryz.prog.cellsOf 63 = 4 := by kernel_rfl
theorem ta63 : aggT Tryz.prog 63 = some true := by kernel_rfl
theorem tg63 : Tryz.prog.eqGuardType Tryz.prog.depth 63 = false := by kernel_rfl
theorem th63 : Tryz.prog.stoodInHeld 63 = false := by kernel_rfl
theorem tz63 : (inf Tryz.prog 63).zero = some (.agg #[.int .i64 0, .int .i64 0, .slice none 0 0, .slice none 0 0]) := by kernel_rfl
theorem ty63 : zeroT Tryz.prog 63 = some (.agg #[.int .i64 0, .int .i64 0, .slice none 0 0, .slice none 0 0]) := by kernel_rfl
attribute [go_sem] ti63 ts63 tb63 tc63 ta63 Tryz.underlying63 tg63 th63 tz63 ty63
theorem ti67 : Tryz.prog.info? 67 = some (inf Tryz.prog 67) := by kernel_rfl
theorem ts67 : (inf Tryz.prog 67).size = 1 := by kernel_rfl
theorem tb67 : (inf Tryz.prog 67).bytes = 8 := by kernel_rfl
theorem tc67 : Tryz.prog.cellsOf 67 = 1 := by kernel_rfl
theorem ta67 : aggT Tryz.prog 67 = some false := by kernel_rfl
theorem tz67 : (inf Tryz.prog 67).zero = some (.pointer none) := by kernel_rfl
theorem ty67 : zeroT Tryz.prog 67 = some (.pointer none) := by kernel_rfl
attribute [go_sem] ti67 ts67 tb67 tc67 ta67 Tryz.underlying67 tz67 ty67
theorem ti70 : Tryz.prog.info? 70 = some (inf Tryz.prog 70) := by kernel_rfl
theorem ts70 : (inf Tryz.prog 70).size = 1 := by kernel_rfl
theorem tb70 : (inf Tryz.prog 70).bytes = 24 := by kernel_rfl
theorem tc70 : Tryz.prog.cellsOf 70 = 1 := by kernel_rfl
theorem ta70 : aggT Tryz.prog 70 = some false := by kernel_rfl
theorem tz70 : (inf Tryz.prog 70).zero = some (.slice none 0 0) := by kernel_rfl
theorem ty70 : zeroT Tryz.prog 70 = some (.slice none 0 0) := by kernel_rfl
attribute [go_sem] ti70 ts70 tb70 tc70 ta70 Tryz.underlying70 tz70 ty70
theorem ti72 : Tryz.prog.info? 72 = some (inf Tryz.prog 72) := by kernel_rfl
theorem ts72 : (inf Tryz.prog 72).size = 5 := by kernel_rfl
theorem tb72 : (inf Tryz.prog 72).bytes = 104 := by kernel_rfl
theorem tc72 : Tryz.prog.cellsOf 72 = 5 := by kernel_rfl
theorem ta72 : aggT Tryz.prog 72 = some true := by kernel_rfl
theorem tg72 : Tryz.prog.eqGuardType Tryz.prog.depth 72 = false := by kernel_rfl
theorem th72 : Tryz.prog.stoodInHeld 72 = false := by kernel_rfl
theorem tz72 : (inf Tryz.prog 72).zero = some (.agg #[.slice none 0 0, .slice none 0 0, .slice none 0 0, .slice none 0 0, .bool false]) := by kernel_rfl
theorem ty72 : zeroT Tryz.prog 72 = some (.agg #[.slice none 0 0, .slice none 0 0, .slice none 0 0, .slice none 0 0, .bool false]) := by kernel_rfl
attribute [go_sem] ti72 ts72 tb72 tc72 ta72 Tryz.underlying72 tg72 th72 tz72 ty72
theorem ti82 : Tryz.prog.info? 82 = some (inf Tryz.prog 82) := by kernel_rfl
theorem ts82 : (inf Tryz.prog 82).size = 1 := by kernel_rfl
theorem tb82 : (inf Tryz.prog 82).bytes = 24 := by kernel_rfl
theorem tc82 : Tryz.prog.cellsOf 82 = 1 := by kernel_rfl
theorem ta82 : aggT Tryz.prog 82 = some false := by kernel_rfl
theorem tz82 : (inf Tryz.prog 82).zero = some (.slice none 0 0) := by kernel_rfl
theorem ty82 : zeroT Tryz.prog 82 = some (.slice none 0 0) := by kernel_rfl
attribute [go_sem] ti82 ts82 tb82 tc82 ta82 Tryz.underlying82 tz82 ty82
theorem ti84 : Tryz.prog.info? 84 = some (inf Tryz.prog 84) := by kernel_rfl
theorem ts84 : (inf Tryz.prog 84).size = 4 := by kernel_rfl
theorem tb84 : (inf Tryz.prog 84).bytes = 64 := by kernel_rfl
theorem tc84 : Tryz.prog.cellsOf 84 = 4 := by kernel_rfl
theorem ta84 : aggT Tryz.prog 84 = some true := by kernel_rfl
theorem tg84 : Tryz.prog.eqGuardType Tryz.prog.depth 84 = false := by kernel_rfl
theorem th84 : Tryz.prog.stoodInHeld 84 = false := by kernel_rfl
theorem tz84 : (inf Tryz.prog 84).zero = some (.agg #[.int .i64 0, .int .i64 0, .slice none 0 0, .slice none 0 0]) := by kernel_rfl
theorem ty84 : zeroT Tryz.prog 84 = some (.agg #[.int .i64 0, .int .i64 0, .slice none 0 0, .slice none 0 0]) := by kernel_rfl
attribute [go_sem] ti84 ts84 tb84 tc84 ta84 Tryz.underlying84 tg84 th84 tz84 ty84
theorem ti85 : Tryz.prog.info? 85 = some (inf Tryz.prog 85) := by kernel_rfl
theorem ts85 : (inf Tryz.prog 85).size = 1 := by kernel_rfl
theorem tb85 : (inf Tryz.prog 85).bytes = 24 := by kernel_rfl
theorem tc85 : Tryz.prog.cellsOf 85 = 1 := by kernel_rfl
theorem ta85 : aggT Tryz.prog 85 = some false := by kernel_rfl
theorem tz85 : (inf Tryz.prog 85).zero = some (.slice none 0 0) := by kernel_rfl
theorem ty85 : zeroT Tryz.prog 85 = some (.slice none 0 0) := by kernel_rfl
attribute [go_sem] ti85 ts85 tb85 tc85 ta85 Tryz.underlying85 tz85 ty85
theorem ti87 : Tryz.prog.info? 87 = some (inf Tryz.prog 87) := by kernel_rfl
theorem ts87 : (inf Tryz.prog 87).size = 3 := by kernel_rfl
theorem tb87 : (inf Tryz.prog 87).bytes = 24 := by kernel_rfl
theorem tc87 : Tryz.prog.cellsOf 87 = 3 := by kernel_rfl
theorem ta87 : aggT Tryz.prog 87 = some true := by kernel_rfl
theorem tg87 : Tryz.prog.eqGuardType Tryz.prog.depth 87 = false := by kernel_rfl
theorem th87 : Tryz.prog.stoodInHeld 87 = false := by kernel_rfl
theorem tz87 : (inf Tryz.prog 87).zero = some (.agg #[.int .i64 0, .int .i64 0, .int .i64 0]) := by kernel_rfl
theorem ty87 : zeroT Tryz.prog 87 = some (.agg #[.int .i64 0, .int .i64 0, .int .i64 0]) := by kernel_rfl
attribute [go_sem] ti87 ts87 tb87 tc87 ta87 Tryz.underlying87 tg87 th87 tz87 ty87
theorem ti91 : Tryz.prog.info? 91 = some (inf Tryz.prog 91) := by kernel_rfl
theorem ts91 : (inf Tryz.prog 91).size = 1 := by kernel_rfl
theorem tb91 : (inf Tryz.prog 91).bytes = 8 := by kernel_rfl
theorem tc91 : Tryz.prog.cellsOf 91 = 1 := by kernel_rfl
theorem ta91 : aggT Tryz.prog 91 = some false := by kernel_rfl
theorem tz91 : (inf Tryz.prog 91).zero = some (.pointer none) := by kernel_rfl
theorem ty91 : zeroT Tryz.prog 91 = some (.pointer none) := by kernel_rfl
attribute [go_sem] ti91 ts91 tb91 tc91 ta91 Tryz.underlying91 tz91 ty91
theorem ti95 : Tryz.prog.info? 95 = some (inf Tryz.prog 95) := by kernel_rfl
theorem ts95 : (inf Tryz.prog 95).size = 1 := by kernel_rfl
theorem tb95 : (inf Tryz.prog 95).bytes = 24 := by kernel_rfl
theorem tc95 : Tryz.prog.cellsOf 95 = 1 := by kernel_rfl
theorem ta95 : aggT Tryz.prog 95 = some false := by kernel_rfl
theorem tz95 : (inf Tryz.prog 95).zero = some (.slice none 0 0) := by kernel_rfl
theorem ty95 : zeroT Tryz.prog 95 = some (.slice none 0 0) := by kernel_rfl
attribute [go_sem] ti95 ts95 tb95 tc95 ta95 Tryz.underlying95 tz95 ty95
theorem ti98 : Tryz.prog.info? 98 = some (inf Tryz.prog 98) := by kernel_rfl
theorem ts98 : (inf Tryz.prog 98).size = 1 := by kernel_rfl
theorem tb98 : (inf Tryz.prog 98).bytes = 24 := by kernel_rfl
theorem tc98 : Tryz.prog.cellsOf 98 = 1 := by kernel_rfl
theorem ta98 : aggT Tryz.prog 98 = some false := by kernel_rfl
theorem tz98 : (inf Tryz.prog 98).zero = some (.slice none 0 0) := by kernel_rfl
theorem ty98 : zeroT Tryz.prog 98 = some (.slice none 0 0) := by kernel_rfl
attribute [go_sem] ti98 ts98 tb98 tc98 ta98 Tryz.underlying98 tz98 ty98
theorem ti100 : Tryz.prog.info? 100 = some (inf Tryz.prog 100) := by kernel_rfl
theorem ts100 : (inf Tryz.prog 100).size = 6 := by kernel_rfl
theorem tb100 : (inf Tryz.prog 100).bytes = 64 := by kernel_rfl
theorem tc100 : Tryz.prog.cellsOf 100 = 6 := by kernel_rfl
theorem ta100 : aggT Tryz.prog 100 = some true := by kernel_rfl
theorem tg100 : Tryz.prog.eqGuardType Tryz.prog.depth 100 = false := by kernel_rfl
theorem th100 : Tryz.prog.stoodInHeld 100 = false := by kernel_rfl
theorem tz100 : (inf Tryz.prog 100).zero = some (.agg #[.int .i64 0, .int .i64 0, .int .i64 0, .int .i64 0, .int .i64 0, .slice none 0 0]) := by kernel_rfl
theorem ty100 : zeroT Tryz.prog 100 = some (.agg #[.int .i64 0, .int .i64 0, .int .i64 0, .int .i64 0, .int .i64 0, .slice none 0 0]) := by kernel_rfl
attribute [go_sem] ti100 ts100 tb100 tc100 ta100 Tryz.underlying100 tg100 th100 tz100 ty100
theorem ti112 : Tryz.prog.info? 112 = some (inf Tryz.prog 112) := by kernel_rfl
theorem ts112 : (inf Tryz.prog 112).size = 1 := by kernel_rfl
theorem tb112 : (inf Tryz.prog 112).bytes = 16 := by kernel_rfl
theorem tc112 : Tryz.prog.cellsOf 112 = 1 := by kernel_rfl
theorem ta112 : aggT Tryz.prog 112 = some false := by kernel_rfl
theorem tz112 : (inf Tryz.prog 112).zero = some (.nilIface) := by kernel_rfl
theorem ty112 : zeroT Tryz.prog 112 = some (.nilIface) := by kernel_rfl
attribute [go_sem] ti112 ts112 tb112 tc112 ta112 Tryz.underlying112 tz112 ty112
theorem ti135 : Tryz.prog.info? 135 = some (inf Tryz.prog 135) := by kernel_rfl
theorem ts135 : (inf Tryz.prog 135).size = 1 := by kernel_rfl
theorem tb135 : (inf Tryz.prog 135).bytes = 8 := by kernel_rfl
theorem tc135 : Tryz.prog.cellsOf 135 = 1 := by kernel_rfl
theorem ta135 : aggT Tryz.prog 135 = some false := by kernel_rfl
theorem tz135 : (inf Tryz.prog 135).zero = some (.pointer none) := by kernel_rfl
theorem ty135 : zeroT Tryz.prog 135 = some (.pointer none) := by kernel_rfl
attribute [go_sem] ti135 ts135 tb135 tc135 ta135 Tryz.underlying135 tz135 ty135
theorem ti137 : Tryz.prog.info? 137 = some (inf Tryz.prog 137) := by kernel_rfl
theorem ts137 : (inf Tryz.prog 137).size = 2 := by kernel_rfl
theorem tb137 : (inf Tryz.prog 137).bytes = 32 := by kernel_rfl
theorem tc137 : Tryz.prog.cellsOf 137 = 2 := by kernel_rfl
theorem ta137 : aggT Tryz.prog 137 = some true := by kernel_rfl
theorem tg137 : Tryz.prog.eqGuardType Tryz.prog.depth 137 = false := by kernel_rfl
theorem th137 : Tryz.prog.stoodInHeld 137 = false := by kernel_rfl
theorem tz137 : (inf Tryz.prog 137).zero = some (.agg #[.int .i64 0, .slice none 0 0]) := by kernel_rfl
theorem ty137 : zeroT Tryz.prog 137 = some (.agg #[.int .i64 0, .slice none 0 0]) := by kernel_rfl
attribute [go_sem] ti137 ts137 tb137 tc137 ta137 Tryz.underlying137 tg137 th137 tz137 ty137
theorem ti140 : Tryz.prog.info? 140 = some (inf Tryz.prog 140) := by kernel_rfl
theorem ts140 : (inf Tryz.prog 140).size = 1 := by kernel_rfl
theorem tb140 : (inf Tryz.prog 140).bytes = 8 := by kernel_rfl
theorem tc140 : Tryz.prog.cellsOf 140 = 1 := by kernel_rfl
theorem ta140 : aggT Tryz.prog 140 = some false := by kernel_rfl
theorem tz140 : (inf Tryz.prog 140).zero = some (.pointer none) := by kernel_rfl
theorem ty140 : zeroT Tryz.prog 140 = some (.pointer none) := by kernel_rfl
attribute [go_sem] ti140 ts140 tb140 tc140 ta140 Tryz.underlying140 tz140 ty140
theorem ti142 : Tryz.prog.info? 142 = some (inf Tryz.prog 142) := by kernel_rfl
theorem ts142 : (inf Tryz.prog 142).size = 1 := by kernel_rfl
theorem tb142 : (inf Tryz.prog 142).bytes = 8 := by kernel_rfl
theorem tc142 : Tryz.prog.cellsOf 142 = 1 := by kernel_rfl
theorem ta142 : aggT Tryz.prog 142 = some false := by kernel_rfl
theorem tz142 : (inf Tryz.prog 142).zero = some (.map none) := by kernel_rfl
theorem ty142 : zeroT Tryz.prog 142 = some (.map none) := by kernel_rfl
attribute [go_sem] ti142 ts142 tb142 tc142 ta142 Tryz.underlying142 tz142 ty142
theorem ti144 : Tryz.prog.info? 144 = some (inf Tryz.prog 144) := by kernel_rfl
theorem ts144 : (inf Tryz.prog 144).size = 10 := by kernel_rfl
theorem tb144 : (inf Tryz.prog 144).bytes = 128 := by kernel_rfl
theorem tc144 : Tryz.prog.cellsOf 144 = 10 := by kernel_rfl
theorem ta144 : aggT Tryz.prog 144 = some true := by kernel_rfl
theorem tg144 : Tryz.prog.eqGuardType Tryz.prog.depth 144 = false := by kernel_rfl
theorem th144 : Tryz.prog.stoodInHeld 144 = false := by kernel_rfl
theorem tz144 : (inf Tryz.prog 144).zero = some (.agg #[.int .i64 0, .pointer none, .slice none 0 0, .int .i64 0, .int .i64 0, .int .i64 0, .slice none 0 0, .map none, .slice none 0 0, .bool false]) := by kernel_rfl
theorem ty144 : zeroT Tryz.prog 144 = some (.agg #[.int .i64 0, .pointer none, .slice none 0 0, .int .i64 0, .int .i64 0, .int .i64 0, .slice none 0 0, .map none, .slice none 0 0, .bool false]) := by kernel_rfl
attribute [go_sem] ti144 ts144 tb144 tc144 ta144 Tryz.underlying144 tg144 th144 tz144 ty144
theorem ti147 : Tryz.prog.info? 147 = some (inf Tryz.prog 147) := by kernel_rfl
theorem ts147 : (inf Tryz.prog 147).size = 1 := by kernel_rfl
theorem tb147 : (inf Tryz.prog 147).bytes = 8 := by kernel_rfl
theorem tc147 : Tryz.prog.cellsOf 147 = 1 := by kernel_rfl
theorem ta147 : aggT Tryz.prog 147 = some false := by kernel_rfl
theorem tz147 : (inf Tryz.prog 147).zero = some (.nilFunc) := by kernel_rfl
theorem ty147 : zeroT Tryz.prog 147 = some (.nilFunc) := by kernel_rfl
attribute [go_sem] ti147 ts147 tb147 tc147 ta147 Tryz.underlying147 tz147 ty147
theorem ti151 : Tryz.prog.info? 151 = some (inf Tryz.prog 151) := by kernel_rfl
theorem ts151 : (inf Tryz.prog 151).size = 1 := by kernel_rfl
theorem tb151 : (inf Tryz.prog 151).bytes = 8 := by kernel_rfl
theorem tc151 : Tryz.prog.cellsOf 151 = 1 := by kernel_rfl
theorem ta151 : aggT Tryz.prog 151 = some false := by kernel_rfl
theorem tz151 : (inf Tryz.prog 151).zero = some (.nilFunc) := by kernel_rfl
theorem ty151 : zeroT Tryz.prog 151 = some (.nilFunc) := by kernel_rfl
attribute [go_sem] ti151 ts151 tb151 tc151 ta151 Tryz.underlying151 tz151 ty151
theorem ti157 : Tryz.prog.info? 157 = some (inf Tryz.prog 157) := by kernel_rfl
theorem ts157 : (inf Tryz.prog 157).size = 1 := by kernel_rfl
theorem tb157 : (inf Tryz.prog 157).bytes = 8 := by kernel_rfl
theorem tc157 : Tryz.prog.cellsOf 157 = 1 := by kernel_rfl
theorem ta157 : aggT Tryz.prog 157 = some false := by kernel_rfl
theorem tz157 : (inf Tryz.prog 157).zero = some (.pointer none) := by kernel_rfl
theorem ty157 : zeroT Tryz.prog 157 = some (.pointer none) := by kernel_rfl
attribute [go_sem] ti157 ts157 tb157 tc157 ta157 Tryz.underlying157 tz157 ty157
theorem ti159 : Tryz.prog.info? 159 = some (inf Tryz.prog 159) := by kernel_rfl
theorem ts159 : (inf Tryz.prog 159).size = 1 := by kernel_rfl
theorem tb159 : (inf Tryz.prog 159).bytes = 8 := by kernel_rfl
theorem tc159 : Tryz.prog.cellsOf 159 = 1 := by kernel_rfl
theorem ta159 : aggT Tryz.prog 159 = some false := by kernel_rfl
theorem tz159 : (inf Tryz.prog 159).zero = some (.pointer none) := by kernel_rfl
theorem ty159 : zeroT Tryz.prog 159 = some (.pointer none) := by kernel_rfl
attribute [go_sem] ti159 ts159 tb159 tc159 ta159 Tryz.underlying159 tz159 ty159
theorem ti161 : Tryz.prog.info? 161 = some (inf Tryz.prog 161) := by kernel_rfl
theorem ts161 : (inf Tryz.prog 161).size = 2 := by kernel_rfl
theorem tb161 : (inf Tryz.prog 161).bytes = 16 := by kernel_rfl
theorem tc161 : Tryz.prog.cellsOf 161 = 2 := by kernel_rfl
theorem ta161 : aggT Tryz.prog 161 = some true := by kernel_rfl
theorem tg161 : Tryz.prog.eqGuardType Tryz.prog.depth 161 = false := by kernel_rfl
theorem th161 : Tryz.prog.stoodInHeld 161 = false := by kernel_rfl
theorem tz161 : (inf Tryz.prog 161).zero = some (.agg #[.int .i64 0, .int .i64 0]) := by kernel_rfl
theorem ty161 : zeroT Tryz.prog 161 = some (.agg #[.int .i64 0, .int .i64 0]) := by kernel_rfl
attribute [go_sem] ti161 ts161 tb161 tc161 ta161 Tryz.underlying161 tg161 th161 tz161 ty161
theorem ti166 : Tryz.prog.info? 166 = some (inf Tryz.prog 166) := by kernel_rfl
theorem ts166 : (inf Tryz.prog 166).size = 1 := by kernel_rfl
theorem tb166 : (inf Tryz.prog 166).bytes = 8 := by kernel_rfl
theorem tc166 : Tryz.prog.cellsOf 166 = 1 := by kernel_rfl
theorem ta166 : aggT Tryz.prog 166 = some false := by kernel_rfl
theorem tz166 : (inf Tryz.prog 166).zero = some (.nilFunc) := by kernel_rfl
theorem ty166 : zeroT Tryz.prog 166 = some (.nilFunc) := by kernel_rfl
attribute [go_sem] ti166 ts166 tb166 tc166 ta166 Tryz.underlying166 tz166 ty166
theorem ti167 : Tryz.prog.info? 167 = some (inf Tryz.prog 167) := by kernel_rfl
theorem ts167 : (inf Tryz.prog 167).size = 1 := by kernel_rfl
theorem tb167 : (inf Tryz.prog 167).bytes = 24 := by kernel_rfl
theorem tc167 : Tryz.prog.cellsOf 167 = 1 := by kernel_rfl
theorem ta167 : aggT Tryz.prog 167 = some false := by kernel_rfl
theorem tz167 : (inf Tryz.prog 167).zero = some (.slice none 0 0) := by kernel_rfl
theorem ty167 : zeroT Tryz.prog 167 = some (.slice none 0 0) := by kernel_rfl
attribute [go_sem] ti167 ts167 tb167 tc167 ta167 Tryz.underlying167 tz167 ty167
theorem ti170 : Tryz.prog.info? 170 = some (inf Tryz.prog 170) := by kernel_rfl
theorem ts170 : (inf Tryz.prog 170).size = 6 := by kernel_rfl
theorem tb170 : (inf Tryz.prog 170).bytes = 64 := by kernel_rfl
theorem tc170 : Tryz.prog.cellsOf 170 = 6 := by kernel_rfl
theorem ta170 : aggT Tryz.prog 170 = some true := by kernel_rfl
theorem tg170 : Tryz.prog.eqGuardType Tryz.prog.depth 170 = false := by kernel_rfl
theorem th170 : Tryz.prog.stoodInHeld 170 = false := by kernel_rfl
theorem tz170 : (inf Tryz.prog 170).zero = some (.agg #[.int .i64 0, .int .i64 0, .int .i64 0, .int .i64 0, .int .i64 0, .slice none 0 0]) := by kernel_rfl
theorem ty170 : zeroT Tryz.prog 170 = some (.agg #[.int .i64 0, .int .i64 0, .int .i64 0, .int .i64 0, .int .i64 0, .slice none 0 0]) := by kernel_rfl
attribute [go_sem] ti170 ts170 tb170 tc170 ta170 Tryz.underlying170 tg170 th170 tz170 ty170
theorem ti181 : Tryz.prog.info? 181 = some (inf Tryz.prog 181) := by kernel_rfl
theorem ts181 : (inf Tryz.prog 181).size = 1 := by kernel_rfl
theorem tb181 : (inf Tryz.prog 181).bytes = 8 := by kernel_rfl
theorem tc181 : Tryz.prog.cellsOf 181 = 1 := by kernel_rfl
theorem ta181 : aggT Tryz.prog 181 = some false := by kernel_rfl
theorem tz181 : (inf Tryz.prog 181).zero = some (.pointer none) := by kernel_rfl
theorem ty181 : zeroT Tryz.prog 181 = some (.pointer none) := by kernel_rfl
attribute [go_sem] ti181 ts181 tb181 tc181 ta181 Tryz.underlying181 tz181 ty181
theorem ti183 : Tryz.prog.info? 183 = some (inf Tryz.prog 183) := by kernel_rfl
theorem ts183 : (inf Tryz.prog 183).size = 1 := by kernel_rfl
theorem tb183 : (inf Tryz.prog 183).bytes = 8 := by kernel_rfl
theorem tc183 : Tryz.prog.cellsOf 183 = 1 := by kernel_rfl
theorem ta183 : aggT Tryz.prog 183 = some true := by kernel_rfl
theorem tg183 : Tryz.prog.eqGuardType Tryz.prog.depth 183 = false := by kernel_rfl
theorem th183 : Tryz.prog.stoodInHeld 183 = false := by kernel_rfl
theorem tz183 : (inf Tryz.prog 183).zero = some (.agg #[.pointer none]) := by kernel_rfl
theorem ty183 : zeroT Tryz.prog 183 = some (.agg #[.pointer none]) := by kernel_rfl
attribute [go_sem] ti183 ts183 tb183 tc183 ta183 Tryz.underlying183 tg183 th183 tz183 ty183
theorem ti184 : Tryz.prog.info? 184 = some (inf Tryz.prog 184) := by kernel_rfl
theorem ts184 : (inf Tryz.prog 184).size = 1 := by kernel_rfl
theorem tb184 : (inf Tryz.prog 184).bytes = 24 := by kernel_rfl
theorem tc184 : Tryz.prog.cellsOf 184 = 1 := by kernel_rfl
theorem ta184 : aggT Tryz.prog 184 = some false := by kernel_rfl
theorem tz184 : (inf Tryz.prog 184).zero = some (.slice none 0 0) := by kernel_rfl
theorem ty184 : zeroT Tryz.prog 184 = some (.slice none 0 0) := by kernel_rfl
attribute [go_sem] ti184 ts184 tb184 tc184 ta184 Tryz.underlying184 tz184 ty184
theorem ti186 : Tryz.prog.info? 186 = some (inf Tryz.prog 186) := by kernel_rfl
theorem ts186 : (inf Tryz.prog 186).size = 1 := by kernel_rfl
theorem tb186 : (inf Tryz.prog 186).bytes = 24 := by kernel_rfl
theorem tc186 : Tryz.prog.cellsOf 186 = 1 := by kernel_rfl
theorem ta186 : aggT Tryz.prog 186 = some true := by kernel_rfl
theorem tg186 : Tryz.prog.eqGuardType Tryz.prog.depth 186 = false := by kernel_rfl
theorem th186 : Tryz.prog.stoodInHeld 186 = false := by kernel_rfl
theorem tz186 : (inf Tryz.prog 186).zero = some (.agg #[.slice none 0 0]) := by kernel_rfl
theorem ty186 : zeroT Tryz.prog 186 = some (.agg #[.slice none 0 0]) := by kernel_rfl
attribute [go_sem] ti186 ts186 tb186 tc186 ta186 Tryz.underlying186 tg186 th186 tz186 ty186
theorem ti187 : Tryz.prog.info? 187 = some (inf Tryz.prog 187) := by kernel_rfl
theorem ts187 : (inf Tryz.prog 187).size = 1 := by kernel_rfl
theorem tb187 : (inf Tryz.prog 187).bytes = 24 := by kernel_rfl
theorem tc187 : Tryz.prog.cellsOf 187 = 1 := by kernel_rfl
theorem ta187 : aggT Tryz.prog 187 = some false := by kernel_rfl
theorem tz187 : (inf Tryz.prog 187).zero = some (.slice none 0 0) := by kernel_rfl
theorem ty187 : zeroT Tryz.prog 187 = some (.slice none 0 0) := by kernel_rfl
attribute [go_sem] ti187 ts187 tb187 tc187 ta187 Tryz.underlying187 tz187 ty187
theorem ti196 : Tryz.prog.info? 196 = some (inf Tryz.prog 196) := by kernel_rfl
theorem ts196 : (inf Tryz.prog 196).size = 4 := by kernel_rfl
theorem tb196 : (inf Tryz.prog 196).bytes = 32 := by kernel_rfl
theorem tc196 : Tryz.prog.cellsOf 196 = 4 := by kernel_rfl
theorem ta196 : aggT Tryz.prog 196 = some true := by kernel_rfl
theorem tg196 : Tryz.prog.eqGuardType Tryz.prog.depth 196 = false := by kernel_rfl
theorem th196 : Tryz.prog.stoodInHeld 196 = false := by kernel_rfl
theorem tz196 : (inf Tryz.prog 196).zero = some (.agg #[.int .i64 0, .int .i64 0, .int .i64 0, .int .i64 0]) := by kernel_rfl
theorem ty196 : zeroT Tryz.prog 196 = some (.agg #[.int .i64 0, .int .i64 0, .int .i64 0, .int .i64 0]) := by kernel_rfl
attribute [go_sem] ti196 ts196 tb196 tc196 ta196 Tryz.underlying196 tg196 th196 tz196 ty196
theorem ti203 : Tryz.prog.info? 203 = some (inf Tryz.prog 203) := by kernel_rfl
theorem ts203 : (inf Tryz.prog 203).size = 1 := by kernel_rfl
theorem tb203 : (inf Tryz.prog 203).bytes = 16 := by kernel_rfl
theorem tc203 : Tryz.prog.cellsOf 203 = 1 := by kernel_rfl
theorem ta203 : aggT Tryz.prog 203 = some false := by kernel_rfl
theorem tz203 : (inf Tryz.prog 203).zero = some (.nilIface) := by kernel_rfl
theorem ty203 : zeroT Tryz.prog 203 = some (.nilIface) := by kernel_rfl
attribute [go_sem] ti203 ts203 tb203 tc203 ta203 Tryz.underlying203 tz203 ty203
theorem ti217 : Tryz.prog.info? 217 = some (inf Tryz.prog 217) := by kernel_rfl
theorem ts217 : (inf Tryz.prog 217).size = 1 := by kernel_rfl
theorem tb217 : (inf Tryz.prog 217).bytes = 8 := by kernel_rfl
theorem tc217 : Tryz.prog.cellsOf 217 = 1 := by kernel_rfl
theorem ta217 : aggT Tryz.prog 217 = some false := by kernel_rfl
theorem tz217 : (inf Tryz.prog 217).zero = some (.nilFunc) := by kernel_rfl
theorem ty217 : zeroT Tryz.prog 217 = some (.nilFunc) := by kernel_rfl
attribute [go_sem] ti217 ts217 tb217 tc217 ta217 Tryz.underlying217 tz217 ty217
theorem ti241 : Tryz.prog.info? 241 = some (inf Tryz.prog 241) := by kernel_rfl
theorem ts241 : (inf Tryz.prog 241).size = 1 := by kernel_rfl
theorem tb241 : (inf Tryz.prog 241).bytes = 24 := by kernel_rfl
theorem tc241 : Tryz.prog.cellsOf 241 = 1 := by kernel_rfl
theorem ta241 : aggT Tryz.prog 241 = some false := by kernel_rfl
theorem tz241 : (inf Tryz.prog 241).zero = some (.slice none 0 0) := by kernel_rfl
theorem ty241 : zeroT Tryz.prog 241 = some (.slice none 0 0) := by kernel_rfl
attribute [go_sem] ti241 ts241 tb241 tc241 ta241 Tryz.underlying241 tz241 ty241
theorem ti245 : Tryz.prog.info? 245 = some (inf Tryz.prog 245) := by kernel_rfl
theorem ts245 : (inf Tryz.prog 245).size = 1 := by kernel_rfl
theorem tb245 : (inf Tryz.prog 245).bytes = 8 := by kernel_rfl
theorem tc245 : Tryz.prog.cellsOf 245 = 1 := by kernel_rfl
theorem ta245 : aggT Tryz.prog 245 = some false := by kernel_rfl
theorem tz245 : (inf Tryz.prog 245).zero = some (.nilFunc) := by kernel_rfl
theorem ty245 : zeroT Tryz.prog 245 = some (.nilFunc) := by kernel_rfl
attribute [go_sem] ti245 ts245 tb245 tc245 ta245 Tryz.underlying245 tz245 ty245
theorem ti247 : Tryz.prog.info? 247 = some (inf Tryz.prog 247) := by kernel_rfl
theorem ts247 : (inf Tryz.prog 247).size = 1 := by kernel_rfl
theorem tb247 : (inf Tryz.prog 247).bytes = 8 := by kernel_rfl
theorem tc247 : Tryz.prog.cellsOf 247 = 1 := by kernel_rfl
theorem ta247 : aggT Tryz.prog 247 = some false := by kernel_rfl
theorem tz247 : (inf Tryz.prog 247).zero = some (.nilFunc) := by kernel_rfl
theorem ty247 : zeroT Tryz.prog 247 = some (.nilFunc) := by kernel_rfl
attribute [go_sem] ti247 ts247 tb247 tc247 ta247 Tryz.underlying247 tz247 ty247
theorem ti251 : Tryz.prog.info? 251 = some (inf Tryz.prog 251) := by kernel_rfl
theorem ts251 : (inf Tryz.prog 251).size = 8 := by kernel_rfl
theorem tb251 : (inf Tryz.prog 251).bytes = 64 := by kernel_rfl
theorem tc251 : Tryz.prog.cellsOf 251 = 8 := by kernel_rfl
theorem ta251 : aggT Tryz.prog 251 = some true := by kernel_rfl
theorem tg251 : Tryz.prog.eqGuardType Tryz.prog.depth 251 = false := by kernel_rfl
theorem th251 : Tryz.prog.stoodInHeld 251 = false := by kernel_rfl
theorem tz251 : (inf Tryz.prog 251).zero = some (.agg #[.int .i64 0, .int .i64 0, .int .i64 0, .int .i64 0, .pointer none, .pointer none, .int .i64 0, .int .i64 0]) := by kernel_rfl
theorem ty251 : zeroT Tryz.prog 251 = some (.agg #[.int .i64 0, .int .i64 0, .int .i64 0, .int .i64 0, .pointer none, .pointer none, .int .i64 0, .int .i64 0]) := by kernel_rfl
attribute [go_sem] ti251 ts251 tb251 tc251 ta251 Tryz.underlying251 tg251 th251 tz251 ty251
theorem ti289 : Tryz.prog.info? 289 = some (inf Tryz.prog 289) := by kernel_rfl
theorem ts289 : (inf Tryz.prog 289).size = 1 := by kernel_rfl
theorem tb289 : (inf Tryz.prog 289).bytes = 8 := by kernel_rfl
theorem tc289 : Tryz.prog.cellsOf 289 = 1 := by kernel_rfl
theorem ta289 : aggT Tryz.prog 289 = some false := by kernel_rfl
theorem tz289 : (inf Tryz.prog 289).zero = some (.pointer none) := by kernel_rfl
theorem ty289 : zeroT Tryz.prog 289 = some (.pointer none) := by kernel_rfl
attribute [go_sem] ti289 ts289 tb289 tc289 ta289 Tryz.underlying289 tz289 ty289
end Go.Proofs.YtedpfdflolkpeaaGreatDoor
