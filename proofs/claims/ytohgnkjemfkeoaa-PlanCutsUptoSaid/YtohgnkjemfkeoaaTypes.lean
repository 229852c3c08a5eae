/- the facts of the seat's types. Printed by a small program. -/
import Derived.Test.YtohgnkjemfkeoaaChecked
import Derived.Test.YtohgnkjemfkeoaaAmWalk
import Derived.KernelRfl
namespace Go.Proofs.Ytohgnkjemfkeoaa
open Go.AM
theorem ti3 : Try.prog.info? 3 = some (inf Try.prog 3) := by kernel_rfl
theorem ts3 : (inf Try.prog 3).size = 1 := by kernel_rfl
theorem tb3 : (inf Try.prog 3).bytes = 8 := by kernel_rfl
theorem tc3 : Try.prog.cellsOf 3 = 1 := by kernel_rfl
theorem ta3 : aggT Try.prog 3 = some false := by kernel_rfl
theorem tz3 : (inf Try.prog 3).zero = some (.int .i64 0) := by kernel_rfl
theorem ty3 : zeroT Try.prog 3 = some (.int .i64 0) := by kernel_rfl
attribute [go_sem] ti3 ts3 tb3 tc3 ta3 Try.underlying3 tz3 ty3
theorem ti4 : Try.prog.info? 4 = some (inf Try.prog 4) := by kernel_rfl
theorem ts4 : (inf Try.prog 4).size = 1 := by kernel_rfl
theorem tb4 : (inf Try.prog 4).bytes = 1 := by kernel_rfl
theorem tc4 : Try.prog.cellsOf 4 = 1 := by kernel_rfl
theorem ta4 : aggT Try.prog 4 = some false := by kernel_rfl
theorem tz4 : (inf Try.prog 4).zero = some (.bool false) := by kernel_rfl
theorem ty4 : zeroT Try.prog 4 = some (.bool false) := by kernel_rfl
attribute [go_sem] ti4 ts4 tb4 tc4 ta4 Try.underlying4 tz4 ty4
theorem ti5 : Try.prog.info? 5 = some (inf Try.prog 5) := by kernel_rfl
theorem ts5 : (inf Try.prog 5).size = 1 := by kernel_rfl
theorem tb5 : (inf Try.prog 5).bytes = 1 := by kernel_rfl
theorem tc5 : Try.prog.cellsOf 5 = 1 := by kernel_rfl
theorem ta5 : aggT Try.prog 5 = some false := by kernel_rfl
theorem tz5 : (inf Try.prog 5).zero = some (.int .u8 0) := by kernel_rfl
theorem ty5 : zeroT Try.prog 5 = some (.int .u8 0) := by kernel_rfl
attribute [go_sem] ti5 ts5 tb5 tc5 ta5 Try.underlying5 tz5 ty5
theorem ti9 : Try.prog.info? 9 = some (inf Try.prog 9) := by kernel_rfl
theorem ts9 : (inf Try.prog 9).size = 1 := by kernel_rfl
theorem tb9 : (inf Try.prog 9).bytes = 16 := by kernel_rfl
theorem tc9 : Try.prog.cellsOf 9 = 1 := by kernel_rfl
theorem ta9 : aggT Try.prog 9 = some false := by kernel_rfl
theorem tz9 : (inf Try.prog 9).zero = some (.string ByteArray.empty) := by kernel_rfl
theorem ty9 : zeroT Try.prog 9 = some (.string ByteArray.empty) := by kernel_rfl
attribute [go_sem] ti9 ts9 tb9 tc9 ta9 Try.underlying9 tz9 ty9
theorem ti22 : Try.prog.info? 22 = some (inf Try.prog 22) := by kernel_rfl
theorem ts22 : (inf Try.prog 22).size = 1 := by kernel_rfl
theorem tb22 : (inf Try.prog 22).bytes = 24 := by kernel_rfl
theorem tc22 : Try.prog.cellsOf 22 = 1 := by kernel_rfl
theorem ta22 : aggT Try.prog 22 = some false := by kernel_rfl
theorem tz22 : (inf Try.prog 22).zero = some (.slice none 0 0) := by kernel_rfl
theorem ty22 : zeroT Try.prog 22 = some (.slice none 0 0) := by kernel_rfl
attribute [go_sem] ti22 ts22 tb22 tc22 ta22 Try.underlying22 tz22 ty22
theorem ti24 : Try.prog.info? 24 = some (inf Try.prog 24) := by kernel_rfl
theorem ts24 : (inf Try.prog 24).size = 3 := by kernel_rfl
theorem tb24 : (inf Try.prog 24).bytes = 40 := by kernel_rfl
theorem tc24 : Try.prog.cellsOf 24 = 3 := by kernel_rfl
theorem ta24 : aggT Try.prog 24 = some true := by kernel_rfl
theorem tg24 : Try.prog.eqGuardType Try.prog.depth 24 = false := by kernel_rfl
theorem th24 : Try.prog.stoodInHeld 24 = false := by kernel_rfl
theorem tz24 : (inf Try.prog 24).zero = some (.agg #[.int .i64 0, .int .i64 0, .slice none 0 0]) := by kernel_rfl
theorem ty24 : zeroT Try.prog 24 = some (.agg #[.int .i64 0, .int .i64 0, .slice none 0 0]) := by kernel_rfl
attribute [go_sem] ti24 ts24 tb24 tc24 ta24 Try.underlying24 tg24 th24 tz24 ty24
theorem ti25 : Try.prog.info? 25 = some (inf Try.prog 25) := by kernel_rfl
theorem ts25 : (inf Try.prog 25).size = 1 := by kernel_rfl
theorem tb25 : (inf Try.prog 25).bytes = 24 := by kernel_rfl
theorem tc25 : Try.prog.cellsOf 25 = 1 := by kernel_rfl
theorem ta25 : aggT Try.prog 25 = some false := by kernel_rfl
theorem tz25 : (inf Try.prog 25).zero = some (.slice none 0 0) := by kernel_rfl
theorem ty25 : zeroT Try.prog 25 = some (.slice none 0 0) := by kernel_rfl
attribute [go_sem] ti25 ts25 tb25 tc25 ta25 Try.underlying25 tz25 ty25
theorem ti27 : Try.prog.info? 27 = some (inf Try.prog 27) := by kernel_rfl
theorem ts27 : (inf Try.prog 27).size = 4 := by kernel_rfl
theorem tb27 : (inf Try.prog 27).bytes = 48 := by kernel_rfl
theorem tc27 : Try.prog.cellsOf 27 = 4 := by kernel_rfl
theorem ta27 : aggT Try.prog 27 = some true := by kernel_rfl
theorem tg27 : Try.prog.eqGuardType Try.prog.depth 27 = false := by kernel_rfl
theorem th27 : Try.prog.stoodInHeld 27 = false := by kernel_rfl
theorem tz27 : (inf Try.prog 27).zero = some (.agg #[.int .i64 0, .int .i64 0, .int .i64 0, .slice none 0 0]) := by kernel_rfl
theorem ty27 : zeroT Try.prog 27 = some (.agg #[.int .i64 0, .int .i64 0, .int .i64 0, .slice none 0 0]) := by kernel_rfl
attribute [go_sem] ti27 ts27 tb27 tc27 ta27 Try.underlying27 tg27 th27 tz27 ty27
theorem ti28 : Try.prog.info? 28 = some (inf Try.prog 28) := by kernel_rfl
theorem ts28 : (inf Try.prog 28).size = 1 := by kernel_rfl
theorem tb28 : (inf Try.prog 28).bytes = 24 := by kernel_rfl
theorem tc28 : Try.prog.cellsOf 28 = 1 := by kernel_rfl
theorem ta28 : aggT Try.prog 28 = some false := by kernel_rfl
theorem tz28 : (inf Try.prog 28).zero = some (.slice none 0 0) := by kernel_rfl
theorem ty28 : zeroT Try.prog 28 = some (.slice none 0 0) := by kernel_rfl
attribute [go_sem] ti28 ts28 tb28 tc28 ta28 Try.underlying28 tz28 ty28
theorem ti29 : Try.prog.info? 29 = some (inf Try.prog 29) := by kernel_rfl
theorem ts29 : (inf Try.prog 29).size = 1 := by kernel_rfl
theorem tb29 : (inf Try.prog 29).bytes = 8 := by kernel_rfl
theorem tc29 : Try.prog.cellsOf 29 = 1 := by kernel_rfl
theorem ta29 : aggT Try.prog 29 = some false := by kernel_rfl
theorem tz29 : (inf Try.prog 29).zero = some (.int .i64 0) := by kernel_rfl
theorem ty29 : zeroT Try.prog 29 = some (.int .i64 0) := by kernel_rfl
attribute [go_sem] ti29 ts29 tb29 tc29 ta29 Try.underlying29 tz29 ty29
theorem ti32 : Try.prog.info? 32 = some (inf Try.prog 32) := by kernel_rfl
theorem ts32 : (inf Try.prog 32).size = 3 := by kernel_rfl
theorem tb32 : (inf Try.prog 32).bytes = 40 := by kernel_rfl
theorem tc32 : Try.prog.cellsOf 32 = 3 := by kernel_rfl
theorem ta32 : aggT Try.prog 32 = some true := by kernel_rfl
theorem tg32 : Try.prog.eqGuardType Try.prog.depth 32 = false := by kernel_rfl
theorem th32 : Try.prog.stoodInHeld 32 = false := by kernel_rfl
theorem tz32 : (inf Try.prog 32).zero = some (.agg #[.int .i64 0, .int .i64 0, .slice none 0 0]) := by kernel_rfl
theorem ty32 : zeroT Try.prog 32 = some (.agg #[.int .i64 0, .int .i64 0, .slice none 0 0]) := by kernel_rfl
attribute [go_sem] ti32 ts32 tb32 tc32 ta32 Try.underlying32 tg32 th32 tz32 ty32
theorem ti35 : Try.prog.info? 35 = some (inf Try.prog 35) := by kernel_rfl
theorem ts35 : (inf Try.prog 35).size = 1 := by kernel_rfl
theorem tb35 : (inf Try.prog 35).bytes = 8 := by kernel_rfl
theorem tc35 : Try.prog.cellsOf 35 = 1 := by kernel_rfl
theorem ta35 : aggT Try.prog 35 = some false := by kernel_rfl
theorem tz35 : (inf Try.prog 35).zero = some (.int .u64 0) := by kernel_rfl
theorem ty35 : zeroT Try.prog 35 = some (.int .u64 0) := by kernel_rfl
attribute [go_sem] ti35 ts35 tb35 tc35 ta35 Try.underlying35 tz35 ty35
theorem ti38 : Try.prog.info? 38 = some (inf Try.prog 38) := by kernel_rfl
theorem ts38 : (inf Try.prog 38).size = 1 := by kernel_rfl
theorem tb38 : (inf Try.prog 38).bytes = 24 := by kernel_rfl
theorem tc38 : Try.prog.cellsOf 38 = 1 := by kernel_rfl
theorem ta38 : aggT Try.prog 38 = some false := by kernel_rfl
theorem tz38 : (inf Try.prog 38).zero = some (.slice none 0 0) := by kernel_rfl
theorem ty38 : zeroT Try.prog 38 = some (.slice none 0 0) := by kernel_rfl
attribute [go_sem] ti38 ts38 tb38 tc38 ta38 Try.underlying38 tz38 ty38
theorem ti40 : Try.prog.info? 40 = some (inf Try.prog 40) := by kernel_rfl
theorem ts40 : (inf Try.prog 40).size = 6 := by kernel_rfl
theorem tb40 : (inf Try.prog 40).bytes = 64 := by kernel_rfl
theorem tc40 : Try.prog.cellsOf 40 = 6 := by kernel_rfl
theorem ta40 : aggT Try.prog 40 = some true := by kernel_rfl
theorem tg40 : Try.prog.eqGuardType Try.prog.depth 40 = false := by kernel_rfl
theorem th40 : Try.prog.stoodInHeld 40 = false := by kernel_rfl
theorem tz40 : (inf Try.prog 40).zero = some (.agg #[.int .i64 0, .int .i64 0, .int .i64 0, .int .i64 0, .int .i64 0, .slice none 0 0]) := by kernel_rfl
theorem ty40 : zeroT Try.prog 40 = some (.agg #[.int .i64 0, .int .i64 0, .int .i64 0, .int .i64 0, .int .i64 0, .slice none 0 0]) := by kernel_rfl
attribute [go_sem] ti40 ts40 tb40 tc40 ta40 Try.underlying40 tg40 th40 tz40 ty40
theorem ti49 : Try.prog.info? 49 = some (inf Try.prog 49) := by kernel_rfl
theorem ts49 : (inf Try.prog 49).size = 3 := by kernel_rfl
theorem tb49 : (inf Try.prog 49).bytes = 24 := by kernel_rfl
theorem tc49 : Try.prog.cellsOf 49 = 3 := by kernel_rfl
theorem ta49 : aggT Try.prog 49 = some true := by kernel_rfl
theorem tg49 : Try.prog.eqGuardType Try.prog.depth 49 = false := by kernel_rfl
theorem th49 : Try.prog.stoodInHeld 49 = false := by kernel_rfl
theorem tz49 : (inf Try.prog 49).zero = some (.agg #[.int .i64 0, .int .i64 0, .int .i64 0]) := by kernel_rfl
theorem ty49 : zeroT Try.prog 49 = some (.agg #[.int .i64 0, .int .i64 0, .int .i64 0]) := by kernel_rfl
attribute [go_sem] ti49 ts49 tb49 tc49 ta49 Try.underlying49 tg49 th49 tz49 ty49
theorem ti53 : Try.prog.info? 53 = some (inf Try.prog 53) := by kernel_rfl
theorem ts53 : (inf Try.prog 53).size = 2 := by kernel_rfl
theorem tb53 : (inf Try.prog 53).bytes = 16 := by kernel_rfl
theorem tc53 : Try.prog.cellsOf 53 = 2 := by kernel_rfl
theorem ta53 : aggT Try.prog 53 = some true := by kernel_rfl
theorem tz53 : (inf Try.prog 53).zero = some (.agg #[.int .i64 0, .int .i64 0]) := by kernel_rfl
theorem ty53 : zeroT Try.prog 53 = some (.agg #[.int .i64 0, .int .i64 0]) := by kernel_rfl
attribute [go_sem] ti53 ts53 tb53 tc53 ta53 Try.underlying53 tz53 ty53
theorem ti54 : Try.prog.info? 54 = some (inf Try.prog 54) := by kernel_rfl
theorem ts54 : (inf Try.prog 54).size = 1 := by kernel_rfl
theorem tb54 : (inf Try.prog 54).bytes = 24 := by kernel_rfl
theorem tc54 : Try.prog.cellsOf 54 = 1 := by kernel_rfl
theorem ta54 : aggT Try.prog 54 = some false := by kernel_rfl
theorem tz54 : (inf Try.prog 54).zero = some (.slice none 0 0) := by kernel_rfl
theorem ty54 : zeroT Try.prog 54 = some (.slice none 0 0) := by kernel_rfl
attribute [go_sem] ti54 ts54 tb54 tc54 ta54 Try.underlying54 tz54 ty54
theorem ti63 : Try.prog.info? 63 = some (inf Try.prog 63) := by kernel_rfl
theorem ts63 : (inf Try.prog 63).size = 1 := by kernel_rfl
theorem tb63 : (inf Try.prog 63).bytes = 24 := by kernel_rfl
theorem tc63 : Try.prog.cellsOf 63 = 1 := by kernel_rfl
theorem ta63 : aggT Try.prog 63 = some false := by kernel_rfl
theorem tz63 : (inf Try.prog 63).zero = some (.slice none 0 0) := by kernel_rfl
theorem ty63 : zeroT Try.prog 63 = some (.slice none 0 0) := by kernel_rfl
attribute [go_sem] ti63 ts63 tb63 tc63 ta63 Try.underlying63 tz63 ty63
theorem ti74 : Try.prog.info? 74 = some (inf Try.prog 74) := by kernel_rfl
theorem ts74 : (inf Try.prog 74).size = 1 := by kernel_rfl
theorem tb74 : (inf Try.prog 74).bytes = 24 := by kernel_rfl
theorem tc74 : Try.prog.cellsOf 74 = 1 := by kernel_rfl
theorem ta74 : aggT Try.prog 74 = some false := by kernel_rfl
theorem tz74 : (inf Try.prog 74).zero = some (.slice none 0 0) := by kernel_rfl
theorem ty74 : zeroT Try.prog 74 = some (.slice none 0 0) := by kernel_rfl
attribute [go_sem] ti74 ts74 tb74 tc74 ta74 Try.underlying74 tz74 ty74
theorem ti81 : Try.prog.info? 81 = some (inf Try.prog 81) := by kernel_rfl
theorem ts81 : (inf Try.prog 81).size = 1 := by kernel_rfl
theorem tb81 : (inf Try.prog 81).bytes = 8 := by kernel_rfl
theorem tc81 : Try.prog.cellsOf 81 = 1 := by kernel_rfl
theorem ta81 : aggT Try.prog 81 = some false := by kernel_rfl
theorem tz81 : (inf Try.prog 81).zero = some (.nilFunc) := by kernel_rfl
theorem ty81 : zeroT Try.prog 81 = some (.nilFunc) := by kernel_rfl
attribute [go_sem] ti81 ts81 tb81 tc81 ta81 Try.underlying81 tz81 ty81
theorem ti88 : Try.prog.info? 88 = some (inf Try.prog 88) := by kernel_rfl
theorem ts88 : (inf Try.prog 88).size = 6 := by kernel_rfl
theorem tb88 : (inf Try.prog 88).bytes = 64 := by kernel_rfl
theorem tc88 : Try.prog.cellsOf 88 = 6 := by kernel_rfl
theorem ta88 : aggT Try.prog 88 = some true := by kernel_rfl
theorem tg88 : Try.prog.eqGuardType Try.prog.depth 88 = false := by kernel_rfl
theorem th88 : Try.prog.stoodInHeld 88 = false := by kernel_rfl
theorem tz88 : (inf Try.prog 88).zero = some (.agg #[.int .i64 0, .int .i64 0, .int .i64 0, .int .i64 0, .int .i64 0, .slice none 0 0]) := by kernel_rfl
theorem ty88 : zeroT Try.prog 88 = some (.agg #[.int .i64 0, .int .i64 0, .int .i64 0, .int .i64 0, .int .i64 0, .slice none 0 0]) := by kernel_rfl
attribute [go_sem] ti88 ts88 tb88 tc88 ta88 Try.underlying88 tg88 th88 tz88 ty88
theorem ti90 : Try.prog.info? 90 = some (inf Try.prog 90) := by kernel_rfl
theorem ts90 : (inf Try.prog 90).size = 1 := by kernel_rfl
theorem tb90 : (inf Try.prog 90).bytes = 8 := by kernel_rfl
theorem tc90 : Try.prog.cellsOf 90 = 1 := by kernel_rfl
theorem ta90 : aggT Try.prog 90 = some false := by kernel_rfl
theorem tz90 : (inf Try.prog 90).zero = some (.nilFunc) := by kernel_rfl
theorem ty90 : zeroT Try.prog 90 = some (.nilFunc) := by kernel_rfl
attribute [go_sem] ti90 ts90 tb90 tc90 ta90 Try.underlying90 tz90 ty90
theorem ti92 : Try.prog.info? 92 = some (inf Try.prog 92) := by kernel_rfl
theorem ts92 : (inf Try.prog 92).size = 1 := by kernel_rfl
theorem tb92 : (inf Try.prog 92).bytes = 8 := by kernel_rfl
theorem tc92 : Try.prog.cellsOf 92 = 1 := by kernel_rfl
theorem ta92 : aggT Try.prog 92 = some false := by kernel_rfl
theorem tz92 : (inf Try.prog 92).zero = some (.nilFunc) := by kernel_rfl
theorem ty92 : zeroT Try.prog 92 = some (.nilFunc) := by kernel_rfl
attribute [go_sem] ti92 ts92 tb92 tc92 ta92 Try.underlying92 tz92 ty92
theorem ti102 : Try.prog.info? 102 = some (inf Try.prog 102) := by kernel_rfl
theorem ts102 : (inf Try.prog 102).size = 1 := by kernel_rfl
theorem tb102 : (inf Try.prog 102).bytes = 8 := by kernel_rfl
theorem tc102 : Try.prog.cellsOf 102 = 1 := by kernel_rfl
theorem ta102 : aggT Try.prog 102 = some false := by kernel_rfl
theorem tz102 : (inf Try.prog 102).zero = some (.nilFunc) := by kernel_rfl
theorem ty102 : zeroT Try.prog 102 = some (.nilFunc) := by kernel_rfl
attribute [go_sem] ti102 ts102 tb102 tc102 ta102 Try.underlying102 tz102 ty102
theorem ti106 : Try.prog.info? 106 = some (inf Try.prog 106) := by kernel_rfl
theorem ts106 : (inf Try.prog 106).size = 1 := by kernel_rfl
theorem tb106 : (inf Try.prog 106).bytes = 8 := by kernel_rfl
theorem tc106 : Try.prog.cellsOf 106 = 1 := by kernel_rfl
theorem ta106 : aggT Try.prog 106 = some false := by kernel_rfl
theorem tz106 : (inf Try.prog 106).zero = some (.int .u64 0) := by kernel_rfl
theorem ty106 : zeroT Try.prog 106 = some (.int .u64 0) := by kernel_rfl
attribute [go_sem] ti106 ts106 tb106 tc106 ta106 Try.underlying106 tz106 ty106
theorem ti108 : Try.prog.info? 108 = some (inf Try.prog 108) := by kernel_rfl
theorem ts108 : (inf Try.prog 108).size = 1 := by kernel_rfl
theorem tb108 : (inf Try.prog 108).bytes = 8 := by kernel_rfl
theorem tc108 : Try.prog.cellsOf 108 = 1 := by kernel_rfl
theorem ta108 : aggT Try.prog 108 = some false := by kernel_rfl
theorem tz108 : (inf Try.prog 108).zero = some (.nilFunc) := by kernel_rfl
theorem ty108 : zeroT Try.prog 108 = some (.nilFunc) := by kernel_rfl
attribute [go_sem] ti108 ts108 tb108 tc108 ta108 Try.underlying108 tz108 ty108
theorem ti110 : Try.prog.info? 110 = some (inf Try.prog 110) := by kernel_rfl
theorem ts110 : (inf Try.prog 110).size = 1 := by kernel_rfl
theorem tb110 : (inf Try.prog 110).bytes = 8 := by kernel_rfl
theorem tc110 : Try.prog.cellsOf 110 = 1 := by kernel_rfl
theorem ta110 : aggT Try.prog 110 = some false := by kernel_rfl
theorem tz110 : (inf Try.prog 110).zero = some (.int .i64 0) := by kernel_rfl
theorem ty110 : zeroT Try.prog 110 = some (.int .i64 0) := by kernel_rfl
attribute [go_sem] ti110 ts110 tb110 tc110 ta110 Try.underlying110 tz110 ty110
theorem ti119 : Try.prog.info? 119 = some (inf Try.prog 119) := by kernel_rfl
theorem ts119 : (inf Try.prog 119).size = 1 := by kernel_rfl
theorem tb119 : (inf Try.prog 119).bytes = 4 := by kernel_rfl
theorem tc119 : Try.prog.cellsOf 119 = 1 := by kernel_rfl
theorem ta119 : aggT Try.prog 119 = some false := by kernel_rfl
theorem tz119 : (inf Try.prog 119).zero = some (.int .u32 0) := by kernel_rfl
theorem ty119 : zeroT Try.prog 119 = some (.int .u32 0) := by kernel_rfl
attribute [go_sem] ti119 ts119 tb119 tc119 ta119 Try.underlying119 tz119 ty119
theorem ti121 : Try.prog.info? 121 = some (inf Try.prog 121) := by kernel_rfl
theorem ts121 : (inf Try.prog 121).size = 1 := by kernel_rfl
theorem tb121 : (inf Try.prog 121).bytes = 8 := by kernel_rfl
theorem tc121 : Try.prog.cellsOf 121 = 1 := by kernel_rfl
theorem ta121 : aggT Try.prog 121 = some false := by kernel_rfl
theorem tz121 : (inf Try.prog 121).zero = some (.int .u64 0) := by kernel_rfl
theorem ty121 : zeroT Try.prog 121 = some (.int .u64 0) := by kernel_rfl
attribute [go_sem] ti121 ts121 tb121 tc121 ta121 Try.underlying121 tz121 ty121
theorem ti125 : Try.prog.info? 125 = some (inf Try.prog 125) := by kernel_rfl
theorem ts125 : (inf Try.prog 125).size = 1 := by kernel_rfl
theorem tb125 : (inf Try.prog 125).bytes = 8 := by kernel_rfl
theorem tc125 : Try.prog.cellsOf 125 = 1 := by kernel_rfl
theorem ta125 : aggT Try.prog 125 = some false := by kernel_rfl
theorem tz125 : (inf Try.prog 125).zero = some (.pointer none) := by kernel_rfl
theorem ty125 : zeroT Try.prog 125 = some (.pointer none) := by kernel_rfl
attribute [go_sem] ti125 ts125 tb125 tc125 ta125 Try.underlying125 tz125 ty125
theorem ti127 : Try.prog.info? 127 = some (inf Try.prog 127) := by kernel_rfl
theorem ts127 : (inf Try.prog 127).size = 1 := by kernel_rfl
theorem tb127 : (inf Try.prog 127).bytes = 8 := by kernel_rfl
theorem tc127 : Try.prog.cellsOf 127 = 1 := by kernel_rfl
theorem ta127 : aggT Try.prog 127 = some false := by kernel_rfl
theorem tz127 : (inf Try.prog 127).zero = some (.pointer none) := by kernel_rfl
theorem ty127 : zeroT Try.prog 127 = some (.pointer none) := by kernel_rfl
attribute [go_sem] ti127 ts127 tb127 tc127 ta127 Try.underlying127 tz127 ty127
end Go.Proofs.Ytohgnkjemfkeoaa
