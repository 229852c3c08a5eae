/- the facts of the seat's types. Printed by a small program. -/
import Derived.Test.YtclfemiiibgfdaaChecked
import Derived.Test.YtclfemiiibgfdaaAmWalk
import Derived.KernelRfl
namespace Go.Proofs.Ytclfemiiibgfdaa
open Go.AM
theorem ti3 : Try.prog.info? 3 = some (inf Try.prog 3) := by kernel_rfl
theorem ts3 : (inf Try.prog 3).size = 1 := by kernel_rfl
theorem tb3 : (inf Try.prog 3).bytes = 8 := by kernel_rfl
theorem tc3 : Try.prog.cellsOf 3 = 1 := by kernel_rfl
theorem ta3 : aggT Try.prog 3 = some false := by kernel_rfl
theorem tz3 : (inf Try.prog 3).zero = some (.int .i64 0) := by kernel_rfl
theorem ty3 : zeroT Try.prog 3 = some (.int .i64 0) := by kernel_rfl
attribute [go_sem] ti3 ts3 tb3 tc3 ta3 Try.underlying3 tz3 ty3
theorem ti4 : Try.prog.info? 4 = some (inf Try.prog 4) := by kernel_rfl
theorem ts4 : (inf Try.prog 4).size = 1 := by kernel_rfl
theorem tb4 : (inf Try.prog 4).bytes = 1 := by kernel_rfl
theorem tc4 : Try.prog.cellsOf 4 = 1 := by kernel_rfl
theorem ta4 : aggT Try.prog 4 = some false := by kernel_rfl
theorem tz4 : (inf Try.prog 4).zero = some (.bool false) := by kernel_rfl
theorem ty4 : zeroT Try.prog 4 = some (.bool false) := by kernel_rfl
attribute [go_sem] ti4 ts4 tb4 tc4 ta4 Try.underlying4 tz4 ty4
theorem ti5 : Try.prog.info? 5 = some (inf Try.prog 5) := by kernel_rfl
theorem ts5 : (inf Try.prog 5).size = 1 := by kernel_rfl
theorem tb5 : (inf Try.prog 5).bytes = 1 := by kernel_rfl
theorem tc5 : Try.prog.cellsOf 5 = 1 := by kernel_rfl
theorem ta5 : aggT Try.prog 5 = some false := by kernel_rfl
theorem tz5 : (inf Try.prog 5).zero = some (.int .u8 0) := by kernel_rfl
theorem ty5 : zeroT Try.prog 5 = some (.int .u8 0) := by kernel_rfl
attribute [go_sem] ti5 ts5 tb5 tc5 ta5 Try.underlying5 tz5 ty5
theorem ti9 : Try.prog.info? 9 = some (inf Try.prog 9) := by kernel_rfl
theorem ts9 : (inf Try.prog 9).size = 1 := by kernel_rfl
theorem tb9 : (inf Try.prog 9).bytes = 16 := by kernel_rfl
theorem tc9 : Try.prog.cellsOf 9 = 1 := by kernel_rfl
theorem ta9 : aggT Try.prog 9 = some false := by kernel_rfl
theorem tz9 : (inf Try.prog 9).zero = some (.string ByteArray.empty) := by kernel_rfl
theorem ty9 : zeroT Try.prog 9 = some (.string ByteArray.empty) := by kernel_rfl
attribute [go_sem] ti9 ts9 tb9 tc9 ta9 Try.underlying9 tz9 ty9
theorem ti22 : Try.prog.info? 22 = some (inf Try.prog 22) := by kernel_rfl
theorem ts22 : (inf Try.prog 22).size = 1 := by kernel_rfl
theorem tb22 : (inf Try.prog 22).bytes = 24 := by kernel_rfl
theorem tc22 : Try.prog.cellsOf 22 = 1 := by kernel_rfl
theorem ta22 : aggT Try.prog 22 = some false := by kernel_rfl
theorem tz22 : (inf Try.prog 22).zero = some (.slice none 0 0) := by kernel_rfl
theorem ty22 : zeroT Try.prog 22 = some (.slice none 0 0) := by kernel_rfl
attribute [go_sem] ti22 ts22 tb22 tc22 ta22 Try.underlying22 tz22 ty22
theorem ti24 : Try.prog.info? 24 = some (inf Try.prog 24) := by kernel_rfl
theorem ts24 : (inf Try.prog 24).size = 7 := by kernel_rfl
theorem tb24 : (inf Try.prog 24).bytes = 72 := by kernel_rfl
theorem tc24 : Try.prog.cellsOf 24 = 7 := by kernel_rfl
theorem ta24 : aggT Try.prog 24 = some true := by kernel_rfl
theorem tg24 : Try.prog.eqGuardType Try.prog.depth 24 = false := by kernel_rfl
theorem th24 : Try.prog.stoodInHeld 24 = false := by kernel_rfl
theorem tz24 : (inf Try.prog 24).zero = some (.agg #[.int .i64 0, .int .i64 0, .int .i64 0, .int .i64 0, .int .i64 0, .int .i64 0, .slice none 0 0]) := by kernel_rfl
theorem ty24 : zeroT Try.prog 24 = some (.agg #[.int .i64 0, .int .i64 0, .int .i64 0, .int .i64 0, .int .i64 0, .int .i64 0, .slice none 0 0]) := by kernel_rfl
attribute [go_sem] ti24 ts24 tb24 tc24 ta24 Try.underlying24 tg24 th24 tz24 ty24
theorem ti25 : Try.prog.info? 25 = some (inf Try.prog 25) := by kernel_rfl
theorem ts25 : (inf Try.prog 25).size = 1 := by kernel_rfl
theorem tb25 : (inf Try.prog 25).bytes = 8 := by kernel_rfl
theorem tc25 : Try.prog.cellsOf 25 = 1 := by kernel_rfl
theorem ta25 : aggT Try.prog 25 = some false := by kernel_rfl
theorem tz25 : (inf Try.prog 25).zero = some (.int .i64 0) := by kernel_rfl
theorem ty25 : zeroT Try.prog 25 = some (.int .i64 0) := by kernel_rfl
attribute [go_sem] ti25 ts25 tb25 tc25 ta25 Try.underlying25 tz25 ty25
theorem ti35 : Try.prog.info? 35 = some (inf Try.prog 35) := by kernel_rfl
theorem ts35 : (inf Try.prog 35).size = 1 := by kernel_rfl
theorem tb35 : (inf Try.prog 35).bytes = 24 := by kernel_rfl
theorem tc35 : Try.prog.cellsOf 35 = 1 := by kernel_rfl
theorem ta35 : aggT Try.prog 35 = some false := by kernel_rfl
theorem tz35 : (inf Try.prog 35).zero = some (.slice none 0 0) := by kernel_rfl
theorem ty35 : zeroT Try.prog 35 = some (.slice none 0 0) := by kernel_rfl
attribute [go_sem] ti35 ts35 tb35 tc35 ta35 Try.underlying35 tz35 ty35
theorem ti36 : Try.prog.info? 36 = some (inf Try.prog 36) := by kernel_rfl
theorem ts36 : (inf Try.prog 36).size = 1 := by kernel_rfl
theorem tb36 : (inf Try.prog 36).bytes = 24 := by kernel_rfl
theorem tc36 : Try.prog.cellsOf 36 = 1 := by kernel_rfl
theorem ta36 : aggT Try.prog 36 = some false := by kernel_rfl
theorem tz36 : (inf Try.prog 36).zero = some (.slice none 0 0) := by kernel_rfl
theorem ty36 : zeroT Try.prog 36 = some (.slice none 0 0) := by kernel_rfl
attribute [go_sem] ti36 ts36 tb36 tc36 ta36 Try.underlying36 tz36 ty36
theorem ti37 : Try.prog.info? 37 = some (inf Try.prog 37) := by kernel_rfl
theorem ts37 : (inf Try.prog 37).size = 1 := by kernel_rfl
theorem tb37 : (inf Try.prog 37).bytes = 8 := by kernel_rfl
theorem tc37 : Try.prog.cellsOf 37 = 1 := by kernel_rfl
theorem ta37 : aggT Try.prog 37 = some false := by kernel_rfl
theorem tz37 : (inf Try.prog 37).zero = some (.pointer none) := by kernel_rfl
theorem ty37 : zeroT Try.prog 37 = some (.pointer none) := by kernel_rfl
attribute [go_sem] ti37 ts37 tb37 tc37 ta37 Try.underlying37 tz37 ty37
theorem ti40 : Try.prog.info? 40 = some (inf Try.prog 40) := by kernel_rfl
theorem ts40 : (inf Try.prog 40).size = 1 := by kernel_rfl
theorem tb40 : (inf Try.prog 40).bytes = 24 := by kernel_rfl
theorem tc40 : Try.prog.cellsOf 40 = 1 := by kernel_rfl
theorem ta40 : aggT Try.prog 40 = some false := by kernel_rfl
theorem tz40 : (inf Try.prog 40).zero = some (.slice none 0 0) := by kernel_rfl
theorem ty40 : zeroT Try.prog 40 = some (.slice none 0 0) := by kernel_rfl
attribute [go_sem] ti40 ts40 tb40 tc40 ta40 Try.underlying40 tz40 ty40
theorem ti42 : Try.prog.info? 42 = some (inf Try.prog 42) := by kernel_rfl
theorem ts42 : (inf Try.prog 42).size = 5 := by kernel_rfl
theorem tb42 : (inf Try.prog 42).bytes = 56 := by kernel_rfl
theorem tc42 : Try.prog.cellsOf 42 = 5 := by kernel_rfl
theorem ta42 : aggT Try.prog 42 = some true := by kernel_rfl
theorem tg42 : Try.prog.eqGuardType Try.prog.depth 42 = false := by kernel_rfl
theorem th42 : Try.prog.stoodInHeld 42 = false := by kernel_rfl
theorem tz42 : (inf Try.prog 42).zero = some (.agg #[.int .u8 0, .int .i64 0, .int .i64 0, .int .u8 0, .slice none 0 0]) := by kernel_rfl
theorem ty42 : zeroT Try.prog 42 = some (.agg #[.int .u8 0, .int .i64 0, .int .i64 0, .int .u8 0, .slice none 0 0]) := by kernel_rfl
attribute [go_sem] ti42 ts42 tb42 tc42 ta42 Try.underlying42 tg42 th42 tz42 ty42
theorem ti48 : Try.prog.info? 48 = some (inf Try.prog 48) := by kernel_rfl
theorem ts48 : (inf Try.prog 48).size = 1 := by kernel_rfl
theorem tb48 : (inf Try.prog 48).bytes = 24 := by kernel_rfl
theorem tc48 : Try.prog.cellsOf 48 = 1 := by kernel_rfl
theorem ta48 : aggT Try.prog 48 = some false := by kernel_rfl
theorem tz48 : (inf Try.prog 48).zero = some (.slice none 0 0) := by kernel_rfl
theorem ty48 : zeroT Try.prog 48 = some (.slice none 0 0) := by kernel_rfl
attribute [go_sem] ti48 ts48 tb48 tc48 ta48 Try.underlying48 tz48 ty48
theorem ti50 : Try.prog.info? 50 = some (inf Try.prog 50) := by kernel_rfl
theorem ts50 : (inf Try.prog 50).size = 1 := by kernel_rfl
theorem tb50 : (inf Try.prog 50).bytes = 24 := by kernel_rfl
theorem tc50 : Try.prog.cellsOf 50 = 1 := by kernel_rfl
theorem ta50 : aggT Try.prog 50 = some true := by kernel_rfl
theorem tg50 : Try.prog.eqGuardType Try.prog.depth 50 = false := by kernel_rfl
theorem th50 : Try.prog.stoodInHeld 50 = false := by kernel_rfl
theorem tz50 : (inf Try.prog 50).zero = some (.agg #[.slice none 0 0]) := by kernel_rfl
theorem ty50 : zeroT Try.prog 50 = some (.agg #[.slice none 0 0]) := by kernel_rfl
attribute [go_sem] ti50 ts50 tb50 tc50 ta50 Try.underlying50 tg50 th50 tz50 ty50
theorem ti58 : Try.prog.info? 58 = some (inf Try.prog 58) := by kernel_rfl
theorem ts58 : (inf Try.prog 58).size = 1 := by kernel_rfl
theorem tb58 : (inf Try.prog 58).bytes = 24 := by kernel_rfl
theorem tc58 : Try.prog.cellsOf 58 = 1 := by kernel_rfl
theorem ta58 : aggT Try.prog 58 = some false := by kernel_rfl
theorem tz58 : (inf Try.prog 58).zero = some (.slice none 0 0) := by kernel_rfl
theorem ty58 : zeroT Try.prog 58 = some (.slice none 0 0) := by kernel_rfl
attribute [go_sem] ti58 ts58 tb58 tc58 ta58 Try.underlying58 tz58 ty58
theorem ti60 : Try.prog.info? 60 = some (inf Try.prog 60) := by kernel_rfl
theorem ts60 : (inf Try.prog 60).size = 2 := by kernel_rfl
theorem tb60 : (inf Try.prog 60).bytes = 32 := by kernel_rfl
theorem tc60 : Try.prog.cellsOf 60 = 2 := by kernel_rfl
theorem ta60 : aggT Try.prog 60 = some true := by kernel_rfl
theorem tg60 : Try.prog.eqGuardType Try.prog.depth 60 = false := by kernel_rfl
theorem th60 : Try.prog.stoodInHeld 60 = false := by kernel_rfl
theorem tz60 : (inf Try.prog 60).zero = some (.agg #[.bool false, .slice none 0 0]) := by kernel_rfl
theorem ty60 : zeroT Try.prog 60 = some (.agg #[.bool false, .slice none 0 0]) := by kernel_rfl
attribute [go_sem] ti60 ts60 tb60 tc60 ta60 Try.underlying60 tg60 th60 tz60 ty60
theorem ti61 : Try.prog.info? 61 = some (inf Try.prog 61) := by kernel_rfl
theorem ts61 : (inf Try.prog 61).size = 1 := by kernel_rfl
theorem tb61 : (inf Try.prog 61).bytes = 24 := by kernel_rfl
theorem tc61 : Try.prog.cellsOf 61 = 1 := by kernel_rfl
theorem ta61 : aggT Try.prog 61 = some false := by kernel_rfl
theorem tz61 : (inf Try.prog 61).zero = some (.slice none 0 0) := by kernel_rfl
theorem ty61 : zeroT Try.prog 61 = some (.slice none 0 0) := by kernel_rfl
attribute [go_sem] ti61 ts61 tb61 tc61 ta61 Try.underlying61 tz61 ty61
theorem ti69 : Try.prog.info? 69 = some (inf Try.prog 69) := by kernel_rfl
theorem ts69 : (inf Try.prog 69).size = 1 := by kernel_rfl
theorem tb69 : (inf Try.prog 69).bytes = 24 := by kernel_rfl
theorem tc69 : Try.prog.cellsOf 69 = 1 := by kernel_rfl
theorem ta69 : aggT Try.prog 69 = some true := by kernel_rfl
theorem tg69 : Try.prog.eqGuardType Try.prog.depth 69 = false := by kernel_rfl
theorem th69 : Try.prog.stoodInHeld 69 = false := by kernel_rfl
theorem tz69 : (inf Try.prog 69).zero = some (.agg #[.slice none 0 0]) := by kernel_rfl
theorem ty69 : zeroT Try.prog 69 = some (.agg #[.slice none 0 0]) := by kernel_rfl
attribute [go_sem] ti69 ts69 tb69 tc69 ta69 Try.underlying69 tg69 th69 tz69 ty69
theorem ti70 : Try.prog.info? 70 = some (inf Try.prog 70) := by kernel_rfl
theorem ts70 : (inf Try.prog 70).size = 1 := by kernel_rfl
theorem tb70 : (inf Try.prog 70).bytes = 24 := by kernel_rfl
theorem tc70 : Try.prog.cellsOf 70 = 1 := by kernel_rfl
theorem ta70 : aggT Try.prog 70 = some false := by kernel_rfl
theorem tz70 : (inf Try.prog 70).zero = some (.slice none 0 0) := by kernel_rfl
theorem ty70 : zeroT Try.prog 70 = some (.slice none 0 0) := by kernel_rfl
attribute [go_sem] ti70 ts70 tb70 tc70 ta70 Try.underlying70 tz70 ty70
theorem ti72 : Try.prog.info? 72 = some (inf Try.prog 72) := by kernel_rfl
theorem ts72 : (inf Try.prog 72).size = 1 := by kernel_rfl
theorem tb72 : (inf Try.prog 72).bytes = 8 := by kernel_rfl
theorem tc72 : Try.prog.cellsOf 72 = 1 := by kernel_rfl
theorem ta72 : aggT Try.prog 72 = some false := by kernel_rfl
theorem tz72 : (inf Try.prog 72).zero = some (.pointer none) := by kernel_rfl
theorem ty72 : zeroT Try.prog 72 = some (.pointer none) := by kernel_rfl
attribute [go_sem] ti72 ts72 tb72 tc72 ta72 Try.underlying72 tz72 ty72
theorem ti73 : Try.prog.info? 73 = some (inf Try.prog 73) := by kernel_rfl
theorem ts73 : (inf Try.prog 73).size = 1 := by kernel_rfl
theorem tb73 : (inf Try.prog 73).bytes = 8 := by kernel_rfl
theorem tc73 : Try.prog.cellsOf 73 = 1 := by kernel_rfl
theorem ta73 : aggT Try.prog 73 = some false := by kernel_rfl
theorem tz73 : (inf Try.prog 73).zero = some (.pointer none) := by kernel_rfl
theorem ty73 : zeroT Try.prog 73 = some (.pointer none) := by kernel_rfl
attribute [go_sem] ti73 ts73 tb73 tc73 ta73 Try.underlying73 tz73 ty73
theorem ti75 : Try.prog.info? 75 = some (inf Try.prog 75) := by kernel_rfl
theorem ts75 : (inf Try.prog 75).size = 1 := by kernel_rfl
theorem tb75 : (inf Try.prog 75).bytes = 8 := by kernel_rfl
theorem tc75 : Try.prog.cellsOf 75 = 1 := by kernel_rfl
theorem ta75 : aggT Try.prog 75 = some false := by kernel_rfl
theorem tz75 : (inf Try.prog 75).zero = some (.int .u64 0) := by kernel_rfl
theorem ty75 : zeroT Try.prog 75 = some (.int .u64 0) := by kernel_rfl
attribute [go_sem] ti75 ts75 tb75 tc75 ta75 Try.underlying75 tz75 ty75
theorem ti80 : Try.prog.info? 80 = some (inf Try.prog 80) := by kernel_rfl
theorem ts80 : (inf Try.prog 80).size = 1 := by kernel_rfl
theorem tb80 : (inf Try.prog 80).bytes = 8 := by kernel_rfl
theorem tc80 : Try.prog.cellsOf 80 = 1 := by kernel_rfl
theorem ta80 : aggT Try.prog 80 = some false := by kernel_rfl
theorem tz80 : (inf Try.prog 80).zero = some (.pointer none) := by kernel_rfl
theorem ty80 : zeroT Try.prog 80 = some (.pointer none) := by kernel_rfl
attribute [go_sem] ti80 ts80 tb80 tc80 ta80 Try.underlying80 tz80 ty80
theorem ti83 : Try.prog.info? 83 = some (inf Try.prog 83) := by kernel_rfl
theorem ts83 : (inf Try.prog 83).size = 2 := by kernel_rfl
theorem tb83 : (inf Try.prog 83).bytes = 16 := by kernel_rfl
theorem tc83 : Try.prog.cellsOf 83 = 2 := by kernel_rfl
theorem ta83 : aggT Try.prog 83 = some true := by kernel_rfl
theorem tg83 : Try.prog.eqGuardType Try.prog.depth 83 = false := by kernel_rfl
theorem th83 : Try.prog.stoodInHeld 83 = false := by kernel_rfl
theorem tz83 : (inf Try.prog 83).zero = some (.agg #[.int .i64 0, .int .i64 0]) := by kernel_rfl
theorem ty83 : zeroT Try.prog 83 = some (.agg #[.int .i64 0, .int .i64 0]) := by kernel_rfl
attribute [go_sem] ti83 ts83 tb83 tc83 ta83 Try.underlying83 tg83 th83 tz83 ty83
theorem ti86 : Try.prog.info? 86 = some (inf Try.prog 86) := by kernel_rfl
theorem ts86 : (inf Try.prog 86).size = 2 := by kernel_rfl
theorem tb86 : (inf Try.prog 86).bytes = 32 := by kernel_rfl
theorem tc86 : Try.prog.cellsOf 86 = 2 := by kernel_rfl
theorem ta86 : aggT Try.prog 86 = some true := by kernel_rfl
theorem tg86 : Try.prog.eqGuardType Try.prog.depth 86 = false := by kernel_rfl
theorem th86 : Try.prog.stoodInHeld 86 = false := by kernel_rfl
theorem tz86 : (inf Try.prog 86).zero = some (.agg #[.slice none 0 0, .bool false]) := by kernel_rfl
theorem ty86 : zeroT Try.prog 86 = some (.agg #[.slice none 0 0, .bool false]) := by kernel_rfl
attribute [go_sem] ti86 ts86 tb86 tc86 ta86 Try.underlying86 tg86 th86 tz86 ty86
theorem ti89 : Try.prog.info? 89 = some (inf Try.prog 89) := by kernel_rfl
theorem ts89 : (inf Try.prog 89).size = 1 := by kernel_rfl
theorem tb89 : (inf Try.prog 89).bytes = 8 := by kernel_rfl
theorem tc89 : Try.prog.cellsOf 89 = 1 := by kernel_rfl
theorem ta89 : aggT Try.prog 89 = some false := by kernel_rfl
theorem tz89 : (inf Try.prog 89).zero = some (.pointer none) := by kernel_rfl
theorem ty89 : zeroT Try.prog 89 = some (.pointer none) := by kernel_rfl
attribute [go_sem] ti89 ts89 tb89 tc89 ta89 Try.underlying89 tz89 ty89
theorem ti91 : Try.prog.info? 91 = some (inf Try.prog 91) := by kernel_rfl
theorem ts91 : (inf Try.prog 91).size = 2 := by kernel_rfl
theorem tb91 : (inf Try.prog 91).bytes = 32 := by kernel_rfl
theorem tc91 : Try.prog.cellsOf 91 = 2 := by kernel_rfl
theorem ta91 : aggT Try.prog 91 = some true := by kernel_rfl
theorem tg91 : Try.prog.eqGuardType Try.prog.depth 91 = false := by kernel_rfl
theorem th91 : Try.prog.stoodInHeld 91 = false := by kernel_rfl
theorem tz91 : (inf Try.prog 91).zero = some (.agg #[.slice none 0 0, .bool false]) := by kernel_rfl
theorem ty91 : zeroT Try.prog 91 = some (.agg #[.slice none 0 0, .bool false]) := by kernel_rfl
attribute [go_sem] ti91 ts91 tb91 tc91 ta91 Try.underlying91 tg91 th91 tz91 ty91
theorem ti94 : Try.prog.info? 94 = some (inf Try.prog 94) := by kernel_rfl
theorem ts94 : (inf Try.prog 94).size = 1 := by kernel_rfl
theorem tb94 : (inf Try.prog 94).bytes = 24 := by kernel_rfl
theorem tc94 : Try.prog.cellsOf 94 = 1 := by kernel_rfl
theorem ta94 : aggT Try.prog 94 = some false := by kernel_rfl
theorem tz94 : (inf Try.prog 94).zero = some (.slice none 0 0) := by kernel_rfl
theorem ty94 : zeroT Try.prog 94 = some (.slice none 0 0) := by kernel_rfl
attribute [go_sem] ti94 ts94 tb94 tc94 ta94 Try.underlying94 tz94 ty94
theorem ti98 : Try.prog.info? 98 = some (inf Try.prog 98) := by kernel_rfl
theorem ts98 : (inf Try.prog 98).size = 4 := by kernel_rfl
theorem tb98 : (inf Try.prog 98).bytes = 48 := by kernel_rfl
theorem tc98 : Try.prog.cellsOf 98 = 4 := by kernel_rfl
theorem ta98 : aggT Try.prog 98 = some true := by kernel_rfl
theorem tg98 : Try.prog.eqGuardType Try.prog.depth 98 = false := by kernel_rfl
theorem th98 : Try.prog.stoodInHeld 98 = false := by kernel_rfl
theorem tz98 : (inf Try.prog 98).zero = some (.agg #[.slice none 0 0, .int .i64 0, .int .i64 0, .int .i64 0]) := by kernel_rfl
theorem ty98 : zeroT Try.prog 98 = some (.agg #[.slice none 0 0, .int .i64 0, .int .i64 0, .int .i64 0]) := by kernel_rfl
attribute [go_sem] ti98 ts98 tb98 tc98 ta98 Try.underlying98 tg98 th98 tz98 ty98
theorem ti99 : Try.prog.info? 99 = some (inf Try.prog 99) := by kernel_rfl
theorem ts99 : (inf Try.prog 99).size = 1 := by kernel_rfl
theorem tb99 : (inf Try.prog 99).bytes = 8 := by kernel_rfl
theorem tc99 : Try.prog.cellsOf 99 = 1 := by kernel_rfl
theorem ta99 : aggT Try.prog 99 = some false := by kernel_rfl
theorem tz99 : (inf Try.prog 99).zero = some (.pointer none) := by kernel_rfl
theorem ty99 : zeroT Try.prog 99 = some (.pointer none) := by kernel_rfl
attribute [go_sem] ti99 ts99 tb99 tc99 ta99 Try.underlying99 tz99 ty99
theorem ti102 : Try.prog.info? 102 = some (inf Try.prog 102) := by kernel_rfl
theorem ts102 : (inf Try.prog 102).size = 1 := by kernel_rfl
theorem tb102 : (inf Try.prog 102).bytes = 4 := by kernel_rfl
theorem tc102 : Try.prog.cellsOf 102 = 1 := by kernel_rfl
theorem ta102 : aggT Try.prog 102 = some false := by kernel_rfl
theorem tz102 : (inf Try.prog 102).zero = some (.int .u32 0) := by kernel_rfl
theorem ty102 : zeroT Try.prog 102 = some (.int .u32 0) := by kernel_rfl
attribute [go_sem] ti102 ts102 tb102 tc102 ta102 Try.underlying102 tz102 ty102
theorem ti105 : Try.prog.info? 105 = some (inf Try.prog 105) := by kernel_rfl
theorem ts105 : (inf Try.prog 105).size = 4 := by kernel_rfl
theorem tb105 : (inf Try.prog 105).bytes = 48 := by kernel_rfl
theorem tc105 : Try.prog.cellsOf 105 = 4 := by kernel_rfl
theorem ta105 : aggT Try.prog 105 = some true := by kernel_rfl
theorem tg105 : Try.prog.eqGuardType Try.prog.depth 105 = false := by kernel_rfl
theorem th105 : Try.prog.stoodInHeld 105 = false := by kernel_rfl
theorem tz105 : (inf Try.prog 105).zero = some (.agg #[.slice none 0 0, .int .i64 0, .int .i64 0, .int .i64 0]) := by kernel_rfl
theorem ty105 : zeroT Try.prog 105 = some (.agg #[.slice none 0 0, .int .i64 0, .int .i64 0, .int .i64 0]) := by kernel_rfl
attribute [go_sem] ti105 ts105 tb105 tc105 ta105 Try.underlying105 tg105 th105 tz105 ty105
theorem ti107 : Try.prog.info? 107 = some (inf Try.prog 107) := by kernel_rfl
theorem ts107 : (inf Try.prog 107).size = 4 := by kernel_rfl
theorem tb107 : (inf Try.prog 107).bytes = 48 := by kernel_rfl
theorem tc107 : Try.prog.cellsOf 107 = 4 := by kernel_rfl
theorem ta107 : aggT Try.prog 107 = some true := by kernel_rfl
theorem tg107 : Try.prog.eqGuardType Try.prog.depth 107 = false := by kernel_rfl
theorem th107 : Try.prog.stoodInHeld 107 = false := by kernel_rfl
theorem tz107 : (inf Try.prog 107).zero = some (.agg #[.slice none 0 0, .int .i64 0, .int .i64 0, .int .i64 0]) := by kernel_rfl
theorem ty107 : zeroT Try.prog 107 = some (.agg #[.slice none 0 0, .int .i64 0, .int .i64 0, .int .i64 0]) := by kernel_rfl
attribute [go_sem] ti107 ts107 tb107 tc107 ta107 Try.underlying107 tg107 th107 tz107 ty107
theorem ti112 : Try.prog.info? 112 = some (inf Try.prog 112) := by kernel_rfl
theorem ts112 : (inf Try.prog 112).size = 1 := by kernel_rfl
theorem tb112 : (inf Try.prog 112).bytes = 24 := by kernel_rfl
theorem tc112 : Try.prog.cellsOf 112 = 1 := by kernel_rfl
theorem ta112 : aggT Try.prog 112 = some false := by kernel_rfl
theorem tz112 : (inf Try.prog 112).zero = some (.slice none 0 0) := by kernel_rfl
theorem ty112 : zeroT Try.prog 112 = some (.slice none 0 0) := by kernel_rfl
attribute [go_sem] ti112 ts112 tb112 tc112 ta112 Try.underlying112 tz112 ty112
theorem ti115 : Try.prog.info? 115 = some (inf Try.prog 115) := by kernel_rfl
theorem ts115 : (inf Try.prog 115).size = 1 := by kernel_rfl
theorem tb115 : (inf Try.prog 115).bytes = 8 := by kernel_rfl
theorem tc115 : Try.prog.cellsOf 115 = 1 := by kernel_rfl
theorem ta115 : aggT Try.prog 115 = some false := by kernel_rfl
theorem tz115 : (inf Try.prog 115).zero = some (.pointer none) := by kernel_rfl
theorem ty115 : zeroT Try.prog 115 = some (.pointer none) := by kernel_rfl
attribute [go_sem] ti115 ts115 tb115 tc115 ta115 Try.underlying115 tz115 ty115
theorem ti119 : Try.prog.info? 119 = some (inf Try.prog 119) := by kernel_rfl
theorem ts119 : (inf Try.prog 119).size = 1 := by kernel_rfl
theorem tb119 : (inf Try.prog 119).bytes = 8 := by kernel_rfl
theorem tc119 : Try.prog.cellsOf 119 = 1 := by kernel_rfl
theorem ta119 : aggT Try.prog 119 = some false := by kernel_rfl
theorem tz119 : (inf Try.prog 119).zero = some (.pointer none) := by kernel_rfl
theorem ty119 : zeroT Try.prog 119 = some (.pointer none) := by kernel_rfl
attribute [go_sem] ti119 ts119 tb119 tc119 ta119 Try.underlying119 tz119 ty119
end Go.Proofs.Ytclfemiiibgfdaa
