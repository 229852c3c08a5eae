/- the facts of the seat's types. Printed by a small program. -/
import Derived.Test.YtolnacokdjognaaChecked
import Derived.Test.YtolnacokdjognaaAmWalk
import Derived.KernelRfl
namespace Go.Proofs.Ytolnacokdjognaa
open Go.AM
theorem ti3 : Try.prog.info? 3 = some (inf Try.prog 3) := by kernel_rfl
theorem ts3 : (inf Try.prog 3).size = 1 := by kernel_rfl
theorem tb3 : (inf Try.prog 3).bytes = 8 := by kernel_rfl
theorem tc3 : Try.prog.cellsOf 3 = 1 := by kernel_rfl
theorem ta3 : aggT Try.prog 3 = some false := by kernel_rfl
theorem tz3 : (inf Try.prog 3).zero = some (.int .i64 0) := by kernel_rfl
theorem ty3 : zeroT Try.prog 3 = some (.int .i64 0) := by kernel_rfl
attribute [go_sem] ti3 ts3 tb3 tc3 ta3 Try.underlying3 tz3 ty3
theorem ti4 : Try.prog.info? 4 = some (inf Try.prog 4) := by kernel_rfl
theorem ts4 : (inf Try.prog 4).size = 1 := by kernel_rfl
theorem tb4 : (inf Try.prog 4).bytes = 1 := by kernel_rfl
theorem tc4 : Try.prog.cellsOf 4 = 1 := by kernel_rfl
theorem ta4 : aggT Try.prog 4 = some false := by kernel_rfl
theorem tz4 : (inf Try.prog 4).zero = some (.bool false) := by kernel_rfl
theorem ty4 : zeroT Try.prog 4 = some (.bool false) := by kernel_rfl
attribute [go_sem] ti4 ts4 tb4 tc4 ta4 Try.underlying4 tz4 ty4
theorem ti5 : Try.prog.info? 5 = some (inf Try.prog 5) := by kernel_rfl
theorem ts5 : (inf Try.prog 5).size = 1 := by kernel_rfl
theorem tb5 : (inf Try.prog 5).bytes = 1 := by kernel_rfl
theorem tc5 : Try.prog.cellsOf 5 = 1 := by kernel_rfl
theorem ta5 : aggT Try.prog 5 = some false := by kernel_rfl
theorem tz5 : (inf Try.prog 5).zero = some (.int .u8 0) := by kernel_rfl
theorem ty5 : zeroT Try.prog 5 = some (.int .u8 0) := by kernel_rfl
attribute [go_sem] ti5 ts5 tb5 tc5 ta5 Try.underlying5 tz5 ty5
theorem ti9 : Try.prog.info? 9 = some (inf Try.prog 9) := by kernel_rfl
theorem ts9 : (inf Try.prog 9).size = 1 := by kernel_rfl
theorem tb9 : (inf Try.prog 9).bytes = 16 := by kernel_rfl
theorem tc9 : Try.prog.cellsOf 9 = 1 := by kernel_rfl
theorem ta9 : aggT Try.prog 9 = some false := by kernel_rfl
theorem tz9 : (inf Try.prog 9).zero = some (.string ByteArray.empty) := by kernel_rfl
theorem ty9 : zeroT Try.prog 9 = some (.string ByteArray.empty) := by kernel_rfl
attribute [go_sem] ti9 ts9 tb9 tc9 ta9 Try.underlying9 tz9 ty9
theorem ti22 : Try.prog.info? 22 = some (inf Try.prog 22) := by kernel_rfl
theorem ts22 : (inf Try.prog 22).size = 1 := by kernel_rfl
theorem tb22 : (inf Try.prog 22).bytes = 24 := by kernel_rfl
theorem tc22 : Try.prog.cellsOf 22 = 1 := by kernel_rfl
theorem ta22 : aggT Try.prog 22 = some false := by kernel_rfl
theorem tz22 : (inf Try.prog 22).zero = some (.slice none 0 0) := by kernel_rfl
theorem ty22 : zeroT Try.prog 22 = some (.slice none 0 0) := by kernel_rfl
attribute [go_sem] ti22 ts22 tb22 tc22 ta22 Try.underlying22 tz22 ty22
theorem ti24 : Try.prog.info? 24 = some (inf Try.prog 24) := by kernel_rfl
theorem ts24 : (inf Try.prog 24).size = 8 := by kernel_rfl
theorem tb24 : (inf Try.prog 24).bytes = 80 := by kernel_rfl
theorem tc24 : Try.prog.cellsOf 24 = 8 := by kernel_rfl
theorem ta24 : aggT Try.prog 24 = some true := by kernel_rfl
theorem tg24 : Try.prog.eqGuardType Try.prog.depth 24 = false := by kernel_rfl
theorem th24 : Try.prog.stoodInHeld 24 = false := by kernel_rfl
theorem tz24 : (inf Try.prog 24).zero = some (.agg #[.int .i64 0, .int .i64 0, .int .i64 0, .int .i64 0, .int .i64 0, .int .i64 0, .int .i64 0, .slice none 0 0]) := by kernel_rfl
theorem ty24 : zeroT Try.prog 24 = some (.agg #[.int .i64 0, .int .i64 0, .int .i64 0, .int .i64 0, .int .i64 0, .int .i64 0, .int .i64 0, .slice none 0 0]) := by kernel_rfl
attribute [go_sem] ti24 ts24 tb24 tc24 ta24 Try.underlying24 tg24 th24 tz24 ty24
theorem ti25 : Try.prog.info? 25 = some (inf Try.prog 25) := by kernel_rfl
theorem ts25 : (inf Try.prog 25).size = 1 := by kernel_rfl
theorem tb25 : (inf Try.prog 25).bytes = 24 := by kernel_rfl
theorem tc25 : Try.prog.cellsOf 25 = 1 := by kernel_rfl
theorem ta25 : aggT Try.prog 25 = some false := by kernel_rfl
theorem tz25 : (inf Try.prog 25).zero = some (.slice none 0 0) := by kernel_rfl
theorem ty25 : zeroT Try.prog 25 = some (.slice none 0 0) := by kernel_rfl
attribute [go_sem] ti25 ts25 tb25 tc25 ta25 Try.underlying25 tz25 ty25
theorem ti26 : Try.prog.info? 26 = some (inf Try.prog 26) := by kernel_rfl
theorem ts26 : (inf Try.prog 26).size = 1 := by kernel_rfl
theorem tb26 : (inf Try.prog 26).bytes = 8 := by kernel_rfl
theorem tc26 : Try.prog.cellsOf 26 = 1 := by kernel_rfl
theorem ta26 : aggT Try.prog 26 = some false := by kernel_rfl
theorem tz26 : (inf Try.prog 26).zero = some (.pointer none) := by kernel_rfl
theorem ty26 : zeroT Try.prog 26 = some (.pointer none) := by kernel_rfl
attribute [go_sem] ti26 ts26 tb26 tc26 ta26 Try.underlying26 tz26 ty26
theorem ti27 : Try.prog.info? 27 = some (inf Try.prog 27) := by kernel_rfl
theorem ts27 : (inf Try.prog 27).size = 1 := by kernel_rfl
theorem tb27 : (inf Try.prog 27).bytes = 8 := by kernel_rfl
theorem tc27 : Try.prog.cellsOf 27 = 1 := by kernel_rfl
theorem ta27 : aggT Try.prog 27 = some false := by kernel_rfl
theorem tz27 : (inf Try.prog 27).zero = some (.int .i64 0) := by kernel_rfl
theorem ty27 : zeroT Try.prog 27 = some (.int .i64 0) := by kernel_rfl
attribute [go_sem] ti27 ts27 tb27 tc27 ta27 Try.underlying27 tz27 ty27
theorem ti31 : Try.prog.info? 31 = some (inf Try.prog 31) := by kernel_rfl
theorem ts31 : (inf Try.prog 31).size = 1 := by kernel_rfl
theorem tb31 : (inf Try.prog 31).bytes = 24 := by kernel_rfl
theorem tc31 : Try.prog.cellsOf 31 = 1 := by kernel_rfl
theorem ta31 : aggT Try.prog 31 = some false := by kernel_rfl
theorem tz31 : (inf Try.prog 31).zero = some (.slice none 0 0) := by kernel_rfl
theorem ty31 : zeroT Try.prog 31 = some (.slice none 0 0) := by kernel_rfl
attribute [go_sem] ti31 ts31 tb31 tc31 ta31 Try.underlying31 tz31 ty31
theorem ti35 : Try.prog.info? 35 = some (inf Try.prog 35) := by kernel_rfl
theorem ts35 : (inf Try.prog 35).size = 1 := by kernel_rfl
theorem tb35 : (inf Try.prog 35).bytes = 24 := by kernel_rfl
theorem tc35 : Try.prog.cellsOf 35 = 1 := by kernel_rfl
theorem ta35 : aggT Try.prog 35 = some false := by kernel_rfl
theorem tz35 : (inf Try.prog 35).zero = some (.slice none 0 0) := by kernel_rfl
theorem ty35 : zeroT Try.prog 35 = some (.slice none 0 0) := by kernel_rfl
attribute [go_sem] ti35 ts35 tb35 tc35 ta35 Try.underlying35 tz35 ty35
theorem ti42 : Try.prog.info? 42 = some (inf Try.prog 42) := by kernel_rfl
theorem ts42 : (inf Try.prog 42).size = 3 := by kernel_rfl
theorem tb42 : (inf Try.prog 42).bytes = 24 := by kernel_rfl
theorem tc42 : Try.prog.cellsOf 42 = 3 := by kernel_rfl
theorem ta42 : aggT Try.prog 42 = some true := by kernel_rfl
theorem tz42 : (inf Try.prog 42).zero = some (.agg #[.int .i64 0, .int .i64 0, .int .i64 0]) := by kernel_rfl
theorem ty42 : zeroT Try.prog 42 = some (.agg #[.int .i64 0, .int .i64 0, .int .i64 0]) := by kernel_rfl
attribute [go_sem] ti42 ts42 tb42 tc42 ta42 Try.underlying42 tz42 ty42
theorem ti44 : Try.prog.info? 44 = some (inf Try.prog 44) := by kernel_rfl
theorem ts44 : (inf Try.prog 44).size = 1 := by kernel_rfl
theorem tb44 : (inf Try.prog 44).bytes = 24 := by kernel_rfl
theorem tc44 : Try.prog.cellsOf 44 = 1 := by kernel_rfl
theorem ta44 : aggT Try.prog 44 = some false := by kernel_rfl
theorem tz44 : (inf Try.prog 44).zero = some (.slice none 0 0) := by kernel_rfl
theorem ty44 : zeroT Try.prog 44 = some (.slice none 0 0) := by kernel_rfl
attribute [go_sem] ti44 ts44 tb44 tc44 ta44 Try.underlying44 tz44 ty44
theorem ti46 : Try.prog.info? 46 = some (inf Try.prog 46) := by kernel_rfl
theorem ts46 : (inf Try.prog 46).size = 1 := by kernel_rfl
theorem tb46 : (inf Try.prog 46).bytes = 24 := by kernel_rfl
theorem tc46 : Try.prog.cellsOf 46 = 1 := by kernel_rfl
theorem ta46 : aggT Try.prog 46 = some true := by kernel_rfl
theorem tg46 : Try.prog.eqGuardType Try.prog.depth 46 = false := by kernel_rfl
theorem th46 : Try.prog.stoodInHeld 46 = false := by kernel_rfl
theorem tz46 : (inf Try.prog 46).zero = some (.agg #[.slice none 0 0]) := by kernel_rfl
theorem ty46 : zeroT Try.prog 46 = some (.agg #[.slice none 0 0]) := by kernel_rfl
attribute [go_sem] ti46 ts46 tb46 tc46 ta46 Try.underlying46 tg46 th46 tz46 ty46
theorem ti47 : Try.prog.info? 47 = some (inf Try.prog 47) := by kernel_rfl
theorem ts47 : (inf Try.prog 47).size = 1 := by kernel_rfl
theorem tb47 : (inf Try.prog 47).bytes = 24 := by kernel_rfl
theorem tc47 : Try.prog.cellsOf 47 = 1 := by kernel_rfl
theorem ta47 : aggT Try.prog 47 = some false := by kernel_rfl
theorem tz47 : (inf Try.prog 47).zero = some (.slice none 0 0) := by kernel_rfl
theorem ty47 : zeroT Try.prog 47 = some (.slice none 0 0) := by kernel_rfl
attribute [go_sem] ti47 ts47 tb47 tc47 ta47 Try.underlying47 tz47 ty47
theorem ti48 : Try.prog.info? 48 = some (inf Try.prog 48) := by kernel_rfl
theorem ts48 : (inf Try.prog 48).size = 1 := by kernel_rfl
theorem tb48 : (inf Try.prog 48).bytes = 8 := by kernel_rfl
theorem tc48 : Try.prog.cellsOf 48 = 1 := by kernel_rfl
theorem ta48 : aggT Try.prog 48 = some false := by kernel_rfl
theorem tz48 : (inf Try.prog 48).zero = some (.int .u64 0) := by kernel_rfl
theorem ty48 : zeroT Try.prog 48 = some (.int .u64 0) := by kernel_rfl
attribute [go_sem] ti48 ts48 tb48 tc48 ta48 Try.underlying48 tz48 ty48
theorem ti50 : Try.prog.info? 50 = some (inf Try.prog 50) := by kernel_rfl
theorem ts50 : (inf Try.prog 50).size = 4 := by kernel_rfl
theorem tb50 : (inf Try.prog 50).bytes = 48 := by kernel_rfl
theorem tc50 : Try.prog.cellsOf 50 = 4 := by kernel_rfl
theorem ta50 : aggT Try.prog 50 = some true := by kernel_rfl
theorem tg50 : Try.prog.eqGuardType Try.prog.depth 50 = false := by kernel_rfl
theorem th50 : Try.prog.stoodInHeld 50 = false := by kernel_rfl
theorem tz50 : (inf Try.prog 50).zero = some (.agg #[.int .i64 0, .int .i64 0, .int .i64 0, .slice none 0 0]) := by kernel_rfl
theorem ty50 : zeroT Try.prog 50 = some (.agg #[.int .i64 0, .int .i64 0, .int .i64 0, .slice none 0 0]) := by kernel_rfl
attribute [go_sem] ti50 ts50 tb50 tc50 ta50 Try.underlying50 tg50 th50 tz50 ty50
theorem ti52 : Try.prog.info? 52 = some (inf Try.prog 52) := by kernel_rfl
theorem ts52 : (inf Try.prog 52).size = 1 := by kernel_rfl
theorem tb52 : (inf Try.prog 52).bytes = 8 := by kernel_rfl
theorem tc52 : Try.prog.cellsOf 52 = 1 := by kernel_rfl
theorem ta52 : aggT Try.prog 52 = some false := by kernel_rfl
theorem tz52 : (inf Try.prog 52).zero = some (.nilFunc) := by kernel_rfl
theorem ty52 : zeroT Try.prog 52 = some (.nilFunc) := by kernel_rfl
attribute [go_sem] ti52 ts52 tb52 tc52 ta52 Try.underlying52 tz52 ty52
theorem ti59 : Try.prog.info? 59 = some (inf Try.prog 59) := by kernel_rfl
theorem ts59 : (inf Try.prog 59).size = 1 := by kernel_rfl
theorem tb59 : (inf Try.prog 59).bytes = 8 := by kernel_rfl
theorem tc59 : Try.prog.cellsOf 59 = 1 := by kernel_rfl
theorem ta59 : aggT Try.prog 59 = some false := by kernel_rfl
theorem tz59 : (inf Try.prog 59).zero = some (.nilFunc) := by kernel_rfl
theorem ty59 : zeroT Try.prog 59 = some (.nilFunc) := by kernel_rfl
attribute [go_sem] ti59 ts59 tb59 tc59 ta59 Try.underlying59 tz59 ty59
theorem ti62 : Try.prog.info? 62 = some (inf Try.prog 62) := by kernel_rfl
theorem ts62 : (inf Try.prog 62).size = 1 := by kernel_rfl
theorem tb62 : (inf Try.prog 62).bytes = 24 := by kernel_rfl
theorem tc62 : Try.prog.cellsOf 62 = 1 := by kernel_rfl
theorem ta62 : aggT Try.prog 62 = some true := by kernel_rfl
theorem tg62 : Try.prog.eqGuardType Try.prog.depth 62 = false := by kernel_rfl
theorem th62 : Try.prog.stoodInHeld 62 = false := by kernel_rfl
theorem tz62 : (inf Try.prog 62).zero = some (.agg #[.slice none 0 0]) := by kernel_rfl
theorem ty62 : zeroT Try.prog 62 = some (.agg #[.slice none 0 0]) := by kernel_rfl
attribute [go_sem] ti62 ts62 tb62 tc62 ta62 Try.underlying62 tg62 th62 tz62 ty62
theorem ti66 : Try.prog.info? 66 = some (inf Try.prog 66) := by kernel_rfl
theorem ts66 : (inf Try.prog 66).size = 1 := by kernel_rfl
theorem tb66 : (inf Try.prog 66).bytes = 8 := by kernel_rfl
theorem tc66 : Try.prog.cellsOf 66 = 1 := by kernel_rfl
theorem ta66 : aggT Try.prog 66 = some false := by kernel_rfl
theorem tz66 : (inf Try.prog 66).zero = some (.pointer none) := by kernel_rfl
theorem ty66 : zeroT Try.prog 66 = some (.pointer none) := by kernel_rfl
attribute [go_sem] ti66 ts66 tb66 tc66 ta66 Try.underlying66 tz66 ty66
theorem ti70 : Try.prog.info? 70 = some (inf Try.prog 70) := by kernel_rfl
theorem ts70 : (inf Try.prog 70).size = 2 := by kernel_rfl
theorem tb70 : (inf Try.prog 70).bytes = 16 := by kernel_rfl
theorem tc70 : Try.prog.cellsOf 70 = 2 := by kernel_rfl
theorem ta70 : aggT Try.prog 70 = some true := by kernel_rfl
theorem tg70 : Try.prog.eqGuardType Try.prog.depth 70 = false := by kernel_rfl
theorem th70 : Try.prog.stoodInHeld 70 = false := by kernel_rfl
theorem tz70 : (inf Try.prog 70).zero = some (.agg #[.int .i64 0, .int .i64 0]) := by kernel_rfl
theorem ty70 : zeroT Try.prog 70 = some (.agg #[.int .i64 0, .int .i64 0]) := by kernel_rfl
attribute [go_sem] ti70 ts70 tb70 tc70 ta70 Try.underlying70 tg70 th70 tz70 ty70
theorem ti72 : Try.prog.info? 72 = some (inf Try.prog 72) := by kernel_rfl
theorem ts72 : (inf Try.prog 72).size = 1 := by kernel_rfl
theorem tb72 : (inf Try.prog 72).bytes = 8 := by kernel_rfl
theorem tc72 : Try.prog.cellsOf 72 = 1 := by kernel_rfl
theorem ta72 : aggT Try.prog 72 = some false := by kernel_rfl
theorem tz72 : (inf Try.prog 72).zero = some (.pointer none) := by kernel_rfl
theorem ty72 : zeroT Try.prog 72 = some (.pointer none) := by kernel_rfl
attribute [go_sem] ti72 ts72 tb72 tc72 ta72 Try.underlying72 tz72 ty72
theorem ti79 : Try.prog.info? 79 = some (inf Try.prog 79) := by kernel_rfl
theorem ts79 : (inf Try.prog 79).size = 1 := by kernel_rfl
theorem tb79 : (inf Try.prog 79).bytes = 24 := by kernel_rfl
theorem tc79 : Try.prog.cellsOf 79 = 1 := by kernel_rfl
theorem ta79 : aggT Try.prog 79 = some false := by kernel_rfl
theorem tz79 : (inf Try.prog 79).zero = some (.slice none 0 0) := by kernel_rfl
theorem ty79 : zeroT Try.prog 79 = some (.slice none 0 0) := by kernel_rfl
attribute [go_sem] ti79 ts79 tb79 tc79 ta79 Try.underlying79 tz79 ty79
theorem ti81 : Try.prog.info? 81 = some (inf Try.prog 81) := by kernel_rfl
theorem ts81 : (inf Try.prog 81).size = 1 := by kernel_rfl
theorem tb81 : (inf Try.prog 81).bytes = 8 := by kernel_rfl
theorem tc81 : Try.prog.cellsOf 81 = 1 := by kernel_rfl
theorem ta81 : aggT Try.prog 81 = some false := by kernel_rfl
theorem tz81 : (inf Try.prog 81).zero = some (.pointer none) := by kernel_rfl
theorem ty81 : zeroT Try.prog 81 = some (.pointer none) := by kernel_rfl
attribute [go_sem] ti81 ts81 tb81 tc81 ta81 Try.underlying81 tz81 ty81
theorem ti82 : Try.prog.info? 82 = some (inf Try.prog 82) := by kernel_rfl
theorem ts82 : (inf Try.prog 82).size = 1 := by kernel_rfl
theorem tb82 : (inf Try.prog 82).bytes = 8 := by kernel_rfl
theorem tc82 : Try.prog.cellsOf 82 = 1 := by kernel_rfl
theorem ta82 : aggT Try.prog 82 = some false := by kernel_rfl
theorem tz82 : (inf Try.prog 82).zero = some (.pointer none) := by kernel_rfl
theorem ty82 : zeroT Try.prog 82 = some (.pointer none) := by kernel_rfl
attribute [go_sem] ti82 ts82 tb82 tc82 ta82 Try.underlying82 tz82 ty82
theorem ti85 : Try.prog.info? 85 = some (inf Try.prog 85) := by kernel_rfl
theorem ts85 : (inf Try.prog 85).size = 1 := by kernel_rfl
theorem tb85 : (inf Try.prog 85).bytes = 24 := by kernel_rfl
theorem tc85 : Try.prog.cellsOf 85 = 1 := by kernel_rfl
theorem ta85 : aggT Try.prog 85 = some false := by kernel_rfl
theorem tz85 : (inf Try.prog 85).zero = some (.slice none 0 0) := by kernel_rfl
theorem ty85 : zeroT Try.prog 85 = some (.slice none 0 0) := by kernel_rfl
attribute [go_sem] ti85 ts85 tb85 tc85 ta85 Try.underlying85 tz85 ty85
theorem ti92 : Try.prog.info? 92 = some (inf Try.prog 92) := by kernel_rfl
theorem ts92 : (inf Try.prog 92).size = 1 := by kernel_rfl
theorem tb92 : (inf Try.prog 92).bytes = 8 := by kernel_rfl
theorem tc92 : Try.prog.cellsOf 92 = 1 := by kernel_rfl
theorem ta92 : aggT Try.prog 92 = some false := by kernel_rfl
theorem tz92 : (inf Try.prog 92).zero = some (.pointer none) := by kernel_rfl
theorem ty92 : zeroT Try.prog 92 = some (.pointer none) := by kernel_rfl
attribute [go_sem] ti92 ts92 tb92 tc92 ta92 Try.underlying92 tz92 ty92
theorem ti95 : Try.prog.info? 95 = some (inf Try.prog 95) := by kernel_rfl
theorem ts95 : (inf Try.prog 95).size = 4 := by kernel_rfl
theorem tb95 : (inf Try.prog 95).bytes = 48 := by kernel_rfl
theorem tc95 : Try.prog.cellsOf 95 = 4 := by kernel_rfl
theorem ta95 : aggT Try.prog 95 = some true := by kernel_rfl
theorem tg95 : Try.prog.eqGuardType Try.prog.depth 95 = false := by kernel_rfl
theorem th95 : Try.prog.stoodInHeld 95 = false := by kernel_rfl
theorem tz95 : (inf Try.prog 95).zero = some (.agg #[.slice none 0 0, .int .i64 0, .int .i64 0, .int .i64 0]) := by kernel_rfl
theorem ty95 : zeroT Try.prog 95 = some (.agg #[.slice none 0 0, .int .i64 0, .int .i64 0, .int .i64 0]) := by kernel_rfl
attribute [go_sem] ti95 ts95 tb95 tc95 ta95 Try.underlying95 tg95 th95 tz95 ty95
theorem ti97 : Try.prog.info? 97 = some (inf Try.prog 97) := by kernel_rfl
theorem ts97 : (inf Try.prog 97).size = 4 := by kernel_rfl
theorem tb97 : (inf Try.prog 97).bytes = 48 := by kernel_rfl
theorem tc97 : Try.prog.cellsOf 97 = 4 := by kernel_rfl
theorem ta97 : aggT Try.prog 97 = some true := by kernel_rfl
theorem tg97 : Try.prog.eqGuardType Try.prog.depth 97 = false := by kernel_rfl
theorem th97 : Try.prog.stoodInHeld 97 = false := by kernel_rfl
theorem tz97 : (inf Try.prog 97).zero = some (.agg #[.slice none 0 0, .int .i64 0, .int .i64 0, .int .i64 0]) := by kernel_rfl
theorem ty97 : zeroT Try.prog 97 = some (.agg #[.slice none 0 0, .int .i64 0, .int .i64 0, .int .i64 0]) := by kernel_rfl
attribute [go_sem] ti97 ts97 tb97 tc97 ta97 Try.underlying97 tg97 th97 tz97 ty97
theorem ti103 : Try.prog.info? 103 = some (inf Try.prog 103) := by kernel_rfl
theorem ts103 : (inf Try.prog 103).size = 5 := by kernel_rfl
theorem tb103 : (inf Try.prog 103).bytes = 56 := by kernel_rfl
theorem tc103 : Try.prog.cellsOf 103 = 5 := by kernel_rfl
theorem ta103 : aggT Try.prog 103 = some true := by kernel_rfl
theorem tg103 : Try.prog.eqGuardType Try.prog.depth 103 = false := by kernel_rfl
theorem th103 : Try.prog.stoodInHeld 103 = false := by kernel_rfl
theorem tz103 : (inf Try.prog 103).zero = some (.agg #[.bool false, .slice none 0 0, .int .i64 0, .int .i64 0, .int .i64 0]) := by kernel_rfl
theorem ty103 : zeroT Try.prog 103 = some (.agg #[.bool false, .slice none 0 0, .int .i64 0, .int .i64 0, .int .i64 0]) := by kernel_rfl
attribute [go_sem] ti103 ts103 tb103 tc103 ta103 Try.underlying103 tg103 th103 tz103 ty103
theorem ti110 : Try.prog.info? 110 = some (inf Try.prog 110) := by kernel_rfl
theorem ts110 : (inf Try.prog 110).size = 1 := by kernel_rfl
theorem tb110 : (inf Try.prog 110).bytes = 4 := by kernel_rfl
theorem tc110 : Try.prog.cellsOf 110 = 1 := by kernel_rfl
theorem ta110 : aggT Try.prog 110 = some false := by kernel_rfl
theorem tz110 : (inf Try.prog 110).zero = some (.int .u32 0) := by kernel_rfl
theorem ty110 : zeroT Try.prog 110 = some (.int .u32 0) := by kernel_rfl
attribute [go_sem] ti110 ts110 tb110 tc110 ta110 Try.underlying110 tz110 ty110
theorem ti114 : Try.prog.info? 114 = some (inf Try.prog 114) := by kernel_rfl
theorem ts114 : (inf Try.prog 114).size = 1 := by kernel_rfl
theorem tb114 : (inf Try.prog 114).bytes = 8 := by kernel_rfl
theorem tc114 : Try.prog.cellsOf 114 = 1 := by kernel_rfl
theorem ta114 : aggT Try.prog 114 = some false := by kernel_rfl
theorem tz114 : (inf Try.prog 114).zero = some (.pointer none) := by kernel_rfl
theorem ty114 : zeroT Try.prog 114 = some (.pointer none) := by kernel_rfl
attribute [go_sem] ti114 ts114 tb114 tc114 ta114 Try.underlying114 tz114 ty114
end Go.Proofs.Ytolnacokdjognaa
