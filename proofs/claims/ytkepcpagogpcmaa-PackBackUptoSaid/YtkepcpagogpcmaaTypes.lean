/- the facts of the seat's types. Printed by a small program. -/
import Derived.Test.YtkepcpagogpcmaaChecked
import Derived.Test.YtkepcpagogpcmaaAmWalk
import Derived.KernelRfl
namespace Go.Proofs.Ytkepcpagogpcmaa
open Go.AM
theorem ti3 : Try.prog.info? 3 = some (inf Try.prog 3) := by kernel_rfl
theorem ts3 : (inf Try.prog 3).size = 1 := by kernel_rfl
theorem tb3 : (inf Try.prog 3).bytes = 8 := by kernel_rfl
theorem tc3 : Try.prog.cellsOf 3 = 1 := by kernel_rfl
theorem ta3 : aggT Try.prog 3 = some false := by kernel_rfl
theorem tz3 : (inf Try.prog 3).zero = some (.int .i64 0) := by kernel_rfl
theorem ty3 : zeroT Try.prog 3 = some (.int .i64 0) := by kernel_rfl
attribute [go_sem] ti3 ts3 tb3 tc3 ta3 Try.underlying3 tz3 ty3
theorem ti4 : Try.prog.info? 4 = some (inf Try.prog 4) := by kernel_rfl
theorem ts4 : (inf Try.prog 4).size = 1 := by kernel_rfl
theorem tb4 : (inf Try.prog 4).bytes = 1 := by kernel_rfl
theorem tc4 : Try.prog.cellsOf 4 = 1 := by kernel_rfl
theorem ta4 : aggT Try.prog 4 = some false := by kernel_rfl
theorem tz4 : (inf Try.prog 4).zero = some (.bool false) := by kernel_rfl
theorem ty4 : zeroT Try.prog 4 = some (.bool false) := by kernel_rfl
attribute [go_sem] ti4 ts4 tb4 tc4 ta4 Try.underlying4 tz4 ty4
theorem ti5 : Try.prog.info? 5 = some (inf Try.prog 5) := by kernel_rfl
theorem ts5 : (inf Try.prog 5).size = 1 := by kernel_rfl
theorem tb5 : (inf Try.prog 5).bytes = 1 := by kernel_rfl
theorem tc5 : Try.prog.cellsOf 5 = 1 := by kernel_rfl
theorem ta5 : aggT Try.prog 5 = some false := by kernel_rfl
theorem tz5 : (inf Try.prog 5).zero = some (.int .u8 0) := by kernel_rfl
theorem ty5 : zeroT Try.prog 5 = some (.int .u8 0) := by kernel_rfl
attribute [go_sem] ti5 ts5 tb5 tc5 ta5 Try.underlying5 tz5 ty5
theorem ti9 : Try.prog.info? 9 = some (inf Try.prog 9) := by kernel_rfl
theorem ts9 : (inf Try.prog 9).size = 1 := by kernel_rfl
theorem tb9 : (inf Try.prog 9).bytes = 16 := by kernel_rfl
theorem tc9 : Try.prog.cellsOf 9 = 1 := by kernel_rfl
theorem ta9 : aggT Try.prog 9 = some false := by kernel_rfl
theorem tz9 : (inf Try.prog 9).zero = some (.string ByteArray.empty) := by kernel_rfl
theorem ty9 : zeroT Try.prog 9 = some (.string ByteArray.empty) := by kernel_rfl
attribute [go_sem] ti9 ts9 tb9 tc9 ta9 Try.underlying9 tz9 ty9
theorem ti22 : Try.prog.info? 22 = some (inf Try.prog 22) := by kernel_rfl
theorem ts22 : (inf Try.prog 22).size = 1 := by kernel_rfl
theorem tb22 : (inf Try.prog 22).bytes = 24 := by kernel_rfl
theorem tc22 : Try.prog.cellsOf 22 = 1 := by kernel_rfl
theorem ta22 : aggT Try.prog 22 = some false := by kernel_rfl
theorem tz22 : (inf Try.prog 22).zero = some (.slice none 0 0) := by kernel_rfl
theorem ty22 : zeroT Try.prog 22 = some (.slice none 0 0) := by kernel_rfl
attribute [go_sem] ti22 ts22 tb22 tc22 ta22 Try.underlying22 tz22 ty22
theorem ti23 : Try.prog.info? 23 = some (inf Try.prog 23) := by kernel_rfl
theorem ts23 : (inf Try.prog 23).size = 1 := by kernel_rfl
theorem tb23 : (inf Try.prog 23).bytes = 24 := by kernel_rfl
theorem tc23 : Try.prog.cellsOf 23 = 1 := by kernel_rfl
theorem ta23 : aggT Try.prog 23 = some false := by kernel_rfl
theorem tz23 : (inf Try.prog 23).zero = some (.slice none 0 0) := by kernel_rfl
theorem ty23 : zeroT Try.prog 23 = some (.slice none 0 0) := by kernel_rfl
attribute [go_sem] ti23 ts23 tb23 tc23 ta23 Try.underlying23 tz23 ty23
theorem ti24 : Try.prog.info? 24 = some (inf Try.prog 24) := by kernel_rfl
theorem ts24 : (inf Try.prog 24).size = 1 := by kernel_rfl
theorem tb24 : (inf Try.prog 24).bytes = 24 := by kernel_rfl
theorem tc24 : Try.prog.cellsOf 24 = 1 := by kernel_rfl
theorem ta24 : aggT Try.prog 24 = some false := by kernel_rfl
theorem tz24 : (inf Try.prog 24).zero = some (.slice none 0 0) := by kernel_rfl
theorem ty24 : zeroT Try.prog 24 = some (.slice none 0 0) := by kernel_rfl
attribute [go_sem] ti24 ts24 tb24 tc24 ta24 Try.underlying24 tz24 ty24
theorem ti26 : Try.prog.info? 26 = some (inf Try.prog 26) := by kernel_rfl
theorem ts26 : (inf Try.prog 26).size = 1 := by kernel_rfl
theorem tb26 : (inf Try.prog 26).bytes = 24 := by kernel_rfl
theorem tc26 : Try.prog.cellsOf 26 = 1 := by kernel_rfl
theorem ta26 : aggT Try.prog 26 = some true := by kernel_rfl
theorem tg26 : Try.prog.eqGuardType Try.prog.depth 26 = false := by kernel_rfl
theorem th26 : Try.prog.stoodInHeld 26 = false := by kernel_rfl
theorem tz26 : (inf Try.prog 26).zero = some (.agg #[.slice none 0 0]) := by kernel_rfl
theorem ty26 : zeroT Try.prog 26 = some (.agg #[.slice none 0 0]) := by kernel_rfl
attribute [go_sem] ti26 ts26 tb26 tc26 ta26 Try.underlying26 tg26 th26 tz26 ty26
theorem ti35 : Try.prog.info? 35 = some (inf Try.prog 35) := by kernel_rfl
theorem ts35 : (inf Try.prog 35).size = 1 := by kernel_rfl
theorem tb35 : (inf Try.prog 35).bytes = 8 := by kernel_rfl
theorem tc35 : Try.prog.cellsOf 35 = 1 := by kernel_rfl
theorem ta35 : aggT Try.prog 35 = some false := by kernel_rfl
theorem tz35 : (inf Try.prog 35).zero = some (.pointer none) := by kernel_rfl
theorem ty35 : zeroT Try.prog 35 = some (.pointer none) := by kernel_rfl
attribute [go_sem] ti35 ts35 tb35 tc35 ta35 Try.underlying35 tz35 ty35
theorem ti37 : Try.prog.info? 37 = some (inf Try.prog 37) := by kernel_rfl
theorem ts37 : (inf Try.prog 37).size = 1 := by kernel_rfl
theorem tb37 : (inf Try.prog 37).bytes = 8 := by kernel_rfl
theorem tc37 : Try.prog.cellsOf 37 = 1 := by kernel_rfl
theorem ta37 : aggT Try.prog 37 = some false := by kernel_rfl
theorem tz37 : (inf Try.prog 37).zero = some (.int .u64 0) := by kernel_rfl
theorem ty37 : zeroT Try.prog 37 = some (.int .u64 0) := by kernel_rfl
attribute [go_sem] ti37 ts37 tb37 tc37 ta37 Try.underlying37 tz37 ty37
theorem ti39 : Try.prog.info? 39 = some (inf Try.prog 39) := by kernel_rfl
theorem ts39 : (inf Try.prog 39).size = 1 := by kernel_rfl
theorem tb39 : (inf Try.prog 39).bytes = 8 := by kernel_rfl
theorem tc39 : Try.prog.cellsOf 39 = 1 := by kernel_rfl
theorem ta39 : aggT Try.prog 39 = some false := by kernel_rfl
theorem tz39 : (inf Try.prog 39).zero = some (.int .i64 0) := by kernel_rfl
theorem ty39 : zeroT Try.prog 39 = some (.int .i64 0) := by kernel_rfl
attribute [go_sem] ti39 ts39 tb39 tc39 ta39 Try.underlying39 tz39 ty39
theorem ti41 : Try.prog.info? 41 = some (inf Try.prog 41) := by kernel_rfl
theorem ts41 : (inf Try.prog 41).size = 2 := by kernel_rfl
theorem tb41 : (inf Try.prog 41).bytes = 16 := by kernel_rfl
theorem tc41 : Try.prog.cellsOf 41 = 2 := by kernel_rfl
theorem ta41 : aggT Try.prog 41 = some true := by kernel_rfl
theorem tg41 : Try.prog.eqGuardType Try.prog.depth 41 = false := by kernel_rfl
theorem th41 : Try.prog.stoodInHeld 41 = false := by kernel_rfl
theorem tz41 : (inf Try.prog 41).zero = some (.agg #[.int .i64 0, .int .i64 0]) := by kernel_rfl
theorem ty41 : zeroT Try.prog 41 = some (.agg #[.int .i64 0, .int .i64 0]) := by kernel_rfl
attribute [go_sem] ti41 ts41 tb41 tc41 ta41 Try.underlying41 tg41 th41 tz41 ty41
theorem ti46 : Try.prog.info? 46 = some (inf Try.prog 46) := by kernel_rfl
theorem ts46 : (inf Try.prog 46).size = 1 := by kernel_rfl
theorem tb46 : (inf Try.prog 46).bytes = 24 := by kernel_rfl
theorem tc46 : Try.prog.cellsOf 46 = 1 := by kernel_rfl
theorem ta46 : aggT Try.prog 46 = some false := by kernel_rfl
theorem tz46 : (inf Try.prog 46).zero = some (.slice none 0 0) := by kernel_rfl
theorem ty46 : zeroT Try.prog 46 = some (.slice none 0 0) := by kernel_rfl
attribute [go_sem] ti46 ts46 tb46 tc46 ta46 Try.underlying46 tz46 ty46
theorem ti48 : Try.prog.info? 48 = some (inf Try.prog 48) := by kernel_rfl
theorem ts48 : (inf Try.prog 48).size = 2 := by kernel_rfl
theorem tb48 : (inf Try.prog 48).bytes = 16 := by kernel_rfl
theorem tc48 : Try.prog.cellsOf 48 = 2 := by kernel_rfl
theorem ta48 : aggT Try.prog 48 = some true := by kernel_rfl
theorem tg48 : Try.prog.eqGuardType Try.prog.depth 48 = false := by kernel_rfl
theorem th48 : Try.prog.stoodInHeld 48 = false := by kernel_rfl
theorem tz48 : (inf Try.prog 48).zero = some (.agg #[.int .u8 0, .int .i64 0]) := by kernel_rfl
theorem ty48 : zeroT Try.prog 48 = some (.agg #[.int .u8 0, .int .i64 0]) := by kernel_rfl
attribute [go_sem] ti48 ts48 tb48 tc48 ta48 Try.underlying48 tg48 th48 tz48 ty48
theorem ti51 : Try.prog.info? 51 = some (inf Try.prog 51) := by kernel_rfl
theorem ts51 : (inf Try.prog 51).size = 1 := by kernel_rfl
theorem tb51 : (inf Try.prog 51).bytes = 8 := by kernel_rfl
theorem tc51 : Try.prog.cellsOf 51 = 1 := by kernel_rfl
theorem ta51 : aggT Try.prog 51 = some false := by kernel_rfl
theorem tz51 : (inf Try.prog 51).zero = some (.pointer none) := by kernel_rfl
theorem ty51 : zeroT Try.prog 51 = some (.pointer none) := by kernel_rfl
attribute [go_sem] ti51 ts51 tb51 tc51 ta51 Try.underlying51 tz51 ty51
theorem ti53 : Try.prog.info? 53 = some (inf Try.prog 53) := by kernel_rfl
theorem ts53 : (inf Try.prog 53).size = 4 := by kernel_rfl
theorem tb53 : (inf Try.prog 53).bytes = 48 := by kernel_rfl
theorem tc53 : Try.prog.cellsOf 53 = 4 := by kernel_rfl
theorem ta53 : aggT Try.prog 53 = some true := by kernel_rfl
theorem tg53 : Try.prog.eqGuardType Try.prog.depth 53 = false := by kernel_rfl
theorem th53 : Try.prog.stoodInHeld 53 = false := by kernel_rfl
theorem tz53 : (inf Try.prog 53).zero = some (.agg #[.slice none 0 0, .int .i64 0, .int .i64 0, .int .i64 0]) := by kernel_rfl
theorem ty53 : zeroT Try.prog 53 = some (.agg #[.slice none 0 0, .int .i64 0, .int .i64 0, .int .i64 0]) := by kernel_rfl
attribute [go_sem] ti53 ts53 tb53 tc53 ta53 Try.underlying53 tg53 th53 tz53 ty53
theorem ti55 : Try.prog.info? 55 = some (inf Try.prog 55) := by kernel_rfl
theorem ts55 : (inf Try.prog 55).size = 4 := by kernel_rfl
theorem tb55 : (inf Try.prog 55).bytes = 48 := by kernel_rfl
theorem tc55 : Try.prog.cellsOf 55 = 4 := by kernel_rfl
theorem ta55 : aggT Try.prog 55 = some true := by kernel_rfl
theorem tg55 : Try.prog.eqGuardType Try.prog.depth 55 = false := by kernel_rfl
theorem th55 : Try.prog.stoodInHeld 55 = false := by kernel_rfl
theorem tz55 : (inf Try.prog 55).zero = some (.agg #[.slice none 0 0, .int .i64 0, .int .i64 0, .int .i64 0]) := by kernel_rfl
theorem ty55 : zeroT Try.prog 55 = some (.agg #[.slice none 0 0, .int .i64 0, .int .i64 0, .int .i64 0]) := by kernel_rfl
attribute [go_sem] ti55 ts55 tb55 tc55 ta55 Try.underlying55 tg55 th55 tz55 ty55
theorem ti56 : Try.prog.info? 56 = some (inf Try.prog 56) := by kernel_rfl
theorem ts56 : (inf Try.prog 56).size = 1 := by kernel_rfl
theorem tb56 : (inf Try.prog 56).bytes = 24 := by kernel_rfl
theorem tc56 : Try.prog.cellsOf 56 = 1 := by kernel_rfl
theorem ta56 : aggT Try.prog 56 = some false := by kernel_rfl
theorem tz56 : (inf Try.prog 56).zero = some (.slice none 0 0) := by kernel_rfl
theorem ty56 : zeroT Try.prog 56 = some (.slice none 0 0) := by kernel_rfl
attribute [go_sem] ti56 ts56 tb56 tc56 ta56 Try.underlying56 tz56 ty56
theorem ti63 : Try.prog.info? 63 = some (inf Try.prog 63) := by kernel_rfl
theorem ts63 : (inf Try.prog 63).size = 1 := by kernel_rfl
theorem tb63 : (inf Try.prog 63).bytes = 8 := by kernel_rfl
theorem tc63 : Try.prog.cellsOf 63 = 1 := by kernel_rfl
theorem ta63 : aggT Try.prog 63 = some false := by kernel_rfl
theorem tz63 : (inf Try.prog 63).zero = some (.pointer none) := by kernel_rfl
theorem ty63 : zeroT Try.prog 63 = some (.pointer none) := by kernel_rfl
attribute [go_sem] ti63 ts63 tb63 tc63 ta63 Try.underlying63 tz63 ty63
end Go.Proofs.Ytkepcpagogpcmaa
