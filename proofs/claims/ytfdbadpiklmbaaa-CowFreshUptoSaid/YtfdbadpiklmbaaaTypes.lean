/- the facts of the seat's types. Printed by a small program. -/
import Derived.Test.YtfdbadpiklmbaaaChecked
import Derived.Test.YtfdbadpiklmbaaaAmWalk
import Derived.KernelRfl
namespace Go.Proofs.Ytfdbadpiklmbaaa
open Go.AM
theorem ti3 : Try.prog.info? 3 = some (inf Try.prog 3) := by kernel_rfl
theorem ts3 : (inf Try.prog 3).size = 1 := by kernel_rfl
theorem tb3 : (inf Try.prog 3).bytes = 8 := by kernel_rfl
theorem tc3 : Try.prog.cellsOf 3 = 1 := by kernel_rfl
theorem ta3 : aggT Try.prog 3 = some false := by kernel_rfl
theorem tz3 : (inf Try.prog 3).zero = some (.int .i64 0) := by kernel_rfl
theorem ty3 : zeroT Try.prog 3 = some (.int .i64 0) := by kernel_rfl
attribute [go_sem] ti3 ts3 tb3 tc3 ta3 Try.underlying3 tz3 ty3
theorem ti4 : Try.prog.info? 4 = some (inf Try.prog 4) := by kernel_rfl
theorem ts4 : (inf Try.prog 4).size = 1 := by kernel_rfl
theorem tb4 : (inf Try.prog 4).bytes = 1 := by kernel_rfl
theorem tc4 : Try.prog.cellsOf 4 = 1 := by kernel_rfl
theorem ta4 : aggT Try.prog 4 = some false := by kernel_rfl
theorem tz4 : (inf Try.prog 4).zero = some (.bool false) := by kernel_rfl
theorem ty4 : zeroT Try.prog 4 = some (.bool false) := by kernel_rfl
attribute [go_sem] ti4 ts4 tb4 tc4 ta4 Try.underlying4 tz4 ty4
theorem ti5 : Try.prog.info? 5 = some (inf Try.prog 5) := by kernel_rfl
theorem ts5 : (inf Try.prog 5).size = 1 := by kernel_rfl
theorem tb5 : (inf Try.prog 5).bytes = 1 := by kernel_rfl
theorem tc5 : Try.prog.cellsOf 5 = 1 := by kernel_rfl
theorem ta5 : aggT Try.prog 5 = some false := by kernel_rfl
theorem tz5 : (inf Try.prog 5).zero = some (.int .u8 0) := by kernel_rfl
theorem ty5 : zeroT Try.prog 5 = some (.int .u8 0) := by kernel_rfl
attribute [go_sem] ti5 ts5 tb5 tc5 ta5 Try.underlying5 tz5 ty5
theorem ti22 : Try.prog.info? 22 = some (inf Try.prog 22) := by kernel_rfl
theorem ts22 : (inf Try.prog 22).size = 1 := by kernel_rfl
theorem tb22 : (inf Try.prog 22).bytes = 24 := by kernel_rfl
theorem tc22 : Try.prog.cellsOf 22 = 1 := by kernel_rfl
theorem ta22 : aggT Try.prog 22 = some false := by kernel_rfl
theorem tz22 : (inf Try.prog 22).zero = some (.slice none 0 0) := by kernel_rfl
theorem ty22 : zeroT Try.prog 22 = some (.slice none 0 0) := by kernel_rfl
attribute [go_sem] ti22 ts22 tb22 tc22 ta22 Try.underlying22 tz22 ty22
theorem ti23 : Try.prog.info? 23 = some (inf Try.prog 23) := by kernel_rfl
theorem ts23 : (inf Try.prog 23).size = 1 := by kernel_rfl
theorem tb23 : (inf Try.prog 23).bytes = 8 := by kernel_rfl
theorem tc23 : Try.prog.cellsOf 23 = 1 := by kernel_rfl
theorem ta23 : aggT Try.prog 23 = some false := by kernel_rfl
theorem tz23 : (inf Try.prog 23).zero = some (.pointer none) := by kernel_rfl
theorem ty23 : zeroT Try.prog 23 = some (.pointer none) := by kernel_rfl
attribute [go_sem] ti23 ts23 tb23 tc23 ta23 Try.underlying23 tz23 ty23
theorem ti26 : Try.prog.info? 26 = some (inf Try.prog 26) := by kernel_rfl
theorem ts26 : (inf Try.prog 26).size = 512 := by kernel_rfl
theorem tb26 : (inf Try.prog 26).bytes = 512 := by kernel_rfl
theorem tc26 : Try.prog.cellsOf 26 = 512 := by kernel_rfl
theorem ta26 : aggT Try.prog 26 = some true := by kernel_rfl
theorem tz26 : (inf Try.prog 26).zero = some (.agg #[.bool false, .bool false, .bool false, .bool false, .bool false, .bool false, .bool false, .bool false, .bool false, .bool false, .bool false, .bool false, .bool false, .bool false, .bool false, .bool false, .bool false, .bool false, .bool false, .bool false, .bool false, .bool false, .bool false, .bool false, .bool false, .bool false, .bool false, .bool false, .bool false, .bool false, .bool false, .bool false, .bool false, .bool false, .bool false, .bool false, .bool false, .bool false, .bool false, .bool false, .bool false, .bool false, .bool false, .bool false, .bool false, .bool false, .bool false, .bool false, .bool false, .bool false, .bool false, .bool false, .bool false, .bool false, .bool false, .bool false, .bool false, .bool false, .bool false, .bool false, .bool false, .bool false, .bool false, .bool false, .bool false, .bool false, .bool false, .bool false, .bool false, .bool false, .bool false, .bool false, .bool false, .bool false, .bool false, .bool false, .bool false, .bool false, .bool false, .bool false, .bool false, .bool false, .bool false, .bool false, .bool false, .bool false, .bool false, .bool false, .bool false, .bool false, .bool false, .bool false, .bool false, .bool false, .bool false, .bool false, .bool false, .bool false, .bool false, .bool false, .bool false, .bool false, .bool false, .bool false, .bool false, .bool false, .bool false, .bool false, .bool false, .bool false, .bool false, .bool false, .bool false, .bool false, .bool false, .bool false, .bool false, .bool false, .bool false, .bool false, .bool false, .bool false, .bool false, .bool false, .bool false, .bool false, .bool false, .bool false, .bool false, .bool false, .bool false, .bool false, .bool false, .bool false, .bool false, .bool false, .bool false, .bool false, .bool false, .bool false, .bool false, .bool false, .bool false, .bool false, .bool false, .bool false, .bool false, .bool false, .bool false, .bool false, .bool false, .bool false, .bool false, .bool false, .bool false, .bool false, .bool false, .bool false, .bool false, .bool false, .bool false, .bool false, .bool false, .bool false, .bool false, .bool false, .bool false, .bool false, .bool false, .bool false, .bool false, .bool false, .bool false, .bool false, .bool false, .bool false, .bool false, .bool false, .bool false, .bool false, .bool false, .bool false, .bool false, .bool false, .bool false, .bool false, .bool false, .bool false, .bool false, .bool false, .bool false, .bool false, .bool false, .bool false, .bool false, .bool false, .bool false, .bool false, .bool false, .bool false, .bool false, .bool false, .bool false, .bool false, .bool false, .bool false, .bool false, .bool false, .bool false, .bool false, .bool false, .bool false, .bool false, .bool false, .bool false, .bool false, .bool false, .bool false, .bool false, .bool false, .bool false, .bool false, .bool false, .bool false, .bool false, .bool false, .bool false, .bool false, .bool false, .bool false, .bool false, .bool false, .bool false, .bool false, .bool false, .bool false, .bool false, .bool false, .bool false, .bool false, .bool false, .bool false, .bool false, .bool false, .bool false, .bool false, .bool false, .bool false, .bool false, .bool false, .bool false, .bool false, .bool false, .bool false, .bool false, .bool false, .bool false, .bool false, .bool false, .bool false, .bool false, .bool false, .bool false, .bool false, .bool false, .bool false, .bool false, .bool false, .bool false, .bool false, .bool false, .bool false, .bool false, .bool false, .bool false, .bool false, .bool false, .bool false, .bool false, .bool false, .bool false, .bool false, .bool false, .bool false, .bool false, .bool false, .bool false, .bool false, .bool false, .bool false, .bool false, .bool false, .bool false, .bool false, .bool false, .bool false, .bool false, .bool false, .bool false, .bool false, .bool false, .bool false, .bool false, .bool false, .bool false, .bool false, .bool false, .bool false, .bool false, .bool false, .bool false, .bool false, .bool false, .bool false, .bool false, .bool false, .bool false, .bool false, .bool false, .bool false, .bool false, .bool false, .bool false, .bool false, .bool false, .bool false, .bool false, .bool false, .bool false, .bool false, .bool false, .bool false, .bool false, .bool false, .bool false, .bool false, .bool false, .bool false, .bool false, .bool false, .bool false, .bool false, .bool false, .bool false, .bool false, .bool false, .bool false, .bool false, .bool false, .bool false, .bool false, .bool false, .bool false, .bool false, .bool false, .bool false, .bool false, .bool false, .bool false, .bool false, .bool false, .bool false, .bool false, .bool false, .bool false, .bool false, .bool false, .bool false, .bool false, .bool false, .bool false, .bool false, .bool false, .bool false, .bool false, .bool false, .bool false, .bool false, .bool false, .bool false, .bool false, .bool false, .bool false, .bool false, .bool false, .bool false, .bool false, .bool false, .bool false, .bool false, .bool false, .bool false, .bool false, .bool false, .bool false, .bool false, .bool false, .bool false, .bool false, .bool false, .bool false, .bool false, .bool false, .bool false, .bool false, .bool false, .bool false, .bool false, .bool false, .bool false, .bool false, .bool false, .bool false, .bool false, .bool false, .bool false, .bool false, .bool false, .bool false, .bool false, .bool false, .bool false, .bool false, .bool false, .bool false, .bool false, .bool false, .bool false, .bool false, .bool false, .bool false, .bool false, .bool false, .bool false, .bool false, .bool false, .bool false, .bool false, .bool false, .bool false, .bool false, .bool false, .bool false, .bool false, .bool false, .bool false, .bool false, .bool false, .bool false, .bool false, .bool false, .bool false, .bool false, .bool false, .bool false, .bool false, .bool false, .bool false, .bool false, .bool false, .bool false, .bool false, .bool false, .bool false, .bool false, .bool false, .bool false, .bool false, .bool false, .bool false, .bool false, .bool false, .bool false, .bool false, .bool false, .bool false, .bool false, .bool false, .bool false, .bool false, .bool false, .bool false, .bool false, .bool false, .bool false, .bool false, .bool false, .bool false, .bool false, .bool false, .bool false, .bool false, .bool false, .bool false, .bool false, .bool false, .bool false, .bool false, .bool false, .bool false, .bool false, .bool false, .bool false, .bool false, .bool false, .bool false, .bool false, .bool false, .bool false, .bool false, .bool false, .bool false]) := by kernel_rfl
theorem ty26 : zeroT Try.prog 26 = some (.agg #[.bool false, .bool false, .bool false, .bool false, .bool false, .bool false, .bool false, .bool false, .bool false, .bool false, .bool false, .bool false, .bool false, .bool false, .bool false, .bool false, .bool false, .bool false, .bool false, .bool false, .bool false, .bool false, .bool false, .bool false, .bool false, .bool false, .bool false, .bool false, .bool false, .bool false, .bool false, .bool false, .bool false, .bool false, .bool false, .bool false, .bool false, .bool false, .bool false, .bool false, .bool false, .bool false, .bool false, .bool false, .bool false, .bool false, .bool false, .bool false, .bool false, .bool false, .bool false, .bool false, .bool false, .bool false, .bool false, .bool false, .bool false, .bool false, .bool false, .bool false, .bool false, .bool false, .bool false, .bool false, .bool false, .bool false, .bool false, .bool false, .bool false, .bool false, .bool false, .bool false, .bool false, .bool false, .bool false, .bool false, .bool false, .bool false, .bool false, .bool false, .bool false, .bool false, .bool false, .bool false, .bool false, .bool false, .bool false, .bool false, .bool false, .bool false, .bool false, .bool false, .bool false, .bool false, .bool false, .bool false, .bool false, .bool false, .bool false, .bool false, .bool false, .bool false, .bool false, .bool false, .bool false, .bool false, .bool false, .bool false, .bool false, .bool false, .bool false, .bool false, .bool false, .bool false, .bool false, .bool false, .bool false, .bool false, .bool false, .bool false, .bool false, .bool false, .bool false, .bool false, .bool false, .bool false, .bool false, .bool false, .bool false, .bool false, .bool false, .bool false, .bool false, .bool false, .bool false, .bool false, .bool false, .bool false, .bool false, .bool false, .bool false, .bool false, .bool false, .bool false, .bool false, .bool false, .bool false, .bool false, .bool false, .bool false, .bool false, .bool false, .bool false, .bool false, .bool false, .bool false, .bool false, .bool false, .bool false, .bool false, .bool false, .bool false, .bool false, .bool false, .bool false, .bool false, .bool false, .bool false, .bool false, .bool false, .bool false, .bool false, .bool false, .bool false, .bool false, .bool false, .bool false, .bool false, .bool false, .bool false, .bool false, .bool false, .bool false, .bool false, .bool false, .bool false, .bool false, .bool false, .bool false, .bool false, .bool false, .bool false, .bool false, .bool false, .bool false, .bool false, .bool false, .bool false, .bool false, .bool false, .bool false, .bool false, .bool false, .bool false, .bool false, .bool false, .bool false, .bool false, .bool false, .bool false, .bool false, .bool false, .bool false, .bool false, .bool false, .bool false, .bool false, .bool false, .bool false, .bool false, .bool false, .bool false, .bool false, .bool false, .bool false, .bool false, .bool false, .bool false, .bool false, .bool false, .bool false, .bool false, .bool false, .bool false, .bool false, .bool false, .bool false, .bool false, .bool false, .bool false, .bool false, .bool false, .bool false, .bool false, .bool false, .bool false, .bool false, .bool false, .bool false, .bool false, .bool false, .bool false, .bool false, .bool false, .bool false, .bool false, .bool false, .bool false, .bool false, .bool false, .bool false, .bool false, .bool false, .bool false, .bool false, .bool false, .bool false, .bool false, .bool false, .bool false, .bool false, .bool false, .bool false, .bool false, .bool false, .bool false, .bool false, .bool false, .bool false, .bool false, .bool false, .bool false, .bool false, .bool false, .bool false, .bool false, .bool false, .bool false, .bool false, .bool false, .bool false, .bool false, .bool false, .bool false, .bool false, .bool false, .bool false, .bool false, .bool false, .bool false, .bool false, .bool false, .bool false, .bool false, .bool false, .bool false, .bool false, .bool false, .bool false, .bool false, .bool false, .bool false, .bool false, .bool false, .bool false, .bool false, .bool false, .bool false, .bool false, .bool false, .bool false, .bool false, .bool false, .bool false, .bool false, .bool false, .bool false, .bool false, .bool false, .bool false, .bool false, .bool false, .bool false, .bool false, .bool false, .bool false, .bool false, .bool false, .bool false, .bool false, .bool false, .bool false, .bool false, .bool false, .bool false, .bool false, .bool false, .bool false, .bool false, .bool false, .bool false, .bool false, .bool false, .bool false, .bool false, .bool false, .bool false, .bool false, .bool false, .bool false, .bool false, .bool false, .bool false, .bool false, .bool false, .bool false, .bool false, .bool false, .bool false, .bool false, .bool false, .bool false, .bool false, .bool false, .bool false, .bool false, .bool false, .bool false, .bool false, .bool false, .bool false, .bool false, .bool false, .bool false, .bool false, .bool false, .bool false, .bool false, .bool false, .bool false, .bool false, .bool false, .bool false, .bool false, .bool false, .bool false, .bool false, .bool false, .bool false, .bool false, .bool false, .bool false, .bool false, .bool false, .bool false, .bool false, .bool false, .bool false, .bool false, .bool false, .bool false, .bool false, .bool false, .bool false, .bool false, .bool false, .bool false, .bool false, .bool false, .bool false, .bool false, .bool false, .bool false, .bool false, .bool false, .bool false, .bool false, .bool false, .bool false, .bool false, .bool false, .bool false, .bool false, .bool false, .bool false, .bool false, .bool false, .bool false, .bool false, .bool false, .bool false, .bool false, .bool false, .bool false, .bool false, .bool false, .bool false, .bool false, .bool false, .bool false, .bool false, .bool false, .bool false, .bool false, .bool false, .bool false, .bool false, .bool false, .bool false, .bool false, .bool false, .bool false, .bool false, .bool false, .bool false, .bool false, .bool false, .bool false, .bool false, .bool false, .bool false, .bool false, .bool false, .bool false, .bool false, .bool false, .bool false, .bool false, .bool false, .bool false, .bool false, .bool false, .bool false, .bool false, .bool false, .bool false, .bool false, .bool false, .bool false, .bool false, .bool false, .bool false, .bool false, .bool false, .bool false, .bool false, .bool false, .bool false, .bool false, .bool false, .bool false, .bool false, .bool false, .bool false, .bool false, .bool false, .bool false, .bool false, .bool false, .bool false, .bool false, .bool false]) := by kernel_rfl
attribute [go_sem] ti26 ts26 tb26 tc26 ta26 Try.underlying26 tz26 ty26
theorem ti27 : Try.prog.info? 27 = some (inf Try.prog 27) := by kernel_rfl
theorem ts27 : (inf Try.prog 27).size = 1 := by kernel_rfl
theorem tb27 : (inf Try.prog 27).bytes = 2 := by kernel_rfl
theorem tc27 : Try.prog.cellsOf 27 = 1 := by kernel_rfl
theorem ta27 : aggT Try.prog 27 = some false := by kernel_rfl
theorem tz27 : (inf Try.prog 27).zero = some (.int .u16 0) := by kernel_rfl
theorem ty27 : zeroT Try.prog 27 = some (.int .u16 0) := by kernel_rfl
attribute [go_sem] ti27 ts27 tb27 tc27 ta27 Try.underlying27 tz27 ty27
theorem ti28 : Try.prog.info? 28 = some (inf Try.prog 28) := by kernel_rfl
theorem ts28 : (inf Try.prog 28).size = 1 := by kernel_rfl
theorem tb28 : (inf Try.prog 28).bytes = 8 := by kernel_rfl
theorem tc28 : Try.prog.cellsOf 28 = 1 := by kernel_rfl
theorem ta28 : aggT Try.prog 28 = some false := by kernel_rfl
theorem tz28 : (inf Try.prog 28).zero = some (.int .i64 0) := by kernel_rfl
theorem ty28 : zeroT Try.prog 28 = some (.int .i64 0) := by kernel_rfl
attribute [go_sem] ti28 ts28 tb28 tc28 ta28 Try.underlying28 tz28 ty28
theorem ti32 : Try.prog.info? 32 = some (inf Try.prog 32) := by kernel_rfl
theorem ts32 : (inf Try.prog 32).size = 4 := by kernel_rfl
theorem tb32 : (inf Try.prog 32).bytes = 32 := by kernel_rfl
theorem tc32 : Try.prog.cellsOf 32 = 4 := by kernel_rfl
theorem ta32 : aggT Try.prog 32 = some true := by kernel_rfl
theorem tg32 : Try.prog.eqGuardType Try.prog.depth 32 = false := by kernel_rfl
theorem th32 : Try.prog.stoodInHeld 32 = false := by kernel_rfl
theorem tz32 : (inf Try.prog 32).zero = some (.agg #[.int .i64 0, .int .i64 0, .int .i64 0, .int .i64 0]) := by kernel_rfl
theorem ty32 : zeroT Try.prog 32 = some (.agg #[.int .i64 0, .int .i64 0, .int .i64 0, .int .i64 0]) := by kernel_rfl
attribute [go_sem] ti32 ts32 tb32 tc32 ta32 Try.underlying32 tg32 th32 tz32 ty32
theorem ti33 : Try.prog.info? 33 = some (inf Try.prog 33) := by kernel_rfl
theorem ts33 : (inf Try.prog 33).size = 1 := by kernel_rfl
theorem tb33 : (inf Try.prog 33).bytes = 24 := by kernel_rfl
theorem tc33 : Try.prog.cellsOf 33 = 1 := by kernel_rfl
theorem ta33 : aggT Try.prog 33 = some false := by kernel_rfl
theorem tz33 : (inf Try.prog 33).zero = some (.slice none 0 0) := by kernel_rfl
theorem ty33 : zeroT Try.prog 33 = some (.slice none 0 0) := by kernel_rfl
attribute [go_sem] ti33 ts33 tb33 tc33 ta33 Try.underlying33 tz33 ty33
theorem ti38 : Try.prog.info? 38 = some (inf Try.prog 38) := by kernel_rfl
theorem ts38 : (inf Try.prog 38).size = 1 := by kernel_rfl
theorem tb38 : (inf Try.prog 38).bytes = 24 := by kernel_rfl
theorem tc38 : Try.prog.cellsOf 38 = 1 := by kernel_rfl
theorem ta38 : aggT Try.prog 38 = some false := by kernel_rfl
theorem tz38 : (inf Try.prog 38).zero = some (.slice none 0 0) := by kernel_rfl
theorem ty38 : zeroT Try.prog 38 = some (.slice none 0 0) := by kernel_rfl
attribute [go_sem] ti38 ts38 tb38 tc38 ta38 Try.underlying38 tz38 ty38
theorem ti39 : Try.prog.info? 39 = some (inf Try.prog 39) := by kernel_rfl
theorem ts39 : (inf Try.prog 39).size = 1 := by kernel_rfl
theorem tb39 : (inf Try.prog 39).bytes = 24 := by kernel_rfl
theorem tc39 : Try.prog.cellsOf 39 = 1 := by kernel_rfl
theorem ta39 : aggT Try.prog 39 = some false := by kernel_rfl
theorem tz39 : (inf Try.prog 39).zero = some (.slice none 0 0) := by kernel_rfl
theorem ty39 : zeroT Try.prog 39 = some (.slice none 0 0) := by kernel_rfl
attribute [go_sem] ti39 ts39 tb39 tc39 ta39 Try.underlying39 tz39 ty39
theorem ti42 : Try.prog.info? 42 = some (inf Try.prog 42) := by kernel_rfl
theorem ts42 : (inf Try.prog 42).size = 6 := by kernel_rfl
theorem tb42 : (inf Try.prog 42).bytes = 48 := by kernel_rfl
theorem tc42 : Try.prog.cellsOf 42 = 6 := by kernel_rfl
theorem ta42 : aggT Try.prog 42 = some true := by kernel_rfl
theorem tg42 : Try.prog.eqGuardType Try.prog.depth 42 = false := by kernel_rfl
theorem th42 : Try.prog.stoodInHeld 42 = false := by kernel_rfl
theorem tz42 : (inf Try.prog 42).zero = some (.agg #[.int .u8 0, .int .i64 0, .int .i64 0, .int .i64 0, .int .i64 0, .int .i64 0]) := by kernel_rfl
theorem ty42 : zeroT Try.prog 42 = some (.agg #[.int .u8 0, .int .i64 0, .int .i64 0, .int .i64 0, .int .i64 0, .int .i64 0]) := by kernel_rfl
attribute [go_sem] ti42 ts42 tb42 tc42 ta42 Try.underlying42 tg42 th42 tz42 ty42
theorem ti48 : Try.prog.info? 48 = some (inf Try.prog 48) := by kernel_rfl
theorem ts48 : (inf Try.prog 48).size = 1 := by kernel_rfl
theorem tb48 : (inf Try.prog 48).bytes = 24 := by kernel_rfl
theorem tc48 : Try.prog.cellsOf 48 = 1 := by kernel_rfl
theorem ta48 : aggT Try.prog 48 = some true := by kernel_rfl
theorem tg48 : Try.prog.eqGuardType Try.prog.depth 48 = false := by kernel_rfl
theorem th48 : Try.prog.stoodInHeld 48 = false := by kernel_rfl
theorem tz48 : (inf Try.prog 48).zero = some (.agg #[.slice none 0 0]) := by kernel_rfl
theorem ty48 : zeroT Try.prog 48 = some (.agg #[.slice none 0 0]) := by kernel_rfl
attribute [go_sem] ti48 ts48 tb48 tc48 ta48 Try.underlying48 tg48 th48 tz48 ty48
theorem ti52 : Try.prog.info? 52 = some (inf Try.prog 52) := by kernel_rfl
theorem ts52 : (inf Try.prog 52).size = 1 := by kernel_rfl
theorem tb52 : (inf Try.prog 52).bytes = 8 := by kernel_rfl
theorem tc52 : Try.prog.cellsOf 52 = 1 := by kernel_rfl
theorem ta52 : aggT Try.prog 52 = some false := by kernel_rfl
theorem tz52 : (inf Try.prog 52).zero = some (.pointer none) := by kernel_rfl
theorem ty52 : zeroT Try.prog 52 = some (.pointer none) := by kernel_rfl
attribute [go_sem] ti52 ts52 tb52 tc52 ta52 Try.underlying52 tz52 ty52
theorem ti63 : Try.prog.info? 63 = some (inf Try.prog 63) := by kernel_rfl
theorem ts63 : (inf Try.prog 63).size = 1 := by kernel_rfl
theorem tb63 : (inf Try.prog 63).bytes = 24 := by kernel_rfl
theorem tc63 : Try.prog.cellsOf 63 = 1 := by kernel_rfl
theorem ta63 : aggT Try.prog 63 = some false := by kernel_rfl
theorem tz63 : (inf Try.prog 63).zero = some (.slice none 0 0) := by kernel_rfl
theorem ty63 : zeroT Try.prog 63 = some (.slice none 0 0) := by kernel_rfl
attribute [go_sem] ti63 ts63 tb63 tc63 ta63 Try.underlying63 tz63 ty63
theorem ti65 : Try.prog.info? 65 = some (inf Try.prog 65) := by kernel_rfl
theorem ts65 : (inf Try.prog 65).size = 1 := by kernel_rfl
theorem tb65 : (inf Try.prog 65).bytes = 24 := by kernel_rfl
theorem tc65 : Try.prog.cellsOf 65 = 1 := by kernel_rfl
theorem ta65 : aggT Try.prog 65 = some true := by kernel_rfl
theorem tg65 : Try.prog.eqGuardType Try.prog.depth 65 = false := by kernel_rfl
theorem th65 : Try.prog.stoodInHeld 65 = false := by kernel_rfl
theorem tz65 : (inf Try.prog 65).zero = some (.agg #[.slice none 0 0]) := by kernel_rfl
theorem ty65 : zeroT Try.prog 65 = some (.agg #[.slice none 0 0]) := by kernel_rfl
attribute [go_sem] ti65 ts65 tb65 tc65 ta65 Try.underlying65 tg65 th65 tz65 ty65
theorem ti66 : Try.prog.info? 66 = some (inf Try.prog 66) := by kernel_rfl
theorem ts66 : (inf Try.prog 66).size = 1 := by kernel_rfl
theorem tb66 : (inf Try.prog 66).bytes = 24 := by kernel_rfl
theorem tc66 : Try.prog.cellsOf 66 = 1 := by kernel_rfl
theorem ta66 : aggT Try.prog 66 = some false := by kernel_rfl
theorem tz66 : (inf Try.prog 66).zero = some (.slice none 0 0) := by kernel_rfl
theorem ty66 : zeroT Try.prog 66 = some (.slice none 0 0) := by kernel_rfl
attribute [go_sem] ti66 ts66 tb66 tc66 ta66 Try.underlying66 tz66 ty66
theorem ti68 : Try.prog.info? 68 = some (inf Try.prog 68) := by kernel_rfl
theorem ts68 : (inf Try.prog 68).size = 1 := by kernel_rfl
theorem tb68 : (inf Try.prog 68).bytes = 8 := by kernel_rfl
theorem tc68 : Try.prog.cellsOf 68 = 1 := by kernel_rfl
theorem ta68 : aggT Try.prog 68 = some false := by kernel_rfl
theorem tz68 : (inf Try.prog 68).zero = some (.pointer none) := by kernel_rfl
theorem ty68 : zeroT Try.prog 68 = some (.pointer none) := by kernel_rfl
attribute [go_sem] ti68 ts68 tb68 tc68 ta68 Try.underlying68 tz68 ty68
theorem ti70 : Try.prog.info? 70 = some (inf Try.prog 70) := by kernel_rfl
theorem ts70 : (inf Try.prog 70).size = 1 := by kernel_rfl
theorem tb70 : (inf Try.prog 70).bytes = 8 := by kernel_rfl
theorem tc70 : Try.prog.cellsOf 70 = 1 := by kernel_rfl
theorem ta70 : aggT Try.prog 70 = some true := by kernel_rfl
theorem tg70 : Try.prog.eqGuardType Try.prog.depth 70 = false := by kernel_rfl
theorem th70 : Try.prog.stoodInHeld 70 = false := by kernel_rfl
theorem tz70 : (inf Try.prog 70).zero = some (.agg #[.pointer none]) := by kernel_rfl
theorem ty70 : zeroT Try.prog 70 = some (.agg #[.pointer none]) := by kernel_rfl
attribute [go_sem] ti70 ts70 tb70 tc70 ta70 Try.underlying70 tg70 th70 tz70 ty70
theorem ti83 : Try.prog.info? 83 = some (inf Try.prog 83) := by kernel_rfl
theorem ts83 : (inf Try.prog 83).size = 1 := by kernel_rfl
theorem tb83 : (inf Try.prog 83).bytes = 8 := by kernel_rfl
theorem tc83 : Try.prog.cellsOf 83 = 1 := by kernel_rfl
theorem ta83 : aggT Try.prog 83 = some false := by kernel_rfl
theorem tz83 : (inf Try.prog 83).zero = some (.nilFunc) := by kernel_rfl
theorem ty83 : zeroT Try.prog 83 = some (.nilFunc) := by kernel_rfl
attribute [go_sem] ti83 ts83 tb83 tc83 ta83 Try.underlying83 tz83 ty83
theorem ti86 : Try.prog.info? 86 = some (inf Try.prog 86) := by kernel_rfl
theorem ts86 : (inf Try.prog 86).size = 1 := by kernel_rfl
theorem tb86 : (inf Try.prog 86).bytes = 8 := by kernel_rfl
theorem tc86 : Try.prog.cellsOf 86 = 1 := by kernel_rfl
theorem ta86 : aggT Try.prog 86 = some false := by kernel_rfl
theorem tz86 : (inf Try.prog 86).zero = some (.map none) := by kernel_rfl
theorem ty86 : zeroT Try.prog 86 = some (.map none) := by kernel_rfl
attribute [go_sem] ti86 ts86 tb86 tc86 ta86 Try.underlying86 tz86 ty86
theorem ti88 : Try.prog.info? 88 = some (inf Try.prog 88) := by kernel_rfl
theorem ts88 : (inf Try.prog 88).size = 1 := by kernel_rfl
theorem tb88 : (inf Try.prog 88).bytes = 8 := by kernel_rfl
theorem tc88 : Try.prog.cellsOf 88 = 1 := by kernel_rfl
theorem ta88 : aggT Try.prog 88 = some false := by kernel_rfl
theorem tz88 : (inf Try.prog 88).zero = some (.nilFunc) := by kernel_rfl
theorem ty88 : zeroT Try.prog 88 = some (.nilFunc) := by kernel_rfl
attribute [go_sem] ti88 ts88 tb88 tc88 ta88 Try.underlying88 tz88 ty88
theorem ti90 : Try.prog.info? 90 = some (inf Try.prog 90) := by kernel_rfl
theorem ts90 : (inf Try.prog 90).size = 8 := by kernel_rfl
theorem tb90 : (inf Try.prog 90).bytes = 64 := by kernel_rfl
theorem tc90 : Try.prog.cellsOf 90 = 8 := by kernel_rfl
theorem ta90 : aggT Try.prog 90 = some true := by kernel_rfl
theorem tg90 : Try.prog.eqGuardType Try.prog.depth 90 = false := by kernel_rfl
theorem th90 : Try.prog.stoodInHeld 90 = false := by kernel_rfl
theorem tz90 : (inf Try.prog 90).zero = some (.agg #[.int .i64 0, .int .i64 0, .int .i64 0, .int .i64 0, .pointer none, .pointer none, .int .i64 0, .int .i64 0]) := by kernel_rfl
theorem ty90 : zeroT Try.prog 90 = some (.agg #[.int .i64 0, .int .i64 0, .int .i64 0, .int .i64 0, .pointer none, .pointer none, .int .i64 0, .int .i64 0]) := by kernel_rfl
attribute [go_sem] ti90 ts90 tb90 tc90 ta90 Try.underlying90 tg90 th90 tz90 ty90
end Go.Proofs.Ytfdbadpiklmbaaa
