/- the facts of the seat's types. Printed by a small program. -/
import Derived.Test.YtbcgipcgcjkfcaaChecked
import Derived.Test.YtbcgipcgcjkfcaaAmWalk
import Derived.KernelRfl
namespace Go.Proofs.Ytbcgipcgcjkfcaa
open Go.AM
theorem ti3 : Try.prog.info? 3 = some (inf Try.prog 3) := by kernel_rfl
theorem ts3 : (inf Try.prog 3).size = 1 := by kernel_rfl
theorem tb3 : (inf Try.prog 3).bytes = 8 := by kernel_rfl
theorem tc3 : Try.prog.cellsOf 3 = 1 := by kernel_rfl
theorem ta3 : aggT Try.prog 3 = some false := by kernel_rfl
theorem tz3 : (inf Try.prog 3).zero = some (.int .i64 0) := by kernel_rfl
theorem ty3 : zeroT Try.prog 3 = some (.int .i64 0) := by kernel_rfl
attribute [go_sem] ti3 ts3 tb3 tc3 ta3 Try.underlying3 tz3 ty3
theorem ti4 : Try.prog.info? 4 = some (inf Try.prog 4) := by kernel_rfl
theorem ts4 : (inf Try.prog 4).size = 1 := by kernel_rfl
theorem tb4 : (inf Try.prog 4).bytes = 1 := by kernel_rfl
theorem tc4 : Try.prog.cellsOf 4 = 1 := by kernel_rfl
theorem ta4 : aggT Try.prog 4 = some false := by kernel_rfl
theorem tz4 : (inf Try.prog 4).zero = some (.bool false) := by kernel_rfl
theorem ty4 : zeroT Try.prog 4 = some (.bool false) := by kernel_rfl
attribute [go_sem] ti4 ts4 tb4 tc4 ta4 Try.underlying4 tz4 ty4
theorem ti5 : Try.prog.info? 5 = some (inf Try.prog 5) := by kernel_rfl
theorem ts5 : (inf Try.prog 5).size = 1 := by kernel_rfl
theorem tb5 : (inf Try.prog 5).bytes = 1 := by kernel_rfl
theorem tc5 : Try.prog.cellsOf 5 = 1 := by kernel_rfl
theorem ta5 : aggT Try.prog 5 = some false := by kernel_rfl
theorem tz5 : (inf Try.prog 5).zero = some (.int .u8 0) := by kernel_rfl
theorem ty5 : zeroT Try.prog 5 = some (.int .u8 0) := by kernel_rfl
attribute [go_sem] ti5 ts5 tb5 tc5 ta5 Try.underlying5 tz5 ty5
theorem ti22 : Try.prog.info? 22 = some (inf Try.prog 22) := by kernel_rfl
theorem ts22 : (inf Try.prog 22).size = 1 := by kernel_rfl
theorem tb22 : (inf Try.prog 22).bytes = 24 := by kernel_rfl
theorem tc22 : Try.prog.cellsOf 22 = 1 := by kernel_rfl
theorem ta22 : aggT Try.prog 22 = some false := by kernel_rfl
theorem tz22 : (inf Try.prog 22).zero = some (.slice none 0 0) := by kernel_rfl
theorem ty22 : zeroT Try.prog 22 = some (.slice none 0 0) := by kernel_rfl
attribute [go_sem] ti22 ts22 tb22 tc22 ta22 Try.underlying22 tz22 ty22
theorem ti23 : Try.prog.info? 23 = some (inf Try.prog 23) := by kernel_rfl
theorem ts23 : (inf Try.prog 23).size = 1 := by kernel_rfl
theorem tb23 : (inf Try.prog 23).bytes = 8 := by kernel_rfl
theorem tc23 : Try.prog.cellsOf 23 = 1 := by kernel_rfl
theorem ta23 : aggT Try.prog 23 = some false := by kernel_rfl
theorem tz23 : (inf Try.prog 23).zero = some (.pointer none) := by kernel_rfl
theorem ty23 : zeroT Try.prog 23 = some (.pointer none) := by kernel_rfl
attribute [go_sem] ti23 ts23 tb23 tc23 ta23 Try.underlying23 tz23 ty23
theorem ti24 : Try.prog.info? 24 = some (inf Try.prog 24) := by kernel_rfl
theorem ts24 : (inf Try.prog 24).size = 1 := by kernel_rfl
theorem tb24 : (inf Try.prog 24).bytes = 8 := by kernel_rfl
theorem tc24 : Try.prog.cellsOf 24 = 1 := by kernel_rfl
theorem ta24 : aggT Try.prog 24 = some false := by kernel_rfl
theorem tz24 : (inf Try.prog 24).zero = some (.int .i64 0) := by kernel_rfl
theorem ty24 : zeroT Try.prog 24 = some (.int .i64 0) := by kernel_rfl
attribute [go_sem] ti24 ts24 tb24 tc24 ta24 Try.underlying24 tz24 ty24
theorem ti27 : Try.prog.info? 27 = some (inf Try.prog 27) := by kernel_rfl
theorem ts27 : (inf Try.prog 27).size = 1 := by kernel_rfl
theorem tb27 : (inf Try.prog 27).bytes = 24 := by kernel_rfl
theorem tc27 : Try.prog.cellsOf 27 = 1 := by kernel_rfl
theorem ta27 : aggT Try.prog 27 = some false := by kernel_rfl
theorem tz27 : (inf Try.prog 27).zero = some (.slice none 0 0) := by kernel_rfl
theorem ty27 : zeroT Try.prog 27 = some (.slice none 0 0) := by kernel_rfl
attribute [go_sem] ti27 ts27 tb27 tc27 ta27 Try.underlying27 tz27 ty27
theorem ti28 : Try.prog.info? 28 = some (inf Try.prog 28) := by kernel_rfl
theorem ts28 : (inf Try.prog 28).size = 1 := by kernel_rfl
theorem tb28 : (inf Try.prog 28).bytes = 24 := by kernel_rfl
theorem tc28 : Try.prog.cellsOf 28 = 1 := by kernel_rfl
theorem ta28 : aggT Try.prog 28 = some false := by kernel_rfl
theorem tz28 : (inf Try.prog 28).zero = some (.slice none 0 0) := by kernel_rfl
theorem ty28 : zeroT Try.prog 28 = some (.slice none 0 0) := by kernel_rfl
attribute [go_sem] ti28 ts28 tb28 tc28 ta28 Try.underlying28 tz28 ty28
theorem ti30 : Try.prog.info? 30 = some (inf Try.prog 30) := by kernel_rfl
theorem ts30 : (inf Try.prog 30).size = 5 := by kernel_rfl
theorem tb30 : (inf Try.prog 30).bytes = 88 := by kernel_rfl
theorem tc30 : Try.prog.cellsOf 30 = 5 := by kernel_rfl
theorem ta30 : aggT Try.prog 30 = some true := by kernel_rfl
theorem tg30 : Try.prog.eqGuardType Try.prog.depth 30 = false := by kernel_rfl
theorem th30 : Try.prog.stoodInHeld 30 = false := by kernel_rfl
theorem tz30 : (inf Try.prog 30).zero = some (.agg #[.slice none 0 0, .int .i64 0, .int .i64 0, .slice none 0 0, .slice none 0 0]) := by kernel_rfl
theorem ty30 : zeroT Try.prog 30 = some (.agg #[.slice none 0 0, .int .i64 0, .int .i64 0, .slice none 0 0, .slice none 0 0]) := by kernel_rfl
attribute [go_sem] ti30 ts30 tb30 tc30 ta30 Try.underlying30 tg30 th30 tz30 ty30
theorem ti35 : Try.prog.info? 35 = some (inf Try.prog 35) := by kernel_rfl
theorem ts35 : (inf Try.prog 35).size = 4 := by kernel_rfl
theorem tb35 : (inf Try.prog 35).bytes = 32 := by kernel_rfl
theorem tc35 : Try.prog.cellsOf 35 = 4 := by kernel_rfl
theorem ta35 : aggT Try.prog 35 = some true := by kernel_rfl
theorem tg35 : Try.prog.eqGuardType Try.prog.depth 35 = false := by kernel_rfl
theorem th35 : Try.prog.stoodInHeld 35 = false := by kernel_rfl
theorem tz35 : (inf Try.prog 35).zero = some (.agg #[.int .u8 0, .int .i64 0, .int .i64 0, .int .i64 0]) := by kernel_rfl
theorem ty35 : zeroT Try.prog 35 = some (.agg #[.int .u8 0, .int .i64 0, .int .i64 0, .int .i64 0]) := by kernel_rfl
attribute [go_sem] ti35 ts35 tb35 tc35 ta35 Try.underlying35 tg35 th35 tz35 ty35
theorem ti39 : Try.prog.info? 39 = some (inf Try.prog 39) := by kernel_rfl
theorem ts39 : (inf Try.prog 39).size = 1 := by kernel_rfl
theorem tb39 : (inf Try.prog 39).bytes = 24 := by kernel_rfl
theorem tc39 : Try.prog.cellsOf 39 = 1 := by kernel_rfl
theorem ta39 : aggT Try.prog 39 = some false := by kernel_rfl
theorem tz39 : (inf Try.prog 39).zero = some (.slice none 0 0) := by kernel_rfl
theorem ty39 : zeroT Try.prog 39 = some (.slice none 0 0) := by kernel_rfl
attribute [go_sem] ti39 ts39 tb39 tc39 ta39 Try.underlying39 tz39 ty39
theorem ti41 : Try.prog.info? 41 = some (inf Try.prog 41) := by kernel_rfl
theorem ts41 : (inf Try.prog 41).size = 1 := by kernel_rfl
theorem tb41 : (inf Try.prog 41).bytes = 24 := by kernel_rfl
theorem tc41 : Try.prog.cellsOf 41 = 1 := by kernel_rfl
theorem ta41 : aggT Try.prog 41 = some false := by kernel_rfl
theorem tz41 : (inf Try.prog 41).zero = some (.slice none 0 0) := by kernel_rfl
theorem ty41 : zeroT Try.prog 41 = some (.slice none 0 0) := by kernel_rfl
attribute [go_sem] ti41 ts41 tb41 tc41 ta41 Try.underlying41 tz41 ty41
theorem ti50 : Try.prog.info? 50 = some (inf Try.prog 50) := by kernel_rfl
theorem ts50 : (inf Try.prog 50).size = 1 := by kernel_rfl
theorem tb50 : (inf Try.prog 50).bytes = 24 := by kernel_rfl
theorem tc50 : Try.prog.cellsOf 50 = 1 := by kernel_rfl
theorem ta50 : aggT Try.prog 50 = some false := by kernel_rfl
theorem tz50 : (inf Try.prog 50).zero = some (.slice none 0 0) := by kernel_rfl
theorem ty50 : zeroT Try.prog 50 = some (.slice none 0 0) := by kernel_rfl
attribute [go_sem] ti50 ts50 tb50 tc50 ta50 Try.underlying50 tz50 ty50
theorem ti51 : Try.prog.info? 51 = some (inf Try.prog 51) := by kernel_rfl
theorem ts51 : (inf Try.prog 51).size = 1 := by kernel_rfl
theorem tb51 : (inf Try.prog 51).bytes = 8 := by kernel_rfl
theorem tc51 : Try.prog.cellsOf 51 = 1 := by kernel_rfl
theorem ta51 : aggT Try.prog 51 = some false := by kernel_rfl
theorem tz51 : (inf Try.prog 51).zero = some (.pointer none) := by kernel_rfl
theorem ty51 : zeroT Try.prog 51 = some (.pointer none) := by kernel_rfl
attribute [go_sem] ti51 ts51 tb51 tc51 ta51 Try.underlying51 tz51 ty51
theorem ti55 : Try.prog.info? 55 = some (inf Try.prog 55) := by kernel_rfl
theorem ts55 : (inf Try.prog 55).size = 3 := by kernel_rfl
theorem tb55 : (inf Try.prog 55).bytes = 24 := by kernel_rfl
theorem tc55 : Try.prog.cellsOf 55 = 3 := by kernel_rfl
theorem ta55 : aggT Try.prog 55 = some true := by kernel_rfl
theorem tg55 : Try.prog.eqGuardType Try.prog.depth 55 = false := by kernel_rfl
theorem th55 : Try.prog.stoodInHeld 55 = false := by kernel_rfl
theorem tz55 : (inf Try.prog 55).zero = some (.agg #[.int .u8 0, .int .i64 0, .int .i64 0]) := by kernel_rfl
theorem ty55 : zeroT Try.prog 55 = some (.agg #[.int .u8 0, .int .i64 0, .int .i64 0]) := by kernel_rfl
attribute [go_sem] ti55 ts55 tb55 tc55 ta55 Try.underlying55 tg55 th55 tz55 ty55
theorem ti56 : Try.prog.info? 56 = some (inf Try.prog 56) := by kernel_rfl
theorem ts56 : (inf Try.prog 56).size = 1 := by kernel_rfl
theorem tb56 : (inf Try.prog 56).bytes = 24 := by kernel_rfl
theorem tc56 : Try.prog.cellsOf 56 = 1 := by kernel_rfl
theorem ta56 : aggT Try.prog 56 = some false := by kernel_rfl
theorem tz56 : (inf Try.prog 56).zero = some (.slice none 0 0) := by kernel_rfl
theorem ty56 : zeroT Try.prog 56 = some (.slice none 0 0) := by kernel_rfl
attribute [go_sem] ti56 ts56 tb56 tc56 ta56 Try.underlying56 tz56 ty56
theorem ti57 : Try.prog.info? 57 = some (inf Try.prog 57) := by kernel_rfl
theorem ts57 : (inf Try.prog 57).size = 1 := by kernel_rfl
theorem tb57 : (inf Try.prog 57).bytes = 24 := by kernel_rfl
theorem tc57 : Try.prog.cellsOf 57 = 1 := by kernel_rfl
theorem ta57 : aggT Try.prog 57 = some false := by kernel_rfl
theorem tz57 : (inf Try.prog 57).zero = some (.slice none 0 0) := by kernel_rfl
theorem ty57 : zeroT Try.prog 57 = some (.slice none 0 0) := by kernel_rfl
attribute [go_sem] ti57 ts57 tb57 tc57 ta57 Try.underlying57 tz57 ty57
theorem ti59 : Try.prog.info? 59 = some (inf Try.prog 59) := by kernel_rfl
theorem ts59 : (inf Try.prog 59).size = 5 := by kernel_rfl
theorem tb59 : (inf Try.prog 59).bytes = 104 := by kernel_rfl
theorem tc59 : Try.prog.cellsOf 59 = 5 := by kernel_rfl
theorem ta59 : aggT Try.prog 59 = some true := by kernel_rfl
theorem tg59 : Try.prog.eqGuardType Try.prog.depth 59 = false := by kernel_rfl
theorem th59 : Try.prog.stoodInHeld 59 = false := by kernel_rfl
theorem tz59 : (inf Try.prog 59).zero = some (.agg #[.pointer none, .slice none 0 0, .slice none 0 0, .slice none 0 0, .slice none 0 0]) := by kernel_rfl
theorem ty59 : zeroT Try.prog 59 = some (.agg #[.pointer none, .slice none 0 0, .slice none 0 0, .slice none 0 0, .slice none 0 0]) := by kernel_rfl
attribute [go_sem] ti59 ts59 tb59 tc59 ta59 Try.underlying59 tg59 th59 tz59 ty59
theorem ti62 : Try.prog.info? 62 = some (inf Try.prog 62) := by kernel_rfl
theorem ts62 : (inf Try.prog 62).size = 1 := by kernel_rfl
theorem tb62 : (inf Try.prog 62).bytes = 24 := by kernel_rfl
theorem tc62 : Try.prog.cellsOf 62 = 1 := by kernel_rfl
theorem ta62 : aggT Try.prog 62 = some false := by kernel_rfl
theorem tz62 : (inf Try.prog 62).zero = some (.slice none 0 0) := by kernel_rfl
theorem ty62 : zeroT Try.prog 62 = some (.slice none 0 0) := by kernel_rfl
attribute [go_sem] ti62 ts62 tb62 tc62 ta62 Try.underlying62 tz62 ty62
theorem ti63 : Try.prog.info? 63 = some (inf Try.prog 63) := by kernel_rfl
theorem ts63 : (inf Try.prog 63).size = 1 := by kernel_rfl
theorem tb63 : (inf Try.prog 63).bytes = 8 := by kernel_rfl
theorem tc63 : Try.prog.cellsOf 63 = 1 := by kernel_rfl
theorem ta63 : aggT Try.prog 63 = some false := by kernel_rfl
theorem tz63 : (inf Try.prog 63).zero = some (.pointer none) := by kernel_rfl
theorem ty63 : zeroT Try.prog 63 = some (.pointer none) := by kernel_rfl
attribute [go_sem] ti63 ts63 tb63 tc63 ta63 Try.underlying63 tz63 ty63
theorem ti66 : Try.prog.info? 66 = some (inf Try.prog 66) := by kernel_rfl
theorem ts66 : (inf Try.prog 66).size = 3 := by kernel_rfl
theorem tb66 : (inf Try.prog 66).bytes = 40 := by kernel_rfl
theorem tc66 : Try.prog.cellsOf 66 = 3 := by kernel_rfl
theorem ta66 : aggT Try.prog 66 = some true := by kernel_rfl
theorem tg66 : Try.prog.eqGuardType Try.prog.depth 66 = false := by kernel_rfl
theorem th66 : Try.prog.stoodInHeld 66 = false := by kernel_rfl
theorem tz66 : (inf Try.prog 66).zero = some (.agg #[.int .i64 0, .int .i64 0, .slice none 0 0]) := by kernel_rfl
theorem ty66 : zeroT Try.prog 66 = some (.agg #[.int .i64 0, .int .i64 0, .slice none 0 0]) := by kernel_rfl
attribute [go_sem] ti66 ts66 tb66 tc66 ta66 Try.underlying66 tg66 th66 tz66 ty66
theorem ti68 : Try.prog.info? 68 = some (inf Try.prog 68) := by kernel_rfl
theorem ts68 : (inf Try.prog 68).size = 3 := by kernel_rfl
theorem tb68 : (inf Try.prog 68).bytes = 24 := by kernel_rfl
theorem tc68 : Try.prog.cellsOf 68 = 3 := by kernel_rfl
theorem ta68 : aggT Try.prog 68 = some true := by kernel_rfl
theorem tg68 : Try.prog.eqGuardType Try.prog.depth 68 = false := by kernel_rfl
theorem th68 : Try.prog.stoodInHeld 68 = false := by kernel_rfl
theorem tz68 : (inf Try.prog 68).zero = some (.agg #[.int .i64 0, .int .i64 0, .bool false]) := by kernel_rfl
theorem ty68 : zeroT Try.prog 68 = some (.agg #[.int .i64 0, .int .i64 0, .bool false]) := by kernel_rfl
attribute [go_sem] ti68 ts68 tb68 tc68 ta68 Try.underlying68 tg68 th68 tz68 ty68
theorem ti74 : Try.prog.info? 74 = some (inf Try.prog 74) := by kernel_rfl
theorem ts74 : (inf Try.prog 74).size = 3 := by kernel_rfl
theorem tb74 : (inf Try.prog 74).bytes = 24 := by kernel_rfl
theorem tc74 : Try.prog.cellsOf 74 = 3 := by kernel_rfl
theorem ta74 : aggT Try.prog 74 = some true := by kernel_rfl
theorem tg74 : Try.prog.eqGuardType Try.prog.depth 74 = false := by kernel_rfl
theorem th74 : Try.prog.stoodInHeld 74 = false := by kernel_rfl
theorem tz74 : (inf Try.prog 74).zero = some (.agg #[.int .i64 0, .int .i64 0, .int .i64 0]) := by kernel_rfl
theorem ty74 : zeroT Try.prog 74 = some (.agg #[.int .i64 0, .int .i64 0, .int .i64 0]) := by kernel_rfl
attribute [go_sem] ti74 ts74 tb74 tc74 ta74 Try.underlying74 tg74 th74 tz74 ty74
theorem ti76 : Try.prog.info? 76 = some (inf Try.prog 76) := by kernel_rfl
theorem ts76 : (inf Try.prog 76).size = 4 := by kernel_rfl
theorem tb76 : (inf Try.prog 76).bytes = 48 := by kernel_rfl
theorem tc76 : Try.prog.cellsOf 76 = 4 := by kernel_rfl
theorem ta76 : aggT Try.prog 76 = some true := by kernel_rfl
theorem tg76 : Try.prog.eqGuardType Try.prog.depth 76 = false := by kernel_rfl
theorem th76 : Try.prog.stoodInHeld 76 = false := by kernel_rfl
theorem tz76 : (inf Try.prog 76).zero = some (.agg #[.bool false, .int .i64 0, .int .i64 0, .slice none 0 0]) := by kernel_rfl
theorem ty76 : zeroT Try.prog 76 = some (.agg #[.bool false, .int .i64 0, .int .i64 0, .slice none 0 0]) := by kernel_rfl
attribute [go_sem] ti76 ts76 tb76 tc76 ta76 Try.underlying76 tg76 th76 tz76 ty76
theorem ti77 : Try.prog.info? 77 = some (inf Try.prog 77) := by kernel_rfl
theorem ts77 : (inf Try.prog 77).size = 1 := by kernel_rfl
theorem tb77 : (inf Try.prog 77).bytes = 8 := by kernel_rfl
theorem tc77 : Try.prog.cellsOf 77 = 1 := by kernel_rfl
theorem ta77 : aggT Try.prog 77 = some false := by kernel_rfl
theorem tz77 : (inf Try.prog 77).zero = some (.map none) := by kernel_rfl
theorem ty77 : zeroT Try.prog 77 = some (.map none) := by kernel_rfl
attribute [go_sem] ti77 ts77 tb77 tc77 ta77 Try.underlying77 tz77 ty77
theorem ti79 : Try.prog.info? 79 = some (inf Try.prog 79) := by kernel_rfl
theorem ts79 : (inf Try.prog 79).size = 5 := by kernel_rfl
theorem tb79 : (inf Try.prog 79).bytes = 56 := by kernel_rfl
theorem tc79 : Try.prog.cellsOf 79 = 5 := by kernel_rfl
theorem ta79 : aggT Try.prog 79 = some true := by kernel_rfl
theorem tg79 : Try.prog.eqGuardType Try.prog.depth 79 = false := by kernel_rfl
theorem th79 : Try.prog.stoodInHeld 79 = false := by kernel_rfl
theorem tz79 : (inf Try.prog 79).zero = some (.agg #[.int .i64 0, .int .i64 0, .int .i64 0, .slice none 0 0, .map none]) := by kernel_rfl
theorem ty79 : zeroT Try.prog 79 = some (.agg #[.int .i64 0, .int .i64 0, .int .i64 0, .slice none 0 0, .map none]) := by kernel_rfl
attribute [go_sem] ti79 ts79 tb79 tc79 ta79 Try.underlying79 tg79 th79 tz79 ty79
theorem ti80 : Try.prog.info? 80 = some (inf Try.prog 80) := by kernel_rfl
theorem ts80 : (inf Try.prog 80).size = 1 := by kernel_rfl
theorem tb80 : (inf Try.prog 80).bytes = 24 := by kernel_rfl
theorem tc80 : Try.prog.cellsOf 80 = 1 := by kernel_rfl
theorem ta80 : aggT Try.prog 80 = some false := by kernel_rfl
theorem tz80 : (inf Try.prog 80).zero = some (.slice none 0 0) := by kernel_rfl
theorem ty80 : zeroT Try.prog 80 = some (.slice none 0 0) := by kernel_rfl
attribute [go_sem] ti80 ts80 tb80 tc80 ta80 Try.underlying80 tz80 ty80
theorem ti83 : Try.prog.info? 83 = some (inf Try.prog 83) := by kernel_rfl
theorem ts83 : (inf Try.prog 83).size = 1 := by kernel_rfl
theorem tb83 : (inf Try.prog 83).bytes = 8 := by kernel_rfl
theorem tc83 : Try.prog.cellsOf 83 = 1 := by kernel_rfl
theorem ta83 : aggT Try.prog 83 = some false := by kernel_rfl
theorem tz83 : (inf Try.prog 83).zero = some (.pointer none) := by kernel_rfl
theorem ty83 : zeroT Try.prog 83 = some (.pointer none) := by kernel_rfl
attribute [go_sem] ti83 ts83 tb83 tc83 ta83 Try.underlying83 tz83 ty83
theorem ti84 : Try.prog.info? 84 = some (inf Try.prog 84) := by kernel_rfl
theorem ts84 : (inf Try.prog 84).size = 3 := by kernel_rfl
theorem tb84 : (inf Try.prog 84).bytes = 24 := by kernel_rfl
theorem tc84 : Try.prog.cellsOf 84 = 3 := by kernel_rfl
theorem ta84 : aggT Try.prog 84 = some true := by kernel_rfl
theorem tg84 : Try.prog.eqGuardType Try.prog.depth 84 = false := by kernel_rfl
theorem th84 : Try.prog.stoodInHeld 84 = false := by kernel_rfl
theorem tz84 : (inf Try.prog 84).zero = some (.agg #[.int .i64 0, .int .i64 0, .int .i64 0]) := by kernel_rfl
theorem ty84 : zeroT Try.prog 84 = some (.agg #[.int .i64 0, .int .i64 0, .int .i64 0]) := by kernel_rfl
attribute [go_sem] ti84 ts84 tb84 tc84 ta84 Try.underlying84 tg84 th84 tz84 ty84
theorem ti88 : Try.prog.info? 88 = some (inf Try.prog 88) := by kernel_rfl
theorem ts88 : (inf Try.prog 88).size = 3 := by kernel_rfl
theorem tb88 : (inf Try.prog 88).bytes = 24 := by kernel_rfl
theorem tc88 : Try.prog.cellsOf 88 = 3 := by kernel_rfl
theorem ta88 : aggT Try.prog 88 = some true := by kernel_rfl
theorem tg88 : Try.prog.eqGuardType Try.prog.depth 88 = false := by kernel_rfl
theorem th88 : Try.prog.stoodInHeld 88 = false := by kernel_rfl
theorem tz88 : (inf Try.prog 88).zero = some (.agg #[.int .i64 0, .int .i64 0, .int .i64 0]) := by kernel_rfl
theorem ty88 : zeroT Try.prog 88 = some (.agg #[.int .i64 0, .int .i64 0, .int .i64 0]) := by kernel_rfl
attribute [go_sem] ti88 ts88 tb88 tc88 ta88 Try.underlying88 tg88 th88 tz88 ty88
theorem ti89 : Try.prog.info? 89 = some (inf Try.prog 89) := by kernel_rfl
theorem ts89 : (inf Try.prog 89).size = 1 := by kernel_rfl
theorem tb89 : (inf Try.prog 89).bytes = 8 := by kernel_rfl
theorem tc89 : Try.prog.cellsOf 89 = 1 := by kernel_rfl
theorem ta89 : aggT Try.prog 89 = some false := by kernel_rfl
theorem tz89 : (inf Try.prog 89).zero = some (.pointer none) := by kernel_rfl
theorem ty89 : zeroT Try.prog 89 = some (.pointer none) := by kernel_rfl
attribute [go_sem] ti89 ts89 tb89 tc89 ta89 Try.underlying89 tz89 ty89
theorem ti90 : Try.prog.info? 90 = some (inf Try.prog 90) := by kernel_rfl
theorem ts90 : (inf Try.prog 90).size = 1 := by kernel_rfl
theorem tb90 : (inf Try.prog 90).bytes = 24 := by kernel_rfl
theorem tc90 : Try.prog.cellsOf 90 = 1 := by kernel_rfl
theorem ta90 : aggT Try.prog 90 = some false := by kernel_rfl
theorem tz90 : (inf Try.prog 90).zero = some (.slice none 0 0) := by kernel_rfl
theorem ty90 : zeroT Try.prog 90 = some (.slice none 0 0) := by kernel_rfl
attribute [go_sem] ti90 ts90 tb90 tc90 ta90 Try.underlying90 tz90 ty90
theorem ti91 : Try.prog.info? 91 = some (inf Try.prog 91) := by kernel_rfl
theorem ts91 : (inf Try.prog 91).size = 1 := by kernel_rfl
theorem tb91 : (inf Try.prog 91).bytes = 8 := by kernel_rfl
theorem tc91 : Try.prog.cellsOf 91 = 1 := by kernel_rfl
theorem ta91 : aggT Try.prog 91 = some false := by kernel_rfl
theorem tz91 : (inf Try.prog 91).zero = some (.pointer none) := by kernel_rfl
theorem ty91 : zeroT Try.prog 91 = some (.pointer none) := by kernel_rfl
attribute [go_sem] ti91 ts91 tb91 tc91 ta91 Try.underlying91 tz91 ty91
end Go.Proofs.Ytbcgipcgcjkfcaa
