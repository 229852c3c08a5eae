/- the facts of the seat's types. Printed by a small program. -/
import Derived.Test.YtghohleoodkdgaaChecked
import Derived.Test.YtghohleoodkdgaaAmWalk
import Derived.KernelRfl
namespace Go.Proofs.Ytghohleoodkdgaa
open Go.AM
theorem ti3 : Try.prog.info? 3 = some (inf Try.prog 3) := by kernel_rfl
theorem ts3 : (inf Try.prog 3).size = 1 := by kernel_rfl
theorem tb3 : (inf Try.prog 3).bytes = 8 := by kernel_rfl
theorem tc3 : Try.prog.cellsOf 3 = 1 := by kernel_rfl
theorem ta3 : aggT Try.prog 3 = some false := by kernel_rfl
theorem tz3 : (inf Try.prog 3).zero = some (.int .i64 0) := by kernel_rfl
theorem ty3 : zeroT Try.prog 3 = some (.int .i64 0) := by kernel_rfl
attribute [go_sem] ti3 ts3 tb3 tc3 ta3 Try.underlying3 tz3 ty3
theorem ti4 : Try.prog.info? 4 = some (inf Try.prog 4) := by kernel_rfl
theorem ts4 : (inf Try.prog 4).size = 1 := by kernel_rfl
theorem tb4 : (inf Try.prog 4).bytes = 1 := by kernel_rfl
theorem tc4 : Try.prog.cellsOf 4 = 1 := by kernel_rfl
theorem ta4 : aggT Try.prog 4 = some false := by kernel_rfl
theorem tz4 : (inf Try.prog 4).zero = some (.bool false) := by kernel_rfl
theorem ty4 : zeroT Try.prog 4 = some (.bool false) := by kernel_rfl
attribute [go_sem] ti4 ts4 tb4 tc4 ta4 Try.underlying4 tz4 ty4
theorem ti5 : Try.prog.info? 5 = some (inf Try.prog 5) := by kernel_rfl
theorem ts5 : (inf Try.prog 5).size = 1 := by kernel_rfl
theorem tb5 : (inf Try.prog 5).bytes = 1 := by kernel_rfl
theorem tc5 : Try.prog.cellsOf 5 = 1 := by kernel_rfl
theorem ta5 : aggT Try.prog 5 = some false := by kernel_rfl
theorem tz5 : (inf Try.prog 5).zero = some (.int .u8 0) := by kernel_rfl
theorem ty5 : zeroT Try.prog 5 = some (.int .u8 0) := by kernel_rfl
attribute [go_sem] ti5 ts5 tb5 tc5 ta5 Try.underlying5 tz5 ty5
theorem ti9 : Try.prog.info? 9 = some (inf Try.prog 9) := by kernel_rfl
theorem ts9 : (inf Try.prog 9).size = 1 := by kernel_rfl
theorem tb9 : (inf Try.prog 9).bytes = 16 := by kernel_rfl
theorem tc9 : Try.prog.cellsOf 9 = 1 := by kernel_rfl
theorem ta9 : aggT Try.prog 9 = some false := by kernel_rfl
theorem tz9 : (inf Try.prog 9).zero = some (.string ByteArray.empty) := by kernel_rfl
theorem ty9 : zeroT Try.prog 9 = some (.string ByteArray.empty) := by kernel_rfl
attribute [go_sem] ti9 ts9 tb9 tc9 ta9 Try.underlying9 tz9 ty9
theorem ti22 : Try.prog.info? 22 = some (inf Try.prog 22) := by kernel_rfl
theorem ts22 : (inf Try.prog 22).size = 1 := by kernel_rfl
theorem tb22 : (inf Try.prog 22).bytes = 24 := by kernel_rfl
theorem tc22 : Try.prog.cellsOf 22 = 1 := by kernel_rfl
theorem ta22 : aggT Try.prog 22 = some false := by kernel_rfl
theorem tz22 : (inf Try.prog 22).zero = some (.slice none 0 0) := by kernel_rfl
theorem ty22 : zeroT Try.prog 22 = some (.slice none 0 0) := by kernel_rfl
attribute [go_sem] ti22 ts22 tb22 tc22 ta22 Try.underlying22 tz22 ty22
theorem ti23 : Try.prog.info? 23 = some (inf Try.prog 23) := by kernel_rfl
theorem ts23 : (inf Try.prog 23).size = 1 := by kernel_rfl
theorem tb23 : (inf Try.prog 23).bytes = 24 := by kernel_rfl
theorem tc23 : Try.prog.cellsOf 23 = 1 := by kernel_rfl
theorem ta23 : aggT Try.prog 23 = some false := by kernel_rfl
theorem tz23 : (inf Try.prog 23).zero = some (.slice none 0 0) := by kernel_rfl
theorem ty23 : zeroT Try.prog 23 = some (.slice none 0 0) := by kernel_rfl
attribute [go_sem] ti23 ts23 tb23 tc23 ta23 Try.underlying23 tz23 ty23
theorem ti24 : Try.prog.info? 24 = some (inf Try.prog 24) := by kernel_rfl
theorem ts24 : (inf Try.prog 24).size = 1 := by kernel_rfl
theorem tb24 : (inf Try.prog 24).bytes = 8 := by kernel_rfl
theorem tc24 : Try.prog.cellsOf 24 = 1 := by kernel_rfl
theorem ta24 : aggT Try.prog 24 = some false := by kernel_rfl
theorem tz24 : (inf Try.prog 24).zero = some (.int .i64 0) := by kernel_rfl
theorem ty24 : zeroT Try.prog 24 = some (.int .i64 0) := by kernel_rfl
attribute [go_sem] ti24 ts24 tb24 tc24 ta24 Try.underlying24 tz24 ty24
theorem ti27 : Try.prog.info? 27 = some (inf Try.prog 27) := by kernel_rfl
theorem ts27 : (inf Try.prog 27).size = 1 := by kernel_rfl
theorem tb27 : (inf Try.prog 27).bytes = 8 := by kernel_rfl
theorem tc27 : Try.prog.cellsOf 27 = 1 := by kernel_rfl
theorem ta27 : aggT Try.prog 27 = some false := by kernel_rfl
theorem tz27 : (inf Try.prog 27).zero = some (.pointer none) := by kernel_rfl
theorem ty27 : zeroT Try.prog 27 = some (.pointer none) := by kernel_rfl
attribute [go_sem] ti27 ts27 tb27 tc27 ta27 Try.underlying27 tz27 ty27
theorem ti34 : Try.prog.info? 34 = some (inf Try.prog 34) := by kernel_rfl
theorem ts34 : (inf Try.prog 34).size = 2 := by kernel_rfl
theorem tb34 : (inf Try.prog 34).bytes = 16 := by kernel_rfl
theorem tc34 : Try.prog.cellsOf 34 = 2 := by kernel_rfl
theorem ta34 : aggT Try.prog 34 = some true := by kernel_rfl
theorem tg34 : Try.prog.eqGuardType Try.prog.depth 34 = false := by kernel_rfl
theorem th34 : Try.prog.stoodInHeld 34 = false := by kernel_rfl
theorem tz34 : (inf Try.prog 34).zero = some (.agg #[.int .i64 0, .int .i64 0]) := by kernel_rfl
theorem ty34 : zeroT Try.prog 34 = some (.agg #[.int .i64 0, .int .i64 0]) := by kernel_rfl
attribute [go_sem] ti34 ts34 tb34 tc34 ta34 Try.underlying34 tg34 th34 tz34 ty34
theorem ti37 : Try.prog.info? 37 = some (inf Try.prog 37) := by kernel_rfl
theorem ts37 : (inf Try.prog 37).size = 1 := by kernel_rfl
theorem tb37 : (inf Try.prog 37).bytes = 24 := by kernel_rfl
theorem tc37 : Try.prog.cellsOf 37 = 1 := by kernel_rfl
theorem ta37 : aggT Try.prog 37 = some false := by kernel_rfl
theorem tz37 : (inf Try.prog 37).zero = some (.slice none 0 0) := by kernel_rfl
theorem ty37 : zeroT Try.prog 37 = some (.slice none 0 0) := by kernel_rfl
attribute [go_sem] ti37 ts37 tb37 tc37 ta37 Try.underlying37 tz37 ty37
theorem ti39 : Try.prog.info? 39 = some (inf Try.prog 39) := by kernel_rfl
theorem ts39 : (inf Try.prog 39).size = 8 := by kernel_rfl
theorem tb39 : (inf Try.prog 39).bytes = 80 := by kernel_rfl
theorem tc39 : Try.prog.cellsOf 39 = 8 := by kernel_rfl
theorem ta39 : aggT Try.prog 39 = some true := by kernel_rfl
theorem tg39 : Try.prog.eqGuardType Try.prog.depth 39 = false := by kernel_rfl
theorem th39 : Try.prog.stoodInHeld 39 = false := by kernel_rfl
theorem tz39 : (inf Try.prog 39).zero = some (.agg #[.int .i64 0, .int .i64 0, .int .i64 0, .int .i64 0, .int .i64 0, .int .i64 0, .int .i64 0, .slice none 0 0]) := by kernel_rfl
theorem ty39 : zeroT Try.prog 39 = some (.agg #[.int .i64 0, .int .i64 0, .int .i64 0, .int .i64 0, .int .i64 0, .int .i64 0, .int .i64 0, .slice none 0 0]) := by kernel_rfl
attribute [go_sem] ti39 ts39 tb39 tc39 ta39 Try.underlying39 tg39 th39 tz39 ty39
theorem ti43 : Try.prog.info? 43 = some (inf Try.prog 43) := by kernel_rfl
theorem ts43 : (inf Try.prog 43).size = 5 := by kernel_rfl
theorem tb43 : (inf Try.prog 43).bytes = 56 := by kernel_rfl
theorem tc43 : Try.prog.cellsOf 43 = 5 := by kernel_rfl
theorem ta43 : aggT Try.prog 43 = some true := by kernel_rfl
theorem tg43 : Try.prog.eqGuardType Try.prog.depth 43 = false := by kernel_rfl
theorem th43 : Try.prog.stoodInHeld 43 = false := by kernel_rfl
theorem tz43 : (inf Try.prog 43).zero = some (.agg #[.bool false, .slice none 0 0, .int .i64 0, .int .i64 0, .int .i64 0]) := by kernel_rfl
theorem ty43 : zeroT Try.prog 43 = some (.agg #[.bool false, .slice none 0 0, .int .i64 0, .int .i64 0, .int .i64 0]) := by kernel_rfl
attribute [go_sem] ti43 ts43 tb43 tc43 ta43 Try.underlying43 tg43 th43 tz43 ty43
theorem ti44 : Try.prog.info? 44 = some (inf Try.prog 44) := by kernel_rfl
theorem ts44 : (inf Try.prog 44).size = 1 := by kernel_rfl
theorem tb44 : (inf Try.prog 44).bytes = 24 := by kernel_rfl
theorem tc44 : Try.prog.cellsOf 44 = 1 := by kernel_rfl
theorem ta44 : aggT Try.prog 44 = some false := by kernel_rfl
theorem tz44 : (inf Try.prog 44).zero = some (.slice none 0 0) := by kernel_rfl
theorem ty44 : zeroT Try.prog 44 = some (.slice none 0 0) := by kernel_rfl
attribute [go_sem] ti44 ts44 tb44 tc44 ta44 Try.underlying44 tz44 ty44
theorem ti45 : Try.prog.info? 45 = some (inf Try.prog 45) := by kernel_rfl
theorem ts45 : (inf Try.prog 45).size = 1 := by kernel_rfl
theorem tb45 : (inf Try.prog 45).bytes = 8 := by kernel_rfl
theorem tc45 : Try.prog.cellsOf 45 = 1 := by kernel_rfl
theorem ta45 : aggT Try.prog 45 = some false := by kernel_rfl
theorem tz45 : (inf Try.prog 45).zero = some (.int .u64 0) := by kernel_rfl
theorem ty45 : zeroT Try.prog 45 = some (.int .u64 0) := by kernel_rfl
attribute [go_sem] ti45 ts45 tb45 tc45 ta45 Try.underlying45 tz45 ty45
theorem ti48 : Try.prog.info? 48 = some (inf Try.prog 48) := by kernel_rfl
theorem ts48 : (inf Try.prog 48).size = 1 := by kernel_rfl
theorem tb48 : (inf Try.prog 48).bytes = 24 := by kernel_rfl
theorem tc48 : Try.prog.cellsOf 48 = 1 := by kernel_rfl
theorem ta48 : aggT Try.prog 48 = some false := by kernel_rfl
theorem tz48 : (inf Try.prog 48).zero = some (.slice none 0 0) := by kernel_rfl
theorem ty48 : zeroT Try.prog 48 = some (.slice none 0 0) := by kernel_rfl
attribute [go_sem] ti48 ts48 tb48 tc48 ta48 Try.underlying48 tz48 ty48
theorem ti56 : Try.prog.info? 56 = some (inf Try.prog 56) := by kernel_rfl
theorem ts56 : (inf Try.prog 56).size = 1 := by kernel_rfl
theorem tb56 : (inf Try.prog 56).bytes = 8 := by kernel_rfl
theorem tc56 : Try.prog.cellsOf 56 = 1 := by kernel_rfl
theorem ta56 : aggT Try.prog 56 = some false := by kernel_rfl
theorem tz56 : (inf Try.prog 56).zero = some (.nilFunc) := by kernel_rfl
theorem ty56 : zeroT Try.prog 56 = some (.nilFunc) := by kernel_rfl
attribute [go_sem] ti56 ts56 tb56 tc56 ta56 Try.underlying56 tz56 ty56
theorem ti58 : Try.prog.info? 58 = some (inf Try.prog 58) := by kernel_rfl
theorem ts58 : (inf Try.prog 58).size = 1 := by kernel_rfl
theorem tb58 : (inf Try.prog 58).bytes = 24 := by kernel_rfl
theorem tc58 : Try.prog.cellsOf 58 = 1 := by kernel_rfl
theorem ta58 : aggT Try.prog 58 = some true := by kernel_rfl
theorem tg58 : Try.prog.eqGuardType Try.prog.depth 58 = false := by kernel_rfl
theorem th58 : Try.prog.stoodInHeld 58 = false := by kernel_rfl
theorem tz58 : (inf Try.prog 58).zero = some (.agg #[.slice none 0 0]) := by kernel_rfl
theorem ty58 : zeroT Try.prog 58 = some (.agg #[.slice none 0 0]) := by kernel_rfl
attribute [go_sem] ti58 ts58 tb58 tc58 ta58 Try.underlying58 tg58 th58 tz58 ty58
theorem ti59 : Try.prog.info? 59 = some (inf Try.prog 59) := by kernel_rfl
theorem ts59 : (inf Try.prog 59).size = 1 := by kernel_rfl
theorem tb59 : (inf Try.prog 59).bytes = 24 := by kernel_rfl
theorem tc59 : Try.prog.cellsOf 59 = 1 := by kernel_rfl
theorem ta59 : aggT Try.prog 59 = some false := by kernel_rfl
theorem tz59 : (inf Try.prog 59).zero = some (.slice none 0 0) := by kernel_rfl
theorem ty59 : zeroT Try.prog 59 = some (.slice none 0 0) := by kernel_rfl
attribute [go_sem] ti59 ts59 tb59 tc59 ta59 Try.underlying59 tz59 ty59
theorem ti61 : Try.prog.info? 61 = some (inf Try.prog 61) := by kernel_rfl
theorem ts61 : (inf Try.prog 61).size = 1 := by kernel_rfl
theorem tb61 : (inf Try.prog 61).bytes = 8 := by kernel_rfl
theorem tc61 : Try.prog.cellsOf 61 = 1 := by kernel_rfl
theorem ta61 : aggT Try.prog 61 = some false := by kernel_rfl
theorem tz61 : (inf Try.prog 61).zero = some (.pointer none) := by kernel_rfl
theorem ty61 : zeroT Try.prog 61 = some (.pointer none) := by kernel_rfl
attribute [go_sem] ti61 ts61 tb61 tc61 ta61 Try.underlying61 tz61 ty61
theorem ti62 : Try.prog.info? 62 = some (inf Try.prog 62) := by kernel_rfl
theorem ts62 : (inf Try.prog 62).size = 1 := by kernel_rfl
theorem tb62 : (inf Try.prog 62).bytes = 8 := by kernel_rfl
theorem tc62 : Try.prog.cellsOf 62 = 1 := by kernel_rfl
theorem ta62 : aggT Try.prog 62 = some false := by kernel_rfl
theorem tz62 : (inf Try.prog 62).zero = some (.pointer none) := by kernel_rfl
theorem ty62 : zeroT Try.prog 62 = some (.pointer none) := by kernel_rfl
attribute [go_sem] ti62 ts62 tb62 tc62 ta62 Try.underlying62 tz62 ty62
theorem ti68 : Try.prog.info? 68 = some (inf Try.prog 68) := by kernel_rfl
theorem ts68 : (inf Try.prog 68).size = 4 := by kernel_rfl
theorem tb68 : (inf Try.prog 68).bytes = 48 := by kernel_rfl
theorem tc68 : Try.prog.cellsOf 68 = 4 := by kernel_rfl
theorem ta68 : aggT Try.prog 68 = some true := by kernel_rfl
theorem tg68 : Try.prog.eqGuardType Try.prog.depth 68 = false := by kernel_rfl
theorem th68 : Try.prog.stoodInHeld 68 = false := by kernel_rfl
theorem tz68 : (inf Try.prog 68).zero = some (.agg #[.int .i64 0, .int .i64 0, .int .i64 0, .slice none 0 0]) := by kernel_rfl
theorem ty68 : zeroT Try.prog 68 = some (.agg #[.int .i64 0, .int .i64 0, .int .i64 0, .slice none 0 0]) := by kernel_rfl
attribute [go_sem] ti68 ts68 tb68 tc68 ta68 Try.underlying68 tg68 th68 tz68 ty68
theorem ti77 : Try.prog.info? 77 = some (inf Try.prog 77) := by kernel_rfl
theorem ts77 : (inf Try.prog 77).size = 1 := by kernel_rfl
theorem tb77 : (inf Try.prog 77).bytes = 8 := by kernel_rfl
theorem tc77 : Try.prog.cellsOf 77 = 1 := by kernel_rfl
theorem ta77 : aggT Try.prog 77 = some false := by kernel_rfl
theorem tz77 : (inf Try.prog 77).zero = some (.pointer none) := by kernel_rfl
theorem ty77 : zeroT Try.prog 77 = some (.pointer none) := by kernel_rfl
attribute [go_sem] ti77 ts77 tb77 tc77 ta77 Try.underlying77 tz77 ty77
theorem ti79 : Try.prog.info? 79 = some (inf Try.prog 79) := by kernel_rfl
theorem ts79 : (inf Try.prog 79).size = 1 := by kernel_rfl
theorem tb79 : (inf Try.prog 79).bytes = 4 := by kernel_rfl
theorem tc79 : Try.prog.cellsOf 79 = 1 := by kernel_rfl
theorem ta79 : aggT Try.prog 79 = some false := by kernel_rfl
theorem tz79 : (inf Try.prog 79).zero = some (.int .u32 0) := by kernel_rfl
theorem ty79 : zeroT Try.prog 79 = some (.int .u32 0) := by kernel_rfl
attribute [go_sem] ti79 ts79 tb79 tc79 ta79 Try.underlying79 tz79 ty79
theorem ti81 : Try.prog.info? 81 = some (inf Try.prog 81) := by kernel_rfl
theorem ts81 : (inf Try.prog 81).size = 1 := by kernel_rfl
theorem tb81 : (inf Try.prog 81).bytes = 24 := by kernel_rfl
theorem tc81 : Try.prog.cellsOf 81 = 1 := by kernel_rfl
theorem ta81 : aggT Try.prog 81 = some false := by kernel_rfl
theorem tz81 : (inf Try.prog 81).zero = some (.slice none 0 0) := by kernel_rfl
theorem ty81 : zeroT Try.prog 81 = some (.slice none 0 0) := by kernel_rfl
attribute [go_sem] ti81 ts81 tb81 tc81 ta81 Try.underlying81 tz81 ty81
theorem ti86 : Try.prog.info? 86 = some (inf Try.prog 86) := by kernel_rfl
theorem ts86 : (inf Try.prog 86).size = 1 := by kernel_rfl
theorem tb86 : (inf Try.prog 86).bytes = 8 := by kernel_rfl
theorem tc86 : Try.prog.cellsOf 86 = 1 := by kernel_rfl
theorem ta86 : aggT Try.prog 86 = some false := by kernel_rfl
theorem tz86 : (inf Try.prog 86).zero = some (.pointer none) := by kernel_rfl
theorem ty86 : zeroT Try.prog 86 = some (.pointer none) := by kernel_rfl
attribute [go_sem] ti86 ts86 tb86 tc86 ta86 Try.underlying86 tz86 ty86
theorem ti93 : Try.prog.info? 93 = some (inf Try.prog 93) := by kernel_rfl
theorem ts93 : (inf Try.prog 93).size = 1 := by kernel_rfl
theorem tb93 : (inf Try.prog 93).bytes = 24 := by kernel_rfl
theorem tc93 : Try.prog.cellsOf 93 = 1 := by kernel_rfl
theorem ta93 : aggT Try.prog 93 = some false := by kernel_rfl
theorem tz93 : (inf Try.prog 93).zero = some (.slice none 0 0) := by kernel_rfl
theorem ty93 : zeroT Try.prog 93 = some (.slice none 0 0) := by kernel_rfl
attribute [go_sem] ti93 ts93 tb93 tc93 ta93 Try.underlying93 tz93 ty93
theorem ti95 : Try.prog.info? 95 = some (inf Try.prog 95) := by kernel_rfl
theorem ts95 : (inf Try.prog 95).size = 1 := by kernel_rfl
theorem tb95 : (inf Try.prog 95).bytes = 8 := by kernel_rfl
theorem tc95 : Try.prog.cellsOf 95 = 1 := by kernel_rfl
theorem ta95 : aggT Try.prog 95 = some false := by kernel_rfl
theorem tz95 : (inf Try.prog 95).zero = some (.nilFunc) := by kernel_rfl
theorem ty95 : zeroT Try.prog 95 = some (.nilFunc) := by kernel_rfl
attribute [go_sem] ti95 ts95 tb95 tc95 ta95 Try.underlying95 tz95 ty95
theorem ti100 : Try.prog.info? 100 = some (inf Try.prog 100) := by kernel_rfl
theorem ts100 : (inf Try.prog 100).size = 4 := by kernel_rfl
theorem tb100 : (inf Try.prog 100).bytes = 48 := by kernel_rfl
theorem tc100 : Try.prog.cellsOf 100 = 4 := by kernel_rfl
theorem ta100 : aggT Try.prog 100 = some true := by kernel_rfl
theorem tg100 : Try.prog.eqGuardType Try.prog.depth 100 = false := by kernel_rfl
theorem th100 : Try.prog.stoodInHeld 100 = false := by kernel_rfl
theorem tz100 : (inf Try.prog 100).zero = some (.agg #[.slice none 0 0, .int .i64 0, .int .i64 0, .int .i64 0]) := by kernel_rfl
theorem ty100 : zeroT Try.prog 100 = some (.agg #[.slice none 0 0, .int .i64 0, .int .i64 0, .int .i64 0]) := by kernel_rfl
attribute [go_sem] ti100 ts100 tb100 tc100 ta100 Try.underlying100 tg100 th100 tz100 ty100
theorem ti102 : Try.prog.info? 102 = some (inf Try.prog 102) := by kernel_rfl
theorem ts102 : (inf Try.prog 102).size = 4 := by kernel_rfl
theorem tb102 : (inf Try.prog 102).bytes = 48 := by kernel_rfl
theorem tc102 : Try.prog.cellsOf 102 = 4 := by kernel_rfl
theorem ta102 : aggT Try.prog 102 = some true := by kernel_rfl
theorem tg102 : Try.prog.eqGuardType Try.prog.depth 102 = false := by kernel_rfl
theorem th102 : Try.prog.stoodInHeld 102 = false := by kernel_rfl
theorem tz102 : (inf Try.prog 102).zero = some (.agg #[.slice none 0 0, .int .i64 0, .int .i64 0, .int .i64 0]) := by kernel_rfl
theorem ty102 : zeroT Try.prog 102 = some (.agg #[.slice none 0 0, .int .i64 0, .int .i64 0, .int .i64 0]) := by kernel_rfl
attribute [go_sem] ti102 ts102 tb102 tc102 ta102 Try.underlying102 tg102 th102 tz102 ty102
theorem ti109 : Try.prog.info? 109 = some (inf Try.prog 109) := by kernel_rfl
theorem ts109 : (inf Try.prog 109).size = 1 := by kernel_rfl
theorem tb109 : (inf Try.prog 109).bytes = 8 := by kernel_rfl
theorem tc109 : Try.prog.cellsOf 109 = 1 := by kernel_rfl
theorem ta109 : aggT Try.prog 109 = some false := by kernel_rfl
theorem tz109 : (inf Try.prog 109).zero = some (.pointer none) := by kernel_rfl
theorem ty109 : zeroT Try.prog 109 = some (.pointer none) := by kernel_rfl
attribute [go_sem] ti109 ts109 tb109 tc109 ta109 Try.underlying109 tz109 ty109
end Go.Proofs.Ytghohleoodkdgaa
