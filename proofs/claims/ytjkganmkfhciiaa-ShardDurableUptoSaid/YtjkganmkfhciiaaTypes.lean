/- the facts of the seat's types. Printed by a small program. -/
import Derived.Test.YtjkganmkfhciiaaChecked
import Derived.Test.YtjkganmkfhciiaaAmWalk
import Derived.KernelRfl
namespace Go.Proofs.Ytjkganmkfhciiaa
open Go.AM
theorem ti3 : Try.prog.info? 3 = some (inf Try.prog 3) := by kernel_rfl
theorem ts3 : (inf Try.prog 3).size = 1 := by kernel_rfl
theorem tb3 : (inf Try.prog 3).bytes = 8 := by kernel_rfl
theorem tc3 : Try.prog.cellsOf 3 = 1 := by kernel_rfl
theorem ta3 : aggT Try.prog 3 = some false := by kernel_rfl
theorem tz3 : (inf Try.prog 3).zero = some (.int .i64 0) := by kernel_rfl
theorem ty3 : zeroT Try.prog 3 = some (.int .i64 0) := by kernel_rfl
attribute [go_sem] ti3 ts3 tb3 tc3 ta3 Try.underlying3 tz3 ty3
theorem ti4 : Try.prog.info? 4 = some (inf Try.prog 4) := by kernel_rfl
theorem ts4 : (inf Try.prog 4).size = 1 := by kernel_rfl
theorem tb4 : (inf Try.prog 4).bytes = 1 := by kernel_rfl
theorem tc4 : Try.prog.cellsOf 4 = 1 := by kernel_rfl
theorem ta4 : aggT Try.prog 4 = some false := by kernel_rfl
theorem tz4 : (inf Try.prog 4).zero = some (.bool false) := by kernel_rfl
theorem ty4 : zeroT Try.prog 4 = some (.bool false) := by kernel_rfl
attribute [go_sem] ti4 ts4 tb4 tc4 ta4 Try.underlying4 tz4 ty4
theorem ti5 : Try.prog.info? 5 = some (inf Try.prog 5) := by kernel_rfl
theorem ts5 : (inf Try.prog 5).size = 1 := by kernel_rfl
theorem tb5 : (inf Try.prog 5).bytes = 1 := by kernel_rfl
theorem tc5 : Try.prog.cellsOf 5 = 1 := by kernel_rfl
theorem ta5 : aggT Try.prog 5 = some false := by kernel_rfl
theorem tz5 : (inf Try.prog 5).zero = some (.int .u8 0) := by kernel_rfl
theorem ty5 : zeroT Try.prog 5 = some (.int .u8 0) := by kernel_rfl
attribute [go_sem] ti5 ts5 tb5 tc5 ta5 Try.underlying5 tz5 ty5
theorem ti22 : Try.prog.info? 22 = some (inf Try.prog 22) := by kernel_rfl
theorem ts22 : (inf Try.prog 22).size = 1 := by kernel_rfl
theorem tb22 : (inf Try.prog 22).bytes = 24 := by kernel_rfl
theorem tc22 : Try.prog.cellsOf 22 = 1 := by kernel_rfl
theorem ta22 : aggT Try.prog 22 = some false := by kernel_rfl
theorem tz22 : (inf Try.prog 22).zero = some (.slice none 0 0) := by kernel_rfl
theorem ty22 : zeroT Try.prog 22 = some (.slice none 0 0) := by kernel_rfl
attribute [go_sem] ti22 ts22 tb22 tc22 ta22 Try.underlying22 tz22 ty22
theorem ti23 : Try.prog.info? 23 = some (inf Try.prog 23) := by kernel_rfl
theorem ts23 : (inf Try.prog 23).size = 1 := by kernel_rfl
theorem tb23 : (inf Try.prog 23).bytes = 8 := by kernel_rfl
theorem tc23 : Try.prog.cellsOf 23 = 1 := by kernel_rfl
theorem ta23 : aggT Try.prog 23 = some false := by kernel_rfl
theorem tz23 : (inf Try.prog 23).zero = some (.pointer none) := by kernel_rfl
theorem ty23 : zeroT Try.prog 23 = some (.pointer none) := by kernel_rfl
attribute [go_sem] ti23 ts23 tb23 tc23 ta23 Try.underlying23 tz23 ty23
theorem ti24 : Try.prog.info? 24 = some (inf Try.prog 24) := by kernel_rfl
theorem ts24 : (inf Try.prog 24).size = 1 := by kernel_rfl
theorem tb24 : (inf Try.prog 24).bytes = 8 := by kernel_rfl
theorem tc24 : Try.prog.cellsOf 24 = 1 := by kernel_rfl
theorem ta24 : aggT Try.prog 24 = some false := by kernel_rfl
theorem tz24 : (inf Try.prog 24).zero = some (.int .i64 0) := by kernel_rfl
theorem ty24 : zeroT Try.prog 24 = some (.int .i64 0) := by kernel_rfl
attribute [go_sem] ti24 ts24 tb24 tc24 ta24 Try.underlying24 tz24 ty24
theorem ti28 : Try.prog.info? 28 = some (inf Try.prog 28) := by kernel_rfl
theorem ts28 : (inf Try.prog 28).size = 1 := by kernel_rfl
theorem tb28 : (inf Try.prog 28).bytes = 24 := by kernel_rfl
theorem tc28 : Try.prog.cellsOf 28 = 1 := by kernel_rfl
theorem ta28 : aggT Try.prog 28 = some false := by kernel_rfl
theorem tz28 : (inf Try.prog 28).zero = some (.slice none 0 0) := by kernel_rfl
theorem ty28 : zeroT Try.prog 28 = some (.slice none 0 0) := by kernel_rfl
attribute [go_sem] ti28 ts28 tb28 tc28 ta28 Try.underlying28 tz28 ty28
theorem ti30 : Try.prog.info? 30 = some (inf Try.prog 30) := by kernel_rfl
theorem ts30 : (inf Try.prog 30).size = 4 := by kernel_rfl
theorem tb30 : (inf Try.prog 30).bytes = 48 := by kernel_rfl
theorem tc30 : Try.prog.cellsOf 30 = 4 := by kernel_rfl
theorem ta30 : aggT Try.prog 30 = some true := by kernel_rfl
theorem tg30 : Try.prog.eqGuardType Try.prog.depth 30 = false := by kernel_rfl
theorem th30 : Try.prog.stoodInHeld 30 = false := by kernel_rfl
theorem tz30 : (inf Try.prog 30).zero = some (.agg #[.int .i64 0, .int .i64 0, .int .i64 0, .slice none 0 0]) := by kernel_rfl
theorem ty30 : zeroT Try.prog 30 = some (.agg #[.int .i64 0, .int .i64 0, .int .i64 0, .slice none 0 0]) := by kernel_rfl
attribute [go_sem] ti30 ts30 tb30 tc30 ta30 Try.underlying30 tg30 th30 tz30 ty30
theorem ti31 : Try.prog.info? 31 = some (inf Try.prog 31) := by kernel_rfl
theorem ts31 : (inf Try.prog 31).size = 1 := by kernel_rfl
theorem tb31 : (inf Try.prog 31).bytes = 24 := by kernel_rfl
theorem tc31 : Try.prog.cellsOf 31 = 1 := by kernel_rfl
theorem ta31 : aggT Try.prog 31 = some false := by kernel_rfl
theorem tz31 : (inf Try.prog 31).zero = some (.slice none 0 0) := by kernel_rfl
theorem ty31 : zeroT Try.prog 31 = some (.slice none 0 0) := by kernel_rfl
attribute [go_sem] ti31 ts31 tb31 tc31 ta31 Try.underlying31 tz31 ty31
theorem ti33 : Try.prog.info? 33 = some (inf Try.prog 33) := by kernel_rfl
theorem ts33 : (inf Try.prog 33).size = 8 := by kernel_rfl
theorem tb33 : (inf Try.prog 33).bytes = 96 := by kernel_rfl
theorem tc33 : Try.prog.cellsOf 33 = 8 := by kernel_rfl
theorem ta33 : aggT Try.prog 33 = some true := by kernel_rfl
theorem tg33 : Try.prog.eqGuardType Try.prog.depth 33 = false := by kernel_rfl
theorem th33 : Try.prog.stoodInHeld 33 = false := by kernel_rfl
theorem tz33 : (inf Try.prog 33).zero = some (.agg #[.int .u8 0, .int .i64 0, .int .i64 0, .int .i64 0, .slice none 0 0, .int .i64 0, .bool false, .slice none 0 0]) := by kernel_rfl
theorem ty33 : zeroT Try.prog 33 = some (.agg #[.int .u8 0, .int .i64 0, .int .i64 0, .int .i64 0, .slice none 0 0, .int .i64 0, .bool false, .slice none 0 0]) := by kernel_rfl
attribute [go_sem] ti33 ts33 tb33 tc33 ta33 Try.underlying33 tg33 th33 tz33 ty33
theorem ti40 : Try.prog.info? 40 = some (inf Try.prog 40) := by kernel_rfl
theorem ts40 : (inf Try.prog 40).size = 1 := by kernel_rfl
theorem tb40 : (inf Try.prog 40).bytes = 24 := by kernel_rfl
theorem tc40 : Try.prog.cellsOf 40 = 1 := by kernel_rfl
theorem ta40 : aggT Try.prog 40 = some false := by kernel_rfl
theorem tz40 : (inf Try.prog 40).zero = some (.slice none 0 0) := by kernel_rfl
theorem ty40 : zeroT Try.prog 40 = some (.slice none 0 0) := by kernel_rfl
attribute [go_sem] ti40 ts40 tb40 tc40 ta40 Try.underlying40 tz40 ty40
theorem ti42 : Try.prog.info? 42 = some (inf Try.prog 42) := by kernel_rfl
theorem ts42 : (inf Try.prog 42).size = 2 := by kernel_rfl
theorem tb42 : (inf Try.prog 42).bytes = 32 := by kernel_rfl
theorem tc42 : Try.prog.cellsOf 42 = 2 := by kernel_rfl
theorem ta42 : aggT Try.prog 42 = some true := by kernel_rfl
theorem tg42 : Try.prog.eqGuardType Try.prog.depth 42 = false := by kernel_rfl
theorem th42 : Try.prog.stoodInHeld 42 = false := by kernel_rfl
theorem tz42 : (inf Try.prog 42).zero = some (.agg #[.int .i64 0, .slice none 0 0]) := by kernel_rfl
theorem ty42 : zeroT Try.prog 42 = some (.agg #[.int .i64 0, .slice none 0 0]) := by kernel_rfl
attribute [go_sem] ti42 ts42 tb42 tc42 ta42 Try.underlying42 tg42 th42 tz42 ty42
theorem ti44 : Try.prog.info? 44 = some (inf Try.prog 44) := by kernel_rfl
theorem ts44 : (inf Try.prog 44).size = 1 := by kernel_rfl
theorem tb44 : (inf Try.prog 44).bytes = 24 := by kernel_rfl
theorem tc44 : Try.prog.cellsOf 44 = 1 := by kernel_rfl
theorem ta44 : aggT Try.prog 44 = some false := by kernel_rfl
theorem tz44 : (inf Try.prog 44).zero = some (.slice none 0 0) := by kernel_rfl
theorem ty44 : zeroT Try.prog 44 = some (.slice none 0 0) := by kernel_rfl
attribute [go_sem] ti44 ts44 tb44 tc44 ta44 Try.underlying44 tz44 ty44
theorem ti47 : Try.prog.info? 47 = some (inf Try.prog 47) := by kernel_rfl
theorem ts47 : (inf Try.prog 47).size = 1 := by kernel_rfl
theorem tb47 : (inf Try.prog 47).bytes = 24 := by kernel_rfl
theorem tc47 : Try.prog.cellsOf 47 = 1 := by kernel_rfl
theorem ta47 : aggT Try.prog 47 = some false := by kernel_rfl
theorem tz47 : (inf Try.prog 47).zero = some (.slice none 0 0) := by kernel_rfl
theorem ty47 : zeroT Try.prog 47 = some (.slice none 0 0) := by kernel_rfl
attribute [go_sem] ti47 ts47 tb47 tc47 ta47 Try.underlying47 tz47 ty47
theorem ti52 : Try.prog.info? 52 = some (inf Try.prog 52) := by kernel_rfl
theorem ts52 : (inf Try.prog 52).size = 1 := by kernel_rfl
theorem tb52 : (inf Try.prog 52).bytes = 24 := by kernel_rfl
theorem tc52 : Try.prog.cellsOf 52 = 1 := by kernel_rfl
theorem ta52 : aggT Try.prog 52 = some false := by kernel_rfl
theorem tz52 : (inf Try.prog 52).zero = some (.slice none 0 0) := by kernel_rfl
theorem ty52 : zeroT Try.prog 52 = some (.slice none 0 0) := by kernel_rfl
attribute [go_sem] ti52 ts52 tb52 tc52 ta52 Try.underlying52 tz52 ty52
theorem ti55 : Try.prog.info? 55 = some (inf Try.prog 55) := by kernel_rfl
theorem ts55 : (inf Try.prog 55).size = 1 := by kernel_rfl
theorem tb55 : (inf Try.prog 55).bytes = 8 := by kernel_rfl
theorem tc55 : Try.prog.cellsOf 55 = 1 := by kernel_rfl
theorem ta55 : aggT Try.prog 55 = some false := by kernel_rfl
theorem tz55 : (inf Try.prog 55).zero = some (.int .u64 0) := by kernel_rfl
theorem ty55 : zeroT Try.prog 55 = some (.int .u64 0) := by kernel_rfl
attribute [go_sem] ti55 ts55 tb55 tc55 ta55 Try.underlying55 tz55 ty55
theorem ti59 : Try.prog.info? 59 = some (inf Try.prog 59) := by kernel_rfl
theorem ts59 : (inf Try.prog 59).size = 1 := by kernel_rfl
theorem tb59 : (inf Try.prog 59).bytes = 8 := by kernel_rfl
theorem tc59 : Try.prog.cellsOf 59 = 1 := by kernel_rfl
theorem ta59 : aggT Try.prog 59 = some false := by kernel_rfl
theorem tz59 : (inf Try.prog 59).zero = some (.pointer none) := by kernel_rfl
theorem ty59 : zeroT Try.prog 59 = some (.pointer none) := by kernel_rfl
attribute [go_sem] ti59 ts59 tb59 tc59 ta59 Try.underlying59 tz59 ty59
theorem ti60 : Try.prog.info? 60 = some (inf Try.prog 60) := by kernel_rfl
theorem ts60 : (inf Try.prog 60).size = 1 := by kernel_rfl
theorem tb60 : (inf Try.prog 60).bytes = 8 := by kernel_rfl
theorem tc60 : Try.prog.cellsOf 60 = 1 := by kernel_rfl
theorem ta60 : aggT Try.prog 60 = some false := by kernel_rfl
theorem tz60 : (inf Try.prog 60).zero = some (.map none) := by kernel_rfl
theorem ty60 : zeroT Try.prog 60 = some (.map none) := by kernel_rfl
attribute [go_sem] ti60 ts60 tb60 tc60 ta60 Try.underlying60 tz60 ty60
theorem ti62 : Try.prog.info? 62 = some (inf Try.prog 62) := by kernel_rfl
theorem ts62 : (inf Try.prog 62).size = 10 := by kernel_rfl
theorem tb62 : (inf Try.prog 62).bytes = 128 := by kernel_rfl
theorem tc62 : Try.prog.cellsOf 62 = 10 := by kernel_rfl
theorem ta62 : aggT Try.prog 62 = some true := by kernel_rfl
theorem tg62 : Try.prog.eqGuardType Try.prog.depth 62 = false := by kernel_rfl
theorem th62 : Try.prog.stoodInHeld 62 = false := by kernel_rfl
theorem tz62 : (inf Try.prog 62).zero = some (.agg #[.int .i64 0, .pointer none, .slice none 0 0, .int .i64 0, .int .i64 0, .int .i64 0, .slice none 0 0, .map none, .slice none 0 0, .bool false]) := by kernel_rfl
theorem ty62 : zeroT Try.prog 62 = some (.agg #[.int .i64 0, .pointer none, .slice none 0 0, .int .i64 0, .int .i64 0, .int .i64 0, .slice none 0 0, .map none, .slice none 0 0, .bool false]) := by kernel_rfl
attribute [go_sem] ti62 ts62 tb62 tc62 ta62 Try.underlying62 tg62 th62 tz62 ty62
theorem ti63 : Try.prog.info? 63 = some (inf Try.prog 63) := by kernel_rfl
theorem ts63 : (inf Try.prog 63).size = 1 := by kernel_rfl
theorem tb63 : (inf Try.prog 63).bytes = 24 := by kernel_rfl
theorem tc63 : Try.prog.cellsOf 63 = 1 := by kernel_rfl
theorem ta63 : aggT Try.prog 63 = some false := by kernel_rfl
theorem tz63 : (inf Try.prog 63).zero = some (.slice none 0 0) := by kernel_rfl
theorem ty63 : zeroT Try.prog 63 = some (.slice none 0 0) := by kernel_rfl
attribute [go_sem] ti63 ts63 tb63 tc63 ta63 Try.underlying63 tz63 ty63
theorem ti75 : Try.prog.info? 75 = some (inf Try.prog 75) := by kernel_rfl
theorem ts75 : (inf Try.prog 75).size = 1 := by kernel_rfl
theorem tb75 : (inf Try.prog 75).bytes = 8 := by kernel_rfl
theorem tc75 : Try.prog.cellsOf 75 = 1 := by kernel_rfl
theorem ta75 : aggT Try.prog 75 = some false := by kernel_rfl
theorem tz75 : (inf Try.prog 75).zero = some (.nilFunc) := by kernel_rfl
theorem ty75 : zeroT Try.prog 75 = some (.nilFunc) := by kernel_rfl
attribute [go_sem] ti75 ts75 tb75 tc75 ta75 Try.underlying75 tz75 ty75
theorem ti80 : Try.prog.info? 80 = some (inf Try.prog 80) := by kernel_rfl
theorem ts80 : (inf Try.prog 80).size = 1 := by kernel_rfl
theorem tb80 : (inf Try.prog 80).bytes = 8 := by kernel_rfl
theorem tc80 : Try.prog.cellsOf 80 = 1 := by kernel_rfl
theorem ta80 : aggT Try.prog 80 = some false := by kernel_rfl
theorem tz80 : (inf Try.prog 80).zero = some (.pointer none) := by kernel_rfl
theorem ty80 : zeroT Try.prog 80 = some (.pointer none) := by kernel_rfl
attribute [go_sem] ti80 ts80 tb80 tc80 ta80 Try.underlying80 tz80 ty80
theorem ti82 : Try.prog.info? 82 = some (inf Try.prog 82) := by kernel_rfl
theorem ts82 : (inf Try.prog 82).size = 1 := by kernel_rfl
theorem tb82 : (inf Try.prog 82).bytes = 8 := by kernel_rfl
theorem tc82 : Try.prog.cellsOf 82 = 1 := by kernel_rfl
theorem ta82 : aggT Try.prog 82 = some true := by kernel_rfl
theorem tg82 : Try.prog.eqGuardType Try.prog.depth 82 = false := by kernel_rfl
theorem th82 : Try.prog.stoodInHeld 82 = false := by kernel_rfl
theorem tz82 : (inf Try.prog 82).zero = some (.agg #[.pointer none]) := by kernel_rfl
theorem ty82 : zeroT Try.prog 82 = some (.agg #[.pointer none]) := by kernel_rfl
attribute [go_sem] ti82 ts82 tb82 tc82 ta82 Try.underlying82 tg82 th82 tz82 ty82
theorem ti83 : Try.prog.info? 83 = some (inf Try.prog 83) := by kernel_rfl
theorem ts83 : (inf Try.prog 83).size = 1 := by kernel_rfl
theorem tb83 : (inf Try.prog 83).bytes = 24 := by kernel_rfl
theorem tc83 : Try.prog.cellsOf 83 = 1 := by kernel_rfl
theorem ta83 : aggT Try.prog 83 = some false := by kernel_rfl
theorem tz83 : (inf Try.prog 83).zero = some (.slice none 0 0) := by kernel_rfl
theorem ty83 : zeroT Try.prog 83 = some (.slice none 0 0) := by kernel_rfl
attribute [go_sem] ti83 ts83 tb83 tc83 ta83 Try.underlying83 tz83 ty83
theorem ti85 : Try.prog.info? 85 = some (inf Try.prog 85) := by kernel_rfl
theorem ts85 : (inf Try.prog 85).size = 1 := by kernel_rfl
theorem tb85 : (inf Try.prog 85).bytes = 24 := by kernel_rfl
theorem tc85 : Try.prog.cellsOf 85 = 1 := by kernel_rfl
theorem ta85 : aggT Try.prog 85 = some true := by kernel_rfl
theorem tg85 : Try.prog.eqGuardType Try.prog.depth 85 = false := by kernel_rfl
theorem th85 : Try.prog.stoodInHeld 85 = false := by kernel_rfl
theorem tz85 : (inf Try.prog 85).zero = some (.agg #[.slice none 0 0]) := by kernel_rfl
theorem ty85 : zeroT Try.prog 85 = some (.agg #[.slice none 0 0]) := by kernel_rfl
attribute [go_sem] ti85 ts85 tb85 tc85 ta85 Try.underlying85 tg85 th85 tz85 ty85
theorem ti88 : Try.prog.info? 88 = some (inf Try.prog 88) := by kernel_rfl
theorem ts88 : (inf Try.prog 88).size = 1 := by kernel_rfl
theorem tb88 : (inf Try.prog 88).bytes = 24 := by kernel_rfl
theorem tc88 : Try.prog.cellsOf 88 = 1 := by kernel_rfl
theorem ta88 : aggT Try.prog 88 = some false := by kernel_rfl
theorem tz88 : (inf Try.prog 88).zero = some (.slice none 0 0) := by kernel_rfl
theorem ty88 : zeroT Try.prog 88 = some (.slice none 0 0) := by kernel_rfl
attribute [go_sem] ti88 ts88 tb88 tc88 ta88 Try.underlying88 tz88 ty88
theorem ti97 : Try.prog.info? 97 = some (inf Try.prog 97) := by kernel_rfl
theorem ts97 : (inf Try.prog 97).size = 4 := by kernel_rfl
theorem tb97 : (inf Try.prog 97).bytes = 32 := by kernel_rfl
theorem tc97 : Try.prog.cellsOf 97 = 4 := by kernel_rfl
theorem ta97 : aggT Try.prog 97 = some true := by kernel_rfl
theorem tg97 : Try.prog.eqGuardType Try.prog.depth 97 = false := by kernel_rfl
theorem th97 : Try.prog.stoodInHeld 97 = false := by kernel_rfl
theorem tz97 : (inf Try.prog 97).zero = some (.agg #[.int .i64 0, .int .i64 0, .int .i64 0, .int .i64 0]) := by kernel_rfl
theorem ty97 : zeroT Try.prog 97 = some (.agg #[.int .i64 0, .int .i64 0, .int .i64 0, .int .i64 0]) := by kernel_rfl
attribute [go_sem] ti97 ts97 tb97 tc97 ta97 Try.underlying97 tg97 th97 tz97 ty97
theorem ti102 : Try.prog.info? 102 = some (inf Try.prog 102) := by kernel_rfl
theorem ts102 : (inf Try.prog 102).size = 1 := by kernel_rfl
theorem tb102 : (inf Try.prog 102).bytes = 8 := by kernel_rfl
theorem tc102 : Try.prog.cellsOf 102 = 1 := by kernel_rfl
theorem ta102 : aggT Try.prog 102 = some false := by kernel_rfl
theorem tz102 : (inf Try.prog 102).zero = some (.nilFunc) := by kernel_rfl
theorem ty102 : zeroT Try.prog 102 = some (.nilFunc) := by kernel_rfl
attribute [go_sem] ti102 ts102 tb102 tc102 ta102 Try.underlying102 tz102 ty102
theorem ti113 : Try.prog.info? 113 = some (inf Try.prog 113) := by kernel_rfl
theorem ts113 : (inf Try.prog 113).size = 1 := by kernel_rfl
theorem tb113 : (inf Try.prog 113).bytes = 8 := by kernel_rfl
theorem tc113 : Try.prog.cellsOf 113 = 1 := by kernel_rfl
theorem ta113 : aggT Try.prog 113 = some false := by kernel_rfl
theorem tz113 : (inf Try.prog 113).zero = some (.nilFunc) := by kernel_rfl
theorem ty113 : zeroT Try.prog 113 = some (.nilFunc) := by kernel_rfl
attribute [go_sem] ti113 ts113 tb113 tc113 ta113 Try.underlying113 tz113 ty113
theorem ti115 : Try.prog.info? 115 = some (inf Try.prog 115) := by kernel_rfl
theorem ts115 : (inf Try.prog 115).size = 1 := by kernel_rfl
theorem tb115 : (inf Try.prog 115).bytes = 8 := by kernel_rfl
theorem tc115 : Try.prog.cellsOf 115 = 1 := by kernel_rfl
theorem ta115 : aggT Try.prog 115 = some false := by kernel_rfl
theorem tz115 : (inf Try.prog 115).zero = some (.nilFunc) := by kernel_rfl
theorem ty115 : zeroT Try.prog 115 = some (.nilFunc) := by kernel_rfl
attribute [go_sem] ti115 ts115 tb115 tc115 ta115 Try.underlying115 tz115 ty115
theorem ti119 : Try.prog.info? 119 = some (inf Try.prog 119) := by kernel_rfl
theorem ts119 : (inf Try.prog 119).size = 8 := by kernel_rfl
theorem tb119 : (inf Try.prog 119).bytes = 64 := by kernel_rfl
theorem tc119 : Try.prog.cellsOf 119 = 8 := by kernel_rfl
theorem ta119 : aggT Try.prog 119 = some true := by kernel_rfl
theorem tg119 : Try.prog.eqGuardType Try.prog.depth 119 = false := by kernel_rfl
theorem th119 : Try.prog.stoodInHeld 119 = false := by kernel_rfl
theorem tz119 : (inf Try.prog 119).zero = some (.agg #[.int .i64 0, .int .i64 0, .int .i64 0, .int .i64 0, .pointer none, .pointer none, .int .i64 0, .int .i64 0]) := by kernel_rfl
theorem ty119 : zeroT Try.prog 119 = some (.agg #[.int .i64 0, .int .i64 0, .int .i64 0, .int .i64 0, .pointer none, .pointer none, .int .i64 0, .int .i64 0]) := by kernel_rfl
attribute [go_sem] ti119 ts119 tb119 tc119 ta119 Try.underlying119 tg119 th119 tz119 ty119
end Go.Proofs.Ytjkganmkfhciiaa
