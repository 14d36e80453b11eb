/- Functions of the program, as the abstract machine has them. -/
import Derived.Test.YtkfakciimeiehaaProg
import Derived.Test.YtkfakciimeiehaaAbs14
set_option linter.unusedVariables false
set_option maxRecDepth 100000
namespace Go.Proofs.Ytkfakciimeiehaa.A
open Go Go.Proofs.YtkfakciimeiehaaAbs

/-- windrose/topo.in -/
def c_topo_in : C :=
 (.seq (.reg false [⟨some 6, .mv (kb false), none⟩])
 (.seq (.reg false [⟨some 7, .mv (.t 0), none⟩, ⟨some 8, .mv (.t 1), none⟩, ⟨some 9, .bin .geq (.t 7) (.t 8), none⟩, ⟨some 10, .mv (.t 9), none⟩, ⟨some 11, .mv (.t 0), some (10, true)⟩, ⟨some 12, .mv (.t 2), some (10, true)⟩, ⟨some 13, .bin .leq (.t 11) (.t 12), some (10, true)⟩, ⟨some 14, .pick (.t 10) (.t 13) (kb false), none⟩, ⟨some 6, .mv (.t 14), none⟩])
 .ret))
abbrev n_topo_in : Nat := 70
theorem F_topo_in : Fun Try.prog n_topo_in 15 c_topo_in [.t 6] := ⟨⟨Try.f70, _, Try.func70, by kernel_rfl, rfl, rfl, by kernel_rfl, by kernel_rfl⟩⟩
/-- windrose/topo.Check -/
def c_topo_Check : C :=
 (.seq (.reg false [⟨some 2, .mv (ki 0), none⟩])
 (.seq (.seq (.reg false [⟨some 5, .mv (.t 0), none⟩, ⟨some 6, .len (.t 5), none⟩, ⟨some 7, .bin .gtr (.t 6) (ki 12), none⟩])
 (.cond (.t 7)
 (.seq (.reg false [⟨some 2, .mv (ki 1), none⟩])
 .ret)
 .skip))
 (.seq (.seq (.reg false [⟨some 8, .mv (.t 0), none⟩, ⟨some 9, .len (.t 8), none⟩, ⟨some 10, .mv (ki 0), none⟩])
 (.block 0 (.loop (.seq (.reg false [⟨some 11, .bin .lss (.t 10) (.t 9), none⟩])
 (.seq (.cond (.t 11)
 .skip
 (.exit 0))
 (.seq (.block 1 (.seq (.reg false [⟨some 12, .mv (.t 10), none⟩, ⟨some 13, .ia 6 (.t 8) (.t 10), none⟩, ⟨some 14, .ld true 6 (.t 13), none⟩, ⟨some 4, .alloc 67 6 [.int .i64 0, .int .i64 0, .int .i64 0, .int .i64 0, .bool false, .bool false], none⟩, ⟨some 3, .mv (.t 12), none⟩, ⟨none, .st 6 (.t 4) (.t 14), none⟩])
 (.seq (.reg true [⟨some 15, .fa 0 (.t 4), none⟩, ⟨some 16, .ld false 1 (.t 15), none⟩, ⟨some 17, .call (kf 70) [(.t 16), (ki 1), (ki 999)], none⟩, ⟨some 18, .un .not (.t 17), none⟩, ⟨some 19, .mv (.t 18), none⟩, ⟨some 20, .fa 1 (.t 4), some (19, false)⟩, ⟨some 21, .ld false 1 (.t 20), some (19, false)⟩, ⟨some 22, .call (kf 70) [(.t 21), (ki 1), (ki 9)], some (19, false)⟩, ⟨some 23, .un .not (.t 22), some (19, false)⟩, ⟨some 24, .pick (.t 19) (kb true) (.t 23), none⟩, ⟨some 25, .mv (.t 24), none⟩, ⟨some 26, .fa 2 (.t 4), some (25, false)⟩, ⟨some 27, .ld false 1 (.t 26), some (25, false)⟩, ⟨some 28, .call (kf 70) [(.t 27), (ki 1), (ki 9)], some (25, false)⟩, ⟨some 29, .un .not (.t 28), some (25, false)⟩, ⟨some 30, .pick (.t 25) (kb true) (.t 29), none⟩, ⟨some 31, .mv (.t 30), none⟩, ⟨some 32, .fa 3 (.t 4), some (31, false)⟩, ⟨some 33, .ld false 1 (.t 32), some (31, false)⟩, ⟨some 34, .call (kf 70) [(.t 33), (ki 0), (ki 65536)], some (31, false)⟩, ⟨some 35, .un .not (.t 34), some (31, false)⟩, ⟨some 36, .pick (.t 31) (kb true) (.t 35), none⟩, ⟨some 37, .mv (.t 36), none⟩, ⟨some 38, .mv (.t 3), some (37, false)⟩, ⟨some 39, .bin .gtr (.t 38) (ki 0), some (37, false)⟩, ⟨some 40, .mv (.t 39), some (37, false)⟩, ⟨some 41, .fa 0 (.t 4), some (40, true)⟩, ⟨some 42, .ld false 1 (.t 41), some (40, true)⟩, ⟨some 43, .mv (.t 0), some (40, true)⟩, ⟨some 44, .mv (.t 3), some (40, true)⟩, ⟨some 45, .bin .sub (.t 44) (ki 1), some (40, true)⟩, ⟨some 46, .ia 6 (.t 43) (.t 45), some (40, true)⟩, ⟨some 47, .fa 0 (.t 46), some (40, true)⟩, ⟨some 48, .ld false 1 (.t 47), some (40, true)⟩, ⟨some 49, .bin .leq (.t 42) (.t 48), some (40, true)⟩, ⟨some 50, .pick (.t 40) (.t 49) (kb false), some (37, false)⟩, ⟨some 51, .pick (.t 37) (kb true) (.t 50), none⟩])
 (.cond (.t 51)
 (.seq (.reg false [⟨some 2, .mv (ki 1), none⟩])
 .ret)
 .skip))))
 (.reg false [⟨some 52, .bin .add (.t 10) (ki 1), none⟩, ⟨some 10, .mv (.t 52), none⟩])))))))
 (.seq (.reg false [⟨some 2, .mv (ki 0), none⟩])
 .ret))))
abbrev n_topo_Check : Nat := 41
theorem F_topo_Check : Fun Try.prog n_topo_Check 53 c_topo_Check [.t 2] := ⟨⟨Try.f41, _, Try.func41, by kernel_rfl, rfl, rfl, by kernel_rfl, by kernel_rfl⟩⟩
/-- slices.BinarySearchFunc[[]windrose/api.Choice,windrose/api.Choice,int] -/
def c_slices_BinarySearchFunc_api_Choice_api_Choice_int : C :=
 (.seq (.reg false [⟨some 6, .mv (ki 0), none⟩, ⟨some 7, .mv (kb false), none⟩])
 (.seq (.reg false [⟨some 12, .mv (.t 0), none⟩, ⟨some 13, .len (.t 12), none⟩, ⟨some 8, .mv (.t 13), none⟩])
 (.seq (.reg false [⟨some 14, .mv (.t 8), none⟩, ⟨some 9, .mv (ki 0), none⟩, ⟨some 10, .mv (.t 14), none⟩])
 (.seq (.block 0 (.loop (.seq (.seq (.reg false [⟨some 15, .mv (.t 9), none⟩, ⟨some 16, .mv (.t 10), none⟩, ⟨some 17, .bin .lss (.t 15) (.t 16), none⟩])
 (.cond (.t 17)
 .skip
 (.exit 0)))
 (.block 1 (.seq (.reg false [⟨some 18, .mv (.t 9), none⟩, ⟨some 19, .mv (.t 10), none⟩, ⟨some 20, .bin .add (.t 18) (.t 19), none⟩, ⟨some 21, .cvi .u64 (.t 20), none⟩, ⟨some 22, .bin .shr (.t 21) (.k (.one (.c (.v (.int .u64 1))))), none⟩, ⟨some 23, .cvi .i64 (.t 22), none⟩, ⟨some 11, .mv (.t 23), none⟩])
 (.seq (.reg false [⟨some 24, .mv (.t 2), none⟩, ⟨some 25, .mv (.t 0), none⟩, ⟨some 26, .mv (.t 11), none⟩, ⟨some 27, .ia 2 (.t 25) (.t 26), none⟩, ⟨some 28, .ld true 2 (.t 27), none⟩, ⟨some 29, .mv (.t 1), none⟩, ⟨some 30, .call (.t 24) [(.t 28), (.t 29)], none⟩, ⟨some 31, .bin .lss (.t 30) (ki 0), none⟩])
 (.cond (.t 31)
 (.reg false [⟨some 32, .mv (.t 11), none⟩, ⟨some 33, .bin .add (.t 32) (ki 1), none⟩, ⟨some 9, .mv (.t 33), none⟩])
 (.reg false [⟨some 34, .mv (.t 11), none⟩, ⟨some 10, .mv (.t 34), none⟩]))))))))
 (.seq (.reg false [⟨some 35, .mv (.t 9), none⟩, ⟨some 36, .mv (.t 9), none⟩, ⟨some 37, .mv (.t 8), none⟩, ⟨some 38, .bin .lss (.t 36) (.t 37), none⟩, ⟨some 39, .mv (.t 38), none⟩, ⟨some 40, .mv (.t 2), some (39, true)⟩, ⟨some 41, .mv (.t 0), some (39, true)⟩, ⟨some 42, .mv (.t 9), some (39, true)⟩, ⟨some 43, .ia 2 (.t 41) (.t 42), some (39, true)⟩, ⟨some 44, .ld true 2 (.t 43), some (39, true)⟩, ⟨some 45, .mv (.t 1), some (39, true)⟩, ⟨some 46, .call (.t 40) [(.t 44), (.t 45)], some (39, true)⟩, ⟨some 47, .bin .eql (.t 46) (ki 0), some (39, true)⟩, ⟨some 48, .pick (.t 39) (.t 47) (kb false), none⟩, ⟨some 6, .mv (.t 35), none⟩, ⟨some 7, .mv (.t 48), none⟩])
 .ret)))))
abbrev n_slices_BinarySearchFunc_api_Choice_api_Choice_int : Nat := 84
theorem F_slices_BinarySearchFunc_api_Choice_api_Choice_int : Fun Try.prog n_slices_BinarySearchFunc_api_Choice_api_Choice_int 49 c_slices_BinarySearchFunc_api_Choice_api_Choice_int [.t 6, .t 7] := ⟨⟨Try.f84, _, Try.func84, by kernel_rfl, rfl, rfl, by kernel_rfl, by kernel_rfl⟩⟩
/-- slices.Insert[[]windrose/api.Choice,windrose/api.Choice] -/
def c_slices_Insert_api_Choice_api_Choice : C :=
 (.seq (.reg false [⟨some 6, .mv (.k (.one (.c (.v (.slice none 0 0))))), none⟩])
 (.seq (.reg false [⟨some 10, .mv (.t 0), none⟩, ⟨some 11, .mv (.t 1), none⟩, ⟨some 12, .slc 2 (.t 10) (some (.t 11)) none, none⟩])
 (.seq (.reg false [⟨some 13, .mv (.t 2), none⟩, ⟨some 14, .len (.t 13), none⟩, ⟨some 7, .mv (.t 14), none⟩])
 (.seq (.seq (.reg false [⟨some 15, .mv (.t 7), none⟩, ⟨some 16, .bin .eql (.t 15) (ki 0), none⟩])
 (.cond (.t 16)
 (.seq (.reg false [⟨some 17, .mv (.t 0), none⟩, ⟨some 6, .mv (.t 17), none⟩])
 .ret)
 .skip))
 (.seq (.reg false [⟨some 18, .mv (.t 0), none⟩, ⟨some 19, .len (.t 18), none⟩, ⟨some 8, .mv (.t 19), none⟩])
 (.seq (.seq (.reg false [⟨some 20, .mv (.t 1), none⟩, ⟨some 21, .mv (.t 8), none⟩, ⟨some 22, .bin .eql (.t 20) (.t 21), none⟩])
 (.cond (.t 22)
 (.seq (.reg false [⟨some 23, .mv (.t 0), none⟩, ⟨some 24, .mv (.t 2), none⟩, ⟨some 25, .app 76 2 16 [.int .i64 0, .int .i64 0] (.t 23) (.t 24), none⟩, ⟨some 6, .mv (.t 25), none⟩])
 .ret)
 .skip))
 (.seq (.seq (.reg false [⟨some 26, .mv (.t 8), none⟩, ⟨some 27, .mv (.t 7), none⟩, ⟨some 28, .bin .add (.t 26) (.t 27), none⟩, ⟨some 29, .mv (.t 0), none⟩, ⟨some 30, .cap (.t 29), none⟩, ⟨some 31, .bin .gtr (.t 28) (.t 30), none⟩])
 (.cond (.t 31)
 (.seq (.reg false [⟨some 32, .mv (.t 0), none⟩, ⟨some 33, .mv (.t 1), none⟩, ⟨some 34, .slc 2 (.t 32) none (some (.t 33)), none⟩, ⟨some 35, .mv (.t 8), none⟩, ⟨some 36, .mv (.t 7), none⟩, ⟨some 37, .bin .add (.t 35) (.t 36), none⟩, ⟨some 38, .mv (.t 1), none⟩, ⟨some 39, .bin .sub (.t 37) (.t 38), none⟩, ⟨some 40, .apz 76 2 16 [.int .i64 0, .int .i64 0] (.t 34) (.t 39), none⟩, ⟨some 9, .mv (.t 40), none⟩])
 (.seq (.reg false [⟨some 41, .mv (.t 9), none⟩, ⟨some 42, .mv (.t 1), none⟩, ⟨some 43, .slc 2 (.t 41) (some (.t 42)) none, none⟩, ⟨some 44, .mv (.t 2), none⟩, ⟨some 45, .cpy 2 (.t 43) (.t 44), none⟩])
 (.seq (.reg true [⟨some 46, .mv (.t 9), none⟩, ⟨some 47, .mv (.t 1), none⟩, ⟨some 48, .mv (.t 7), none⟩, ⟨some 49, .bin .add (.t 47) (.t 48), none⟩, ⟨some 50, .slc 2 (.t 46) (some (.t 49)) none, none⟩, ⟨some 51, .mv (.t 0), none⟩, ⟨some 52, .mv (.t 1), none⟩, ⟨some 53, .slc 2 (.t 51) (some (.t 52)) none, none⟩, ⟨some 54, .cpy 2 (.t 50) (.t 53), none⟩])
 (.seq (.reg false [⟨some 55, .mv (.t 9), none⟩, ⟨some 6, .mv (.t 55), none⟩])
 .ret))))
 .skip))
 (.seq (.reg false [⟨some 56, .mv (.t 0), none⟩, ⟨some 57, .mv (.t 8), none⟩, ⟨some 58, .mv (.t 7), none⟩, ⟨some 59, .bin .add (.t 57) (.t 58), none⟩, ⟨some 60, .slc 2 (.t 56) none (some (.t 59)), none⟩, ⟨some 0, .mv (.t 60), none⟩])
 (.seq (.seq (.reg false [⟨some 61, .mv (.t 2), none⟩, ⟨some 62, .mv (.t 0), none⟩, ⟨some 63, .mv (.t 1), none⟩, ⟨some 64, .mv (.t 7), none⟩, ⟨some 65, .bin .add (.t 63) (.t 64), none⟩, ⟨some 66, .slc 2 (.t 62) (some (.t 65)) none, none⟩, ⟨some 67, .call (kf 90) [(.t 61), (.t 66)], none⟩, ⟨some 68, .un .not (.t 67), none⟩])
 (.cond (.t 68)
 (.seq (.reg true [⟨some 69, .mv (.t 0), none⟩, ⟨some 70, .mv (.t 1), none⟩, ⟨some 71, .mv (.t 7), none⟩, ⟨some 72, .bin .add (.t 70) (.t 71), none⟩, ⟨some 73, .slc 2 (.t 69) (some (.t 72)) none, none⟩, ⟨some 74, .mv (.t 0), none⟩, ⟨some 75, .mv (.t 1), none⟩, ⟨some 76, .slc 2 (.t 74) (some (.t 75)) none, none⟩, ⟨some 77, .cpy 2 (.t 73) (.t 76), none⟩])
 (.seq (.reg false [⟨some 78, .mv (.t 0), none⟩, ⟨some 79, .mv (.t 1), none⟩, ⟨some 80, .slc 2 (.t 78) (some (.t 79)) none, none⟩, ⟨some 81, .mv (.t 2), none⟩, ⟨some 82, .cpy 2 (.t 80) (.t 81), none⟩])
 (.seq (.reg false [⟨some 83, .mv (.t 0), none⟩, ⟨some 6, .mv (.t 83), none⟩])
 .ret)))
 .skip))
 (.seq (.reg false [⟨some 84, .mv (.t 0), none⟩, ⟨some 85, .mv (.t 8), none⟩, ⟨some 86, .slc 2 (.t 84) (some (.t 85)) none, none⟩, ⟨some 87, .mv (.t 2), none⟩, ⟨some 88, .cpy 2 (.t 86) (.t 87), none⟩])
 (.seq (.reg false [⟨some 89, .mv (.t 0), none⟩, ⟨some 90, .mv (.t 1), none⟩, ⟨some 91, .slc 2 (.t 89) (some (.t 90)) none, none⟩, ⟨some 92, .mv (.t 7), none⟩, ⟨some 93, .call (kf 91) [(.t 91), (.t 92)], none⟩])
 (.seq (.reg false [⟨some 94, .mv (.t 0), none⟩, ⟨some 6, .mv (.t 94), none⟩])
 .ret))))))))))))
abbrev n_slices_Insert_api_Choice_api_Choice : Nat := 86
theorem F_slices_Insert_api_Choice_api_Choice : Fun Try.prog n_slices_Insert_api_Choice_api_Choice 95 c_slices_Insert_api_Choice_api_Choice [.t 6] := ⟨⟨Try.f86, _, Try.func86, by kernel_rfl, rfl, rfl, by kernel_rfl, by kernel_rfl⟩⟩
/-- windrose/topo.weigh -/
def c_topo_weigh : C :=
 (.seq (.reg false [⟨some 6, .mv (.k (.one (.c (.v (.slice none 0 0))))), none⟩])
 (.seq (.reg false [⟨some 7, .mv (.k (.one (.c (.v (.slice none 0 0))))), none⟩])
 (.seq (.seq (.reg false [⟨some 12, .mv (.t 0), none⟩, ⟨some 13, .call (kf 41) [(.t 12)], none⟩, ⟨some 14, .bin .neq (.t 13) (ki 0), none⟩])
 (.cond (.t 14)
 (.seq (.reg false [⟨some 6, .mv (.k (.one (.c (.v (.slice none 0 0))))), none⟩])
 .ret)
 .skip))
 (.seq (.seq (.reg false [⟨some 15, .mv (.t 0), none⟩, ⟨some 16, .len (.t 15), none⟩, ⟨some 17, .mv (ki 0), none⟩])
 (.block 0 (.loop (.seq (.reg false [⟨some 18, .bin .lss (.t 17) (.t 16), none⟩])
 (.seq (.cond (.t 18)
 .skip
 (.exit 0))
 (.seq (.block 1 (.seq (.reg false [⟨some 19, .ia 6 (.t 15) (.t 17), none⟩, ⟨some 20, .ld true 6 (.t 19), none⟩, ⟨some 9, .alloc 67 6 [.int .i64 0, .int .i64 0, .int .i64 0, .int .i64 0, .bool false, .bool false], none⟩, ⟨none, .st 6 (.t 9) (.t 20), none⟩])
 (.seq (.seq (.reg false [⟨some 21, .mv (.t 1), none⟩, ⟨some 22, .ld true 6 (.t 9), none⟩, ⟨some 23, .call (.t 21) [(.t 22)], none⟩, ⟨some 24, .un .not (.t 23), none⟩])
 (.cond (.t 24)
 (.exit 1)
 .skip))
 (.seq (.reg false [⟨some 26, .mv (.t 7), none⟩, ⟨some 27, .mv (.t 2), none⟩, ⟨some 28, .ld true 6 (.t 9), none⟩, ⟨some 29, .call (.t 27) [(.t 28)], none⟩, ⟨some 30, .call (kf 84) [(.t 26), (.t 29), (kf 85)], none⟩, ⟨some 25, .mv (.t 30), none⟩, ⟨some 31, .ex (.t 25) 0, none⟩, ⟨some 32, .ex (.t 25) 1, none⟩, ⟨some 10, .mv (.t 31), none⟩, ⟨some 11, .mv (.t 32), none⟩])
 (.seq (.seq (.reg false [⟨some 33, .mv (.t 11), none⟩, ⟨some 34, .un .not (.t 33), none⟩])
 (.cond (.t 34)
 (.reg false [⟨some 35, .mv (.t 7), none⟩, ⟨some 36, .mv (.t 10), none⟩, ⟨some 37, .mv (.t 2), none⟩, ⟨some 38, .ld true 6 (.t 9), none⟩, ⟨some 39, .call (.t 37) [(.t 38)], none⟩, ⟨some 40, .bld [.int .i64 0, .int .i64 0] [(0, 1, (.t 39))], none⟩, ⟨some 41, .bsl 76 2 1 [.int .i64 0, .int .i64 0] [(0, (.t 40))], none⟩, ⟨some 42, .call (kf 86) [(.t 35), (.t 36), (.t 41)], none⟩, ⟨some 7, .mv (.t 42), none⟩])
 .skip))
 (.seq (.reg false [⟨some 43, .fa 5 (.t 9), none⟩, ⟨some 44, .ld false 1 (.t 43), none⟩])
 (.cond (.t 44)
 (.reg true [⟨some 45, .mv (.t 7), none⟩, ⟨some 46, .mv (.t 10), none⟩, ⟨some 47, .mv (.t 7), none⟩, ⟨some 48, .mv (.t 10), none⟩, ⟨some 49, .ia 2 (.t 47) (.t 48), none⟩, ⟨some 50, .fa 1 (.t 49), none⟩, ⟨some 51, .ld false 1 (.t 50), none⟩, ⟨some 52, .fa 3 (.t 9), none⟩, ⟨some 53, .ld false 1 (.t 52), none⟩, ⟨some 54, .bin .add (.t 51) (.t 53), none⟩, ⟨some 55, .mn (ki 65536) (.t 54), none⟩, ⟨some 56, .ia 2 (.t 45) (.t 46), none⟩, ⟨some 57, .fa 1 (.t 56), none⟩, ⟨none, .st 1 (.t 57) (.t 55), none⟩])
 .skip)))))))
 (.reg false [⟨some 58, .bin .add (.t 17) (ki 1), none⟩, ⟨some 17, .mv (.t 58), none⟩])))))))
 (.seq (.reg false [⟨some 59, .mv (.t 7), none⟩, ⟨some 6, .mv (.t 59), none⟩])
 .ret)))))
abbrev n_topo_weigh : Nat := 71
theorem F_topo_weigh : Fun Try.prog n_topo_weigh 60 c_topo_weigh [.t 6] := ⟨⟨Try.f71, _, Try.func71, by kernel_rfl, rfl, rfl, by kernel_rfl, by kernel_rfl⟩⟩
/-- windrose/topo.Zones -/
def c_topo_Zones : C :=
 (.seq (.reg false [⟨some 2, .mv (.k (.one (.c (.v (.slice none 0 0))))), none⟩])
 (.seq (.reg false [⟨some 3, .mv (.t 0), none⟩, ⟨some 4, .call (kf 71) [(.t 3), (kf 74), (kf 75)], none⟩, ⟨some 2, .mv (.t 4), none⟩])
 .ret))
abbrev n_topo_Zones : Nat := 45
theorem F_topo_Zones : Fun Try.prog n_topo_Zones 5 c_topo_Zones [.t 2] := ⟨⟨Try.f45, _, Try.func45, by kernel_rfl, rfl, rfl, by kernel_rfl, by kernel_rfl⟩⟩
/-- slices.Index[[]int,int] -/
def c_slices_Index_int_int : C :=
 (.seq (.reg false [⟨some 4, .mv (ki 0), none⟩])
 (.seq (.seq (.reg false [⟨some 6, .mv (.t 0), none⟩, ⟨some 7, .len (.t 6), none⟩, ⟨some 8, .mv (ki 0), none⟩])
 (.block 0 (.loop (.seq (.reg false [⟨some 9, .bin .lss (.t 8) (.t 7), none⟩])
 (.seq (.cond (.t 9)
 .skip
 (.exit 0))
 (.seq (.block 1 (.seq (.reg false [⟨some 10, .mv (.t 8), none⟩, ⟨some 5, .mv (.t 10), none⟩])
 (.seq (.reg false [⟨some 11, .mv (.t 1), none⟩, ⟨some 12, .mv (.t 0), none⟩, ⟨some 13, .mv (.t 5), none⟩, ⟨some 14, .ia 1 (.t 12) (.t 13), none⟩, ⟨some 15, .ld false 1 (.t 14), none⟩, ⟨some 16, .bin .eql (.t 11) (.t 15), none⟩])
 (.cond (.t 16)
 (.seq (.reg false [⟨some 17, .mv (.t 5), none⟩, ⟨some 4, .mv (.t 17), none⟩])
 .ret)
 .skip))))
 (.reg false [⟨some 18, .bin .add (.t 8) (ki 1), none⟩, ⟨some 8, .mv (.t 18), none⟩])))))))
 (.seq (.reg false [⟨some 4, .mv (ki (-1)), none⟩])
 .ret)))
abbrev n_slices_Index_int_int : Nat := 89
theorem F_slices_Index_int_int : Fun Try.prog n_slices_Index_int_int 19 c_slices_Index_int_int [.t 4] := ⟨⟨Try.f89, _, Try.func89, by kernel_rfl, rfl, rfl, by kernel_rfl, by kernel_rfl⟩⟩
/-- slices.Contains[[]int,int] -/
def c_slices_Contains_int_int : C :=
 (.seq (.reg false [⟨some 4, .mv (kb false), none⟩])
 (.seq (.reg false [⟨some 5, .mv (.t 0), none⟩, ⟨some 6, .mv (.t 1), none⟩, ⟨some 7, .call (kf 89) [(.t 5), (.t 6)], none⟩, ⟨some 8, .bin .geq (.t 7) (ki 0), none⟩, ⟨some 4, .mv (.t 8), none⟩])
 .ret))
abbrev n_slices_Contains_int_int : Nat := 82
theorem F_slices_Contains_int_int : Fun Try.prog n_slices_Contains_int_int 9 c_slices_Contains_int_int [.t 4] := ⟨⟨Try.f82, _, Try.func82, by kernel_rfl, rfl, rfl, by kernel_rfl, by kernel_rfl⟩⟩
/-- windrose/topo.Apart -/
def c_topo_Apart : C :=
 (.seq (.reg false [⟨some 4, .mv (kb false), none⟩])
 (.scope (.seq (.seq (.reg false [⟨some 10, .mv (.t 0), none⟩, ⟨some 11, .call (kf 41) [(.t 10)], none⟩, ⟨some 12, .bin .neq (.t 11) (ki 0), none⟩])
 (.cond (.t 12)
 (.seq (.reg false [⟨some 4, .mv (kb false), none⟩])
 .ret)
 .skip))
 (.seq (.reg false [⟨some 5, .mv (.k (.one (.c (.v (.slice none 0 0))))), none⟩])
 (.seq .skip
 (.seq (.seq (.reg false [⟨some 13, .mv (.t 1), none⟩, ⟨some 14, .len (.t 13), none⟩, ⟨some 15, .mv (ki 0), none⟩])
 (.block 0 (.loop (.seq (.reg false [⟨some 16, .bin .lss (.t 15) (.t 14), none⟩])
 (.seq (.cond (.t 16)
 .skip
 (.exit 0))
 (.seq (.block 1 (.seq (.reg false [⟨some 17, .ia 1 (.t 13) (.t 15), none⟩, ⟨some 18, .ld false 1 (.t 17), none⟩, ⟨some 7, .mv (.t 18), none⟩])
 (.seq (.seq (.reg false [⟨some 19, .mv (.t 0), none⟩, ⟨some 20, .len (.t 19), none⟩, ⟨some 21, .mv (ki 0), none⟩])
 (.block 2 (.loop (.seq (.reg false [⟨some 22, .bin .lss (.t 21) (.t 20), none⟩])
 (.seq (.cond (.t 22)
 .skip
 (.exit 2))
 (.seq (.block 3 (.seq (.reg false [⟨some 23, .ia 6 (.t 19) (.t 21), none⟩, ⟨some 24, .ld true 6 (.t 23), none⟩, ⟨some 9, .alloc 67 6 [.int .i64 0, .int .i64 0, .int .i64 0, .int .i64 0, .bool false, .bool false], none⟩, ⟨none, .st 6 (.t 9) (.t 24), none⟩])
 (.seq (.reg false [⟨some 25, .fa 0 (.t 9), none⟩, ⟨some 26, .ld false 1 (.t 25), none⟩, ⟨some 27, .mv (.t 7), none⟩, ⟨some 28, .bin .eql (.t 26) (.t 27), none⟩, ⟨some 29, .mv (.t 28), none⟩, ⟨some 30, .mv (.t 5), some (29, true)⟩, ⟨some 31, .fa 1 (.t 9), some (29, true)⟩, ⟨some 32, .ld false 1 (.t 31), some (29, true)⟩, ⟨some 33, .call (kf 82) [(.t 30), (.t 32)], some (29, true)⟩, ⟨some 34, .un .not (.t 33), some (29, true)⟩, ⟨some 35, .pick (.t 29) (.t 34) (kb false), none⟩])
 (.cond (.t 35)
 (.seq (.reg false [⟨some 36, .mv (.t 5), none⟩, ⟨some 37, .fa 1 (.t 9), none⟩, ⟨some 38, .ld false 1 (.t 37), none⟩, ⟨some 39, .bsl 3 1 1 [.int .i64 0] [(0, (.t 38))], none⟩, ⟨some 40, .app 3 1 8 [.int .i64 0] (.t 36) (.t 39), none⟩, ⟨some 5, .mv (.t 40), none⟩])
 (.exit 1))
 .skip))))
 (.reg false [⟨some 41, .bin .add (.t 21) (ki 1), none⟩, ⟨some 21, .mv (.t 41), none⟩])))))))
 (.seq (.reg false [⟨some 4, .mv (kb false), none⟩])
 .ret))))
 (.reg false [⟨some 42, .bin .add (.t 15) (ki 1), none⟩, ⟨some 15, .mv (.t 42), none⟩])))))))
 (.seq (.reg false [⟨some 4, .mv (kb true), none⟩])
 .ret)))))))
abbrev n_topo_Apart : Nat := 66
theorem F_topo_Apart : Fun Try.prog n_topo_Apart 43 c_topo_Apart [.t 4] := ⟨⟨Try.f66, _, Try.func66, by kernel_rfl, rfl, rfl, by kernel_rfl, by kernel_rfl⟩⟩
/-- windrose/windroselaw06.awake -/
def c_windroselaw06_awake : C :=
 (.seq (.reg false [⟨some 0, .mv (kb false), none⟩])
 (.seq (.reg false [⟨some 3, .bld [.int .i64 0, .int .i64 0, .int .i64 0, .int .i64 0, .bool false, .bool false] [(0, 1, (ki 1)), (1, 1, (ki 2)), (2, 1, (ki 1)), (3, 1, (ki 40000)), (5, 1, (kb true))], none⟩, ⟨some 4, .bld [.int .i64 0, .int .i64 0, .int .i64 0, .int .i64 0, .bool false, .bool false] [(0, 1, (ki 5)), (1, 1, (ki 2)), (2, 1, (ki 3)), (3, 1, (ki 40000)), (5, 1, (kb true))], none⟩, ⟨some 5, .bld [.int .i64 0, .int .i64 0, .int .i64 0, .int .i64 0, .bool false, .bool false] [(0, 1, (ki 7)), (1, 1, (ki 3)), (2, 1, (ki 3)), (3, 1, (ki 5))], none⟩, ⟨some 6, .bsl 67 6 3 [.int .i64 0, .int .i64 0, .int .i64 0, .int .i64 0, .bool false, .bool false] [(0, (.t 3)), (1, (.t 4)), (2, (.t 5))], none⟩, ⟨some 1, .mv (.t 6), none⟩])
 (.seq (.reg false [⟨some 7, .mv (.t 1), none⟩, ⟨some 8, .call (kf 45) [(.t 7)], none⟩, ⟨some 2, .mv (.t 8), none⟩])
 (.seq (.reg false [⟨some 9, .mv (.t 2), none⟩, ⟨some 10, .len (.t 9), none⟩, ⟨some 11, .bin .eql (.t 10) (ki 2), none⟩, ⟨some 12, .mv (.t 11), none⟩, ⟨some 13, .mv (.t 2), some (12, true)⟩, ⟨some 14, .ia 2 (.t 13) (ki 0), some (12, true)⟩, ⟨some 15, .fa 1 (.t 14), some (12, true)⟩, ⟨some 16, .ld false 1 (.t 15), some (12, true)⟩, ⟨some 17, .bin .eql (.t 16) (ki 65536), some (12, true)⟩, ⟨some 18, .pick (.t 12) (.t 17) (kb false), none⟩, ⟨some 19, .mv (.t 18), none⟩, ⟨some 20, .mv (.t 2), some (19, true)⟩, ⟨some 21, .ia 2 (.t 20) (ki 1), some (19, true)⟩, ⟨some 22, .fa 1 (.t 21), some (19, true)⟩, ⟨some 23, .ld false 1 (.t 22), some (19, true)⟩, ⟨some 24, .bin .eql (.t 23) (ki 0), some (19, true)⟩, ⟨some 25, .pick (.t 19) (.t 24) (kb false), none⟩, ⟨some 26, .mv (.t 25), none⟩, ⟨some 27, .mv (.t 1), some (26, true)⟩, ⟨some 28, .bsl 3 1 2 [.int .i64 0] [(0, (ki 5)), (1, (ki 7))], some (26, true)⟩, ⟨some 29, .call (kf 66) [(.t 27), (.t 28)], some (26, true)⟩, ⟨some 30, .pick (.t 26) (.t 29) (kb false), none⟩, ⟨some 0, .mv (.t 30), none⟩])
 .ret))))
abbrev n_windroselaw06_awake : Nat := 39
theorem F_windroselaw06_awake : Fun Try.prog n_windroselaw06_awake 31 c_windroselaw06_awake [.t 0] := ⟨⟨Try.f39, _, Try.func39, by kernel_rfl, rfl, rfl, by kernel_rfl, by kernel_rfl⟩⟩
/-- slices.BinarySearchFunc[[]windrose/api.Node,windrose/api.Node,int] -/
def c_slices_BinarySearchFunc_api_Node_api_Node_int : C :=
 (.seq (.reg false [⟨some 6, .mv (ki 0), none⟩, ⟨some 7, .mv (kb false), none⟩])
 (.seq (.reg false [⟨some 12, .mv (.t 0), none⟩, ⟨some 13, .len (.t 12), none⟩, ⟨some 8, .mv (.t 13), none⟩])
 (.seq (.reg false [⟨some 14, .mv (.t 8), none⟩, ⟨some 9, .mv (ki 0), none⟩, ⟨some 10, .mv (.t 14), none⟩])
 (.seq (.block 0 (.loop (.seq (.seq (.reg false [⟨some 15, .mv (.t 9), none⟩, ⟨some 16, .mv (.t 10), none⟩, ⟨some 17, .bin .lss (.t 15) (.t 16), none⟩])
 (.cond (.t 17)
 .skip
 (.exit 0)))
 (.block 1 (.seq (.reg false [⟨some 18, .mv (.t 9), none⟩, ⟨some 19, .mv (.t 10), none⟩, ⟨some 20, .bin .add (.t 18) (.t 19), none⟩, ⟨some 21, .cvi .u64 (.t 20), none⟩, ⟨some 22, .bin .shr (.t 21) (.k (.one (.c (.v (.int .u64 1))))), none⟩, ⟨some 23, .cvi .i64 (.t 22), none⟩, ⟨some 11, .mv (.t 23), none⟩])
 (.seq (.reg false [⟨some 24, .mv (.t 2), none⟩, ⟨some 25, .mv (.t 0), none⟩, ⟨some 26, .mv (.t 11), none⟩, ⟨some 27, .ia 6 (.t 25) (.t 26), none⟩, ⟨some 28, .ld true 6 (.t 27), none⟩, ⟨some 29, .mv (.t 1), none⟩, ⟨some 30, .call (.t 24) [(.t 28), (.t 29)], none⟩, ⟨some 31, .bin .lss (.t 30) (ki 0), none⟩])
 (.cond (.t 31)
 (.reg false [⟨some 32, .mv (.t 11), none⟩, ⟨some 33, .bin .add (.t 32) (ki 1), none⟩, ⟨some 9, .mv (.t 33), none⟩])
 (.reg false [⟨some 34, .mv (.t 11), none⟩, ⟨some 10, .mv (.t 34), none⟩]))))))))
 (.seq (.reg false [⟨some 35, .mv (.t 9), none⟩, ⟨some 36, .mv (.t 9), none⟩, ⟨some 37, .mv (.t 8), none⟩, ⟨some 38, .bin .lss (.t 36) (.t 37), none⟩, ⟨some 39, .mv (.t 38), none⟩, ⟨some 40, .mv (.t 2), some (39, true)⟩, ⟨some 41, .mv (.t 0), some (39, true)⟩, ⟨some 42, .mv (.t 9), some (39, true)⟩, ⟨some 43, .ia 6 (.t 41) (.t 42), some (39, true)⟩, ⟨some 44, .ld true 6 (.t 43), some (39, true)⟩, ⟨some 45, .mv (.t 1), some (39, true)⟩, ⟨some 46, .call (.t 40) [(.t 44), (.t 45)], some (39, true)⟩, ⟨some 47, .bin .eql (.t 46) (ki 0), some (39, true)⟩, ⟨some 48, .pick (.t 39) (.t 47) (kb false), none⟩, ⟨some 6, .mv (.t 35), none⟩, ⟨some 7, .mv (.t 48), none⟩])
 .ret)))))
abbrev n_slices_BinarySearchFunc_api_Node_api_Node_int : Nat := 67
theorem F_slices_BinarySearchFunc_api_Node_api_Node_int : Fun Try.prog n_slices_BinarySearchFunc_api_Node_api_Node_int 49 c_slices_BinarySearchFunc_api_Node_api_Node_int [.t 6, .t 7] := ⟨⟨Try.f67, _, Try.func67, by kernel_rfl, rfl, rfl, by kernel_rfl, by kernel_rfl⟩⟩
/-- windrose/topo.Find -/
def c_topo_Find : C :=
 (.seq (.reg false [⟨some 4, .alloc 67 6 [.int .i64 0, .int .i64 0, .int .i64 0, .int .i64 0, .bool false, .bool false], none⟩, ⟨some 5, .mv (kb false), none⟩])
 (.seq (.reg false [⟨some 9, .mv (.t 0), none⟩, ⟨some 10, .mv (.t 1), none⟩, ⟨some 11, .call (kf 67) [(.t 9), (.t 10), (kf 68)], none⟩, ⟨some 8, .mv (.t 11), none⟩, ⟨some 12, .ex (.t 8) 0, none⟩, ⟨some 13, .ex (.t 8) 1, none⟩, ⟨some 6, .mv (.t 12), none⟩, ⟨some 7, .mv (.t 13), none⟩])
 (.seq (.seq (.reg false [⟨some 14, .mv (.t 7), none⟩, ⟨some 15, .un .not (.t 14), none⟩, ⟨some 16, .mv (.t 15), none⟩, ⟨some 17, .mv (.t 0), some (16, false)⟩, ⟨some 18, .call (kf 41) [(.t 17)], some (16, false)⟩, ⟨some 19, .bin .neq (.t 18) (ki 0), some (16, false)⟩, ⟨some 20, .pick (.t 16) (kb true) (.t 19), none⟩])
 (.cond (.t 20)
 (.seq (.reg false [⟨some 21, .bld [.int .i64 0, .int .i64 0, .int .i64 0, .int .i64 0, .bool false, .bool false] [], none⟩, ⟨none, .st 6 (.t 4) (.t 21), none⟩, ⟨some 5, .mv (kb false), none⟩])
 .ret)
 .skip))
 (.seq (.reg false [⟨some 22, .mv (.t 0), none⟩, ⟨some 23, .mv (.t 6), none⟩, ⟨some 24, .ia 6 (.t 22) (.t 23), none⟩, ⟨some 25, .ld true 6 (.t 24), none⟩, ⟨none, .st 6 (.t 4) (.t 25), none⟩, ⟨some 5, .mv (kb true), none⟩])
 .ret))))
abbrev n_topo_Find : Nat := 40
theorem F_topo_Find : Fun Try.prog n_topo_Find 26 c_topo_Find [.l true 6 4, .t 5] := ⟨⟨Try.f40, _, Try.func40, by kernel_rfl, rfl, rfl, by kernel_rfl, by kernel_rfl⟩⟩
/-- windrose/windroseref06.May -/
def c_windroseref06_May : C :=
 (.seq (.reg false [⟨some 2, .mv (kb false), none⟩])
 (.seq (.seq (.reg false [⟨some 3, .mv (ki 0), none⟩])
 (.block 0 (.loop (.seq (.seq (.reg false [⟨some 5, .mv (.t 3), none⟩, ⟨some 6, .mv (.t 0), none⟩, ⟨some 7, .len (.t 6), none⟩, ⟨some 8, .bin .lss (.t 5) (.t 7), none⟩])
 (.cond (.t 8)
 .skip
 (.exit 0)))
 (.seq (.block 1 (.seq (.reg false [⟨some 11, .mv (.t 0), none⟩, ⟨some 12, .mv (.t 3), none⟩, ⟨some 13, .ia 6 (.t 11) (.t 12), none⟩, ⟨some 14, .ld true 6 (.t 13), none⟩, ⟨some 4, .alloc 67 6 [.int .i64 0, .int .i64 0, .int .i64 0, .int .i64 0, .bool false, .bool false], none⟩, ⟨none, .st 6 (.t 4) (.t 14), none⟩])
 (.seq (.reg true [⟨some 15, .fa 0 (.t 4), none⟩, ⟨some 16, .ld false 1 (.t 15), none⟩, ⟨some 17, .bin .lss (.t 16) (ki 1), none⟩, ⟨some 18, .mv (.t 17), none⟩, ⟨some 19, .fa 0 (.t 4), some (18, false)⟩, ⟨some 20, .ld false 1 (.t 19), some (18, false)⟩, ⟨some 21, .bin .gtr (.t 20) (ki 999), some (18, false)⟩, ⟨some 22, .pick (.t 18) (kb true) (.t 21), none⟩, ⟨some 23, .mv (.t 22), none⟩, ⟨some 24, .fa 1 (.t 4), some (23, false)⟩, ⟨some 25, .ld false 1 (.t 24), some (23, false)⟩, ⟨some 26, .bin .lss (.t 25) (ki 1), some (23, false)⟩, ⟨some 27, .pick (.t 23) (kb true) (.t 26), none⟩, ⟨some 28, .mv (.t 27), none⟩, ⟨some 29, .fa 1 (.t 4), some (28, false)⟩, ⟨some 30, .ld false 1 (.t 29), some (28, false)⟩, ⟨some 31, .bin .gtr (.t 30) (ki 9), some (28, false)⟩, ⟨some 32, .pick (.t 28) (kb true) (.t 31), none⟩, ⟨some 33, .mv (.t 32), none⟩, ⟨some 34, .fa 2 (.t 4), some (33, false)⟩, ⟨some 35, .ld false 1 (.t 34), some (33, false)⟩, ⟨some 36, .bin .lss (.t 35) (ki 1), some (33, false)⟩, ⟨some 37, .pick (.t 33) (kb true) (.t 36), none⟩, ⟨some 38, .mv (.t 37), none⟩, ⟨some 39, .fa 2 (.t 4), some (38, false)⟩, ⟨some 40, .ld false 1 (.t 39), some (38, false)⟩, ⟨some 41, .bin .gtr (.t 40) (ki 9), some (38, false)⟩, ⟨some 42, .pick (.t 38) (kb true) (.t 41), none⟩, ⟨some 43, .mv (.t 42), none⟩, ⟨some 44, .fa 3 (.t 4), some (43, false)⟩, ⟨some 45, .ld false 1 (.t 44), some (43, false)⟩, ⟨some 46, .bin .lss (.t 45) (ki 0), some (43, false)⟩, ⟨some 47, .pick (.t 43) (kb true) (.t 46), none⟩, ⟨some 48, .mv (.t 47), none⟩, ⟨some 49, .fa 3 (.t 4), some (48, false)⟩, ⟨some 50, .ld false 1 (.t 49), some (48, false)⟩, ⟨some 51, .bin .gtr (.t 50) (ki 65536), some (48, false)⟩, ⟨some 52, .pick (.t 48) (kb true) (.t 51), none⟩, ⟨some 53, .mv (.t 52), none⟩, ⟨some 54, .mv (.t 3), some (53, false)⟩, ⟨some 55, .bin .gtr (.t 54) (ki 0), some (53, false)⟩, ⟨some 56, .mv (.t 55), some (53, false)⟩, ⟨some 57, .mv (.t 0), some (56, true)⟩, ⟨some 58, .mv (.t 3), some (56, true)⟩, ⟨some 59, .bin .sub (.t 58) (ki 1), some (56, true)⟩, ⟨some 60, .ia 6 (.t 57) (.t 59), some (56, true)⟩, ⟨some 61, .fa 0 (.t 60), some (56, true)⟩, ⟨some 62, .ld false 1 (.t 61), some (56, true)⟩, ⟨some 63, .fa 0 (.t 4), some (56, true)⟩, ⟨some 64, .ld false 1 (.t 63), some (56, true)⟩, ⟨some 65, .bin .geq (.t 62) (.t 64), some (56, true)⟩, ⟨some 66, .pick (.t 56) (.t 65) (kb false), some (53, false)⟩, ⟨some 67, .pick (.t 53) (kb true) (.t 66), none⟩])
 (.cond (.t 67)
 (.seq (.reg false [⟨some 2, .mv (kb false), none⟩])
 .ret)
 .skip))))
 (.reg false [⟨some 9, .mv (.t 3), none⟩, ⟨some 10, .bin .add (.t 9) (ki 1), none⟩, ⟨some 3, .mv (.t 10), none⟩]))))))
 (.seq (.reg false [⟨some 68, .mv (.t 0), none⟩, ⟨some 69, .len (.t 68), none⟩, ⟨some 70, .bin .leq (.t 69) (ki 12), none⟩, ⟨some 2, .mv (.t 70), none⟩])
 .ret)))
abbrev n_windroseref06_May : Nat := 42
theorem F_windroseref06_May : Fun Try.prog n_windroseref06_May 71 c_windroseref06_May [.t 2] := ⟨⟨Try.f42, _, Try.func42, by kernel_rfl, rfl, rfl, by kernel_rfl, by kernel_rfl⟩⟩
/-- windrose/windroseref06.Find -/
def c_windroseref06_Find : C :=
 (.seq (.reg false [⟨some 4, .alloc 67 6 [.int .i64 0, .int .i64 0, .int .i64 0, .int .i64 0, .bool false, .bool false], none⟩, ⟨some 5, .mv (kb false), none⟩])
 (.seq (.seq (.reg false [⟨some 6, .mv (ki 0), none⟩])
 (.block 0 (.loop (.seq (.seq (.reg false [⟨some 7, .mv (.t 6), none⟩, ⟨some 8, .mv (.t 0), none⟩, ⟨some 9, .len (.t 8), none⟩, ⟨some 10, .bin .lss (.t 7) (.t 9), none⟩])
 (.cond (.t 10)
 .skip
 (.exit 0)))
 (.seq (.block 1 (.seq (.reg false [⟨some 13, .mv (.t 0), none⟩, ⟨some 14, .mv (.t 6), none⟩, ⟨some 15, .ia 6 (.t 13) (.t 14), none⟩, ⟨some 16, .fa 0 (.t 15), none⟩, ⟨some 17, .ld false 1 (.t 16), none⟩, ⟨some 18, .mv (.t 1), none⟩, ⟨some 19, .bin .eql (.t 17) (.t 18), none⟩])
 (.cond (.t 19)
 (.seq (.reg false [⟨some 20, .mv (.t 0), none⟩, ⟨some 21, .mv (.t 6), none⟩, ⟨some 22, .ia 6 (.t 20) (.t 21), none⟩, ⟨some 23, .ld true 6 (.t 22), none⟩, ⟨none, .st 6 (.t 4) (.t 23), none⟩, ⟨some 5, .mv (kb true), none⟩])
 .ret)
 .skip)))
 (.reg false [⟨some 11, .mv (.t 6), none⟩, ⟨some 12, .bin .add (.t 11) (ki 1), none⟩, ⟨some 6, .mv (.t 12), none⟩]))))))
 (.seq (.reg false [⟨some 24, .bld [.int .i64 0, .int .i64 0, .int .i64 0, .int .i64 0, .bool false, .bool false] [], none⟩, ⟨none, .st 6 (.t 4) (.t 24), none⟩, ⟨some 5, .mv (kb false), none⟩])
 .ret)))
abbrev n_windroseref06_Find : Nat := 43
theorem F_windroseref06_Find : Fun Try.prog n_windroseref06_Find 25 c_windroseref06_Find [.l true 6 4, .t 5] := ⟨⟨Try.f43, _, Try.func43, by kernel_rfl, rfl, rfl, by kernel_rfl, by kernel_rfl⟩⟩
/-- windrose/windroselaw06.TopoFinds -/
def c_windroselaw06_TopoFinds : C :=
 (.seq (.reg false [⟨some 4, .mv (kb false), none⟩])
 (.seq (.seq (.reg false [⟨some 9, .mv (.t 0), none⟩, ⟨some 10, .len (.t 9), none⟩, ⟨some 11, .bin .gtr (.t 10) (ki 40), none⟩])
 (.cond (.t 11)
 (.seq (.reg false [⟨some 12, .call (kf 39) [], none⟩, ⟨some 4, .mv (.t 12), none⟩])
 .ret)
 .skip))
 (.seq (.reg false [⟨some 14, .mv (.t 0), none⟩, ⟨some 15, .mv (.t 1), none⟩, ⟨some 16, .call (kf 40) [(.t 14), (.t 15)], none⟩, ⟨some 13, .mv (.t 16), none⟩, ⟨some 17, .ex (.t 13) 0, none⟩, ⟨some 18, .ex (.t 13) 1, none⟩, ⟨some 5, .alloc 67 6 [.int .i64 0, .int .i64 0, .int .i64 0, .int .i64 0, .bool false, .bool false], none⟩, ⟨none, .st 6 (.t 5) (.t 17), none⟩, ⟨some 6, .mv (.t 18), none⟩])
 (.seq (.seq (.reg false [⟨some 19, .mv (.t 0), none⟩, ⟨some 20, .call (kf 41) [(.t 19)], none⟩, ⟨some 21, .bin .eql (.t 20) (ki 0), none⟩, ⟨some 22, .mv (.t 0), none⟩, ⟨some 23, .call (kf 42) [(.t 22)], none⟩, ⟨some 24, .eqb true (.t 21) (.t 23), none⟩])
 (.cond (.t 24)
 (.seq (.reg false [⟨some 4, .mv (kb false), none⟩])
 .ret)
 .skip))
 (.seq (.seq (.reg false [⟨some 25, .mv (.t 0), none⟩, ⟨some 26, .call (kf 42) [(.t 25)], none⟩, ⟨some 27, .un .not (.t 26), none⟩])
 (.cond (.t 27)
 (.seq (.reg false [⟨some 28, .mv (.t 6), none⟩, ⟨some 29, .un .not (.t 28), none⟩, ⟨some 30, .mv (.t 29), none⟩, ⟨some 31, .ld true 6 (.t 5), some (30, true)⟩, ⟨some 32, .bld [.int .i64 0, .int .i64 0, .int .i64 0, .int .i64 0, .bool false, .bool false] [], some (30, true)⟩, ⟨some 33, .eqa [1, 1, 1, 1, 0, 0] false (.t 31) (.t 32), some (30, true)⟩, ⟨some 34, .pick (.t 30) (.t 33) (kb false), none⟩, ⟨some 35, .mv (.t 34), none⟩, ⟨some 36, .call (kf 39) [], some (35, true)⟩, ⟨some 37, .pick (.t 35) (.t 36) (kb false), none⟩, ⟨some 4, .mv (.t 37), none⟩])
 .ret)
 .skip))
 (.seq (.reg false [⟨some 39, .mv (.t 0), none⟩, ⟨some 40, .mv (.t 1), none⟩, ⟨some 41, .call (kf 43) [(.t 39), (.t 40)], none⟩, ⟨some 38, .mv (.t 41), none⟩, ⟨some 42, .ex (.t 38) 0, none⟩, ⟨some 43, .ex (.t 38) 1, none⟩, ⟨some 7, .alloc 67 6 [.int .i64 0, .int .i64 0, .int .i64 0, .int .i64 0, .bool false, .bool false], none⟩, ⟨none, .st 6 (.t 7) (.t 42), none⟩, ⟨some 8, .mv (.t 43), none⟩])
 (.seq (.reg false [⟨some 44, .mv (.t 6), none⟩, ⟨some 45, .mv (.t 8), none⟩, ⟨some 46, .eqb false (.t 44) (.t 45), none⟩, ⟨some 47, .mv (.t 46), none⟩, ⟨some 48, .ld true 6 (.t 5), some (47, true)⟩, ⟨some 49, .ld true 6 (.t 7), some (47, true)⟩, ⟨some 50, .eqa [1, 1, 1, 1, 0, 0] false (.t 48) (.t 49), some (47, true)⟩, ⟨some 51, .pick (.t 47) (.t 50) (kb false), none⟩, ⟨some 52, .mv (.t 51), none⟩, ⟨some 53, .call (kf 39) [], some (52, true)⟩, ⟨some 54, .pick (.t 52) (.t 53) (kb false), none⟩, ⟨some 4, .mv (.t 54), none⟩])
 .ret)))))))
abbrev n_windroselaw06_TopoFinds : Nat := 12
theorem F_windroselaw06_TopoFinds : Fun Try.prog n_windroselaw06_TopoFinds 55 c_windroselaw06_TopoFinds [.t 4] := ⟨⟨Try.f12, _, Try.func12, by kernel_rfl, rfl, rfl, by kernel_rfl, by kernel_rfl⟩⟩
/-- windrose/topo.Leaves -/
def c_topo_Leaves : C :=
 (.seq (.reg false [⟨some 4, .box 3 1 (.t 1), none⟩, ⟨some 5, .box 3 1 (.t 2), none⟩, ⟨some 6, .mv (.k (.one (.c (.v (.slice none 0 0))))), none⟩])
 (.seq (.reg false [⟨some 7, .mv (.t 0), none⟩, ⟨some 8, .mkf 72 [(.t 4), (.t 5)], none⟩, ⟨some 9, .call (kf 71) [(.t 7), (.t 8), (kf 73)], none⟩, ⟨some 6, .mv (.t 9), none⟩])
 .ret))
abbrev n_topo_Leaves : Nat := 44
theorem F_topo_Leaves : Fun Try.prog n_topo_Leaves 10 c_topo_Leaves [.t 6] := ⟨⟨Try.f44, _, Try.func44, by kernel_rfl, rfl, rfl, by kernel_rfl, by kernel_rfl⟩⟩
/-- windrose/topo.Racks -/
def c_topo_Racks : C :=
 (.seq (.reg false [⟨some 3, .box 3 1 (.t 1), none⟩, ⟨some 4, .mv (.k (.one (.c (.v (.slice none 0 0))))), none⟩])
 (.seq (.reg false [⟨some 5, .mv (.t 0), none⟩, ⟨some 6, .mkf 76 [(.t 3)], none⟩, ⟨some 7, .call (kf 71) [(.t 5), (.t 6), (kf 77)], none⟩, ⟨some 4, .mv (.t 7), none⟩])
 .ret))
abbrev n_topo_Racks : Nat := 46
theorem F_topo_Racks : Fun Try.prog n_topo_Racks 8 c_topo_Racks [.t 4] := ⟨⟨Try.f46, _, Try.func46, by kernel_rfl, rfl, rfl, by kernel_rfl, by kernel_rfl⟩⟩
/-- windrose/windroselaw06.TopoSums -/
def c_windroselaw06_TopoSums : C :=
 (.seq (.reg false [⟨some 2, .mv (kb false), none⟩])
 (.seq (.seq (.reg false [⟨some 12, .mv (.t 0), none⟩, ⟨some 13, .len (.t 12), none⟩, ⟨some 14, .bin .gtr (.t 13) (ki 40), none⟩, ⟨some 15, .mv (.t 14), none⟩, ⟨some 16, .mv (.t 0), some (15, false)⟩, ⟨some 17, .call (kf 42) [(.t 16)], some (15, false)⟩, ⟨some 18, .un .not (.t 17), some (15, false)⟩, ⟨some 19, .pick (.t 15) (kb true) (.t 18), none⟩])
 (.cond (.t 19)
 (.seq (.reg false [⟨some 20, .call (kf 39) [], none⟩, ⟨some 2, .mv (.t 20), none⟩])
 .ret)
 .skip))
 (.seq (.reg false [⟨some 3, .mv (ki 0), none⟩])
 (.seq (.reg false [⟨some 21, .mv (.t 0), none⟩, ⟨some 22, .call (kf 44) [(.t 21), (ki 0), (ki 0)], none⟩, ⟨some 4, .mv (.t 22), none⟩])
 (.seq (.seq (.reg false [⟨some 5, .mv (ki 0), none⟩])
 (.block 0 (.loop (.seq (.seq (.reg false [⟨some 23, .mv (.t 5), none⟩, ⟨some 24, .mv (.t 4), none⟩, ⟨some 25, .len (.t 24), none⟩, ⟨some 26, .bin .lss (.t 23) (.t 25), none⟩])
 (.cond (.t 26)
 .skip
 (.exit 0)))
 (.seq (.block 1 (.reg false [⟨some 29, .mv (.t 3), none⟩, ⟨some 30, .mv (.t 4), none⟩, ⟨some 31, .mv (.t 5), none⟩, ⟨some 32, .ia 2 (.t 30) (.t 31), none⟩, ⟨some 33, .fa 1 (.t 32), none⟩, ⟨some 34, .ld false 1 (.t 33), none⟩, ⟨some 35, .bin .add (.t 29) (.t 34), none⟩, ⟨some 3, .mv (.t 35), none⟩]))
 (.reg false [⟨some 27, .mv (.t 5), none⟩, ⟨some 28, .bin .add (.t 27) (ki 1), none⟩, ⟨some 5, .mv (.t 28), none⟩]))))))
 (.seq (.reg false [⟨some 6, .mv (ki 0), none⟩])
 (.seq (.reg false [⟨some 36, .mv (.t 0), none⟩, ⟨some 37, .call (kf 45) [(.t 36)], none⟩, ⟨some 7, .mv (.t 37), none⟩])
 (.seq (.seq (.reg false [⟨some 8, .mv (ki 0), none⟩])
 (.block 2 (.loop (.seq (.seq (.reg false [⟨some 38, .mv (.t 8), none⟩, ⟨some 39, .mv (.t 7), none⟩, ⟨some 40, .len (.t 39), none⟩, ⟨some 41, .bin .lss (.t 38) (.t 40), none⟩])
 (.cond (.t 41)
 .skip
 (.exit 2)))
 (.seq (.block 3 (.seq (.reg false [⟨some 44, .mv (.t 0), none⟩, ⟨some 45, .mv (.t 7), none⟩, ⟨some 46, .mv (.t 8), none⟩, ⟨some 47, .ia 2 (.t 45) (.t 46), none⟩, ⟨some 48, .fa 0 (.t 47), none⟩, ⟨some 49, .ld false 1 (.t 48), none⟩, ⟨some 50, .call (kf 46) [(.t 44), (.t 49)], none⟩, ⟨some 9, .mv (.t 50), none⟩])
 (.seq (.reg false [⟨some 10, .mv (ki 0), none⟩])
 (.seq (.seq (.reg false [⟨some 11, .mv (ki 0), none⟩])
 (.block 4 (.loop (.seq (.seq (.reg false [⟨some 51, .mv (.t 11), none⟩, ⟨some 52, .mv (.t 9), none⟩, ⟨some 53, .len (.t 52), none⟩, ⟨some 54, .bin .lss (.t 51) (.t 53), none⟩])
 (.cond (.t 54)
 .skip
 (.exit 4)))
 (.seq (.block 5 (.reg false [⟨some 57, .mv (.t 10), none⟩, ⟨some 58, .mv (.t 9), none⟩, ⟨some 59, .mv (.t 11), none⟩, ⟨some 60, .ia 2 (.t 58) (.t 59), none⟩, ⟨some 61, .fa 1 (.t 60), none⟩, ⟨some 62, .ld false 1 (.t 61), none⟩, ⟨some 63, .bin .add (.t 57) (.t 62), none⟩, ⟨some 10, .mv (.t 63), none⟩]))
 (.reg false [⟨some 55, .mv (.t 11), none⟩, ⟨some 56, .bin .add (.t 55) (ki 1), none⟩, ⟨some 11, .mv (.t 56), none⟩]))))))
 (.seq (.seq (.reg false [⟨some 64, .mv (.t 7), none⟩, ⟨some 65, .mv (.t 8), none⟩, ⟨some 66, .ia 2 (.t 64) (.t 65), none⟩, ⟨some 67, .fa 1 (.t 66), none⟩, ⟨some 68, .ld false 1 (.t 67), none⟩, ⟨some 69, .bin .lss (.t 68) (ki 65536), none⟩, ⟨some 70, .mv (.t 69), none⟩, ⟨some 71, .mv (.t 10), some (70, true)⟩, ⟨some 72, .mv (.t 7), some (70, true)⟩, ⟨some 73, .mv (.t 8), some (70, true)⟩, ⟨some 74, .ia 2 (.t 72) (.t 73), some (70, true)⟩, ⟨some 75, .fa 1 (.t 74), some (70, true)⟩, ⟨some 76, .ld false 1 (.t 75), some (70, true)⟩, ⟨some 77, .bin .neq (.t 71) (.t 76), some (70, true)⟩, ⟨some 78, .pick (.t 70) (.t 77) (kb false), none⟩, ⟨some 79, .mv (.t 78), none⟩, ⟨some 80, .mv (.t 10), some (79, false)⟩, ⟨some 81, .mv (.t 7), some (79, false)⟩, ⟨some 82, .mv (.t 8), some (79, false)⟩, ⟨some 83, .ia 2 (.t 81) (.t 82), some (79, false)⟩, ⟨some 84, .fa 1 (.t 83), some (79, false)⟩, ⟨some 85, .ld false 1 (.t 84), some (79, false)⟩, ⟨some 86, .bin .lss (.t 80) (.t 85), some (79, false)⟩, ⟨some 87, .pick (.t 79) (kb true) (.t 86), none⟩])
 (.cond (.t 87)
 (.seq (.reg false [⟨some 2, .mv (kb false), none⟩])
 .ret)
 .skip))
 (.reg false [⟨some 88, .mv (.t 6), none⟩, ⟨some 89, .mv (.t 7), none⟩, ⟨some 90, .mv (.t 8), none⟩, ⟨some 91, .ia 2 (.t 89) (.t 90), none⟩, ⟨some 92, .fa 1 (.t 91), none⟩, ⟨some 93, .ld false 1 (.t 92), none⟩, ⟨some 94, .bin .add (.t 88) (.t 93), none⟩, ⟨some 6, .mv (.t 94), none⟩]))))))
 (.reg false [⟨some 42, .mv (.t 8), none⟩, ⟨some 43, .bin .add (.t 42) (ki 1), none⟩, ⟨some 8, .mv (.t 43), none⟩]))))))
 (.seq (.reg false [⟨some 95, .mv (.t 3), none⟩, ⟨some 96, .bin .geq (.t 95) (ki 65536), none⟩, ⟨some 97, .mv (.t 96), none⟩, ⟨some 98, .mv (.t 6), some (97, false)⟩, ⟨some 99, .mv (.t 3), some (97, false)⟩, ⟨some 100, .bin .eql (.t 98) (.t 99), some (97, false)⟩, ⟨some 101, .pick (.t 97) (kb true) (.t 100), none⟩, ⟨some 102, .mv (.t 101), none⟩, ⟨some 103, .mv (.t 4), some (102, true)⟩, ⟨some 104, .len (.t 103), some (102, true)⟩, ⟨some 105, .mv (.t 0), some (102, true)⟩, ⟨some 106, .len (.t 105), some (102, true)⟩, ⟨some 107, .bin .eql (.t 104) (.t 106), some (102, true)⟩, ⟨some 108, .pick (.t 102) (.t 107) (kb false), none⟩, ⟨some 109, .mv (.t 108), none⟩, ⟨some 110, .call (kf 39) [], some (109, true)⟩, ⟨some 111, .pick (.t 109) (.t 110) (kb false), none⟩, ⟨some 2, .mv (.t 111), none⟩])
 .ret)))))))))
abbrev n_windroselaw06_TopoSums : Nat := 13
theorem F_windroselaw06_TopoSums : Fun Try.prog n_windroselaw06_TopoSums 112 c_windroselaw06_TopoSums [.t 2] := ⟨⟨Try.f13, _, Try.func13, by kernel_rfl, rfl, rfl, by kernel_rfl, by kernel_rfl⟩⟩
/-- cmp.isNaN[int] -/
def c_cmp_isNaN_int : C :=
 (.seq (.reg false [⟨some 2, .mv (kb false), none⟩])
 (.seq (.reg false [⟨some 3, .mv (.t 0), none⟩, ⟨some 4, .mv (.t 0), none⟩, ⟨some 5, .bin .neq (.t 3) (.t 4), none⟩, ⟨some 2, .mv (.t 5), none⟩])
 .ret))
abbrev n_cmp_isNaN_int : Nat := 83
theorem F_cmp_isNaN_int : Fun Try.prog n_cmp_isNaN_int 6 c_cmp_isNaN_int [.t 2] := ⟨⟨Try.f83, _, Try.func83, by kernel_rfl, rfl, rfl, by kernel_rfl, by kernel_rfl⟩⟩
/-- cmp.Compare[int] -/
def c_cmp_Compare_int : C :=
 (.seq (.reg false [⟨some 4, .mv (ki 0), none⟩])
 (.seq (.reg false [⟨some 7, .mv (.t 0), none⟩, ⟨some 8, .call (kf 83) [(.t 7)], none⟩, ⟨some 5, .mv (.t 8), none⟩])
 (.seq (.reg false [⟨some 9, .mv (.t 1), none⟩, ⟨some 10, .call (kf 83) [(.t 9)], none⟩, ⟨some 6, .mv (.t 10), none⟩])
 (.seq (.seq (.reg false [⟨some 11, .mv (.t 5), none⟩])
 (.cond (.t 11)
 (.seq (.seq (.reg false [⟨some 12, .mv (.t 6), none⟩])
 (.cond (.t 12)
 (.seq (.reg false [⟨some 4, .mv (ki 0), none⟩])
 .ret)
 .skip))
 (.seq (.reg false [⟨some 4, .mv (ki (-1)), none⟩])
 .ret))
 .skip))
 (.seq (.seq (.reg false [⟨some 13, .mv (.t 6), none⟩])
 (.cond (.t 13)
 (.seq (.reg false [⟨some 4, .mv (ki 1), none⟩])
 .ret)
 .skip))
 (.seq (.seq (.reg false [⟨some 14, .mv (.t 0), none⟩, ⟨some 15, .mv (.t 1), none⟩, ⟨some 16, .bin .lss (.t 14) (.t 15), none⟩])
 (.cond (.t 16)
 (.seq (.reg false [⟨some 4, .mv (ki (-1)), none⟩])
 .ret)
 .skip))
 (.seq (.seq (.reg false [⟨some 17, .mv (.t 0), none⟩, ⟨some 18, .mv (.t 1), none⟩, ⟨some 19, .bin .gtr (.t 17) (.t 18), none⟩])
 (.cond (.t 19)
 (.seq (.reg false [⟨some 4, .mv (ki 1), none⟩])
 .ret)
 .skip))
 (.seq (.reg false [⟨some 4, .mv (ki 0), none⟩])
 .ret))))))))
abbrev n_cmp_Compare_int : Nat := 69
theorem F_cmp_Compare_int : Fun Try.prog n_cmp_Compare_int 20 c_cmp_Compare_int [.t 4] := ⟨⟨Try.f69, _, Try.func69, by kernel_rfl, rfl, rfl, by kernel_rfl, by kernel_rfl⟩⟩
/-- windrose/topo.weigh$1 -/
def c_topo_weigh_1 : C :=
 (.seq (.reg false [⟨some 2, .box 76 2 (.t 0), none⟩, ⟨some 4, .mv (ki 0), none⟩])
 (.seq (.reg false [⟨some 5, .fa 0 (.t 2), none⟩, ⟨some 6, .ld false 1 (.t 5), none⟩, ⟨some 7, .mv (.t 1), none⟩, ⟨some 8, .call (kf 69) [(.t 6), (.t 7)], none⟩, ⟨some 4, .mv (.t 8), none⟩])
 .ret))
abbrev n_topo_weigh_1 : Nat := 85
theorem F_topo_weigh_1 : Fun Try.prog n_topo_weigh_1 9 c_topo_weigh_1 [.t 4] := ⟨⟨Try.f85, _, Try.func85, by kernel_rfl, rfl, rfl, by kernel_rfl, by kernel_rfl⟩⟩
/-- windrose/topo.Find$1 -/
def c_topo_Find_1 : C :=
 (.seq (.reg false [⟨some 2, .box 67 6 (.t 0), none⟩, ⟨some 4, .mv (ki 0), none⟩])
 (.seq (.reg false [⟨some 5, .fa 0 (.t 2), none⟩, ⟨some 6, .ld false 1 (.t 5), none⟩, ⟨some 7, .mv (.t 1), none⟩, ⟨some 8, .call (kf 69) [(.t 6), (.t 7)], none⟩, ⟨some 4, .mv (.t 8), none⟩])
 .ret))
abbrev n_topo_Find_1 : Nat := 68
theorem F_topo_Find_1 : Fun Try.prog n_topo_Find_1 9 c_topo_Find_1 [.t 4] := ⟨⟨Try.f68, _, Try.func68, by kernel_rfl, rfl, rfl, by kernel_rfl, by kernel_rfl⟩⟩
/-- windrose/topo.Zones$1 -/
def c_topo_Zones_1 : C :=
 (.seq (.reg false [⟨some 1, .box 67 6 (.t 0), none⟩, ⟨some 2, .mv (kb false), none⟩])
 (.seq (.reg false [⟨some 2, .mv (kb true), none⟩])
 .ret))
abbrev n_topo_Zones_1 : Nat := 74
theorem F_topo_Zones_1 : Fun Try.prog n_topo_Zones_1 3 c_topo_Zones_1 [.t 2] := ⟨⟨Try.f74, _, Try.func74, by kernel_rfl, rfl, rfl, by kernel_rfl, by kernel_rfl⟩⟩
/-- windrose/topo.Zones$2 -/
def c_topo_Zones_2 : C :=
 (.seq (.reg false [⟨some 1, .box 67 6 (.t 0), none⟩, ⟨some 2, .mv (ki 0), none⟩])
 (.seq (.reg false [⟨some 3, .fa 1 (.t 1), none⟩, ⟨some 4, .ld false 1 (.t 3), none⟩, ⟨some 2, .mv (.t 4), none⟩])
 .ret))
abbrev n_topo_Zones_2 : Nat := 75
theorem F_topo_Zones_2 : Fun Try.prog n_topo_Zones_2 5 c_topo_Zones_2 [.t 2] := ⟨⟨Try.f75, _, Try.func75, by kernel_rfl, rfl, rfl, by kernel_rfl, by kernel_rfl⟩⟩
/-- windrose/topo.Racks$1 -/
def c_topo_Racks_1 : C :=
 (.seq (.reg false [⟨some 2, .box 67 6 (.t 0), none⟩, ⟨some 3, .mv (kb false), none⟩])
 (.seq (.reg false [⟨some 4, .fa 1 (.t 2), none⟩, ⟨some 5, .ld false 1 (.t 4), none⟩, ⟨some 6, .ld false 1 (.t 1), none⟩, ⟨some 7, .bin .eql (.t 5) (.t 6), none⟩, ⟨some 3, .mv (.t 7), none⟩])
 .ret))
abbrev n_topo_Racks_1 : Nat := 76
theorem F_topo_Racks_1 : Fun Try.prog n_topo_Racks_1 8 c_topo_Racks_1 [.t 3] := ⟨⟨Try.f76, _, Try.func76, by kernel_rfl, rfl, rfl, by kernel_rfl, by kernel_rfl⟩⟩
/-- windrose/topo.Racks$2 -/
def c_topo_Racks_2 : C :=
 (.seq (.reg false [⟨some 1, .box 67 6 (.t 0), none⟩, ⟨some 2, .mv (ki 0), none⟩])
 (.seq (.reg false [⟨some 3, .fa 2 (.t 1), none⟩, ⟨some 4, .ld false 1 (.t 3), none⟩, ⟨some 2, .mv (.t 4), none⟩])
 .ret))
abbrev n_topo_Racks_2 : Nat := 77
theorem F_topo_Racks_2 : Fun Try.prog n_topo_Racks_2 5 c_topo_Racks_2 [.t 2] := ⟨⟨Try.f77, _, Try.func77, by kernel_rfl, rfl, rfl, by kernel_rfl, by kernel_rfl⟩⟩
/-- windrose/topo.Leaves$1 -/
def c_topo_Leaves_1 : C :=
 (.seq (.reg false [⟨some 3, .box 67 6 (.t 0), none⟩, ⟨some 4, .mv (kb false), none⟩])
 (.seq (.reg false [⟨some 5, .ld false 1 (.t 1), none⟩, ⟨some 6, .bin .eql (.t 5) (ki 0), none⟩, ⟨some 7, .mv (.t 6), none⟩, ⟨some 8, .fa 1 (.t 3), some (7, false)⟩, ⟨some 9, .ld false 1 (.t 8), some (7, false)⟩, ⟨some 10, .ld false 1 (.t 1), some (7, false)⟩, ⟨some 11, .bin .eql (.t 9) (.t 10), some (7, false)⟩, ⟨some 12, .pick (.t 7) (kb true) (.t 11), none⟩, ⟨some 13, .mv (.t 12), none⟩, ⟨some 14, .ld false 1 (.t 2), some (13, true)⟩, ⟨some 15, .bin .eql (.t 14) (ki 0), some (13, true)⟩, ⟨some 16, .mv (.t 15), some (13, true)⟩, ⟨some 17, .fa 2 (.t 3), some (16, false)⟩, ⟨some 18, .ld false 1 (.t 17), some (16, false)⟩, ⟨some 19, .ld false 1 (.t 2), some (16, false)⟩, ⟨some 20, .bin .eql (.t 18) (.t 19), some (16, false)⟩, ⟨some 21, .pick (.t 16) (kb true) (.t 20), some (13, true)⟩, ⟨some 22, .pick (.t 13) (.t 21) (kb false), none⟩, ⟨some 4, .mv (.t 22), none⟩])
 .ret))
abbrev n_topo_Leaves_1 : Nat := 72
theorem F_topo_Leaves_1 : Fun Try.prog n_topo_Leaves_1 23 c_topo_Leaves_1 [.t 4] := ⟨⟨Try.f72, _, Try.func72, by kernel_rfl, rfl, rfl, by kernel_rfl, by kernel_rfl⟩⟩
/-- windrose/topo.Leaves$2 -/
def c_topo_Leaves_2 : C :=
 (.seq (.reg false [⟨some 1, .box 67 6 (.t 0), none⟩, ⟨some 2, .mv (ki 0), none⟩])
 (.seq (.reg false [⟨some 3, .fa 0 (.t 1), none⟩, ⟨some 4, .ld false 1 (.t 3), none⟩, ⟨some 2, .mv (.t 4), none⟩])
 .ret))
abbrev n_topo_Leaves_2 : Nat := 73
theorem F_topo_Leaves_2 : Fun Try.prog n_topo_Leaves_2 5 c_topo_Leaves_2 [.t 2] := ⟨⟨Try.f73, _, Try.func73, by kernel_rfl, rfl, rfl, by kernel_rfl, by kernel_rfl⟩⟩
end Go.Proofs.Ytkfakciimeiehaa.A
