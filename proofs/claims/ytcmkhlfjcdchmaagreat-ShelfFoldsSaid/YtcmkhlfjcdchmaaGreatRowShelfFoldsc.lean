/- Part 3 of the texts on which the row stands: CdShelf, Abs15, Abs16, Abs17, Abs18. Conditions: none. -/
import Derived.Test.YtcmkhlfjcdchmaaGreatRowShelfFoldsb
import Derived.Test.YtcmkhlfjcdchmaaGreatProg
set_option linter.unusedVariables false
set_option linter.unusedSimpArgs false
section
set_option maxRecDepth 100000
namespace Go.Proofs.YtcmkhlfjcdchmaaGreat.A
open Go Go.Proofs.YtcmkhlfjcdchmaaGreatAbs

/-- windrose/windroselaw14.ShelfFolds -/
def c_windroselaw14_ShelfFolds : C :=
 (.seq (.reg false [⟨some 2, .mv (kb false), none⟩])
 (.seq (.reg false [⟨some 3, .mv (.t 0), none⟩, ⟨some 4, .call (kf 9) [(.t 3)], none⟩, ⟨some 5, .un .not (.t 4), none⟩, ⟨some 6, .mv (.t 5), none⟩, ⟨some 7, .call (kf 10) [], some (6, true)⟩, ⟨some 8, .pick (.t 6) (.t 7) (kb false), none⟩, ⟨some 9, .mv (.t 8), none⟩, ⟨some 10, .mv (.t 0), some (9, false)⟩, ⟨some 11, .call (kf 12) [(.t 10)], some (9, false)⟩, ⟨some 12, .mv (.t 0), some (9, false)⟩, ⟨some 13, .call (kf 13) [(.t 12)], some (9, false)⟩, ⟨some 14, .call (kf 11) [(.t 11), (.t 13)], some (9, false)⟩, ⟨some 15, .mv (.t 14), some (9, false)⟩, ⟨some 16, .mv (.t 0), some (15, true)⟩, ⟨some 17, .call (kf 12) [(.t 16)], some (15, true)⟩, ⟨some 18, .call (kf 14) [(.t 17)], some (15, true)⟩, ⟨some 19, .pick (.t 15) (.t 18) (kb false), some (9, false)⟩, ⟨some 20, .mv (.t 19), some (9, false)⟩, ⟨some 21, .call (kf 10) [], some (20, true)⟩, ⟨some 22, .pick (.t 20) (.t 21) (kb false), some (9, false)⟩, ⟨some 23, .pick (.t 9) (kb true) (.t 22), none⟩, ⟨some 2, .mv (.t 23), none⟩])
 .ret))
abbrev n_windroselaw14_ShelfFolds : Nat := 3
theorem F_windroselaw14_ShelfFolds : Fun Tryz.prog n_windroselaw14_ShelfFolds 24 c_windroselaw14_ShelfFolds [.t 2] := ⟨⟨Tryz.f3, _, Tryz.func3, by kernel_rfl, rfl, rfl, by kernel_rfl, by kernel_rfl⟩⟩
/-- windrose/windroselaw14.ShelfOnce -/
def c_windroselaw14_ShelfOnce : C :=
 (.seq (.reg false [⟨some 4, .box 37 10 (.t 1), none⟩, ⟨some 6, .mv (kb false), none⟩])
 (.seq (.seq (.reg false [⟨some 19, .mv (.t 0), none⟩, ⟨some 20, .call (kf 9) [(.t 19)], none⟩, ⟨some 21, .un .not (.t 20), none⟩, ⟨some 22, .mv (.t 21), none⟩, ⟨some 23, .mv (.t 2), some (22, false)⟩, ⟨some 24, .call (kf 9) [(.t 23)], some (22, false)⟩, ⟨some 25, .un .not (.t 24), some (22, false)⟩, ⟨some 26, .pick (.t 22) (kb true) (.t 25), none⟩, ⟨some 27, .mv (.t 26), none⟩, ⟨some 28, .fa 3 (.t 4), some (27, false)⟩, ⟨some 29, .ld true 7 (.t 28), some (27, false)⟩, ⟨some 30, .call (kf 15) [(.t 29)], some (27, false)⟩, ⟨some 31, .un .not (.t 30), some (27, false)⟩, ⟨some 32, .pick (.t 27) (kb true) (.t 31), none⟩, ⟨some 33, .mv (.t 32), none⟩, ⟨some 34, .fa 1 (.t 4), some (33, false)⟩, ⟨some 35, .ld false 1 (.t 34), some (33, false)⟩, ⟨some 36, .bin .lss (.t 35) (ki 1), some (33, false)⟩, ⟨some 37, .pick (.t 33) (kb true) (.t 36), none⟩, ⟨some 38, .mv (.t 37), none⟩, ⟨some 39, .fa 1 (.t 4), some (38, false)⟩, ⟨some 40, .ld false 1 (.t 39), some (38, false)⟩, ⟨some 41, .bin .geq (.t 40) (ki 2147483648), some (38, false)⟩, ⟨some 42, .pick (.t 38) (kb true) (.t 41), none⟩, ⟨some 43, .mv (.t 42), none⟩, ⟨some 44, .fa 2 (.t 4), some (43, false)⟩, ⟨some 45, .ld false 1 (.t 44), some (43, false)⟩, ⟨some 46, .bin .lss (.t 45) (ki 1), some (43, false)⟩, ⟨some 47, .pick (.t 43) (kb true) (.t 46), none⟩, ⟨some 48, .mv (.t 47), none⟩, ⟨some 49, .fa 2 (.t 4), some (48, false)⟩, ⟨some 50, .ld false 1 (.t 49), some (48, false)⟩, ⟨some 51, .bin .geq (.t 50) (ki 2147483648), some (48, false)⟩, ⟨some 52, .pick (.t 48) (kb true) (.t 51), none⟩])
 (.cond (.t 52)
 (.seq (.reg false [⟨some 53, .call (kf 10) [], none⟩, ⟨some 6, .mv (.t 53), none⟩])
 .ret)
 .skip))
 (.seq (.rgx [[], [0], [], [1, 0, 2], [3, 1, 0, 2], [4, 3, 1, 0, 2], [4, 3, 1, 0, 2], [4, 3, 1, 0, 2], [], [], [8, 5, 4, 3, 1, 0, 2, 9], [9, 6, 4, 3, 1, 0, 2, 10, 8, 5], [7, 4, 3, 1, 0, 2, 11, 9, 6, 10, 8, 5]] [⟨some 55, .mv (.t 0), none⟩, ⟨some 56, .call (kf 12) [(.t 55)], none⟩, ⟨some 57, .ld true 10 (.t 4), none⟩, ⟨some 58, .call (kf 16) [(.t 56), (.t 57)], none⟩, ⟨some 54, .mv (.t 58), none⟩, ⟨some 59, .ex (.t 54) 0, none⟩, ⟨some 60, .ex (.t 54) 1, none⟩, ⟨some 61, .ex (.t 54) 2, none⟩, ⟨some 7, .alloc 29 3 [.slice none 0 0, .slice none 0 0, .int .i64 0], none⟩, ⟨some 8, .alloc 41 3 [.int .i64 0, .bool false, .int .i64 0], none⟩, ⟨none, .st 3 (.t 7) (.t 59), none⟩, ⟨none, .st 3 (.t 8) (.t 60), none⟩, ⟨some 9, .mv (.t 61), none⟩])
 (.seq (.seq (.reg false [⟨some 62, .mv (.t 9), none⟩, ⟨some 63, .bin .neq (.t 62) (ki 0), none⟩])
 (.cond (.t 63)
 (.seq (.reg false [⟨some 6, .mv (kb false), none⟩])
 .ret)
 .skip))
 (.seq (.seq (.reg false [⟨some 64, .fa 0 (.t 8), none⟩, ⟨some 65, .ld false 1 (.t 64), none⟩, ⟨some 66, .bin .eql (.t 65) (ki 9), none⟩])
 (.cond (.t 66)
 (.seq (.reg false [⟨some 67, .call (kf 10) [], none⟩, ⟨some 6, .mv (.t 67), none⟩])
 .ret)
 .skip))
 (.seq (.seq (.reg false [⟨some 10, .mv (ki 0), none⟩])
 (.block 0 (.loop (.seq (.seq (.reg false [⟨some 68, .mv (.t 10), none⟩, ⟨some 69, .mv (.t 2), none⟩, ⟨some 70, .len (.t 69), none⟩, ⟨some 71, .bin .lss (.t 68) (.t 70), none⟩])
 (.cond (.t 71)
 .skip
 (.exit 0)))
 (.seq (.block 1 (.seq (.seq (.reg true [⟨some 74, .mv (.t 2), none⟩, ⟨some 75, .mv (.t 10), none⟩, ⟨some 76, .ia 10 (.t 74) (.t 75), none⟩, ⟨some 77, .fa 1 (.t 76), none⟩, ⟨some 78, .ld false 1 (.t 77), none⟩, ⟨some 79, .fa 1 (.t 4), none⟩, ⟨some 80, .ld false 1 (.t 79), none⟩, ⟨some 81, .bin .eql (.t 78) (.t 80), none⟩])
 (.cond (.t 81)
 (.exit 1)
 .skip))
 (.seq (.rgx [[], [], [], [1, 2], [3, 1, 2], [0, 4, 3, 1, 2], [5, 0, 4, 3, 1, 2], [6, 5, 0, 4, 3, 1, 2], [6, 5, 0, 4, 3, 1, 2], [6, 5, 0, 4, 3, 1, 2], [], [], [10, 7, 6, 5, 0, 4, 3, 1, 2, 11], [11, 8, 6, 5, 0, 4, 3, 1, 2, 12, 10, 7], [9, 6, 5, 0, 4, 3, 1, 2, 13, 11, 8, 12, 10, 7]] [⟨some 83, .ld true 3 (.t 7), none⟩, ⟨some 84, .mv (.t 2), none⟩, ⟨some 85, .mv (.t 10), none⟩, ⟨some 86, .ia 10 (.t 84) (.t 85), none⟩, ⟨some 87, .ld true 10 (.t 86), none⟩, ⟨some 88, .call (kf 16) [(.t 83), (.t 87)], none⟩, ⟨some 82, .mv (.t 88), none⟩, ⟨some 89, .ex (.t 82) 0, none⟩, ⟨some 90, .ex (.t 82) 1, none⟩, ⟨some 91, .ex (.t 82) 2, none⟩, ⟨some 11, .alloc 29 3 [.slice none 0 0, .slice none 0 0, .int .i64 0], none⟩, ⟨some 12, .alloc 41 3 [.int .i64 0, .bool false, .int .i64 0], none⟩, ⟨none, .st 3 (.t 11) (.t 89), none⟩, ⟨none, .st 3 (.t 12) (.t 90), none⟩, ⟨some 13, .mv (.t 91), none⟩])
 (.seq (.reg false [⟨some 92, .mv (.t 13), none⟩, ⟨some 93, .bin .eql (.t 92) (ki 0), none⟩])
 (.cond (.t 93)
 (.reg false [⟨some 94, .ld true 3 (.t 11), none⟩, ⟨none, .st 3 (.t 7) (.t 94), none⟩])
 .skip)))))
 (.reg false [⟨some 72, .mv (.t 10), none⟩, ⟨some 73, .bin .add (.t 72) (ki 1), none⟩, ⟨some 10, .mv (.t 73), none⟩]))))))
 (.seq (.reg false [⟨some 14, .mv (kb false), none⟩])
 (.seq (.seq (.reg false [⟨some 15, .mv (ki 0), none⟩])
 (.block 2 (.loop (.seq (.seq (.reg false [⟨some 95, .mv (.t 15), none⟩, ⟨some 96, .fa 1 (.t 7), none⟩, ⟨some 97, .ld false 1 (.t 96), none⟩, ⟨some 98, .len (.t 97), none⟩, ⟨some 99, .bin .lss (.t 95) (.t 98), none⟩])
 (.cond (.t 99)
 .skip
 (.exit 2)))
 (.seq (.block 3 (.reg true [⟨some 102, .mv (.t 14), none⟩, ⟨some 103, .mv (.t 102), none⟩, ⟨some 104, .fa 1 (.t 7), some (103, false)⟩, ⟨some 105, .ld false 1 (.t 104), some (103, false)⟩, ⟨some 106, .mv (.t 15), some (103, false)⟩, ⟨some 107, .ia 5 (.t 105) (.t 106), some (103, false)⟩, ⟨some 108, .fa 0 (.t 107), some (103, false)⟩, ⟨some 109, .ld false 1 (.t 108), some (103, false)⟩, ⟨some 110, .fa 1 (.t 4), some (103, false)⟩, ⟨some 111, .ld false 1 (.t 110), some (103, false)⟩, ⟨some 112, .bin .eql (.t 109) (.t 111), some (103, false)⟩, ⟨some 113, .pick (.t 103) (kb true) (.t 112), none⟩, ⟨some 14, .mv (.t 113), none⟩]))
 (.reg false [⟨some 100, .mv (.t 15), none⟩, ⟨some 101, .bin .add (.t 100) (ki 1), none⟩, ⟨some 15, .mv (.t 101), none⟩]))))))
 (.seq (.reg false [⟨some 115, .ld true 3 (.t 7), none⟩, ⟨some 116, .ld true 10 (.t 4), none⟩, ⟨some 117, .call (kf 16) [(.t 115), (.t 116)], none⟩, ⟨some 114, .mv (.t 117), none⟩, ⟨some 118, .ex (.t 114) 0, none⟩, ⟨some 119, .ex (.t 114) 1, none⟩, ⟨some 120, .ex (.t 114) 2, none⟩, ⟨some 16, .alloc 29 3 [.slice none 0 0, .slice none 0 0, .int .i64 0], none⟩, ⟨some 17, .alloc 41 3 [.int .i64 0, .bool false, .int .i64 0], none⟩, ⟨none, .st 3 (.t 16) (.t 118), none⟩, ⟨none, .st 3 (.t 17) (.t 119), none⟩, ⟨some 18, .mv (.t 120), none⟩])
 (.seq (.reg false [⟨some 121, .mv (.t 14), none⟩, ⟨some 122, .un .not (.t 121), none⟩, ⟨some 123, .mv (.t 122), none⟩, ⟨some 124, .mv (.t 18), some (123, false)⟩, ⟨some 125, .bin .eql (.t 124) (ki 0), some (123, false)⟩, ⟨some 126, .mv (.t 125), some (123, false)⟩, ⟨some 127, .ld true 3 (.t 17), some (126, true)⟩, ⟨some 128, .ld true 3 (.t 8), some (126, true)⟩, ⟨some 129, .eqa [1, 0, 1] false (.t 127) (.t 128), some (126, true)⟩, ⟨some 130, .pick (.t 126) (.t 129) (kb false), some (123, false)⟩, ⟨some 131, .mv (.t 130), some (123, false)⟩, ⟨some 132, .ld true 3 (.t 16), some (131, true)⟩, ⟨some 133, .ld true 3 (.t 7), some (131, true)⟩, ⟨some 134, .call (kf 11) [(.t 132), (.t 133)], some (131, true)⟩, ⟨some 135, .pick (.t 131) (.t 134) (kb false), some (123, false)⟩, ⟨some 136, .pick (.t 123) (kb true) (.t 135), none⟩, ⟨some 137, .mv (.t 136), none⟩, ⟨some 138, .call (kf 10) [], some (137, true)⟩, ⟨some 139, .pick (.t 137) (.t 138) (kb false), none⟩, ⟨some 6, .mv (.t 139), none⟩])
 .ret))))))))))
abbrev n_windroselaw14_ShelfOnce : Nat := 4
theorem F_windroselaw14_ShelfOnce : Fun Tryz.prog n_windroselaw14_ShelfOnce 140 c_windroselaw14_ShelfOnce [.t 6] := ⟨⟨Tryz.f4, _, Tryz.func4, by kernel_rfl, rfl, rfl, by kernel_rfl, by kernel_rfl⟩⟩
/-- windrose/windroselaw14.ShelfTrims -/
def c_windroselaw14_ShelfTrims : C :=
 (.seq (.reg false [⟨some 4, .mv (kb false), none⟩])
 (.seq (.seq (.reg false [⟨some 13, .mv (.t 0), none⟩, ⟨some 14, .call (kf 9) [(.t 13)], none⟩, ⟨some 15, .un .not (.t 14), none⟩, ⟨some 16, .mv (.t 15), none⟩, ⟨some 17, .mv (.t 1), some (16, false)⟩, ⟨some 18, .bin .lss (.t 17) (ki 0), some (16, false)⟩, ⟨some 19, .pick (.t 16) (kb true) (.t 18), none⟩, ⟨some 20, .mv (.t 19), none⟩, ⟨some 21, .mv (.t 1), some (20, false)⟩, ⟨some 22, .bin .gtr (.t 21) (ki 1099511627776), some (20, false)⟩, ⟨some 23, .pick (.t 20) (kb true) (.t 22), none⟩])
 (.cond (.t 23)
 (.seq (.reg false [⟨some 24, .call (kf 10) [], none⟩, ⟨some 4, .mv (.t 24), none⟩])
 .ret)
 .skip))
 (.seq (.reg false [⟨some 25, .mv (.t 0), none⟩, ⟨some 26, .call (kf 12) [(.t 25)], none⟩, ⟨some 5, .alloc 29 3 [.slice none 0 0, .slice none 0 0, .int .i64 0], none⟩, ⟨none, .st 3 (.t 5) (.t 26), none⟩])
 (.seq (.reg false [⟨some 28, .ld true 3 (.t 5), none⟩, ⟨some 29, .mv (.t 1), none⟩, ⟨some 30, .bld [.int .i64 0, .string ⟨#[]⟩, .int .i64 0, .int .i64 0, .int .i64 0, .int .i64 0, .int .i64 0] [(0, 1, (ki 2)), (4, 1, (.t 29))], none⟩, ⟨some 31, .bld [.int .i64 0, .int .i64 0, .int .i64 0, .int .i64 0, .string ⟨#[]⟩, .int .i64 0, .int .i64 0, .int .i64 0, .int .i64 0, .int .i64 0] [(2, 1, (ki 1)), (3, 7, (.t 30))], none⟩, ⟨some 32, .call (kf 16) [(.t 28), (.t 31)], none⟩, ⟨some 27, .mv (.t 32), none⟩, ⟨some 33, .ex (.t 27) 0, none⟩, ⟨some 34, .ex (.t 27) 1, none⟩, ⟨some 35, .ex (.t 27) 2, none⟩, ⟨some 6, .alloc 29 3 [.slice none 0 0, .slice none 0 0, .int .i64 0], none⟩, ⟨some 7, .alloc 41 3 [.int .i64 0, .bool false, .int .i64 0], none⟩, ⟨none, .st 3 (.t 6) (.t 33), none⟩, ⟨none, .st 3 (.t 7) (.t 34), none⟩, ⟨some 8, .mv (.t 35), none⟩])
 (.seq (.seq (.reg false [⟨some 36, .mv (.t 8), none⟩, ⟨some 37, .bin .neq (.t 36) (ki 0), none⟩])
 (.cond (.t 37)
 (.seq (.reg false [⟨some 4, .mv (kb false), none⟩])
 .ret)
 .skip))
 (.seq (.seq (.reg false [⟨some 38, .mv (.t 1), none⟩, ⟨some 39, .fa 2 (.t 5), none⟩, ⟨some 40, .ld false 1 (.t 39), none⟩, ⟨some 41, .bin .lss (.t 38) (.t 40), none⟩])
 (.cond (.t 41)
 (.seq (.reg false [⟨some 42, .fa 0 (.t 7), none⟩, ⟨some 43, .ld false 1 (.t 42), none⟩, ⟨some 44, .bin .eql (.t 43) (ki 9), none⟩, ⟨some 45, .mv (.t 44), none⟩, ⟨some 46, .ld true 3 (.t 6), some (45, true)⟩, ⟨some 47, .ld true 3 (.t 5), some (45, true)⟩, ⟨some 48, .call (kf 11) [(.t 46), (.t 47)], some (45, true)⟩, ⟨some 49, .pick (.t 45) (.t 48) (kb false), none⟩, ⟨some 50, .mv (.t 49), none⟩, ⟨some 51, .call (kf 10) [], some (50, true)⟩, ⟨some 52, .pick (.t 50) (.t 51) (kb false), none⟩, ⟨some 4, .mv (.t 52), none⟩])
 .ret)
 .skip))
 (.seq (.reg false [⟨some 9, .mv (ki 0), none⟩])
 (.seq (.seq (.reg false [⟨some 10, .mv (ki 0), none⟩])
 (.block 0 (.loop (.seq (.seq (.reg false [⟨some 53, .mv (.t 10), none⟩, ⟨some 54, .fa 0 (.t 5), none⟩, ⟨some 55, .ld false 1 (.t 54), none⟩, ⟨some 56, .len (.t 55), none⟩, ⟨some 57, .bin .lss (.t 53) (.t 56), none⟩])
 (.cond (.t 57)
 .skip
 (.exit 0)))
 (.seq (.block 1 (.seq (.reg false [⟨some 60, .bsl 33 2 0 [.int .i64 0, .int .i64 0] [], none⟩, ⟨some 11, .mv (.t 60), none⟩])
 (.seq (.seq (.reg false [⟨some 12, .mv (ki 0), none⟩])
 (.block 2 (.loop (.seq (.seq (.reg false [⟨some 61, .mv (.t 12), none⟩, ⟨some 62, .fa 0 (.t 5), none⟩, ⟨some 63, .ld false 1 (.t 62), none⟩, ⟨some 64, .mv (.t 10), none⟩, ⟨some 65, .ia 2 (.t 63) (.t 64), none⟩, ⟨some 66, .fa 1 (.t 65), none⟩, ⟨some 67, .ld false 1 (.t 66), none⟩, ⟨some 68, .len (.t 67), none⟩, ⟨some 69, .bin .lss (.t 61) (.t 68), none⟩])
 (.cond (.t 69)
 .skip
 (.exit 2)))
 (.seq (.block 3 (.seq (.reg false [⟨some 72, .fa 0 (.t 5), none⟩, ⟨some 73, .ld false 1 (.t 72), none⟩, ⟨some 74, .mv (.t 10), none⟩, ⟨some 75, .ia 2 (.t 73) (.t 74), none⟩, ⟨some 76, .fa 1 (.t 75), none⟩, ⟨some 77, .ld false 1 (.t 76), none⟩, ⟨some 78, .mv (.t 12), none⟩, ⟨some 79, .ia 2 (.t 77) (.t 78), none⟩, ⟨some 80, .fa 0 (.t 79), none⟩, ⟨some 81, .ld false 1 (.t 80), none⟩, ⟨some 82, .mv (.t 1), none⟩, ⟨some 83, .bin .geq (.t 81) (.t 82), none⟩])
 (.cond (.t 83)
 (.reg false [⟨some 84, .mv (.t 11), none⟩, ⟨some 85, .fa 0 (.t 5), none⟩, ⟨some 86, .ld false 1 (.t 85), none⟩, ⟨some 87, .mv (.t 10), none⟩, ⟨some 88, .ia 2 (.t 86) (.t 87), none⟩, ⟨some 89, .fa 1 (.t 88), none⟩, ⟨some 90, .ld false 1 (.t 89), none⟩, ⟨some 91, .mv (.t 12), none⟩, ⟨some 92, .ia 2 (.t 90) (.t 91), none⟩, ⟨some 93, .ld true 2 (.t 92), none⟩, ⟨some 94, .bsl 33 2 1 [.int .i64 0, .int .i64 0] [(0, (.t 93))], none⟩, ⟨some 95, .app 33 2 16 [.int .i64 0, .int .i64 0] (.t 84) (.t 94), none⟩, ⟨some 11, .mv (.t 95), none⟩])
 .skip)))
 (.reg false [⟨some 70, .mv (.t 12), none⟩, ⟨some 71, .bin .add (.t 70) (ki 1), none⟩, ⟨some 12, .mv (.t 71), none⟩]))))))
 (.seq (.seq (.reg false [⟨some 96, .mv (.t 11), none⟩, ⟨some 97, .len (.t 96), none⟩, ⟨some 98, .bin .gtr (.t 97) (ki 0), none⟩])
 (.cond (.t 98)
 (.reg false [⟨some 99, .mv (.t 9), none⟩, ⟨some 100, .bin .add (.t 99) (ki 1), none⟩, ⟨some 9, .mv (.t 100), none⟩])
 .skip))
 (.seq (.reg true [⟨some 101, .ld true 3 (.t 6), none⟩, ⟨some 102, .fa 0 (.t 5), none⟩, ⟨some 103, .ld false 1 (.t 102), none⟩, ⟨some 104, .mv (.t 10), none⟩, ⟨some 105, .ia 2 (.t 103) (.t 104), none⟩, ⟨some 106, .fa 0 (.t 105), none⟩, ⟨some 107, .ld false 1 (.t 106), none⟩, ⟨some 108, .call (kf 18) [(.t 101), (.t 107)], none⟩, ⟨some 109, .mv (.t 11), none⟩, ⟨some 110, .call (kf 17) [(.t 108), (.t 109)], none⟩, ⟨some 111, .un .not (.t 110), none⟩])
 (.cond (.t 111)
 (.seq (.reg false [⟨some 4, .mv (kb false), none⟩])
 .ret)
 .skip))))))
 (.reg false [⟨some 58, .mv (.t 10), none⟩, ⟨some 59, .bin .add (.t 58) (ki 1), none⟩, ⟨some 10, .mv (.t 59), none⟩]))))))
 (.seq (.reg false [⟨some 112, .ld true 3 (.t 7), none⟩, ⟨some 113, .bld [.int .i64 0, .bool false, .int .i64 0] [], none⟩, ⟨some 114, .eqa [1, 0, 1] false (.t 112) (.t 113), none⟩, ⟨some 115, .mv (.t 114), none⟩, ⟨some 116, .fa 2 (.t 6), some (115, true)⟩, ⟨some 117, .ld false 1 (.t 116), some (115, true)⟩, ⟨some 118, .mv (.t 1), some (115, true)⟩, ⟨some 119, .bin .eql (.t 117) (.t 118), some (115, true)⟩, ⟨some 120, .pick (.t 115) (.t 119) (kb false), none⟩, ⟨some 121, .mv (.t 120), none⟩, ⟨some 122, .fa 0 (.t 6), some (121, true)⟩, ⟨some 123, .ld false 1 (.t 122), some (121, true)⟩, ⟨some 124, .len (.t 123), some (121, true)⟩, ⟨some 125, .mv (.t 9), some (121, true)⟩, ⟨some 126, .bin .eql (.t 124) (.t 125), some (121, true)⟩, ⟨some 127, .pick (.t 121) (.t 126) (kb false), none⟩, ⟨some 128, .mv (.t 127), none⟩, ⟨some 129, .call (kf 10) [], some (128, true)⟩, ⟨some 130, .pick (.t 128) (.t 129) (kb false), none⟩, ⟨some 4, .mv (.t 130), none⟩])
 .ret)))))))))
abbrev n_windroselaw14_ShelfTrims : Nat := 5
theorem F_windroselaw14_ShelfTrims : Fun Tryz.prog n_windroselaw14_ShelfTrims 131 c_windroselaw14_ShelfTrims [.t 4] := ⟨⟨Tryz.f5, _, Tryz.func5, by kernel_rfl, rfl, rfl, by kernel_rfl, by kernel_rfl⟩⟩
/-- windrose/windroselaw14.ShelfDoes -/
def c_windroselaw14_ShelfDoes : C :=
 (.seq (.reg false [⟨some 2, .box 29 3 (.t 0), none⟩, ⟨some 3, .box 37 10 (.t 1), none⟩, ⟨some 4, .mv (kb false), none⟩])
 (.seq (.seq (.reg false [⟨some 13, .ld true 3 (.t 2), none⟩, ⟨some 14, .call (kf 19) [(.t 13)], none⟩, ⟨some 15, .un .not (.t 14), none⟩, ⟨some 16, .mv (.t 15), none⟩, ⟨some 17, .fa 3 (.t 3), some (16, false)⟩, ⟨some 18, .ld true 7 (.t 17), some (16, false)⟩, ⟨some 19, .call (kf 15) [(.t 18)], some (16, false)⟩, ⟨some 20, .un .not (.t 19), some (16, false)⟩, ⟨some 21, .pick (.t 16) (kb true) (.t 20), none⟩])
 (.cond (.t 21)
 (.seq (.reg false [⟨some 22, .call (kf 10) [], none⟩, ⟨some 4, .mv (.t 22), none⟩])
 .ret)
 .skip))
 (.seq (.reg false [⟨some 24, .ld true 3 (.t 2), none⟩, ⟨some 25, .ld true 10 (.t 3), none⟩, ⟨some 26, .call (kf 16) [(.t 24), (.t 25)], none⟩, ⟨some 23, .mv (.t 26), none⟩, ⟨some 27, .ex (.t 23) 0, none⟩, ⟨some 28, .ex (.t 23) 1, none⟩, ⟨some 29, .ex (.t 23) 2, none⟩, ⟨some 5, .alloc 29 3 [.slice none 0 0, .slice none 0 0, .int .i64 0], none⟩, ⟨some 6, .alloc 41 3 [.int .i64 0, .bool false, .int .i64 0], none⟩, ⟨none, .st 3 (.t 5) (.t 27), none⟩, ⟨none, .st 3 (.t 6) (.t 28), none⟩, ⟨some 7, .mv (.t 29), none⟩])
 (.seq (.seq (.reg true [⟨some 30, .ld true 3 (.t 2), none⟩, ⟨some 31, .call (kf 20) [(.t 30)], none⟩, ⟨some 32, .bin .eql (.t 31) (ki 0), none⟩, ⟨some 33, .ld true 3 (.t 2), none⟩, ⟨some 34, .call (kf 14) [(.t 33)], none⟩, ⟨some 35, .eqb true (.t 32) (.t 34), none⟩, ⟨some 36, .mv (.t 35), none⟩, ⟨some 37, .fa 3 (.t 3), some (36, false)⟩, ⟨some 38, .ld true 7 (.t 37), some (36, false)⟩, ⟨some 39, .call (kf 21) [(.t 38)], some (36, false)⟩, ⟨some 40, .bin .eql (.t 39) (ki 0), some (36, false)⟩, ⟨some 41, .fa 3 (.t 3), some (36, false)⟩, ⟨some 42, .ld true 7 (.t 41), some (36, false)⟩, ⟨some 43, .call (kf 22) [(.t 42)], some (36, false)⟩, ⟨some 44, .eqb true (.t 40) (.t 43), some (36, false)⟩, ⟨some 45, .pick (.t 36) (kb true) (.t 44), none⟩])
 (.cond (.t 45)
 (.seq (.reg false [⟨some 4, .mv (kb false), none⟩])
 .ret)
 .skip))
 (.seq (.seq (.reg false [⟨some 46, .ld true 3 (.t 2), none⟩, ⟨some 47, .call (kf 14) [(.t 46)], none⟩, ⟨some 48, .un .not (.t 47), none⟩])
 (.cond (.t 48)
 (.seq (.reg false [⟨some 49, .mv (.t 7), none⟩, ⟨some 50, .bin .eql (.t 49) (ki 1), none⟩, ⟨some 51, .mv (.t 50), none⟩, ⟨some 52, .ld true 3 (.t 6), some (51, true)⟩, ⟨some 53, .bld [.int .i64 0, .bool false, .int .i64 0] [], some (51, true)⟩, ⟨some 54, .eqa [1, 0, 1] false (.t 52) (.t 53), some (51, true)⟩, ⟨some 55, .pick (.t 51) (.t 54) (kb false), none⟩, ⟨some 56, .mv (.t 55), none⟩, ⟨some 57, .ld true 3 (.t 5), some (56, true)⟩, ⟨some 58, .bld [.slice none 0 0, .slice none 0 0, .int .i64 0] [], some (56, true)⟩, ⟨some 59, .call (kf 11) [(.t 57), (.t 58)], some (56, true)⟩, ⟨some 60, .pick (.t 56) (.t 59) (kb false), none⟩, ⟨some 61, .mv (.t 60), none⟩, ⟨some 62, .ld true 3 (.t 2), some (61, true)⟩, ⟨some 63, .fa 3 (.t 3), some (61, true)⟩, ⟨some 64, .ld true 7 (.t 63), some (61, true)⟩, ⟨some 65, .call (kf 23) [(.t 62), (.t 64)], some (61, true)⟩, ⟨some 66, .bld [.int .i64 0, .bool false, .int .i64 0] [(0, 1, (ki 1))], some (61, true)⟩, ⟨some 67, .eqa [1, 0, 1] false (.t 65) (.t 66), some (61, true)⟩, ⟨some 68, .pick (.t 61) (.t 67) (kb false), none⟩, ⟨some 69, .mv (.t 68), none⟩, ⟨some 70, .call (kf 10) [], some (69, true)⟩, ⟨some 71, .pick (.t 69) (.t 70) (kb false), none⟩, ⟨some 4, .mv (.t 71), none⟩])
 .ret)
 .skip))
 (.seq (.reg false [⟨some 73, .ld true 3 (.t 2), none⟩, ⟨some 74, .ld true 10 (.t 3), none⟩, ⟨some 75, .call (kf 24) [(.t 73), (.t 74)], none⟩, ⟨some 72, .mv (.t 75), none⟩, ⟨some 76, .ex (.t 72) 0, none⟩, ⟨some 77, .ex (.t 72) 1, none⟩, ⟨some 78, .ex (.t 72) 2, none⟩, ⟨some 8, .alloc 29 3 [.slice none 0 0, .slice none 0 0, .int .i64 0], none⟩, ⟨some 9, .alloc 41 3 [.int .i64 0, .bool false, .int .i64 0], none⟩, ⟨none, .st 3 (.t 8) (.t 76), none⟩, ⟨none, .st 3 (.t 9) (.t 77), none⟩, ⟨some 10, .mv (.t 78), none⟩])
 (.seq (.reg false [⟨some 80, .ld true 3 (.t 2), none⟩, ⟨some 81, .fa 3 (.t 3), none⟩, ⟨some 82, .ld true 7 (.t 81), none⟩, ⟨some 83, .call (kf 25) [(.t 80), (.t 82)], none⟩, ⟨some 79, .mv (.t 83), none⟩, ⟨some 84, .ex (.t 79) 0, none⟩, ⟨some 85, .ex (.t 79) 1, none⟩, ⟨some 11, .alloc 29 3 [.slice none 0 0, .slice none 0 0, .int .i64 0], none⟩, ⟨some 12, .alloc 41 3 [.int .i64 0, .bool false, .int .i64 0], none⟩, ⟨none, .st 3 (.t 11) (.t 84), none⟩, ⟨none, .st 3 (.t 12) (.t 85), none⟩])
 (.seq (.reg true [⟨some 86, .mv (.t 7), none⟩, ⟨some 87, .mv (.t 10), none⟩, ⟨some 88, .bin .eql (.t 86) (.t 87), none⟩, ⟨some 89, .mv (.t 88), none⟩, ⟨some 90, .ld true 3 (.t 6), some (89, true)⟩, ⟨some 91, .ld true 3 (.t 9), some (89, true)⟩, ⟨some 92, .eqa [1, 0, 1] false (.t 90) (.t 91), some (89, true)⟩, ⟨some 93, .pick (.t 89) (.t 92) (kb false), none⟩, ⟨some 94, .mv (.t 93), none⟩, ⟨some 95, .ld true 3 (.t 5), some (94, true)⟩, ⟨some 96, .ld true 3 (.t 8), some (94, true)⟩, ⟨some 97, .call (kf 11) [(.t 95), (.t 96)], some (94, true)⟩, ⟨some 98, .pick (.t 94) (.t 97) (kb false), none⟩, ⟨some 99, .mv (.t 98), none⟩, ⟨some 100, .mv (.t 7), some (99, true)⟩, ⟨some 101, .bin .neq (.t 100) (ki 0), some (99, true)⟩, ⟨some 102, .mv (.t 101), some (99, true)⟩, ⟨some 103, .ld true 3 (.t 5), some (102, false)⟩, ⟨some 104, .call (kf 14) [(.t 103)], some (102, false)⟩, ⟨some 105, .pick (.t 102) (kb true) (.t 104), some (99, true)⟩, ⟨some 106, .pick (.t 99) (.t 105) (kb false), none⟩, ⟨some 107, .mv (.t 106), none⟩, ⟨some 108, .ld true 3 (.t 2), some (107, true)⟩, ⟨some 109, .fa 3 (.t 3), some (107, true)⟩, ⟨some 110, .ld true 7 (.t 109), some (107, true)⟩, ⟨some 111, .call (kf 23) [(.t 108), (.t 110)], some (107, true)⟩, ⟨some 112, .ld true 3 (.t 12), some (107, true)⟩, ⟨some 113, .eqa [1, 0, 1] false (.t 111) (.t 112), some (107, true)⟩, ⟨some 114, .pick (.t 107) (.t 113) (kb false), none⟩, ⟨some 115, .mv (.t 114), none⟩, ⟨some 116, .ld true 3 (.t 2), some (115, true)⟩, ⟨some 117, .ld true 3 (.t 5), some (115, true)⟩, ⟨some 118, .call (kf 26) [(.t 116), (.t 117)], some (115, true)⟩, ⟨some 119, .ld true 3 (.t 2), some (115, true)⟩, ⟨some 120, .ld true 3 (.t 5), some (115, true)⟩, ⟨some 121, .call (kf 11) [(.t 119), (.t 120)], some (115, true)⟩, ⟨some 122, .eqb false (.t 118) (.t 121), some (115, true)⟩, ⟨some 123, .pick (.t 115) (.t 122) (kb false), none⟩, ⟨some 124, .mv (.t 123), none⟩, ⟨some 125, .call (kf 10) [], some (124, true)⟩, ⟨some 126, .pick (.t 124) (.t 125) (kb false), none⟩, ⟨some 4, .mv (.t 126), none⟩])
 .ret))))))))
abbrev n_windroselaw14_ShelfDoes : Nat := 6
theorem F_windroselaw14_ShelfDoes : Fun Tryz.prog n_windroselaw14_ShelfDoes 127 c_windroselaw14_ShelfDoes [.t 4] := ⟨⟨Tryz.f6, _, Tryz.func6, by kernel_rfl, rfl, rfl, by kernel_rfl, by kernel_rfl⟩⟩
/-- windrose/windroselaw14.Entries -/
def c_windroselaw14_Entries : C :=
 (.seq (.reg false [⟨some 2, .mv (kb false), none⟩])
 (.seq (.seq (.reg false [⟨some 3, .mv (ki 0), none⟩])
 (.block 0 (.loop (.seq (.seq (.reg false [⟨some 4, .mv (.t 3), none⟩, ⟨some 5, .mv (.t 0), none⟩, ⟨some 6, .len (.t 5), none⟩, ⟨some 7, .bin .lss (.t 4) (.t 6), none⟩, ⟨some 8, .mv (.t 7), none⟩, ⟨some 9, .mv (.t 3), some (8, true)⟩, ⟨some 10, .bin .lss (.t 9) (ki 80), some (8, true)⟩, ⟨some 11, .pick (.t 8) (.t 10) (kb false), none⟩])
 (.cond (.t 11)
 .skip
 (.exit 0)))
 (.seq (.block 1 (.seq (.reg false [⟨some 14, .mv (.t 0), none⟩, ⟨some 15, .mv (.t 3), none⟩, ⟨some 16, .ia 10 (.t 14) (.t 15), none⟩, ⟨some 17, .fa 3 (.t 16), none⟩, ⟨some 18, .ld true 7 (.t 17), none⟩, ⟨some 19, .call (kf 15) [(.t 18)], none⟩, ⟨some 20, .un .not (.t 19), none⟩])
 (.cond (.t 20)
 (.seq (.reg false [⟨some 2, .mv (kb false), none⟩])
 .ret)
 .skip)))
 (.reg false [⟨some 12, .mv (.t 3), none⟩, ⟨some 13, .bin .add (.t 12) (ki 1), none⟩, ⟨some 3, .mv (.t 13), none⟩]))))))
 (.seq (.reg false [⟨some 21, .mv (.t 0), none⟩, ⟨some 22, .len (.t 21), none⟩, ⟨some 23, .bin .leq (.t 22) (ki 80), none⟩, ⟨some 2, .mv (.t 23), none⟩])
 .ret)))
abbrev n_windroselaw14_Entries : Nat := 9
theorem F_windroselaw14_Entries : Fun Tryz.prog n_windroselaw14_Entries 24 c_windroselaw14_Entries [.t 2] := ⟨⟨Tryz.f9, _, Tryz.func9, by kernel_rfl, rfl, rfl, by kernel_rfl, by kernel_rfl⟩⟩
/-- windrose/windroselaw14.awake -/
def c_windroselaw14_awake : C :=
 (.seq (.reg false [⟨some 0, .mv (kb false), none⟩])
 (.seq (.reg false [⟨some 10, .bld [.int .i64 0, .int .i64 0] [(0, 1, (ki 5)), (1, 1, (ki 1))], none⟩, ⟨some 11, .bld [.int .i64 0, .string ⟨#[]⟩, .int .i64 0, .int .i64 0, .int .i64 0, .int .i64 0, .int .i64 0] [(0, 1, (ki 1)), (1, 1, (.k (.one (.c (.v (.string ⟨#[99, 112, 117]⟩)))))), (2, 2, (.t 10))], none⟩, ⟨some 1, .alloc 35 7 [.int .i64 0, .string ⟨#[]⟩, .int .i64 0, .int .i64 0, .int .i64 0, .int .i64 0, .int .i64 0], none⟩, ⟨none, .st 7 (.t 1) (.t 11), none⟩])
 (.seq (.reg false [⟨some 13, .bld [.slice none 0 0, .slice none 0 0, .int .i64 0] [], none⟩, ⟨some 14, .ld true 7 (.t 1), none⟩, ⟨some 15, .bld [.int .i64 0, .int .i64 0, .int .i64 0, .int .i64 0, .string ⟨#[]⟩, .int .i64 0, .int .i64 0, .int .i64 0, .int .i64 0, .int .i64 0] [(1, 1, (ki 1)), (2, 1, (ki 1)), (3, 7, (.t 14))], none⟩, ⟨some 16, .call (kf 16) [(.t 13), (.t 15)], none⟩, ⟨some 12, .mv (.t 16), none⟩, ⟨some 17, .ex (.t 12) 0, none⟩, ⟨some 18, .ex (.t 12) 1, none⟩, ⟨some 19, .ex (.t 12) 2, none⟩, ⟨some 2, .alloc 29 3 [.slice none 0 0, .slice none 0 0, .int .i64 0], none⟩, ⟨some 3, .alloc 41 3 [.int .i64 0, .bool false, .int .i64 0], none⟩, ⟨none, .st 3 (.t 2) (.t 17), none⟩, ⟨none, .st 3 (.t 3) (.t 18), none⟩, ⟨some 4, .mv (.t 19), none⟩])
 (.seq (.reg false [⟨some 20, .fa 2 (.t 1), none⟩, ⟨some 21, .fa 1 (.t 20), none⟩, ⟨none, .st 1 (.t 21) (ki 2), none⟩])
 (.seq (.reg false [⟨some 23, .ld true 3 (.t 2), none⟩, ⟨some 24, .ld true 7 (.t 1), none⟩, ⟨some 25, .bld [.int .i64 0, .int .i64 0, .int .i64 0, .int .i64 0, .string ⟨#[]⟩, .int .i64 0, .int .i64 0, .int .i64 0, .int .i64 0, .int .i64 0] [(1, 1, (ki 1)), (2, 1, (ki 2)), (3, 7, (.t 24))], none⟩, ⟨some 26, .call (kf 16) [(.t 23), (.t 25)], none⟩, ⟨some 22, .mv (.t 26), none⟩, ⟨some 27, .ex (.t 22) 0, none⟩, ⟨some 28, .ex (.t 22) 1, none⟩, ⟨some 29, .ex (.t 22) 2, none⟩, ⟨some 5, .alloc 41 3 [.int .i64 0, .bool false, .int .i64 0], none⟩, ⟨none, .st 3 (.t 2) (.t 27), none⟩, ⟨none, .st 3 (.t 5) (.t 28), none⟩, ⟨some 6, .mv (.t 29), none⟩])
 (.seq (.reg false [⟨some 31, .ld true 3 (.t 2), none⟩, ⟨some 32, .ld true 7 (.t 1), none⟩, ⟨some 33, .bld [.int .i64 0, .int .i64 0, .int .i64 0, .int .i64 0, .string ⟨#[]⟩, .int .i64 0, .int .i64 0, .int .i64 0, .int .i64 0, .int .i64 0] [(1, 1, (ki 1)), (2, 1, (ki 2)), (3, 7, (.t 32))], none⟩, ⟨some 34, .call (kf 16) [(.t 31), (.t 33)], none⟩, ⟨some 30, .mv (.t 34), none⟩, ⟨some 35, .ex (.t 30) 0, none⟩, ⟨some 36, .ex (.t 30) 1, none⟩, ⟨some 37, .ex (.t 30) 2, none⟩, ⟨some 7, .alloc 29 3 [.slice none 0 0, .slice none 0 0, .int .i64 0], none⟩, ⟨some 8, .alloc 41 3 [.int .i64 0, .bool false, .int .i64 0], none⟩, ⟨none, .st 3 (.t 7) (.t 35), none⟩, ⟨none, .st 3 (.t 8) (.t 36), none⟩, ⟨some 9, .mv (.t 37), none⟩])
 (.seq (.reg false [⟨some 38, .mv (.t 4), none⟩, ⟨some 39, .bin .eql (.t 38) (ki 0), none⟩, ⟨some 40, .mv (.t 39), none⟩, ⟨some 41, .fa 1 (.t 3), some (40, true)⟩, ⟨some 42, .ld false 1 (.t 41), some (40, true)⟩, ⟨some 43, .pick (.t 40) (.t 42) (kb false), none⟩, ⟨some 44, .mv (.t 43), none⟩, ⟨some 45, .fa 0 (.t 5), some (44, true)⟩, ⟨some 46, .ld false 1 (.t 45), some (44, true)⟩, ⟨some 47, .bin .eql (.t 46) (ki 8), some (44, true)⟩, ⟨some 48, .pick (.t 44) (.t 47) (kb false), none⟩, ⟨some 49, .mv (.t 48), none⟩, ⟨some 50, .ld true 3 (.t 8), some (49, true)⟩, ⟨some 51, .ld true 3 (.t 5), some (49, true)⟩, ⟨some 52, .eqa [1, 0, 1] false (.t 50) (.t 51), some (49, true)⟩, ⟨some 53, .pick (.t 49) (.t 52) (kb false), none⟩, ⟨some 54, .mv (.t 53), none⟩, ⟨some 55, .fa 0 (.t 2), some (54, true)⟩, ⟨some 56, .ld false 1 (.t 55), some (54, true)⟩, ⟨some 57, .len (.t 56), some (54, true)⟩, ⟨some 58, .bin .eql (.t 57) (ki 1), some (54, true)⟩, ⟨some 59, .pick (.t 54) (.t 58) (kb false), none⟩, ⟨some 0, .mv (.t 59), none⟩])
 .ret)))))))
abbrev n_windroselaw14_awake : Nat := 10
theorem F_windroselaw14_awake : Fun Tryz.prog n_windroselaw14_awake 60 c_windroselaw14_awake [.t 0] := ⟨⟨Tryz.f10, _, Tryz.func10, by kernel_rfl, rfl, rfl, by kernel_rfl, by kernel_rfl⟩⟩
/-- windrose/windroseref14.Same -/
def c_windroseref14_Same : C :=
 (.seq (.reg false [⟨some 2, .box 29 3 (.t 0), none⟩, ⟨some 3, .box 29 3 (.t 1), none⟩, ⟨some 4, .mv (kb false), none⟩])
 (.seq (.seq (.reg false [⟨some 7, .fa 0 (.t 2), none⟩, ⟨some 8, .ld false 1 (.t 7), none⟩, ⟨some 9, .len (.t 8), none⟩, ⟨some 10, .fa 0 (.t 3), none⟩, ⟨some 11, .ld false 1 (.t 10), none⟩, ⟨some 12, .len (.t 11), none⟩, ⟨some 13, .bin .neq (.t 9) (.t 12), none⟩, ⟨some 14, .mv (.t 13), none⟩, ⟨some 15, .fa 1 (.t 2), some (14, false)⟩, ⟨some 16, .ld false 1 (.t 15), some (14, false)⟩, ⟨some 17, .len (.t 16), some (14, false)⟩, ⟨some 18, .fa 1 (.t 3), some (14, false)⟩, ⟨some 19, .ld false 1 (.t 18), some (14, false)⟩, ⟨some 20, .len (.t 19), some (14, false)⟩, ⟨some 21, .bin .neq (.t 17) (.t 20), some (14, false)⟩, ⟨some 22, .pick (.t 14) (kb true) (.t 21), none⟩, ⟨some 23, .mv (.t 22), none⟩, ⟨some 24, .fa 2 (.t 2), some (23, false)⟩, ⟨some 25, .ld false 1 (.t 24), some (23, false)⟩, ⟨some 26, .fa 2 (.t 3), some (23, false)⟩, ⟨some 27, .ld false 1 (.t 26), some (23, false)⟩, ⟨some 28, .bin .neq (.t 25) (.t 27), some (23, false)⟩, ⟨some 29, .pick (.t 23) (kb true) (.t 28), none⟩])
 (.cond (.t 29)
 (.seq (.reg false [⟨some 4, .mv (kb false), none⟩])
 .ret)
 .skip))
 (.seq (.seq (.reg false [⟨some 5, .mv (ki 0), none⟩])
 (.block 0 (.loop (.seq (.seq (.reg false [⟨some 30, .mv (.t 5), none⟩, ⟨some 31, .fa 0 (.t 2), none⟩, ⟨some 32, .ld false 1 (.t 31), none⟩, ⟨some 33, .len (.t 32), none⟩, ⟨some 34, .bin .lss (.t 30) (.t 33), none⟩])
 (.cond (.t 34)
 .skip
 (.exit 0)))
 (.seq (.block 1 (.seq (.reg true [⟨some 37, .fa 0 (.t 2), none⟩, ⟨some 38, .ld false 1 (.t 37), none⟩, ⟨some 39, .mv (.t 5), none⟩, ⟨some 40, .ia 2 (.t 38) (.t 39), none⟩, ⟨some 41, .fa 0 (.t 40), none⟩, ⟨some 42, .ld false 1 (.t 41), none⟩, ⟨some 43, .fa 0 (.t 3), none⟩, ⟨some 44, .ld false 1 (.t 43), none⟩, ⟨some 45, .mv (.t 5), none⟩, ⟨some 46, .ia 2 (.t 44) (.t 45), none⟩, ⟨some 47, .fa 0 (.t 46), none⟩, ⟨some 48, .ld false 1 (.t 47), none⟩, ⟨some 49, .bin .neq (.t 42) (.t 48), none⟩, ⟨some 50, .mv (.t 49), none⟩, ⟨some 51, .fa 0 (.t 2), some (50, false)⟩, ⟨some 52, .ld false 1 (.t 51), some (50, false)⟩, ⟨some 53, .mv (.t 5), some (50, false)⟩, ⟨some 54, .ia 2 (.t 52) (.t 53), some (50, false)⟩, ⟨some 55, .fa 1 (.t 54), some (50, false)⟩, ⟨some 56, .ld false 1 (.t 55), some (50, false)⟩, ⟨some 57, .fa 0 (.t 3), some (50, false)⟩, ⟨some 58, .ld false 1 (.t 57), some (50, false)⟩, ⟨some 59, .mv (.t 5), some (50, false)⟩, ⟨some 60, .ia 2 (.t 58) (.t 59), some (50, false)⟩, ⟨some 61, .fa 1 (.t 60), some (50, false)⟩, ⟨some 62, .ld false 1 (.t 61), some (50, false)⟩, ⟨some 63, .call (kf 17) [(.t 56), (.t 62)], some (50, false)⟩, ⟨some 64, .un .not (.t 63), some (50, false)⟩, ⟨some 65, .pick (.t 50) (kb true) (.t 64), none⟩])
 (.cond (.t 65)
 (.seq (.reg false [⟨some 4, .mv (kb false), none⟩])
 .ret)
 .skip)))
 (.reg false [⟨some 35, .mv (.t 5), none⟩, ⟨some 36, .bin .add (.t 35) (ki 1), none⟩, ⟨some 5, .mv (.t 36), none⟩]))))))
 (.seq (.seq (.reg false [⟨some 6, .mv (ki 0), none⟩])
 (.block 2 (.loop (.seq (.seq (.reg false [⟨some 66, .mv (.t 6), none⟩, ⟨some 67, .fa 1 (.t 2), none⟩, ⟨some 68, .ld false 1 (.t 67), none⟩, ⟨some 69, .len (.t 68), none⟩, ⟨some 70, .bin .lss (.t 66) (.t 69), none⟩])
 (.cond (.t 70)
 .skip
 (.exit 2)))
 (.seq (.block 3 (.seq (.reg true [⟨some 73, .fa 1 (.t 2), none⟩, ⟨some 74, .ld false 1 (.t 73), none⟩, ⟨some 75, .mv (.t 6), none⟩, ⟨some 76, .ia 5 (.t 74) (.t 75), none⟩, ⟨some 77, .ld true 5 (.t 76), none⟩, ⟨some 78, .fa 1 (.t 3), none⟩, ⟨some 79, .ld false 1 (.t 78), none⟩, ⟨some 80, .mv (.t 6), none⟩, ⟨some 81, .ia 5 (.t 79) (.t 80), none⟩, ⟨some 82, .ld true 5 (.t 81), none⟩, ⟨some 83, .eqa [1, 1, 1, 0, 1] true (.t 77) (.t 82), none⟩])
 (.cond (.t 83)
 (.seq (.reg false [⟨some 4, .mv (kb false), none⟩])
 .ret)
 .skip)))
 (.reg false [⟨some 71, .mv (.t 6), none⟩, ⟨some 72, .bin .add (.t 71) (ki 1), none⟩, ⟨some 6, .mv (.t 72), none⟩]))))))
 (.seq (.reg false [⟨some 4, .mv (kb true), none⟩])
 .ret)))))
abbrev n_windroseref14_Same : Nat := 11
theorem F_windroseref14_Same : Fun Tryz.prog n_windroseref14_Same 84 c_windroseref14_Same [.t 4] := ⟨⟨Tryz.f11, _, Tryz.func11, by kernel_rfl, rfl, rfl, by kernel_rfl, by kernel_rfl⟩⟩
/-- windrose/shelf.Fold -/
def c_shelf_Fold : C :=
 (.seq (.reg false [⟨some 2, .alloc 29 3 [.slice none 0 0, .slice none 0 0, .int .i64 0], none⟩])
 (.seq (.reg false [⟨some 3, .alloc 29 3 [.slice none 0 0, .slice none 0 0, .int .i64 0], none⟩])
 (.seq (.seq (.reg false [⟨some 9, .mv (.t 0), none⟩, ⟨some 10, .len (.t 9), none⟩, ⟨some 11, .mv (ki 0), none⟩])
 (.block 0 (.loop (.seq (.reg false [⟨some 12, .bin .lss (.t 11) (.t 10), none⟩])
 (.seq (.cond (.t 12)
 .skip
 (.exit 0))
 (.seq (.block 1 (.seq (.reg false [⟨some 13, .ia 10 (.t 9) (.t 11), none⟩, ⟨some 14, .ld true 10 (.t 13), none⟩, ⟨some 5, .alloc 37 10 [.int .i64 0, .int .i64 0, .int .i64 0, .int .i64 0, .string ⟨#[]⟩, .int .i64 0, .int .i64 0, .int .i64 0, .int .i64 0, .int .i64 0], none⟩, ⟨none, .st 10 (.t 5) (.t 14), none⟩])
 (.seq (.reg false [⟨some 16, .ld true 3 (.t 3), none⟩, ⟨some 17, .ld true 10 (.t 5), none⟩, ⟨some 18, .call (kf 16) [(.t 16), (.t 17)], none⟩, ⟨some 15, .mv (.t 18), none⟩, ⟨some 19, .ex (.t 15) 0, none⟩, ⟨some 20, .ex (.t 15) 1, none⟩, ⟨some 21, .ex (.t 15) 2, none⟩, ⟨some 6, .alloc 29 3 [.slice none 0 0, .slice none 0 0, .int .i64 0], none⟩, ⟨some 7, .alloc 41 3 [.int .i64 0, .bool false, .int .i64 0], none⟩, ⟨none, .st 3 (.t 6) (.t 19), none⟩, ⟨none, .st 3 (.t 7) (.t 20), none⟩, ⟨some 8, .mv (.t 21), none⟩])
 (.seq (.reg false [⟨some 22, .mv (.t 8), none⟩, ⟨some 23, .bin .eql (.t 22) (ki 0), none⟩])
 (.cond (.t 23)
 (.reg false [⟨some 24, .ld true 3 (.t 6), none⟩, ⟨none, .st 3 (.t 3) (.t 24), none⟩])
 .skip)))))
 (.reg false [⟨some 25, .bin .add (.t 11) (ki 1), none⟩, ⟨some 11, .mv (.t 25), none⟩])))))))
 (.seq (.reg false [⟨some 26, .ld true 3 (.t 3), none⟩, ⟨none, .st 3 (.t 2) (.t 26), none⟩])
 .ret))))
abbrev n_shelf_Fold : Nat := 12
theorem F_shelf_Fold : Fun Tryz.prog n_shelf_Fold 27 c_shelf_Fold [.l true 3 2] := ⟨⟨Tryz.f12, _, Tryz.func12, by kernel_rfl, rfl, rfl, by kernel_rfl, by kernel_rfl⟩⟩
/-- windrose/windroseref14.Fold -/
def c_windroseref14_Fold : C :=
 (.seq (.reg false [⟨some 2, .alloc 29 3 [.slice none 0 0, .slice none 0 0, .int .i64 0], none⟩])
 (.seq (.reg false [⟨some 8, .bld [.slice none 0 0, .slice none 0 0, .int .i64 0] [], none⟩, ⟨some 3, .alloc 29 3 [.slice none 0 0, .slice none 0 0, .int .i64 0], none⟩, ⟨none, .st 3 (.t 3) (.t 8), none⟩])
 (.seq (.seq (.reg false [⟨some 4, .mv (ki 0), none⟩])
 (.block 0 (.loop (.seq (.seq (.reg false [⟨some 9, .mv (.t 4), none⟩, ⟨some 10, .mv (.t 0), none⟩, ⟨some 11, .len (.t 10), none⟩, ⟨some 12, .bin .lss (.t 9) (.t 11), none⟩])
 (.cond (.t 12)
 .skip
 (.exit 0)))
 (.seq (.block 1 (.seq (.rgx [[], [], [], [1, 2], [3, 1, 2], [0, 4, 3, 1, 2], [5, 0, 4, 3, 1, 2], [6, 5, 0, 4, 3, 1, 2], [6, 5, 0, 4, 3, 1, 2], [6, 5, 0, 4, 3, 1, 2], [], [], [10, 7, 6, 5, 0, 4, 3, 1, 2, 11], [11, 8, 6, 5, 0, 4, 3, 1, 2, 12, 10, 7], [9, 6, 5, 0, 4, 3, 1, 2, 13, 11, 8, 12, 10, 7]] [⟨some 16, .ld true 3 (.t 3), none⟩, ⟨some 17, .mv (.t 0), none⟩, ⟨some 18, .mv (.t 4), none⟩, ⟨some 19, .ia 10 (.t 17) (.t 18), none⟩, ⟨some 20, .ld true 10 (.t 19), none⟩, ⟨some 21, .call (kf 24) [(.t 16), (.t 20)], none⟩, ⟨some 15, .mv (.t 21), none⟩, ⟨some 22, .ex (.t 15) 0, none⟩, ⟨some 23, .ex (.t 15) 1, none⟩, ⟨some 24, .ex (.t 15) 2, none⟩, ⟨some 5, .alloc 29 3 [.slice none 0 0, .slice none 0 0, .int .i64 0], none⟩, ⟨some 6, .alloc 41 3 [.int .i64 0, .bool false, .int .i64 0], none⟩, ⟨none, .st 3 (.t 5) (.t 22), none⟩, ⟨none, .st 3 (.t 6) (.t 23), none⟩, ⟨some 7, .mv (.t 24), none⟩])
 (.seq (.reg false [⟨some 25, .mv (.t 7), none⟩, ⟨some 26, .bin .eql (.t 25) (ki 0), none⟩])
 (.cond (.t 26)
 (.reg false [⟨some 27, .ld true 3 (.t 5), none⟩, ⟨none, .st 3 (.t 3) (.t 27), none⟩])
 .skip))))
 (.reg false [⟨some 13, .mv (.t 4), none⟩, ⟨some 14, .bin .add (.t 13) (ki 1), none⟩, ⟨some 4, .mv (.t 14), none⟩]))))))
 (.seq (.reg false [⟨some 28, .ld true 3 (.t 3), none⟩, ⟨none, .st 3 (.t 2) (.t 28), none⟩])
 .ret))))
abbrev n_windroseref14_Fold : Nat := 13
theorem F_windroseref14_Fold : Fun Tryz.prog n_windroseref14_Fold 29 c_windroseref14_Fold [.l true 3 2] := ⟨⟨Tryz.f13, _, Tryz.func13, by kernel_rfl, rfl, rfl, by kernel_rfl, by kernel_rfl⟩⟩
/-- windrose/windroseref14.May -/
def c_windroseref14_May : C :=
 (.seq (.reg false [⟨some 1, .box 29 3 (.t 0), none⟩, ⟨some 2, .mv (kb false), none⟩])
 (.seq (.seq (.reg false [⟨some 3, .mv (ki 0), none⟩])
 (.block 0 (.loop (.seq (.seq (.reg false [⟨some 7, .mv (.t 3), none⟩, ⟨some 8, .fa 0 (.t 1), none⟩, ⟨some 9, .ld false 1 (.t 8), none⟩, ⟨some 10, .len (.t 9), none⟩, ⟨some 11, .bin .lss (.t 7) (.t 10), none⟩])
 (.cond (.t 11)
 .skip
 (.exit 0)))
 (.seq (.block 1 (.seq (.reg false [⟨some 14, .fa 0 (.t 1), none⟩, ⟨some 15, .ld false 1 (.t 14), none⟩, ⟨some 16, .mv (.t 3), none⟩, ⟨some 17, .ia 2 (.t 15) (.t 16), none⟩, ⟨some 18, .ld true 2 (.t 17), none⟩, ⟨some 4, .alloc 49 2 [.string ⟨#[]⟩, .slice none 0 0], none⟩, ⟨none, .st 2 (.t 4) (.t 18), none⟩])
 (.seq (.reg true [⟨some 19, .fa 0 (.t 4), none⟩, ⟨some 20, .ld false 1 (.t 19), none⟩, ⟨some 21, .call (kf 49) [(.t 20)], none⟩, ⟨some 22, .un .not (.t 21), none⟩, ⟨some 23, .mv (.t 22), none⟩, ⟨some 24, .mv (.t 3), some (23, false)⟩, ⟨some 25, .bin .gtr (.t 24) (ki 0), some (23, false)⟩, ⟨some 26, .mv (.t 25), some (23, false)⟩, ⟨some 27, .fa 0 (.t 1), some (26, true)⟩, ⟨some 28, .ld false 1 (.t 27), some (26, true)⟩, ⟨some 29, .mv (.t 3), some (26, true)⟩, ⟨some 30, .bin .sub (.t 29) (ki 1), some (26, true)⟩, ⟨some 31, .ia 2 (.t 28) (.t 30), some (26, true)⟩, ⟨some 32, .fa 0 (.t 31), some (26, true)⟩, ⟨some 33, .ld false 1 (.t 32), some (26, true)⟩, ⟨some 34, .fa 0 (.t 4), some (26, true)⟩, ⟨some 35, .ld false 1 (.t 34), some (26, true)⟩, ⟨some 36, .bin .geq (.t 33) (.t 35), some (26, true)⟩, ⟨some 37, .pick (.t 26) (.t 36) (kb false), some (23, false)⟩, ⟨some 38, .pick (.t 23) (kb true) (.t 37), none⟩, ⟨some 39, .mv (.t 38), none⟩, ⟨some 40, .fa 1 (.t 4), some (39, false)⟩, ⟨some 41, .ld false 1 (.t 40), some (39, false)⟩, ⟨some 42, .len (.t 41), some (39, false)⟩, ⟨some 43, .bin .eql (.t 42) (ki 0), some (39, false)⟩, ⟨some 44, .pick (.t 39) (kb true) (.t 43), none⟩, ⟨some 45, .mv (.t 44), none⟩, ⟨some 46, .fa 1 (.t 4), some (45, false)⟩, ⟨some 47, .ld false 1 (.t 46), some (45, false)⟩, ⟨some 48, .call (kf 50) [(.t 47)], some (45, false)⟩, ⟨some 49, .un .not (.t 48), some (45, false)⟩, ⟨some 50, .pick (.t 45) (kb true) (.t 49), none⟩, ⟨some 51, .mv (.t 50), none⟩, ⟨some 52, .fa 1 (.t 4), some (51, false)⟩, ⟨some 53, .ld false 1 (.t 52), some (51, false)⟩, ⟨some 54, .fa 2 (.t 1), some (51, false)⟩, ⟨some 55, .ld false 1 (.t 54), some (51, false)⟩, ⟨some 56, .call (kf 51) [(.t 53), (.t 55)], some (51, false)⟩, ⟨some 57, .len (.t 56), some (51, false)⟩, ⟨some 58, .fa 1 (.t 4), some (51, false)⟩, ⟨some 59, .ld false 1 (.t 58), some (51, false)⟩, ⟨some 60, .len (.t 59), some (51, false)⟩, ⟨some 61, .bin .neq (.t 57) (.t 60), some (51, false)⟩, ⟨some 62, .pick (.t 51) (kb true) (.t 61), none⟩])
 (.cond (.t 62)
 (.seq (.reg false [⟨some 2, .mv (kb false), none⟩])
 .ret)
 .skip))))
 (.reg false [⟨some 12, .mv (.t 3), none⟩, ⟨some 13, .bin .add (.t 12) (ki 1), none⟩, ⟨some 3, .mv (.t 13), none⟩]))))))
 (.seq (.seq (.reg false [⟨some 5, .mv (ki 0), none⟩])
 (.block 2 (.loop (.seq (.seq (.reg false [⟨some 63, .mv (.t 5), none⟩, ⟨some 64, .fa 1 (.t 1), none⟩, ⟨some 65, .ld false 1 (.t 64), none⟩, ⟨some 66, .len (.t 65), none⟩, ⟨some 67, .bin .lss (.t 63) (.t 66), none⟩])
 (.cond (.t 67)
 .skip
 (.exit 2)))
 (.seq (.block 3 (.seq (.reg false [⟨some 70, .fa 1 (.t 1), none⟩, ⟨some 71, .ld false 1 (.t 70), none⟩, ⟨some 72, .mv (.t 5), none⟩, ⟨some 73, .ia 5 (.t 71) (.t 72), none⟩, ⟨some 74, .ld true 5 (.t 73), none⟩, ⟨some 6, .alloc 45 5 [.int .i64 0, .int .i64 0, .int .i64 0, .bool false, .int .i64 0], none⟩, ⟨none, .st 5 (.t 6) (.t 74), none⟩])
 (.seq (.reg true [⟨some 75, .fa 0 (.t 6), none⟩, ⟨some 76, .ld false 1 (.t 75), none⟩, ⟨some 77, .bin .lss (.t 76) (ki 1), none⟩, ⟨some 78, .mv (.t 77), none⟩, ⟨some 79, .fa 0 (.t 6), some (78, false)⟩, ⟨some 80, .ld false 1 (.t 79), some (78, false)⟩, ⟨some 81, .bin .geq (.t 80) (ki 2147483648), some (78, false)⟩, ⟨some 82, .pick (.t 78) (kb true) (.t 81), none⟩, ⟨some 83, .mv (.t 82), none⟩, ⟨some 84, .fa 1 (.t 6), some (83, false)⟩, ⟨some 85, .ld false 1 (.t 84), some (83, false)⟩, ⟨some 86, .bin .lss (.t 85) (ki 1), some (83, false)⟩, ⟨some 87, .pick (.t 83) (kb true) (.t 86), none⟩, ⟨some 88, .mv (.t 87), none⟩, ⟨some 89, .fa 1 (.t 6), some (88, false)⟩, ⟨some 90, .ld false 1 (.t 89), some (88, false)⟩, ⟨some 91, .bin .geq (.t 90) (ki 2147483648), some (88, false)⟩, ⟨some 92, .pick (.t 88) (kb true) (.t 91), none⟩, ⟨some 93, .mv (.t 92), none⟩, ⟨some 94, .mv (.t 5), some (93, false)⟩, ⟨some 95, .bin .gtr (.t 94) (ki 0), some (93, false)⟩, ⟨some 96, .mv (.t 95), some (93, false)⟩, ⟨some 97, .fa 1 (.t 1), some (96, true)⟩, ⟨some 98, .ld false 1 (.t 97), some (96, true)⟩, ⟨some 99, .mv (.t 5), some (96, true)⟩, ⟨some 100, .bin .sub (.t 99) (ki 1), some (96, true)⟩, ⟨some 101, .ia 5 (.t 98) (.t 100), some (96, true)⟩, ⟨some 102, .fa 0 (.t 101), some (96, true)⟩, ⟨some 103, .ld false 1 (.t 102), some (96, true)⟩, ⟨some 104, .fa 0 (.t 6), some (96, true)⟩, ⟨some 105, .ld false 1 (.t 104), some (96, true)⟩, ⟨some 106, .bin .geq (.t 103) (.t 105), some (96, true)⟩, ⟨some 107, .pick (.t 96) (.t 106) (kb false), some (93, false)⟩, ⟨some 108, .pick (.t 93) (kb true) (.t 107), none⟩])
 (.cond (.t 108)
 (.seq (.reg false [⟨some 2, .mv (kb false), none⟩])
 .ret)
 .skip))))
 (.reg false [⟨some 68, .mv (.t 5), none⟩, ⟨some 69, .bin .add (.t 68) (ki 1), none⟩, ⟨some 5, .mv (.t 69), none⟩]))))))
 (.seq (.reg false [⟨some 109, .fa 0 (.t 1), none⟩, ⟨some 110, .ld false 1 (.t 109), none⟩, ⟨some 111, .len (.t 110), none⟩, ⟨some 112, .bin .leq (.t 111) (ki 16), none⟩, ⟨some 113, .mv (.t 112), none⟩, ⟨some 114, .fa 1 (.t 1), some (113, true)⟩, ⟨some 115, .ld false 1 (.t 114), some (113, true)⟩, ⟨some 116, .len (.t 115), some (113, true)⟩, ⟨some 117, .bin .leq (.t 116) (ki 8), some (113, true)⟩, ⟨some 118, .pick (.t 113) (.t 117) (kb false), none⟩, ⟨some 119, .mv (.t 118), none⟩, ⟨some 120, .fa 2 (.t 1), some (119, true)⟩, ⟨some 121, .ld false 1 (.t 120), some (119, true)⟩, ⟨some 122, .bin .geq (.t 121) (ki 0), some (119, true)⟩, ⟨some 123, .pick (.t 119) (.t 122) (kb false), none⟩, ⟨some 124, .mv (.t 123), none⟩, ⟨some 125, .fa 2 (.t 1), some (124, true)⟩, ⟨some 126, .ld false 1 (.t 125), some (124, true)⟩, ⟨some 127, .bin .leq (.t 126) (ki 1099511627776), some (124, true)⟩, ⟨some 128, .pick (.t 124) (.t 127) (kb false), none⟩, ⟨some 2, .mv (.t 128), none⟩])
 .ret))))
abbrev n_windroseref14_May : Nat := 14
theorem F_windroseref14_May : Fun Tryz.prog n_windroseref14_May 129 c_windroseref14_May [.t 2] := ⟨⟨Tryz.f14, _, Tryz.func14, by kernel_rfl, rfl, rfl, by kernel_rfl, by kernel_rfl⟩⟩
/-- windrose/windroselaw14.Short -/
def c_windroselaw14_Short : C :=
 (.seq (.reg false [⟨some 1, .box 35 7 (.t 0), none⟩, ⟨some 2, .mv (kb false), none⟩])
 (.seq (.reg false [⟨some 3, .fa 1 (.t 1), none⟩, ⟨some 4, .ld false 1 (.t 3), none⟩, ⟨some 5, .lens (.t 4), none⟩, ⟨some 6, .bin .leq (.t 5) (ki 500), none⟩, ⟨some 2, .mv (.t 6), none⟩])
 .ret))
abbrev n_windroselaw14_Short : Nat := 15
theorem F_windroselaw14_Short : Fun Tryz.prog n_windroselaw14_Short 7 c_windroselaw14_Short [.t 2] := ⟨⟨Tryz.f15, _, Tryz.func15, by kernel_rfl, rfl, rfl, by kernel_rfl, by kernel_rfl⟩⟩
/-- windrose/shelf.Do -/
def c_shelf_Do : C :=
 (.seq (.reg false [⟨some 2, .box 29 3 (.t 0), none⟩, ⟨some 3, .box 37 10 (.t 1), none⟩, ⟨some 4, .alloc 29 3 [.slice none 0 0, .slice none 0 0, .int .i64 0], none⟩, ⟨some 5, .alloc 41 3 [.int .i64 0, .bool false, .int .i64 0], none⟩, ⟨some 6, .mv (ki 0), none⟩])
 (.seq (.seq (.reg false [⟨some 10, .ld true 3 (.t 2), none⟩, ⟨some 11, .call (kf 20) [(.t 10)], none⟩, ⟨some 12, .bin .neq (.t 11) (ki 0), none⟩, ⟨some 13, .mv (.t 12), none⟩, ⟨some 14, .fa 1 (.t 3), some (13, false)⟩, ⟨some 15, .ld false 1 (.t 14), some (13, false)⟩, ⟨some 16, .call (kf 52) [(.t 15), (ki 0), (ki 2147483647)], some (13, false)⟩, ⟨some 17, .un .not (.t 16), some (13, false)⟩, ⟨some 18, .pick (.t 13) (kb true) (.t 17), none⟩, ⟨some 19, .mv (.t 18), none⟩, ⟨some 20, .fa 2 (.t 3), some (19, false)⟩, ⟨some 21, .ld false 1 (.t 20), some (19, false)⟩, ⟨some 22, .call (kf 52) [(.t 21), (ki 1), (ki 2147483647)], some (19, false)⟩, ⟨some 23, .un .not (.t 22), some (19, false)⟩, ⟨some 24, .pick (.t 19) (kb true) (.t 23), none⟩])
 (.cond (.t 24)
 (.seq (.reg false [⟨some 25, .bld [.slice none 0 0, .slice none 0 0, .int .i64 0] [], none⟩, ⟨some 26, .bld [.int .i64 0, .bool false, .int .i64 0] [], none⟩, ⟨none, .st 3 (.t 4) (.t 25), none⟩, ⟨none, .st 3 (.t 5) (.t 26), none⟩, ⟨some 6, .mv (ki 1), none⟩])
 .ret)
 .skip))
 (.seq (.reg false [⟨some 27, .ld true 3 (.t 2), none⟩, ⟨some 28, .call (kf 53) [(.t 27)], none⟩, ⟨none, .st 3 (.t 2) (.t 28), none⟩])
 (.seq (.seq (.reg false [⟨some 29, .fa 1 (.t 2), none⟩, ⟨some 30, .ld false 1 (.t 29), none⟩, ⟨some 31, .len (.t 30), none⟩, ⟨some 32, .mv (ki 0), none⟩])
 (.block 0 (.loop (.seq (.reg false [⟨some 33, .bin .lss (.t 32) (.t 31), none⟩])
 (.seq (.cond (.t 33)
 .skip
 (.exit 0))
 (.seq (.block 1 (.seq (.reg false [⟨some 34, .ia 5 (.t 30) (.t 32), none⟩, ⟨some 35, .ld true 5 (.t 34), none⟩, ⟨some 8, .alloc 45 5 [.int .i64 0, .int .i64 0, .int .i64 0, .bool false, .int .i64 0], none⟩, ⟨none, .st 5 (.t 8) (.t 35), none⟩])
 (.seq (.seq (.reg false [⟨some 36, .fa 0 (.t 8), none⟩, ⟨some 37, .ld false 1 (.t 36), none⟩, ⟨some 38, .fa 1 (.t 3), none⟩, ⟨some 39, .ld false 1 (.t 38), none⟩, ⟨some 40, .bin .eql (.t 37) (.t 39), none⟩, ⟨some 41, .mv (.t 40), none⟩, ⟨some 42, .fa 1 (.t 8), some (41, true)⟩, ⟨some 43, .ld false 1 (.t 42), some (41, true)⟩, ⟨some 44, .fa 2 (.t 3), some (41, true)⟩, ⟨some 45, .ld false 1 (.t 44), some (41, true)⟩, ⟨some 46, .bin .eql (.t 43) (.t 45), some (41, true)⟩, ⟨some 47, .pick (.t 41) (.t 46) (kb false), none⟩])
 (.cond (.t 47)
 (.seq (.rgx [[], [], [1], [0], [2, 1, 3, 0], [4, 2, 1, 3, 0]] [⟨some 48, .ld true 3 (.t 2), none⟩, ⟨some 49, .fa 2 (.t 8), none⟩, ⟨some 50, .ld true 3 (.t 49), none⟩, ⟨none, .st 3 (.t 4) (.t 48), none⟩, ⟨none, .st 3 (.t 5) (.t 50), none⟩, ⟨some 6, .mv (ki 0), none⟩])
 .ret)
 .skip))
 (.seq (.reg false [⟨some 51, .fa 0 (.t 8), none⟩, ⟨some 52, .ld false 1 (.t 51), none⟩, ⟨some 53, .fa 1 (.t 3), none⟩, ⟨some 54, .ld false 1 (.t 53), none⟩, ⟨some 55, .bin .eql (.t 52) (.t 54), none⟩, ⟨some 56, .mv (.t 55), none⟩, ⟨some 57, .fa 1 (.t 8), some (56, true)⟩, ⟨some 58, .ld false 1 (.t 57), some (56, true)⟩, ⟨some 59, .fa 2 (.t 3), some (56, true)⟩, ⟨some 60, .ld false 1 (.t 59), some (56, true)⟩, ⟨some 61, .bin .gtr (.t 58) (.t 60), some (56, true)⟩, ⟨some 62, .pick (.t 56) (.t 61) (kb false), none⟩])
 (.cond (.t 62)
 (.seq (.reg false [⟨some 63, .ld true 3 (.t 2), none⟩, ⟨some 64, .bld [.int .i64 0, .bool false, .int .i64 0] [(0, 1, (ki 9))], none⟩, ⟨none, .st 3 (.t 4) (.t 63), none⟩, ⟨none, .st 3 (.t 5) (.t 64), none⟩, ⟨some 6, .mv (ki 0), none⟩])
 .ret)
 .skip)))))
 (.reg false [⟨some 65, .bin .add (.t 32) (ki 1), none⟩, ⟨some 32, .mv (.t 65), none⟩])))))))
 (.seq (.reg false [⟨some 67, .ld true 3 (.t 2), none⟩, ⟨some 68, .fa 3 (.t 3), none⟩, ⟨some 69, .ld true 7 (.t 68), none⟩, ⟨some 70, .call (kf 54) [(.t 67), (.t 69)], none⟩, ⟨some 66, .mv (.t 70), none⟩, ⟨some 71, .ex (.t 66) 0, none⟩, ⟨some 72, .ex (.t 66) 1, none⟩, ⟨some 9, .alloc 41 3 [.int .i64 0, .bool false, .int .i64 0], none⟩, ⟨none, .st 3 (.t 2) (.t 71), none⟩, ⟨none, .st 3 (.t 9) (.t 72), none⟩])
 (.seq (.seq (.reg false [⟨some 73, .fa 1 (.t 3), none⟩, ⟨some 74, .ld false 1 (.t 73), none⟩, ⟨some 75, .bin .gtr (.t 74) (ki 0), none⟩])
 (.cond (.t 75)
 (.reg false [⟨some 76, .ld true 3 (.t 2), none⟩, ⟨some 77, .fa 1 (.t 3), none⟩, ⟨some 78, .ld false 1 (.t 77), none⟩, ⟨some 79, .fa 2 (.t 3), none⟩, ⟨some 80, .ld false 1 (.t 79), none⟩, ⟨some 81, .ld true 3 (.t 9), none⟩, ⟨some 82, .bld [.int .i64 0, .int .i64 0, .int .i64 0, .bool false, .int .i64 0] [(0, 1, (.t 78)), (1, 1, (.t 80)), (2, 3, (.t 81))], none⟩, ⟨some 83, .call (kf 55) [(.t 76), (.t 82)], none⟩, ⟨none, .st 3 (.t 2) (.t 83), none⟩])
 .skip))
 (.seq (.rgx [[], [], [0], [1, 2, 0], [3, 1, 2, 0]] [⟨some 84, .ld true 3 (.t 2), none⟩, ⟨some 85, .ld true 3 (.t 9), none⟩, ⟨none, .st 3 (.t 4) (.t 84), none⟩, ⟨none, .st 3 (.t 5) (.t 85), none⟩, ⟨some 6, .mv (ki 0), none⟩])
 .ret)))))))
abbrev n_shelf_Do : Nat := 16
theorem F_shelf_Do : Fun Tryz.prog n_shelf_Do 86 c_shelf_Do [.l true 3 4, .l true 3 5, .t 6] := ⟨⟨Tryz.f16, _, Tryz.func16, by kernel_rfl, rfl, rfl, by kernel_rfl, by kernel_rfl⟩⟩
/-- windrose/windroseref11.Same -/
def c_windroseref11_Same : C :=
 (.seq (.reg false [⟨some 4, .mv (kb false), none⟩])
 (.seq (.seq (.reg false [⟨some 6, .mv (.t 0), none⟩, ⟨some 7, .len (.t 6), none⟩, ⟨some 8, .mv (.t 1), none⟩, ⟨some 9, .len (.t 8), none⟩, ⟨some 10, .bin .neq (.t 7) (.t 9), none⟩])
 (.cond (.t 10)
 (.seq (.reg false [⟨some 4, .mv (kb false), none⟩])
 .ret)
 .skip))
 (.seq (.seq (.reg false [⟨some 5, .mv (ki 0), none⟩])
 (.block 0 (.loop (.seq (.seq (.reg false [⟨some 11, .mv (.t 5), none⟩, ⟨some 12, .mv (.t 0), none⟩, ⟨some 13, .len (.t 12), none⟩, ⟨some 14, .bin .lss (.t 11) (.t 13), none⟩])
 (.cond (.t 14)
 .skip
 (.exit 0)))
 (.seq (.block 1 (.seq (.reg true [⟨some 17, .mv (.t 0), none⟩, ⟨some 18, .mv (.t 5), none⟩, ⟨some 19, .ia 2 (.t 17) (.t 18), none⟩, ⟨some 20, .ld true 2 (.t 19), none⟩, ⟨some 21, .mv (.t 1), none⟩, ⟨some 22, .mv (.t 5), none⟩, ⟨some 23, .ia 2 (.t 21) (.t 22), none⟩, ⟨some 24, .ld true 2 (.t 23), none⟩, ⟨some 25, .eqa [1, 1] true (.t 20) (.t 24), none⟩])
 (.cond (.t 25)
 (.seq (.reg false [⟨some 4, .mv (kb false), none⟩])
 .ret)
 .skip)))
 (.reg false [⟨some 15, .mv (.t 5), none⟩, ⟨some 16, .bin .add (.t 15) (ki 1), none⟩, ⟨some 5, .mv (.t 16), none⟩]))))))
 (.seq (.reg false [⟨some 4, .mv (kb true), none⟩])
 .ret))))
abbrev n_windroseref11_Same : Nat := 17
theorem F_windroseref11_Same : Fun Tryz.prog n_windroseref11_Same 26 c_windroseref11_Same [.t 4] := ⟨⟨Tryz.f17, _, Tryz.func17, by kernel_rfl, rfl, rfl, by kernel_rfl, by kernel_rfl⟩⟩
/-- windrose/windroseref14.Line -/
def c_windroseref14_Line : C :=
 (.seq (.reg false [⟨some 2, .box 29 3 (.t 0), none⟩, ⟨some 4, .mv (.k (.one (.c (.v (.slice none 0 0))))), none⟩])
 (.seq (.seq (.reg false [⟨some 5, .mv (ki 0), none⟩])
 (.block 0 (.loop (.seq (.seq (.reg false [⟨some 6, .mv (.t 5), none⟩, ⟨some 7, .fa 0 (.t 2), none⟩, ⟨some 8, .ld false 1 (.t 7), none⟩, ⟨some 9, .len (.t 8), none⟩, ⟨some 10, .bin .lss (.t 6) (.t 9), none⟩])
 (.cond (.t 10)
 .skip
 (.exit 0)))
 (.seq (.block 1 (.seq (.reg false [⟨some 13, .fa 0 (.t 2), none⟩, ⟨some 14, .ld false 1 (.t 13), none⟩, ⟨some 15, .mv (.t 5), none⟩, ⟨some 16, .ia 2 (.t 14) (.t 15), none⟩, ⟨some 17, .fa 0 (.t 16), none⟩, ⟨some 18, .ld false 1 (.t 17), none⟩, ⟨some 19, .mv (.t 1), none⟩, ⟨some 20, .bin .eql (.t 18) (.t 19), none⟩])
 (.cond (.t 20)
 (.seq (.reg false [⟨some 21, .fa 0 (.t 2), none⟩, ⟨some 22, .ld false 1 (.t 21), none⟩, ⟨some 23, .mv (.t 5), none⟩, ⟨some 24, .ia 2 (.t 22) (.t 23), none⟩, ⟨some 25, .fa 1 (.t 24), none⟩, ⟨some 26, .ld false 1 (.t 25), none⟩, ⟨some 4, .mv (.t 26), none⟩])
 .ret)
 .skip)))
 (.reg false [⟨some 11, .mv (.t 5), none⟩, ⟨some 12, .bin .add (.t 11) (ki 1), none⟩, ⟨some 5, .mv (.t 12), none⟩]))))))
 (.seq (.reg false [⟨some 4, .mv (.k (.one (.c (.v (.slice none 0 0))))), none⟩])
 .ret)))
abbrev n_windroseref14_Line : Nat := 18
theorem F_windroseref14_Line : Fun Tryz.prog n_windroseref14_Line 27 c_windroseref14_Line [.t 4] := ⟨⟨Tryz.f18, _, Tryz.func18, by kernel_rfl, rfl, rfl, by kernel_rfl, by kernel_rfl⟩⟩
/-- windrose/windroselaw14.Light -/
def c_windroselaw14_Light : C :=
 (.seq (.reg false [⟨some 1, .box 29 3 (.t 0), none⟩, ⟨some 2, .mv (kb false), none⟩])
 (.seq (.seq (.reg false [⟨some 3, .mv (ki 0), none⟩])
 (.block 0 (.loop (.seq (.seq (.reg false [⟨some 4, .mv (.t 3), none⟩, ⟨some 5, .fa 0 (.t 1), none⟩, ⟨some 6, .ld false 1 (.t 5), none⟩, ⟨some 7, .len (.t 6), none⟩, ⟨some 8, .bin .lss (.t 4) (.t 7), none⟩, ⟨some 9, .mv (.t 8), none⟩, ⟨some 10, .mv (.t 3), some (9, true)⟩, ⟨some 11, .bin .lss (.t 10) (ki 20), some (9, true)⟩, ⟨some 12, .pick (.t 9) (.t 11) (kb false), none⟩])
 (.cond (.t 12)
 .skip
 (.exit 0)))
 (.seq (.block 1 (.seq (.reg false [⟨some 15, .fa 0 (.t 1), none⟩, ⟨some 16, .ld false 1 (.t 15), none⟩, ⟨some 17, .mv (.t 3), none⟩, ⟨some 18, .ia 2 (.t 16) (.t 17), none⟩, ⟨some 19, .fa 0 (.t 18), none⟩, ⟨some 20, .ld false 1 (.t 19), none⟩, ⟨some 21, .lens (.t 20), none⟩, ⟨some 22, .bin .gtr (.t 21) (ki 500), none⟩, ⟨some 23, .mv (.t 22), none⟩, ⟨some 24, .fa 0 (.t 1), some (23, false)⟩, ⟨some 25, .ld false 1 (.t 24), some (23, false)⟩, ⟨some 26, .mv (.t 3), some (23, false)⟩, ⟨some 27, .ia 2 (.t 25) (.t 26), some (23, false)⟩, ⟨some 28, .fa 1 (.t 27), some (23, false)⟩, ⟨some 29, .ld false 1 (.t 28), some (23, false)⟩, ⟨some 30, .len (.t 29), some (23, false)⟩, ⟨some 31, .bin .gtr (.t 30) (ki 70), some (23, false)⟩, ⟨some 32, .pick (.t 23) (kb true) (.t 31), none⟩])
 (.cond (.t 32)
 (.seq (.reg false [⟨some 2, .mv (kb false), none⟩])
 .ret)
 .skip)))
 (.reg false [⟨some 13, .mv (.t 3), none⟩, ⟨some 14, .bin .add (.t 13) (ki 1), none⟩, ⟨some 3, .mv (.t 14), none⟩]))))))
 (.seq (.reg false [⟨some 33, .fa 0 (.t 1), none⟩, ⟨some 34, .ld false 1 (.t 33), none⟩, ⟨some 35, .len (.t 34), none⟩, ⟨some 36, .bin .leq (.t 35) (ki 20), none⟩, ⟨some 37, .mv (.t 36), none⟩, ⟨some 38, .fa 1 (.t 1), some (37, true)⟩, ⟨some 39, .ld false 1 (.t 38), some (37, true)⟩, ⟨some 40, .len (.t 39), some (37, true)⟩, ⟨some 41, .bin .leq (.t 40) (ki 20), some (37, true)⟩, ⟨some 42, .pick (.t 37) (.t 41) (kb false), none⟩, ⟨some 2, .mv (.t 42), none⟩])
 .ret)))
abbrev n_windroselaw14_Light : Nat := 19
theorem F_windroselaw14_Light : Fun Tryz.prog n_windroselaw14_Light 43 c_windroselaw14_Light [.t 2] := ⟨⟨Tryz.f19, _, Tryz.func19, by kernel_rfl, rfl, rfl, by kernel_rfl, by kernel_rfl⟩⟩
/-- windrose/shelf.Check -/
def c_shelf_Check : C :=
 (.seq (.reg false [⟨some 1, .box 29 3 (.t 0), none⟩, ⟨some 2, .mv (ki 0), none⟩])
 (.seq (.seq (.reg false [⟨some 7, .fa 0 (.t 1), none⟩, ⟨some 8, .ld false 1 (.t 7), none⟩, ⟨some 9, .len (.t 8), none⟩, ⟨some 10, .bin .gtr (.t 9) (ki 16), none⟩, ⟨some 11, .mv (.t 10), none⟩, ⟨some 12, .fa 1 (.t 1), some (11, false)⟩, ⟨some 13, .ld false 1 (.t 12), some (11, false)⟩, ⟨some 14, .len (.t 13), some (11, false)⟩, ⟨some 15, .bin .gtr (.t 14) (ki 8), some (11, false)⟩, ⟨some 16, .pick (.t 11) (kb true) (.t 15), none⟩, ⟨some 17, .mv (.t 16), none⟩, ⟨some 18, .fa 2 (.t 1), some (17, false)⟩, ⟨some 19, .ld false 1 (.t 18), some (17, false)⟩, ⟨some 20, .call (kf 52) [(.t 19), (ki 0), (ki 1099511627776)], some (17, false)⟩, ⟨some 21, .un .not (.t 20), some (17, false)⟩, ⟨some 22, .pick (.t 17) (kb true) (.t 21), none⟩])
 (.cond (.t 22)
 (.seq (.reg false [⟨some 2, .mv (ki 1), none⟩])
 .ret)
 .skip))
 (.seq (.seq (.reg false [⟨some 23, .fa 0 (.t 1), none⟩, ⟨some 24, .ld false 1 (.t 23), none⟩, ⟨some 25, .len (.t 24), none⟩, ⟨some 26, .mv (ki 0), none⟩])
 (.block 0 (.loop (.seq (.reg false [⟨some 27, .bin .lss (.t 26) (.t 25), none⟩])
 (.seq (.cond (.t 27)
 .skip
 (.exit 0))
 (.seq (.block 1 (.seq (.reg false [⟨some 28, .mv (.t 26), none⟩, ⟨some 29, .ia 2 (.t 24) (.t 26), none⟩, ⟨some 30, .ld true 2 (.t 29), none⟩, ⟨some 4, .alloc 49 2 [.string ⟨#[]⟩, .slice none 0 0], none⟩, ⟨some 3, .mv (.t 28), none⟩, ⟨none, .st 2 (.t 4) (.t 30), none⟩])
 (.seq (.reg true [⟨some 31, .fa 0 (.t 4), none⟩, ⟨some 32, .ld false 1 (.t 31), none⟩, ⟨some 33, .call (kf 56) [(.t 32)], none⟩, ⟨some 34, .un .not (.t 33), none⟩, ⟨some 35, .mv (.t 34), none⟩, ⟨some 36, .mv (.t 3), some (35, false)⟩, ⟨some 37, .bin .gtr (.t 36) (ki 0), some (35, false)⟩, ⟨some 38, .mv (.t 37), some (35, false)⟩, ⟨some 39, .fa 0 (.t 4), some (38, true)⟩, ⟨some 40, .ld false 1 (.t 39), some (38, true)⟩, ⟨some 41, .fa 0 (.t 1), some (38, true)⟩, ⟨some 42, .ld false 1 (.t 41), some (38, true)⟩, ⟨some 43, .mv (.t 3), some (38, true)⟩, ⟨some 44, .bin .sub (.t 43) (ki 1), some (38, true)⟩, ⟨some 45, .ia 2 (.t 42) (.t 44), some (38, true)⟩, ⟨some 46, .fa 0 (.t 45), some (38, true)⟩, ⟨some 47, .ld false 1 (.t 46), some (38, true)⟩, ⟨some 48, .bin .leq (.t 40) (.t 47), some (38, true)⟩, ⟨some 49, .pick (.t 38) (.t 48) (kb false), some (35, false)⟩, ⟨some 50, .pick (.t 35) (kb true) (.t 49), none⟩, ⟨some 51, .mv (.t 50), none⟩, ⟨some 52, .fa 1 (.t 4), some (51, false)⟩, ⟨some 53, .ld false 1 (.t 52), some (51, false)⟩, ⟨some 54, .len (.t 53), some (51, false)⟩, ⟨some 55, .bin .eql (.t 54) (ki 0), some (51, false)⟩, ⟨some 56, .pick (.t 51) (kb true) (.t 55), none⟩, ⟨some 57, .mv (.t 56), none⟩, ⟨some 58, .fa 1 (.t 4), some (57, false)⟩, ⟨some 59, .ld false 1 (.t 58), some (57, false)⟩, ⟨some 60, .call (kf 57) [(.t 59)], some (57, false)⟩, ⟨some 61, .bin .neq (.t 60) (ki 0), some (57, false)⟩, ⟨some 62, .pick (.t 57) (kb true) (.t 61), none⟩, ⟨some 63, .mv (.t 62), none⟩, ⟨some 64, .fa 1 (.t 4), some (63, false)⟩, ⟨some 65, .ld false 1 (.t 64), some (63, false)⟩, ⟨some 66, .ia 2 (.t 65) (ki 0), some (63, false)⟩, ⟨some 67, .fa 0 (.t 66), some (63, false)⟩, ⟨some 68, .ld false 1 (.t 67), some (63, false)⟩, ⟨some 69, .fa 2 (.t 1), some (63, false)⟩, ⟨some 70, .ld false 1 (.t 69), some (63, false)⟩, ⟨some 71, .bin .lss (.t 68) (.t 70), some (63, false)⟩, ⟨some 72, .pick (.t 63) (kb true) (.t 71), none⟩])
 (.cond (.t 72)
 (.seq (.reg false [⟨some 2, .mv (ki 1), none⟩])
 .ret)
 .skip))))
 (.reg false [⟨some 73, .bin .add (.t 26) (ki 1), none⟩, ⟨some 26, .mv (.t 73), none⟩])))))))
 (.seq (.seq (.reg false [⟨some 74, .fa 1 (.t 1), none⟩, ⟨some 75, .ld false 1 (.t 74), none⟩, ⟨some 76, .len (.t 75), none⟩, ⟨some 77, .mv (ki 0), none⟩])
 (.block 2 (.loop (.seq (.reg false [⟨some 78, .bin .lss (.t 77) (.t 76), none⟩])
 (.seq (.cond (.t 78)
 .skip
 (.exit 2))
 (.seq (.block 3 (.seq (.reg false [⟨some 79, .mv (.t 77), none⟩, ⟨some 80, .ia 5 (.t 75) (.t 77), none⟩, ⟨some 81, .ld true 5 (.t 80), none⟩, ⟨some 6, .alloc 45 5 [.int .i64 0, .int .i64 0, .int .i64 0, .bool false, .int .i64 0], none⟩, ⟨some 5, .mv (.t 79), none⟩, ⟨none, .st 5 (.t 6) (.t 81), none⟩])
 (.seq (.reg true [⟨some 82, .fa 0 (.t 6), none⟩, ⟨some 83, .ld false 1 (.t 82), none⟩, ⟨some 84, .call (kf 52) [(.t 83), (ki 1), (ki 2147483647)], none⟩, ⟨some 85, .un .not (.t 84), none⟩, ⟨some 86, .mv (.t 85), none⟩, ⟨some 87, .fa 1 (.t 6), some (86, false)⟩, ⟨some 88, .ld false 1 (.t 87), some (86, false)⟩, ⟨some 89, .call (kf 52) [(.t 88), (ki 1), (ki 2147483647)], some (86, false)⟩, ⟨some 90, .un .not (.t 89), some (86, false)⟩, ⟨some 91, .pick (.t 86) (kb true) (.t 90), none⟩, ⟨some 92, .mv (.t 91), none⟩, ⟨some 93, .mv (.t 5), some (92, false)⟩, ⟨some 94, .bin .gtr (.t 93) (ki 0), some (92, false)⟩, ⟨some 95, .mv (.t 94), some (92, false)⟩, ⟨some 96, .fa 0 (.t 6), some (95, true)⟩, ⟨some 97, .ld false 1 (.t 96), some (95, true)⟩, ⟨some 98, .fa 1 (.t 1), some (95, true)⟩, ⟨some 99, .ld false 1 (.t 98), some (95, true)⟩, ⟨some 100, .mv (.t 5), some (95, true)⟩, ⟨some 101, .bin .sub (.t 100) (ki 1), some (95, true)⟩, ⟨some 102, .ia 5 (.t 99) (.t 101), some (95, true)⟩, ⟨some 103, .fa 0 (.t 102), some (95, true)⟩, ⟨some 104, .ld false 1 (.t 103), some (95, true)⟩, ⟨some 105, .bin .leq (.t 97) (.t 104), some (95, true)⟩, ⟨some 106, .pick (.t 95) (.t 105) (kb false), some (92, false)⟩, ⟨some 107, .pick (.t 92) (kb true) (.t 106), none⟩])
 (.cond (.t 107)
 (.seq (.reg false [⟨some 2, .mv (ki 1), none⟩])
 .ret)
 .skip))))
 (.reg false [⟨some 108, .bin .add (.t 77) (ki 1), none⟩, ⟨some 77, .mv (.t 108), none⟩])))))))
 (.seq (.reg false [⟨some 2, .mv (ki 0), none⟩])
 .ret)))))
abbrev n_shelf_Check : Nat := 20
theorem F_shelf_Check : Fun Tryz.prog n_shelf_Check 109 c_shelf_Check [.t 2] := ⟨⟨Tryz.f20, _, Tryz.func20, by kernel_rfl, rfl, rfl, by kernel_rfl, by kernel_rfl⟩⟩
/-- windrose/shelf.CheckOp -/
def c_shelf_CheckOp : C :=
 (.seq (.reg false [⟨some 1, .box 35 7 (.t 0), none⟩, ⟨some 2, .mv (ki 0), none⟩])
 (.seq (.reg false [⟨some 5, .fa 0 (.t 1), none⟩, ⟨some 6, .ld false 1 (.t 5), none⟩, ⟨some 7, .bld [.int .i64 0, .string ⟨#[]⟩, .int .i64 0, .int .i64 0, .int .i64 0, .int .i64 0, .int .i64 0] [(0, 1, (.t 6))], none⟩, ⟨some 3, .alloc 35 7 [.int .i64 0, .string ⟨#[]⟩, .int .i64 0, .int .i64 0, .int .i64 0, .int .i64 0, .int .i64 0], none⟩, ⟨none, .st 7 (.t 3) (.t 7), none⟩])
 (.seq (.reg false [⟨some 8, .fa 0 (.t 1), none⟩, ⟨some 9, .ld false 1 (.t 8), none⟩, ⟨some 10, .bin .eql (.t 9) (ki 2), none⟩, ⟨some 11, .mv (.t 10), none⟩, ⟨some 12, .fa 1 (.t 1), some (11, false)⟩, ⟨some 13, .ld false 1 (.t 12), some (11, false)⟩, ⟨some 14, .call (kf 56) [(.t 13)], some (11, false)⟩, ⟨some 15, .pick (.t 11) (kb true) (.t 14), none⟩, ⟨some 4, .mv (.t 15), none⟩])
 (.seq (.seq (.reg false [⟨some 16, .fa 0 (.t 1), none⟩, ⟨some 17, .ld false 1 (.t 16), none⟩])
 (.block 0 (.seq (.reg false [⟨some 19, .bin .eql (.t 17) (ki 1), none⟩, ⟨some 18, .mv (.t 19), none⟩])
 (.cond (.t 18)
 (.seq (.rgx [[], [0], [], [2], [0, 1], [4, 0, 1], [0, 1, 2, 3, 4, 5], [6, 0, 1, 2, 3, 4, 5]] [⟨some 20, .fa 1 (.t 1), none⟩, ⟨some 21, .ld false 1 (.t 20), none⟩, ⟨some 22, .fa 2 (.t 1), none⟩, ⟨some 23, .ld true 2 (.t 22), none⟩, ⟨some 24, .fa 1 (.t 3), none⟩, ⟨none, .st 1 (.t 24) (.t 21), none⟩, ⟨some 25, .fa 2 (.t 3), none⟩, ⟨none, .st 2 (.t 25) (.t 23), none⟩])
 (.reg false [⟨some 26, .mv (.t 4), none⟩, ⟨some 27, .mv (.t 26), none⟩, ⟨some 28, .fa 2 (.t 1), some (27, true)⟩, ⟨some 29, .ld true 2 (.t 28), some (27, true)⟩, ⟨some 30, .bsl 33 2 1 [.int .i64 0, .int .i64 0] [(0, (.t 29))], some (27, true)⟩, ⟨some 31, .call (kf 57) [(.t 30)], some (27, true)⟩, ⟨some 32, .bin .eql (.t 31) (ki 0), some (27, true)⟩, ⟨some 33, .pick (.t 27) (.t 32) (kb false), none⟩, ⟨some 4, .mv (.t 33), none⟩]))
 (.seq (.reg false [⟨some 35, .bin .eql (.t 17) (ki 2), none⟩, ⟨some 34, .mv (.t 35), none⟩])
 (.cond (.t 34)
 (.seq (.reg false [⟨some 36, .fa 4 (.t 1), none⟩, ⟨some 37, .ld false 1 (.t 36), none⟩, ⟨some 38, .fa 4 (.t 3), none⟩, ⟨none, .st 1 (.t 38) (.t 37), none⟩])
 (.reg false [⟨some 39, .fa 4 (.t 1), none⟩, ⟨some 40, .ld false 1 (.t 39), none⟩, ⟨some 41, .call (kf 52) [(.t 40), (ki 0), (ki 1099511627776)], none⟩, ⟨some 4, .mv (.t 41), none⟩]))
 (.seq (.reg false [⟨some 43, .bin .eql (.t 17) (ki 3), none⟩, ⟨some 42, .mv (.t 43), none⟩])
 (.cond (.t 42)
 (.seq (.rgx [[], [0], [], [2], [], [4], [], [6], [0, 1], [8, 0, 1], [0, 1, 2, 3, 8, 9], [10, 0, 1, 2, 3, 8, 9], [0, 1, 2, 3, 4, 5, 8, 9, 10, 11], [12, 0, 1, 2, 3, 4, 5, 8, 9, 10, 11], [0, 1, 2, 3, 4, 5, 6, 7, 8, 9, 10, 11, 12, 13], [14, 0, 1, 2, 3, 4, 5, 6, 7, 8, 9, 10, 11, 12, 13]] [⟨some 44, .fa 1 (.t 1), none⟩, ⟨some 45, .ld false 1 (.t 44), none⟩, ⟨some 46, .fa 4 (.t 1), none⟩, ⟨some 47, .ld false 1 (.t 46), none⟩, ⟨some 48, .fa 5 (.t 1), none⟩, ⟨some 49, .ld false 1 (.t 48), none⟩, ⟨some 50, .fa 6 (.t 1), none⟩, ⟨some 51, .ld false 1 (.t 50), none⟩, ⟨some 52, .fa 1 (.t 3), none⟩, ⟨none, .st 1 (.t 52) (.t 45), none⟩, ⟨some 53, .fa 4 (.t 3), none⟩, ⟨none, .st 1 (.t 53) (.t 47), none⟩, ⟨some 54, .fa 5 (.t 3), none⟩, ⟨none, .st 1 (.t 54) (.t 49), none⟩, ⟨some 55, .fa 6 (.t 3), none⟩, ⟨none, .st 1 (.t 55) (.t 51), none⟩])
 (.reg false [⟨some 56, .mv (.t 4), none⟩, ⟨some 57, .mv (.t 56), none⟩, ⟨some 58, .fa 6 (.t 1), some (57, true)⟩, ⟨some 59, .ld false 1 (.t 58), some (57, true)⟩, ⟨some 60, .call (kf 52) [(.t 59), (ki 1), (ki 5)], some (57, true)⟩, ⟨some 61, .pick (.t 57) (.t 60) (kb false), none⟩, ⟨some 4, .mv (.t 61), none⟩]))
 (.seq (.reg false [⟨some 63, .bin .eql (.t 17) (ki 4), none⟩, ⟨some 62, .mv (.t 63), none⟩])
 (.cond (.t 62)
 (.rgx [[], [0], [], [2], [0, 1], [4, 0, 1], [0, 1, 2, 3, 4, 5], [6, 0, 1, 2, 3, 4, 5]] [⟨some 64, .fa 1 (.t 1), none⟩, ⟨some 65, .ld false 1 (.t 64), none⟩, ⟨some 66, .fa 4 (.t 1), none⟩, ⟨some 67, .ld false 1 (.t 66), none⟩, ⟨some 68, .fa 1 (.t 3), none⟩, ⟨none, .st 1 (.t 68) (.t 65), none⟩, ⟨some 69, .fa 4 (.t 3), none⟩, ⟨none, .st 1 (.t 69) (.t 67), none⟩])
 (.reg false [⟨some 4, .mv (kb false), none⟩])))))))))))
 (.seq (.seq (.reg false [⟨some 70, .mv (.t 4), none⟩, ⟨some 71, .un .not (.t 70), none⟩, ⟨some 72, .mv (.t 71), none⟩, ⟨some 73, .ld true 7 (.t 1), some (72, false)⟩, ⟨some 74, .ld true 7 (.t 3), some (72, false)⟩, ⟨some 75, .eqa [1, 2, 1, 1, 1, 1, 1] true (.t 73) (.t 74), some (72, false)⟩, ⟨some 76, .pick (.t 72) (kb true) (.t 75), none⟩])
 (.cond (.t 76)
 (.seq (.reg false [⟨some 2, .mv (ki 1), none⟩])
 .ret)
 .skip))
 (.seq (.reg false [⟨some 2, .mv (ki 0), none⟩])
 .ret))))))
abbrev n_shelf_CheckOp : Nat := 21
theorem F_shelf_CheckOp : Fun Tryz.prog n_shelf_CheckOp 77 c_shelf_CheckOp [.t 2] := ⟨⟨Tryz.f21, _, Tryz.func21, by kernel_rfl, rfl, rfl, by kernel_rfl, by kernel_rfl⟩⟩
/-- windrose/windroseref14.Op -/
def c_windroseref14_Op : C :=
 (.seq (.reg false [⟨some 1, .box 35 7 (.t 0), none⟩, ⟨some 2, .mv (kb false), none⟩])
 (.seq (.seq (.reg false [⟨some 3, .fa 0 (.t 1), none⟩, ⟨some 4, .ld false 1 (.t 3), none⟩, ⟨some 5, .bin .eql (.t 4) (ki 2), none⟩])
 (.cond (.t 5)
 (.seq (.reg false [⟨some 6, .ld true 7 (.t 1), none⟩, ⟨some 7, .fa 0 (.t 1), none⟩, ⟨some 8, .ld false 1 (.t 7), none⟩, ⟨some 9, .fa 4 (.t 1), none⟩, ⟨some 10, .ld false 1 (.t 9), none⟩, ⟨some 11, .bld [.int .i64 0, .string ⟨#[]⟩, .int .i64 0, .int .i64 0, .int .i64 0, .int .i64 0, .int .i64 0] [(0, 1, (.t 8)), (4, 1, (.t 10))], none⟩, ⟨some 12, .eqa [1, 2, 1, 1, 1, 1, 1] false (.t 6) (.t 11), none⟩, ⟨some 13, .mv (.t 12), none⟩, ⟨some 14, .fa 4 (.t 1), some (13, true)⟩, ⟨some 15, .ld false 1 (.t 14), some (13, true)⟩, ⟨some 16, .bin .geq (.t 15) (ki 0), some (13, true)⟩, ⟨some 17, .pick (.t 13) (.t 16) (kb false), none⟩, ⟨some 18, .mv (.t 17), none⟩, ⟨some 19, .fa 4 (.t 1), some (18, true)⟩, ⟨some 20, .ld false 1 (.t 19), some (18, true)⟩, ⟨some 21, .bin .leq (.t 20) (ki 1099511627776), some (18, true)⟩, ⟨some 22, .pick (.t 18) (.t 21) (kb false), none⟩, ⟨some 2, .mv (.t 22), none⟩])
 .ret)
 .skip))
 (.seq (.seq (.reg false [⟨some 23, .fa 1 (.t 1), none⟩, ⟨some 24, .ld false 1 (.t 23), none⟩, ⟨some 25, .call (kf 49) [(.t 24)], none⟩, ⟨some 26, .un .not (.t 25), none⟩])
 (.cond (.t 26)
 (.seq (.reg false [⟨some 2, .mv (kb false), none⟩])
 .ret)
 .skip))
 (.seq (.seq (.reg false [⟨some 27, .fa 0 (.t 1), none⟩, ⟨some 28, .ld false 1 (.t 27), none⟩])
 (.block 0 (.seq (.reg false [⟨some 30, .bin .eql (.t 28) (ki 1), none⟩, ⟨some 29, .mv (.t 30), none⟩])
 (.cond (.t 29)
 (.seq (.reg false [⟨some 31, .ld true 7 (.t 1), none⟩, ⟨some 32, .fa 0 (.t 1), none⟩, ⟨some 33, .ld false 1 (.t 32), none⟩, ⟨some 34, .fa 1 (.t 1), none⟩, ⟨some 35, .ld false 1 (.t 34), none⟩, ⟨some 36, .fa 2 (.t 1), none⟩, ⟨some 37, .ld true 2 (.t 36), none⟩, ⟨some 38, .bld [.int .i64 0, .string ⟨#[]⟩, .int .i64 0, .int .i64 0, .int .i64 0, .int .i64 0, .int .i64 0] [(0, 1, (.t 33)), (1, 1, (.t 35)), (2, 2, (.t 37))], none⟩, ⟨some 39, .eqa [1, 2, 1, 1, 1, 1, 1] false (.t 31) (.t 38), none⟩, ⟨some 40, .mv (.t 39), none⟩, ⟨some 41, .fa 2 (.t 1), some (40, true)⟩, ⟨some 42, .ld true 2 (.t 41), some (40, true)⟩, ⟨some 43, .bsl 33 2 1 [.int .i64 0, .int .i64 0] [(0, (.t 42))], some (40, true)⟩, ⟨some 44, .call (kf 50) [(.t 43)], some (40, true)⟩, ⟨some 45, .pick (.t 40) (.t 44) (kb false), none⟩, ⟨some 2, .mv (.t 45), none⟩])
 .ret)
 (.seq (.reg false [⟨some 47, .bin .eql (.t 28) (ki 3), none⟩, ⟨some 46, .mv (.t 47), none⟩])
 (.cond (.t 46)
 (.seq (.reg false [⟨some 48, .ld true 7 (.t 1), none⟩, ⟨some 49, .fa 0 (.t 1), none⟩, ⟨some 50, .ld false 1 (.t 49), none⟩, ⟨some 51, .fa 1 (.t 1), none⟩, ⟨some 52, .ld false 1 (.t 51), none⟩, ⟨some 53, .fa 4 (.t 1), none⟩, ⟨some 54, .ld false 1 (.t 53), none⟩, ⟨some 55, .fa 5 (.t 1), none⟩, ⟨some 56, .ld false 1 (.t 55), none⟩, ⟨some 57, .fa 6 (.t 1), none⟩, ⟨some 58, .ld false 1 (.t 57), none⟩, ⟨some 59, .bld [.int .i64 0, .string ⟨#[]⟩, .int .i64 0, .int .i64 0, .int .i64 0, .int .i64 0, .int .i64 0] [(0, 1, (.t 50)), (1, 1, (.t 52)), (4, 1, (.t 54)), (5, 1, (.t 56)), (6, 1, (.t 58))], none⟩, ⟨some 60, .eqa [1, 2, 1, 1, 1, 1, 1] false (.t 48) (.t 59), none⟩, ⟨some 61, .mv (.t 60), none⟩, ⟨some 62, .fa 6 (.t 1), some (61, true)⟩, ⟨some 63, .ld false 1 (.t 62), some (61, true)⟩, ⟨some 64, .bin .geq (.t 63) (ki 1), some (61, true)⟩, ⟨some 65, .pick (.t 61) (.t 64) (kb false), none⟩, ⟨some 66, .mv (.t 65), none⟩, ⟨some 67, .fa 6 (.t 1), some (66, true)⟩, ⟨some 68, .ld false 1 (.t 67), some (66, true)⟩, ⟨some 69, .bin .leq (.t 68) (ki 5), some (66, true)⟩, ⟨some 70, .pick (.t 66) (.t 69) (kb false), none⟩, ⟨some 2, .mv (.t 70), none⟩])
 .ret)
 (.seq (.reg false [⟨some 72, .bin .eql (.t 28) (ki 4), none⟩, ⟨some 71, .mv (.t 72), none⟩])
 (.cond (.t 71)
 (.seq (.reg false [⟨some 73, .ld true 7 (.t 1), none⟩, ⟨some 74, .fa 0 (.t 1), none⟩, ⟨some 75, .ld false 1 (.t 74), none⟩, ⟨some 76, .fa 1 (.t 1), none⟩, ⟨some 77, .ld false 1 (.t 76), none⟩, ⟨some 78, .fa 4 (.t 1), none⟩, ⟨some 79, .ld false 1 (.t 78), none⟩, ⟨some 80, .bld [.int .i64 0, .string ⟨#[]⟩, .int .i64 0, .int .i64 0, .int .i64 0, .int .i64 0, .int .i64 0] [(0, 1, (.t 75)), (1, 1, (.t 77)), (4, 1, (.t 79))], none⟩, ⟨some 81, .eqa [1, 2, 1, 1, 1, 1, 1] false (.t 73) (.t 80), none⟩, ⟨some 2, .mv (.t 81), none⟩])
 .ret)
 .skip))))))))
 (.seq (.reg false [⟨some 2, .mv (kb false), none⟩])
 .ret)))))
abbrev n_windroseref14_Op : Nat := 22
theorem F_windroseref14_Op : Fun Tryz.prog n_windroseref14_Op 82 c_windroseref14_Op [.t 2] := ⟨⟨Tryz.f22, _, Tryz.func22, by kernel_rfl, rfl, rfl, by kernel_rfl, by kernel_rfl⟩⟩
/-- windrose/shelf.Look -/
def c_shelf_Look : C :=
 (.seq (.reg false [⟨some 2, .box 29 3 (.t 0), none⟩, ⟨some 3, .box 35 7 (.t 1), none⟩, ⟨some 4, .alloc 41 3 [.int .i64 0, .bool false, .int .i64 0], none⟩])
 (.seq (.seq (.reg false [⟨some 8, .ld true 3 (.t 2), none⟩, ⟨some 9, .call (kf 20) [(.t 8)], none⟩, ⟨some 5, .mv (.t 9), none⟩])
 (.seq (.reg false [⟨some 10, .mv (.t 5), none⟩, ⟨some 11, .bin .neq (.t 10) (ki 0), none⟩])
 (.cond (.t 11)
 (.seq (.reg false [⟨some 12, .mv (.t 5), none⟩, ⟨some 13, .bld [.int .i64 0, .bool false, .int .i64 0] [(0, 1, (.t 12))], none⟩, ⟨none, .st 3 (.t 4) (.t 13), none⟩])
 .ret)
 .skip)))
 (.seq (.rgx [[], [0], [], [1, 0, 2], [3, 1, 0, 2], [4, 3, 1, 0, 2], [4, 3, 1, 0, 2], [], [], [7, 5, 4, 3, 1, 0, 2, 8], [8, 6, 4, 3, 1, 0, 2, 9, 7, 5]] [⟨some 15, .ld true 3 (.t 2), none⟩, ⟨some 16, .call (kf 53) [(.t 15)], none⟩, ⟨some 17, .ld true 7 (.t 3), none⟩, ⟨some 18, .call (kf 54) [(.t 16), (.t 17)], none⟩, ⟨some 14, .mv (.t 18), none⟩, ⟨some 19, .ex (.t 14) 0, none⟩, ⟨some 20, .ex (.t 14) 1, none⟩, ⟨some 6, .alloc 29 3 [.slice none 0 0, .slice none 0 0, .int .i64 0], none⟩, ⟨some 7, .alloc 41 3 [.int .i64 0, .bool false, .int .i64 0], none⟩, ⟨none, .st 3 (.t 6) (.t 19), none⟩, ⟨none, .st 3 (.t 7) (.t 20), none⟩])
 (.seq (.reg false [⟨some 21, .ld true 3 (.t 7), none⟩, ⟨none, .st 3 (.t 4) (.t 21), none⟩])
 .ret))))
abbrev n_shelf_Look : Nat := 23
theorem F_shelf_Look : Fun Tryz.prog n_shelf_Look 22 c_shelf_Look [.l true 3 4] := ⟨⟨Tryz.f23, _, Tryz.func23, by kernel_rfl, rfl, rfl, by kernel_rfl, by kernel_rfl⟩⟩
/-- windrose/windroseref14.Do -/
def c_windroseref14_Do : C :=
 (.seq (.reg false [⟨some 2, .box 29 3 (.t 0), none⟩, ⟨some 3, .box 37 10 (.t 1), none⟩, ⟨some 4, .alloc 29 3 [.slice none 0 0, .slice none 0 0, .int .i64 0], none⟩, ⟨some 5, .alloc 41 3 [.int .i64 0, .bool false, .int .i64 0], none⟩, ⟨some 6, .mv (ki 0), none⟩])
 (.seq (.seq (.reg false [⟨some 11, .fa 1 (.t 3), none⟩, ⟨some 12, .ld false 1 (.t 11), none⟩, ⟨some 13, .bin .lss (.t 12) (ki 0), none⟩, ⟨some 14, .mv (.t 13), none⟩, ⟨some 15, .fa 1 (.t 3), some (14, false)⟩, ⟨some 16, .ld false 1 (.t 15), some (14, false)⟩, ⟨some 17, .bin .geq (.t 16) (ki 2147483648), some (14, false)⟩, ⟨some 18, .pick (.t 14) (kb true) (.t 17), none⟩, ⟨some 19, .mv (.t 18), none⟩, ⟨some 20, .fa 2 (.t 3), some (19, false)⟩, ⟨some 21, .ld false 1 (.t 20), some (19, false)⟩, ⟨some 22, .bin .lss (.t 21) (ki 1), some (19, false)⟩, ⟨some 23, .pick (.t 19) (kb true) (.t 22), none⟩, ⟨some 24, .mv (.t 23), none⟩, ⟨some 25, .fa 2 (.t 3), some (24, false)⟩, ⟨some 26, .ld false 1 (.t 25), some (24, false)⟩, ⟨some 27, .bin .geq (.t 26) (ki 2147483648), some (24, false)⟩, ⟨some 28, .pick (.t 24) (kb true) (.t 27), none⟩])
 (.cond (.t 28)
 (.seq (.reg false [⟨some 29, .bld [.slice none 0 0, .slice none 0 0, .int .i64 0] [], none⟩, ⟨some 30, .bld [.int .i64 0, .bool false, .int .i64 0] [], none⟩, ⟨none, .st 3 (.t 4) (.t 29), none⟩, ⟨none, .st 3 (.t 5) (.t 30), none⟩, ⟨some 6, .mv (ki 1), none⟩])
 .ret)
 .skip))
 (.seq (.seq (.reg false [⟨some 7, .mv (ki 0), none⟩])
 (.block 0 (.loop (.seq (.seq (.reg false [⟨some 31, .mv (.t 7), none⟩, ⟨some 32, .fa 1 (.t 2), none⟩, ⟨some 33, .ld false 1 (.t 32), none⟩, ⟨some 34, .len (.t 33), none⟩, ⟨some 35, .bin .lss (.t 31) (.t 34), none⟩])
 (.cond (.t 35)
 .skip
 (.exit 0)))
 (.seq (.block 1 (.seq (.reg false [⟨some 38, .fa 1 (.t 2), none⟩, ⟨some 39, .ld false 1 (.t 38), none⟩, ⟨some 40, .mv (.t 7), none⟩, ⟨some 41, .ia 5 (.t 39) (.t 40), none⟩, ⟨some 42, .ld true 5 (.t 41), none⟩, ⟨some 8, .alloc 45 5 [.int .i64 0, .int .i64 0, .int .i64 0, .bool false, .int .i64 0], none⟩, ⟨none, .st 5 (.t 8) (.t 42), none⟩])
 (.seq (.seq (.reg false [⟨some 43, .fa 0 (.t 8), none⟩, ⟨some 44, .ld false 1 (.t 43), none⟩, ⟨some 45, .fa 1 (.t 3), none⟩, ⟨some 46, .ld false 1 (.t 45), none⟩, ⟨some 47, .bin .eql (.t 44) (.t 46), none⟩, ⟨some 48, .mv (.t 47), none⟩, ⟨some 49, .fa 1 (.t 8), some (48, true)⟩, ⟨some 50, .ld false 1 (.t 49), some (48, true)⟩, ⟨some 51, .fa 2 (.t 3), some (48, true)⟩, ⟨some 52, .ld false 1 (.t 51), some (48, true)⟩, ⟨some 53, .bin .eql (.t 50) (.t 52), some (48, true)⟩, ⟨some 54, .pick (.t 48) (.t 53) (kb false), none⟩])
 (.cond (.t 54)
 (.seq (.rgx [[], [], [1], [0], [2, 1, 3, 0], [4, 2, 1, 3, 0]] [⟨some 55, .ld true 3 (.t 2), none⟩, ⟨some 56, .fa 2 (.t 8), none⟩, ⟨some 57, .ld true 3 (.t 56), none⟩, ⟨none, .st 3 (.t 4) (.t 55), none⟩, ⟨none, .st 3 (.t 5) (.t 57), none⟩, ⟨some 6, .mv (ki 0), none⟩])
 .ret)
 .skip))
 (.seq (.reg false [⟨some 58, .fa 0 (.t 8), none⟩, ⟨some 59, .ld false 1 (.t 58), none⟩, ⟨some 60, .fa 1 (.t 3), none⟩, ⟨some 61, .ld false 1 (.t 60), none⟩, ⟨some 62, .bin .eql (.t 59) (.t 61), none⟩, ⟨some 63, .mv (.t 62), none⟩, ⟨some 64, .fa 1 (.t 8), some (63, true)⟩, ⟨some 65, .ld false 1 (.t 64), some (63, true)⟩, ⟨some 66, .fa 2 (.t 3), some (63, true)⟩, ⟨some 67, .ld false 1 (.t 66), some (63, true)⟩, ⟨some 68, .bin .gtr (.t 65) (.t 67), some (63, true)⟩, ⟨some 69, .pick (.t 63) (.t 68) (kb false), none⟩])
 (.cond (.t 69)
 (.seq (.reg false [⟨some 70, .ld true 3 (.t 2), none⟩, ⟨some 71, .bld [.int .i64 0, .bool false, .int .i64 0] [(0, 1, (ki 9))], none⟩, ⟨none, .st 3 (.t 4) (.t 70), none⟩, ⟨none, .st 3 (.t 5) (.t 71), none⟩, ⟨some 6, .mv (ki 0), none⟩])
 .ret)
 .skip)))))
 (.reg false [⟨some 36, .mv (.t 7), none⟩, ⟨some 37, .bin .add (.t 36) (ki 1), none⟩, ⟨some 7, .mv (.t 37), none⟩]))))))
 (.seq (.reg false [⟨some 73, .ld true 3 (.t 2), none⟩, ⟨some 74, .fa 3 (.t 3), none⟩, ⟨some 75, .ld true 7 (.t 74), none⟩, ⟨some 76, .call (kf 25) [(.t 73), (.t 75)], none⟩, ⟨some 72, .mv (.t 76), none⟩, ⟨some 77, .ex (.t 72) 0, none⟩, ⟨some 78, .ex (.t 72) 1, none⟩, ⟨some 9, .alloc 29 3 [.slice none 0 0, .slice none 0 0, .int .i64 0], none⟩, ⟨some 10, .alloc 41 3 [.int .i64 0, .bool false, .int .i64 0], none⟩, ⟨none, .st 3 (.t 9) (.t 77), none⟩, ⟨none, .st 3 (.t 10) (.t 78), none⟩])
 (.seq (.seq (.reg false [⟨some 79, .fa 1 (.t 3), none⟩, ⟨some 80, .ld false 1 (.t 79), none⟩, ⟨some 81, .bin .gtr (.t 80) (ki 0), none⟩])
 (.cond (.t 81)
 (.reg false [⟨some 82, .fa 1 (.t 9), none⟩, ⟨some 83, .ld false 1 (.t 82), none⟩, ⟨some 84, .fa 1 (.t 3), none⟩, ⟨some 85, .ld false 1 (.t 84), none⟩, ⟨some 86, .fa 2 (.t 3), none⟩, ⟨some 87, .ld false 1 (.t 86), none⟩, ⟨some 88, .ld true 3 (.t 10), none⟩, ⟨some 89, .bld [.int .i64 0, .int .i64 0, .int .i64 0, .bool false, .int .i64 0] [(0, 1, (.t 85)), (1, 1, (.t 87)), (2, 3, (.t 88))], none⟩, ⟨some 90, .call (kf 58) [(.t 83), (.t 89)], none⟩, ⟨some 91, .fa 1 (.t 9), none⟩, ⟨none, .st 1 (.t 91) (.t 90), none⟩])
 .skip))
 (.seq (.rgx [[], [], [0], [1, 2, 0], [3, 1, 2, 0]] [⟨some 92, .ld true 3 (.t 9), none⟩, ⟨some 93, .ld true 3 (.t 10), none⟩, ⟨none, .st 3 (.t 4) (.t 92), none⟩, ⟨none, .st 3 (.t 5) (.t 93), none⟩, ⟨some 6, .mv (ki 0), none⟩])
 .ret))))))
abbrev n_windroseref14_Do : Nat := 24
theorem F_windroseref14_Do : Fun Tryz.prog n_windroseref14_Do 94 c_windroseref14_Do [.l true 3 4, .l true 3 5, .t 6] := ⟨⟨Tryz.f24, _, Tryz.func24, by kernel_rfl, rfl, rfl, by kernel_rfl, by kernel_rfl⟩⟩
/-- windrose/windroseref14.Apply -/
def c_windroseref14_Apply : C :=
 (.seq (.reg false [⟨some 2, .box 29 3 (.t 0), none⟩, ⟨some 3, .box 35 7 (.t 1), none⟩, ⟨some 4, .alloc 29 3 [.slice none 0 0, .slice none 0 0, .int .i64 0], none⟩, ⟨some 5, .alloc 41 3 [.int .i64 0, .bool false, .int .i64 0], none⟩])
 (.seq (.seq (.reg false [⟨some 6, .ld true 7 (.t 3), none⟩, ⟨some 7, .call (kf 22) [(.t 6)], none⟩, ⟨some 8, .un .not (.t 7), none⟩])
 (.cond (.t 8)
 (.seq (.reg false [⟨some 9, .ld true 3 (.t 2), none⟩, ⟨some 10, .bld [.int .i64 0, .bool false, .int .i64 0] [(0, 1, (ki 1))], none⟩, ⟨none, .st 3 (.t 4) (.t 9), none⟩, ⟨none, .st 3 (.t 5) (.t 10), none⟩])
 .ret)
 .skip))
 (.seq (.reg false [⟨some 11, .ld true 3 (.t 2), none⟩, ⟨some 12, .ld true 7 (.t 3), none⟩, ⟨some 13, .call (kf 59) [(.t 11), (.t 12)], none⟩, ⟨some 14, .ex (.t 13) 0, none⟩, ⟨some 15, .ex (.t 13) 1, none⟩, ⟨none, .st 3 (.t 4) (.t 14), none⟩, ⟨none, .st 3 (.t 5) (.t 15), none⟩])
 .ret)))
abbrev n_windroseref14_Apply : Nat := 25
theorem F_windroseref14_Apply : Fun Tryz.prog n_windroseref14_Apply 16 c_windroseref14_Apply [.l true 3 4, .l true 3 5] := ⟨⟨Tryz.f25, _, Tryz.func25, by kernel_rfl, rfl, rfl, by kernel_rfl, by kernel_rfl⟩⟩
/-- windrose/shelf.Same -/
def c_shelf_Same : C :=
 (.seq (.reg false [⟨some 2, .box 29 3 (.t 0), none⟩, ⟨some 3, .box 29 3 (.t 1), none⟩, ⟨some 4, .mv (kb false), none⟩])
 (.seq (.reg false [⟨some 5, .mv (kf 60), none⟩])
 (.seq (.reg false [⟨some 6, .fa 0 (.t 2), none⟩, ⟨some 7, .ld false 1 (.t 6), none⟩, ⟨some 8, .fa 0 (.t 3), none⟩, ⟨some 9, .ld false 1 (.t 8), none⟩, ⟨some 10, .mv (.t 5), none⟩, ⟨some 11, .call (kf 62) [(.t 7), (.t 9), (.t 10)], none⟩, ⟨some 12, .mv (.t 11), none⟩, ⟨some 13, .fa 1 (.t 2), some (12, true)⟩, ⟨some 14, .ld false 1 (.t 13), some (12, true)⟩, ⟨some 15, .fa 1 (.t 3), some (12, true)⟩, ⟨some 16, .ld false 1 (.t 15), some (12, true)⟩, ⟨some 17, .call (kf 63) [(.t 14), (.t 16)], some (12, true)⟩, ⟨some 18, .pick (.t 12) (.t 17) (kb false), none⟩, ⟨some 19, .mv (.t 18), none⟩, ⟨some 20, .fa 2 (.t 2), some (19, true)⟩, ⟨some 21, .ld false 1 (.t 20), some (19, true)⟩, ⟨some 22, .fa 2 (.t 3), some (19, true)⟩, ⟨some 23, .ld false 1 (.t 22), some (19, true)⟩, ⟨some 24, .bin .eql (.t 21) (.t 23), some (19, true)⟩, ⟨some 25, .pick (.t 19) (.t 24) (kb false), none⟩, ⟨some 4, .mv (.t 25), none⟩])
 .ret)))
abbrev n_shelf_Same : Nat := 26
theorem F_shelf_Same : Fun Tryz.prog n_shelf_Same 26 c_shelf_Same [.t 4] := ⟨⟨Tryz.f26, _, Tryz.func26, by kernel_rfl, rfl, rfl, by kernel_rfl, by kernel_rfl⟩⟩
/-- windrose/windroseref14.series -/
def c_windroseref14_series : C :=
 (.seq (.reg false [⟨some 2, .mv (kb false), none⟩])
 (.seq (.reg false [⟨some 6, .mv (.t 0), none⟩, ⟨some 7, .call (kf 83) [(.t 6)], none⟩, ⟨some 5, .mv (.t 7), none⟩, ⟨some 8, .ex (.t 5) 0, none⟩, ⟨some 9, .ex (.t 5) 1, none⟩, ⟨some 3, .alloc 99 2 [.string ⟨#[]⟩, .slice none 0 0], none⟩, ⟨none, .st 2 (.t 3) (.t 8), none⟩, ⟨some 4, .mv (.t 9), none⟩])
 (.seq (.reg false [⟨some 10, .mv (.t 4), none⟩, ⟨some 11, .mv (.t 10), none⟩, ⟨some 12, .ld true 2 (.t 3), some (11, true)⟩, ⟨some 13, .call (kf 84) [(.t 12)], some (11, true)⟩, ⟨some 14, .mv (.t 0), some (11, true)⟩, ⟨some 15, .bin .eql (.t 13) (.t 14), some (11, true)⟩, ⟨some 16, .pick (.t 11) (.t 15) (kb false), none⟩, ⟨some 2, .mv (.t 16), none⟩])
 .ret)))
abbrev n_windroseref14_series : Nat := 49
theorem F_windroseref14_series : Fun Tryz.prog n_windroseref14_series 17 c_windroseref14_series [.t 2] := ⟨⟨Tryz.f49, _, Tryz.func49, by kernel_rfl, rfl, rfl, by kernel_rfl, by kernel_rfl⟩⟩
/-- windrose/windroseref11.May -/
def c_windroseref11_May : C :=
 (.seq (.reg false [⟨some 2, .mv (kb false), none⟩])
 (.seq (.seq (.reg false [⟨some 3, .mv (ki 0), none⟩])
 (.block 0 (.loop (.seq (.seq (.reg false [⟨some 4, .mv (.t 3), none⟩, ⟨some 5, .mv (.t 0), none⟩, ⟨some 6, .len (.t 5), none⟩, ⟨some 7, .bin .lss (.t 4) (.t 6), none⟩])
 (.cond (.t 7)
 .skip
 (.exit 0)))
 (.seq (.block 1 (.seq (.reg true [⟨some 10, .mv (.t 0), none⟩, ⟨some 11, .mv (.t 3), none⟩, ⟨some 12, .ia 2 (.t 10) (.t 11), none⟩, ⟨some 13, .fa 0 (.t 12), none⟩, ⟨some 14, .ld false 1 (.t 13), none⟩, ⟨some 15, .bin .lss (.t 14) (ki 0), none⟩, ⟨some 16, .mv (.t 15), none⟩, ⟨some 17, .mv (.t 0), some (16, false)⟩, ⟨some 18, .mv (.t 3), some (16, false)⟩, ⟨some 19, .ia 2 (.t 17) (.t 18), some (16, false)⟩, ⟨some 20, .fa 0 (.t 19), some (16, false)⟩, ⟨some 21, .ld false 1 (.t 20), some (16, false)⟩, ⟨some 22, .bin .gtr (.t 21) (ki 1099511627776), some (16, false)⟩, ⟨some 23, .pick (.t 16) (kb true) (.t 22), none⟩, ⟨some 24, .mv (.t 23), none⟩, ⟨some 25, .mv (.t 0), some (24, false)⟩, ⟨some 26, .mv (.t 3), some (24, false)⟩, ⟨some 27, .ia 2 (.t 25) (.t 26), some (24, false)⟩, ⟨some 28, .fa 1 (.t 27), some (24, false)⟩, ⟨some 29, .ld false 1 (.t 28), some (24, false)⟩, ⟨some 30, .bin .lss (.t 29) (ki (-1099511627776)), some (24, false)⟩, ⟨some 31, .pick (.t 24) (kb true) (.t 30), none⟩, ⟨some 32, .mv (.t 31), none⟩, ⟨some 33, .mv (.t 0), some (32, false)⟩, ⟨some 34, .mv (.t 3), some (32, false)⟩, ⟨some 35, .ia 2 (.t 33) (.t 34), some (32, false)⟩, ⟨some 36, .fa 1 (.t 35), some (32, false)⟩, ⟨some 37, .ld false 1 (.t 36), some (32, false)⟩, ⟨some 38, .bin .gtr (.t 37) (ki 1099511627776), some (32, false)⟩, ⟨some 39, .pick (.t 32) (kb true) (.t 38), none⟩, ⟨some 40, .mv (.t 39), none⟩, ⟨some 41, .mv (.t 3), some (40, false)⟩, ⟨some 42, .bin .gtr (.t 41) (ki 0), some (40, false)⟩, ⟨some 43, .mv (.t 42), some (40, false)⟩, ⟨some 44, .mv (.t 0), some (43, true)⟩, ⟨some 45, .mv (.t 3), some (43, true)⟩, ⟨some 46, .bin .sub (.t 45) (ki 1), some (43, true)⟩, ⟨some 47, .ia 2 (.t 44) (.t 46), some (43, true)⟩, ⟨some 48, .fa 0 (.t 47), some (43, true)⟩, ⟨some 49, .ld false 1 (.t 48), some (43, true)⟩, ⟨some 50, .mv (.t 0), some (43, true)⟩, ⟨some 51, .mv (.t 3), some (43, true)⟩, ⟨some 52, .ia 2 (.t 50) (.t 51), some (43, true)⟩, ⟨some 53, .fa 0 (.t 52), some (43, true)⟩, ⟨some 54, .ld false 1 (.t 53), some (43, true)⟩, ⟨some 55, .bin .geq (.t 49) (.t 54), some (43, true)⟩, ⟨some 56, .pick (.t 43) (.t 55) (kb false), some (40, false)⟩, ⟨some 57, .pick (.t 40) (kb true) (.t 56), none⟩])
 (.cond (.t 57)
 (.seq (.reg false [⟨some 2, .mv (kb false), none⟩])
 .ret)
 .skip)))
 (.reg false [⟨some 8, .mv (.t 3), none⟩, ⟨some 9, .bin .add (.t 8) (ki 1), none⟩, ⟨some 3, .mv (.t 9), none⟩]))))))
 (.seq (.reg false [⟨some 58, .mv (.t 0), none⟩, ⟨some 59, .len (.t 58), none⟩, ⟨some 60, .bin .leq (.t 59) (ki 64), none⟩, ⟨some 2, .mv (.t 60), none⟩])
 .ret)))
abbrev n_windroseref11_May : Nat := 50
theorem F_windroseref11_May : Fun Tryz.prog n_windroseref11_May 61 c_windroseref11_May [.t 2] := ⟨⟨Tryz.f50, _, Tryz.func50, by kernel_rfl, rfl, rfl, by kernel_rfl, by kernel_rfl⟩⟩
/-- windrose/windroseref12.Trim -/
def c_windroseref12_Trim : C :=
 (.seq (.reg false [⟨some 4, .mv (.k (.one (.c (.v (.slice none 0 0))))), none⟩])
 (.seq (.reg false [⟨some 7, .bsl 33 2 0 [.int .i64 0, .int .i64 0] [], none⟩, ⟨some 5, .mv (.t 7), none⟩])
 (.seq (.seq (.reg false [⟨some 6, .mv (ki 0), none⟩])
 (.block 0 (.loop (.seq (.seq (.reg false [⟨some 8, .mv (.t 6), none⟩, ⟨some 9, .mv (.t 0), none⟩, ⟨some 10, .len (.t 9), none⟩, ⟨some 11, .bin .lss (.t 8) (.t 10), none⟩])
 (.cond (.t 11)
 .skip
 (.exit 0)))
 (.seq (.block 1 (.seq (.reg false [⟨some 14, .mv (.t 0), none⟩, ⟨some 15, .mv (.t 6), none⟩, ⟨some 16, .ia 2 (.t 14) (.t 15), none⟩, ⟨some 17, .fa 0 (.t 16), none⟩, ⟨some 18, .ld false 1 (.t 17), none⟩, ⟨some 19, .mv (.t 1), none⟩, ⟨some 20, .bin .geq (.t 18) (.t 19), none⟩])
 (.cond (.t 20)
 (.reg false [⟨some 21, .mv (.t 5), none⟩, ⟨some 22, .mv (.t 0), none⟩, ⟨some 23, .mv (.t 6), none⟩, ⟨some 24, .ia 2 (.t 22) (.t 23), none⟩, ⟨some 25, .ld true 2 (.t 24), none⟩, ⟨some 26, .bsl 33 2 1 [.int .i64 0, .int .i64 0] [(0, (.t 25))], none⟩, ⟨some 27, .app 33 2 16 [.int .i64 0, .int .i64 0] (.t 21) (.t 26), none⟩, ⟨some 5, .mv (.t 27), none⟩])
 .skip)))
 (.reg false [⟨some 12, .mv (.t 6), none⟩, ⟨some 13, .bin .add (.t 12) (ki 1), none⟩, ⟨some 6, .mv (.t 13), none⟩]))))))
 (.seq (.reg false [⟨some 28, .mv (.t 5), none⟩, ⟨some 4, .mv (.t 28), none⟩])
 .ret))))
abbrev n_windroseref12_Trim : Nat := 51
theorem F_windroseref12_Trim : Fun Tryz.prog n_windroseref12_Trim 29 c_windroseref12_Trim [.t 4] := ⟨⟨Tryz.f51, _, Tryz.func51, by kernel_rfl, rfl, rfl, by kernel_rfl, by kernel_rfl⟩⟩
/-- windrose/shelf.in -/
def c_shelf_in : C :=
 (.seq (.reg false [⟨some 6, .mv (kb false), none⟩])
 (.seq (.reg false [⟨some 7, .mv (.t 0), none⟩, ⟨some 8, .mv (.t 1), none⟩, ⟨some 9, .bin .geq (.t 7) (.t 8), none⟩, ⟨some 10, .mv (.t 9), none⟩, ⟨some 11, .mv (.t 0), some (10, true)⟩, ⟨some 12, .mv (.t 2), some (10, true)⟩, ⟨some 13, .bin .leq (.t 11) (.t 12), some (10, true)⟩, ⟨some 14, .pick (.t 10) (.t 13) (kb false), none⟩, ⟨some 6, .mv (.t 14), none⟩])
 .ret))
abbrev n_shelf_in : Nat := 52
theorem F_shelf_in : Fun Tryz.prog n_shelf_in 15 c_shelf_in [.t 6] := ⟨⟨Tryz.f52, _, Tryz.func52, by kernel_rfl, rfl, rfl, by kernel_rfl, by kernel_rfl⟩⟩
/-- windrose/shelf.own -/
def c_shelf_own : C :=
 (.seq (.reg false [⟨some 1, .box 29 3 (.t 0), none⟩, ⟨some 2, .alloc 29 3 [.slice none 0 0, .slice none 0 0, .int .i64 0], none⟩])
 (.seq (.reg true [⟨some 5, .fa 0 (.t 1), none⟩, ⟨some 6, .ld false 1 (.t 5), none⟩, ⟨some 7, .call (kf 85) [(.t 6)], none⟩, ⟨some 8, .fa 1 (.t 1), none⟩, ⟨some 9, .ld false 1 (.t 8), none⟩, ⟨some 10, .call (kf 86) [(.t 9)], none⟩, ⟨some 11, .fa 0 (.t 1), none⟩, ⟨none, .st 1 (.t 11) (.t 7), none⟩, ⟨some 12, .fa 1 (.t 1), none⟩, ⟨none, .st 1 (.t 12) (.t 10), none⟩])
 (.seq (.seq (.reg false [⟨some 13, .fa 0 (.t 1), none⟩, ⟨some 14, .ld false 1 (.t 13), none⟩, ⟨some 15, .len (.t 14), none⟩, ⟨some 16, .mv (ki 0), none⟩])
 (.block 0 (.loop (.seq (.reg false [⟨some 17, .bin .lss (.t 16) (.t 15), none⟩])
 (.seq (.cond (.t 17)
 .skip
 (.exit 0))
 (.seq (.block 1 (.seq (.reg false [⟨some 18, .mv (.t 16), none⟩, ⟨some 19, .ia 2 (.t 14) (.t 16), none⟩, ⟨some 20, .ld true 2 (.t 19), none⟩, ⟨some 4, .alloc 49 2 [.string ⟨#[]⟩, .slice none 0 0], none⟩, ⟨some 3, .mv (.t 18), none⟩, ⟨none, .st 2 (.t 4) (.t 20), none⟩])
 (.reg true [⟨some 21, .fa 0 (.t 1), none⟩, ⟨some 22, .ld false 1 (.t 21), none⟩, ⟨some 23, .mv (.t 3), none⟩, ⟨some 24, .fa 1 (.t 4), none⟩, ⟨some 25, .ld false 1 (.t 24), none⟩, ⟨some 26, .call (kf 87) [(.t 25)], none⟩, ⟨some 27, .ia 2 (.t 22) (.t 23), none⟩, ⟨some 28, .fa 1 (.t 27), none⟩, ⟨none, .st 1 (.t 28) (.t 26), none⟩])))
 (.reg false [⟨some 29, .bin .add (.t 16) (ki 1), none⟩, ⟨some 16, .mv (.t 29), none⟩])))))))
 (.seq (.reg false [⟨some 30, .ld true 3 (.t 1), none⟩, ⟨none, .st 3 (.t 2) (.t 30), none⟩])
 .ret))))
abbrev n_shelf_own : Nat := 53
theorem F_shelf_own : Fun Tryz.prog n_shelf_own 31 c_shelf_own [.l true 3 2] := ⟨⟨Tryz.f53, _, Tryz.func53, by kernel_rfl, rfl, rfl, by kernel_rfl, by kernel_rfl⟩⟩
/-- windrose/shelf.do -/
def c_shelf_do : C :=
 (.seq (.reg false [⟨some 2, .box 29 3 (.t 0), none⟩, ⟨some 3, .box 35 7 (.t 1), none⟩, ⟨some 4, .alloc 29 3 [.slice none 0 0, .slice none 0 0, .int .i64 0], none⟩, ⟨some 5, .alloc 41 3 [.int .i64 0, .bool false, .int .i64 0], none⟩])
 (.seq (.seq (.reg false [⟨some 7, .ld true 7 (.t 3), none⟩, ⟨some 8, .call (kf 21) [(.t 7)], none⟩, ⟨some 6, .mv (.t 8), none⟩])
 (.seq (.reg false [⟨some 9, .mv (.t 6), none⟩, ⟨some 10, .bin .neq (.t 9) (ki 0), none⟩])
 (.cond (.t 10)
 (.seq (.reg false [⟨some 11, .ld true 3 (.t 2), none⟩, ⟨some 12, .mv (.t 6), none⟩, ⟨some 13, .bld [.int .i64 0, .bool false, .int .i64 0] [(0, 1, (.t 12))], none⟩, ⟨none, .st 3 (.t 4) (.t 11), none⟩, ⟨none, .st 3 (.t 5) (.t 13), none⟩])
 .ret)
 .skip)))
 (.seq (.seq (.reg false [⟨some 14, .fa 0 (.t 3), none⟩, ⟨some 15, .ld false 1 (.t 14), none⟩])
 (.block 0 (.seq (.reg false [⟨some 17, .bin .eql (.t 15) (ki 1), none⟩, ⟨some 16, .mv (.t 17), none⟩])
 (.cond (.t 16)
 (.seq (.reg false [⟨some 18, .ld true 3 (.t 2), none⟩, ⟨some 19, .ld true 7 (.t 3), none⟩, ⟨some 20, .call (kf 88) [(.t 18), (.t 19)], none⟩, ⟨some 21, .ex (.t 20) 0, none⟩, ⟨some 22, .ex (.t 20) 1, none⟩, ⟨none, .st 3 (.t 4) (.t 21), none⟩, ⟨none, .st 3 (.t 5) (.t 22), none⟩])
 .ret)
 (.seq (.reg false [⟨some 24, .bin .eql (.t 15) (ki 2), none⟩, ⟨some 23, .mv (.t 24), none⟩])
 (.cond (.t 23)
 (.seq (.reg false [⟨some 25, .ld true 3 (.t 2), none⟩, ⟨some 26, .fa 4 (.t 3), none⟩, ⟨some 27, .ld false 1 (.t 26), none⟩, ⟨some 28, .call (kf 89) [(.t 25), (.t 27)], none⟩, ⟨some 29, .ex (.t 28) 0, none⟩, ⟨some 30, .ex (.t 28) 1, none⟩, ⟨none, .st 3 (.t 4) (.t 29), none⟩, ⟨none, .st 3 (.t 5) (.t 30), none⟩])
 .ret)
 .skip))))))
 (.seq (.reg true [⟨some 31, .ld true 3 (.t 2), none⟩, ⟨some 32, .ld true 3 (.t 2), none⟩, ⟨some 33, .ld true 7 (.t 3), none⟩, ⟨some 34, .call (kf 90) [(.t 32), (.t 33)], none⟩, ⟨none, .st 3 (.t 4) (.t 31), none⟩, ⟨none, .st 3 (.t 5) (.t 34), none⟩])
 .ret))))
abbrev n_shelf_do : Nat := 54
theorem F_shelf_do : Fun Tryz.prog n_shelf_do 35 c_shelf_do [.l true 3 4, .l true 3 5] := ⟨⟨Tryz.f54, _, Tryz.func54, by kernel_rfl, rfl, rfl, by kernel_rfl, by kernel_rfl⟩⟩
/-- windrose/shelf.done -/
def c_shelf_done : C :=
 (.seq (.reg false [⟨some 2, .box 29 3 (.t 0), none⟩, ⟨some 3, .box 45 5 (.t 1), none⟩, ⟨some 4, .alloc 29 3 [.slice none 0 0, .slice none 0 0, .int .i64 0], none⟩])
 (.seq (.reg false [⟨some 11, .fa 1 (.t 2), none⟩, ⟨some 12, .ld false 1 (.t 11), none⟩, ⟨some 13, .fa 0 (.t 3), none⟩, ⟨some 14, .ld false 1 (.t 13), none⟩, ⟨some 15, .call (kf 91) [(.t 12), (.t 14), (kf 92)], none⟩, ⟨some 10, .mv (.t 15), none⟩, ⟨some 16, .ex (.t 10) 0, none⟩, ⟨some 17, .ex (.t 10) 1, none⟩, ⟨some 5, .mv (.t 16), none⟩, ⟨some 6, .mv (.t 17), none⟩])
 (.seq (.seq (.reg false [⟨some 18, .mv (.t 6), none⟩])
 (.cond (.t 18)
 (.seq (.reg false [⟨some 19, .fa 1 (.t 2), none⟩, ⟨some 20, .ld false 1 (.t 19), none⟩, ⟨some 21, .mv (.t 5), none⟩, ⟨some 22, .ld true 5 (.t 3), none⟩, ⟨some 23, .ia 5 (.t 20) (.t 21), none⟩, ⟨none, .st 5 (.t 23) (.t 22), none⟩])
 (.seq (.reg false [⟨some 24, .ld true 3 (.t 2), none⟩, ⟨none, .st 3 (.t 4) (.t 24), none⟩])
 .ret))
 .skip))
 (.seq (.reg false [⟨some 25, .fa 1 (.t 2), none⟩, ⟨some 26, .ld false 1 (.t 25), none⟩, ⟨some 27, .mv (.t 5), none⟩, ⟨some 28, .ld true 5 (.t 3), none⟩, ⟨some 29, .bsl 45 5 1 [.int .i64 0, .int .i64 0, .int .i64 0, .bool false, .int .i64 0] [(0, (.t 28))], none⟩, ⟨some 30, .call (kf 94) [(.t 26), (.t 27), (.t 29)], none⟩, ⟨some 31, .fa 1 (.t 2), none⟩, ⟨none, .st 1 (.t 31) (.t 30), none⟩])
 (.seq (.seq (.reg false [⟨some 32, .fa 1 (.t 2), none⟩, ⟨some 33, .ld false 1 (.t 32), none⟩, ⟨some 34, .len (.t 33), none⟩, ⟨some 35, .bin .gtr (.t 34) (ki 8), none⟩])
 (.cond (.t 35)
 (.seq (.reg false [⟨some 7, .mv (ki (-1)), none⟩])
 (.seq (.seq (.reg false [⟨some 36, .fa 1 (.t 2), none⟩, ⟨some 37, .ld false 1 (.t 36), none⟩, ⟨some 38, .len (.t 37), none⟩, ⟨some 39, .mv (ki 0), none⟩])
 (.block 0 (.loop (.seq (.reg false [⟨some 40, .bin .lss (.t 39) (.t 38), none⟩])
 (.seq (.cond (.t 40)
 .skip
 (.exit 0))
 (.seq (.block 1 (.seq (.reg false [⟨some 41, .mv (.t 39), none⟩, ⟨some 42, .ia 5 (.t 37) (.t 39), none⟩, ⟨some 43, .ld true 5 (.t 42), none⟩, ⟨some 9, .alloc 45 5 [.int .i64 0, .int .i64 0, .int .i64 0, .bool false, .int .i64 0], none⟩, ⟨some 8, .mv (.t 41), none⟩, ⟨none, .st 5 (.t 9) (.t 43), none⟩])
 (.seq (.reg true [⟨some 44, .fa 0 (.t 9), none⟩, ⟨some 45, .ld false 1 (.t 44), none⟩, ⟨some 46, .fa 0 (.t 3), none⟩, ⟨some 47, .ld false 1 (.t 46), none⟩, ⟨some 48, .bin .neq (.t 45) (.t 47), none⟩, ⟨some 49, .mv (.t 48), none⟩, ⟨some 50, .mv (.t 7), some (49, true)⟩, ⟨some 51, .bin .lss (.t 50) (ki 0), some (49, true)⟩, ⟨some 52, .mv (.t 51), some (49, true)⟩, ⟨some 53, .fa 1 (.t 9), some (52, false)⟩, ⟨some 54, .ld false 1 (.t 53), some (52, false)⟩, ⟨some 55, .fa 1 (.t 2), some (52, false)⟩, ⟨some 56, .ld false 1 (.t 55), some (52, false)⟩, ⟨some 57, .mv (.t 7), some (52, false)⟩, ⟨some 58, .ia 5 (.t 56) (.t 57), some (52, false)⟩, ⟨some 59, .fa 1 (.t 58), some (52, false)⟩, ⟨some 60, .ld false 1 (.t 59), some (52, false)⟩, ⟨some 61, .bin .lss (.t 54) (.t 60), some (52, false)⟩, ⟨some 62, .pick (.t 52) (kb true) (.t 61), some (49, true)⟩, ⟨some 63, .pick (.t 49) (.t 62) (kb false), none⟩])
 (.cond (.t 63)
 (.reg false [⟨some 64, .mv (.t 8), none⟩, ⟨some 7, .mv (.t 64), none⟩])
 .skip))))
 (.reg false [⟨some 65, .bin .add (.t 39) (ki 1), none⟩, ⟨some 39, .mv (.t 65), none⟩])))))))
 (.reg false [⟨some 66, .fa 1 (.t 2), none⟩, ⟨some 67, .ld false 1 (.t 66), none⟩, ⟨some 68, .mv (.t 7), none⟩, ⟨some 69, .mv (.t 7), none⟩, ⟨some 70, .bin .add (.t 69) (ki 1), none⟩, ⟨some 71, .call (kf 95) [(.t 67), (.t 68), (.t 70)], none⟩, ⟨some 72, .fa 1 (.t 2), none⟩, ⟨none, .st 1 (.t 72) (.t 71), none⟩])))
 .skip))
 (.seq (.reg false [⟨some 73, .ld true 3 (.t 2), none⟩, ⟨none, .st 3 (.t 4) (.t 73), none⟩])
 .ret))))))
abbrev n_shelf_done : Nat := 55
theorem F_shelf_done : Fun Tryz.prog n_shelf_done 74 c_shelf_done [.l true 3 4] := ⟨⟨Tryz.f55, _, Tryz.func55, by kernel_rfl, rfl, rfl, by kernel_rfl, by kernel_rfl⟩⟩
/-- windrose/shelf.series -/
def c_shelf_series : C :=
 (.seq (.reg false [⟨some 2, .mv (kb false), none⟩])
 (.seq (.reg false [⟨some 8, .mv (.t 0), none⟩, ⟨some 9, .call (kf 96) [(.t 8)], none⟩, ⟨some 7, .mv (.t 9), none⟩, ⟨some 10, .ex (.t 7) 0, none⟩, ⟨some 11, .ex (.t 7) 1, none⟩, ⟨some 3, .alloc 99 2 [.string ⟨#[]⟩, .slice none 0 0], none⟩, ⟨none, .st 2 (.t 3) (.t 10), none⟩, ⟨some 4, .mv (.t 11), none⟩])
 (.seq (.reg false [⟨some 13, .ld true 2 (.t 3), none⟩, ⟨some 14, .call (kf 97) [(.t 13)], none⟩, ⟨some 12, .mv (.t 14), none⟩, ⟨some 15, .ex (.t 12) 0, none⟩, ⟨some 16, .ex (.t 12) 1, none⟩, ⟨some 5, .mv (.t 15), none⟩, ⟨some 6, .mv (.t 16), none⟩])
 (.seq (.reg false [⟨some 17, .mv (.t 4), none⟩, ⟨some 18, .bin .eql (.t 17) (ki 0), none⟩, ⟨some 19, .mv (.t 18), none⟩, ⟨some 20, .mv (.t 5), some (19, true)⟩, ⟨some 21, .mv (.t 0), some (19, true)⟩, ⟨some 22, .bin .eql (.t 20) (.t 21), some (19, true)⟩, ⟨some 23, .pick (.t 19) (.t 22) (kb false), none⟩, ⟨some 2, .mv (.t 23), none⟩])
 .ret))))
abbrev n_shelf_series : Nat := 56
theorem F_shelf_series : Fun Tryz.prog n_shelf_series 24 c_shelf_series [.t 2] := ⟨⟨Tryz.f56, _, Tryz.func56, by kernel_rfl, rfl, rfl, by kernel_rfl, by kernel_rfl⟩⟩
/-- windrose/block.Check -/
def c_block_Check : C :=
 (.seq (.reg false [⟨some 2, .mv (ki 0), none⟩])
 (.seq (.seq (.reg false [⟨some 5, .mv (.t 0), none⟩, ⟨some 6, .len (.t 5), none⟩, ⟨some 7, .bin .gtr (.t 6) (ki 64), none⟩])
 (.cond (.t 7)
 (.seq (.reg false [⟨some 2, .mv (ki 1), none⟩])
 .ret)
 .skip))
 (.seq (.seq (.reg false [⟨some 8, .mv (.t 0), none⟩, ⟨some 9, .len (.t 8), none⟩, ⟨some 10, .mv (ki 0), none⟩])
 (.block 0 (.loop (.seq (.reg false [⟨some 11, .bin .lss (.t 10) (.t 9), none⟩])
 (.seq (.cond (.t 11)
 .skip
 (.exit 0))
 (.seq (.block 1 (.seq (.reg false [⟨some 12, .mv (.t 10), none⟩, ⟨some 13, .ia 2 (.t 8) (.t 10), none⟩, ⟨some 14, .ld true 2 (.t 13), none⟩, ⟨some 4, .alloc 33 2 [.int .i64 0, .int .i64 0], none⟩, ⟨some 3, .mv (.t 12), none⟩, ⟨none, .st 2 (.t 4) (.t 14), none⟩])
 (.seq (.reg true [⟨some 15, .fa 0 (.t 4), none⟩, ⟨some 16, .ld false 1 (.t 15), none⟩, ⟨some 17, .bin .lss (.t 16) (ki 0), none⟩, ⟨some 18, .mv (.t 17), none⟩, ⟨some 19, .fa 0 (.t 4), some (18, false)⟩, ⟨some 20, .ld false 1 (.t 19), some (18, false)⟩, ⟨some 21, .bin .gtr (.t 20) (ki 1099511627776), some (18, false)⟩, ⟨some 22, .pick (.t 18) (kb true) (.t 21), none⟩, ⟨some 23, .mv (.t 22), none⟩, ⟨some 24, .fa 1 (.t 4), some (23, false)⟩, ⟨some 25, .ld false 1 (.t 24), some (23, false)⟩, ⟨some 26, .bin .lss (.t 25) (ki (-1099511627776)), some (23, false)⟩, ⟨some 27, .pick (.t 23) (kb true) (.t 26), none⟩, ⟨some 28, .mv (.t 27), none⟩, ⟨some 29, .fa 1 (.t 4), some (28, false)⟩, ⟨some 30, .ld false 1 (.t 29), some (28, false)⟩, ⟨some 31, .bin .gtr (.t 30) (ki 1099511627776), some (28, false)⟩, ⟨some 32, .pick (.t 28) (kb true) (.t 31), none⟩, ⟨some 33, .mv (.t 32), none⟩, ⟨some 34, .mv (.t 3), some (33, false)⟩, ⟨some 35, .bin .gtr (.t 34) (ki 0), some (33, false)⟩, ⟨some 36, .mv (.t 35), some (33, false)⟩, ⟨some 37, .fa 0 (.t 4), some (36, true)⟩, ⟨some 38, .ld false 1 (.t 37), some (36, true)⟩, ⟨some 39, .mv (.t 0), some (36, true)⟩, ⟨some 40, .mv (.t 3), some (36, true)⟩, ⟨some 41, .bin .sub (.t 40) (ki 1), some (36, true)⟩, ⟨some 42, .ia 2 (.t 39) (.t 41), some (36, true)⟩, ⟨some 43, .fa 0 (.t 42), some (36, true)⟩, ⟨some 44, .ld false 1 (.t 43), some (36, true)⟩, ⟨some 45, .bin .leq (.t 38) (.t 44), some (36, true)⟩, ⟨some 46, .pick (.t 36) (.t 45) (kb false), some (33, false)⟩, ⟨some 47, .pick (.t 33) (kb true) (.t 46), none⟩])
 (.cond (.t 47)
 (.seq (.reg false [⟨some 2, .mv (ki 1), none⟩])
 .ret)
 .skip))))
 (.reg false [⟨some 48, .bin .add (.t 10) (ki 1), none⟩, ⟨some 10, .mv (.t 48), none⟩])))))))
 (.seq (.reg false [⟨some 2, .mv (ki 0), none⟩])
 .ret))))
abbrev n_block_Check : Nat := 57
theorem F_block_Check : Fun Tryz.prog n_block_Check 49 c_block_Check [.t 2] := ⟨⟨Tryz.f57, _, Tryz.func57, by kernel_rfl, rfl, rfl, by kernel_rfl, by kernel_rfl⟩⟩
/-- windrose/windroseref14.note -/
def c_windroseref14_note : C :=
 (.seq (.reg false [⟨some 3, .box 45 5 (.t 1), none⟩, ⟨some 4, .mv (.k (.one (.c (.v (.slice none 0 0))))), none⟩])
 (.seq (.reg false [⟨some 11, .bsl 45 5 0 [.int .i64 0, .int .i64 0, .int .i64 0, .bool false, .int .i64 0] [], none⟩, ⟨some 5, .mv (.t 11), none⟩])
 (.seq (.reg false [⟨some 6, .mv (kb false), none⟩])
 (.seq (.reg false [⟨some 7, .mv (ki (-1)), none⟩])
 (.seq (.reg false [⟨some 8, .mv (kb false), none⟩])
 (.seq (.seq (.reg false [⟨some 9, .mv (ki 0), none⟩])
 (.block 0 (.loop (.seq (.seq (.reg false [⟨some 12, .mv (.t 9), none⟩, ⟨some 13, .mv (.t 0), none⟩, ⟨some 14, .len (.t 13), none⟩, ⟨some 15, .bin .lss (.t 12) (.t 14), none⟩])
 (.cond (.t 15)
 .skip
 (.exit 0)))
 (.seq (.block 1 (.seq (.reg true [⟨some 18, .mv (.t 8), none⟩, ⟨some 19, .mv (.t 18), none⟩, ⟨some 20, .mv (.t 0), some (19, false)⟩, ⟨some 21, .mv (.t 9), some (19, false)⟩, ⟨some 22, .ia 5 (.t 20) (.t 21), some (19, false)⟩, ⟨some 23, .fa 0 (.t 22), some (19, false)⟩, ⟨some 24, .ld false 1 (.t 23), some (19, false)⟩, ⟨some 25, .fa 0 (.t 3), some (19, false)⟩, ⟨some 26, .ld false 1 (.t 25), some (19, false)⟩, ⟨some 27, .bin .eql (.t 24) (.t 26), some (19, false)⟩, ⟨some 28, .pick (.t 19) (kb true) (.t 27), none⟩, ⟨some 8, .mv (.t 28), none⟩])
 (.seq (.reg true [⟨some 29, .mv (.t 7), none⟩, ⟨some 30, .bin .lss (.t 29) (ki 0), none⟩, ⟨some 31, .mv (.t 30), none⟩, ⟨some 32, .mv (.t 0), some (31, false)⟩, ⟨some 33, .mv (.t 9), some (31, false)⟩, ⟨some 34, .ia 5 (.t 32) (.t 33), some (31, false)⟩, ⟨some 35, .fa 1 (.t 34), some (31, false)⟩, ⟨some 36, .ld false 1 (.t 35), some (31, false)⟩, ⟨some 37, .mv (.t 0), some (31, false)⟩, ⟨some 38, .mv (.t 7), some (31, false)⟩, ⟨some 39, .ia 5 (.t 37) (.t 38), some (31, false)⟩, ⟨some 40, .fa 1 (.t 39), some (31, false)⟩, ⟨some 41, .ld false 1 (.t 40), some (31, false)⟩, ⟨some 42, .bin .lss (.t 36) (.t 41), some (31, false)⟩, ⟨some 43, .pick (.t 31) (kb true) (.t 42), none⟩])
 (.cond (.t 43)
 (.reg false [⟨some 44, .mv (.t 9), none⟩, ⟨some 7, .mv (.t 44), none⟩])
 .skip))))
 (.reg false [⟨some 16, .mv (.t 9), none⟩, ⟨some 17, .bin .add (.t 16) (ki 1), none⟩, ⟨some 9, .mv (.t 17), none⟩]))))))
 (.seq (.seq (.reg false [⟨some 10, .mv (ki 0), none⟩])
 (.block 2 (.loop (.seq (.seq (.reg false [⟨some 45, .mv (.t 10), none⟩, ⟨some 46, .mv (.t 0), none⟩, ⟨some 47, .len (.t 46), none⟩, ⟨some 48, .bin .lss (.t 45) (.t 47), none⟩])
 (.cond (.t 48)
 .skip
 (.exit 2)))
 (.seq (.block 3 (.seq (.seq (.reg true [⟨some 51, .mv (.t 6), none⟩, ⟨some 52, .un .not (.t 51), none⟩, ⟨some 53, .mv (.t 52), none⟩, ⟨some 54, .mv (.t 0), some (53, true)⟩, ⟨some 55, .mv (.t 10), some (53, true)⟩, ⟨some 56, .ia 5 (.t 54) (.t 55), some (53, true)⟩, ⟨some 57, .fa 0 (.t 56), some (53, true)⟩, ⟨some 58, .ld false 1 (.t 57), some (53, true)⟩, ⟨some 59, .fa 0 (.t 3), some (53, true)⟩, ⟨some 60, .ld false 1 (.t 59), some (53, true)⟩, ⟨some 61, .bin .geq (.t 58) (.t 60), some (53, true)⟩, ⟨some 62, .pick (.t 53) (.t 61) (kb false), none⟩])
 (.cond (.t 62)
 (.seq (.reg false [⟨some 63, .mv (.t 5), none⟩, ⟨some 64, .ld true 5 (.t 3), none⟩, ⟨some 65, .bsl 45 5 1 [.int .i64 0, .int .i64 0, .int .i64 0, .bool false, .int .i64 0] [(0, (.t 64))], none⟩, ⟨some 66, .app 45 5 40 [.int .i64 0, .int .i64 0, .int .i64 0, .bool false, .int .i64 0] (.t 63) (.t 65), none⟩, ⟨some 5, .mv (.t 66), none⟩])
 (.reg false [⟨some 6, .mv (kb true), none⟩]))
 .skip))
 (.seq (.reg true [⟨some 67, .mv (.t 0), none⟩, ⟨some 68, .mv (.t 10), none⟩, ⟨some 69, .ia 5 (.t 67) (.t 68), none⟩, ⟨some 70, .fa 0 (.t 69), none⟩, ⟨some 71, .ld false 1 (.t 70), none⟩, ⟨some 72, .fa 0 (.t 3), none⟩, ⟨some 73, .ld false 1 (.t 72), none⟩, ⟨some 74, .bin .neq (.t 71) (.t 73), none⟩, ⟨some 75, .mv (.t 74), none⟩, ⟨some 76, .mv (.t 8), some (75, true)⟩, ⟨some 77, .mv (.t 76), some (75, true)⟩, ⟨some 78, .mv (.t 0), some (77, false)⟩, ⟨some 79, .len (.t 78), some (77, false)⟩, ⟨some 80, .bin .lss (.t 79) (ki 8), some (77, false)⟩, ⟨some 81, .pick (.t 77) (kb true) (.t 80), some (75, true)⟩, ⟨some 82, .mv (.t 81), some (75, true)⟩, ⟨some 83, .mv (.t 10), some (82, false)⟩, ⟨some 84, .mv (.t 7), some (82, false)⟩, ⟨some 85, .bin .neq (.t 83) (.t 84), some (82, false)⟩, ⟨some 86, .pick (.t 82) (kb true) (.t 85), some (75, true)⟩, ⟨some 87, .pick (.t 75) (.t 86) (kb false), none⟩])
 (.cond (.t 87)
 (.reg false [⟨some 88, .mv (.t 5), none⟩, ⟨some 89, .mv (.t 0), none⟩, ⟨some 90, .mv (.t 10), none⟩, ⟨some 91, .ia 5 (.t 89) (.t 90), none⟩, ⟨some 92, .ld true 5 (.t 91), none⟩, ⟨some 93, .bsl 45 5 1 [.int .i64 0, .int .i64 0, .int .i64 0, .bool false, .int .i64 0] [(0, (.t 92))], none⟩, ⟨some 94, .app 45 5 40 [.int .i64 0, .int .i64 0, .int .i64 0, .bool false, .int .i64 0] (.t 88) (.t 93), none⟩, ⟨some 5, .mv (.t 94), none⟩])
 .skip))))
 (.reg false [⟨some 49, .mv (.t 10), none⟩, ⟨some 50, .bin .add (.t 49) (ki 1), none⟩, ⟨some 10, .mv (.t 50), none⟩]))))))
 (.seq (.seq (.reg false [⟨some 95, .mv (.t 6), none⟩, ⟨some 96, .un .not (.t 95), none⟩])
 (.cond (.t 96)
 (.reg false [⟨some 97, .mv (.t 5), none⟩, ⟨some 98, .ld true 5 (.t 3), none⟩, ⟨some 99, .bsl 45 5 1 [.int .i64 0, .int .i64 0, .int .i64 0, .bool false, .int .i64 0] [(0, (.t 98))], none⟩, ⟨some 100, .app 45 5 40 [.int .i64 0, .int .i64 0, .int .i64 0, .bool false, .int .i64 0] (.t 97) (.t 99), none⟩, ⟨some 5, .mv (.t 100), none⟩])
 .skip))
 (.seq (.reg false [⟨some 101, .mv (.t 5), none⟩, ⟨some 4, .mv (.t 101), none⟩])
 .ret)))))))))
abbrev n_windroseref14_note : Nat := 58
theorem F_windroseref14_note : Fun Tryz.prog n_windroseref14_note 102 c_windroseref14_note [.t 4] := ⟨⟨Tryz.f58, _, Tryz.func58, by kernel_rfl, rfl, rfl, by kernel_rfl, by kernel_rfl⟩⟩
/-- windrose/windroseref14.op -/
def c_windroseref14_op : C :=
 (.seq (.reg false [⟨some 2, .box 29 3 (.t 0), none⟩, ⟨some 3, .box 35 7 (.t 1), none⟩, ⟨some 4, .alloc 29 3 [.slice none 0 0, .slice none 0 0, .int .i64 0], none⟩, ⟨some 5, .alloc 41 3 [.int .i64 0, .bool false, .int .i64 0], none⟩])
 (.seq (.reg false [⟨some 15, .ld true 3 (.t 2), none⟩, ⟨some 16, .fa 1 (.t 3), none⟩, ⟨some 17, .ld false 1 (.t 16), none⟩, ⟨some 18, .call (kf 18) [(.t 15), (.t 17)], none⟩, ⟨some 6, .mv (.t 18), none⟩])
 (.seq (.seq (.reg false [⟨some 19, .fa 0 (.t 3), none⟩, ⟨some 20, .ld false 1 (.t 19), none⟩])
 (.block 0 (.seq (.reg false [⟨some 22, .bin .eql (.t 20) (ki 1), none⟩, ⟨some 21, .mv (.t 22), none⟩])
 (.cond (.t 21)
 (.seq (.seq (.reg false [⟨some 23, .fa 2 (.t 3), none⟩, ⟨some 24, .fa 0 (.t 23), none⟩, ⟨some 25, .ld false 1 (.t 24), none⟩, ⟨some 26, .fa 2 (.t 2), none⟩, ⟨some 27, .ld false 1 (.t 26), none⟩, ⟨some 28, .bin .lss (.t 25) (.t 27), none⟩])
 (.cond (.t 28)
 (.seq (.reg false [⟨some 29, .ld true 3 (.t 2), none⟩, ⟨some 30, .bld [.int .i64 0, .bool false, .int .i64 0] [(0, 1, (ki 9))], none⟩, ⟨none, .st 3 (.t 4) (.t 29), none⟩, ⟨none, .st 3 (.t 5) (.t 30), none⟩])
 .ret)
 .skip))
 (.seq (.seq (.reg false [⟨some 31, .mv (.t 6), none⟩, ⟨some 32, .len (.t 31), none⟩, ⟨some 33, .bin .eql (.t 32) (ki 0), none⟩, ⟨some 34, .mv (.t 33), none⟩, ⟨some 35, .fa 0 (.t 2), some (34, true)⟩, ⟨some 36, .ld false 1 (.t 35), some (34, true)⟩, ⟨some 37, .len (.t 36), some (34, true)⟩, ⟨some 38, .bin .eql (.t 37) (ki 16), some (34, true)⟩, ⟨some 39, .pick (.t 34) (.t 38) (kb false), none⟩])
 (.cond (.t 39)
 (.seq (.reg false [⟨some 40, .ld true 3 (.t 2), none⟩, ⟨some 41, .bld [.int .i64 0, .bool false, .int .i64 0] [(0, 1, (ki 6))], none⟩, ⟨none, .st 3 (.t 4) (.t 40), none⟩, ⟨none, .st 3 (.t 5) (.t 41), none⟩])
 .ret)
 .skip))
 (.seq (.reg false [⟨some 43, .mv (.t 6), none⟩, ⟨some 44, .fa 2 (.t 3), none⟩, ⟨some 45, .ld true 2 (.t 44), none⟩, ⟨some 46, .call (kf 98) [(.t 43), (.t 45)], none⟩, ⟨some 42, .mv (.t 46), none⟩, ⟨some 47, .ex (.t 42) 0, none⟩, ⟨some 48, .ex (.t 42) 1, none⟩, ⟨some 7, .mv (.t 47), none⟩, ⟨some 8, .mv (.t 48), none⟩])
 (.seq (.seq (.reg false [⟨some 49, .mv (.t 8), none⟩, ⟨some 50, .bin .eql (.t 49) (ki 7), none⟩])
 (.cond (.t 50)
 (.seq (.reg false [⟨some 51, .ld true 3 (.t 2), none⟩, ⟨some 52, .bld [.int .i64 0, .bool false, .int .i64 0] [], none⟩, ⟨none, .st 3 (.t 4) (.t 51), none⟩, ⟨none, .st 3 (.t 5) (.t 52), none⟩])
 .ret)
 .skip))
 (.seq (.seq (.reg false [⟨some 53, .mv (.t 8), none⟩, ⟨some 54, .bin .neq (.t 53) (ki 0), none⟩])
 (.cond (.t 54)
 (.seq (.reg false [⟨some 55, .ld true 3 (.t 2), none⟩, ⟨some 56, .mv (.t 8), none⟩, ⟨some 57, .bld [.int .i64 0, .bool false, .int .i64 0] [(0, 1, (.t 56))], none⟩, ⟨none, .st 3 (.t 4) (.t 55), none⟩, ⟨none, .st 3 (.t 5) (.t 57), none⟩])
 .ret)
 .skip))
 (.seq (.reg false [⟨some 58, .fa 0 (.t 2), none⟩, ⟨some 59, .ld false 1 (.t 58), none⟩, ⟨some 60, .fa 1 (.t 3), none⟩, ⟨some 61, .ld false 1 (.t 60), none⟩, ⟨some 62, .mv (.t 7), none⟩, ⟨some 63, .call (kf 99) [(.t 59), (.t 61), (.t 62)], none⟩, ⟨some 64, .fa 0 (.t 2), none⟩, ⟨none, .st 1 (.t 64) (.t 63), none⟩])
 (.seq (.reg false [⟨some 65, .ld true 3 (.t 2), none⟩, ⟨some 66, .bld [.int .i64 0, .bool false, .int .i64 0] [(1, 1, (kb true))], none⟩, ⟨none, .st 3 (.t 4) (.t 65), none⟩, ⟨none, .st 3 (.t 5) (.t 66), none⟩])
 .ret)))))))
 (.seq (.reg false [⟨some 68, .bin .eql (.t 20) (ki 2), none⟩, ⟨some 67, .mv (.t 68), none⟩])
 (.cond (.t 67)
 (.seq (.seq (.reg false [⟨some 69, .fa 4 (.t 3), none⟩, ⟨some 70, .ld false 1 (.t 69), none⟩, ⟨some 71, .fa 2 (.t 2), none⟩, ⟨some 72, .ld false 1 (.t 71), none⟩, ⟨some 73, .bin .lss (.t 70) (.t 72), none⟩])
 (.cond (.t 73)
 (.seq (.reg false [⟨some 74, .ld true 3 (.t 2), none⟩, ⟨some 75, .bld [.int .i64 0, .bool false, .int .i64 0] [(0, 1, (ki 9))], none⟩, ⟨none, .st 3 (.t 4) (.t 74), none⟩, ⟨none, .st 3 (.t 5) (.t 75), none⟩])
 .ret)
 .skip))
 (.seq (.reg false [⟨some 76, .fa 0 (.t 2), none⟩, ⟨some 77, .ld false 1 (.t 76), none⟩, ⟨some 9, .mv (.t 77), none⟩])
 (.seq (.seq (.reg false [⟨some 10, .mv (ki 0), none⟩])
 (.block 1 (.loop (.seq (.seq (.reg false [⟨some 78, .mv (.t 10), none⟩, ⟨some 79, .fa 0 (.t 2), none⟩, ⟨some 80, .ld false 1 (.t 79), none⟩, ⟨some 81, .len (.t 80), none⟩, ⟨some 82, .bin .lss (.t 78) (.t 81), none⟩])
 (.cond (.t 82)
 .skip
 (.exit 1)))
 (.seq (.block 2 (.reg true [⟨some 85, .mv (.t 9), none⟩, ⟨some 86, .fa 0 (.t 2), none⟩, ⟨some 87, .ld false 1 (.t 86), none⟩, ⟨some 88, .mv (.t 10), none⟩, ⟨some 89, .ia 2 (.t 87) (.t 88), none⟩, ⟨some 90, .fa 0 (.t 89), none⟩, ⟨some 91, .ld false 1 (.t 90), none⟩, ⟨some 92, .fa 0 (.t 2), none⟩, ⟨some 93, .ld false 1 (.t 92), none⟩, ⟨some 94, .mv (.t 10), none⟩, ⟨some 95, .ia 2 (.t 93) (.t 94), none⟩, ⟨some 96, .fa 1 (.t 95), none⟩, ⟨some 97, .ld false 1 (.t 96), none⟩, ⟨some 98, .fa 4 (.t 3), none⟩, ⟨some 99, .ld false 1 (.t 98), none⟩, ⟨some 100, .call (kf 51) [(.t 97), (.t 99)], none⟩, ⟨some 101, .call (kf 99) [(.t 85), (.t 91), (.t 100)], none⟩, ⟨some 9, .mv (.t 101), none⟩]))
 (.reg false [⟨some 83, .mv (.t 10), none⟩, ⟨some 84, .bin .add (.t 83) (ki 1), none⟩, ⟨some 10, .mv (.t 84), none⟩]))))))
 (.seq (.reg false [⟨some 102, .mv (.t 9), none⟩, ⟨some 103, .fa 1 (.t 2), none⟩, ⟨some 104, .ld false 1 (.t 103), none⟩, ⟨some 105, .fa 4 (.t 3), none⟩, ⟨some 106, .ld false 1 (.t 105), none⟩, ⟨some 107, .bld [.slice none 0 0, .slice none 0 0, .int .i64 0] [(0, 1, (.t 102)), (1, 1, (.t 104)), (2, 1, (.t 106))], none⟩, ⟨some 108, .bld [.int .i64 0, .bool false, .int .i64 0] [], none⟩, ⟨none, .st 3 (.t 4) (.t 107), none⟩, ⟨none, .st 3 (.t 5) (.t 108), none⟩])
 .ret))))
 (.seq (.reg false [⟨some 110, .bin .eql (.t 20) (ki 4), none⟩, ⟨some 109, .mv (.t 110), none⟩])
 (.cond (.t 109)
 (.seq (.reg false [⟨some 112, .mv (.t 6), none⟩, ⟨some 113, .fa 4 (.t 3), none⟩, ⟨some 114, .ld false 1 (.t 113), none⟩, ⟨some 115, .call (kf 100) [(.t 112), (.t 114)], none⟩, ⟨some 111, .mv (.t 115), none⟩, ⟨some 116, .ex (.t 111) 0, none⟩, ⟨some 117, .ex (.t 111) 1, none⟩, ⟨some 11, .alloc 33 2 [.int .i64 0, .int .i64 0], none⟩, ⟨none, .st 2 (.t 11) (.t 116), none⟩, ⟨some 12, .mv (.t 117), none⟩])
 (.seq (.rgx [[], [], [], [2], [1, 3, 2], [0], [4, 1, 3, 2, 5, 0]] [⟨some 118, .ld true 3 (.t 2), none⟩, ⟨some 119, .mv (.t 12), none⟩, ⟨some 120, .fa 1 (.t 11), none⟩, ⟨some 121, .ld false 1 (.t 120), none⟩, ⟨some 122, .bld [.int .i64 0, .bool false, .int .i64 0] [(1, 1, (.t 119)), (2, 1, (.t 121))], none⟩, ⟨none, .st 3 (.t 4) (.t 118), none⟩, ⟨none, .st 3 (.t 5) (.t 122), none⟩])
 .ret))
 .skip))))))))
 (.seq (.reg true [⟨some 124, .fa 6 (.t 3), none⟩, ⟨some 125, .ld false 1 (.t 124), none⟩, ⟨some 126, .mv (.t 6), none⟩, ⟨some 127, .fa 4 (.t 3), none⟩, ⟨some 128, .ld false 1 (.t 127), none⟩, ⟨some 129, .fa 5 (.t 3), none⟩, ⟨some 130, .ld false 1 (.t 129), none⟩, ⟨some 131, .call (kf 102) [(.t 126), (.t 128), (.t 130)], none⟩, ⟨some 132, .call (kf 101) [(.t 125), (.t 131)], none⟩, ⟨some 123, .mv (.t 132), none⟩, ⟨some 133, .ex (.t 123) 0, none⟩, ⟨some 134, .ex (.t 123) 1, none⟩, ⟨some 13, .mv (.t 133), none⟩, ⟨some 14, .mv (.t 134), none⟩])
 (.seq (.reg false [⟨some 135, .ld true 3 (.t 2), none⟩, ⟨some 136, .mv (.t 14), none⟩, ⟨some 137, .mv (.t 13), none⟩, ⟨some 138, .bld [.int .i64 0, .bool false, .int .i64 0] [(1, 1, (.t 136)), (2, 1, (.t 137))], none⟩, ⟨none, .st 3 (.t 4) (.t 135), none⟩, ⟨none, .st 3 (.t 5) (.t 138), none⟩])
 .ret)))))
abbrev n_windroseref14_op : Nat := 59
theorem F_windroseref14_op : Fun Tryz.prog n_windroseref14_op 139 c_windroseref14_op [.l true 3 4, .l true 3 5] := ⟨⟨Tryz.f59, _, Tryz.func59, by kernel_rfl, rfl, rfl, by kernel_rfl, by kernel_rfl⟩⟩
/-- windrose/shelf.Same$1 -/
def c_shelf_Same_1 : C :=
 (.seq (.reg false [⟨some 2, .box 49 2 (.t 0), none⟩, ⟨some 3, .box 49 2 (.t 1), none⟩, ⟨some 4, .mv (kb false), none⟩])
 (.seq (.reg false [⟨some 5, .fa 0 (.t 2), none⟩, ⟨some 6, .ld false 1 (.t 5), none⟩, ⟨some 7, .fa 0 (.t 3), none⟩, ⟨some 8, .ld false 1 (.t 7), none⟩, ⟨some 9, .bin .eql (.t 6) (.t 8), none⟩, ⟨some 10, .mv (.t 9), none⟩, ⟨some 11, .fa 1 (.t 2), some (10, true)⟩, ⟨some 12, .ld false 1 (.t 11), some (10, true)⟩, ⟨some 13, .fa 1 (.t 3), some (10, true)⟩, ⟨some 14, .ld false 1 (.t 13), some (10, true)⟩, ⟨some 15, .call (kf 61) [(.t 12), (.t 14)], some (10, true)⟩, ⟨some 16, .pick (.t 10) (.t 15) (kb false), none⟩, ⟨some 4, .mv (.t 16), none⟩])
 .ret))
abbrev n_shelf_Same_1 : Nat := 60
theorem F_shelf_Same_1 : Fun Tryz.prog n_shelf_Same_1 17 c_shelf_Same_1 [.t 4] := ⟨⟨Tryz.f60, _, Tryz.func60, by kernel_rfl, rfl, rfl, by kernel_rfl, by kernel_rfl⟩⟩
/-- slices.Equal[[]windrose/api.Sample,windrose/api.Sample] -/
def c_slices_Equal_api_Sample_api_Sample : C :=
 (.seq (.reg false [⟨some 4, .mv (kb false), none⟩])
 (.seq (.seq (.reg false [⟨some 6, .mv (.t 0), none⟩, ⟨some 7, .len (.t 6), none⟩, ⟨some 8, .mv (.t 1), none⟩, ⟨some 9, .len (.t 8), none⟩, ⟨some 10, .bin .neq (.t 7) (.t 9), none⟩])
 (.cond (.t 10)
 (.seq (.reg false [⟨some 4, .mv (kb false), none⟩])
 .ret)
 .skip))
 (.seq (.seq (.reg false [⟨some 11, .mv (.t 0), none⟩, ⟨some 12, .len (.t 11), none⟩, ⟨some 13, .mv (ki 0), none⟩])
 (.block 0 (.loop (.seq (.reg false [⟨some 14, .bin .lss (.t 13) (.t 12), none⟩])
 (.seq (.cond (.t 14)
 .skip
 (.exit 0))
 (.seq (.block 1 (.seq (.reg false [⟨some 15, .mv (.t 13), none⟩, ⟨some 5, .mv (.t 15), none⟩])
 (.seq (.reg true [⟨some 16, .mv (.t 0), none⟩, ⟨some 17, .mv (.t 5), none⟩, ⟨some 18, .ia 2 (.t 16) (.t 17), none⟩, ⟨some 19, .ld true 2 (.t 18), none⟩, ⟨some 20, .mv (.t 1), none⟩, ⟨some 21, .mv (.t 5), none⟩, ⟨some 22, .ia 2 (.t 20) (.t 21), none⟩, ⟨some 23, .ld true 2 (.t 22), none⟩, ⟨some 24, .eqa [1, 1] true (.t 19) (.t 23), none⟩])
 (.cond (.t 24)
 (.seq (.reg false [⟨some 4, .mv (kb false), none⟩])
 .ret)
 .skip))))
 (.reg false [⟨some 25, .bin .add (.t 13) (ki 1), none⟩, ⟨some 13, .mv (.t 25), none⟩])))))))
 (.seq (.reg false [⟨some 4, .mv (kb true), none⟩])
 .ret))))
abbrev n_slices_Equal_api_Sample_api_Sample : Nat := 61
theorem F_slices_Equal_api_Sample_api_Sample : Fun Tryz.prog n_slices_Equal_api_Sample_api_Sample 26 c_slices_Equal_api_Sample_api_Sample [.t 4] := ⟨⟨Tryz.f61, _, Tryz.func61, by kernel_rfl, rfl, rfl, by kernel_rfl, by kernel_rfl⟩⟩
/-- slices.EqualFunc[[]windrose/api.Line,[]windrose/api.Line,windrose/api.Line,windrose/api.Line] -/
def c_slices_EqualFunc_api_Line_api_Line_api_Line_api_Line : C :=
 (.seq (.reg false [⟨some 6, .mv (kb false), none⟩])
 (.seq (.seq (.reg false [⟨some 10, .mv (.t 0), none⟩, ⟨some 11, .len (.t 10), none⟩, ⟨some 12, .mv (.t 1), none⟩, ⟨some 13, .len (.t 12), none⟩, ⟨some 14, .bin .neq (.t 11) (.t 13), none⟩])
 (.cond (.t 14)
 (.seq (.reg false [⟨some 6, .mv (kb false), none⟩])
 .ret)
 .skip))
 (.seq (.seq (.reg false [⟨some 15, .mv (.t 0), none⟩, ⟨some 16, .len (.t 15), none⟩, ⟨some 17, .mv (ki 0), none⟩])
 (.block 0 (.loop (.seq (.reg false [⟨some 18, .bin .lss (.t 17) (.t 16), none⟩])
 (.seq (.cond (.t 18)
 .skip
 (.exit 0))
 (.seq (.block 1 (.seq (.reg false [⟨some 19, .mv (.t 17), none⟩, ⟨some 20, .ia 2 (.t 15) (.t 17), none⟩, ⟨some 21, .ld true 2 (.t 20), none⟩, ⟨some 8, .alloc 49 2 [.string ⟨#[]⟩, .slice none 0 0], none⟩, ⟨some 7, .mv (.t 19), none⟩, ⟨none, .st 2 (.t 8) (.t 21), none⟩])
 (.seq (.reg false [⟨some 22, .mv (.t 1), none⟩, ⟨some 23, .mv (.t 7), none⟩, ⟨some 24, .ia 2 (.t 22) (.t 23), none⟩, ⟨some 25, .ld true 2 (.t 24), none⟩, ⟨some 9, .alloc 49 2 [.string ⟨#[]⟩, .slice none 0 0], none⟩, ⟨none, .st 2 (.t 9) (.t 25), none⟩])
 (.seq (.reg false [⟨some 26, .mv (.t 2), none⟩, ⟨some 27, .ld true 2 (.t 8), none⟩, ⟨some 28, .ld true 2 (.t 9), none⟩, ⟨some 29, .call (.t 26) [(.t 27), (.t 28)], none⟩, ⟨some 30, .un .not (.t 29), none⟩])
 (.cond (.t 30)
 (.seq (.reg false [⟨some 6, .mv (kb false), none⟩])
 .ret)
 .skip)))))
 (.reg false [⟨some 31, .bin .add (.t 17) (ki 1), none⟩, ⟨some 17, .mv (.t 31), none⟩])))))))
 (.seq (.reg false [⟨some 6, .mv (kb true), none⟩])
 .ret))))
abbrev n_slices_EqualFunc_api_Line_api_Line_api_Line_api_Line : Nat := 62
theorem F_slices_EqualFunc_api_Line_api_Line_api_Line_api_Line : Fun Tryz.prog n_slices_EqualFunc_api_Line_api_Line_api_Line_api_Line 32 c_slices_EqualFunc_api_Line_api_Line_api_Line_api_Line [.t 6] := ⟨⟨Tryz.f62, _, Tryz.func62, by kernel_rfl, rfl, rfl, by kernel_rfl, by kernel_rfl⟩⟩
/-- slices.Equal[[]windrose/api.Done,windrose/api.Done] -/
def c_slices_Equal_api_Done_api_Done : C :=
 (.seq (.reg false [⟨some 4, .mv (kb false), none⟩])
 (.seq (.seq (.reg false [⟨some 6, .mv (.t 0), none⟩, ⟨some 7, .len (.t 6), none⟩, ⟨some 8, .mv (.t 1), none⟩, ⟨some 9, .len (.t 8), none⟩, ⟨some 10, .bin .neq (.t 7) (.t 9), none⟩])
 (.cond (.t 10)
 (.seq (.reg false [⟨some 4, .mv (kb false), none⟩])
 .ret)
 .skip))
 (.seq (.seq (.reg false [⟨some 11, .mv (.t 0), none⟩, ⟨some 12, .len (.t 11), none⟩, ⟨some 13, .mv (ki 0), none⟩])
 (.block 0 (.loop (.seq (.reg false [⟨some 14, .bin .lss (.t 13) (.t 12), none⟩])
 (.seq (.cond (.t 14)
 .skip
 (.exit 0))
 (.seq (.block 1 (.seq (.reg false [⟨some 15, .mv (.t 13), none⟩, ⟨some 5, .mv (.t 15), none⟩])
 (.seq (.reg true [⟨some 16, .mv (.t 0), none⟩, ⟨some 17, .mv (.t 5), none⟩, ⟨some 18, .ia 5 (.t 16) (.t 17), none⟩, ⟨some 19, .ld true 5 (.t 18), none⟩, ⟨some 20, .mv (.t 1), none⟩, ⟨some 21, .mv (.t 5), none⟩, ⟨some 22, .ia 5 (.t 20) (.t 21), none⟩, ⟨some 23, .ld true 5 (.t 22), none⟩, ⟨some 24, .eqa [1, 1, 1, 0, 1] true (.t 19) (.t 23), none⟩])
 (.cond (.t 24)
 (.seq (.reg false [⟨some 4, .mv (kb false), none⟩])
 .ret)
 .skip))))
 (.reg false [⟨some 25, .bin .add (.t 13) (ki 1), none⟩, ⟨some 13, .mv (.t 25), none⟩])))))))
 (.seq (.reg false [⟨some 4, .mv (kb true), none⟩])
 .ret))))
abbrev n_slices_Equal_api_Done_api_Done : Nat := 63
theorem F_slices_Equal_api_Done_api_Done : Fun Tryz.prog n_slices_Equal_api_Done_api_Done 26 c_slices_Equal_api_Done_api_Done [.t 4] := ⟨⟨Tryz.f63, _, Tryz.func63, by kernel_rfl, rfl, rfl, by kernel_rfl, by kernel_rfl⟩⟩
/-- slices.Clone[[]windrose/api.Line,windrose/api.Line] -/
def c_slices_Clone_api_Line_api_Line : C :=
 (.seq (.reg false [⟨some 2, .mv (.k (.one (.c (.v (.slice none 0 0))))), none⟩])
 (.seq (.seq (.reg false [⟨some 3, .mv (.t 0), none⟩, ⟨some 4, .eqb false (.t 3) (.k (.one (.c (.v (.slice none 0 0))))), none⟩])
 (.cond (.t 4)
 (.seq (.reg false [⟨some 2, .mv (.k (.one (.c (.v (.slice none 0 0))))), none⟩])
 .ret)
 .skip))
 (.seq (.reg false [⟨some 5, .bsl 49 2 0 [.string ⟨#[]⟩, .slice none 0 0] [], none⟩, ⟨some 6, .mv (.t 0), none⟩, ⟨some 7, .app 49 2 40 [.string ⟨#[]⟩, .slice none 0 0] (.t 5) (.t 6), none⟩, ⟨some 2, .mv (.t 7), none⟩])
 .ret)))
abbrev n_slices_Clone_api_Line_api_Line : Nat := 85
theorem F_slices_Clone_api_Line_api_Line : Fun Tryz.prog n_slices_Clone_api_Line_api_Line 8 c_slices_Clone_api_Line_api_Line [.t 2] := ⟨⟨Tryz.f85, _, Tryz.func85, by kernel_rfl, rfl, rfl, by kernel_rfl, by kernel_rfl⟩⟩
/-- slices.Clone[[]windrose/api.Done,windrose/api.Done] -/
def c_slices_Clone_api_Done_api_Done : C :=
 (.seq (.reg false [⟨some 2, .mv (.k (.one (.c (.v (.slice none 0 0))))), none⟩])
 (.seq (.seq (.reg false [⟨some 3, .mv (.t 0), none⟩, ⟨some 4, .eqb false (.t 3) (.k (.one (.c (.v (.slice none 0 0))))), none⟩])
 (.cond (.t 4)
 (.seq (.reg false [⟨some 2, .mv (.k (.one (.c (.v (.slice none 0 0))))), none⟩])
 .ret)
 .skip))
 (.seq (.reg false [⟨some 5, .bsl 45 5 0 [.int .i64 0, .int .i64 0, .int .i64 0, .bool false, .int .i64 0] [], none⟩, ⟨some 6, .mv (.t 0), none⟩, ⟨some 7, .app 45 5 40 [.int .i64 0, .int .i64 0, .int .i64 0, .bool false, .int .i64 0] (.t 5) (.t 6), none⟩, ⟨some 2, .mv (.t 7), none⟩])
 .ret)))
abbrev n_slices_Clone_api_Done_api_Done : Nat := 86
theorem F_slices_Clone_api_Done_api_Done : Fun Tryz.prog n_slices_Clone_api_Done_api_Done 8 c_slices_Clone_api_Done_api_Done [.t 2] := ⟨⟨Tryz.f86, _, Tryz.func86, by kernel_rfl, rfl, rfl, by kernel_rfl, by kernel_rfl⟩⟩
/-- slices.Clone[[]windrose/api.Sample,windrose/api.Sample] -/
def c_slices_Clone_api_Sample_api_Sample : C :=
 (.seq (.reg false [⟨some 2, .mv (.k (.one (.c (.v (.slice none 0 0))))), none⟩])
 (.seq (.seq (.reg false [⟨some 3, .mv (.t 0), none⟩, ⟨some 4, .eqb false (.t 3) (.k (.one (.c (.v (.slice none 0 0))))), none⟩])
 (.cond (.t 4)
 (.seq (.reg false [⟨some 2, .mv (.k (.one (.c (.v (.slice none 0 0))))), none⟩])
 .ret)
 .skip))
 (.seq (.reg false [⟨some 5, .bsl 33 2 0 [.int .i64 0, .int .i64 0] [], none⟩, ⟨some 6, .mv (.t 0), none⟩, ⟨some 7, .app 33 2 16 [.int .i64 0, .int .i64 0] (.t 5) (.t 6), none⟩, ⟨some 2, .mv (.t 7), none⟩])
 .ret)))
abbrev n_slices_Clone_api_Sample_api_Sample : Nat := 87
theorem F_slices_Clone_api_Sample_api_Sample : Fun Tryz.prog n_slices_Clone_api_Sample_api_Sample 8 c_slices_Clone_api_Sample_api_Sample [.t 2] := ⟨⟨Tryz.f87, _, Tryz.func87, by kernel_rfl, rfl, rfl, by kernel_rfl, by kernel_rfl⟩⟩
/-- windrose/shelf.write -/
def c_shelf_write : C :=
 (.seq (.reg false [⟨some 2, .box 29 3 (.t 0), none⟩, ⟨some 3, .box 35 7 (.t 1), none⟩, ⟨some 4, .alloc 29 3 [.slice none 0 0, .slice none 0 0, .int .i64 0], none⟩, ⟨some 5, .alloc 41 3 [.int .i64 0, .bool false, .int .i64 0], none⟩])
 (.seq (.reg false [⟨some 11, .ld true 3 (.t 2), none⟩, ⟨some 12, .fa 1 (.t 3), none⟩, ⟨some 13, .ld false 1 (.t 12), none⟩, ⟨some 14, .call (kf 106) [(.t 11), (.t 13)], none⟩, ⟨some 10, .mv (.t 14), none⟩, ⟨some 15, .ex (.t 10) 0, none⟩, ⟨some 16, .ex (.t 10) 1, none⟩, ⟨some 6, .mv (.t 15), none⟩, ⟨some 7, .mv (.t 16), none⟩])
 (.seq (.block 0 (.seq (.reg false [⟨some 18, .fa 2 (.t 3), none⟩, ⟨some 19, .fa 0 (.t 18), none⟩, ⟨some 20, .ld false 1 (.t 19), none⟩, ⟨some 21, .fa 2 (.t 2), none⟩, ⟨some 22, .ld false 1 (.t 21), none⟩, ⟨some 23, .bin .lss (.t 20) (.t 22), none⟩, ⟨some 17, .mv (.t 23), none⟩])
 (.cond (.t 17)
 (.seq (.reg false [⟨some 24, .ld true 3 (.t 2), none⟩, ⟨some 25, .bld [.int .i64 0, .bool false, .int .i64 0] [(0, 1, (ki 9))], none⟩, ⟨none, .st 3 (.t 4) (.t 24), none⟩, ⟨none, .st 3 (.t 5) (.t 25), none⟩])
 .ret)
 (.seq (.reg false [⟨some 27, .mv (.t 7), none⟩, ⟨some 28, .un .not (.t 27), none⟩, ⟨some 29, .mv (.t 28), none⟩, ⟨some 30, .fa 0 (.t 2), some (29, true)⟩, ⟨some 31, .ld false 1 (.t 30), some (29, true)⟩, ⟨some 32, .len (.t 31), some (29, true)⟩, ⟨some 33, .bin .eql (.t 32) (ki 16), some (29, true)⟩, ⟨some 34, .pick (.t 29) (.t 33) (kb false), none⟩, ⟨some 26, .mv (.t 34), none⟩])
 (.cond (.t 26)
 (.seq (.reg false [⟨some 35, .ld true 3 (.t 2), none⟩, ⟨some 36, .bld [.int .i64 0, .bool false, .int .i64 0] [(0, 1, (ki 6))], none⟩, ⟨none, .st 3 (.t 4) (.t 35), none⟩, ⟨none, .st 3 (.t 5) (.t 36), none⟩])
 .ret)
 (.seq (.reg false [⟨some 38, .mv (.t 7), none⟩, ⟨some 39, .un .not (.t 38), none⟩, ⟨some 37, .mv (.t 39), none⟩])
 (.cond (.t 37)
 (.reg false [⟨some 40, .fa 0 (.t 2), none⟩, ⟨some 41, .ld false 1 (.t 40), none⟩, ⟨some 42, .mv (.t 6), none⟩, ⟨some 43, .fa 1 (.t 3), none⟩, ⟨some 44, .ld false 1 (.t 43), none⟩, ⟨some 45, .bld [.string ⟨#[]⟩, .slice none 0 0] [(0, 1, (.t 44))], none⟩, ⟨some 46, .bsl 49 2 1 [.string ⟨#[]⟩, .slice none 0 0] [(0, (.t 45))], none⟩, ⟨some 47, .call (kf 107) [(.t 41), (.t 42), (.t 46)], none⟩, ⟨some 48, .fa 0 (.t 2), none⟩, ⟨none, .st 1 (.t 48) (.t 47), none⟩])
 .skip)))))))
 (.seq (.reg true [⟨some 50, .fa 0 (.t 2), none⟩, ⟨some 51, .ld false 1 (.t 50), none⟩, ⟨some 52, .mv (.t 6), none⟩, ⟨some 53, .ia 2 (.t 51) (.t 52), none⟩, ⟨some 54, .fa 1 (.t 53), none⟩, ⟨some 55, .ld false 1 (.t 54), none⟩, ⟨some 56, .fa 2 (.t 3), none⟩, ⟨some 57, .ld true 2 (.t 56), none⟩, ⟨some 58, .call (kf 108) [(.t 55), (.t 57)], none⟩, ⟨some 49, .mv (.t 58), none⟩, ⟨some 59, .ex (.t 49) 0, none⟩, ⟨some 60, .ex (.t 49) 1, none⟩, ⟨some 8, .mv (.t 59), none⟩, ⟨some 9, .mv (.t 60), none⟩])
 (.seq (.reg false [⟨some 61, .fa 0 (.t 2), none⟩, ⟨some 62, .ld false 1 (.t 61), none⟩, ⟨some 63, .mv (.t 6), none⟩, ⟨some 64, .mv (.t 8), none⟩, ⟨some 65, .ia 2 (.t 62) (.t 63), none⟩, ⟨some 66, .fa 1 (.t 65), none⟩, ⟨none, .st 1 (.t 66) (.t 64), none⟩])
 (.seq (.seq (.reg false [⟨some 67, .mv (.t 9), none⟩, ⟨some 68, .bin .eql (.t 67) (ki 7), none⟩])
 (.cond (.t 68)
 (.seq (.reg false [⟨some 69, .ld true 3 (.t 2), none⟩, ⟨some 70, .bld [.int .i64 0, .bool false, .int .i64 0] [], none⟩, ⟨none, .st 3 (.t 4) (.t 69), none⟩, ⟨none, .st 3 (.t 5) (.t 70), none⟩])
 .ret)
 .skip))
 (.seq (.reg false [⟨some 71, .ld true 3 (.t 2), none⟩, ⟨some 72, .mv (.t 9), none⟩, ⟨some 73, .mv (.t 9), none⟩, ⟨some 74, .bin .eql (.t 73) (ki 0), none⟩, ⟨some 75, .bld [.int .i64 0, .bool false, .int .i64 0] [(0, 1, (.t 72)), (1, 1, (.t 74))], none⟩, ⟨none, .st 3 (.t 4) (.t 71), none⟩, ⟨none, .st 3 (.t 5) (.t 75), none⟩])
 .ret)))))))
abbrev n_shelf_write : Nat := 88
theorem F_shelf_write : Fun Tryz.prog n_shelf_write 76 c_shelf_write [.l true 3 4, .l true 3 5] := ⟨⟨Tryz.f88, _, Tryz.func88, by kernel_rfl, rfl, rfl, by kernel_rfl, by kernel_rfl⟩⟩
/-- windrose/shelf.trim -/
def c_shelf_trim : C :=
 (.seq (.reg false [⟨some 2, .box 29 3 (.t 0), none⟩, ⟨some 4, .alloc 29 3 [.slice none 0 0, .slice none 0 0, .int .i64 0], none⟩, ⟨some 5, .alloc 41 3 [.int .i64 0, .bool false, .int .i64 0], none⟩])
 (.seq (.seq (.reg false [⟨some 8, .mv (.t 1), none⟩, ⟨some 9, .fa 2 (.t 2), none⟩, ⟨some 10, .ld false 1 (.t 9), none⟩, ⟨some 11, .bin .lss (.t 8) (.t 10), none⟩])
 (.cond (.t 11)
 (.seq (.reg false [⟨some 12, .ld true 3 (.t 2), none⟩, ⟨some 13, .bld [.int .i64 0, .bool false, .int .i64 0] [(0, 1, (ki 9))], none⟩, ⟨none, .st 3 (.t 4) (.t 12), none⟩, ⟨none, .st 3 (.t 5) (.t 13), none⟩])
 .ret)
 .skip))
 (.seq (.reg false [⟨some 14, .mv (.t 1), none⟩, ⟨some 15, .fa 2 (.t 2), none⟩, ⟨none, .st 1 (.t 15) (.t 14), none⟩])
 (.seq (.seq (.reg false [⟨some 16, .fa 0 (.t 2), none⟩, ⟨some 17, .ld false 1 (.t 16), none⟩, ⟨some 18, .len (.t 17), none⟩, ⟨some 19, .mv (ki 0), none⟩])
 (.block 0 (.loop (.seq (.reg false [⟨some 20, .bin .lss (.t 19) (.t 18), none⟩])
 (.seq (.cond (.t 20)
 .skip
 (.exit 0))
 (.seq (.block 1 (.seq (.reg false [⟨some 21, .mv (.t 19), none⟩, ⟨some 22, .ia 2 (.t 17) (.t 19), none⟩, ⟨some 23, .ld true 2 (.t 22), none⟩, ⟨some 7, .alloc 49 2 [.string ⟨#[]⟩, .slice none 0 0], none⟩, ⟨some 6, .mv (.t 21), none⟩, ⟨none, .st 2 (.t 7) (.t 23), none⟩])
 (.reg true [⟨some 24, .fa 0 (.t 2), none⟩, ⟨some 25, .ld false 1 (.t 24), none⟩, ⟨some 26, .mv (.t 6), none⟩, ⟨some 27, .fa 1 (.t 7), none⟩, ⟨some 28, .ld false 1 (.t 27), none⟩, ⟨some 29, .mv (.t 1), none⟩, ⟨some 30, .call (kf 109) [(.t 28), (.t 29)], none⟩, ⟨some 31, .ia 2 (.t 25) (.t 26), none⟩, ⟨some 32, .fa 1 (.t 31), none⟩, ⟨none, .st 1 (.t 32) (.t 30), none⟩])))
 (.reg false [⟨some 33, .bin .add (.t 19) (ki 1), none⟩, ⟨some 19, .mv (.t 33), none⟩])))))))
 (.seq (.reg false [⟨some 34, .fa 0 (.t 2), none⟩, ⟨some 35, .ld false 1 (.t 34), none⟩, ⟨some 36, .call (kf 110) [(.t 35), (kf 111)], none⟩, ⟨some 37, .fa 0 (.t 2), none⟩, ⟨none, .st 1 (.t 37) (.t 36), none⟩])
 (.seq (.reg false [⟨some 38, .ld true 3 (.t 2), none⟩, ⟨some 39, .bld [.int .i64 0, .bool false, .int .i64 0] [], none⟩, ⟨none, .st 3 (.t 4) (.t 38), none⟩, ⟨none, .st 3 (.t 5) (.t 39), none⟩])
 .ret))))))
abbrev n_shelf_trim : Nat := 89
theorem F_shelf_trim : Fun Tryz.prog n_shelf_trim 40 c_shelf_trim [.l true 3 4, .l true 3 5] := ⟨⟨Tryz.f89, _, Tryz.func89, by kernel_rfl, rfl, rfl, by kernel_rfl, by kernel_rfl⟩⟩
/-- windrose/shelf.look -/
def c_shelf_look : C :=
 (.seq (.reg false [⟨some 2, .box 29 3 (.t 0), none⟩, ⟨some 3, .box 35 7 (.t 1), none⟩, ⟨some 4, .alloc 41 3 [.int .i64 0, .bool false, .int .i64 0], none⟩])
 (.seq (.reg false [⟨some 5, .mv (.k (.one (.c (.v (.slice none 0 0))))), none⟩])
 (.seq (.seq (.reg false [⟨some 13, .ld true 3 (.t 2), none⟩, ⟨some 14, .fa 1 (.t 3), none⟩, ⟨some 15, .ld false 1 (.t 14), none⟩, ⟨some 16, .call (kf 106) [(.t 13), (.t 15)], none⟩, ⟨some 12, .mv (.t 16), none⟩, ⟨some 17, .ex (.t 12) 0, none⟩, ⟨some 18, .ex (.t 12) 1, none⟩, ⟨some 6, .mv (.t 17), none⟩, ⟨some 7, .mv (.t 18), none⟩])
 (.seq (.reg false [⟨some 19, .mv (.t 7), none⟩])
 (.cond (.t 19)
 (.reg false [⟨some 20, .fa 0 (.t 2), none⟩, ⟨some 21, .ld false 1 (.t 20), none⟩, ⟨some 22, .mv (.t 6), none⟩, ⟨some 23, .ia 2 (.t 21) (.t 22), none⟩, ⟨some 24, .fa 1 (.t 23), none⟩, ⟨some 25, .ld false 1 (.t 24), none⟩, ⟨some 5, .mv (.t 25), none⟩])
 .skip)))
 (.seq (.seq (.reg false [⟨some 26, .fa 0 (.t 3), none⟩, ⟨some 27, .ld false 1 (.t 26), none⟩, ⟨some 28, .bin .eql (.t 27) (ki 4), none⟩])
 (.cond (.t 28)
 (.seq (.reg false [⟨some 30, .mv (.t 5), none⟩, ⟨some 31, .fa 4 (.t 3), none⟩, ⟨some 32, .ld false 1 (.t 31), none⟩, ⟨some 33, .call (kf 112) [(.t 30), (.t 32)], none⟩, ⟨some 29, .mv (.t 33), none⟩, ⟨some 34, .ex (.t 29) 0, none⟩, ⟨some 35, .ex (.t 29) 1, none⟩, ⟨some 8, .alloc 33 2 [.int .i64 0, .int .i64 0], none⟩, ⟨none, .st 2 (.t 8) (.t 34), none⟩, ⟨some 9, .mv (.t 35), none⟩])
 (.seq (.reg false [⟨some 36, .mv (.t 9), none⟩, ⟨some 37, .fa 1 (.t 8), none⟩, ⟨some 38, .ld false 1 (.t 37), none⟩, ⟨some 39, .bld [.int .i64 0, .bool false, .int .i64 0] [(1, 1, (.t 36)), (2, 1, (.t 38))], none⟩, ⟨none, .st 3 (.t 4) (.t 39), none⟩])
 .ret))
 .skip))
 (.seq (.reg true [⟨some 41, .fa 6 (.t 3), none⟩, ⟨some 42, .ld false 1 (.t 41), none⟩, ⟨some 43, .mv (.t 5), none⟩, ⟨some 44, .fa 4 (.t 3), none⟩, ⟨some 45, .ld false 1 (.t 44), none⟩, ⟨some 46, .fa 5 (.t 3), none⟩, ⟨some 47, .ld false 1 (.t 46), none⟩, ⟨some 48, .call (kf 114) [(.t 43), (.t 45), (.t 47)], none⟩, ⟨some 49, .call (kf 113) [(.t 42), (.t 48)], none⟩, ⟨some 40, .mv (.t 49), none⟩, ⟨some 50, .ex (.t 40) 0, none⟩, ⟨some 51, .ex (.t 40) 1, none⟩, ⟨some 10, .mv (.t 50), none⟩, ⟨some 11, .mv (.t 51), none⟩])
 (.seq (.reg false [⟨some 52, .mv (.t 11), none⟩, ⟨some 53, .mv (.t 10), none⟩, ⟨some 54, .bld [.int .i64 0, .bool false, .int .i64 0] [(1, 1, (.t 52)), (2, 1, (.t 53))], none⟩, ⟨none, .st 3 (.t 4) (.t 54), none⟩])
 .ret))))))
abbrev n_shelf_look : Nat := 90
theorem F_shelf_look : Fun Tryz.prog n_shelf_look 55 c_shelf_look [.l true 3 4] := ⟨⟨Tryz.f90, _, Tryz.func90, by kernel_rfl, rfl, rfl, by kernel_rfl, by kernel_rfl⟩⟩
/-- slices.BinarySearchFunc[[]windrose/api.Done,windrose/api.Done,int] -/
def c_slices_BinarySearchFunc_api_Done_api_Done_int : C :=
 (.seq (.reg false [⟨some 6, .mv (ki 0), none⟩, ⟨some 7, .mv (kb false), none⟩])
 (.seq (.reg false [⟨some 12, .mv (.t 0), none⟩, ⟨some 13, .len (.t 12), none⟩, ⟨some 8, .mv (.t 13), none⟩])
 (.seq (.reg false [⟨some 14, .mv (.t 8), none⟩, ⟨some 9, .mv (ki 0), none⟩, ⟨some 10, .mv (.t 14), none⟩])
 (.seq (.block 0 (.loop (.seq (.seq (.reg false [⟨some 15, .mv (.t 9), none⟩, ⟨some 16, .mv (.t 10), none⟩, ⟨some 17, .bin .lss (.t 15) (.t 16), none⟩])
 (.cond (.t 17)
 .skip
 (.exit 0)))
 (.block 1 (.seq (.reg false [⟨some 18, .mv (.t 9), none⟩, ⟨some 19, .mv (.t 10), none⟩, ⟨some 20, .bin .add (.t 18) (.t 19), none⟩, ⟨some 21, .cvi .u64 (.t 20), none⟩, ⟨some 22, .bin .shr (.t 21) (.k (.one (.c (.v (.int .u64 1))))), none⟩, ⟨some 23, .cvi .i64 (.t 22), none⟩, ⟨some 11, .mv (.t 23), none⟩])
 (.seq (.reg false [⟨some 24, .mv (.t 2), none⟩, ⟨some 25, .mv (.t 0), none⟩, ⟨some 26, .mv (.t 11), none⟩, ⟨some 27, .ia 5 (.t 25) (.t 26), none⟩, ⟨some 28, .ld true 5 (.t 27), none⟩, ⟨some 29, .mv (.t 1), none⟩, ⟨some 30, .call (.t 24) [(.t 28), (.t 29)], none⟩, ⟨some 31, .bin .lss (.t 30) (ki 0), none⟩])
 (.cond (.t 31)
 (.reg false [⟨some 32, .mv (.t 11), none⟩, ⟨some 33, .bin .add (.t 32) (ki 1), none⟩, ⟨some 9, .mv (.t 33), none⟩])
 (.reg false [⟨some 34, .mv (.t 11), none⟩, ⟨some 10, .mv (.t 34), none⟩]))))))))
 (.seq (.reg false [⟨some 35, .mv (.t 9), none⟩, ⟨some 36, .mv (.t 9), none⟩, ⟨some 37, .mv (.t 8), none⟩, ⟨some 38, .bin .lss (.t 36) (.t 37), none⟩, ⟨some 39, .mv (.t 38), none⟩, ⟨some 40, .mv (.t 2), some (39, true)⟩, ⟨some 41, .mv (.t 0), some (39, true)⟩, ⟨some 42, .mv (.t 9), some (39, true)⟩, ⟨some 43, .ia 5 (.t 41) (.t 42), some (39, true)⟩, ⟨some 44, .ld true 5 (.t 43), some (39, true)⟩, ⟨some 45, .mv (.t 1), some (39, true)⟩, ⟨some 46, .call (.t 40) [(.t 44), (.t 45)], some (39, true)⟩, ⟨some 47, .bin .eql (.t 46) (ki 0), some (39, true)⟩, ⟨some 48, .pick (.t 39) (.t 47) (kb false), none⟩, ⟨some 6, .mv (.t 35), none⟩, ⟨some 7, .mv (.t 48), none⟩])
 .ret)))))
abbrev n_slices_BinarySearchFunc_api_Done_api_Done_int : Nat := 91
theorem F_slices_BinarySearchFunc_api_Done_api_Done_int : Fun Tryz.prog n_slices_BinarySearchFunc_api_Done_api_Done_int 49 c_slices_BinarySearchFunc_api_Done_api_Done_int [.t 6, .t 7] := ⟨⟨Tryz.f91, _, Tryz.func91, by kernel_rfl, rfl, rfl, by kernel_rfl, by kernel_rfl⟩⟩
/-- windrose/shelf.done$1 -/
def c_shelf_done_1 : C :=
 (.seq (.reg false [⟨some 2, .box 45 5 (.t 0), none⟩, ⟨some 4, .mv (ki 0), none⟩])
 (.seq (.reg false [⟨some 5, .fa 0 (.t 2), none⟩, ⟨some 6, .ld false 1 (.t 5), none⟩, ⟨some 7, .mv (.t 1), none⟩, ⟨some 8, .call (kf 93) [(.t 6), (.t 7)], none⟩, ⟨some 4, .mv (.t 8), none⟩])
 .ret))
abbrev n_shelf_done_1 : Nat := 92
theorem F_shelf_done_1 : Fun Tryz.prog n_shelf_done_1 9 c_shelf_done_1 [.t 4] := ⟨⟨Tryz.f92, _, Tryz.func92, by kernel_rfl, rfl, rfl, by kernel_rfl, by kernel_rfl⟩⟩
/-- slices.Insert[[]windrose/api.Done,windrose/api.Done] -/
def c_slices_Insert_api_Done_api_Done : C :=
 (.seq (.reg false [⟨some 6, .mv (.k (.one (.c (.v (.slice none 0 0))))), none⟩])
 (.seq (.reg false [⟨some 10, .mv (.t 0), none⟩, ⟨some 11, .mv (.t 1), none⟩, ⟨some 12, .slc 5 (.t 10) (some (.t 11)) none, none⟩])
 (.seq (.reg false [⟨some 13, .mv (.t 2), none⟩, ⟨some 14, .len (.t 13), none⟩, ⟨some 7, .mv (.t 14), none⟩])
 (.seq (.seq (.reg false [⟨some 15, .mv (.t 7), none⟩, ⟨some 16, .bin .eql (.t 15) (ki 0), none⟩])
 (.cond (.t 16)
 (.seq (.reg false [⟨some 17, .mv (.t 0), none⟩, ⟨some 6, .mv (.t 17), none⟩])
 .ret)
 .skip))
 (.seq (.reg false [⟨some 18, .mv (.t 0), none⟩, ⟨some 19, .len (.t 18), none⟩, ⟨some 8, .mv (.t 19), none⟩])
 (.seq (.seq (.reg false [⟨some 20, .mv (.t 1), none⟩, ⟨some 21, .mv (.t 8), none⟩, ⟨some 22, .bin .eql (.t 20) (.t 21), none⟩])
 (.cond (.t 22)
 (.seq (.reg false [⟨some 23, .mv (.t 0), none⟩, ⟨some 24, .mv (.t 2), none⟩, ⟨some 25, .app 45 5 40 [.int .i64 0, .int .i64 0, .int .i64 0, .bool false, .int .i64 0] (.t 23) (.t 24), none⟩, ⟨some 6, .mv (.t 25), none⟩])
 .ret)
 .skip))
 (.seq (.seq (.reg false [⟨some 26, .mv (.t 8), none⟩, ⟨some 27, .mv (.t 7), none⟩, ⟨some 28, .bin .add (.t 26) (.t 27), none⟩, ⟨some 29, .mv (.t 0), none⟩, ⟨some 30, .cap (.t 29), none⟩, ⟨some 31, .bin .gtr (.t 28) (.t 30), none⟩])
 (.cond (.t 31)
 (.seq (.reg false [⟨some 32, .mv (.t 0), none⟩, ⟨some 33, .mv (.t 1), none⟩, ⟨some 34, .slc 5 (.t 32) none (some (.t 33)), none⟩, ⟨some 35, .mv (.t 8), none⟩, ⟨some 36, .mv (.t 7), none⟩, ⟨some 37, .bin .add (.t 35) (.t 36), none⟩, ⟨some 38, .mv (.t 1), none⟩, ⟨some 39, .bin .sub (.t 37) (.t 38), none⟩, ⟨some 40, .apz 45 5 40 [.int .i64 0, .int .i64 0, .int .i64 0, .bool false, .int .i64 0] (.t 34) (.t 39), none⟩, ⟨some 9, .mv (.t 40), none⟩])
 (.seq (.reg false [⟨some 41, .mv (.t 9), none⟩, ⟨some 42, .mv (.t 1), none⟩, ⟨some 43, .slc 5 (.t 41) (some (.t 42)) none, none⟩, ⟨some 44, .mv (.t 2), none⟩, ⟨some 45, .cpy 5 (.t 43) (.t 44), none⟩])
 (.seq (.reg true [⟨some 46, .mv (.t 9), none⟩, ⟨some 47, .mv (.t 1), none⟩, ⟨some 48, .mv (.t 7), none⟩, ⟨some 49, .bin .add (.t 47) (.t 48), none⟩, ⟨some 50, .slc 5 (.t 46) (some (.t 49)) none, none⟩, ⟨some 51, .mv (.t 0), none⟩, ⟨some 52, .mv (.t 1), none⟩, ⟨some 53, .slc 5 (.t 51) (some (.t 52)) none, none⟩, ⟨some 54, .cpy 5 (.t 50) (.t 53), none⟩])
 (.seq (.reg false [⟨some 55, .mv (.t 9), none⟩, ⟨some 6, .mv (.t 55), none⟩])
 .ret))))
 .skip))
 (.seq (.reg false [⟨some 56, .mv (.t 0), none⟩, ⟨some 57, .mv (.t 8), none⟩, ⟨some 58, .mv (.t 7), none⟩, ⟨some 59, .bin .add (.t 57) (.t 58), none⟩, ⟨some 60, .slc 5 (.t 56) none (some (.t 59)), none⟩, ⟨some 0, .mv (.t 60), none⟩])
 (.seq (.seq (.reg false [⟨some 61, .mv (.t 2), none⟩, ⟨some 62, .mv (.t 0), none⟩, ⟨some 63, .mv (.t 1), none⟩, ⟨some 64, .mv (.t 7), none⟩, ⟨some 65, .bin .add (.t 63) (.t 64), none⟩, ⟨some 66, .slc 5 (.t 62) (some (.t 65)) none, none⟩, ⟨some 67, .call (kf 116) [(.t 61), (.t 66)], none⟩, ⟨some 68, .un .not (.t 67), none⟩])
 (.cond (.t 68)
 (.seq (.reg true [⟨some 69, .mv (.t 0), none⟩, ⟨some 70, .mv (.t 1), none⟩, ⟨some 71, .mv (.t 7), none⟩, ⟨some 72, .bin .add (.t 70) (.t 71), none⟩, ⟨some 73, .slc 5 (.t 69) (some (.t 72)) none, none⟩, ⟨some 74, .mv (.t 0), none⟩, ⟨some 75, .mv (.t 1), none⟩, ⟨some 76, .slc 5 (.t 74) (some (.t 75)) none, none⟩, ⟨some 77, .cpy 5 (.t 73) (.t 76), none⟩])
 (.seq (.reg false [⟨some 78, .mv (.t 0), none⟩, ⟨some 79, .mv (.t 1), none⟩, ⟨some 80, .slc 5 (.t 78) (some (.t 79)) none, none⟩, ⟨some 81, .mv (.t 2), none⟩, ⟨some 82, .cpy 5 (.t 80) (.t 81), none⟩])
 (.seq (.reg false [⟨some 83, .mv (.t 0), none⟩, ⟨some 6, .mv (.t 83), none⟩])
 .ret)))
 .skip))
 (.seq (.reg false [⟨some 84, .mv (.t 0), none⟩, ⟨some 85, .mv (.t 8), none⟩, ⟨some 86, .slc 5 (.t 84) (some (.t 85)) none, none⟩, ⟨some 87, .mv (.t 2), none⟩, ⟨some 88, .cpy 5 (.t 86) (.t 87), none⟩])
 (.seq (.reg false [⟨some 89, .mv (.t 0), none⟩, ⟨some 90, .mv (.t 1), none⟩, ⟨some 91, .slc 5 (.t 89) (some (.t 90)) none, none⟩, ⟨some 92, .mv (.t 7), none⟩, ⟨some 93, .call (kf 117) [(.t 91), (.t 92)], none⟩])
 (.seq (.reg false [⟨some 94, .mv (.t 0), none⟩, ⟨some 6, .mv (.t 94), none⟩])
 .ret))))))))))))
abbrev n_slices_Insert_api_Done_api_Done : Nat := 94
theorem F_slices_Insert_api_Done_api_Done : Fun Tryz.prog n_slices_Insert_api_Done_api_Done 95 c_slices_Insert_api_Done_api_Done [.t 6] := ⟨⟨Tryz.f94, _, Tryz.func94, by kernel_rfl, rfl, rfl, by kernel_rfl, by kernel_rfl⟩⟩
/-- slices.Delete[[]windrose/api.Done,windrose/api.Done] -/
def c_slices_Delete_api_Done_api_Done : C :=
 (.seq (.reg false [⟨some 6, .mv (.k (.one (.c (.v (.slice none 0 0))))), none⟩])
 (.seq (.reg false [⟨some 8, .mv (.t 0), none⟩, ⟨some 9, .mv (.t 1), none⟩, ⟨some 10, .mv (.t 2), none⟩, ⟨some 11, .mv (.t 0), none⟩, ⟨some 12, .len (.t 11), none⟩, ⟨some 13, .s3 (.t 8) (some (.t 9)) (some (.t 10)) (some (.t 12)), none⟩])
 (.seq (.seq (.reg false [⟨some 14, .mv (.t 1), none⟩, ⟨some 15, .mv (.t 2), none⟩, ⟨some 16, .bin .eql (.t 14) (.t 15), none⟩])
 (.cond (.t 16)
 (.seq (.reg false [⟨some 17, .mv (.t 0), none⟩, ⟨some 6, .mv (.t 17), none⟩])
 .ret)
 .skip))
 (.seq (.reg false [⟨some 18, .mv (.t 0), none⟩, ⟨some 19, .len (.t 18), none⟩, ⟨some 7, .mv (.t 19), none⟩])
 (.seq (.reg true [⟨some 20, .mv (.t 0), none⟩, ⟨some 21, .mv (.t 1), none⟩, ⟨some 22, .slc 5 (.t 20) none (some (.t 21)), none⟩, ⟨some 23, .mv (.t 0), none⟩, ⟨some 24, .mv (.t 2), none⟩, ⟨some 25, .slc 5 (.t 23) (some (.t 24)) none, none⟩, ⟨some 26, .app 45 5 40 [.int .i64 0, .int .i64 0, .int .i64 0, .bool false, .int .i64 0] (.t 22) (.t 25), none⟩, ⟨some 0, .mv (.t 26), none⟩])
 (.seq (.reg false [⟨some 27, .mv (.t 0), none⟩, ⟨some 28, .mv (.t 0), none⟩, ⟨some 29, .len (.t 28), none⟩, ⟨some 30, .mv (.t 7), none⟩, ⟨some 31, .slc 5 (.t 27) (some (.t 29)) (some (.t 30)), none⟩, ⟨none, .clr 5 [.int .i64 0, .int .i64 0, .int .i64 0, .bool false, .int .i64 0] (.t 31), none⟩])
 (.seq (.reg false [⟨some 32, .mv (.t 0), none⟩, ⟨some 6, .mv (.t 32), none⟩])
 .ret)))))))
abbrev n_slices_Delete_api_Done_api_Done : Nat := 95
theorem F_slices_Delete_api_Done_api_Done : Fun Tryz.prog n_slices_Delete_api_Done_api_Done 33 c_slices_Delete_api_Done_api_Done [.t 6] := ⟨⟨Tryz.f95, _, Tryz.func95, by kernel_rfl, rfl, rfl, by kernel_rfl, by kernel_rfl⟩⟩
/-- windrose/windroseref12.Put -/
def c_windroseref12_Put : C :=
 (.seq (.reg false [⟨some 3, .box 33 2 (.t 1), none⟩, ⟨some 4, .mv (.k (.one (.c (.v (.slice none 0 0))))), none⟩, ⟨some 5, .mv (ki 0), none⟩])
 (.seq (.seq (.reg false [⟨some 8, .ld true 2 (.t 3), none⟩, ⟨some 9, .bsl 33 2 1 [.int .i64 0, .int .i64 0] [(0, (.t 8))], none⟩, ⟨some 10, .call (kf 50) [(.t 9)], none⟩, ⟨some 11, .un .not (.t 10), none⟩])
 (.cond (.t 11)
 (.seq (.reg false [⟨some 12, .mv (.t 0), none⟩, ⟨some 4, .mv (.t 12), none⟩, ⟨some 5, .mv (ki 1), none⟩])
 .ret)
 .skip))
 (.seq (.reg false [⟨some 14, .mv (.t 0), none⟩, ⟨some 15, .fa 0 (.t 3), none⟩, ⟨some 16, .ld false 1 (.t 15), none⟩, ⟨some 17, .call (kf 100) [(.t 14), (.t 16)], none⟩, ⟨some 13, .mv (.t 17), none⟩, ⟨some 18, .ex (.t 13) 0, none⟩, ⟨some 19, .ex (.t 13) 1, none⟩, ⟨some 6, .alloc 33 2 [.int .i64 0, .int .i64 0], none⟩, ⟨none, .st 2 (.t 6) (.t 18), none⟩, ⟨some 7, .mv (.t 19), none⟩])
 (.seq (.seq (.reg false [⟨some 20, .mv (.t 7), none⟩, ⟨some 21, .mv (.t 20), none⟩, ⟨some 22, .fa 1 (.t 6), some (21, true)⟩, ⟨some 23, .ld false 1 (.t 22), some (21, true)⟩, ⟨some 24, .fa 1 (.t 3), some (21, true)⟩, ⟨some 25, .ld false 1 (.t 24), some (21, true)⟩, ⟨some 26, .bin .eql (.t 23) (.t 25), some (21, true)⟩, ⟨some 27, .pick (.t 21) (.t 26) (kb false), none⟩])
 (.cond (.t 27)
 (.seq (.reg false [⟨some 28, .mv (.t 0), none⟩, ⟨some 4, .mv (.t 28), none⟩, ⟨some 5, .mv (ki 7), none⟩])
 .ret)
 .skip))
 (.seq (.seq (.reg false [⟨some 29, .mv (.t 7), none⟩])
 (.cond (.t 29)
 (.seq (.reg false [⟨some 30, .mv (.t 0), none⟩, ⟨some 4, .mv (.t 30), none⟩, ⟨some 5, .mv (ki 8), none⟩])
 .ret)
 .skip))
 (.seq (.seq (.reg false [⟨some 31, .mv (.t 0), none⟩, ⟨some 32, .len (.t 31), none⟩, ⟨some 33, .bin .eql (.t 32) (ki 64), none⟩])
 (.cond (.t 33)
 (.seq (.reg false [⟨some 34, .mv (.t 0), none⟩, ⟨some 4, .mv (.t 34), none⟩, ⟨some 5, .mv (ki 6), none⟩])
 .ret)
 .skip))
 (.seq (.reg false [⟨some 35, .mv (.t 0), none⟩, ⟨some 36, .ld true 2 (.t 3), none⟩, ⟨some 37, .call (kf 128) [(.t 35), (.t 36)], none⟩, ⟨some 4, .mv (.t 37), none⟩, ⟨some 5, .mv (ki 0), none⟩])
 .ret)))))))
abbrev n_windroseref12_Put : Nat := 98
theorem F_windroseref12_Put : Fun Tryz.prog n_windroseref12_Put 38 c_windroseref12_Put [.t 4, .t 5] := ⟨⟨Tryz.f98, _, Tryz.func98, by kernel_rfl, rfl, rfl, by kernel_rfl, by kernel_rfl⟩⟩
/-- windrose/windroseref14.set -/
def c_windroseref14_set : C :=
 (.seq (.reg false [⟨some 6, .mv (.k (.one (.c (.v (.slice none 0 0))))), none⟩])
 (.seq (.reg false [⟨some 10, .bsl 49 2 0 [.string ⟨#[]⟩, .slice none 0 0] [], none⟩, ⟨some 7, .mv (.t 10), none⟩])
 (.seq (.reg false [⟨some 11, .mv (.t 2), none⟩, ⟨some 12, .len (.t 11), none⟩, ⟨some 13, .bin .eql (.t 12) (ki 0), none⟩, ⟨some 8, .mv (.t 13), none⟩])
 (.seq (.seq (.reg false [⟨some 9, .mv (ki 0), none⟩])
 (.block 0 (.loop (.seq (.seq (.reg false [⟨some 14, .mv (.t 9), none⟩, ⟨some 15, .mv (.t 0), none⟩, ⟨some 16, .len (.t 15), none⟩, ⟨some 17, .bin .lss (.t 14) (.t 16), none⟩])
 (.cond (.t 17)
 .skip
 (.exit 0)))
 (.seq (.block 1 (.seq (.seq (.reg false [⟨some 20, .mv (.t 8), none⟩, ⟨some 21, .un .not (.t 20), none⟩, ⟨some 22, .mv (.t 21), none⟩, ⟨some 23, .mv (.t 0), some (22, true)⟩, ⟨some 24, .mv (.t 9), some (22, true)⟩, ⟨some 25, .ia 2 (.t 23) (.t 24), some (22, true)⟩, ⟨some 26, .fa 0 (.t 25), some (22, true)⟩, ⟨some 27, .ld false 1 (.t 26), some (22, true)⟩, ⟨some 28, .mv (.t 1), some (22, true)⟩, ⟨some 29, .bin .geq (.t 27) (.t 28), some (22, true)⟩, ⟨some 30, .pick (.t 22) (.t 29) (kb false), none⟩])
 (.cond (.t 30)
 (.seq (.reg false [⟨some 31, .mv (.t 7), none⟩, ⟨some 32, .mv (.t 1), none⟩, ⟨some 33, .mv (.t 2), none⟩, ⟨some 34, .bld [.string ⟨#[]⟩, .slice none 0 0] [(0, 1, (.t 32)), (1, 1, (.t 33))], none⟩, ⟨some 35, .bsl 49 2 1 [.string ⟨#[]⟩, .slice none 0 0] [(0, (.t 34))], none⟩, ⟨some 36, .app 49 2 40 [.string ⟨#[]⟩, .slice none 0 0] (.t 31) (.t 35), none⟩, ⟨some 7, .mv (.t 36), none⟩])
 (.reg false [⟨some 8, .mv (kb true), none⟩]))
 .skip))
 (.seq (.reg false [⟨some 37, .mv (.t 0), none⟩, ⟨some 38, .mv (.t 9), none⟩, ⟨some 39, .ia 2 (.t 37) (.t 38), none⟩, ⟨some 40, .fa 0 (.t 39), none⟩, ⟨some 41, .ld false 1 (.t 40), none⟩, ⟨some 42, .mv (.t 1), none⟩, ⟨some 43, .bin .neq (.t 41) (.t 42), none⟩])
 (.cond (.t 43)
 (.reg false [⟨some 44, .mv (.t 7), none⟩, ⟨some 45, .mv (.t 0), none⟩, ⟨some 46, .mv (.t 9), none⟩, ⟨some 47, .ia 2 (.t 45) (.t 46), none⟩, ⟨some 48, .ld true 2 (.t 47), none⟩, ⟨some 49, .bsl 49 2 1 [.string ⟨#[]⟩, .slice none 0 0] [(0, (.t 48))], none⟩, ⟨some 50, .app 49 2 40 [.string ⟨#[]⟩, .slice none 0 0] (.t 44) (.t 49), none⟩, ⟨some 7, .mv (.t 50), none⟩])
 .skip))))
 (.reg false [⟨some 18, .mv (.t 9), none⟩, ⟨some 19, .bin .add (.t 18) (ki 1), none⟩, ⟨some 9, .mv (.t 19), none⟩]))))))
 (.seq (.seq (.reg false [⟨some 51, .mv (.t 8), none⟩, ⟨some 52, .un .not (.t 51), none⟩])
 (.cond (.t 52)
 (.reg false [⟨some 53, .mv (.t 7), none⟩, ⟨some 54, .mv (.t 1), none⟩, ⟨some 55, .mv (.t 2), none⟩, ⟨some 56, .bld [.string ⟨#[]⟩, .slice none 0 0] [(0, 1, (.t 54)), (1, 1, (.t 55))], none⟩, ⟨some 57, .bsl 49 2 1 [.string ⟨#[]⟩, .slice none 0 0] [(0, (.t 56))], none⟩, ⟨some 58, .app 49 2 40 [.string ⟨#[]⟩, .slice none 0 0] (.t 53) (.t 57), none⟩, ⟨some 7, .mv (.t 58), none⟩])
 .skip))
 (.seq (.reg false [⟨some 59, .mv (.t 7), none⟩, ⟨some 6, .mv (.t 59), none⟩])
 .ret))))))
abbrev n_windroseref14_set : Nat := 99
theorem F_windroseref14_set : Fun Tryz.prog n_windroseref14_set 60 c_windroseref14_set [.t 6] := ⟨⟨Tryz.f99, _, Tryz.func99, by kernel_rfl, rfl, rfl, by kernel_rfl, by kernel_rfl⟩⟩
/-- windrose/windroseref12.Get -/
def c_windroseref12_Get : C :=
 (.seq (.reg false [⟨some 4, .alloc 33 2 [.int .i64 0, .int .i64 0], none⟩, ⟨some 5, .mv (kb false), none⟩])
 (.seq (.seq (.reg false [⟨some 6, .mv (ki 0), none⟩])
 (.block 0 (.loop (.seq (.seq (.reg false [⟨some 7, .mv (.t 6), none⟩, ⟨some 8, .mv (.t 0), none⟩, ⟨some 9, .len (.t 8), none⟩, ⟨some 10, .bin .lss (.t 7) (.t 9), none⟩])
 (.cond (.t 10)
 .skip
 (.exit 0)))
 (.seq (.block 1 (.seq (.reg false [⟨some 13, .mv (.t 0), none⟩, ⟨some 14, .mv (.t 6), none⟩, ⟨some 15, .ia 2 (.t 13) (.t 14), none⟩, ⟨some 16, .fa 0 (.t 15), none⟩, ⟨some 17, .ld false 1 (.t 16), none⟩, ⟨some 18, .mv (.t 1), none⟩, ⟨some 19, .bin .eql (.t 17) (.t 18), none⟩])
 (.cond (.t 19)
 (.seq (.reg false [⟨some 20, .mv (.t 0), none⟩, ⟨some 21, .mv (.t 6), none⟩, ⟨some 22, .ia 2 (.t 20) (.t 21), none⟩, ⟨some 23, .ld true 2 (.t 22), none⟩, ⟨none, .st 2 (.t 4) (.t 23), none⟩, ⟨some 5, .mv (kb true), none⟩])
 .ret)
 .skip)))
 (.reg false [⟨some 11, .mv (.t 6), none⟩, ⟨some 12, .bin .add (.t 11) (ki 1), none⟩, ⟨some 6, .mv (.t 12), none⟩]))))))
 (.seq (.reg false [⟨some 24, .bld [.int .i64 0, .int .i64 0] [], none⟩, ⟨none, .st 2 (.t 4) (.t 24), none⟩, ⟨some 5, .mv (kb false), none⟩])
 .ret)))
abbrev n_windroseref12_Get : Nat := 100
theorem F_windroseref12_Get : Fun Tryz.prog n_windroseref12_Get 25 c_windroseref12_Get [.l true 2 4, .t 5] := ⟨⟨Tryz.f100, _, Tryz.func100, by kernel_rfl, rfl, rfl, by kernel_rfl, by kernel_rfl⟩⟩
/-- windrose/windroseref13.Of -/
def c_windroseref13_Of : C :=
 (.seq (.reg false [⟨some 4, .mv (ki 0), none⟩, ⟨some 5, .mv (kb false), none⟩])
 (.seq (.seq (.reg false [⟨some 13, .mv (.t 1), none⟩, ⟨some 14, .call (kf 50) [(.t 13)], none⟩, ⟨some 15, .un .not (.t 14), none⟩, ⟨some 16, .mv (.t 15), none⟩, ⟨some 17, .mv (.t 0), some (16, false)⟩, ⟨some 18, .bin .lss (.t 17) (ki 1), some (16, false)⟩, ⟨some 19, .pick (.t 16) (kb true) (.t 18), none⟩, ⟨some 20, .mv (.t 19), none⟩, ⟨some 21, .mv (.t 0), some (20, false)⟩, ⟨some 22, .bin .gtr (.t 21) (ki 5), some (20, false)⟩, ⟨some 23, .pick (.t 20) (kb true) (.t 22), none⟩])
 (.cond (.t 23)
 (.seq (.reg false [⟨some 4, .mv (ki 0), none⟩, ⟨some 5, .mv (kb false), none⟩])
 .ret)
 .skip))
 (.seq (.reg false [⟨some 24, .mv (.t 1), none⟩, ⟨some 25, .len (.t 24), none⟩, ⟨some 6, .mv (.t 25), none⟩])
 (.seq (.reg false [⟨some 7, .mv (ki 0), none⟩, ⟨some 8, .mv (ki 0), none⟩, ⟨some 9, .mv (ki 0), none⟩, ⟨some 10, .mv (ki 0), none⟩])
 (.seq (.seq (.reg false [⟨some 11, .mv (ki 0), none⟩])
 (.block 0 (.loop (.seq (.seq (.reg false [⟨some 26, .mv (.t 11), none⟩, ⟨some 27, .mv (.t 6), none⟩, ⟨some 28, .bin .lss (.t 26) (.t 27), none⟩])
 (.cond (.t 28)
 .skip
 (.exit 0)))
 (.seq (.block 1 (.seq (.reg false [⟨some 31, .mv (.t 1), none⟩, ⟨some 32, .mv (.t 11), none⟩, ⟨some 33, .ia 2 (.t 31) (.t 32), none⟩, ⟨some 34, .fa 1 (.t 33), none⟩, ⟨some 35, .ld false 1 (.t 34), none⟩, ⟨some 12, .mv (.t 35), none⟩])
 (.seq (.reg false [⟨some 36, .mv (.t 7), none⟩, ⟨some 37, .mv (.t 12), none⟩, ⟨some 38, .bin .add (.t 36) (.t 37), none⟩, ⟨some 7, .mv (.t 38), none⟩])
 (.seq (.seq (.reg false [⟨some 39, .mv (.t 11), none⟩, ⟨some 40, .bin .eql (.t 39) (ki 0), none⟩, ⟨some 41, .mv (.t 40), none⟩, ⟨some 42, .mv (.t 12), some (41, false)⟩, ⟨some 43, .mv (.t 8), some (41, false)⟩, ⟨some 44, .bin .lss (.t 42) (.t 43), some (41, false)⟩, ⟨some 45, .pick (.t 41) (kb true) (.t 44), none⟩])
 (.cond (.t 45)
 (.reg false [⟨some 46, .mv (.t 12), none⟩, ⟨some 8, .mv (.t 46), none⟩])
 .skip))
 (.seq (.seq (.reg false [⟨some 47, .mv (.t 11), none⟩, ⟨some 48, .bin .eql (.t 47) (ki 0), none⟩, ⟨some 49, .mv (.t 48), none⟩, ⟨some 50, .mv (.t 12), some (49, false)⟩, ⟨some 51, .mv (.t 9), some (49, false)⟩, ⟨some 52, .bin .gtr (.t 50) (.t 51), some (49, false)⟩, ⟨some 53, .pick (.t 49) (kb true) (.t 52), none⟩])
 (.cond (.t 53)
 (.reg false [⟨some 54, .mv (.t 12), none⟩, ⟨some 9, .mv (.t 54), none⟩])
 .skip))
 (.seq (.reg false [⟨some 55, .mv (.t 11), none⟩, ⟨some 56, .bin .gtr (.t 55) (ki 0), none⟩, ⟨some 57, .mv (.t 56), none⟩, ⟨some 58, .mv (.t 12), some (57, true)⟩, ⟨some 59, .mv (.t 1), some (57, true)⟩, ⟨some 60, .mv (.t 11), some (57, true)⟩, ⟨some 61, .bin .sub (.t 60) (ki 1), some (57, true)⟩, ⟨some 62, .ia 2 (.t 59) (.t 61), some (57, true)⟩, ⟨some 63, .fa 1 (.t 62), some (57, true)⟩, ⟨some 64, .ld false 1 (.t 63), some (57, true)⟩, ⟨some 65, .bin .geq (.t 58) (.t 64), some (57, true)⟩, ⟨some 66, .pick (.t 57) (.t 65) (kb false), none⟩])
 (.cond (.t 66)
 (.reg false [⟨some 67, .mv (.t 10), none⟩, ⟨some 68, .mv (.t 12), none⟩, ⟨some 69, .bin .add (.t 67) (.t 68), none⟩, ⟨some 70, .mv (.t 1), none⟩, ⟨some 71, .mv (.t 11), none⟩, ⟨some 72, .bin .sub (.t 71) (ki 1), none⟩, ⟨some 73, .ia 2 (.t 70) (.t 72), none⟩, ⟨some 74, .fa 1 (.t 73), none⟩, ⟨some 75, .ld false 1 (.t 74), none⟩, ⟨some 76, .bin .sub (.t 69) (.t 75), none⟩, ⟨some 10, .mv (.t 76), none⟩])
 (.seq (.reg false [⟨some 77, .mv (.t 11), none⟩, ⟨some 78, .bin .gtr (.t 77) (ki 0), none⟩, ⟨some 79, .mv (.t 78), none⟩, ⟨some 80, .mv (.t 12), some (79, true)⟩, ⟨some 81, .bin .gtr (.t 80) (ki 0), some (79, true)⟩, ⟨some 82, .pick (.t 79) (.t 81) (kb false), none⟩])
 (.cond (.t 82)
 (.reg false [⟨some 83, .mv (.t 10), none⟩, ⟨some 84, .mv (.t 12), none⟩, ⟨some 85, .bin .add (.t 83) (.t 84), none⟩, ⟨some 10, .mv (.t 85), none⟩])
 .skip)))))))))
 (.reg false [⟨some 29, .mv (.t 11), none⟩, ⟨some 30, .bin .add (.t 29) (ki 1), none⟩, ⟨some 11, .mv (.t 30), none⟩]))))))
 (.seq (.seq (.reg false [⟨some 86, .mv (.t 0), none⟩])
 (.block 2 (.seq (.reg false [⟨some 88, .bin .eql (.t 86) (ki 1), none⟩, ⟨some 87, .mv (.t 88), none⟩])
 (.cond (.t 87)
 (.seq (.reg false [⟨some 89, .mv (.t 7), none⟩, ⟨some 4, .mv (.t 89), none⟩, ⟨some 5, .mv (kb true), none⟩])
 .ret)
 (.seq (.reg false [⟨some 91, .bin .eql (.t 86) (ki 4), none⟩, ⟨some 90, .mv (.t 91), none⟩])
 (.cond (.t 90)
 (.seq (.reg false [⟨some 92, .mv (.t 6), none⟩, ⟨some 4, .mv (.t 92), none⟩, ⟨some 5, .mv (kb true), none⟩])
 .ret)
 (.seq (.reg false [⟨some 94, .bin .eql (.t 86) (ki 2), none⟩, ⟨some 93, .mv (.t 94), none⟩])
 (.cond (.t 93)
 (.seq (.reg false [⟨some 95, .mv (.t 8), none⟩, ⟨some 96, .mv (.t 6), none⟩, ⟨some 97, .bin .gtr (.t 96) (ki 0), none⟩, ⟨some 4, .mv (.t 95), none⟩, ⟨some 5, .mv (.t 97), none⟩])
 .ret)
 (.seq (.reg false [⟨some 99, .bin .eql (.t 86) (ki 3), none⟩, ⟨some 98, .mv (.t 99), none⟩])
 (.cond (.t 98)
 (.seq (.reg false [⟨some 100, .mv (.t 9), none⟩, ⟨some 101, .mv (.t 6), none⟩, ⟨some 102, .bin .gtr (.t 101) (ki 0), none⟩, ⟨some 4, .mv (.t 100), none⟩, ⟨some 5, .mv (.t 102), none⟩])
 .ret)
 .skip))))))))))
 (.seq (.seq (.reg false [⟨some 103, .mv (.t 6), none⟩, ⟨some 104, .bin .lss (.t 103) (ki 2), none⟩])
 (.cond (.t 104)
 (.seq (.reg false [⟨some 4, .mv (ki 0), none⟩, ⟨some 5, .mv (kb false), none⟩])
 .ret)
 .skip))
 (.seq (.reg true [⟨some 105, .mv (.t 10), none⟩, ⟨some 106, .bin .mul (.t 105) (ki 60), none⟩, ⟨some 107, .mv (.t 1), none⟩, ⟨some 108, .mv (.t 6), none⟩, ⟨some 109, .bin .sub (.t 108) (ki 1), none⟩, ⟨some 110, .ia 2 (.t 107) (.t 109), none⟩, ⟨some 111, .fa 0 (.t 110), none⟩, ⟨some 112, .ld false 1 (.t 111), none⟩, ⟨some 113, .mv (.t 1), none⟩, ⟨some 114, .ia 2 (.t 113) (ki 0), none⟩, ⟨some 115, .fa 0 (.t 114), none⟩, ⟨some 116, .ld false 1 (.t 115), none⟩, ⟨some 117, .bin .sub (.t 112) (.t 116), none⟩, ⟨some 118, .bin .quo (.t 106) (.t 117), none⟩, ⟨some 4, .mv (.t 118), none⟩, ⟨some 5, .mv (kb true), none⟩])
 .ret))))))))
abbrev n_windroseref13_Of : Nat := 101
theorem F_windroseref13_Of : Fun Tryz.prog n_windroseref13_Of 119 c_windroseref13_Of [.t 4, .t 5] := ⟨⟨Tryz.f101, _, Tryz.func101, by kernel_rfl, rfl, rfl, by kernel_rfl, by kernel_rfl⟩⟩
/-- windrose/windroseref12.Range -/
def c_windroseref12_Range : C :=
 (.seq (.reg false [⟨some 6, .mv (.k (.one (.c (.v (.slice none 0 0))))), none⟩])
 (.seq (.reg false [⟨some 9, .bsl 33 2 0 [.int .i64 0, .int .i64 0] [], none⟩, ⟨some 7, .mv (.t 9), none⟩])
 (.seq (.seq (.reg false [⟨some 8, .mv (ki 0), none⟩])
 (.block 0 (.loop (.seq (.seq (.reg false [⟨some 10, .mv (.t 8), none⟩, ⟨some 11, .mv (.t 0), none⟩, ⟨some 12, .len (.t 11), none⟩, ⟨some 13, .bin .lss (.t 10) (.t 12), none⟩])
 (.cond (.t 13)
 .skip
 (.exit 0)))
 (.seq (.block 1 (.seq (.reg false [⟨some 16, .mv (.t 0), none⟩, ⟨some 17, .mv (.t 8), none⟩, ⟨some 18, .ia 2 (.t 16) (.t 17), none⟩, ⟨some 19, .fa 0 (.t 18), none⟩, ⟨some 20, .ld false 1 (.t 19), none⟩, ⟨some 21, .mv (.t 1), none⟩, ⟨some 22, .bin .geq (.t 20) (.t 21), none⟩, ⟨some 23, .mv (.t 22), none⟩, ⟨some 24, .mv (.t 0), some (23, true)⟩, ⟨some 25, .mv (.t 8), some (23, true)⟩, ⟨some 26, .ia 2 (.t 24) (.t 25), some (23, true)⟩, ⟨some 27, .fa 0 (.t 26), some (23, true)⟩, ⟨some 28, .ld false 1 (.t 27), some (23, true)⟩, ⟨some 29, .mv (.t 2), some (23, true)⟩, ⟨some 30, .bin .lss (.t 28) (.t 29), some (23, true)⟩, ⟨some 31, .pick (.t 23) (.t 30) (kb false), none⟩])
 (.cond (.t 31)
 (.reg false [⟨some 32, .mv (.t 7), none⟩, ⟨some 33, .mv (.t 0), none⟩, ⟨some 34, .mv (.t 8), none⟩, ⟨some 35, .ia 2 (.t 33) (.t 34), none⟩, ⟨some 36, .ld true 2 (.t 35), none⟩, ⟨some 37, .bsl 33 2 1 [.int .i64 0, .int .i64 0] [(0, (.t 36))], none⟩, ⟨some 38, .app 33 2 16 [.int .i64 0, .int .i64 0] (.t 32) (.t 37), none⟩, ⟨some 7, .mv (.t 38), none⟩])
 .skip)))
 (.reg false [⟨some 14, .mv (.t 8), none⟩, ⟨some 15, .bin .add (.t 14) (ki 1), none⟩, ⟨some 8, .mv (.t 15), none⟩]))))))
 (.seq (.reg false [⟨some 39, .mv (.t 7), none⟩, ⟨some 6, .mv (.t 39), none⟩])
 .ret))))
abbrev n_windroseref12_Range : Nat := 102
theorem F_windroseref12_Range : Fun Tryz.prog n_windroseref12_Range 40 c_windroseref12_Range [.t 6] := ⟨⟨Tryz.f102, _, Tryz.func102, by kernel_rfl, rfl, rfl, by kernel_rfl, by kernel_rfl⟩⟩
/-- windrose/shelf.line -/
def c_shelf_line : C :=
 (.seq (.reg false [⟨some 2, .box 29 3 (.t 0), none⟩, ⟨some 4, .mv (ki 0), none⟩, ⟨some 5, .mv (kb false), none⟩])
 (.seq (.reg false [⟨some 6, .fa 0 (.t 2), none⟩, ⟨some 7, .ld false 1 (.t 6), none⟩, ⟨some 8, .mv (.t 1), none⟩, ⟨some 9, .call (kf 131) [(.t 7), (.t 8), (kf 132)], none⟩, ⟨some 10, .ex (.t 9) 0, none⟩, ⟨some 11, .ex (.t 9) 1, none⟩, ⟨some 4, .mv (.t 10), none⟩, ⟨some 5, .mv (.t 11), none⟩])
 .ret))
abbrev n_shelf_line : Nat := 106
theorem F_shelf_line : Fun Tryz.prog n_shelf_line 12 c_shelf_line [.t 4, .t 5] := ⟨⟨Tryz.f106, _, Tryz.func106, by kernel_rfl, rfl, rfl, by kernel_rfl, by kernel_rfl⟩⟩
/-- slices.Insert[[]windrose/api.Line,windrose/api.Line] -/
def c_slices_Insert_api_Line_api_Line : C :=
 (.seq (.reg false [⟨some 6, .mv (.k (.one (.c (.v (.slice none 0 0))))), none⟩])
 (.seq (.reg false [⟨some 10, .mv (.t 0), none⟩, ⟨some 11, .mv (.t 1), none⟩, ⟨some 12, .slc 2 (.t 10) (some (.t 11)) none, none⟩])
 (.seq (.reg false [⟨some 13, .mv (.t 2), none⟩, ⟨some 14, .len (.t 13), none⟩, ⟨some 7, .mv (.t 14), none⟩])
 (.seq (.seq (.reg false [⟨some 15, .mv (.t 7), none⟩, ⟨some 16, .bin .eql (.t 15) (ki 0), none⟩])
 (.cond (.t 16)
 (.seq (.reg false [⟨some 17, .mv (.t 0), none⟩, ⟨some 6, .mv (.t 17), none⟩])
 .ret)
 .skip))
 (.seq (.reg false [⟨some 18, .mv (.t 0), none⟩, ⟨some 19, .len (.t 18), none⟩, ⟨some 8, .mv (.t 19), none⟩])
 (.seq (.seq (.reg false [⟨some 20, .mv (.t 1), none⟩, ⟨some 21, .mv (.t 8), none⟩, ⟨some 22, .bin .eql (.t 20) (.t 21), none⟩])
 (.cond (.t 22)
 (.seq (.reg false [⟨some 23, .mv (.t 0), none⟩, ⟨some 24, .mv (.t 2), none⟩, ⟨some 25, .app 49 2 40 [.string ⟨#[]⟩, .slice none 0 0] (.t 23) (.t 24), none⟩, ⟨some 6, .mv (.t 25), none⟩])
 .ret)
 .skip))
 (.seq (.seq (.reg false [⟨some 26, .mv (.t 8), none⟩, ⟨some 27, .mv (.t 7), none⟩, ⟨some 28, .bin .add (.t 26) (.t 27), none⟩, ⟨some 29, .mv (.t 0), none⟩, ⟨some 30, .cap (.t 29), none⟩, ⟨some 31, .bin .gtr (.t 28) (.t 30), none⟩])
 (.cond (.t 31)
 (.seq (.reg false [⟨some 32, .mv (.t 0), none⟩, ⟨some 33, .mv (.t 1), none⟩, ⟨some 34, .slc 2 (.t 32) none (some (.t 33)), none⟩, ⟨some 35, .mv (.t 8), none⟩, ⟨some 36, .mv (.t 7), none⟩, ⟨some 37, .bin .add (.t 35) (.t 36), none⟩, ⟨some 38, .mv (.t 1), none⟩, ⟨some 39, .bin .sub (.t 37) (.t 38), none⟩, ⟨some 40, .apz 49 2 40 [.string ⟨#[]⟩, .slice none 0 0] (.t 34) (.t 39), none⟩, ⟨some 9, .mv (.t 40), none⟩])
 (.seq (.reg false [⟨some 41, .mv (.t 9), none⟩, ⟨some 42, .mv (.t 1), none⟩, ⟨some 43, .slc 2 (.t 41) (some (.t 42)) none, none⟩, ⟨some 44, .mv (.t 2), none⟩, ⟨some 45, .cpy 2 (.t 43) (.t 44), none⟩])
 (.seq (.reg true [⟨some 46, .mv (.t 9), none⟩, ⟨some 47, .mv (.t 1), none⟩, ⟨some 48, .mv (.t 7), none⟩, ⟨some 49, .bin .add (.t 47) (.t 48), none⟩, ⟨some 50, .slc 2 (.t 46) (some (.t 49)) none, none⟩, ⟨some 51, .mv (.t 0), none⟩, ⟨some 52, .mv (.t 1), none⟩, ⟨some 53, .slc 2 (.t 51) (some (.t 52)) none, none⟩, ⟨some 54, .cpy 2 (.t 50) (.t 53), none⟩])
 (.seq (.reg false [⟨some 55, .mv (.t 9), none⟩, ⟨some 6, .mv (.t 55), none⟩])
 .ret))))
 .skip))
 (.seq (.reg false [⟨some 56, .mv (.t 0), none⟩, ⟨some 57, .mv (.t 8), none⟩, ⟨some 58, .mv (.t 7), none⟩, ⟨some 59, .bin .add (.t 57) (.t 58), none⟩, ⟨some 60, .slc 2 (.t 56) none (some (.t 59)), none⟩, ⟨some 0, .mv (.t 60), none⟩])
 (.seq (.seq (.reg false [⟨some 61, .mv (.t 2), none⟩, ⟨some 62, .mv (.t 0), none⟩, ⟨some 63, .mv (.t 1), none⟩, ⟨some 64, .mv (.t 7), none⟩, ⟨some 65, .bin .add (.t 63) (.t 64), none⟩, ⟨some 66, .slc 2 (.t 62) (some (.t 65)) none, none⟩, ⟨some 67, .call (kf 133) [(.t 61), (.t 66)], none⟩, ⟨some 68, .un .not (.t 67), none⟩])
 (.cond (.t 68)
 (.seq (.reg true [⟨some 69, .mv (.t 0), none⟩, ⟨some 70, .mv (.t 1), none⟩, ⟨some 71, .mv (.t 7), none⟩, ⟨some 72, .bin .add (.t 70) (.t 71), none⟩, ⟨some 73, .slc 2 (.t 69) (some (.t 72)) none, none⟩, ⟨some 74, .mv (.t 0), none⟩, ⟨some 75, .mv (.t 1), none⟩, ⟨some 76, .slc 2 (.t 74) (some (.t 75)) none, none⟩, ⟨some 77, .cpy 2 (.t 73) (.t 76), none⟩])
 (.seq (.reg false [⟨some 78, .mv (.t 0), none⟩, ⟨some 79, .mv (.t 1), none⟩, ⟨some 80, .slc 2 (.t 78) (some (.t 79)) none, none⟩, ⟨some 81, .mv (.t 2), none⟩, ⟨some 82, .cpy 2 (.t 80) (.t 81), none⟩])
 (.seq (.reg false [⟨some 83, .mv (.t 0), none⟩, ⟨some 6, .mv (.t 83), none⟩])
 .ret)))
 .skip))
 (.seq (.reg false [⟨some 84, .mv (.t 0), none⟩, ⟨some 85, .mv (.t 8), none⟩, ⟨some 86, .slc 2 (.t 84) (some (.t 85)) none, none⟩, ⟨some 87, .mv (.t 2), none⟩, ⟨some 88, .cpy 2 (.t 86) (.t 87), none⟩])
 (.seq (.reg false [⟨some 89, .mv (.t 0), none⟩, ⟨some 90, .mv (.t 1), none⟩, ⟨some 91, .slc 2 (.t 89) (some (.t 90)) none, none⟩, ⟨some 92, .mv (.t 7), none⟩, ⟨some 93, .call (kf 134) [(.t 91), (.t 92)], none⟩])
 (.seq (.reg false [⟨some 94, .mv (.t 0), none⟩, ⟨some 6, .mv (.t 94), none⟩])
 .ret))))))))))))
abbrev n_slices_Insert_api_Line_api_Line : Nat := 107
theorem F_slices_Insert_api_Line_api_Line : Fun Tryz.prog n_slices_Insert_api_Line_api_Line 95 c_slices_Insert_api_Line_api_Line [.t 6] := ⟨⟨Tryz.f107, _, Tryz.func107, by kernel_rfl, rfl, rfl, by kernel_rfl, by kernel_rfl⟩⟩
/-- windrose/samples.Put -/
def c_samples_Put : C :=
 (.seq (.reg false [⟨some 3, .box 33 2 (.t 1), none⟩, ⟨some 4, .mv (.k (.one (.c (.v (.slice none 0 0))))), none⟩, ⟨some 5, .mv (ki 0), none⟩])
 (.seq (.seq (.reg false [⟨some 9, .mv (.t 0), none⟩, ⟨some 10, .call (kf 57) [(.t 9)], none⟩, ⟨some 6, .mv (.t 10), none⟩])
 (.seq (.reg false [⟨some 11, .mv (.t 6), none⟩, ⟨some 12, .bin .neq (.t 11) (ki 0), none⟩])
 (.cond (.t 12)
 (.seq (.reg false [⟨some 13, .mv (.t 6), none⟩, ⟨some 4, .mv (.k (.one (.c (.v (.slice none 0 0))))), none⟩, ⟨some 5, .mv (.t 13), none⟩])
 .ret)
 .skip)))
 (.seq (.reg false [⟨some 14, .mv (.t 0), none⟩, ⟨some 15, .call (kf 87) [(.t 14)], none⟩, ⟨some 0, .mv (.t 15), none⟩])
 (.seq (.reg false [⟨some 17, .mv (.t 0), none⟩, ⟨some 18, .fa 0 (.t 3), none⟩, ⟨some 19, .ld false 1 (.t 18), none⟩, ⟨some 20, .call (kf 135) [(.t 17), (.t 19)], none⟩, ⟨some 16, .mv (.t 20), none⟩, ⟨some 21, .ex (.t 16) 0, none⟩, ⟨some 22, .ex (.t 16) 1, none⟩, ⟨some 7, .mv (.t 21), none⟩, ⟨some 8, .mv (.t 22), none⟩])
 (.seq (.block 0 (.seq (.reg false [⟨some 24, .ld true 2 (.t 3), none⟩, ⟨some 25, .bsl 33 2 1 [.int .i64 0, .int .i64 0] [(0, (.t 24))], none⟩, ⟨some 26, .call (kf 57) [(.t 25)], none⟩, ⟨some 27, .bin .neq (.t 26) (ki 0), none⟩, ⟨some 23, .mv (.t 27), none⟩])
 (.cond (.t 23)
 (.seq (.reg false [⟨some 28, .mv (.t 0), none⟩, ⟨some 4, .mv (.t 28), none⟩, ⟨some 5, .mv (ki 1), none⟩])
 .ret)
 (.seq (.reg true [⟨some 30, .mv (.t 8), none⟩, ⟨some 31, .mv (.t 30), none⟩, ⟨some 32, .mv (.t 0), some (31, true)⟩, ⟨some 33, .mv (.t 7), some (31, true)⟩, ⟨some 34, .ia 2 (.t 32) (.t 33), some (31, true)⟩, ⟨some 35, .ld true 2 (.t 34), some (31, true)⟩, ⟨some 36, .ld true 2 (.t 3), some (31, true)⟩, ⟨some 37, .eqa [1, 1] false (.t 35) (.t 36), some (31, true)⟩, ⟨some 38, .pick (.t 31) (.t 37) (kb false), none⟩, ⟨some 29, .mv (.t 38), none⟩])
 (.cond (.t 29)
 (.seq (.reg false [⟨some 39, .mv (.t 0), none⟩, ⟨some 4, .mv (.t 39), none⟩, ⟨some 5, .mv (ki 7), none⟩])
 .ret)
 (.seq (.reg false [⟨some 41, .mv (.t 8), none⟩, ⟨some 40, .mv (.t 41), none⟩])
 (.cond (.t 40)
 (.seq (.reg false [⟨some 42, .mv (.t 0), none⟩, ⟨some 4, .mv (.t 42), none⟩, ⟨some 5, .mv (ki 8), none⟩])
 .ret)
 (.seq (.reg false [⟨some 44, .mv (.t 0), none⟩, ⟨some 45, .len (.t 44), none⟩, ⟨some 46, .bin .eql (.t 45) (ki 64), none⟩, ⟨some 43, .mv (.t 46), none⟩])
 (.cond (.t 43)
 (.seq (.reg false [⟨some 47, .mv (.t 0), none⟩, ⟨some 4, .mv (.t 47), none⟩, ⟨some 5, .mv (ki 6), none⟩])
 .ret)
 .skip)))))))))
 (.seq (.reg false [⟨some 48, .mv (.t 0), none⟩, ⟨some 49, .mv (.t 7), none⟩, ⟨some 50, .ld true 2 (.t 3), none⟩, ⟨some 51, .bsl 33 2 1 [.int .i64 0, .int .i64 0] [(0, (.t 50))], none⟩, ⟨some 52, .call (kf 136) [(.t 48), (.t 49), (.t 51)], none⟩, ⟨some 4, .mv (.t 52), none⟩, ⟨some 5, .mv (ki 0), none⟩])
 .ret))))))
abbrev n_samples_Put : Nat := 108
theorem F_samples_Put : Fun Tryz.prog n_samples_Put 53 c_samples_Put [.t 4, .t 5] := ⟨⟨Tryz.f108, _, Tryz.func108, by kernel_rfl, rfl, rfl, by kernel_rfl, by kernel_rfl⟩⟩
/-- windrose/samples.Trim -/
def c_samples_Trim : C :=
 (.seq (.reg false [⟨some 4, .mv (.k (.one (.c (.v (.slice none 0 0))))), none⟩])
 (.seq (.seq (.reg false [⟨some 7, .mv (.t 0), none⟩, ⟨some 8, .call (kf 57) [(.t 7)], none⟩, ⟨some 9, .bin .neq (.t 8) (ki 0), none⟩])
 (.cond (.t 9)
 (.seq (.reg false [⟨some 4, .mv (.k (.one (.c (.v (.slice none 0 0))))), none⟩])
 .ret)
 .skip))
 (.seq (.reg false [⟨some 11, .mv (.t 0), none⟩, ⟨some 12, .mv (.t 1), none⟩, ⟨some 13, .call (kf 135) [(.t 11), (.t 12)], none⟩, ⟨some 10, .mv (.t 13), none⟩, ⟨some 14, .ex (.t 10) 0, none⟩, ⟨some 15, .ex (.t 10) 1, none⟩, ⟨some 5, .mv (.t 14), none⟩, ⟨some 6, .mv (.t 15), none⟩])
 (.seq (.reg false [⟨some 16, .mv (.t 0), none⟩, ⟨some 17, .mv (.t 5), none⟩, ⟨some 18, .slc 2 (.t 16) (some (.t 17)) none, none⟩, ⟨some 19, .call (kf 87) [(.t 18)], none⟩, ⟨some 4, .mv (.t 19), none⟩])
 .ret))))
abbrev n_samples_Trim : Nat := 109
theorem F_samples_Trim : Fun Tryz.prog n_samples_Trim 20 c_samples_Trim [.t 4] := ⟨⟨Tryz.f109, _, Tryz.func109, by kernel_rfl, rfl, rfl, by kernel_rfl, by kernel_rfl⟩⟩
/-- slices.DeleteFunc[[]windrose/api.Line,windrose/api.Line] -/
def c_slices_DeleteFunc_api_Line_api_Line : C :=
 (.seq (.reg false [⟨some 4, .mv (.k (.one (.c (.v (.slice none 0 0))))), none⟩])
 (.seq (.reg false [⟨some 8, .mv (.t 0), none⟩, ⟨some 9, .mv (.t 1), none⟩, ⟨some 10, .call (kf 137) [(.t 8), (.t 9)], none⟩, ⟨some 5, .mv (.t 10), none⟩])
 (.seq (.seq (.reg false [⟨some 11, .mv (.t 5), none⟩, ⟨some 12, .bin .eql (.t 11) (ki (-1)), none⟩])
 (.cond (.t 12)
 (.seq (.reg false [⟨some 13, .mv (.t 0), none⟩, ⟨some 4, .mv (.t 13), none⟩])
 .ret)
 .skip))
 (.seq (.seq (.reg false [⟨some 14, .mv (.t 5), none⟩, ⟨some 15, .bin .add (.t 14) (ki 1), none⟩, ⟨some 6, .mv (.t 15), none⟩])
 (.block 0 (.loop (.seq (.seq (.reg false [⟨some 16, .mv (.t 6), none⟩, ⟨some 17, .mv (.t 0), none⟩, ⟨some 18, .len (.t 17), none⟩, ⟨some 19, .bin .lss (.t 16) (.t 18), none⟩])
 (.cond (.t 19)
 .skip
 (.exit 0)))
 (.seq (.block 1 (.seq (.reg false [⟨some 22, .mv (.t 0), none⟩, ⟨some 23, .mv (.t 6), none⟩, ⟨some 24, .ia 2 (.t 22) (.t 23), none⟩, ⟨some 25, .ld true 2 (.t 24), none⟩, ⟨some 7, .alloc 49 2 [.string ⟨#[]⟩, .slice none 0 0], none⟩, ⟨none, .st 2 (.t 7) (.t 25), none⟩])
 (.seq (.reg false [⟨some 26, .mv (.t 1), none⟩, ⟨some 27, .ld true 2 (.t 7), none⟩, ⟨some 28, .call (.t 26) [(.t 27)], none⟩, ⟨some 29, .un .not (.t 28), none⟩])
 (.cond (.t 29)
 (.seq (.reg false [⟨some 30, .mv (.t 0), none⟩, ⟨some 31, .mv (.t 5), none⟩, ⟨some 32, .ld true 2 (.t 7), none⟩, ⟨some 33, .ia 2 (.t 30) (.t 31), none⟩, ⟨none, .st 2 (.t 33) (.t 32), none⟩])
 (.reg false [⟨some 34, .mv (.t 5), none⟩, ⟨some 35, .bin .add (.t 34) (ki 1), none⟩, ⟨some 5, .mv (.t 35), none⟩]))
 .skip))))
 (.reg false [⟨some 20, .mv (.t 6), none⟩, ⟨some 21, .bin .add (.t 20) (ki 1), none⟩, ⟨some 6, .mv (.t 21), none⟩]))))))
 (.seq (.reg false [⟨some 36, .mv (.t 0), none⟩, ⟨some 37, .mv (.t 5), none⟩, ⟨some 38, .slc 2 (.t 36) (some (.t 37)) none, none⟩, ⟨none, .clr 2 [.string ⟨#[]⟩, .slice none 0 0] (.t 38), none⟩])
 (.seq (.reg false [⟨some 39, .mv (.t 0), none⟩, ⟨some 40, .mv (.t 5), none⟩, ⟨some 41, .slc 2 (.t 39) none (some (.t 40)), none⟩, ⟨some 4, .mv (.t 41), none⟩])
 .ret))))))
abbrev n_slices_DeleteFunc_api_Line_api_Line : Nat := 110
theorem F_slices_DeleteFunc_api_Line_api_Line : Fun Tryz.prog n_slices_DeleteFunc_api_Line_api_Line 42 c_slices_DeleteFunc_api_Line_api_Line [.t 4] := ⟨⟨Tryz.f110, _, Tryz.func110, by kernel_rfl, rfl, rfl, by kernel_rfl, by kernel_rfl⟩⟩
/-- windrose/shelf.trim$1 -/
def c_shelf_trim_1 : C :=
 (.seq (.reg false [⟨some 1, .box 49 2 (.t 0), none⟩, ⟨some 2, .mv (kb false), none⟩])
 (.seq (.reg false [⟨some 3, .fa 1 (.t 1), none⟩, ⟨some 4, .ld false 1 (.t 3), none⟩, ⟨some 5, .len (.t 4), none⟩, ⟨some 6, .bin .eql (.t 5) (ki 0), none⟩, ⟨some 2, .mv (.t 6), none⟩])
 .ret))
abbrev n_shelf_trim_1 : Nat := 111
theorem F_shelf_trim_1 : Fun Tryz.prog n_shelf_trim_1 7 c_shelf_trim_1 [.t 2] := ⟨⟨Tryz.f111, _, Tryz.func111, by kernel_rfl, rfl, rfl, by kernel_rfl, by kernel_rfl⟩⟩
/-- windrose/samples.Get -/
def c_samples_Get : C :=
 (.seq (.reg false [⟨some 4, .alloc 33 2 [.int .i64 0, .int .i64 0], none⟩, ⟨some 5, .mv (kb false), none⟩])
 (.seq (.reg false [⟨some 9, .mv (.t 0), none⟩, ⟨some 10, .mv (.t 1), none⟩, ⟨some 11, .call (kf 135) [(.t 9), (.t 10)], none⟩, ⟨some 8, .mv (.t 11), none⟩, ⟨some 12, .ex (.t 8) 0, none⟩, ⟨some 13, .ex (.t 8) 1, none⟩, ⟨some 6, .mv (.t 12), none⟩, ⟨some 7, .mv (.t 13), none⟩])
 (.seq (.seq (.reg false [⟨some 14, .mv (.t 7), none⟩, ⟨some 15, .un .not (.t 14), none⟩, ⟨some 16, .mv (.t 15), none⟩, ⟨some 17, .mv (.t 0), some (16, false)⟩, ⟨some 18, .call (kf 57) [(.t 17)], some (16, false)⟩, ⟨some 19, .bin .neq (.t 18) (ki 0), some (16, false)⟩, ⟨some 20, .pick (.t 16) (kb true) (.t 19), none⟩])
 (.cond (.t 20)
 (.seq (.reg false [⟨some 21, .bld [.int .i64 0, .int .i64 0] [], none⟩, ⟨none, .st 2 (.t 4) (.t 21), none⟩, ⟨some 5, .mv (kb false), none⟩])
 .ret)
 .skip))
 (.seq (.reg false [⟨some 22, .mv (.t 0), none⟩, ⟨some 23, .mv (.t 6), none⟩, ⟨some 24, .ia 2 (.t 22) (.t 23), none⟩, ⟨some 25, .ld true 2 (.t 24), none⟩, ⟨none, .st 2 (.t 4) (.t 25), none⟩, ⟨some 5, .mv (kb true), none⟩])
 .ret))))
abbrev n_samples_Get : Nat := 112
theorem F_samples_Get : Fun Tryz.prog n_samples_Get 26 c_samples_Get [.l true 2 4, .t 5] := ⟨⟨Tryz.f112, _, Tryz.func112, by kernel_rfl, rfl, rfl, by kernel_rfl, by kernel_rfl⟩⟩
/-- windrose/total.Of -/
def c_total_Of : C :=
 (.seq (.reg false [⟨some 4, .mv (ki 0), none⟩, ⟨some 5, .mv (kb false), none⟩])
 (.seq (.seq (.reg false [⟨some 9, .mv (.t 1), none⟩, ⟨some 10, .call (kf 57) [(.t 9)], none⟩, ⟨some 11, .bin .neq (.t 10) (ki 0), none⟩, ⟨some 12, .mv (.t 11), none⟩, ⟨some 13, .mv (.t 0), some (12, false)⟩, ⟨some 14, .bin .lss (.t 13) (ki 1), some (12, false)⟩, ⟨some 15, .pick (.t 12) (kb true) (.t 14), none⟩, ⟨some 16, .mv (.t 15), none⟩, ⟨some 17, .mv (.t 0), some (16, false)⟩, ⟨some 18, .bin .geq (.t 17) (ki 6), some (16, false)⟩, ⟨some 19, .pick (.t 16) (kb true) (.t 18), none⟩])
 (.cond (.t 19)
 (.seq (.reg false [⟨some 4, .mv (ki 0), none⟩, ⟨some 5, .mv (kb false), none⟩])
 .ret)
 .skip))
 (.seq (.seq (.reg false [⟨some 20, .mv (.t 0), none⟩])
 (.block 0 (.seq (.reg false [⟨some 22, .bin .eql (.t 20) (ki 4), none⟩, ⟨some 21, .mv (.t 22), none⟩])
 (.cond (.t 21)
 (.seq (.reg false [⟨some 23, .mv (.t 1), none⟩, ⟨some 24, .len (.t 23), none⟩, ⟨some 4, .mv (.t 24), none⟩, ⟨some 5, .mv (kb true), none⟩])
 .ret)
 (.seq (.reg false [⟨some 26, .bin .eql (.t 20) (ki 5), none⟩, ⟨some 25, .mv (.t 26), none⟩])
 (.cond (.t 25)
 (.seq (.reg false [⟨some 27, .mv (.t 1), none⟩, ⟨some 28, .call (kf 138) [(.t 27)], none⟩, ⟨some 29, .ex (.t 28) 0, none⟩, ⟨some 30, .ex (.t 28) 1, none⟩, ⟨some 4, .mv (.t 29), none⟩, ⟨some 5, .mv (.t 30), none⟩])
 .ret)
 .skip))))))
 (.seq (.reg false [⟨some 6, .mv (ki 0), none⟩])
 (.seq (.seq (.reg false [⟨some 31, .mv (.t 1), none⟩, ⟨some 32, .len (.t 31), none⟩, ⟨some 33, .mv (ki 0), none⟩])
 (.block 1 (.loop (.seq (.reg false [⟨some 34, .bin .lss (.t 33) (.t 32), none⟩])
 (.seq (.cond (.t 34)
 .skip
 (.exit 1))
 (.seq (.block 2 (.seq (.reg false [⟨some 35, .mv (.t 33), none⟩, ⟨some 36, .ia 2 (.t 31) (.t 33), none⟩, ⟨some 37, .ld true 2 (.t 36), none⟩, ⟨some 8, .alloc 33 2 [.int .i64 0, .int .i64 0], none⟩, ⟨some 7, .mv (.t 35), none⟩, ⟨none, .st 2 (.t 8) (.t 37), none⟩])
 (.seq (.reg false [⟨some 38, .mv (.t 7), none⟩, ⟨some 39, .bin .eql (.t 38) (ki 0), none⟩])
 (.cond (.t 39)
 (.reg false [⟨some 40, .fa 1 (.t 8), none⟩, ⟨some 41, .ld false 1 (.t 40), none⟩, ⟨some 6, .mv (.t 41), none⟩])
 (.reg false [⟨some 43, .mv (.t 0), none⟩, ⟨some 44, .mv (.t 6), none⟩, ⟨some 45, .fa 1 (.t 8), none⟩, ⟨some 46, .ld false 1 (.t 45), none⟩, ⟨some 47, .call (kf 139) [(.t 43), (.t 44), (.t 46)], none⟩, ⟨some 42, .mv (.t 47), none⟩, ⟨some 48, .ex (.t 42) 0, none⟩, ⟨some 49, .ex (.t 42) 1, none⟩, ⟨some 6, .mv (.t 48), none⟩])))))
 (.reg false [⟨some 50, .bin .add (.t 33) (ki 1), none⟩, ⟨some 33, .mv (.t 50), none⟩])))))))
 (.seq (.reg false [⟨some 51, .mv (.t 6), none⟩, ⟨some 52, .mv (.t 0), none⟩, ⟨some 53, .bin .eql (.t 52) (ki 1), none⟩, ⟨some 54, .mv (.t 53), none⟩, ⟨some 55, .mv (.t 1), some (54, false)⟩, ⟨some 56, .len (.t 55), some (54, false)⟩, ⟨some 57, .bin .gtr (.t 56) (ki 0), some (54, false)⟩, ⟨some 58, .pick (.t 54) (kb true) (.t 57), none⟩, ⟨some 4, .mv (.t 51), none⟩, ⟨some 5, .mv (.t 58), none⟩])
 .ret))))))
abbrev n_total_Of : Nat := 113
theorem F_total_Of : Fun Tryz.prog n_total_Of 59 c_total_Of [.t 4, .t 5] := ⟨⟨Tryz.f113, _, Tryz.func113, by kernel_rfl, rfl, rfl, by kernel_rfl, by kernel_rfl⟩⟩
/-- windrose/samples.Range -/
def c_samples_Range : C :=
 (.seq (.reg false [⟨some 6, .mv (.k (.one (.c (.v (.slice none 0 0))))), none⟩])
 (.seq (.seq (.reg false [⟨some 11, .mv (.t 0), none⟩, ⟨some 12, .call (kf 57) [(.t 11)], none⟩, ⟨some 13, .bin .neq (.t 12) (ki 0), none⟩])
 (.cond (.t 13)
 (.seq (.reg false [⟨some 6, .mv (.k (.one (.c (.v (.slice none 0 0))))), none⟩])
 .ret)
 .skip))
 (.seq (.reg false [⟨some 15, .mv (.t 0), none⟩, ⟨some 16, .mv (.t 1), none⟩, ⟨some 17, .call (kf 135) [(.t 15), (.t 16)], none⟩, ⟨some 14, .mv (.t 17), none⟩, ⟨some 18, .ex (.t 14) 0, none⟩, ⟨some 19, .ex (.t 14) 1, none⟩, ⟨some 7, .mv (.t 18), none⟩, ⟨some 8, .mv (.t 19), none⟩])
 (.seq (.reg false [⟨some 21, .mv (.t 0), none⟩, ⟨some 22, .mv (.t 2), none⟩, ⟨some 23, .call (kf 135) [(.t 21), (.t 22)], none⟩, ⟨some 20, .mv (.t 23), none⟩, ⟨some 24, .ex (.t 20) 0, none⟩, ⟨some 25, .ex (.t 20) 1, none⟩, ⟨some 9, .mv (.t 24), none⟩, ⟨some 10, .mv (.t 25), none⟩])
 (.seq (.reg false [⟨some 26, .mv (.t 0), none⟩, ⟨some 27, .mv (.t 7), none⟩, ⟨some 28, .mv (.t 7), none⟩, ⟨some 29, .mv (.t 9), none⟩, ⟨some 30, .mx (.t 28) (.t 29), none⟩, ⟨some 31, .slc 2 (.t 26) (some (.t 27)) (some (.t 30)), none⟩, ⟨some 32, .call (kf 87) [(.t 31)], none⟩, ⟨some 6, .mv (.t 32), none⟩])
 .ret)))))
abbrev n_samples_Range : Nat := 114
theorem F_samples_Range : Fun Tryz.prog n_samples_Range 33 c_samples_Range [.t 6] := ⟨⟨Tryz.f114, _, Tryz.func114, by kernel_rfl, rfl, rfl, by kernel_rfl, by kernel_rfl⟩⟩
/-- windrose/windroseref12.with -/
def c_windroseref12_with : C :=
 (.seq (.reg false [⟨some 3, .box 33 2 (.t 1), none⟩, ⟨some 4, .mv (.k (.one (.c (.v (.slice none 0 0))))), none⟩])
 (.seq (.reg false [⟨some 8, .bsl 33 2 0 [.int .i64 0, .int .i64 0] [], none⟩, ⟨some 5, .mv (.t 8), none⟩])
 (.seq (.reg false [⟨some 6, .mv (kb false), none⟩])
 (.seq (.seq (.reg false [⟨some 7, .mv (ki 0), none⟩])
 (.block 0 (.loop (.seq (.seq (.reg false [⟨some 9, .mv (.t 7), none⟩, ⟨some 10, .mv (.t 0), none⟩, ⟨some 11, .len (.t 10), none⟩, ⟨some 12, .bin .lss (.t 9) (.t 11), none⟩])
 (.cond (.t 12)
 .skip
 (.exit 0)))
 (.seq (.block 1 (.seq (.seq (.reg true [⟨some 15, .mv (.t 6), none⟩, ⟨some 16, .un .not (.t 15), none⟩, ⟨some 17, .mv (.t 16), none⟩, ⟨some 18, .mv (.t 0), some (17, true)⟩, ⟨some 19, .mv (.t 7), some (17, true)⟩, ⟨some 20, .ia 2 (.t 18) (.t 19), some (17, true)⟩, ⟨some 21, .fa 0 (.t 20), some (17, true)⟩, ⟨some 22, .ld false 1 (.t 21), some (17, true)⟩, ⟨some 23, .fa 0 (.t 3), some (17, true)⟩, ⟨some 24, .ld false 1 (.t 23), some (17, true)⟩, ⟨some 25, .bin .gtr (.t 22) (.t 24), some (17, true)⟩, ⟨some 26, .pick (.t 17) (.t 25) (kb false), none⟩])
 (.cond (.t 26)
 (.seq (.reg false [⟨some 27, .mv (.t 5), none⟩, ⟨some 28, .ld true 2 (.t 3), none⟩, ⟨some 29, .bsl 33 2 1 [.int .i64 0, .int .i64 0] [(0, (.t 28))], none⟩, ⟨some 30, .app 33 2 16 [.int .i64 0, .int .i64 0] (.t 27) (.t 29), none⟩, ⟨some 5, .mv (.t 30), none⟩])
 (.reg false [⟨some 6, .mv (kb true), none⟩]))
 .skip))
 (.reg false [⟨some 31, .mv (.t 5), none⟩, ⟨some 32, .mv (.t 0), none⟩, ⟨some 33, .mv (.t 7), none⟩, ⟨some 34, .ia 2 (.t 32) (.t 33), none⟩, ⟨some 35, .ld true 2 (.t 34), none⟩, ⟨some 36, .bsl 33 2 1 [.int .i64 0, .int .i64 0] [(0, (.t 35))], none⟩, ⟨some 37, .app 33 2 16 [.int .i64 0, .int .i64 0] (.t 31) (.t 36), none⟩, ⟨some 5, .mv (.t 37), none⟩])))
 (.reg false [⟨some 13, .mv (.t 7), none⟩, ⟨some 14, .bin .add (.t 13) (ki 1), none⟩, ⟨some 7, .mv (.t 14), none⟩]))))))
 (.seq (.seq (.reg false [⟨some 38, .mv (.t 6), none⟩, ⟨some 39, .un .not (.t 38), none⟩])
 (.cond (.t 39)
 (.reg false [⟨some 40, .mv (.t 5), none⟩, ⟨some 41, .ld true 2 (.t 3), none⟩, ⟨some 42, .bsl 33 2 1 [.int .i64 0, .int .i64 0] [(0, (.t 41))], none⟩, ⟨some 43, .app 33 2 16 [.int .i64 0, .int .i64 0] (.t 40) (.t 42), none⟩, ⟨some 5, .mv (.t 43), none⟩])
 .skip))
 (.seq (.reg false [⟨some 44, .mv (.t 5), none⟩, ⟨some 4, .mv (.t 44), none⟩])
 .ret))))))
abbrev n_windroseref12_with : Nat := 128
theorem F_windroseref12_with : Fun Tryz.prog n_windroseref12_with 45 c_windroseref12_with [.t 4] := ⟨⟨Tryz.f128, _, Tryz.func128, by kernel_rfl, rfl, rfl, by kernel_rfl, by kernel_rfl⟩⟩
/-- slices.BinarySearchFunc[[]windrose/api.Line,windrose/api.Line,string] -/
def c_slices_BinarySearchFunc_api_Line_api_Line_string : C :=
 (.seq (.reg false [⟨some 6, .mv (ki 0), none⟩, ⟨some 7, .mv (kb false), none⟩])
 (.seq (.reg false [⟨some 12, .mv (.t 0), none⟩, ⟨some 13, .len (.t 12), none⟩, ⟨some 8, .mv (.t 13), none⟩])
 (.seq (.reg false [⟨some 14, .mv (.t 8), none⟩, ⟨some 9, .mv (ki 0), none⟩, ⟨some 10, .mv (.t 14), none⟩])
 (.seq (.block 0 (.loop (.seq (.seq (.reg false [⟨some 15, .mv (.t 9), none⟩, ⟨some 16, .mv (.t 10), none⟩, ⟨some 17, .bin .lss (.t 15) (.t 16), none⟩])
 (.cond (.t 17)
 .skip
 (.exit 0)))
 (.block 1 (.seq (.reg false [⟨some 18, .mv (.t 9), none⟩, ⟨some 19, .mv (.t 10), none⟩, ⟨some 20, .bin .add (.t 18) (.t 19), none⟩, ⟨some 21, .cvi .u64 (.t 20), none⟩, ⟨some 22, .bin .shr (.t 21) (.k (.one (.c (.v (.int .u64 1))))), none⟩, ⟨some 23, .cvi .i64 (.t 22), none⟩, ⟨some 11, .mv (.t 23), none⟩])
 (.seq (.reg false [⟨some 24, .mv (.t 2), none⟩, ⟨some 25, .mv (.t 0), none⟩, ⟨some 26, .mv (.t 11), none⟩, ⟨some 27, .ia 2 (.t 25) (.t 26), none⟩, ⟨some 28, .ld true 2 (.t 27), none⟩, ⟨some 29, .mv (.t 1), none⟩, ⟨some 30, .call (.t 24) [(.t 28), (.t 29)], none⟩, ⟨some 31, .bin .lss (.t 30) (ki 0), none⟩])
 (.cond (.t 31)
 (.reg false [⟨some 32, .mv (.t 11), none⟩, ⟨some 33, .bin .add (.t 32) (ki 1), none⟩, ⟨some 9, .mv (.t 33), none⟩])
 (.reg false [⟨some 34, .mv (.t 11), none⟩, ⟨some 10, .mv (.t 34), none⟩]))))))))
 (.seq (.reg false [⟨some 35, .mv (.t 9), none⟩, ⟨some 36, .mv (.t 9), none⟩, ⟨some 37, .mv (.t 8), none⟩, ⟨some 38, .bin .lss (.t 36) (.t 37), none⟩, ⟨some 39, .mv (.t 38), none⟩, ⟨some 40, .mv (.t 2), some (39, true)⟩, ⟨some 41, .mv (.t 0), some (39, true)⟩, ⟨some 42, .mv (.t 9), some (39, true)⟩, ⟨some 43, .ia 2 (.t 41) (.t 42), some (39, true)⟩, ⟨some 44, .ld true 2 (.t 43), some (39, true)⟩, ⟨some 45, .mv (.t 1), some (39, true)⟩, ⟨some 46, .call (.t 40) [(.t 44), (.t 45)], some (39, true)⟩, ⟨some 47, .bin .eql (.t 46) (ki 0), some (39, true)⟩, ⟨some 48, .pick (.t 39) (.t 47) (kb false), none⟩, ⟨some 6, .mv (.t 35), none⟩, ⟨some 7, .mv (.t 48), none⟩])
 .ret)))))
abbrev n_slices_BinarySearchFunc_api_Line_api_Line_string : Nat := 131
theorem F_slices_BinarySearchFunc_api_Line_api_Line_string : Fun Tryz.prog n_slices_BinarySearchFunc_api_Line_api_Line_string 49 c_slices_BinarySearchFunc_api_Line_api_Line_string [.t 6, .t 7] := ⟨⟨Tryz.f131, _, Tryz.func131, by kernel_rfl, rfl, rfl, by kernel_rfl, by kernel_rfl⟩⟩
/-- windrose/shelf.line$1 -/
def c_shelf_line_1 : C :=
 (.seq (.reg false [⟨some 2, .box 49 2 (.t 0), none⟩, ⟨some 4, .mv (ki 0), none⟩])
 (.seq (.reg false [⟨some 5, .fa 0 (.t 2), none⟩, ⟨some 6, .ld false 1 (.t 5), none⟩, ⟨some 7, .mv (.t 1), none⟩, ⟨some 8, .call (kf 122) [(.t 6), (.t 7)], none⟩, ⟨some 4, .mv (.t 8), none⟩])
 .ret))
abbrev n_shelf_line_1 : Nat := 132
theorem F_shelf_line_1 : Fun Tryz.prog n_shelf_line_1 9 c_shelf_line_1 [.t 4] := ⟨⟨Tryz.f132, _, Tryz.func132, by kernel_rfl, rfl, rfl, by kernel_rfl, by kernel_rfl⟩⟩
/-- windrose/samples.at -/
def c_samples_at : C :=
 (.seq (.reg false [⟨some 4, .mv (ki 0), none⟩, ⟨some 5, .mv (kb false), none⟩])
 (.seq (.reg false [⟨some 6, .mv (.t 0), none⟩, ⟨some 7, .mv (.t 1), none⟩, ⟨some 8, .call (kf 150) [(.t 6), (.t 7), (kf 151)], none⟩, ⟨some 9, .ex (.t 8) 0, none⟩, ⟨some 10, .ex (.t 8) 1, none⟩, ⟨some 4, .mv (.t 9), none⟩, ⟨some 5, .mv (.t 10), none⟩])
 .ret))
abbrev n_samples_at : Nat := 135
theorem F_samples_at : Fun Tryz.prog n_samples_at 11 c_samples_at [.t 4, .t 5] := ⟨⟨Tryz.f135, _, Tryz.func135, by kernel_rfl, rfl, rfl, by kernel_rfl, by kernel_rfl⟩⟩
/-- slices.Insert[[]windrose/api.Sample,windrose/api.Sample] -/
def c_slices_Insert_api_Sample_api_Sample : C :=
 (.seq (.reg false [⟨some 6, .mv (.k (.one (.c (.v (.slice none 0 0))))), none⟩])
 (.seq (.reg false [⟨some 10, .mv (.t 0), none⟩, ⟨some 11, .mv (.t 1), none⟩, ⟨some 12, .slc 2 (.t 10) (some (.t 11)) none, none⟩])
 (.seq (.reg false [⟨some 13, .mv (.t 2), none⟩, ⟨some 14, .len (.t 13), none⟩, ⟨some 7, .mv (.t 14), none⟩])
 (.seq (.seq (.reg false [⟨some 15, .mv (.t 7), none⟩, ⟨some 16, .bin .eql (.t 15) (ki 0), none⟩])
 (.cond (.t 16)
 (.seq (.reg false [⟨some 17, .mv (.t 0), none⟩, ⟨some 6, .mv (.t 17), none⟩])
 .ret)
 .skip))
 (.seq (.reg false [⟨some 18, .mv (.t 0), none⟩, ⟨some 19, .len (.t 18), none⟩, ⟨some 8, .mv (.t 19), none⟩])
 (.seq (.seq (.reg false [⟨some 20, .mv (.t 1), none⟩, ⟨some 21, .mv (.t 8), none⟩, ⟨some 22, .bin .eql (.t 20) (.t 21), none⟩])
 (.cond (.t 22)
 (.seq (.reg false [⟨some 23, .mv (.t 0), none⟩, ⟨some 24, .mv (.t 2), none⟩, ⟨some 25, .app 33 2 16 [.int .i64 0, .int .i64 0] (.t 23) (.t 24), none⟩, ⟨some 6, .mv (.t 25), none⟩])
 .ret)
 .skip))
 (.seq (.seq (.reg false [⟨some 26, .mv (.t 8), none⟩, ⟨some 27, .mv (.t 7), none⟩, ⟨some 28, .bin .add (.t 26) (.t 27), none⟩, ⟨some 29, .mv (.t 0), none⟩, ⟨some 30, .cap (.t 29), none⟩, ⟨some 31, .bin .gtr (.t 28) (.t 30), none⟩])
 (.cond (.t 31)
 (.seq (.reg false [⟨some 32, .mv (.t 0), none⟩, ⟨some 33, .mv (.t 1), none⟩, ⟨some 34, .slc 2 (.t 32) none (some (.t 33)), none⟩, ⟨some 35, .mv (.t 8), none⟩, ⟨some 36, .mv (.t 7), none⟩, ⟨some 37, .bin .add (.t 35) (.t 36), none⟩, ⟨some 38, .mv (.t 1), none⟩, ⟨some 39, .bin .sub (.t 37) (.t 38), none⟩, ⟨some 40, .apz 33 2 16 [.int .i64 0, .int .i64 0] (.t 34) (.t 39), none⟩, ⟨some 9, .mv (.t 40), none⟩])
 (.seq (.reg false [⟨some 41, .mv (.t 9), none⟩, ⟨some 42, .mv (.t 1), none⟩, ⟨some 43, .slc 2 (.t 41) (some (.t 42)) none, none⟩, ⟨some 44, .mv (.t 2), none⟩, ⟨some 45, .cpy 2 (.t 43) (.t 44), none⟩])
 (.seq (.reg true [⟨some 46, .mv (.t 9), none⟩, ⟨some 47, .mv (.t 1), none⟩, ⟨some 48, .mv (.t 7), none⟩, ⟨some 49, .bin .add (.t 47) (.t 48), none⟩, ⟨some 50, .slc 2 (.t 46) (some (.t 49)) none, none⟩, ⟨some 51, .mv (.t 0), none⟩, ⟨some 52, .mv (.t 1), none⟩, ⟨some 53, .slc 2 (.t 51) (some (.t 52)) none, none⟩, ⟨some 54, .cpy 2 (.t 50) (.t 53), none⟩])
 (.seq (.reg false [⟨some 55, .mv (.t 9), none⟩, ⟨some 6, .mv (.t 55), none⟩])
 .ret))))
 .skip))
 (.seq (.reg false [⟨some 56, .mv (.t 0), none⟩, ⟨some 57, .mv (.t 8), none⟩, ⟨some 58, .mv (.t 7), none⟩, ⟨some 59, .bin .add (.t 57) (.t 58), none⟩, ⟨some 60, .slc 2 (.t 56) none (some (.t 59)), none⟩, ⟨some 0, .mv (.t 60), none⟩])
 (.seq (.seq (.reg false [⟨some 61, .mv (.t 2), none⟩, ⟨some 62, .mv (.t 0), none⟩, ⟨some 63, .mv (.t 1), none⟩, ⟨some 64, .mv (.t 7), none⟩, ⟨some 65, .bin .add (.t 63) (.t 64), none⟩, ⟨some 66, .slc 2 (.t 62) (some (.t 65)) none, none⟩, ⟨some 67, .call (kf 152) [(.t 61), (.t 66)], none⟩, ⟨some 68, .un .not (.t 67), none⟩])
 (.cond (.t 68)
 (.seq (.reg true [⟨some 69, .mv (.t 0), none⟩, ⟨some 70, .mv (.t 1), none⟩, ⟨some 71, .mv (.t 7), none⟩, ⟨some 72, .bin .add (.t 70) (.t 71), none⟩, ⟨some 73, .slc 2 (.t 69) (some (.t 72)) none, none⟩, ⟨some 74, .mv (.t 0), none⟩, ⟨some 75, .mv (.t 1), none⟩, ⟨some 76, .slc 2 (.t 74) (some (.t 75)) none, none⟩, ⟨some 77, .cpy 2 (.t 73) (.t 76), none⟩])
 (.seq (.reg false [⟨some 78, .mv (.t 0), none⟩, ⟨some 79, .mv (.t 1), none⟩, ⟨some 80, .slc 2 (.t 78) (some (.t 79)) none, none⟩, ⟨some 81, .mv (.t 2), none⟩, ⟨some 82, .cpy 2 (.t 80) (.t 81), none⟩])
 (.seq (.reg false [⟨some 83, .mv (.t 0), none⟩, ⟨some 6, .mv (.t 83), none⟩])
 .ret)))
 .skip))
 (.seq (.reg false [⟨some 84, .mv (.t 0), none⟩, ⟨some 85, .mv (.t 8), none⟩, ⟨some 86, .slc 2 (.t 84) (some (.t 85)) none, none⟩, ⟨some 87, .mv (.t 2), none⟩, ⟨some 88, .cpy 2 (.t 86) (.t 87), none⟩])
 (.seq (.reg false [⟨some 89, .mv (.t 0), none⟩, ⟨some 90, .mv (.t 1), none⟩, ⟨some 91, .slc 2 (.t 89) (some (.t 90)) none, none⟩, ⟨some 92, .mv (.t 7), none⟩, ⟨some 93, .call (kf 153) [(.t 91), (.t 92)], none⟩])
 (.seq (.reg false [⟨some 94, .mv (.t 0), none⟩, ⟨some 6, .mv (.t 94), none⟩])
 .ret))))))))))))
abbrev n_slices_Insert_api_Sample_api_Sample : Nat := 136
theorem F_slices_Insert_api_Sample_api_Sample : Fun Tryz.prog n_slices_Insert_api_Sample_api_Sample 95 c_slices_Insert_api_Sample_api_Sample [.t 6] := ⟨⟨Tryz.f136, _, Tryz.func136, by kernel_rfl, rfl, rfl, by kernel_rfl, by kernel_rfl⟩⟩
/-- slices.IndexFunc[[]windrose/api.Line,windrose/api.Line] -/
def c_slices_IndexFunc_api_Line_api_Line : C :=
 (.seq (.reg false [⟨some 4, .mv (ki 0), none⟩])
 (.seq (.seq (.reg false [⟨some 6, .mv (.t 0), none⟩, ⟨some 7, .len (.t 6), none⟩, ⟨some 8, .mv (ki 0), none⟩])
 (.block 0 (.loop (.seq (.reg false [⟨some 9, .bin .lss (.t 8) (.t 7), none⟩])
 (.seq (.cond (.t 9)
 .skip
 (.exit 0))
 (.seq (.block 1 (.seq (.reg false [⟨some 10, .mv (.t 8), none⟩, ⟨some 5, .mv (.t 10), none⟩])
 (.seq (.reg false [⟨some 11, .mv (.t 1), none⟩, ⟨some 12, .mv (.t 0), none⟩, ⟨some 13, .mv (.t 5), none⟩, ⟨some 14, .ia 2 (.t 12) (.t 13), none⟩, ⟨some 15, .ld true 2 (.t 14), none⟩, ⟨some 16, .call (.t 11) [(.t 15)], none⟩])
 (.cond (.t 16)
 (.seq (.reg false [⟨some 17, .mv (.t 5), none⟩, ⟨some 4, .mv (.t 17), none⟩])
 .ret)
 .skip))))
 (.reg false [⟨some 18, .bin .add (.t 8) (ki 1), none⟩, ⟨some 8, .mv (.t 18), none⟩])))))))
 (.seq (.reg false [⟨some 4, .mv (ki (-1)), none⟩])
 .ret)))
abbrev n_slices_IndexFunc_api_Line_api_Line : Nat := 137
theorem F_slices_IndexFunc_api_Line_api_Line : Fun Tryz.prog n_slices_IndexFunc_api_Line_api_Line 19 c_slices_IndexFunc_api_Line_api_Line [.t 4] := ⟨⟨Tryz.f137, _, Tryz.func137, by kernel_rfl, rfl, rfl, by kernel_rfl, by kernel_rfl⟩⟩
/-- windrose/total.rate -/
def c_total_rate : C :=
 (.seq (.reg false [⟨some 2, .mv (ki 0), none⟩, ⟨some 3, .mv (kb false), none⟩])
 (.seq (.seq (.reg false [⟨some 7, .mv (.t 0), none⟩, ⟨some 8, .len (.t 7), none⟩, ⟨some 9, .bin .lss (.t 8) (ki 2), none⟩])
 (.cond (.t 9)
 (.seq (.reg false [⟨some 2, .mv (ki 0), none⟩, ⟨some 3, .mv (kb false), none⟩])
 .ret)
 .skip))
 (.seq (.reg false [⟨some 4, .mv (ki 0), none⟩])
 (.seq (.seq (.reg false [⟨some 5, .mv (ki 1), none⟩])
 (.block 0 (.loop (.seq (.seq (.reg false [⟨some 10, .mv (.t 5), none⟩, ⟨some 11, .mv (.t 0), none⟩, ⟨some 12, .len (.t 11), none⟩, ⟨some 13, .bin .lss (.t 10) (.t 12), none⟩])
 (.cond (.t 13)
 .skip
 (.exit 0)))
 (.seq (.block 1 (.seq (.reg true [⟨some 16, .mv (.t 0), none⟩, ⟨some 17, .mv (.t 5), none⟩, ⟨some 18, .ia 2 (.t 16) (.t 17), none⟩, ⟨some 19, .fa 1 (.t 18), none⟩, ⟨some 20, .ld false 1 (.t 19), none⟩, ⟨some 21, .mv (.t 0), none⟩, ⟨some 22, .mv (.t 5), none⟩, ⟨some 23, .bin .sub (.t 22) (ki 1), none⟩, ⟨some 24, .ia 2 (.t 21) (.t 23), none⟩, ⟨some 25, .fa 1 (.t 24), none⟩, ⟨some 26, .ld false 1 (.t 25), none⟩, ⟨some 27, .bin .sub (.t 20) (.t 26), none⟩, ⟨some 6, .mv (.t 27), none⟩])
 (.seq (.reg false [⟨some 28, .mv (.t 6), none⟩, ⟨some 29, .bin .geq (.t 28) (ki 0), none⟩])
 (.cond (.t 29)
 (.reg false [⟨some 30, .mv (.t 4), none⟩, ⟨some 31, .mv (.t 6), none⟩, ⟨some 32, .bin .add (.t 30) (.t 31), none⟩, ⟨some 4, .mv (.t 32), none⟩])
 (.reg false [⟨some 33, .mv (.t 4), none⟩, ⟨some 34, .mv (.t 0), none⟩, ⟨some 35, .mv (.t 5), none⟩, ⟨some 36, .ia 2 (.t 34) (.t 35), none⟩, ⟨some 37, .fa 1 (.t 36), none⟩, ⟨some 38, .ld false 1 (.t 37), none⟩, ⟨some 39, .mx (ki 0) (.t 38), none⟩, ⟨some 40, .bin .add (.t 33) (.t 39), none⟩, ⟨some 4, .mv (.t 40), none⟩])))))
 (.reg false [⟨some 14, .mv (.t 5), none⟩, ⟨some 15, .bin .add (.t 14) (ki 1), none⟩, ⟨some 5, .mv (.t 15), none⟩]))))))
 (.seq (.reg true [⟨some 41, .mv (.t 4), none⟩, ⟨some 42, .bin .mul (.t 41) (ki 60), none⟩, ⟨some 43, .mv (.t 0), none⟩, ⟨some 44, .mv (.t 0), none⟩, ⟨some 45, .len (.t 44), none⟩, ⟨some 46, .bin .sub (.t 45) (ki 1), none⟩, ⟨some 47, .ia 2 (.t 43) (.t 46), none⟩, ⟨some 48, .fa 0 (.t 47), none⟩, ⟨some 49, .ld false 1 (.t 48), none⟩, ⟨some 50, .mv (.t 0), none⟩, ⟨some 51, .ia 2 (.t 50) (ki 0), none⟩, ⟨some 52, .fa 0 (.t 51), none⟩, ⟨some 53, .ld false 1 (.t 52), none⟩, ⟨some 54, .bin .sub (.t 49) (.t 53), none⟩, ⟨some 55, .bin .quo (.t 42) (.t 54), none⟩, ⟨some 2, .mv (.t 55), none⟩, ⟨some 3, .mv (kb true), none⟩])
 .ret)))))
abbrev n_total_rate : Nat := 138
theorem F_total_rate : Fun Tryz.prog n_total_rate 56 c_total_rate [.t 2, .t 3] := ⟨⟨Tryz.f138, _, Tryz.func138, by kernel_rfl, rfl, rfl, by kernel_rfl, by kernel_rfl⟩⟩
/-- windrose/total.Fold -/
def c_total_Fold : C :=
 (.seq (.reg false [⟨some 6, .mv (ki 0), none⟩, ⟨some 7, .mv (kb false), none⟩])
 (.seq (.seq (.reg false [⟨some 8, .mv (.t 1), none⟩, ⟨some 9, .mv (.t 2), none⟩, ⟨some 10, .mn (.t 8) (.t 9), none⟩, ⟨some 11, .bin .lss (.t 10) (ki (-9007199254740992)), none⟩, ⟨some 12, .mv (.t 11), none⟩, ⟨some 13, .mv (.t 1), some (12, false)⟩, ⟨some 14, .mv (.t 2), some (12, false)⟩, ⟨some 15, .mx (.t 13) (.t 14), some (12, false)⟩, ⟨some 16, .bin .gtr (.t 15) (ki 9007199254740992), some (12, false)⟩, ⟨some 17, .pick (.t 12) (kb true) (.t 16), none⟩])
 (.cond (.t 17)
 (.seq (.reg false [⟨some 6, .mv (ki 0), none⟩, ⟨some 7, .mv (kb false), none⟩])
 .ret)
 .skip))
 (.seq (.seq (.reg false [⟨some 18, .mv (.t 0), none⟩])
 (.block 0 (.seq (.seq (.reg false [⟨some 20, .bin .eql (.t 18) (ki 1), none⟩, ⟨some 19, .mv (.t 20), none⟩])
 (.cond (.t 19)
 .skip
 (.reg false [⟨some 21, .bin .eql (.t 18) (ki 4), none⟩, ⟨some 19, .mv (.t 21), none⟩])))
 (.cond (.t 19)
 (.seq (.reg false [⟨some 22, .mv (.t 1), none⟩, ⟨some 23, .mv (.t 2), none⟩, ⟨some 24, .bin .add (.t 22) (.t 23), none⟩, ⟨some 6, .mv (.t 24), none⟩, ⟨some 7, .mv (kb true), none⟩])
 .ret)
 (.seq (.reg false [⟨some 26, .bin .eql (.t 18) (ki 2), none⟩, ⟨some 25, .mv (.t 26), none⟩])
 (.cond (.t 25)
 (.seq (.reg false [⟨some 27, .mv (.t 1), none⟩, ⟨some 28, .mv (.t 2), none⟩, ⟨some 29, .mn (.t 27) (.t 28), none⟩, ⟨some 6, .mv (.t 29), none⟩, ⟨some 7, .mv (kb true), none⟩])
 .ret)
 (.seq (.reg false [⟨some 31, .bin .eql (.t 18) (ki 3), none⟩, ⟨some 30, .mv (.t 31), none⟩])
 (.cond (.t 30)
 (.seq (.reg false [⟨some 32, .mv (.t 1), none⟩, ⟨some 33, .mv (.t 2), none⟩, ⟨some 34, .mx (.t 32) (.t 33), none⟩, ⟨some 6, .mv (.t 34), none⟩, ⟨some 7, .mv (kb true), none⟩])
 .ret)
 .skip))))))))
 (.seq (.reg false [⟨some 6, .mv (ki 0), none⟩, ⟨some 7, .mv (kb false), none⟩])
 .ret))))
abbrev n_total_Fold : Nat := 139
theorem F_total_Fold : Fun Tryz.prog n_total_Fold 35 c_total_Fold [.t 6, .t 7] := ⟨⟨Tryz.f139, _, Tryz.func139, by kernel_rfl, rfl, rfl, by kernel_rfl, by kernel_rfl⟩⟩
/-- slices.BinarySearchFunc[[]windrose/api.Sample,windrose/api.Sample,int] -/
def c_slices_BinarySearchFunc_api_Sample_api_Sample_int : C :=
 (.seq (.reg false [⟨some 6, .mv (ki 0), none⟩, ⟨some 7, .mv (kb false), none⟩])
 (.seq (.reg false [⟨some 12, .mv (.t 0), none⟩, ⟨some 13, .len (.t 12), none⟩, ⟨some 8, .mv (.t 13), none⟩])
 (.seq (.reg false [⟨some 14, .mv (.t 8), none⟩, ⟨some 9, .mv (ki 0), none⟩, ⟨some 10, .mv (.t 14), none⟩])
 (.seq (.block 0 (.loop (.seq (.seq (.reg false [⟨some 15, .mv (.t 9), none⟩, ⟨some 16, .mv (.t 10), none⟩, ⟨some 17, .bin .lss (.t 15) (.t 16), none⟩])
 (.cond (.t 17)
 .skip
 (.exit 0)))
 (.block 1 (.seq (.reg false [⟨some 18, .mv (.t 9), none⟩, ⟨some 19, .mv (.t 10), none⟩, ⟨some 20, .bin .add (.t 18) (.t 19), none⟩, ⟨some 21, .cvi .u64 (.t 20), none⟩, ⟨some 22, .bin .shr (.t 21) (.k (.one (.c (.v (.int .u64 1))))), none⟩, ⟨some 23, .cvi .i64 (.t 22), none⟩, ⟨some 11, .mv (.t 23), none⟩])
 (.seq (.reg false [⟨some 24, .mv (.t 2), none⟩, ⟨some 25, .mv (.t 0), none⟩, ⟨some 26, .mv (.t 11), none⟩, ⟨some 27, .ia 2 (.t 25) (.t 26), none⟩, ⟨some 28, .ld true 2 (.t 27), none⟩, ⟨some 29, .mv (.t 1), none⟩, ⟨some 30, .call (.t 24) [(.t 28), (.t 29)], none⟩, ⟨some 31, .bin .lss (.t 30) (ki 0), none⟩])
 (.cond (.t 31)
 (.reg false [⟨some 32, .mv (.t 11), none⟩, ⟨some 33, .bin .add (.t 32) (ki 1), none⟩, ⟨some 9, .mv (.t 33), none⟩])
 (.reg false [⟨some 34, .mv (.t 11), none⟩, ⟨some 10, .mv (.t 34), none⟩]))))))))
 (.seq (.reg false [⟨some 35, .mv (.t 9), none⟩, ⟨some 36, .mv (.t 9), none⟩, ⟨some 37, .mv (.t 8), none⟩, ⟨some 38, .bin .lss (.t 36) (.t 37), none⟩, ⟨some 39, .mv (.t 38), none⟩, ⟨some 40, .mv (.t 2), some (39, true)⟩, ⟨some 41, .mv (.t 0), some (39, true)⟩, ⟨some 42, .mv (.t 9), some (39, true)⟩, ⟨some 43, .ia 2 (.t 41) (.t 42), some (39, true)⟩, ⟨some 44, .ld true 2 (.t 43), some (39, true)⟩, ⟨some 45, .mv (.t 1), some (39, true)⟩, ⟨some 46, .call (.t 40) [(.t 44), (.t 45)], some (39, true)⟩, ⟨some 47, .bin .eql (.t 46) (ki 0), some (39, true)⟩, ⟨some 48, .pick (.t 39) (.t 47) (kb false), none⟩, ⟨some 6, .mv (.t 35), none⟩, ⟨some 7, .mv (.t 48), none⟩])
 .ret)))))
abbrev n_slices_BinarySearchFunc_api_Sample_api_Sample_int : Nat := 150
theorem F_slices_BinarySearchFunc_api_Sample_api_Sample_int : Fun Tryz.prog n_slices_BinarySearchFunc_api_Sample_api_Sample_int 49 c_slices_BinarySearchFunc_api_Sample_api_Sample_int [.t 6, .t 7] := ⟨⟨Tryz.f150, _, Tryz.func150, by kernel_rfl, rfl, rfl, by kernel_rfl, by kernel_rfl⟩⟩
/-- windrose/samples.at$1 -/
def c_samples_at_1 : C :=
 (.seq (.reg false [⟨some 2, .box 33 2 (.t 0), none⟩, ⟨some 4, .mv (ki 0), none⟩])
 (.seq (.reg false [⟨some 5, .fa 0 (.t 2), none⟩, ⟨some 6, .ld false 1 (.t 5), none⟩, ⟨some 7, .mv (.t 1), none⟩, ⟨some 8, .call (kf 93) [(.t 6), (.t 7)], none⟩, ⟨some 4, .mv (.t 8), none⟩])
 .ret))
abbrev n_samples_at_1 : Nat := 151
theorem F_samples_at_1 : Fun Tryz.prog n_samples_at_1 9 c_samples_at_1 [.t 4] := ⟨⟨Tryz.f151, _, Tryz.func151, by kernel_rfl, rfl, rfl, by kernel_rfl, by kernel_rfl⟩⟩
end Go.Proofs.YtcmkhlfjcdchmaaGreat.A
end
section
namespace Go.Proofs.YtcmkhlfjcdchmaaGreatAbs
open Go Go.RowKit
section
variable {P : Program} {d : Bool} {dst : Option Nat} {op : O} {os : List OpL} {s : St} {K : St → Prop} {g : Nat} {want : Bool}
theorem ev_op_iff {e : Nat → SV} {M : List Blk} (hop : isCall op = false) : runOps P d (⟨dst, op, none⟩ :: os) ⟨e, M⟩ K = cont P d dst os e K (out e M true op) := by
  refine propext ⟨?_, ev_op hop⟩
  rintro ⟨r, M', h1, h2⟩
  obtain ⟨c, ho, hc⟩ := (stp0_out hop).1 h1
  show cont P d dst os e K (out e M true op)
  rw [ho]
  exact ⟨hc, h2⟩
theorem ev_gd_imp {e : Nat → SV} {M : List Blk} (hop : isCall op = false) (h : contC P d dst op os e M K (gcond (e g) want)) : runOps P d (⟨dst, op, some (g, want)⟩ :: os) ⟨e, M⟩ K := ev_gd hop h
/-- A region's operations, up to the first call. -/
def evs (P : Program) (d : Bool) : List OpL → (Nat → SV) → List Blk → (St → Prop) → Prop
  | [], e, M, K => K ⟨e, M⟩
  | ⟨dst, op, gd⟩ :: os, e, M, K =>
    bif isCall op then runOps P d (⟨dst, op, gd⟩ :: os) ⟨e, M⟩ K else
    match gd with
    | none =>
      match out e M true op with
      | some (r, M', c) => c ∧ evs P d os (put e dst r) M' K
      | none => False
    | some (g, want) =>
      match gcond (e g) want with
      | some c =>
        match out e M c op with
        | some (r, M', cnd) => (c = true → cnd) ∧ (c = false → M' = M) ∧ evs P d os (put e dst (.g c r)) M' K
        | none => False
      | none => False
theorem evs_sound : ∀ {os : List OpL} {e : Nat → SV} {M : List Blk}, evs P d os e M K → runOps P d os ⟨e, M⟩ K
  | [], e, M, h => h
  | ⟨dst, op, gd⟩ :: os, e, M, h => by
    cases hc : isCall op with
    | true => simpa [evs, hc] using h
    | false =>
      cases gd with
      | none =>
        simp only [evs, hc, cond_false] at h
        cases ho : out e M true op with
        | none => rw [ho] at h; exact h.elim
        | some x =>
          obtain ⟨r, M', c⟩ := x
          rw [ho] at h
          exact ⟨r, M', (stp0_out hc).2 ⟨c, ho, h.1⟩, evs_sound h.2⟩
      | some gw =>
        obtain ⟨g, want⟩ := gw
        simp only [evs, hc, cond_false] at h
        cases hg : gcond (e g) want with
        | none => rw [hg] at h; exact h.elim
        | some c =>
          rw [hg] at h
          have h : (match out e M c op with
            | some (r, M', cnd) => (c = true → cnd) ∧ (c = false → M' = M) ∧ evs P d os (put e dst (.g c r)) M' K
            | none => False) := h
          cases ho : out e M c op with
          | none => rw [ho] at h; exact h.elim
          | some x =>
            obtain ⟨r, M', cnd⟩ := x
            rw [ho] at h
            exact ⟨.g c r, M', ⟨c, r, hg, rfl, fun hc' => (stp0_out hc).2 ⟨cnd, ho, h.1 hc'⟩, h.2.1⟩, evs_sound h.2.2⟩
end
section
variable {P : Program} {n m : Nat} {K : Exit → St → Prop}
/-- A code's reckoning, up to the first branch, loop or call. -/
def W (P : Program) (n m : Nat) : C → (Nat → SV) → List Blk → (Exit → St → Prop) → Prop
  | .skip, e, M, K => K .normal ⟨e, M⟩
  | .ret, e, M, K => K .ret ⟨e, M⟩
  | .exit id, e, M, K => K (.exit id) ⟨e, M⟩
  | .reg d ops, e, M, K => evs P d ops e M (K .normal)
  | .seq a b, e, M, K => W P n m a e M (andThen (fun s => W P n m b s.env s.M K) K)
  | .block id c, e, M, K => W P n m c e M (inBlock id K)
  | .scope c, e, M, K => W P n m c e M (inScope K)
  | .cond x a b, e, M, K =>
    match raw e x with
    | .p (.one (.c (.v (.bool t)))) => (t = true → W P n m a e M K) ∧ (t = false → W P n m b e M K)
    | _ => False
  | .loop c, e, M, K => Run P n m (.loop c) ⟨e, M⟩ K
  | .rgx T ops, e, M, K => Run P n m (.rgx T ops) ⟨e, M⟩ K
theorem W_sound : ∀ {c : C} {e : Nat → SV} {M : List Blk} {K : Exit → St → Prop}, W P n m c e M K → Run P n m c ⟨e, M⟩ K
  | .skip, e, M, K, h => run_skip h
  | .ret, e, M, K, h => run_ret h
  | .exit id, e, M, K, h => run_exit h
  | .reg d ops, e, M, K, h => run_reg (evs_sound h)
  | .seq a b, e, M, K, h => run_seq (run_mono (fun ex s hs => by cases ex <;> first | exact W_sound (c := b) hs | exact hs) (W_sound (c := a) h))
  | .block id c, e, M, K, h => run_block (W_sound (c := c) h)
  | .scope c, e, M, K, h => run_scope (W_sound (c := c) h)
  | .cond x a b, e, M, K, h => by
    unfold W at h
    split at h
    · rename_i t hx
      exact run_cond hx (fun ht => W_sound (h.1 ht)) (fun ht => W_sound (h.2 ht))
    · exact h.elim
  | .loop c, e, M, K, h => h
  | .rgx T ops, e, M, K, h => h
end
@[go_sem] theorem strip_p (c : Bool) (q : Pt) : strip c (.p q) = .p q := rfl
@[go_sem] theorem strip_any (c : Bool) : strip c .any = .any := rfl
@[go_sem] theorem strip_tup (c : Bool) (l : List Pt) : strip c (.tup l) = .tup l := rfl
@[go_sem] theorem strip_g (c : Bool) (s : SV) : strip c (.g c s) = strip c s := by
  show (if (!c || c) = true then strip c s else .g c s) = _
  rw [if_pos (by cases c <;> rfl)]
@[go_sem] theorem strip_g1 (a b : Bool) (s : SV) : strip (a && b) (.g a s) = strip (a && b) s := by
  show (if (!(a && b) || a) = true then strip (a && b) s else .g a s) = _
  rw [if_pos (by cases a <;> cases b <;> rfl)]
@[go_sem] theorem strip_g2 (a b : Bool) (s : SV) : strip (a && b) (.g b s) = strip (a && b) s := by
  show (if (!(a && b) || b) = true then strip (a && b) s else .g b s) = _
  rw [if_pos (by cases a <;> cases b <;> rfl)]
@[go_sem] theorem strip_g3 (a b c : Bool) (s : SV) : strip (a && b && c) (.g a s) = strip (a && b && c) s := by
  show (if (!(a && b && c) || a) = true then strip (a && b && c) s else .g a s) = _
  rw [if_pos (by cases a <;> cases b <;> cases c <;> rfl)]
@[go_sem] theorem strip_gt (c : Bool) (s : SV) : strip c (.g true s) = strip c s := by
  show (if (!c || true) = true then strip c s else .g true s) = _
  rw [if_pos (by cases c <;> rfl)]
@[go_sem] theorem strip_gp (c : Bool) (q : Pt) (h : c = true) : strip true (.g c (.p q)) = .p q := by subst h; rfl
@[go_sem] theorem bcond_t (t y : Bool) : bcond t true y = (t || y) := by cases t <;> rfl
@[go_sem] theorem bcond_f (t x : Bool) : bcond t x false = (t && x) := by cases t <;> rfl
@[go_sem] theorem upd_get (e : Nat → SV) (i j : Nat) (v : SV) : upd e i v j = if j = i then v else e j := rfl
@[go_sem] theorem put_some (e : Nat → SV) (i : Nat) (v : SV) : put e (some i) v = upd e i v := rfl
@[go_sem] theorem put_none (e : Nat → SV) (v : SV) : put e none v = e := rfl
@[go_sem] theorem raw_t (e : Nat → SV) (i : Nat) : raw e (.t i) = e i := rfl
@[go_sem] theorem raw_k (e : Nat → SV) (x : Pt) : raw e (.k x) = .p x := rfl
@[go_sem] theorem envOf_nil (k : Nat) : envOf k [] = fun _ => .any := rfl
@[go_sem] theorem envOf_cons (k : Nat) (q : Pt) (qs : List Pt) : envOf k (q :: qs) = upd (envOf (k + 1) qs) k (.p q) := rfl
@[go_sem] theorem bits_i8 : IntKind.i8.bits = 8 := rfl
@[go_sem] theorem bits_i16 : IntKind.i16.bits = 16 := rfl
@[go_sem] theorem bits_i32 : IntKind.i32.bits = 32 := rfl
@[go_sem] theorem bits_i64 : IntKind.i64.bits = 64 := rfl
@[go_sem] theorem bits_u8 : IntKind.u8.bits = 8 := rfl
@[go_sem] theorem bits_u16 : IntKind.u16.bits = 16 := rfl
@[go_sem] theorem bits_u32 : IntKind.u32.bits = 32 := rfl
@[go_sem] theorem bits_u64 : IntKind.u64.bits = 64 := rfl
section
variable (k : IntKind) (a b : Int) (s t : ByteArray)
@[go_sem] theorem binV_add : binV .add (.int k a) (.int k b) = some (.int k (k.wrap (a + b)), True) := by simp [binV]
@[go_sem] theorem binV_sub : binV .sub (.int k a) (.int k b) = some (.int k (k.wrap (a - b)), True) := by simp [binV]
@[go_sem] theorem binV_mul : binV .mul (.int k a) (.int k b) = some (.int k (k.wrap (a * b)), True) := by simp [binV]
@[go_sem] theorem binV_quo : binV .quo (.int k a) (.int k b) = some (.int k (k.wrap (a.tdiv b)), b ≠ 0) := by simp [binV]
@[go_sem] theorem binV_rem : binV .rem (.int k a) (.int k b) = some (.int k (a.tmod b), b ≠ 0) := by simp [binV]
@[go_sem] theorem binV_eql : binV .eql (.int k a) (.int k b) = some (.bool (a == b), True) := by simp [binV]
@[go_sem] theorem binV_neq : binV .neq (.int k a) (.int k b) = some (.bool (a != b), True) := by simp [binV]
@[go_sem] theorem binV_lss : binV .lss (.int k a) (.int k b) = some (.bool (decide (a < b)), True) := by simp [binV]
@[go_sem] theorem binV_leq : binV .leq (.int k a) (.int k b) = some (.bool (decide (a ≤ b)), True) := by simp [binV]
@[go_sem] theorem binV_gtr : binV .gtr (.int k a) (.int k b) = some (.bool (decide (a > b)), True) := by simp [binV]
@[go_sem] theorem binV_geq : binV .geq (.int k a) (.int k b) = some (.bool (decide (a ≥ b)), True) := by simp [binV]
@[go_sem] theorem binV_and : binV .and (.int k a) (.int k b) = some (.int k (k.wrap ((BitVec.ofInt k.bits a &&& BitVec.ofInt k.bits b).toNat : Nat)), True) := by simp [binV]
@[go_sem] theorem binV_or : binV .or (.int k a) (.int k b) = some (.int k (k.wrap ((BitVec.ofInt k.bits a ||| BitVec.ofInt k.bits b).toNat : Nat)), True) := by simp [binV]
@[go_sem] theorem binV_xor : binV .xor (.int k a) (.int k b) = some (.int k (k.wrap ((BitVec.ofInt k.bits a ^^^ BitVec.ofInt k.bits b).toNat : Nat)), True) := by simp [binV]
@[go_sem] theorem binV_andNot : binV .andNot (.int k a) (.int k b) = some (.int k (k.wrap ((BitVec.ofInt k.bits a &&& ~~~BitVec.ofInt k.bits b).toNat : Nat)), True) := by simp [binV]
@[go_sem] theorem binV_shl (k' : IntKind) : binV .shl (.int k a) (.int k' b) = some (.int k (k.wrap (a * 2 ^ (min b.toNat k.bits))), 0 ≤ b) := rfl
@[go_sem] theorem binV_shr (k' : IntKind) : binV .shr (.int k a) (.int k' b) = some (.int k (a.fdiv (2 ^ (min b.toNat k.bits))), 0 ≤ b) := rfl
@[go_sem] theorem min_8 (n : Nat) : min n 8 = if n ≤ 8 then n else 8 := Nat.min_def
@[go_sem] theorem min_16 (n : Nat) : min n 16 = if n ≤ 16 then n else 16 := Nat.min_def
@[go_sem] theorem min_32 (n : Nat) : min n 32 = if n ≤ 32 then n else 32 := Nat.min_def
@[go_sem] theorem min_64 (n : Nat) : min n 64 = if n ≤ 64 then n else 64 := Nat.min_def
@[go_sem] theorem binV_sadd : binV .add (.string s) (.string t) = some (.string (s ++ t), s.size + t.size ≤ 9223372036854775807) := rfl
@[go_sem] theorem binV_seql : binV .eql (.string s) (.string t) = some (.bool (s.toList == t.toList), True) := rfl
@[go_sem] theorem binV_sneq : binV .neq (.string s) (.string t) = some (.bool (!(s.toList == t.toList)), True) := rfl
@[go_sem] theorem binV_slss : binV .lss (.string s) (.string t) = some (.bool (Op.bytesLess s.toList t.toList), True) := rfl
@[go_sem] theorem binV_sleq : binV .leq (.string s) (.string t) = some (.bool (Op.bytesLess s.toList t.toList || s.toList == t.toList), True) := rfl
@[go_sem] theorem binV_sgtr : binV .gtr (.string s) (.string t) = some (.bool (!(Op.bytesLess s.toList t.toList || s.toList == t.toList)), True) := rfl
@[go_sem] theorem binV_sgeq : binV .geq (.string s) (.string t) = some (.bool (!(Op.bytesLess s.toList t.toList)), True) := rfl
end
attribute [go_sem] W evs isCall out isNilK gcond unV intOfS rowsAt andThen inBlock inScope Pt.cells zc fillL fillParts fillRows capsOf bnd cellsUp
end Go.Proofs.YtcmkhlfjcdchmaaGreatAbs
end
section
namespace Go.Proofs.YtcmkhlfjcdchmaaGreatAbs
open Go Go.RowKit
/-- One value is told by another's words. -/
def lePt : Pt → Pt → Prop
  | .one (.c (.imm sz n c)), .one (.c (.imm sz' n' c')) => n = n' ∧ (n = 0 ∨ (sz = sz' ∧ ∀ i, i < n → ∀ j, j < sz → c i j = c' i j))
  | .one (.c (.v (.slice none 0 0))), .one (.c (.imm _ n _)) => n = 0
  | q, q' => q = q'
def leS : SV → SV → Prop
  | _, .any => True
  | .p q, .p q' => lePt q q'
  | s, s' => s = s'
theorem lePt.sound {I : Im} {σ : List Plc} {q q' : Pt} {y : Value} (h : lePt q q') (hr : RelP I σ q y) : RelP I σ q' y := by
  unfold lePt at h
  split at h
  · obtain ⟨rfl, h⟩ := h
    obtain ⟨A, cap, e, h1, h2⟩ := hr
    refine ⟨A, cap, e, h1, ?_⟩
    rcases h with h | ⟨rfl, h⟩
    · exact .inl h
    · refine h2.imp id ?_
      rintro ⟨ad, ha, hc⟩
      refine ⟨ad, ha, fun i hi j hj => ?_⟩
      obtain ⟨x, hx, hrx⟩ := hc i hi j hj
      exact ⟨x, hx, by rw [← h i hi j hj]; exact hrx⟩
  · subst h
    obtain ⟨rfl, _⟩ := hr
    exact ⟨none, 0, rfl, Nat.le_refl _, .inl rfl⟩
  · subst h; exact hr
theorem leS.sub {s s' : SV} (h : leS s s') : SubS s s' := by
  intro I σ y hr
  unfold leS at h
  split at h
  · exact trivial
  · exact h.sound hr
  · subst h; exact hr
@[go_sem] theorem leS_any (s : SV) : leS s .any = True := by cases s <;> rfl
@[go_sem] theorem leS_p (q q' : Pt) : leS (.p q) (.p q') = lePt q q' := rfl
@[go_sem] theorem leS_tup (l : List Pt) (s : SV) : leS s (.tup l) = (s = .tup l) := by cases s <;> rfl
@[go_sem] theorem leS_g (c : Bool) (s s' : SV) : leS s (.g c s') = (s = .g c s') := by cases s <;> rfl
@[go_sem] theorem lePt_imm (sz n sz' n' : Nat) (c c' : Nat → Nat → CV) : lePt (.one (.c (.imm sz n c))) (.one (.c (.imm sz' n' c'))) = (n = n' ∧ (n = 0 ∨ (sz = sz' ∧ ∀ i, i < n → ∀ j, j < sz → c i j = c' i j))) := rfl
@[go_sem] theorem lePt_nil (sz n : Nat) (c : Nat → Nat → CV) : lePt (.one (.c (.v (.slice none 0 0)))) (.one (.c (.imm sz n c))) = (n = 0) := rfl
@[go_sem] theorem lePt_v (q : Pt) (x : Value) : lePt q (.one (.c (.v x))) = (q = .one (.c (.v x))) := by
  unfold lePt; split <;> simp_all
@[go_sem] theorem lePt_ptr (q : Pt) (b ver i j : Nat) : lePt q (.one (.ptr b ver i j)) = (q = .one (.ptr b ver i j)) := by
  unfold lePt; split <;> simp_all
@[go_sem] theorem lePt_arr (q : Pt) (sz b ver i j : Nat) : lePt q (.one (.arr sz b ver i j)) = (q = .one (.arr sz b ver i j)) := by
  unfold lePt; split <;> simp_all
@[go_sem] theorem lePt_ip (q : Pt) (n : Nat) (c : Nat → CV) : lePt q (.one (.ip n c)) = (q = .one (.ip n c)) := by
  unfold lePt; split <;> simp_all
@[go_sem] theorem lePt_fn (q : Pt) (f n : Nat) (c : Nat → AV) : lePt q (.one (.fn f n c)) = (q = .one (.fn f n c)) := by
  unfold lePt; split <;> simp_all
@[go_sem] theorem lePt_agg (q : Pt) (l : List AV) : lePt q (.agg l) = (q = .agg l) := by
  unfold lePt; split <;> simp_all
@[go_sem] theorem lePt_self (q : Pt) : lePt q q = True := by
  match q with
  | .one (.c (.imm sz n c)) => simp [lePt]
  | .one (.c (.v x)) => simp [lePt_v]
  | .one (.ptr _ _ _ _) => simp [lePt_ptr]
  | .one (.arr _ _ _ _ _) => simp [lePt_arr]
  | .one (.ip _ _) => simp [lePt_ip]
  | .one (.fn _ _ _) => simp [lePt_fn]
  | .agg l => simp [lePt_agg]
@[go_sem] theorem leS_self (s : SV) : leS s s = True := by
  cases s with
  | p q => exact lePt_self q
  | any => rfl
  | tup l => simp [leS]
  | g c s => simp [leS]
@[go_sem] theorem ltP_one (n : Nat) (a : AV) : ltP n (.one a) = ltA n a := rfl
@[go_sem] theorem ltP_agg (n : Nat) (l : List AV) : ltP n (.agg l) = ∀ a ∈ l, ltA n a := rfl
@[go_sem] theorem ltS_p (n : Nat) (q : Pt) : ltS n (.p q) = ltP n q := rfl
@[go_sem] theorem ltS_tup (n : Nat) (l : List Pt) : ltS n (.tup l) = ∀ q ∈ l, ltP n q := rfl
@[go_sem] theorem ltS_any (n : Nat) : ltS n .any = True := rfl
@[go_sem] theorem ltS_g (n : Nat) (c : Bool) (s : SV) : ltS n (.g c s) = ltS n s := rfl
@[go_sem] theorem ltA_c (n : Nat) (x : CV) : ltA n (.c x) = True := rfl
@[go_sem] theorem ltA_ip (n m : Nat) (c : Nat → CV) : ltA n (.ip m c) = True := rfl
@[go_sem] theorem ltA_ptr (n b v i j : Nat) : ltA n (.ptr b v i j) = (b < n) := rfl
@[go_sem] theorem ltA_arr (n sz b v i j : Nat) : ltA n (.arr sz b v i j) = (b < n) := rfl
@[go_sem] theorem ltA_fn (n f k : Nat) (caps : Nat → AV) : ltA n (.fn f k caps) = ∀ i, i < k → ltA n (caps i) := rfl
@[go_sem] theorem lt_cellsUp (n : Nat) (c : Nat → CV) : ∀ (m k : Nat), (∀ a ∈ cellsUp c k m, ltA n a) = True
  | 0, k => by simp [cellsUp]
  | m + 1, k => by
    have := lt_cellsUp n c m (k + 1)
    simp only [eq_iff_iff, iff_true] at this ⊢
    intro a ha
    rcases List.mem_cons.1 ha with rfl | ha
    · exact trivial
    · exact this a ha
def leL : List Pt → List Pt → Prop
  | [], [] => True
  | q :: qs, q' :: qs' => lePt q q' ∧ leL qs qs'
  | _, _ => False
theorem leL.length : ∀ {l l' : List Pt}, leL l l' → l.length = l'.length
  | [], [], _ => rfl
  | q :: qs, q' :: qs', h => by simp [leL.length h.2]
theorem leL.get : ∀ {l l' : List Pt}, leL l l' → ∀ (k : Nat) (q q' : Pt), l[k]? = some q → l'[k]? = some q' → lePt q q'
  | q :: qs, q' :: qs', h, 0, x, x', e, e' => by
    injection e with e; injection e' with e'; subst e; subst e'; exact h.1
  | q :: qs, q' :: qs', h, k + 1, x, x', e, e' => leL.get h.2 k x x' e e'
theorem CallR.le {P : Program} {M M' : List Blk} {f : Nat} {ps ps' : List Pt} {r : SV} (h : CallR P M f ps' r M') (hl : leL ps ps') : CallR P M f ps r M' := by
  refine fun I σ w vals hG hm hv hr => h I σ w vals hG hm (by rw [hv, hl.length]) (fun k q x hq hx => ?_)
  have hk : k < ps'.length := getElem?_lt hq
  have hk2 : k < ps.length := by rw [hl.length]; exact hk
  exact (hl.get k _ q (List.getElem?_eq_getElem hk2) hq).sound (hr k _ x (List.getElem?_eq_getElem hk2) hx)
attribute [go_sem] leL
def Call1 (P : Program) (M : List Blk) (f : Nat) (ps : List Pt) (d : Bool) (dst : Option Nat) (os : List OpL) (e : Nat → SV) (K : St → Prop) : Prop :=
  ∃ r M', CallR P M f ps r M' ∧ (d = true → M' = M) ∧ runOps P d os ⟨put e dst r, M'⟩ K
def CallG (P : Program) (M : List Blk) (c : Bool) (f : Nat) (ps : List Pt) (d : Bool) (dst : Option Nat) (os : List OpL) (e : Nat → SV) (K : St → Prop) : Prop :=
  ∃ r, (c = true → CallR P M f ps r M) ∧ runOps P d os ⟨put e dst (.g c r), M⟩ K
def callK (P : Program) (d : Bool) (dst : Option Nat) (os : List OpL) (e : Nat → SV) (M : List Blk) (K : St → Prop) : Option (Nat × List Pt) → Option (List Pt) → Prop
  | some (f, caps), some ps => Call1 P M f (ps ++ caps) d dst os e K
  | _, _ => False
def callGK (P : Program) (d : Bool) (dst : Option Nat) (os : List OpL) (e : Nat → SV) (M : List Blk) (K : St → Prop) (c : Bool) : Option (Nat × List Pt) → Option (List Pt) → Prop
  | some (f, caps), some ps => CallG P M c f (ps ++ caps) d dst os e K
  | _, _ => False
section
variable {P : Program} {d : Bool} {dst : Option Nat} {op : O} {os : List OpL} {s : St} {K : St → Prop} {g : Nat} {want : Bool}
@[go_sem] theorem runOps_call {e : Nat → SV} {M : List Blk} {f : Opd} {args : List Opd} : runOps P d (⟨dst, .call f args, none⟩ :: os) ⟨e, M⟩ K = callK P d dst os e M K (callee (strip true (raw e f))) (ptsOf (fun x => strip true (raw e x)) args) := by
  refine propext ⟨?_, fun h => ?_⟩
  · rintro ⟨r, M', ⟨⟨k, caps, ps, hc, ha, hr⟩, hd⟩, hk⟩
    rw [hc, ha]
    exact ⟨r, M', hr, hd, hk⟩
  · cases hc : callee (strip true (raw e f)) with
    | none => rw [hc] at h; exact h.elim
    | some x =>
      obtain ⟨k, caps⟩ := x
      cases ha : ptsOf (fun x => strip true (raw e x)) args with
      | none => rw [hc, ha] at h; exact h.elim
      | some ps =>
        rw [hc, ha] at h
        obtain ⟨r, M', hr, hd, hk⟩ := h
        exact ⟨r, M', ⟨⟨k, caps, ps, hc, ha, hr⟩, hd⟩, hk⟩
def callGK' (P : Program) (d : Bool) (dst : Option Nat) (os : List OpL) (e : Nat → SV) (M : List Blk) (K : St → Prop) (f : Opd) (args : List Opd) : Option Bool → Prop
  | some c => callGK P d dst os e M K c (callee (strip c (raw e f))) (ptsOf (fun x => strip c (raw e x)) args)
  | none => False
theorem callG_sound {e : Nat → SV} {M : List Blk} {f : Opd} {args : List Opd} (h : callGK' P d dst os e M K f args (gcond (e g) want)) : runOps P d (⟨dst, .call f args, some (g, want)⟩ :: os) ⟨e, M⟩ K := by
  cases hg : gcond (e g) want with
  | none => rw [hg] at h; exact h.elim
  | some c =>
    rw [hg] at h
    have h : callGK P d dst os e M K c (callee (strip c (raw e f))) (ptsOf (fun x => strip c (raw e x)) args) := h
    cases hc : callee (strip c (raw e f)) with
    | none => rw [hc] at h; exact h.elim
    | some x =>
      obtain ⟨k, caps⟩ := x
      cases ha : ptsOf (fun x => strip c (raw e x)) args with
      | none => rw [hc, ha] at h; exact h.elim
      | some ps =>
        rw [hc, ha] at h
        obtain ⟨r, hr, hk⟩ := h
        exact ev_callg hg hc ha hr hk
/-- What is left of a region. -/
def Ops (P : Program) (d : Bool) (ops : List OpL) (e : Nat → SV) (M : List Blk) (K : St → Prop) : Prop := runOps P d ops ⟨e, M⟩ K
/-- Does an operation write memory? -/
def isWr : O → Bool
  | .mv _ | .eqa .. | .eqb .. | .pick .. | .bld .. | .bin .. | .un .. | .cvi .. | .mkf .. | .sls .. | .lens _ | .ix .. | .ex .. | .mn .. | .mx .. | .fld .. => false
  | .cap _ | .s3 .. | .b2s _ | .ld .. | .ia .. | .fa .. | .nilck _ | .len _ | .slc .. | .call .. => false
  | .alloc .. | .box .. | .bsl .. | .st .. | .app .. | .cpy .. | .clr .. | .apz .. | .aps .. | .rng _ | .nxt _ | .mks .. => true
/-- A region's operations, with its calls. -/
def ev (P : Program) (d : Bool) : List OpL → (Nat → SV) → List Blk → (St → Prop) → Prop
  | [], e, M, K => K ⟨e, M⟩
  | ⟨dst, .call f args, none⟩ :: os, e, M, K => callK P d dst os e M K (callee (strip true (raw e f))) (ptsOf (fun x => strip true (raw e x)) args)
  | ⟨dst, .call f args, some (g, want)⟩ :: os, e, M, K =>
      match gcond (e g) want with
      | some c =>
        match callee (strip c (raw e f)), ptsOf (fun x => strip c (raw e x)) args with
        | some (k, caps), some ps => CallG P M c k (ps ++ caps) d dst os e K
        | _, _ => c = false ∧ Ops P d os (put e dst (.g c .any)) M K
      | none => False
  | ⟨dst, op, none⟩ :: os, e, M, K =>
      match out e M true op with
      | some (r, M', c) => c ∧ ev P d os (put e dst r) M' K
      | none => False
  | ⟨dst, op, some (g, want)⟩ :: os, e, M, K =>
      match gcond (e g) want with
      | some c =>
        match isWr op with
        | true => (c = true → match out e M c op with | some (r, M', cnd) => cnd ∧ ev P d os (put e dst (.g c r)) M' K | none => False) ∧ (c = false → ev P d os (put e dst (.g c .any)) M K)
        | false => match out e M c op with
        | some (r, M', cnd) => (c = true → cnd) ∧ (c = false → M' = M) ∧ ev P d os (put e dst (.g c r)) M' K
        | none => c = false ∧ Ops P d os (put e dst (.g c .any)) M K
      | none => False
theorem ev_sound : ∀ {os : List OpL} {e : Nat → SV} {M : List Blk}, ev P d os e M K → runOps P d os ⟨e, M⟩ K
  | [], e, M, h => h
  | ⟨dst, op, gd⟩ :: os, e, M, h => by
    cases hc : isCall op with
    | true =>
      cases op <;> first | (cases hc; done) | skip
      case call f args =>
        cases gd with
        | none => rw [runOps_call]; exact h
        | some gw =>
          obtain ⟨g, want⟩ := gw
          have h : match gcond (e g) want with
            | some c =>
              match callee (strip c (raw e f)), ptsOf (fun x => strip c (raw e x)) args with
              | some (k, caps), some ps => CallG P M c k (ps ++ caps) d dst os e K
              | _, _ => c = false ∧ Ops P d os (put e dst (.g c .any)) M K
            | none => False := h
          cases hg : gcond (e g) want with
          | none => rw [hg] at h; exact h.elim
          | some c =>
            rw [hg] at h
            have h : match callee (strip c (raw e f)), ptsOf (fun x => strip c (raw e x)) args with
              | some (k, caps), some ps => CallG P M c k (ps ++ caps) d dst os e K
              | _, _ => c = false ∧ Ops P d os (put e dst (.g c .any)) M K := h
            have hno : (c = false ∧ Ops P d os (put e dst (.g c .any)) M K) → runOps P d (⟨dst, .call f args, some (g, want)⟩ :: os) ⟨e, M⟩ K := fun h => ⟨.g c .any, M, ⟨c, .any, hg, rfl, fun h0 => (Bool.noConfusion (h.1.symm.trans h0)), fun _ => rfl⟩, h.2⟩
            cases hcl : callee (strip c (raw e f)) with
            | none => rw [hcl] at h; exact hno h
            | some x =>
              obtain ⟨k, caps⟩ := x
              cases ha : ptsOf (fun x => strip c (raw e x)) args with
              | none => rw [hcl, ha] at h; exact hno h
              | some ps =>
                rw [hcl, ha] at h
                obtain ⟨r, hr, hk⟩ := h
                exact ev_callg hg hcl ha hr hk
    | false =>
      cases gd with
      | none =>
        have h : match out e M true op with
          | some (r, M', c) => c ∧ ev P d os (put e dst r) M' K
          | none => False := by cases op <;> first | (cases hc; done) | exact h
        cases ho : out e M true op with
        | none => rw [ho] at h; exact h.elim
        | some x =>
          obtain ⟨r, M', c⟩ := x
          rw [ho] at h
          exact ⟨r, M', (stp0_out hc).2 ⟨c, ho, h.1⟩, ev_sound h.2⟩
      | some gw =>
        obtain ⟨g, want⟩ := gw
        have h : match gcond (e g) want with
          | some c =>
            match isWr op with
            | true => (c = true → match out e M c op with | some (r, M', cnd) => cnd ∧ ev P d os (put e dst (.g c r)) M' K | none => False) ∧ (c = false → ev P d os (put e dst (.g c .any)) M K)
            | false => match out e M c op with
            | some (r, M', cnd) => (c = true → cnd) ∧ (c = false → M' = M) ∧ ev P d os (put e dst (.g c r)) M' K
            | none => c = false ∧ Ops P d os (put e dst (.g c .any)) M K
          | none => False := by cases op <;> first | (cases hc; done) | exact h
        cases hg : gcond (e g) want with
        | none => rw [hg] at h; exact h.elim
        | some c =>
          rw [hg] at h
          cases hw : isWr op with
          | true =>
            have h : (c = true → match out e M c op with | some (r, M', cnd) => cnd ∧ ev P d os (put e dst (.g c r)) M' K | none => False) ∧ (c = false → ev P d os (put e dst (.g c .any)) M K) := by
              have h' := h
              simp only [hw] at h'
              exact h'
            cases c with
            | false => exact ⟨.g false .any, M, ⟨false, .any, hg, rfl, fun h0 => Bool.noConfusion h0, fun _ => rfl⟩, ev_sound (h.2 rfl)⟩
            | true =>
              have h := h.1 rfl
              cases ho : out e M true op with
              | none => rw [ho] at h; exact h.elim
              | some x =>
                obtain ⟨r, M', cnd⟩ := x
                rw [ho] at h
                exact ⟨.g true r, M', ⟨true, r, hg, rfl, fun _ => (stp0_out hc).2 ⟨cnd, ho, h.1⟩, fun h0 => Bool.noConfusion h0⟩, ev_sound h.2⟩
          | false =>
          have h : match out e M c op with
            | some (r, M', cnd) => (c = true → cnd) ∧ (c = false → M' = M) ∧ ev P d os (put e dst (.g c r)) M' K
            | none => c = false ∧ Ops P d os (put e dst (.g c .any)) M K := by
            have h' := h
            simp only [hw] at h'
            exact h'
          cases ho : out e M c op with
          | none =>
            rw [ho] at h
            exact ⟨.g c .any, M, ⟨c, .any, hg, rfl, fun h0 => (Bool.noConfusion (h.1.symm.trans h0)), fun _ => rfl⟩, h.2⟩
          | some x =>
            obtain ⟨r, M', cnd⟩ := x
            rw [ho] at h
            exact ⟨.g c r, M', ⟨c, r, hg, rfl, fun hc' => (stp0_out hc).2 ⟨cnd, ho, h.1 hc'⟩, h.2.1⟩, ev_sound h.2.2⟩
theorem call1 {M M' : List Blk} {f : Nat} {ps ps' : List Pt} {r : SV} {e : Nat → SV} (h : CallR P M f ps' r M') (hl : leL ps ps') (hd : d = true → M' = M) (hK : ev P d os (put e dst r) M' K) : Call1 P M f ps d dst os e K := ⟨r, M', h.le hl, hd, ev_sound hK⟩
theorem call0 {M : List Blk} {f : Nat} {ps : List Pt} {r : SV} {e : Nat → SV} (h : ∀ M, CallR P M f ps r M) (hK : ev P d os (put e dst r) M K) : Call1 P M f ps d dst os e K := ⟨r, M, h M, fun _ => rfl, ev_sound hK⟩
theorem callg0 {M : List Blk} {c : Bool} {f : Nat} {ps : List Pt} {r : SV} {e : Nat → SV} (h : c = true → ∀ M, CallR P M f ps r M) (hK : ev P d os (put e dst (.g c r)) M K) : CallG P M c f ps d dst os e K := ⟨r, fun hc => h hc M, ev_sound hK⟩
theorem callg1 {M : List Blk} {c : Bool} {f : Nat} {ps ps' : List Pt} {r : SV} {e : Nat → SV} (h : c = true → CallR P M f ps' r M) (hl : c = true → leL ps ps') (hK : ev P d os (put e dst (.g c r)) M K) : CallG P M c f ps d dst os e K := ⟨r, fun hc => (h hc).le (hl hc), ev_sound hK⟩
end
def RX (P : Program) (T : List (List Nat)) (os : List OpL) (acc : List XOp) (s : St) (K : St → Prop) : Prop := ∃ xs : List XOp, xs.map (·.op) = os ∧ runX P xs s (fun s' => pairsX T (acc ++ xs) = true ∧ K s')
def CallX (P : Program) (T : List (List Nat)) (M : List Blk) (f : Nat) (ps : List Pt) (x : XOp) (os : List OpL) (acc : List XOp) (e : Nat → SV) (K : St → Prop) : Prop :=
  (∃ r, (∀ N, CallR P N f ps r N) ∧ RX P T os (acc ++ [x]) ⟨put e x.op.dst r, M⟩ K) ∨
  (∃ r F fs, (∀ q ∈ fs, q.1 ∈ F) ∧ (∀ N : List Blk, (∀ b ∈ F, N[b]? = M[b]?) → CallR P N f ps r (apL fs N)) ∧ RX P T os (acc ++ [⟨x.op, F, !fs.isEmpty, x.n⟩]) ⟨put e x.op.dst r, apL fs M⟩ K)
def CallXG (P : Program) (T : List (List Nat)) (M : List Blk) (c : Bool) (f : Nat) (ps : List Pt) (x : XOp) (os : List OpL) (acc : List XOp) (e : Nat → SV) (K : St → Prop) : Prop :=
  ∃ r, (c = true → ∀ N, CallR P N f ps r N) ∧ RX P T os (acc ++ [x]) ⟨put e x.op.dst (.g c r), M⟩ K
def callXK (P : Program) (T : List (List Nat)) (x : XOp) (os : List OpL) (acc : List XOp) (e : Nat → SV) (M : List Blk) (K : St → Prop) : Option (Nat × List Pt) → Option (List Pt) → Prop
  | some (f, caps), some ps => CallX P T M f (ps ++ caps) x os acc e K
  | _, _ => False
def callXGK (P : Program) (T : List (List Nat)) (x : XOp) (os : List OpL) (acc : List XOp) (e : Nat → SV) (M : List Blk) (K : St → Prop) (c : Bool) : Option (Nat × List Pt) → Option (List Pt) → Prop
  | some (f, caps), some ps => CallXG P T M c f (ps ++ caps) x os acc e K
  | _, _ => False
def callXGK' (P : Program) (T : List (List Nat)) (x : XOp) (os : List OpL) (acc : List XOp) (e : Nat → SV) (M : List Blk) (K : St → Prop) (f : Opd) (args : List Opd) : Option Bool → Prop
  | some c => callXGK P T x os acc e M K c (callee (strip c (raw e f))) (ptsOf (fun y => strip c (raw e y)) args)
  | none => False
def evX (P : Program) (T : List (List Nat)) : List OpL → Nat → List XOp → (Nat → SV) → List Blk → (St → Prop) → Prop
  | [], n, acc, e, M, K => pairsX T acc = true ∧ K ⟨e, M⟩
  | ⟨dst, .call f args, none⟩ :: os, n, acc, e, M, K => callXK P T ⟨⟨dst, .call f args, none⟩, [], false, n⟩ os acc e M K (callee (strip true (raw e f))) (ptsOf (fun x => strip true (raw e x)) args)
  | ⟨dst, .call f args, some (g, want)⟩ :: os, n, acc, e, M, K => callXGK' P T ⟨⟨dst, .call f args, some (g, want)⟩, [], false, n⟩ os acc e M K f args (gcond (e g) want)
  | ⟨dst, op, none⟩ :: os, n, acc, e, M, K =>
      match outX n e M true op with
      | some (r, M', c) => c ∧ evX P T os (bif isAl op then n + 1 else n) (acc ++ [⟨⟨dst, op, none⟩, foot e true n op, isW op, n⟩]) (put e dst r) M' K
      | none => False
  | ⟨dst, op, some (g, want)⟩ :: os, n, acc, e, M, K =>
      match gcond (e g) want with
      | some c =>
        match outX n e M c op with
        | some (r, M', cnd) => (c = true → cnd) ∧ (c = false → M' = M) ∧ evX P T os (bif isAl op then n + 1 else n) (acc ++ [⟨⟨dst, op, some (g, want)⟩, foot e c n op, isW op, n⟩]) (put e dst (.g c r)) M' K
        | none => False
      | none => False
theorem runX_mono {P : Program} : ∀ {xs : List XOp} {s : St} {K K' : St → Prop}, (∀ s, K s → K' s) → runX P xs s K → runX P xs s K'
  | [], s, K, K', h, hr => h _ hr
  | x :: xs, s, K, K', h, ⟨r, M', h1, h2⟩ => ⟨r, M', h1, runX_mono h h2⟩
theorem runX_pure {P : Program} {p : Prop} : ∀ {xs : List XOp} {s : St} {K : St → Prop}, runX P xs s (fun s => p ∧ K s) → p ∧ runX P xs s K
  | [], s, K, h => h
  | x :: xs, s, K, ⟨r, M', h1, h2⟩ => ⟨(runX_pure h2).1, r, M', h1, (runX_pure h2).2⟩
theorem RX_cons {P : Program} {T : List (List Nat)} {x : XOp} {os : List OpL} {acc : List XOp} {e : Nat → SV} {M M' : List Blk} {r : SV} {K : St → Prop} (h : StpX P x e M r M') (hr : RX P T os (acc ++ [x]) ⟨put e x.op.dst r, M'⟩ K) : RX P T (x.op :: os) acc ⟨e, M⟩ K := by
  obtain ⟨xs, h1, h2⟩ := hr
  refine ⟨x :: xs, by simp [h1], r, M', h, runX_mono (fun s hs => ⟨?_, hs.2⟩) h2⟩
  have := hs.1
  simpa using this
theorem stpX0_out {P : Program} {x : XOp} {ctx : Bool} {e : Nat → SV} {M M' : List Blk} {r : SV} (hop : isCall x.op.op = false) (hF : ∀ b ∈ foot e ctx x.n x.op.op, b ∈ x.F) (hw : isW x.op.op = true → x.w = true) {c : Prop} (h : outX x.n e M ctx x.op.op = some (r, M', c)) (hc : c) : StpX0 P x ctx e M r M' := by
  unfold StpX0
  split
  · rename_i f args ho
    rw [ho] at hop
    cases hop
  · exact ⟨hF, hw, c, h, hc⟩
theorem isEmpty_of {α : Type} : ∀ {fs : List α}, (!fs.isEmpty) = false → fs = []
  | [], _ => rfl
  | _ :: _, h => Bool.noConfusion h
theorem evX_sound {P : Program} {T : List (List Nat)} {K : St → Prop} : ∀ {os : List OpL} {n : Nat} {acc : List XOp} {e : Nat → SV} {M : List Blk}, evX P T os n acc e M K → RX P T os acc ⟨e, M⟩ K
  | [], n, acc, e, M, h => ⟨[], rfl, by simpa [runX, evX] using h⟩
  | ⟨dst, op, gd⟩ :: os, n, acc, e, M, h => by
    cases hc : isCall op with
    | true =>
      cases op <;> first | (cases hc; done) | skip
      case call f args =>
        cases gd with
        | none =>
          have h : callXK P T ⟨⟨dst, .call f args, none⟩, [], false, n⟩ os acc e M K (callee (strip true (raw e f))) (ptsOf (fun x => strip true (raw e x)) args) := h
          cases hcl : callee (strip true (raw e f)) with
          | none => rw [hcl] at h; exact h.elim
          | some x =>
            obtain ⟨k, caps⟩ := x
            cases ha : ptsOf (fun x => strip true (raw e x)) args with
            | none => rw [hcl, ha] at h; exact h.elim
            | some ps =>
              rw [hcl, ha] at h
              rcases h with ⟨r, hr, hk⟩ | ⟨r, F, fs, hF, hr, hk⟩
              · exact RX_cons (x := ⟨⟨dst, .call f args, none⟩, [], false, n⟩) (show StpX P ⟨⟨dst, .call f args, none⟩, [], false, n⟩ e M r M from ⟨k, caps, ps, hcl, ha, .inl ⟨hr, rfl⟩⟩) hk
              · exact RX_cons (x := ⟨⟨dst, .call f args, none⟩, F, !fs.isEmpty, n⟩) (show StpX P ⟨⟨dst, .call f args, none⟩, F, !fs.isEmpty, n⟩ e M r (apL fs M) from ⟨k, caps, ps, hcl, ha, .inr ⟨fs, rfl, fun h => (isEmpty_of h), hF, hr⟩⟩) hk
        | some gw =>
          obtain ⟨g, want⟩ := gw
          have h : callXGK' P T ⟨⟨dst, .call f args, some (g, want)⟩, [], false, n⟩ os acc e M K f args (gcond (e g) want) := h
          cases hg : gcond (e g) want with
          | none => rw [hg] at h; exact h.elim
          | some c =>
            rw [hg] at h
            have h : callXGK P T ⟨⟨dst, .call f args, some (g, want)⟩, [], false, n⟩ os acc e M K c (callee (strip c (raw e f))) (ptsOf (fun x => strip c (raw e x)) args) := h
            cases hcl : callee (strip c (raw e f)) with
            | none => rw [hcl] at h; exact h.elim
            | some x =>
              obtain ⟨k, caps⟩ := x
              cases ha : ptsOf (fun x => strip c (raw e x)) args with
              | none => rw [hcl, ha] at h; exact h.elim
              | some ps =>
                rw [hcl, ha] at h
                obtain ⟨r, hr, hk⟩ := h
                exact RX_cons (x := ⟨⟨dst, .call f args, some (g, want)⟩, [], false, n⟩) (show StpX P ⟨⟨dst, .call f args, some (g, want)⟩, [], false, n⟩ e M (.g c r) M from ⟨c, r, hg, rfl, fun h0 => ⟨k, caps, ps, hcl, ha, .inl ⟨hr h0, rfl⟩⟩, fun _ => rfl⟩) hk
    | false =>
      cases gd with
      | none =>
        have h : match outX n e M true op with
          | some (r, M', c) => c ∧ evX P T os (bif isAl op then n + 1 else n) (acc ++ [⟨⟨dst, op, none⟩, foot e true n op, isW op, n⟩]) (put e dst r) M' K
          | none => False := by cases op <;> first | (cases hc; done) | exact h
        cases ho : outX n e M true op with
        | none => rw [ho] at h; exact h.elim
        | some x =>
          obtain ⟨r, M', c⟩ := x
          rw [ho] at h
          exact RX_cons (x := ⟨⟨dst, op, none⟩, foot e true n op, isW op, n⟩) (show StpX P ⟨⟨dst, op, none⟩, foot e true n op, isW op, n⟩ e M r M' from stpX0_out hc (fun _ hb => hb) (fun hw => hw) ho h.1) (evX_sound h.2)
      | some gw =>
        obtain ⟨g, want⟩ := gw
        have h : match gcond (e g) want with
          | some c =>
            match outX n e M c op with
            | some (r, M', cnd) => (c = true → cnd) ∧ (c = false → M' = M) ∧ evX P T os (bif isAl op then n + 1 else n) (acc ++ [⟨⟨dst, op, some (g, want)⟩, foot e c n op, isW op, n⟩]) (put e dst (.g c r)) M' K
            | none => False
          | none => False := by cases op <;> first | (cases hc; done) | exact h
        cases hg : gcond (e g) want with
        | none => rw [hg] at h; exact h.elim
        | some c =>
          rw [hg] at h
          have h : match outX n e M c op with
            | some (r, M', cnd) => (c = true → cnd) ∧ (c = false → M' = M) ∧ evX P T os (bif isAl op then n + 1 else n) (acc ++ [⟨⟨dst, op, some (g, want)⟩, foot e c n op, isW op, n⟩]) (put e dst (.g c r)) M' K
            | none => False := h
          cases ho : outX n e M c op with
          | none => rw [ho] at h; exact h.elim
          | some x =>
            obtain ⟨r, M', cnd⟩ := x
            rw [ho] at h
            exact RX_cons (x := ⟨⟨dst, op, some (g, want)⟩, foot e c n op, isW op, n⟩) (show StpX P ⟨⟨dst, op, some (g, want)⟩, foot e c n op, isW op, n⟩ e M (.g c r) M' from ⟨c, r, hg, rfl, fun h0 => stpX0_out hc (fun _ hb => hb) (fun hw => hw) ho (h.1 h0), fun h0 => h.2.1 h0⟩) (evX_sound h.2.2)
theorem callx0 {P : Program} {T : List (List Nat)} {M : List Blk} {f : Nat} {ps : List Pt} {x : XOp} {os : List OpL} {acc : List XOp} {e : Nat → SV} {K : St → Prop} {r : SV} (h : ∀ N, CallR P N f ps r N) (hK : evX P T os x.n (acc ++ [x]) (put e x.op.dst r) M K) : CallX P T M f ps x os acc e K := .inl ⟨r, h, evX_sound hK⟩
theorem callxg0 {P : Program} {T : List (List Nat)} {M : List Blk} {c : Bool} {f : Nat} {ps : List Pt} {x : XOp} {os : List OpL} {acc : List XOp} {e : Nat → SV} {K : St → Prop} {r : SV} (h : c = true → ∀ N, CallR P N f ps r N) (hK : evX P T os x.n (acc ++ [x]) (put e x.op.dst (.g c r)) M K) : CallXG P T M c f ps x os acc e K := ⟨r, h, evX_sound hK⟩
def nAl : List OpL → Nat
  | [] => 0
  | o :: os => bif isAl o.op then nAl os + 1 else nAl os
/-- What is told at a loop's head, at a join: slots one by one, blocks; what lies behind them is forgotten. -/
def Into (m : Nat) (s : St) (l : List (Nat × SV)) (M' : List Blk) : Prop :=
  ∃ D, s.M = M' ++ D ∧ m ≤ M'.length ∧ (∀ p ∈ l, leS (s.env p.1) p.2 ∧ ltS M'.length p.2) ∧ ∀ x ∈ M', ltB M'.length x
section
variable {P : Program} {n m : Nat} {K : Exit → St → Prop} {e : Nat → SV} {M : List Blk}
theorem Into.gh {s : St} {l : List (Nat × SV)} {M' : List Blk} (h : Into m s l M') : Gh n m s ⟨envL l, M'⟩ := by
  obtain ⟨D, h1, h2, h3, h4⟩ := h
  obtain ⟨e, M⟩ := s
  exact gh_drop h1 h2 (fun p hp => ⟨(h3 p hp).1.sub, (h3 p hp).2⟩) h4
def V (P : Program) (n m : Nat) : C → (Nat → SV) → List Blk → (Exit → St → Prop) → Prop
  | .skip, e, M, K => K .normal ⟨e, M⟩
  | .ret, e, M, K => K .ret ⟨e, M⟩
  | .exit id, e, M, K => K (.exit id) ⟨e, M⟩
  | .reg d ops, e, M, K => ev P d ops e M (K .normal)
  | .seq a b, e, M, K => V P n m a e M (andThen (fun s => V P n m b s.env s.M K) K)
  | .block id c, e, M, K => V P n m c e M (inBlock id K)
  | .scope c, e, M, K => V P n m c e M (inScope K)
  | .cond x a b, e, M, K =>
    match raw e x with
    | .p (.one (.c (.v (.bool t)))) => (t = true → V P n m a e M K) ∧ (t = false → V P n m b e M K)
    | _ => False
  | .loop c, e, M, K => Run P n m (.loop c) ⟨e, M⟩ K
  | .rgx T ops, e, M, K => evX P T ops M.length [] e (M ++ List.replicate (nAl ops) (.rows 0 0 0 [] true)) (K .normal)
theorem V_sound : ∀ {c : C} {e : Nat → SV} {M : List Blk} {K : Exit → St → Prop}, V P n m c e M K → Run P n m c ⟨e, M⟩ K
  | .skip, e, M, K, h => run_skip h
  | .ret, e, M, K, h => run_ret h
  | .exit id, e, M, K, h => run_exit h
  | .reg d ops, e, M, K, h => run_reg (ev_sound h)
  | .seq a b, e, M, K, h => run_seq (run_mono (fun ex s hs => by cases ex <;> first | exact V_sound (c := b) hs | exact hs) (V_sound (c := a) h))
  | .block id c, e, M, K, h => run_block (V_sound (c := c) h)
  | .scope c, e, M, K, h => run_scope (V_sound (c := c) h)
  | .cond x a b, e, M, K, h => by
    unfold V at h
    split at h
    · rename_i t hx
      exact run_cond hx (fun ht => V_sound (h.1 ht)) (fun ht => V_sound (h.2 ht))
    · exact h.elim
  | .loop c, e, M, K, h => h
  | .rgx T ops, e, M, K, h => by
    obtain ⟨xs, h1, h2⟩ := evX_sound h
    obtain ⟨h3, h4⟩ := runX_pure h2
    exact run_gh (gh_res _) (run_rgx h1 (by simpa using h3) h4)
theorem V_loop {ι : Type} (J : ι → Prop) (env : ι → List (Nat × SV)) (mem : ι → List Blk) (μ : ι → Nat) {c : C} (i0 : ι) (h0 : J i0) (hs : Into m ⟨e, M⟩ (env i0) (mem i0))
    (h : ∀ i, J i → V P n m c (envL (env i)) (mem i) (andThen (fun s' => ∃ j, J j ∧ μ j < μ i ∧ Into m s' (env j) (mem j)) K)) : Run P n m (.loop c) ⟨e, M⟩ K := by
  refine run_loop (ι := { i // J i }) (fun i => ⟨envL (env i.1), mem i.1⟩) (fun i => μ i.1) ⟨i0, h0⟩ hs.gh (fun i => run_mono (fun ex s' hx => ?_) (V_sound (h i.1 i.2)))
  cases ex with
  | normal =>
    obtain ⟨j, h1, h2, h3⟩ := hx
    exact ⟨⟨j, h1⟩, h3.gh, h2⟩
  | _ => exact hx
/-- A function's end whose results are closed. -/
def FinP (rvs : List RV) (Q : SV → Prop) : Exit → St → Prop
  | .normal, s => match resL s.env s.M rvs with
    | some (qs, c) => c ∧ Q (mkRes qs)
    | none => False
  | .ret, s => match resL s.env s.M rvs with
    | some (qs, c) => c ∧ Q (mkRes qs)
    | none => False
  | _, _ => False
theorem callP {f : Nat} {c : C} {rvs : List RV} {ps : List Pt} {r : SV} (hF : Fun P f n c rvs) (hl : ps.length ≤ n) (hps : ∀ q ∈ ps, ltP 0 q) (hr : ltS 0 r) (h : V P n 0 c (envOf 0 ps) [] (FinP rvs (leS · r))) (M : List Blk) : CallR P M f ps r M := by
  refine callR_pure (callR_intro (M' := []) hF hl (run_mono (fun ex s hs => ?_) (V_sound h))) hps M
  have key : (match resL s.env s.M rvs with
    | some (qs, c) => c ∧ leS (mkRes qs) r
    | none => False) → Fin n 0 rvs r [] s := by
    intro h
    cases hq : resL s.env s.M rvs with
    | none => rw [hq] at h; exact h.elim
    | some x =>
      obtain ⟨qs, c⟩ := x
      rw [hq] at h
      exact ⟨s, s.M, qs, c, Gh.refl s, hq, h.1, rfl, h.2.sub, Nat.le_refl _, hr, fun x hx => by simp at hx⟩
  cases ex with
  | normal => exact key hs
  | ret => exact key hs
  | _ => exact hs.elim
end
@[go_sem] theorem mkRes_one (q : Pt) : mkRes [q] = .p q := rfl
@[go_sem] theorem mkRes_nil : mkRes [] = .tup [] := rfl
@[go_sem] theorem mkRes_two (q q' : Pt) (qs : List Pt) : mkRes (q :: q' :: qs) = .tup (q :: q' :: qs) := rfl
attribute [go_sem] isWr V ev callK callGK callGK' callee ptsOf capsL envL resL FinP evX callXK callXGK callXGK' nAl isAl isW foot blkOf outX mkP mkA
attribute [go_sem] cond_false cond_true if_true if_false Nat.reduceEqDiff Nat.reduceAdd true_and and_true implies_true imp_self List.length_cons List.length_nil Bool.not_false Bool.not_true Bool.not_not Option.map_some Option.map_none Bool.not_or Bool.not_and forall_const
attribute [go_sem] SV.p.injEq Pt.one.injEq AV.c.injEq CV.v.injEq Value.int.injEq Value.bool.injEq Value.string.injEq SV.tup.injEq Pt.agg.injEq List.cons.injEq AV.ip.injEq AV.ptr.injEq AV.arr.injEq AV.fn.injEq reduceCtorEq
end Go.Proofs.YtcmkhlfjcdchmaaGreatAbs
end
section
namespace Go.Proofs.YtcmkhlfjcdchmaaGreatAbs
open Go Go.RowKit
/-- How a value of one's own looks to whoever only reads it. -/
inductive Snap (M : List Blk) : AV → AV → Prop
  | same (a : AV) : ltA 0 a → Snap M a a
  | arr (sz b ver off len t : Nat) (l : List (List AV)) (fl : Bool) (c : Nat → Nat → CV) : M[b]? = some (.rows t sz ver l fl) → off + len ≤ l.length → (∀ i, i < len → ∀ j, j < sz → Snap M ((l.getD (off + i) []).getD j default) (.c (c i j))) → Snap M (.arr sz b ver off len) (.c (.imm sz len c))
  | ptr (b ver i j n t sz : Nat) (l : List (List AV)) (fl : Bool) (c : Nat → CV) : M[b]? = some (.rows t sz ver l fl) → i < l.length → j + n ≤ (l.getD i []).length → 0 < n → (∀ k, k < n → Snap M ((l.getD i []).getD (j + k) default) (.c (c k))) → Snap M (.ptr b ver i j) (.ip n c)
  | fn (f n : Nat) (caps caps' : Nat → AV) : (∀ k, k < n → Snap M (caps k) (caps' k)) → Snap M (.fn f n caps) (.fn f n caps')
theorem Snap.rel {I : Im} {σ : List Plc} {M : List Blk} {w : World} (hm : Mem I σ M w) {a a' : AV} (h : Snap M a a') : ∀ {y : Value}, RelA I σ a y → RelA (fun ad => w.cell? ad) [] a' y := by
  have hx : ExtI I (fun ad => w.cell? ad) := hm.imm
  induction h with
  | same a ha =>
    intro y hr
    have := RelA_take (n := 0) ha hr
    exact RelA_mono hx (by simpa using ExtP.refl []) (by simpa using this)
  | fn f n caps caps' _ ih =>
    rintro y ⟨cs, e, hs, hr⟩
    refine ⟨cs, e, hs, fun k x hk => ih k ?_ (hr k x hk)⟩
    have := (Array.getElem?_eq_some_iff.1 hk).1
    omega
  | arr sz b ver off len t l fl c hM hle _ ih =>
    rintro y ⟨h1, p, hp, hv, hq⟩
    obtain ⟨k0, k1, k2, k3, k4, k5, k6⟩ := hm.blk b _ p hM hp
    obtain ⟨e1, e2, e3⟩ := hq k2
    refine ⟨_, _, e3, by omega, ?_⟩
    by_cases hl0 : len = 0
    · exact .inl hl0
    · cases hbk : p.blk with
      | none =>
        rw [hbk] at k6
        have k6 : p.cap = 0 := k6
        omega
      | some g =>
        rw [hbk] at k6
        obtain ⟨cs, hh, hs, ho, hcs⟩ := k6
        refine .inr ⟨⟨g, off * sz, none⟩, rfl, fun i hi j hj => ?_⟩
        have hr : l[off + i]? = some (l.getD (off + i) []) := getD_some (by omega)
        have hrs := k5 _ _ hr
        have hu : (l.getD (off + i) [])[j]? = some ((l.getD (off + i) []).getD j default) := getD_some (by omega)
        obtain ⟨x, hx1, hx2⟩ := hcs _ _ hr j _ hu
        refine ⟨x, ?_, ih i hi j hj hx2⟩
        show w.cell? _ = _
        rw [add_mk, cell_of_row w g _ cs t (0, 0) hh, show off * sz + (i * sz + j) = (off + i) * sz + j by rw [Nat.add_mul]; omega]
        exact hx1
  | ptr b ver i j n t sz l fl c hM hi hle hn _ ih =>
    rintro y ⟨h1, p, hp, hv, hq⟩
    obtain ⟨k0, k1, k2, k3, k4, k5, k6⟩ := hm.blk b _ p hM hp
    obtain ⟨g, hg, rfl⟩ := hq k2
    rw [hg] at k6
    obtain ⟨cs, hh, hs, ho, hcs⟩ := k6
    refine ⟨_, rfl, fun k hk => ?_⟩
    have hr : l[i]? = some (l.getD i []) := getD_some (by omega)
    have hu : (l.getD i [])[j + k]? = some ((l.getD i []).getD (j + k) default) := getD_some (by omega)
    obtain ⟨x, hx1, hx2⟩ := hcs _ _ hr (j + k) _ hu
    refine ⟨x, ?_, ih k hk hx2⟩
    show w.cell? _ = _
    rw [add_mk, cell_of_row w g _ cs t (0, 0) hh, k1, show i * sz + j + k = i * sz + (j + k) by omega]
    exact hx1
def SnapP (M : List Blk) : Pt → Pt → Prop
  | .one a, .one a' => Snap M a a'
  | .agg l, .agg l' => l.length = l'.length ∧ ∀ (k : Nat) (a a' : AV), l[k]? = some a → l'[k]? = some a' → Snap M a a'
  | _, _ => False
theorem SnapP.rel {I : Im} {σ : List Plc} {M : List Blk} {w : World} (hm : Mem I σ M w) {q q' : Pt} (h : SnapP M q q') {y : Value} (hr : RelP I σ q y) : RelP (fun ad => w.cell? ad) [] q' y := by
  cases q with
  | one a =>
    cases q' with
    | one a' => exact Snap.rel hm h hr
    | agg l' => exact h.elim
  | agg l =>
    cases q' with
    | one a' => exact h.elim
    | agg l' =>
      obtain ⟨cs, e, h1, h2⟩ := hr
      refine ⟨cs, e, by rw [h1, h.1], fun k a x ha hx => ?_⟩
      have hk : k < l.length := by have := getElem?_lt ha; have := h.1; omega
      exact Snap.rel hm (h.2 k _ a (List.getElem?_eq_getElem hk) ha) (h2 k _ x (List.getElem?_eq_getElem hk) hx)
def SnapL (M : List Blk) : List Pt → List Pt → Prop
  | [], [] => True
  | q :: qs, q' :: qs' => SnapP M q q' ∧ SnapL M qs qs'
  | _, _ => False
theorem SnapL.length {M : List Blk} : ∀ {l l' : List Pt}, SnapL M l l' → l.length = l'.length
  | [], [], _ => rfl
  | q :: qs, q' :: qs', h => by simp [SnapL.length h.2]
theorem SnapL.get {M : List Blk} : ∀ {l l' : List Pt}, SnapL M l l' → ∀ (k : Nat) (q q' : Pt), l[k]? = some q → l'[k]? = some q' → SnapP M q q'
  | q :: qs, q' :: qs', h, 0, x, x', e, e' => by
    injection e with e; injection e' with e'; subst e; subst e'; exact h.1
  | q :: qs, q' :: qs', h, k + 1, x, x', e, e' => SnapL.get h.2 k x x' e e'
def plainA : AV → Prop
  | .c (.v _) => True
  | _ => False
def plainP : Pt → Prop
  | .one a => plainA a
  | .agg l => ∀ a ∈ l, plainA a
def plainS : SV → Prop
  | .p q => plainP q
  | .tup l => ∀ q ∈ l, plainP q
  | _ => False
theorem plainA.rel {I I' : Im} {σ σ' : List Plc} {a : AV} {y : Value} (h : plainA a) (hr : RelA I σ a y) : RelA I' σ' a y := by
  cases a with
  | c x => cases x with
    | v x => exact hr
    | imm _ _ _ => exact h.elim
  | _ => exact h.elim
theorem plainP.rel {I I' : Im} {σ σ' : List Plc} {q : Pt} {y : Value} (h : plainP q) (hr : RelP I σ q y) : RelP I' σ' q y := by
  cases q with
  | one a => exact plainA.rel h hr
  | agg l =>
    obtain ⟨cs, e, h1, h2⟩ := hr
    exact ⟨cs, e, h1, fun k a x ha hx => plainA.rel (h a (List.mem_of_getElem? ha)) (h2 k a x ha hx)⟩
theorem plainS.rel {I I' : Im} {σ σ' : List Plc} {s : SV} {y : Value} (h : plainS s) (hr : RelS I σ s y) : RelS I' σ' s y := by
  cases s with
  | p q => exact plainP.rel h hr
  | tup l =>
    obtain ⟨vs, e, h1, h2⟩ := hr
    exact ⟨vs, e, h1, fun k q x hq hx => plainP.rel (h q (List.mem_of_getElem? hq)) (h2 k q x hq hx)⟩
  | g _ _ => exact h.elim
  | any => exact h.elim
theorem callR_lend {P : Program} {M : List Blk} {f : Nat} {ps ps' : List Pt} {r : SV} (h : CallR P [] f ps' r []) (hs : SnapL M ps ps') (hr : plainS r) : CallR P M f ps r M := by
  intro I σ w vals hG hm hvl hvr
  have hm0 : Mem (fun ad => w.cell? ad) [] [] w := ⟨rfl, fun b x p h => by simp at h, fun b b' x x' p p' g h => by simp at h, fun b x p g h => by simp at h, fun a x h => h⟩
  have hno : ∀ g, ¬ Has ([] : List Plc) [] g := by rintro g ⟨b, x, p, h, _⟩; simp at h
  refine Comes.mono (h _ [] w vals (hG.ext hm.imm) hm0 (by rw [hvl, hs.length]) (fun k q x hq hx => ?_)) ?_
  · have hk : k < ps.length := by have := getElem?_lt hq; have := hs.length; omega
    exact (hs.get k _ q (List.getElem?_eq_getElem hk) hq).rel hm (hvr k _ x (List.getElem?_eq_getElem hk) hx)
  · rintro v w' ⟨I', σ', hrel, hev⟩
    have hk : Keep (fun _ => False) w w' := hev.keep.mono (fun k _ h => hno k h)
    have hm1 := hm.keep hk (fun _ _ h => h) (fun _ _ _ h => h)
    exact ⟨I, σ, hr.rel hrel, ⟨ExtI.refl _, ExtP.refl _, hm1, hk.mono (fun k _ h => h.elim), fun g h => .inl h, fun a x h => .inl h⟩⟩
attribute [go_sem] List.nil_append List.cons_append List.append_nil List.getElem?_cons_zero List.getElem?_cons_succ List.getElem?_nil List.set_cons_zero List.set_cons_succ List.getD_cons_zero List.getD_cons_succ List.map_cons List.map_nil Int.toNat_natCast List.take_succ_cons List.take_zero List.take_nil List.drop_succ_cons List.drop_zero List.drop_nil List.take_length List.replicate_zero List.replicate_succ eq_self and_self Nat.reduceLeDiff Nat.reduceLT Nat.lt_irrefl Nat.le_refl Nat.reduceSub Nat.sub_zero Nat.zero_add Nat.add_zero Nat.lt_add_one Nat.zero_lt_one Int.toNat_zero Int.zero_sub Int.toNat_one Int.reduceToNat Int.natCast_zero Bool.and_true Bool.true_and Bool.or_false Bool.false_or decide_true decide_false decide_eq_true_eq decide_eq_false_iff_not Bool.true_eq_false Bool.false_eq_true not_true_eq_false not_false_eq_true Bool.not_eq_true Bool.not_eq_false Nat.succ_eq_add_one Int.reducePow Nat.reducePow Int.ofNat_lt Int.ofNat_le Int.ofNat_inj srcRows Int.natCast_one beq_self_eq_true Int.reduceBEq Nat.reduceBEq beq_iff_eq beq_eq_false_iff_ne ne_eq List.drop_length bne_iff_ne Nat.sub_self immRows false_implies true_implies gt_iff_lt ge_iff_le Nat.not_lt_zero Int.le_refl Int.reduceLE Int.reduceLT Int.reduceNeg false_and and_false or_true true_or or_false false_or
attribute [go_sem] SnapL SnapP plainS plainP plainA List.mem_cons forall_eq_or_imp List.not_mem_nil false_imp_iff forall_eq
end Go.Proofs.YtcmkhlfjcdchmaaGreatAbs
end
section
namespace Go.Proofs.YtcmkhlfjcdchmaaGreatAbs
open Go Go.RowKit
attribute [go_sem] Bool.xor_false Bool.false_xor Bool.true_xor Bool.xor_true Bool.xor_self Int.cast_ofNat_Int
attribute [go_sem] eqCells eq1
@[go_sem] theorem bcond_1 (x y : Bool) : bcond true x y = x := rfl
@[go_sem] theorem bcond_0 (x y : Bool) : bcond false x y = y := rfl
theorem w64 {n : Int} (h0 : -9223372036854775808 ≤ n) (h1 : n ≤ 9223372036854775807) : IntKind.i64.wrap n = n := by rw [IntKind.wrap_i64]; omega
theorem w64s {k : Nat} (h1 : k < 9223372036854775807) : IntKind.i64.wrap ((k : Int) + 1) = ((k + 1 : Nat) : Int) := by rw [w64 (by omega) (by omega)]; rfl
theorem w64p {k : Nat} (h0 : 0 < k) (h1 : k < 9223372036854775807) : IntKind.i64.wrap ((k : Int) - 1) = ((k - 1 : Nat) : Int) := by rw [w64 (by omega) (by omega)]; omega
theorem into0 {s : St} {l : List (Nat × SV)} (h : ∀ p ∈ l, leS (s.env p.1) p.2 ∧ ltS 0 p.2) : Into 0 s l [] := ⟨s.M, rfl, Nat.le_refl _, h, fun x hx => by cases hx⟩
end Go.Proofs.YtcmkhlfjcdchmaaGreatAbs
end
