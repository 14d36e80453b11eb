/- Part 5 of the texts on which the row stands: CdShelf, ShA, ShB, ShC, ShD, ShE, ShF, ShG, ShH, ShI. Conditions: none. -/
import Derived.Test.YtcmkhlfjcdchmaaGreatPgpd
import Derived.Test.YtcmkhlfjcdchmaaGreatProg
set_option linter.unusedVariables false
set_option linter.unusedSimpArgs false
section
set_option maxRecDepth 100000
namespace Go.Proofs.YtcmkhlfjcdchmaaGreat.A
open Go Go.Proofs.YtcmkhlfjcdchmaaGreatAbs

/-- windrose/windroseref14.Same -/
def c_windroseref14_Same : C :=
 (.seq (.reg false [⟨some 2, .box 29 3 (.t 0), none⟩, ⟨some 3, .box 29 3 (.t 1), none⟩, ⟨some 4, .mv (kb false), none⟩])
 (.seq (.seq (.reg false [⟨some 7, .fa 0 (.t 2), none⟩, ⟨some 8, .ld false 1 (.t 7), none⟩, ⟨some 9, .len (.t 8), none⟩, ⟨some 10, .fa 0 (.t 3), none⟩, ⟨some 11, .ld false 1 (.t 10), none⟩, ⟨some 12, .len (.t 11), none⟩, ⟨some 13, .bin .neq (.t 9) (.t 12), none⟩, ⟨some 14, .mv (.t 13), none⟩, ⟨some 15, .fa 1 (.t 2), some (14, false)⟩, ⟨some 16, .ld false 1 (.t 15), some (14, false)⟩, ⟨some 17, .len (.t 16), some (14, false)⟩, ⟨some 18, .fa 1 (.t 3), some (14, false)⟩, ⟨some 19, .ld false 1 (.t 18), some (14, false)⟩, ⟨some 20, .len (.t 19), some (14, false)⟩, ⟨some 21, .bin .neq (.t 17) (.t 20), some (14, false)⟩, ⟨some 22, .pick (.t 14) (kb true) (.t 21), none⟩, ⟨some 23, .mv (.t 22), none⟩, ⟨some 24, .fa 2 (.t 2), some (23, false)⟩, ⟨some 25, .ld false 1 (.t 24), some (23, false)⟩, ⟨some 26, .fa 2 (.t 3), some (23, false)⟩, ⟨some 27, .ld false 1 (.t 26), some (23, false)⟩, ⟨some 28, .bin .neq (.t 25) (.t 27), some (23, false)⟩, ⟨some 29, .pick (.t 23) (kb true) (.t 28), none⟩])
 (.cond (.t 29)
 (.seq (.reg false [⟨some 4, .mv (kb false), none⟩])
 .ret)
 .skip))
 (.seq (.seq (.reg false [⟨some 5, .mv (ki 0), none⟩])
 (.block 0 (.loop (.seq (.seq (.reg false [⟨some 30, .mv (.t 5), none⟩, ⟨some 31, .fa 0 (.t 2), none⟩, ⟨some 32, .ld false 1 (.t 31), none⟩, ⟨some 33, .len (.t 32), none⟩, ⟨some 34, .bin .lss (.t 30) (.t 33), none⟩])
 (.cond (.t 34)
 .skip
 (.exit 0)))
 (.seq (.block 1 (.seq (.reg true [⟨some 37, .fa 0 (.t 2), none⟩, ⟨some 38, .ld false 1 (.t 37), none⟩, ⟨some 39, .mv (.t 5), none⟩, ⟨some 40, .ia 2 (.t 38) (.t 39), none⟩, ⟨some 41, .fa 0 (.t 40), none⟩, ⟨some 42, .ld false 1 (.t 41), none⟩, ⟨some 43, .fa 0 (.t 3), none⟩, ⟨some 44, .ld false 1 (.t 43), none⟩, ⟨some 45, .mv (.t 5), none⟩, ⟨some 46, .ia 2 (.t 44) (.t 45), none⟩, ⟨some 47, .fa 0 (.t 46), none⟩, ⟨some 48, .ld false 1 (.t 47), none⟩, ⟨some 49, .bin .neq (.t 42) (.t 48), none⟩, ⟨some 50, .mv (.t 49), none⟩, ⟨some 51, .fa 0 (.t 2), some (50, false)⟩, ⟨some 52, .ld false 1 (.t 51), some (50, false)⟩, ⟨some 53, .mv (.t 5), some (50, false)⟩, ⟨some 54, .ia 2 (.t 52) (.t 53), some (50, false)⟩, ⟨some 55, .fa 1 (.t 54), some (50, false)⟩, ⟨some 56, .ld false 1 (.t 55), some (50, false)⟩, ⟨some 57, .fa 0 (.t 3), some (50, false)⟩, ⟨some 58, .ld false 1 (.t 57), some (50, false)⟩, ⟨some 59, .mv (.t 5), some (50, false)⟩, ⟨some 60, .ia 2 (.t 58) (.t 59), some (50, false)⟩, ⟨some 61, .fa 1 (.t 60), some (50, false)⟩, ⟨some 62, .ld false 1 (.t 61), some (50, false)⟩, ⟨some 63, .call (kf 17) [(.t 56), (.t 62)], some (50, false)⟩, ⟨some 64, .un .not (.t 63), some (50, false)⟩, ⟨some 65, .pick (.t 50) (kb true) (.t 64), none⟩])
 (.cond (.t 65)
 (.seq (.reg false [⟨some 4, .mv (kb false), none⟩])
 .ret)
 .skip)))
 (.reg false [⟨some 35, .mv (.t 5), none⟩, ⟨some 36, .bin .add (.t 35) (ki 1), none⟩, ⟨some 5, .mv (.t 36), none⟩]))))))
 (.seq (.seq (.reg false [⟨some 6, .mv (ki 0), none⟩])
 (.block 2 (.loop (.seq (.seq (.reg false [⟨some 66, .mv (.t 6), none⟩, ⟨some 67, .fa 1 (.t 2), none⟩, ⟨some 68, .ld false 1 (.t 67), none⟩, ⟨some 69, .len (.t 68), none⟩, ⟨some 70, .bin .lss (.t 66) (.t 69), none⟩])
 (.cond (.t 70)
 .skip
 (.exit 2)))
 (.seq (.block 3 (.seq (.reg true [⟨some 73, .fa 1 (.t 2), none⟩, ⟨some 74, .ld false 1 (.t 73), none⟩, ⟨some 75, .mv (.t 6), none⟩, ⟨some 76, .ia 5 (.t 74) (.t 75), none⟩, ⟨some 77, .ld true 5 (.t 76), none⟩, ⟨some 78, .fa 1 (.t 3), none⟩, ⟨some 79, .ld false 1 (.t 78), none⟩, ⟨some 80, .mv (.t 6), none⟩, ⟨some 81, .ia 5 (.t 79) (.t 80), none⟩, ⟨some 82, .ld true 5 (.t 81), none⟩, ⟨some 83, .eqa [1, 1, 1, 0, 1] true (.t 77) (.t 82), none⟩])
 (.cond (.t 83)
 (.seq (.reg false [⟨some 4, .mv (kb false), none⟩])
 .ret)
 .skip)))
 (.reg false [⟨some 71, .mv (.t 6), none⟩, ⟨some 72, .bin .add (.t 71) (ki 1), none⟩, ⟨some 6, .mv (.t 72), none⟩]))))))
 (.seq (.reg false [⟨some 4, .mv (kb true), none⟩])
 .ret)))))
abbrev n_windroseref14_Same : Nat := 11
theorem F_windroseref14_Same : Fun Tryz.prog n_windroseref14_Same 84 c_windroseref14_Same [.t 4] := ⟨⟨Tryz.f11, _, Tryz.func11, by kernel_rfl, rfl, rfl, by kernel_rfl, by kernel_rfl⟩⟩
/-- windrose/windroseref14.May -/
def c_windroseref14_May : C :=
 (.seq (.reg false [⟨some 1, .box 29 3 (.t 0), none⟩, ⟨some 2, .mv (kb false), none⟩])
 (.seq (.seq (.reg false [⟨some 3, .mv (ki 0), none⟩])
 (.block 0 (.loop (.seq (.seq (.reg false [⟨some 7, .mv (.t 3), none⟩, ⟨some 8, .fa 0 (.t 1), none⟩, ⟨some 9, .ld false 1 (.t 8), none⟩, ⟨some 10, .len (.t 9), none⟩, ⟨some 11, .bin .lss (.t 7) (.t 10), none⟩])
 (.cond (.t 11)
 .skip
 (.exit 0)))
 (.seq (.block 1 (.seq (.reg false [⟨some 14, .fa 0 (.t 1), none⟩, ⟨some 15, .ld false 1 (.t 14), none⟩, ⟨some 16, .mv (.t 3), none⟩, ⟨some 17, .ia 2 (.t 15) (.t 16), none⟩, ⟨some 18, .ld true 2 (.t 17), none⟩, ⟨some 4, .alloc 49 2 [.string ⟨#[]⟩, .slice none 0 0], none⟩, ⟨none, .st 2 (.t 4) (.t 18), none⟩])
 (.seq (.reg true [⟨some 19, .fa 0 (.t 4), none⟩, ⟨some 20, .ld false 1 (.t 19), none⟩, ⟨some 21, .call (kf 49) [(.t 20)], none⟩, ⟨some 22, .un .not (.t 21), none⟩, ⟨some 23, .mv (.t 22), none⟩, ⟨some 24, .mv (.t 3), some (23, false)⟩, ⟨some 25, .bin .gtr (.t 24) (ki 0), some (23, false)⟩, ⟨some 26, .mv (.t 25), some (23, false)⟩, ⟨some 27, .fa 0 (.t 1), some (26, true)⟩, ⟨some 28, .ld false 1 (.t 27), some (26, true)⟩, ⟨some 29, .mv (.t 3), some (26, true)⟩, ⟨some 30, .bin .sub (.t 29) (ki 1), some (26, true)⟩, ⟨some 31, .ia 2 (.t 28) (.t 30), some (26, true)⟩, ⟨some 32, .fa 0 (.t 31), some (26, true)⟩, ⟨some 33, .ld false 1 (.t 32), some (26, true)⟩, ⟨some 34, .fa 0 (.t 4), some (26, true)⟩, ⟨some 35, .ld false 1 (.t 34), some (26, true)⟩, ⟨some 36, .bin .geq (.t 33) (.t 35), some (26, true)⟩, ⟨some 37, .pick (.t 26) (.t 36) (kb false), some (23, false)⟩, ⟨some 38, .pick (.t 23) (kb true) (.t 37), none⟩, ⟨some 39, .mv (.t 38), none⟩, ⟨some 40, .fa 1 (.t 4), some (39, false)⟩, ⟨some 41, .ld false 1 (.t 40), some (39, false)⟩, ⟨some 42, .len (.t 41), some (39, false)⟩, ⟨some 43, .bin .eql (.t 42) (ki 0), some (39, false)⟩, ⟨some 44, .pick (.t 39) (kb true) (.t 43), none⟩, ⟨some 45, .mv (.t 44), none⟩, ⟨some 46, .fa 1 (.t 4), some (45, false)⟩, ⟨some 47, .ld false 1 (.t 46), some (45, false)⟩, ⟨some 48, .call (kf 50) [(.t 47)], some (45, false)⟩, ⟨some 49, .un .not (.t 48), some (45, false)⟩, ⟨some 50, .pick (.t 45) (kb true) (.t 49), none⟩, ⟨some 51, .mv (.t 50), none⟩, ⟨some 52, .fa 1 (.t 4), some (51, false)⟩, ⟨some 53, .ld false 1 (.t 52), some (51, false)⟩, ⟨some 54, .fa 2 (.t 1), some (51, false)⟩, ⟨some 55, .ld false 1 (.t 54), some (51, false)⟩, ⟨some 56, .call (kf 51) [(.t 53), (.t 55)], some (51, false)⟩, ⟨some 57, .len (.t 56), some (51, false)⟩, ⟨some 58, .fa 1 (.t 4), some (51, false)⟩, ⟨some 59, .ld false 1 (.t 58), some (51, false)⟩, ⟨some 60, .len (.t 59), some (51, false)⟩, ⟨some 61, .bin .neq (.t 57) (.t 60), some (51, false)⟩, ⟨some 62, .pick (.t 51) (kb true) (.t 61), none⟩])
 (.cond (.t 62)
 (.seq (.reg false [⟨some 2, .mv (kb false), none⟩])
 .ret)
 .skip))))
 (.reg false [⟨some 12, .mv (.t 3), none⟩, ⟨some 13, .bin .add (.t 12) (ki 1), none⟩, ⟨some 3, .mv (.t 13), none⟩]))))))
 (.seq (.seq (.reg false [⟨some 5, .mv (ki 0), none⟩])
 (.block 2 (.loop (.seq (.seq (.reg false [⟨some 63, .mv (.t 5), none⟩, ⟨some 64, .fa 1 (.t 1), none⟩, ⟨some 65, .ld false 1 (.t 64), none⟩, ⟨some 66, .len (.t 65), none⟩, ⟨some 67, .bin .lss (.t 63) (.t 66), none⟩])
 (.cond (.t 67)
 .skip
 (.exit 2)))
 (.seq (.block 3 (.seq (.reg false [⟨some 70, .fa 1 (.t 1), none⟩, ⟨some 71, .ld false 1 (.t 70), none⟩, ⟨some 72, .mv (.t 5), none⟩, ⟨some 73, .ia 5 (.t 71) (.t 72), none⟩, ⟨some 74, .ld true 5 (.t 73), none⟩, ⟨some 6, .alloc 45 5 [.int .i64 0, .int .i64 0, .int .i64 0, .bool false, .int .i64 0], none⟩, ⟨none, .st 5 (.t 6) (.t 74), none⟩])
 (.seq (.reg true [⟨some 75, .fa 0 (.t 6), none⟩, ⟨some 76, .ld false 1 (.t 75), none⟩, ⟨some 77, .bin .lss (.t 76) (ki 1), none⟩, ⟨some 78, .mv (.t 77), none⟩, ⟨some 79, .fa 0 (.t 6), some (78, false)⟩, ⟨some 80, .ld false 1 (.t 79), some (78, false)⟩, ⟨some 81, .bin .geq (.t 80) (ki 2147483648), some (78, false)⟩, ⟨some 82, .pick (.t 78) (kb true) (.t 81), none⟩, ⟨some 83, .mv (.t 82), none⟩, ⟨some 84, .fa 1 (.t 6), some (83, false)⟩, ⟨some 85, .ld false 1 (.t 84), some (83, false)⟩, ⟨some 86, .bin .lss (.t 85) (ki 1), some (83, false)⟩, ⟨some 87, .pick (.t 83) (kb true) (.t 86), none⟩, ⟨some 88, .mv (.t 87), none⟩, ⟨some 89, .fa 1 (.t 6), some (88, false)⟩, ⟨some 90, .ld false 1 (.t 89), some (88, false)⟩, ⟨some 91, .bin .geq (.t 90) (ki 2147483648), some (88, false)⟩, ⟨some 92, .pick (.t 88) (kb true) (.t 91), none⟩, ⟨some 93, .mv (.t 92), none⟩, ⟨some 94, .mv (.t 5), some (93, false)⟩, ⟨some 95, .bin .gtr (.t 94) (ki 0), some (93, false)⟩, ⟨some 96, .mv (.t 95), some (93, false)⟩, ⟨some 97, .fa 1 (.t 1), some (96, true)⟩, ⟨some 98, .ld false 1 (.t 97), some (96, true)⟩, ⟨some 99, .mv (.t 5), some (96, true)⟩, ⟨some 100, .bin .sub (.t 99) (ki 1), some (96, true)⟩, ⟨some 101, .ia 5 (.t 98) (.t 100), some (96, true)⟩, ⟨some 102, .fa 0 (.t 101), some (96, true)⟩, ⟨some 103, .ld false 1 (.t 102), some (96, true)⟩, ⟨some 104, .fa 0 (.t 6), some (96, true)⟩, ⟨some 105, .ld false 1 (.t 104), some (96, true)⟩, ⟨some 106, .bin .geq (.t 103) (.t 105), some (96, true)⟩, ⟨some 107, .pick (.t 96) (.t 106) (kb false), some (93, false)⟩, ⟨some 108, .pick (.t 93) (kb true) (.t 107), none⟩])
 (.cond (.t 108)
 (.seq (.reg false [⟨some 2, .mv (kb false), none⟩])
 .ret)
 .skip))))
 (.reg false [⟨some 68, .mv (.t 5), none⟩, ⟨some 69, .bin .add (.t 68) (ki 1), none⟩, ⟨some 5, .mv (.t 69), none⟩]))))))
 (.seq (.reg false [⟨some 109, .fa 0 (.t 1), none⟩, ⟨some 110, .ld false 1 (.t 109), none⟩, ⟨some 111, .len (.t 110), none⟩, ⟨some 112, .bin .leq (.t 111) (ki 16), none⟩, ⟨some 113, .mv (.t 112), none⟩, ⟨some 114, .fa 1 (.t 1), some (113, true)⟩, ⟨some 115, .ld false 1 (.t 114), some (113, true)⟩, ⟨some 116, .len (.t 115), some (113, true)⟩, ⟨some 117, .bin .leq (.t 116) (ki 8), some (113, true)⟩, ⟨some 118, .pick (.t 113) (.t 117) (kb false), none⟩, ⟨some 119, .mv (.t 118), none⟩, ⟨some 120, .fa 2 (.t 1), some (119, true)⟩, ⟨some 121, .ld false 1 (.t 120), some (119, true)⟩, ⟨some 122, .bin .geq (.t 121) (ki 0), some (119, true)⟩, ⟨some 123, .pick (.t 119) (.t 122) (kb false), none⟩, ⟨some 124, .mv (.t 123), none⟩, ⟨some 125, .fa 2 (.t 1), some (124, true)⟩, ⟨some 126, .ld false 1 (.t 125), some (124, true)⟩, ⟨some 127, .bin .leq (.t 126) (ki 1099511627776), some (124, true)⟩, ⟨some 128, .pick (.t 124) (.t 127) (kb false), none⟩, ⟨some 2, .mv (.t 128), none⟩])
 .ret))))
abbrev n_windroseref14_May : Nat := 14
theorem F_windroseref14_May : Fun Tryz.prog n_windroseref14_May 129 c_windroseref14_May [.t 2] := ⟨⟨Tryz.f14, _, Tryz.func14, by kernel_rfl, rfl, rfl, by kernel_rfl, by kernel_rfl⟩⟩
/-- windrose/shelf.Do -/
def c_shelf_Do : C :=
 (.seq (.reg false [⟨some 2, .box 29 3 (.t 0), none⟩, ⟨some 3, .box 37 10 (.t 1), none⟩, ⟨some 4, .alloc 29 3 [.slice none 0 0, .slice none 0 0, .int .i64 0], none⟩, ⟨some 5, .alloc 41 3 [.int .i64 0, .bool false, .int .i64 0], none⟩, ⟨some 6, .mv (ki 0), none⟩])
 (.seq (.seq (.reg false [⟨some 10, .ld true 3 (.t 2), none⟩, ⟨some 11, .call (kf 20) [(.t 10)], none⟩, ⟨some 12, .bin .neq (.t 11) (ki 0), none⟩, ⟨some 13, .mv (.t 12), none⟩, ⟨some 14, .fa 1 (.t 3), some (13, false)⟩, ⟨some 15, .ld false 1 (.t 14), some (13, false)⟩, ⟨some 16, .call (kf 52) [(.t 15), (ki 0), (ki 2147483647)], some (13, false)⟩, ⟨some 17, .un .not (.t 16), some (13, false)⟩, ⟨some 18, .pick (.t 13) (kb true) (.t 17), none⟩, ⟨some 19, .mv (.t 18), none⟩, ⟨some 20, .fa 2 (.t 3), some (19, false)⟩, ⟨some 21, .ld false 1 (.t 20), some (19, false)⟩, ⟨some 22, .call (kf 52) [(.t 21), (ki 1), (ki 2147483647)], some (19, false)⟩, ⟨some 23, .un .not (.t 22), some (19, false)⟩, ⟨some 24, .pick (.t 19) (kb true) (.t 23), none⟩])
 (.cond (.t 24)
 (.seq (.reg false [⟨some 25, .bld [.slice none 0 0, .slice none 0 0, .int .i64 0] [], none⟩, ⟨some 26, .bld [.int .i64 0, .bool false, .int .i64 0] [], none⟩, ⟨none, .st 3 (.t 4) (.t 25), none⟩, ⟨none, .st 3 (.t 5) (.t 26), none⟩, ⟨some 6, .mv (ki 1), none⟩])
 .ret)
 .skip))
 (.seq (.reg false [⟨some 27, .ld true 3 (.t 2), none⟩, ⟨some 28, .call (kf 53) [(.t 27)], none⟩, ⟨none, .st 3 (.t 2) (.t 28), none⟩])
 (.seq (.seq (.reg false [⟨some 29, .fa 1 (.t 2), none⟩, ⟨some 30, .ld false 1 (.t 29), none⟩, ⟨some 31, .len (.t 30), none⟩, ⟨some 32, .mv (ki 0), none⟩])
 (.block 0 (.loop (.seq (.reg false [⟨some 33, .bin .lss (.t 32) (.t 31), none⟩])
 (.seq (.cond (.t 33)
 .skip
 (.exit 0))
 (.seq (.block 1 (.seq (.reg false [⟨some 34, .ia 5 (.t 30) (.t 32), none⟩, ⟨some 35, .ld true 5 (.t 34), none⟩, ⟨some 8, .alloc 45 5 [.int .i64 0, .int .i64 0, .int .i64 0, .bool false, .int .i64 0], none⟩, ⟨none, .st 5 (.t 8) (.t 35), none⟩])
 (.seq (.seq (.reg false [⟨some 36, .fa 0 (.t 8), none⟩, ⟨some 37, .ld false 1 (.t 36), none⟩, ⟨some 38, .fa 1 (.t 3), none⟩, ⟨some 39, .ld false 1 (.t 38), none⟩, ⟨some 40, .bin .eql (.t 37) (.t 39), none⟩, ⟨some 41, .mv (.t 40), none⟩, ⟨some 42, .fa 1 (.t 8), some (41, true)⟩, ⟨some 43, .ld false 1 (.t 42), some (41, true)⟩, ⟨some 44, .fa 2 (.t 3), some (41, true)⟩, ⟨some 45, .ld false 1 (.t 44), some (41, true)⟩, ⟨some 46, .bin .eql (.t 43) (.t 45), some (41, true)⟩, ⟨some 47, .pick (.t 41) (.t 46) (kb false), none⟩])
 (.cond (.t 47)
 (.seq (.rgx [[], [], [1], [0], [2, 1, 3, 0], [4, 2, 1, 3, 0]] [⟨some 48, .ld true 3 (.t 2), none⟩, ⟨some 49, .fa 2 (.t 8), none⟩, ⟨some 50, .ld true 3 (.t 49), none⟩, ⟨none, .st 3 (.t 4) (.t 48), none⟩, ⟨none, .st 3 (.t 5) (.t 50), none⟩, ⟨some 6, .mv (ki 0), none⟩])
 .ret)
 .skip))
 (.seq (.reg false [⟨some 51, .fa 0 (.t 8), none⟩, ⟨some 52, .ld false 1 (.t 51), none⟩, ⟨some 53, .fa 1 (.t 3), none⟩, ⟨some 54, .ld false 1 (.t 53), none⟩, ⟨some 55, .bin .eql (.t 52) (.t 54), none⟩, ⟨some 56, .mv (.t 55), none⟩, ⟨some 57, .fa 1 (.t 8), some (56, true)⟩, ⟨some 58, .ld false 1 (.t 57), some (56, true)⟩, ⟨some 59, .fa 2 (.t 3), some (56, true)⟩, ⟨some 60, .ld false 1 (.t 59), some (56, true)⟩, ⟨some 61, .bin .gtr (.t 58) (.t 60), some (56, true)⟩, ⟨some 62, .pick (.t 56) (.t 61) (kb false), none⟩])
 (.cond (.t 62)
 (.seq (.reg false [⟨some 63, .ld true 3 (.t 2), none⟩, ⟨some 64, .bld [.int .i64 0, .bool false, .int .i64 0] [(0, 1, (ki 9))], none⟩, ⟨none, .st 3 (.t 4) (.t 63), none⟩, ⟨none, .st 3 (.t 5) (.t 64), none⟩, ⟨some 6, .mv (ki 0), none⟩])
 .ret)
 .skip)))))
 (.reg false [⟨some 65, .bin .add (.t 32) (ki 1), none⟩, ⟨some 32, .mv (.t 65), none⟩])))))))
 (.seq (.reg false [⟨some 67, .ld true 3 (.t 2), none⟩, ⟨some 68, .fa 3 (.t 3), none⟩, ⟨some 69, .ld true 7 (.t 68), none⟩, ⟨some 70, .call (kf 54) [(.t 67), (.t 69)], none⟩, ⟨some 66, .mv (.t 70), none⟩, ⟨some 71, .ex (.t 66) 0, none⟩, ⟨some 72, .ex (.t 66) 1, none⟩, ⟨some 9, .alloc 41 3 [.int .i64 0, .bool false, .int .i64 0], none⟩, ⟨none, .st 3 (.t 2) (.t 71), none⟩, ⟨none, .st 3 (.t 9) (.t 72), none⟩])
 (.seq (.seq (.reg false [⟨some 73, .fa 1 (.t 3), none⟩, ⟨some 74, .ld false 1 (.t 73), none⟩, ⟨some 75, .bin .gtr (.t 74) (ki 0), none⟩])
 (.cond (.t 75)
 (.reg false [⟨some 76, .ld true 3 (.t 2), none⟩, ⟨some 77, .fa 1 (.t 3), none⟩, ⟨some 78, .ld false 1 (.t 77), none⟩, ⟨some 79, .fa 2 (.t 3), none⟩, ⟨some 80, .ld false 1 (.t 79), none⟩, ⟨some 81, .ld true 3 (.t 9), none⟩, ⟨some 82, .bld [.int .i64 0, .int .i64 0, .int .i64 0, .bool false, .int .i64 0] [(0, 1, (.t 78)), (1, 1, (.t 80)), (2, 3, (.t 81))], none⟩, ⟨some 83, .call (kf 55) [(.t 76), (.t 82)], none⟩, ⟨none, .st 3 (.t 2) (.t 83), none⟩])
 .skip))
 (.seq (.rgx [[], [], [0], [1, 2, 0], [3, 1, 2, 0]] [⟨some 84, .ld true 3 (.t 2), none⟩, ⟨some 85, .ld true 3 (.t 9), none⟩, ⟨none, .st 3 (.t 4) (.t 84), none⟩, ⟨none, .st 3 (.t 5) (.t 85), none⟩, ⟨some 6, .mv (ki 0), none⟩])
 .ret)))))))
abbrev n_shelf_Do : Nat := 16
theorem F_shelf_Do : Fun Tryz.prog n_shelf_Do 86 c_shelf_Do [.l true 3 4, .l true 3 5, .t 6] := ⟨⟨Tryz.f16, _, Tryz.func16, by kernel_rfl, rfl, rfl, by kernel_rfl, by kernel_rfl⟩⟩
/-- windrose/windroseref11.Same -/
def c_windroseref11_Same : C :=
 (.seq (.reg false [⟨some 4, .mv (kb false), none⟩])
 (.seq (.seq (.reg false [⟨some 6, .mv (.t 0), none⟩, ⟨some 7, .len (.t 6), none⟩, ⟨some 8, .mv (.t 1), none⟩, ⟨some 9, .len (.t 8), none⟩, ⟨some 10, .bin .neq (.t 7) (.t 9), none⟩])
 (.cond (.t 10)
 (.seq (.reg false [⟨some 4, .mv (kb false), none⟩])
 .ret)
 .skip))
 (.seq (.seq (.reg false [⟨some 5, .mv (ki 0), none⟩])
 (.block 0 (.loop (.seq (.seq (.reg false [⟨some 11, .mv (.t 5), none⟩, ⟨some 12, .mv (.t 0), none⟩, ⟨some 13, .len (.t 12), none⟩, ⟨some 14, .bin .lss (.t 11) (.t 13), none⟩])
 (.cond (.t 14)
 .skip
 (.exit 0)))
 (.seq (.block 1 (.seq (.reg true [⟨some 17, .mv (.t 0), none⟩, ⟨some 18, .mv (.t 5), none⟩, ⟨some 19, .ia 2 (.t 17) (.t 18), none⟩, ⟨some 20, .ld true 2 (.t 19), none⟩, ⟨some 21, .mv (.t 1), none⟩, ⟨some 22, .mv (.t 5), none⟩, ⟨some 23, .ia 2 (.t 21) (.t 22), none⟩, ⟨some 24, .ld true 2 (.t 23), none⟩, ⟨some 25, .eqa [1, 1] true (.t 20) (.t 24), none⟩])
 (.cond (.t 25)
 (.seq (.reg false [⟨some 4, .mv (kb false), none⟩])
 .ret)
 .skip)))
 (.reg false [⟨some 15, .mv (.t 5), none⟩, ⟨some 16, .bin .add (.t 15) (ki 1), none⟩, ⟨some 5, .mv (.t 16), none⟩]))))))
 (.seq (.reg false [⟨some 4, .mv (kb true), none⟩])
 .ret))))
abbrev n_windroseref11_Same : Nat := 17
theorem F_windroseref11_Same : Fun Tryz.prog n_windroseref11_Same 26 c_windroseref11_Same [.t 4] := ⟨⟨Tryz.f17, _, Tryz.func17, by kernel_rfl, rfl, rfl, by kernel_rfl, by kernel_rfl⟩⟩
/-- windrose/windroseref14.Line -/
def c_windroseref14_Line : C :=
 (.seq (.reg false [⟨some 2, .box 29 3 (.t 0), none⟩, ⟨some 4, .mv (.k (.one (.c (.v (.slice none 0 0))))), none⟩])
 (.seq (.seq (.reg false [⟨some 5, .mv (ki 0), none⟩])
 (.block 0 (.loop (.seq (.seq (.reg false [⟨some 6, .mv (.t 5), none⟩, ⟨some 7, .fa 0 (.t 2), none⟩, ⟨some 8, .ld false 1 (.t 7), none⟩, ⟨some 9, .len (.t 8), none⟩, ⟨some 10, .bin .lss (.t 6) (.t 9), none⟩])
 (.cond (.t 10)
 .skip
 (.exit 0)))
 (.seq (.block 1 (.seq (.reg false [⟨some 13, .fa 0 (.t 2), none⟩, ⟨some 14, .ld false 1 (.t 13), none⟩, ⟨some 15, .mv (.t 5), none⟩, ⟨some 16, .ia 2 (.t 14) (.t 15), none⟩, ⟨some 17, .fa 0 (.t 16), none⟩, ⟨some 18, .ld false 1 (.t 17), none⟩, ⟨some 19, .mv (.t 1), none⟩, ⟨some 20, .bin .eql (.t 18) (.t 19), none⟩])
 (.cond (.t 20)
 (.seq (.reg false [⟨some 21, .fa 0 (.t 2), none⟩, ⟨some 22, .ld false 1 (.t 21), none⟩, ⟨some 23, .mv (.t 5), none⟩, ⟨some 24, .ia 2 (.t 22) (.t 23), none⟩, ⟨some 25, .fa 1 (.t 24), none⟩, ⟨some 26, .ld false 1 (.t 25), none⟩, ⟨some 4, .mv (.t 26), none⟩])
 .ret)
 .skip)))
 (.reg false [⟨some 11, .mv (.t 5), none⟩, ⟨some 12, .bin .add (.t 11) (ki 1), none⟩, ⟨some 5, .mv (.t 12), none⟩]))))))
 (.seq (.reg false [⟨some 4, .mv (.k (.one (.c (.v (.slice none 0 0))))), none⟩])
 .ret)))
abbrev n_windroseref14_Line : Nat := 18
theorem F_windroseref14_Line : Fun Tryz.prog n_windroseref14_Line 27 c_windroseref14_Line [.t 4] := ⟨⟨Tryz.f18, _, Tryz.func18, by kernel_rfl, rfl, rfl, by kernel_rfl, by kernel_rfl⟩⟩
/-- windrose/windroselaw14.Light -/
def c_windroselaw14_Light : C :=
 (.seq (.reg false [⟨some 1, .box 29 3 (.t 0), none⟩, ⟨some 2, .mv (kb false), none⟩])
 (.seq (.seq (.reg false [⟨some 3, .mv (ki 0), none⟩])
 (.block 0 (.loop (.seq (.seq (.reg false [⟨some 4, .mv (.t 3), none⟩, ⟨some 5, .fa 0 (.t 1), none⟩, ⟨some 6, .ld false 1 (.t 5), none⟩, ⟨some 7, .len (.t 6), none⟩, ⟨some 8, .bin .lss (.t 4) (.t 7), none⟩, ⟨some 9, .mv (.t 8), none⟩, ⟨some 10, .mv (.t 3), some (9, true)⟩, ⟨some 11, .bin .lss (.t 10) (ki 20), some (9, true)⟩, ⟨some 12, .pick (.t 9) (.t 11) (kb false), none⟩])
 (.cond (.t 12)
 .skip
 (.exit 0)))
 (.seq (.block 1 (.seq (.reg false [⟨some 15, .fa 0 (.t 1), none⟩, ⟨some 16, .ld false 1 (.t 15), none⟩, ⟨some 17, .mv (.t 3), none⟩, ⟨some 18, .ia 2 (.t 16) (.t 17), none⟩, ⟨some 19, .fa 0 (.t 18), none⟩, ⟨some 20, .ld false 1 (.t 19), none⟩, ⟨some 21, .lens (.t 20), none⟩, ⟨some 22, .bin .gtr (.t 21) (ki 500), none⟩, ⟨some 23, .mv (.t 22), none⟩, ⟨some 24, .fa 0 (.t 1), some (23, false)⟩, ⟨some 25, .ld false 1 (.t 24), some (23, false)⟩, ⟨some 26, .mv (.t 3), some (23, false)⟩, ⟨some 27, .ia 2 (.t 25) (.t 26), some (23, false)⟩, ⟨some 28, .fa 1 (.t 27), some (23, false)⟩, ⟨some 29, .ld false 1 (.t 28), some (23, false)⟩, ⟨some 30, .len (.t 29), some (23, false)⟩, ⟨some 31, .bin .gtr (.t 30) (ki 70), some (23, false)⟩, ⟨some 32, .pick (.t 23) (kb true) (.t 31), none⟩])
 (.cond (.t 32)
 (.seq (.reg false [⟨some 2, .mv (kb false), none⟩])
 .ret)
 .skip)))
 (.reg false [⟨some 13, .mv (.t 3), none⟩, ⟨some 14, .bin .add (.t 13) (ki 1), none⟩, ⟨some 3, .mv (.t 14), none⟩]))))))
 (.seq (.reg false [⟨some 33, .fa 0 (.t 1), none⟩, ⟨some 34, .ld false 1 (.t 33), none⟩, ⟨some 35, .len (.t 34), none⟩, ⟨some 36, .bin .leq (.t 35) (ki 20), none⟩, ⟨some 37, .mv (.t 36), none⟩, ⟨some 38, .fa 1 (.t 1), some (37, true)⟩, ⟨some 39, .ld false 1 (.t 38), some (37, true)⟩, ⟨some 40, .len (.t 39), some (37, true)⟩, ⟨some 41, .bin .leq (.t 40) (ki 20), some (37, true)⟩, ⟨some 42, .pick (.t 37) (.t 41) (kb false), none⟩, ⟨some 2, .mv (.t 42), none⟩])
 .ret)))
abbrev n_windroselaw14_Light : Nat := 19
theorem F_windroselaw14_Light : Fun Tryz.prog n_windroselaw14_Light 43 c_windroselaw14_Light [.t 2] := ⟨⟨Tryz.f19, _, Tryz.func19, by kernel_rfl, rfl, rfl, by kernel_rfl, by kernel_rfl⟩⟩
/-- windrose/shelf.Check -/
def c_shelf_Check : C :=
 (.seq (.reg false [⟨some 1, .box 29 3 (.t 0), none⟩, ⟨some 2, .mv (ki 0), none⟩])
 (.seq (.seq (.reg false [⟨some 7, .fa 0 (.t 1), none⟩, ⟨some 8, .ld false 1 (.t 7), none⟩, ⟨some 9, .len (.t 8), none⟩, ⟨some 10, .bin .gtr (.t 9) (ki 16), none⟩, ⟨some 11, .mv (.t 10), none⟩, ⟨some 12, .fa 1 (.t 1), some (11, false)⟩, ⟨some 13, .ld false 1 (.t 12), some (11, false)⟩, ⟨some 14, .len (.t 13), some (11, false)⟩, ⟨some 15, .bin .gtr (.t 14) (ki 8), some (11, false)⟩, ⟨some 16, .pick (.t 11) (kb true) (.t 15), none⟩, ⟨some 17, .mv (.t 16), none⟩, ⟨some 18, .fa 2 (.t 1), some (17, false)⟩, ⟨some 19, .ld false 1 (.t 18), some (17, false)⟩, ⟨some 20, .call (kf 52) [(.t 19), (ki 0), (ki 1099511627776)], some (17, false)⟩, ⟨some 21, .un .not (.t 20), some (17, false)⟩, ⟨some 22, .pick (.t 17) (kb true) (.t 21), none⟩])
 (.cond (.t 22)
 (.seq (.reg false [⟨some 2, .mv (ki 1), none⟩])
 .ret)
 .skip))
 (.seq (.seq (.reg false [⟨some 23, .fa 0 (.t 1), none⟩, ⟨some 24, .ld false 1 (.t 23), none⟩, ⟨some 25, .len (.t 24), none⟩, ⟨some 26, .mv (ki 0), none⟩])
 (.block 0 (.loop (.seq (.reg false [⟨some 27, .bin .lss (.t 26) (.t 25), none⟩])
 (.seq (.cond (.t 27)
 .skip
 (.exit 0))
 (.seq (.block 1 (.seq (.reg false [⟨some 28, .mv (.t 26), none⟩, ⟨some 29, .ia 2 (.t 24) (.t 26), none⟩, ⟨some 30, .ld true 2 (.t 29), none⟩, ⟨some 4, .alloc 49 2 [.string ⟨#[]⟩, .slice none 0 0], none⟩, ⟨some 3, .mv (.t 28), none⟩, ⟨none, .st 2 (.t 4) (.t 30), none⟩])
 (.seq (.reg true [⟨some 31, .fa 0 (.t 4), none⟩, ⟨some 32, .ld false 1 (.t 31), none⟩, ⟨some 33, .call (kf 56) [(.t 32)], none⟩, ⟨some 34, .un .not (.t 33), none⟩, ⟨some 35, .mv (.t 34), none⟩, ⟨some 36, .mv (.t 3), some (35, false)⟩, ⟨some 37, .bin .gtr (.t 36) (ki 0), some (35, false)⟩, ⟨some 38, .mv (.t 37), some (35, false)⟩, ⟨some 39, .fa 0 (.t 4), some (38, true)⟩, ⟨some 40, .ld false 1 (.t 39), some (38, true)⟩, ⟨some 41, .fa 0 (.t 1), some (38, true)⟩, ⟨some 42, .ld false 1 (.t 41), some (38, true)⟩, ⟨some 43, .mv (.t 3), some (38, true)⟩, ⟨some 44, .bin .sub (.t 43) (ki 1), some (38, true)⟩, ⟨some 45, .ia 2 (.t 42) (.t 44), some (38, true)⟩, ⟨some 46, .fa 0 (.t 45), some (38, true)⟩, ⟨some 47, .ld false 1 (.t 46), some (38, true)⟩, ⟨some 48, .bin .leq (.t 40) (.t 47), some (38, true)⟩, ⟨some 49, .pick (.t 38) (.t 48) (kb false), some (35, false)⟩, ⟨some 50, .pick (.t 35) (kb true) (.t 49), none⟩, ⟨some 51, .mv (.t 50), none⟩, ⟨some 52, .fa 1 (.t 4), some (51, false)⟩, ⟨some 53, .ld false 1 (.t 52), some (51, false)⟩, ⟨some 54, .len (.t 53), some (51, false)⟩, ⟨some 55, .bin .eql (.t 54) (ki 0), some (51, false)⟩, ⟨some 56, .pick (.t 51) (kb true) (.t 55), none⟩, ⟨some 57, .mv (.t 56), none⟩, ⟨some 58, .fa 1 (.t 4), some (57, false)⟩, ⟨some 59, .ld false 1 (.t 58), some (57, false)⟩, ⟨some 60, .call (kf 57) [(.t 59)], some (57, false)⟩, ⟨some 61, .bin .neq (.t 60) (ki 0), some (57, false)⟩, ⟨some 62, .pick (.t 57) (kb true) (.t 61), none⟩, ⟨some 63, .mv (.t 62), none⟩, ⟨some 64, .fa 1 (.t 4), some (63, false)⟩, ⟨some 65, .ld false 1 (.t 64), some (63, false)⟩, ⟨some 66, .ia 2 (.t 65) (ki 0), some (63, false)⟩, ⟨some 67, .fa 0 (.t 66), some (63, false)⟩, ⟨some 68, .ld false 1 (.t 67), some (63, false)⟩, ⟨some 69, .fa 2 (.t 1), some (63, false)⟩, ⟨some 70, .ld false 1 (.t 69), some (63, false)⟩, ⟨some 71, .bin .lss (.t 68) (.t 70), some (63, false)⟩, ⟨some 72, .pick (.t 63) (kb true) (.t 71), none⟩])
 (.cond (.t 72)
 (.seq (.reg false [⟨some 2, .mv (ki 1), none⟩])
 .ret)
 .skip))))
 (.reg false [⟨some 73, .bin .add (.t 26) (ki 1), none⟩, ⟨some 26, .mv (.t 73), none⟩])))))))
 (.seq (.seq (.reg false [⟨some 74, .fa 1 (.t 1), none⟩, ⟨some 75, .ld false 1 (.t 74), none⟩, ⟨some 76, .len (.t 75), none⟩, ⟨some 77, .mv (ki 0), none⟩])
 (.block 2 (.loop (.seq (.reg false [⟨some 78, .bin .lss (.t 77) (.t 76), none⟩])
 (.seq (.cond (.t 78)
 .skip
 (.exit 2))
 (.seq (.block 3 (.seq (.reg false [⟨some 79, .mv (.t 77), none⟩, ⟨some 80, .ia 5 (.t 75) (.t 77), none⟩, ⟨some 81, .ld true 5 (.t 80), none⟩, ⟨some 6, .alloc 45 5 [.int .i64 0, .int .i64 0, .int .i64 0, .bool false, .int .i64 0], none⟩, ⟨some 5, .mv (.t 79), none⟩, ⟨none, .st 5 (.t 6) (.t 81), none⟩])
 (.seq (.reg true [⟨some 82, .fa 0 (.t 6), none⟩, ⟨some 83, .ld false 1 (.t 82), none⟩, ⟨some 84, .call (kf 52) [(.t 83), (ki 1), (ki 2147483647)], none⟩, ⟨some 85, .un .not (.t 84), none⟩, ⟨some 86, .mv (.t 85), none⟩, ⟨some 87, .fa 1 (.t 6), some (86, false)⟩, ⟨some 88, .ld false 1 (.t 87), some (86, false)⟩, ⟨some 89, .call (kf 52) [(.t 88), (ki 1), (ki 2147483647)], some (86, false)⟩, ⟨some 90, .un .not (.t 89), some (86, false)⟩, ⟨some 91, .pick (.t 86) (kb true) (.t 90), none⟩, ⟨some 92, .mv (.t 91), none⟩, ⟨some 93, .mv (.t 5), some (92, false)⟩, ⟨some 94, .bin .gtr (.t 93) (ki 0), some (92, false)⟩, ⟨some 95, .mv (.t 94), some (92, false)⟩, ⟨some 96, .fa 0 (.t 6), some (95, true)⟩, ⟨some 97, .ld false 1 (.t 96), some (95, true)⟩, ⟨some 98, .fa 1 (.t 1), some (95, true)⟩, ⟨some 99, .ld false 1 (.t 98), some (95, true)⟩, ⟨some 100, .mv (.t 5), some (95, true)⟩, ⟨some 101, .bin .sub (.t 100) (ki 1), some (95, true)⟩, ⟨some 102, .ia 5 (.t 99) (.t 101), some (95, true)⟩, ⟨some 103, .fa 0 (.t 102), some (95, true)⟩, ⟨some 104, .ld false 1 (.t 103), some (95, true)⟩, ⟨some 105, .bin .leq (.t 97) (.t 104), some (95, true)⟩, ⟨some 106, .pick (.t 95) (.t 105) (kb false), some (92, false)⟩, ⟨some 107, .pick (.t 92) (kb true) (.t 106), none⟩])
 (.cond (.t 107)
 (.seq (.reg false [⟨some 2, .mv (ki 1), none⟩])
 .ret)
 .skip))))
 (.reg false [⟨some 108, .bin .add (.t 77) (ki 1), none⟩, ⟨some 77, .mv (.t 108), none⟩])))))))
 (.seq (.reg false [⟨some 2, .mv (ki 0), none⟩])
 .ret)))))
abbrev n_shelf_Check : Nat := 20
theorem F_shelf_Check : Fun Tryz.prog n_shelf_Check 109 c_shelf_Check [.t 2] := ⟨⟨Tryz.f20, _, Tryz.func20, by kernel_rfl, rfl, rfl, by kernel_rfl, by kernel_rfl⟩⟩
/-- windrose/shelf.CheckOp -/
def c_shelf_CheckOp : C :=
 (.seq (.reg false [⟨some 1, .box 35 7 (.t 0), none⟩, ⟨some 2, .mv (ki 0), none⟩])
 (.seq (.reg false [⟨some 5, .fa 0 (.t 1), none⟩, ⟨some 6, .ld false 1 (.t 5), none⟩, ⟨some 7, .bld [.int .i64 0, .string ⟨#[]⟩, .int .i64 0, .int .i64 0, .int .i64 0, .int .i64 0, .int .i64 0] [(0, 1, (.t 6))], none⟩, ⟨some 3, .alloc 35 7 [.int .i64 0, .string ⟨#[]⟩, .int .i64 0, .int .i64 0, .int .i64 0, .int .i64 0, .int .i64 0], none⟩, ⟨none, .st 7 (.t 3) (.t 7), none⟩])
 (.seq (.reg false [⟨some 8, .fa 0 (.t 1), none⟩, ⟨some 9, .ld false 1 (.t 8), none⟩, ⟨some 10, .bin .eql (.t 9) (ki 2), none⟩, ⟨some 11, .mv (.t 10), none⟩, ⟨some 12, .fa 1 (.t 1), some (11, false)⟩, ⟨some 13, .ld false 1 (.t 12), some (11, false)⟩, ⟨some 14, .call (kf 56) [(.t 13)], some (11, false)⟩, ⟨some 15, .pick (.t 11) (kb true) (.t 14), none⟩, ⟨some 4, .mv (.t 15), none⟩])
 (.seq (.seq (.reg false [⟨some 16, .fa 0 (.t 1), none⟩, ⟨some 17, .ld false 1 (.t 16), none⟩])
 (.block 0 (.seq (.reg false [⟨some 19, .bin .eql (.t 17) (ki 1), none⟩, ⟨some 18, .mv (.t 19), none⟩])
 (.cond (.t 18)
 (.seq (.rgx [[], [0], [], [2], [0, 1], [4, 0, 1], [0, 1, 2, 3, 4, 5], [6, 0, 1, 2, 3, 4, 5]] [⟨some 20, .fa 1 (.t 1), none⟩, ⟨some 21, .ld false 1 (.t 20), none⟩, ⟨some 22, .fa 2 (.t 1), none⟩, ⟨some 23, .ld true 2 (.t 22), none⟩, ⟨some 24, .fa 1 (.t 3), none⟩, ⟨none, .st 1 (.t 24) (.t 21), none⟩, ⟨some 25, .fa 2 (.t 3), none⟩, ⟨none, .st 2 (.t 25) (.t 23), none⟩])
 (.reg false [⟨some 26, .mv (.t 4), none⟩, ⟨some 27, .mv (.t 26), none⟩, ⟨some 28, .fa 2 (.t 1), some (27, true)⟩, ⟨some 29, .ld true 2 (.t 28), some (27, true)⟩, ⟨some 30, .bsl 33 2 1 [.int .i64 0, .int .i64 0] [(0, (.t 29))], some (27, true)⟩, ⟨some 31, .call (kf 57) [(.t 30)], some (27, true)⟩, ⟨some 32, .bin .eql (.t 31) (ki 0), some (27, true)⟩, ⟨some 33, .pick (.t 27) (.t 32) (kb false), none⟩, ⟨some 4, .mv (.t 33), none⟩]))
 (.seq (.reg false [⟨some 35, .bin .eql (.t 17) (ki 2), none⟩, ⟨some 34, .mv (.t 35), none⟩])
 (.cond (.t 34)
 (.seq (.reg false [⟨some 36, .fa 4 (.t 1), none⟩, ⟨some 37, .ld false 1 (.t 36), none⟩, ⟨some 38, .fa 4 (.t 3), none⟩, ⟨none, .st 1 (.t 38) (.t 37), none⟩])
 (.reg false [⟨some 39, .fa 4 (.t 1), none⟩, ⟨some 40, .ld false 1 (.t 39), none⟩, ⟨some 41, .call (kf 52) [(.t 40), (ki 0), (ki 1099511627776)], none⟩, ⟨some 4, .mv (.t 41), none⟩]))
 (.seq (.reg false [⟨some 43, .bin .eql (.t 17) (ki 3), none⟩, ⟨some 42, .mv (.t 43), none⟩])
 (.cond (.t 42)
 (.seq (.rgx [[], [0], [], [2], [], [4], [], [6], [0, 1], [8, 0, 1], [0, 1, 2, 3, 8, 9], [10, 0, 1, 2, 3, 8, 9], [0, 1, 2, 3, 4, 5, 8, 9, 10, 11], [12, 0, 1, 2, 3, 4, 5, 8, 9, 10, 11], [0, 1, 2, 3, 4, 5, 6, 7, 8, 9, 10, 11, 12, 13], [14, 0, 1, 2, 3, 4, 5, 6, 7, 8, 9, 10, 11, 12, 13]] [⟨some 44, .fa 1 (.t 1), none⟩, ⟨some 45, .ld false 1 (.t 44), none⟩, ⟨some 46, .fa 4 (.t 1), none⟩, ⟨some 47, .ld false 1 (.t 46), none⟩, ⟨some 48, .fa 5 (.t 1), none⟩, ⟨some 49, .ld false 1 (.t 48), none⟩, ⟨some 50, .fa 6 (.t 1), none⟩, ⟨some 51, .ld false 1 (.t 50), none⟩, ⟨some 52, .fa 1 (.t 3), none⟩, ⟨none, .st 1 (.t 52) (.t 45), none⟩, ⟨some 53, .fa 4 (.t 3), none⟩, ⟨none, .st 1 (.t 53) (.t 47), none⟩, ⟨some 54, .fa 5 (.t 3), none⟩, ⟨none, .st 1 (.t 54) (.t 49), none⟩, ⟨some 55, .fa 6 (.t 3), none⟩, ⟨none, .st 1 (.t 55) (.t 51), none⟩])
 (.reg false [⟨some 56, .mv (.t 4), none⟩, ⟨some 57, .mv (.t 56), none⟩, ⟨some 58, .fa 6 (.t 1), some (57, true)⟩, ⟨some 59, .ld false 1 (.t 58), some (57, true)⟩, ⟨some 60, .call (kf 52) [(.t 59), (ki 1), (ki 5)], some (57, true)⟩, ⟨some 61, .pick (.t 57) (.t 60) (kb false), none⟩, ⟨some 4, .mv (.t 61), none⟩]))
 (.seq (.reg false [⟨some 63, .bin .eql (.t 17) (ki 4), none⟩, ⟨some 62, .mv (.t 63), none⟩])
 (.cond (.t 62)
 (.rgx [[], [0], [], [2], [0, 1], [4, 0, 1], [0, 1, 2, 3, 4, 5], [6, 0, 1, 2, 3, 4, 5]] [⟨some 64, .fa 1 (.t 1), none⟩, ⟨some 65, .ld false 1 (.t 64), none⟩, ⟨some 66, .fa 4 (.t 1), none⟩, ⟨some 67, .ld false 1 (.t 66), none⟩, ⟨some 68, .fa 1 (.t 3), none⟩, ⟨none, .st 1 (.t 68) (.t 65), none⟩, ⟨some 69, .fa 4 (.t 3), none⟩, ⟨none, .st 1 (.t 69) (.t 67), none⟩])
 (.reg false [⟨some 4, .mv (kb false), none⟩])))))))))))
 (.seq (.seq (.reg false [⟨some 70, .mv (.t 4), none⟩, ⟨some 71, .un .not (.t 70), none⟩, ⟨some 72, .mv (.t 71), none⟩, ⟨some 73, .ld true 7 (.t 1), some (72, false)⟩, ⟨some 74, .ld true 7 (.t 3), some (72, false)⟩, ⟨some 75, .eqa [1, 2, 1, 1, 1, 1, 1] true (.t 73) (.t 74), some (72, false)⟩, ⟨some 76, .pick (.t 72) (kb true) (.t 75), none⟩])
 (.cond (.t 76)
 (.seq (.reg false [⟨some 2, .mv (ki 1), none⟩])
 .ret)
 .skip))
 (.seq (.reg false [⟨some 2, .mv (ki 0), none⟩])
 .ret))))))
abbrev n_shelf_CheckOp : Nat := 21
theorem F_shelf_CheckOp : Fun Tryz.prog n_shelf_CheckOp 77 c_shelf_CheckOp [.t 2] := ⟨⟨Tryz.f21, _, Tryz.func21, by kernel_rfl, rfl, rfl, by kernel_rfl, by kernel_rfl⟩⟩
/-- windrose/windroseref14.Op -/
def c_windroseref14_Op : C :=
 (.seq (.reg false [⟨some 1, .box 35 7 (.t 0), none⟩, ⟨some 2, .mv (kb false), none⟩])
 (.seq (.seq (.reg false [⟨some 3, .fa 0 (.t 1), none⟩, ⟨some 4, .ld false 1 (.t 3), none⟩, ⟨some 5, .bin .eql (.t 4) (ki 2), none⟩])
 (.cond (.t 5)
 (.seq (.reg false [⟨some 6, .ld true 7 (.t 1), none⟩, ⟨some 7, .fa 0 (.t 1), none⟩, ⟨some 8, .ld false 1 (.t 7), none⟩, ⟨some 9, .fa 4 (.t 1), none⟩, ⟨some 10, .ld false 1 (.t 9), none⟩, ⟨some 11, .bld [.int .i64 0, .string ⟨#[]⟩, .int .i64 0, .int .i64 0, .int .i64 0, .int .i64 0, .int .i64 0] [(0, 1, (.t 8)), (4, 1, (.t 10))], none⟩, ⟨some 12, .eqa [1, 2, 1, 1, 1, 1, 1] false (.t 6) (.t 11), none⟩, ⟨some 13, .mv (.t 12), none⟩, ⟨some 14, .fa 4 (.t 1), some (13, true)⟩, ⟨some 15, .ld false 1 (.t 14), some (13, true)⟩, ⟨some 16, .bin .geq (.t 15) (ki 0), some (13, true)⟩, ⟨some 17, .pick (.t 13) (.t 16) (kb false), none⟩, ⟨some 18, .mv (.t 17), none⟩, ⟨some 19, .fa 4 (.t 1), some (18, true)⟩, ⟨some 20, .ld false 1 (.t 19), some (18, true)⟩, ⟨some 21, .bin .leq (.t 20) (ki 1099511627776), some (18, true)⟩, ⟨some 22, .pick (.t 18) (.t 21) (kb false), none⟩, ⟨some 2, .mv (.t 22), none⟩])
 .ret)
 .skip))
 (.seq (.seq (.reg false [⟨some 23, .fa 1 (.t 1), none⟩, ⟨some 24, .ld false 1 (.t 23), none⟩, ⟨some 25, .call (kf 49) [(.t 24)], none⟩, ⟨some 26, .un .not (.t 25), none⟩])
 (.cond (.t 26)
 (.seq (.reg false [⟨some 2, .mv (kb false), none⟩])
 .ret)
 .skip))
 (.seq (.seq (.reg false [⟨some 27, .fa 0 (.t 1), none⟩, ⟨some 28, .ld false 1 (.t 27), none⟩])
 (.block 0 (.seq (.reg false [⟨some 30, .bin .eql (.t 28) (ki 1), none⟩, ⟨some 29, .mv (.t 30), none⟩])
 (.cond (.t 29)
 (.seq (.reg false [⟨some 31, .ld true 7 (.t 1), none⟩, ⟨some 32, .fa 0 (.t 1), none⟩, ⟨some 33, .ld false 1 (.t 32), none⟩, ⟨some 34, .fa 1 (.t 1), none⟩, ⟨some 35, .ld false 1 (.t 34), none⟩, ⟨some 36, .fa 2 (.t 1), none⟩, ⟨some 37, .ld true 2 (.t 36), none⟩, ⟨some 38, .bld [.int .i64 0, .string ⟨#[]⟩, .int .i64 0, .int .i64 0, .int .i64 0, .int .i64 0, .int .i64 0] [(0, 1, (.t 33)), (1, 1, (.t 35)), (2, 2, (.t 37))], none⟩, ⟨some 39, .eqa [1, 2, 1, 1, 1, 1, 1] false (.t 31) (.t 38), none⟩, ⟨some 40, .mv (.t 39), none⟩, ⟨some 41, .fa 2 (.t 1), some (40, true)⟩, ⟨some 42, .ld true 2 (.t 41), some (40, true)⟩, ⟨some 43, .bsl 33 2 1 [.int .i64 0, .int .i64 0] [(0, (.t 42))], some (40, true)⟩, ⟨some 44, .call (kf 50) [(.t 43)], some (40, true)⟩, ⟨some 45, .pick (.t 40) (.t 44) (kb false), none⟩, ⟨some 2, .mv (.t 45), none⟩])
 .ret)
 (.seq (.reg false [⟨some 47, .bin .eql (.t 28) (ki 3), none⟩, ⟨some 46, .mv (.t 47), none⟩])
 (.cond (.t 46)
 (.seq (.reg false [⟨some 48, .ld true 7 (.t 1), none⟩, ⟨some 49, .fa 0 (.t 1), none⟩, ⟨some 50, .ld false 1 (.t 49), none⟩, ⟨some 51, .fa 1 (.t 1), none⟩, ⟨some 52, .ld false 1 (.t 51), none⟩, ⟨some 53, .fa 4 (.t 1), none⟩, ⟨some 54, .ld false 1 (.t 53), none⟩, ⟨some 55, .fa 5 (.t 1), none⟩, ⟨some 56, .ld false 1 (.t 55), none⟩, ⟨some 57, .fa 6 (.t 1), none⟩, ⟨some 58, .ld false 1 (.t 57), none⟩, ⟨some 59, .bld [.int .i64 0, .string ⟨#[]⟩, .int .i64 0, .int .i64 0, .int .i64 0, .int .i64 0, .int .i64 0] [(0, 1, (.t 50)), (1, 1, (.t 52)), (4, 1, (.t 54)), (5, 1, (.t 56)), (6, 1, (.t 58))], none⟩, ⟨some 60, .eqa [1, 2, 1, 1, 1, 1, 1] false (.t 48) (.t 59), none⟩, ⟨some 61, .mv (.t 60), none⟩, ⟨some 62, .fa 6 (.t 1), some (61, true)⟩, ⟨some 63, .ld false 1 (.t 62), some (61, true)⟩, ⟨some 64, .bin .geq (.t 63) (ki 1), some (61, true)⟩, ⟨some 65, .pick (.t 61) (.t 64) (kb false), none⟩, ⟨some 66, .mv (.t 65), none⟩, ⟨some 67, .fa 6 (.t 1), some (66, true)⟩, ⟨some 68, .ld false 1 (.t 67), some (66, true)⟩, ⟨some 69, .bin .leq (.t 68) (ki 5), some (66, true)⟩, ⟨some 70, .pick (.t 66) (.t 69) (kb false), none⟩, ⟨some 2, .mv (.t 70), none⟩])
 .ret)
 (.seq (.reg false [⟨some 72, .bin .eql (.t 28) (ki 4), none⟩, ⟨some 71, .mv (.t 72), none⟩])
 (.cond (.t 71)
 (.seq (.reg false [⟨some 73, .ld true 7 (.t 1), none⟩, ⟨some 74, .fa 0 (.t 1), none⟩, ⟨some 75, .ld false 1 (.t 74), none⟩, ⟨some 76, .fa 1 (.t 1), none⟩, ⟨some 77, .ld false 1 (.t 76), none⟩, ⟨some 78, .fa 4 (.t 1), none⟩, ⟨some 79, .ld false 1 (.t 78), none⟩, ⟨some 80, .bld [.int .i64 0, .string ⟨#[]⟩, .int .i64 0, .int .i64 0, .int .i64 0, .int .i64 0, .int .i64 0] [(0, 1, (.t 75)), (1, 1, (.t 77)), (4, 1, (.t 79))], none⟩, ⟨some 81, .eqa [1, 2, 1, 1, 1, 1, 1] false (.t 73) (.t 80), none⟩, ⟨some 2, .mv (.t 81), none⟩])
 .ret)
 .skip))))))))
 (.seq (.reg false [⟨some 2, .mv (kb false), none⟩])
 .ret)))))
abbrev n_windroseref14_Op : Nat := 22
theorem F_windroseref14_Op : Fun Tryz.prog n_windroseref14_Op 82 c_windroseref14_Op [.t 2] := ⟨⟨Tryz.f22, _, Tryz.func22, by kernel_rfl, rfl, rfl, by kernel_rfl, by kernel_rfl⟩⟩
/-- windrose/windroseref14.Do -/
def c_windroseref14_Do : C :=
 (.seq (.reg false [⟨some 2, .box 29 3 (.t 0), none⟩, ⟨some 3, .box 37 10 (.t 1), none⟩, ⟨some 4, .alloc 29 3 [.slice none 0 0, .slice none 0 0, .int .i64 0], none⟩, ⟨some 5, .alloc 41 3 [.int .i64 0, .bool false, .int .i64 0], none⟩, ⟨some 6, .mv (ki 0), none⟩])
 (.seq (.seq (.reg false [⟨some 11, .fa 1 (.t 3), none⟩, ⟨some 12, .ld false 1 (.t 11), none⟩, ⟨some 13, .bin .lss (.t 12) (ki 0), none⟩, ⟨some 14, .mv (.t 13), none⟩, ⟨some 15, .fa 1 (.t 3), some (14, false)⟩, ⟨some 16, .ld false 1 (.t 15), some (14, false)⟩, ⟨some 17, .bin .geq (.t 16) (ki 2147483648), some (14, false)⟩, ⟨some 18, .pick (.t 14) (kb true) (.t 17), none⟩, ⟨some 19, .mv (.t 18), none⟩, ⟨some 20, .fa 2 (.t 3), some (19, false)⟩, ⟨some 21, .ld false 1 (.t 20), some (19, false)⟩, ⟨some 22, .bin .lss (.t 21) (ki 1), some (19, false)⟩, ⟨some 23, .pick (.t 19) (kb true) (.t 22), none⟩, ⟨some 24, .mv (.t 23), none⟩, ⟨some 25, .fa 2 (.t 3), some (24, false)⟩, ⟨some 26, .ld false 1 (.t 25), some (24, false)⟩, ⟨some 27, .bin .geq (.t 26) (ki 2147483648), some (24, false)⟩, ⟨some 28, .pick (.t 24) (kb true) (.t 27), none⟩])
 (.cond (.t 28)
 (.seq (.reg false [⟨some 29, .bld [.slice none 0 0, .slice none 0 0, .int .i64 0] [], none⟩, ⟨some 30, .bld [.int .i64 0, .bool false, .int .i64 0] [], none⟩, ⟨none, .st 3 (.t 4) (.t 29), none⟩, ⟨none, .st 3 (.t 5) (.t 30), none⟩, ⟨some 6, .mv (ki 1), none⟩])
 .ret)
 .skip))
 (.seq (.seq (.reg false [⟨some 7, .mv (ki 0), none⟩])
 (.block 0 (.loop (.seq (.seq (.reg false [⟨some 31, .mv (.t 7), none⟩, ⟨some 32, .fa 1 (.t 2), none⟩, ⟨some 33, .ld false 1 (.t 32), none⟩, ⟨some 34, .len (.t 33), none⟩, ⟨some 35, .bin .lss (.t 31) (.t 34), none⟩])
 (.cond (.t 35)
 .skip
 (.exit 0)))
 (.seq (.block 1 (.seq (.reg false [⟨some 38, .fa 1 (.t 2), none⟩, ⟨some 39, .ld false 1 (.t 38), none⟩, ⟨some 40, .mv (.t 7), none⟩, ⟨some 41, .ia 5 (.t 39) (.t 40), none⟩, ⟨some 42, .ld true 5 (.t 41), none⟩, ⟨some 8, .alloc 45 5 [.int .i64 0, .int .i64 0, .int .i64 0, .bool false, .int .i64 0], none⟩, ⟨none, .st 5 (.t 8) (.t 42), none⟩])
 (.seq (.seq (.reg false [⟨some 43, .fa 0 (.t 8), none⟩, ⟨some 44, .ld false 1 (.t 43), none⟩, ⟨some 45, .fa 1 (.t 3), none⟩, ⟨some 46, .ld false 1 (.t 45), none⟩, ⟨some 47, .bin .eql (.t 44) (.t 46), none⟩, ⟨some 48, .mv (.t 47), none⟩, ⟨some 49, .fa 1 (.t 8), some (48, true)⟩, ⟨some 50, .ld false 1 (.t 49), some (48, true)⟩, ⟨some 51, .fa 2 (.t 3), some (48, true)⟩, ⟨some 52, .ld false 1 (.t 51), some (48, true)⟩, ⟨some 53, .bin .eql (.t 50) (.t 52), some (48, true)⟩, ⟨some 54, .pick (.t 48) (.t 53) (kb false), none⟩])
 (.cond (.t 54)
 (.seq (.rgx [[], [], [1], [0], [2, 1, 3, 0], [4, 2, 1, 3, 0]] [⟨some 55, .ld true 3 (.t 2), none⟩, ⟨some 56, .fa 2 (.t 8), none⟩, ⟨some 57, .ld true 3 (.t 56), none⟩, ⟨none, .st 3 (.t 4) (.t 55), none⟩, ⟨none, .st 3 (.t 5) (.t 57), none⟩, ⟨some 6, .mv (ki 0), none⟩])
 .ret)
 .skip))
 (.seq (.reg false [⟨some 58, .fa 0 (.t 8), none⟩, ⟨some 59, .ld false 1 (.t 58), none⟩, ⟨some 60, .fa 1 (.t 3), none⟩, ⟨some 61, .ld false 1 (.t 60), none⟩, ⟨some 62, .bin .eql (.t 59) (.t 61), none⟩, ⟨some 63, .mv (.t 62), none⟩, ⟨some 64, .fa 1 (.t 8), some (63, true)⟩, ⟨some 65, .ld false 1 (.t 64), some (63, true)⟩, ⟨some 66, .fa 2 (.t 3), some (63, true)⟩, ⟨some 67, .ld false 1 (.t 66), some (63, true)⟩, ⟨some 68, .bin .gtr (.t 65) (.t 67), some (63, true)⟩, ⟨some 69, .pick (.t 63) (.t 68) (kb false), none⟩])
 (.cond (.t 69)
 (.seq (.reg false [⟨some 70, .ld true 3 (.t 2), none⟩, ⟨some 71, .bld [.int .i64 0, .bool false, .int .i64 0] [(0, 1, (ki 9))], none⟩, ⟨none, .st 3 (.t 4) (.t 70), none⟩, ⟨none, .st 3 (.t 5) (.t 71), none⟩, ⟨some 6, .mv (ki 0), none⟩])
 .ret)
 .skip)))))
 (.reg false [⟨some 36, .mv (.t 7), none⟩, ⟨some 37, .bin .add (.t 36) (ki 1), none⟩, ⟨some 7, .mv (.t 37), none⟩]))))))
 (.seq (.reg false [⟨some 73, .ld true 3 (.t 2), none⟩, ⟨some 74, .fa 3 (.t 3), none⟩, ⟨some 75, .ld true 7 (.t 74), none⟩, ⟨some 76, .call (kf 25) [(.t 73), (.t 75)], none⟩, ⟨some 72, .mv (.t 76), none⟩, ⟨some 77, .ex (.t 72) 0, none⟩, ⟨some 78, .ex (.t 72) 1, none⟩, ⟨some 9, .alloc 29 3 [.slice none 0 0, .slice none 0 0, .int .i64 0], none⟩, ⟨some 10, .alloc 41 3 [.int .i64 0, .bool false, .int .i64 0], none⟩, ⟨none, .st 3 (.t 9) (.t 77), none⟩, ⟨none, .st 3 (.t 10) (.t 78), none⟩])
 (.seq (.seq (.reg false [⟨some 79, .fa 1 (.t 3), none⟩, ⟨some 80, .ld false 1 (.t 79), none⟩, ⟨some 81, .bin .gtr (.t 80) (ki 0), none⟩])
 (.cond (.t 81)
 (.reg false [⟨some 82, .fa 1 (.t 9), none⟩, ⟨some 83, .ld false 1 (.t 82), none⟩, ⟨some 84, .fa 1 (.t 3), none⟩, ⟨some 85, .ld false 1 (.t 84), none⟩, ⟨some 86, .fa 2 (.t 3), none⟩, ⟨some 87, .ld false 1 (.t 86), none⟩, ⟨some 88, .ld true 3 (.t 10), none⟩, ⟨some 89, .bld [.int .i64 0, .int .i64 0, .int .i64 0, .bool false, .int .i64 0] [(0, 1, (.t 85)), (1, 1, (.t 87)), (2, 3, (.t 88))], none⟩, ⟨some 90, .call (kf 58) [(.t 83), (.t 89)], none⟩, ⟨some 91, .fa 1 (.t 9), none⟩, ⟨none, .st 1 (.t 91) (.t 90), none⟩])
 .skip))
 (.seq (.rgx [[], [], [0], [1, 2, 0], [3, 1, 2, 0]] [⟨some 92, .ld true 3 (.t 9), none⟩, ⟨some 93, .ld true 3 (.t 10), none⟩, ⟨none, .st 3 (.t 4) (.t 92), none⟩, ⟨none, .st 3 (.t 5) (.t 93), none⟩, ⟨some 6, .mv (ki 0), none⟩])
 .ret))))))
abbrev n_windroseref14_Do : Nat := 24
theorem F_windroseref14_Do : Fun Tryz.prog n_windroseref14_Do 94 c_windroseref14_Do [.l true 3 4, .l true 3 5, .t 6] := ⟨⟨Tryz.f24, _, Tryz.func24, by kernel_rfl, rfl, rfl, by kernel_rfl, by kernel_rfl⟩⟩
/-- windrose/windroseref14.Apply -/
def c_windroseref14_Apply : C :=
 (.seq (.reg false [⟨some 2, .box 29 3 (.t 0), none⟩, ⟨some 3, .box 35 7 (.t 1), none⟩, ⟨some 4, .alloc 29 3 [.slice none 0 0, .slice none 0 0, .int .i64 0], none⟩, ⟨some 5, .alloc 41 3 [.int .i64 0, .bool false, .int .i64 0], none⟩])
 (.seq (.seq (.reg false [⟨some 6, .ld true 7 (.t 3), none⟩, ⟨some 7, .call (kf 22) [(.t 6)], none⟩, ⟨some 8, .un .not (.t 7), none⟩])
 (.cond (.t 8)
 (.seq (.reg false [⟨some 9, .ld true 3 (.t 2), none⟩, ⟨some 10, .bld [.int .i64 0, .bool false, .int .i64 0] [(0, 1, (ki 1))], none⟩, ⟨none, .st 3 (.t 4) (.t 9), none⟩, ⟨none, .st 3 (.t 5) (.t 10), none⟩])
 .ret)
 .skip))
 (.seq (.reg false [⟨some 11, .ld true 3 (.t 2), none⟩, ⟨some 12, .ld true 7 (.t 3), none⟩, ⟨some 13, .call (kf 59) [(.t 11), (.t 12)], none⟩, ⟨some 14, .ex (.t 13) 0, none⟩, ⟨some 15, .ex (.t 13) 1, none⟩, ⟨none, .st 3 (.t 4) (.t 14), none⟩, ⟨none, .st 3 (.t 5) (.t 15), none⟩])
 .ret)))
abbrev n_windroseref14_Apply : Nat := 25
theorem F_windroseref14_Apply : Fun Tryz.prog n_windroseref14_Apply 16 c_windroseref14_Apply [.l true 3 4, .l true 3 5] := ⟨⟨Tryz.f25, _, Tryz.func25, by kernel_rfl, rfl, rfl, by kernel_rfl, by kernel_rfl⟩⟩
/-- windrose/shelf.Same -/
def c_shelf_Same : C :=
 (.seq (.reg false [⟨some 2, .box 29 3 (.t 0), none⟩, ⟨some 3, .box 29 3 (.t 1), none⟩, ⟨some 4, .mv (kb false), none⟩])
 (.seq (.reg false [⟨some 5, .mv (kf 60), none⟩])
 (.seq (.reg false [⟨some 6, .fa 0 (.t 2), none⟩, ⟨some 7, .ld false 1 (.t 6), none⟩, ⟨some 8, .fa 0 (.t 3), none⟩, ⟨some 9, .ld false 1 (.t 8), none⟩, ⟨some 10, .mv (.t 5), none⟩, ⟨some 11, .call (kf 62) [(.t 7), (.t 9), (.t 10)], none⟩, ⟨some 12, .mv (.t 11), none⟩, ⟨some 13, .fa 1 (.t 2), some (12, true)⟩, ⟨some 14, .ld false 1 (.t 13), some (12, true)⟩, ⟨some 15, .fa 1 (.t 3), some (12, true)⟩, ⟨some 16, .ld false 1 (.t 15), some (12, true)⟩, ⟨some 17, .call (kf 63) [(.t 14), (.t 16)], some (12, true)⟩, ⟨some 18, .pick (.t 12) (.t 17) (kb false), none⟩, ⟨some 19, .mv (.t 18), none⟩, ⟨some 20, .fa 2 (.t 2), some (19, true)⟩, ⟨some 21, .ld false 1 (.t 20), some (19, true)⟩, ⟨some 22, .fa 2 (.t 3), some (19, true)⟩, ⟨some 23, .ld false 1 (.t 22), some (19, true)⟩, ⟨some 24, .bin .eql (.t 21) (.t 23), some (19, true)⟩, ⟨some 25, .pick (.t 19) (.t 24) (kb false), none⟩, ⟨some 4, .mv (.t 25), none⟩])
 .ret)))
abbrev n_shelf_Same : Nat := 26
theorem F_shelf_Same : Fun Tryz.prog n_shelf_Same 26 c_shelf_Same [.t 4] := ⟨⟨Tryz.f26, _, Tryz.func26, by kernel_rfl, rfl, rfl, by kernel_rfl, by kernel_rfl⟩⟩
/-- windrose/windroseref14.series -/
def c_windroseref14_series : C :=
 (.seq (.reg false [⟨some 2, .mv (kb false), none⟩])
 (.seq (.reg false [⟨some 6, .mv (.t 0), none⟩, ⟨some 7, .call (kf 83) [(.t 6)], none⟩, ⟨some 5, .mv (.t 7), none⟩, ⟨some 8, .ex (.t 5) 0, none⟩, ⟨some 9, .ex (.t 5) 1, none⟩, ⟨some 3, .alloc 99 2 [.string ⟨#[]⟩, .slice none 0 0], none⟩, ⟨none, .st 2 (.t 3) (.t 8), none⟩, ⟨some 4, .mv (.t 9), none⟩])
 (.seq (.reg false [⟨some 10, .mv (.t 4), none⟩, ⟨some 11, .mv (.t 10), none⟩, ⟨some 12, .ld true 2 (.t 3), some (11, true)⟩, ⟨some 13, .call (kf 84) [(.t 12)], some (11, true)⟩, ⟨some 14, .mv (.t 0), some (11, true)⟩, ⟨some 15, .bin .eql (.t 13) (.t 14), some (11, true)⟩, ⟨some 16, .pick (.t 11) (.t 15) (kb false), none⟩, ⟨some 2, .mv (.t 16), none⟩])
 .ret)))
abbrev n_windroseref14_series : Nat := 49
theorem F_windroseref14_series : Fun Tryz.prog n_windroseref14_series 17 c_windroseref14_series [.t 2] := ⟨⟨Tryz.f49, _, Tryz.func49, by kernel_rfl, rfl, rfl, by kernel_rfl, by kernel_rfl⟩⟩
/-- windrose/windroseref11.May -/
def c_windroseref11_May : C :=
 (.seq (.reg false [⟨some 2, .mv (kb false), none⟩])
 (.seq (.seq (.reg false [⟨some 3, .mv (ki 0), none⟩])
 (.block 0 (.loop (.seq (.seq (.reg false [⟨some 4, .mv (.t 3), none⟩, ⟨some 5, .mv (.t 0), none⟩, ⟨some 6, .len (.t 5), none⟩, ⟨some 7, .bin .lss (.t 4) (.t 6), none⟩])
 (.cond (.t 7)
 .skip
 (.exit 0)))
 (.seq (.block 1 (.seq (.reg true [⟨some 10, .mv (.t 0), none⟩, ⟨some 11, .mv (.t 3), none⟩, ⟨some 12, .ia 2 (.t 10) (.t 11), none⟩, ⟨some 13, .fa 0 (.t 12), none⟩, ⟨some 14, .ld false 1 (.t 13), none⟩, ⟨some 15, .bin .lss (.t 14) (ki 0), none⟩, ⟨some 16, .mv (.t 15), none⟩, ⟨some 17, .mv (.t 0), some (16, false)⟩, ⟨some 18, .mv (.t 3), some (16, false)⟩, ⟨some 19, .ia 2 (.t 17) (.t 18), some (16, false)⟩, ⟨some 20, .fa 0 (.t 19), some (16, false)⟩, ⟨some 21, .ld false 1 (.t 20), some (16, false)⟩, ⟨some 22, .bin .gtr (.t 21) (ki 1099511627776), some (16, false)⟩, ⟨some 23, .pick (.t 16) (kb true) (.t 22), none⟩, ⟨some 24, .mv (.t 23), none⟩, ⟨some 25, .mv (.t 0), some (24, false)⟩, ⟨some 26, .mv (.t 3), some (24, false)⟩, ⟨some 27, .ia 2 (.t 25) (.t 26), some (24, false)⟩, ⟨some 28, .fa 1 (.t 27), some (24, false)⟩, ⟨some 29, .ld false 1 (.t 28), some (24, false)⟩, ⟨some 30, .bin .lss (.t 29) (ki (-1099511627776)), some (24, false)⟩, ⟨some 31, .pick (.t 24) (kb true) (.t 30), none⟩, ⟨some 32, .mv (.t 31), none⟩, ⟨some 33, .mv (.t 0), some (32, false)⟩, ⟨some 34, .mv (.t 3), some (32, false)⟩, ⟨some 35, .ia 2 (.t 33) (.t 34), some (32, false)⟩, ⟨some 36, .fa 1 (.t 35), some (32, false)⟩, ⟨some 37, .ld false 1 (.t 36), some (32, false)⟩, ⟨some 38, .bin .gtr (.t 37) (ki 1099511627776), some (32, false)⟩, ⟨some 39, .pick (.t 32) (kb true) (.t 38), none⟩, ⟨some 40, .mv (.t 39), none⟩, ⟨some 41, .mv (.t 3), some (40, false)⟩, ⟨some 42, .bin .gtr (.t 41) (ki 0), some (40, false)⟩, ⟨some 43, .mv (.t 42), some (40, false)⟩, ⟨some 44, .mv (.t 0), some (43, true)⟩, ⟨some 45, .mv (.t 3), some (43, true)⟩, ⟨some 46, .bin .sub (.t 45) (ki 1), some (43, true)⟩, ⟨some 47, .ia 2 (.t 44) (.t 46), some (43, true)⟩, ⟨some 48, .fa 0 (.t 47), some (43, true)⟩, ⟨some 49, .ld false 1 (.t 48), some (43, true)⟩, ⟨some 50, .mv (.t 0), some (43, true)⟩, ⟨some 51, .mv (.t 3), some (43, true)⟩, ⟨some 52, .ia 2 (.t 50) (.t 51), some (43, true)⟩, ⟨some 53, .fa 0 (.t 52), some (43, true)⟩, ⟨some 54, .ld false 1 (.t 53), some (43, true)⟩, ⟨some 55, .bin .geq (.t 49) (.t 54), some (43, true)⟩, ⟨some 56, .pick (.t 43) (.t 55) (kb false), some (40, false)⟩, ⟨some 57, .pick (.t 40) (kb true) (.t 56), none⟩])
 (.cond (.t 57)
 (.seq (.reg false [⟨some 2, .mv (kb false), none⟩])
 .ret)
 .skip)))
 (.reg false [⟨some 8, .mv (.t 3), none⟩, ⟨some 9, .bin .add (.t 8) (ki 1), none⟩, ⟨some 3, .mv (.t 9), none⟩]))))))
 (.seq (.reg false [⟨some 58, .mv (.t 0), none⟩, ⟨some 59, .len (.t 58), none⟩, ⟨some 60, .bin .leq (.t 59) (ki 64), none⟩, ⟨some 2, .mv (.t 60), none⟩])
 .ret)))
abbrev n_windroseref11_May : Nat := 50
theorem F_windroseref11_May : Fun Tryz.prog n_windroseref11_May 61 c_windroseref11_May [.t 2] := ⟨⟨Tryz.f50, _, Tryz.func50, by kernel_rfl, rfl, rfl, by kernel_rfl, by kernel_rfl⟩⟩
/-- windrose/windroseref12.Trim -/
def c_windroseref12_Trim : C :=
 (.seq (.reg false [⟨some 4, .mv (.k (.one (.c (.v (.slice none 0 0))))), none⟩])
 (.seq (.reg false [⟨some 7, .bsl 33 2 0 [.int .i64 0, .int .i64 0] [], none⟩, ⟨some 5, .mv (.t 7), none⟩])
 (.seq (.seq (.reg false [⟨some 6, .mv (ki 0), none⟩])
 (.block 0 (.loop (.seq (.seq (.reg false [⟨some 8, .mv (.t 6), none⟩, ⟨some 9, .mv (.t 0), none⟩, ⟨some 10, .len (.t 9), none⟩, ⟨some 11, .bin .lss (.t 8) (.t 10), none⟩])
 (.cond (.t 11)
 .skip
 (.exit 0)))
 (.seq (.block 1 (.seq (.reg false [⟨some 14, .mv (.t 0), none⟩, ⟨some 15, .mv (.t 6), none⟩, ⟨some 16, .ia 2 (.t 14) (.t 15), none⟩, ⟨some 17, .fa 0 (.t 16), none⟩, ⟨some 18, .ld false 1 (.t 17), none⟩, ⟨some 19, .mv (.t 1), none⟩, ⟨some 20, .bin .geq (.t 18) (.t 19), none⟩])
 (.cond (.t 20)
 (.reg false [⟨some 21, .mv (.t 5), none⟩, ⟨some 22, .mv (.t 0), none⟩, ⟨some 23, .mv (.t 6), none⟩, ⟨some 24, .ia 2 (.t 22) (.t 23), none⟩, ⟨some 25, .ld true 2 (.t 24), none⟩, ⟨some 26, .bsl 33 2 1 [.int .i64 0, .int .i64 0] [(0, (.t 25))], none⟩, ⟨some 27, .app 33 2 16 [.int .i64 0, .int .i64 0] (.t 21) (.t 26), none⟩, ⟨some 5, .mv (.t 27), none⟩])
 .skip)))
 (.reg false [⟨some 12, .mv (.t 6), none⟩, ⟨some 13, .bin .add (.t 12) (ki 1), none⟩, ⟨some 6, .mv (.t 13), none⟩]))))))
 (.seq (.reg false [⟨some 28, .mv (.t 5), none⟩, ⟨some 4, .mv (.t 28), none⟩])
 .ret))))
abbrev n_windroseref12_Trim : Nat := 51
theorem F_windroseref12_Trim : Fun Tryz.prog n_windroseref12_Trim 29 c_windroseref12_Trim [.t 4] := ⟨⟨Tryz.f51, _, Tryz.func51, by kernel_rfl, rfl, rfl, by kernel_rfl, by kernel_rfl⟩⟩
/-- windrose/shelf.in -/
def c_shelf_in : C :=
 (.seq (.reg false [⟨some 6, .mv (kb false), none⟩])
 (.seq (.reg false [⟨some 7, .mv (.t 0), none⟩, ⟨some 8, .mv (.t 1), none⟩, ⟨some 9, .bin .geq (.t 7) (.t 8), none⟩, ⟨some 10, .mv (.t 9), none⟩, ⟨some 11, .mv (.t 0), some (10, true)⟩, ⟨some 12, .mv (.t 2), some (10, true)⟩, ⟨some 13, .bin .leq (.t 11) (.t 12), some (10, true)⟩, ⟨some 14, .pick (.t 10) (.t 13) (kb false), none⟩, ⟨some 6, .mv (.t 14), none⟩])
 .ret))
abbrev n_shelf_in : Nat := 52
theorem F_shelf_in : Fun Tryz.prog n_shelf_in 15 c_shelf_in [.t 6] := ⟨⟨Tryz.f52, _, Tryz.func52, by kernel_rfl, rfl, rfl, by kernel_rfl, by kernel_rfl⟩⟩
/-- windrose/shelf.own -/
def c_shelf_own : C :=
 (.seq (.reg false [⟨some 1, .box 29 3 (.t 0), none⟩, ⟨some 2, .alloc 29 3 [.slice none 0 0, .slice none 0 0, .int .i64 0], none⟩])
 (.seq (.reg true [⟨some 5, .fa 0 (.t 1), none⟩, ⟨some 6, .ld false 1 (.t 5), none⟩, ⟨some 7, .call (kf 85) [(.t 6)], none⟩, ⟨some 8, .fa 1 (.t 1), none⟩, ⟨some 9, .ld false 1 (.t 8), none⟩, ⟨some 10, .call (kf 86) [(.t 9)], none⟩, ⟨some 11, .fa 0 (.t 1), none⟩, ⟨none, .st 1 (.t 11) (.t 7), none⟩, ⟨some 12, .fa 1 (.t 1), none⟩, ⟨none, .st 1 (.t 12) (.t 10), none⟩])
 (.seq (.seq (.reg false [⟨some 13, .fa 0 (.t 1), none⟩, ⟨some 14, .ld false 1 (.t 13), none⟩, ⟨some 15, .len (.t 14), none⟩, ⟨some 16, .mv (ki 0), none⟩])
 (.block 0 (.loop (.seq (.reg false [⟨some 17, .bin .lss (.t 16) (.t 15), none⟩])
 (.seq (.cond (.t 17)
 .skip
 (.exit 0))
 (.seq (.block 1 (.seq (.reg false [⟨some 18, .mv (.t 16), none⟩, ⟨some 19, .ia 2 (.t 14) (.t 16), none⟩, ⟨some 20, .ld true 2 (.t 19), none⟩, ⟨some 4, .alloc 49 2 [.string ⟨#[]⟩, .slice none 0 0], none⟩, ⟨some 3, .mv (.t 18), none⟩, ⟨none, .st 2 (.t 4) (.t 20), none⟩])
 (.reg true [⟨some 21, .fa 0 (.t 1), none⟩, ⟨some 22, .ld false 1 (.t 21), none⟩, ⟨some 23, .mv (.t 3), none⟩, ⟨some 24, .fa 1 (.t 4), none⟩, ⟨some 25, .ld false 1 (.t 24), none⟩, ⟨some 26, .call (kf 87) [(.t 25)], none⟩, ⟨some 27, .ia 2 (.t 22) (.t 23), none⟩, ⟨some 28, .fa 1 (.t 27), none⟩, ⟨none, .st 1 (.t 28) (.t 26), none⟩])))
 (.reg false [⟨some 29, .bin .add (.t 16) (ki 1), none⟩, ⟨some 16, .mv (.t 29), none⟩])))))))
 (.seq (.reg false [⟨some 30, .ld true 3 (.t 1), none⟩, ⟨none, .st 3 (.t 2) (.t 30), none⟩])
 .ret))))
abbrev n_shelf_own : Nat := 53
theorem F_shelf_own : Fun Tryz.prog n_shelf_own 31 c_shelf_own [.l true 3 2] := ⟨⟨Tryz.f53, _, Tryz.func53, by kernel_rfl, rfl, rfl, by kernel_rfl, by kernel_rfl⟩⟩
/-- windrose/shelf.do -/
def c_shelf_do : C :=
 (.seq (.reg false [⟨some 2, .box 29 3 (.t 0), none⟩, ⟨some 3, .box 35 7 (.t 1), none⟩, ⟨some 4, .alloc 29 3 [.slice none 0 0, .slice none 0 0, .int .i64 0], none⟩, ⟨some 5, .alloc 41 3 [.int .i64 0, .bool false, .int .i64 0], none⟩])
 (.seq (.seq (.reg false [⟨some 7, .ld true 7 (.t 3), none⟩, ⟨some 8, .call (kf 21) [(.t 7)], none⟩, ⟨some 6, .mv (.t 8), none⟩])
 (.seq (.reg false [⟨some 9, .mv (.t 6), none⟩, ⟨some 10, .bin .neq (.t 9) (ki 0), none⟩])
 (.cond (.t 10)
 (.seq (.reg false [⟨some 11, .ld true 3 (.t 2), none⟩, ⟨some 12, .mv (.t 6), none⟩, ⟨some 13, .bld [.int .i64 0, .bool false, .int .i64 0] [(0, 1, (.t 12))], none⟩, ⟨none, .st 3 (.t 4) (.t 11), none⟩, ⟨none, .st 3 (.t 5) (.t 13), none⟩])
 .ret)
 .skip)))
 (.seq (.seq (.reg false [⟨some 14, .fa 0 (.t 3), none⟩, ⟨some 15, .ld false 1 (.t 14), none⟩])
 (.block 0 (.seq (.reg false [⟨some 17, .bin .eql (.t 15) (ki 1), none⟩, ⟨some 16, .mv (.t 17), none⟩])
 (.cond (.t 16)
 (.seq (.reg false [⟨some 18, .ld true 3 (.t 2), none⟩, ⟨some 19, .ld true 7 (.t 3), none⟩, ⟨some 20, .call (kf 88) [(.t 18), (.t 19)], none⟩, ⟨some 21, .ex (.t 20) 0, none⟩, ⟨some 22, .ex (.t 20) 1, none⟩, ⟨none, .st 3 (.t 4) (.t 21), none⟩, ⟨none, .st 3 (.t 5) (.t 22), none⟩])
 .ret)
 (.seq (.reg false [⟨some 24, .bin .eql (.t 15) (ki 2), none⟩, ⟨some 23, .mv (.t 24), none⟩])
 (.cond (.t 23)
 (.seq (.reg false [⟨some 25, .ld true 3 (.t 2), none⟩, ⟨some 26, .fa 4 (.t 3), none⟩, ⟨some 27, .ld false 1 (.t 26), none⟩, ⟨some 28, .call (kf 89) [(.t 25), (.t 27)], none⟩, ⟨some 29, .ex (.t 28) 0, none⟩, ⟨some 30, .ex (.t 28) 1, none⟩, ⟨none, .st 3 (.t 4) (.t 29), none⟩, ⟨none, .st 3 (.t 5) (.t 30), none⟩])
 .ret)
 .skip))))))
 (.seq (.reg true [⟨some 31, .ld true 3 (.t 2), none⟩, ⟨some 32, .ld true 3 (.t 2), none⟩, ⟨some 33, .ld true 7 (.t 3), none⟩, ⟨some 34, .call (kf 90) [(.t 32), (.t 33)], none⟩, ⟨none, .st 3 (.t 4) (.t 31), none⟩, ⟨none, .st 3 (.t 5) (.t 34), none⟩])
 .ret))))
abbrev n_shelf_do : Nat := 54
theorem F_shelf_do : Fun Tryz.prog n_shelf_do 35 c_shelf_do [.l true 3 4, .l true 3 5] := ⟨⟨Tryz.f54, _, Tryz.func54, by kernel_rfl, rfl, rfl, by kernel_rfl, by kernel_rfl⟩⟩
/-- windrose/shelf.done -/
def c_shelf_done : C :=
 (.seq (.reg false [⟨some 2, .box 29 3 (.t 0), none⟩, ⟨some 3, .box 45 5 (.t 1), none⟩, ⟨some 4, .alloc 29 3 [.slice none 0 0, .slice none 0 0, .int .i64 0], none⟩])
 (.seq (.reg false [⟨some 11, .fa 1 (.t 2), none⟩, ⟨some 12, .ld false 1 (.t 11), none⟩, ⟨some 13, .fa 0 (.t 3), none⟩, ⟨some 14, .ld false 1 (.t 13), none⟩, ⟨some 15, .call (kf 91) [(.t 12), (.t 14), (kf 92)], none⟩, ⟨some 10, .mv (.t 15), none⟩, ⟨some 16, .ex (.t 10) 0, none⟩, ⟨some 17, .ex (.t 10) 1, none⟩, ⟨some 5, .mv (.t 16), none⟩, ⟨some 6, .mv (.t 17), none⟩])
 (.seq (.seq (.reg false [⟨some 18, .mv (.t 6), none⟩])
 (.cond (.t 18)
 (.seq (.reg false [⟨some 19, .fa 1 (.t 2), none⟩, ⟨some 20, .ld false 1 (.t 19), none⟩, ⟨some 21, .mv (.t 5), none⟩, ⟨some 22, .ld true 5 (.t 3), none⟩, ⟨some 23, .ia 5 (.t 20) (.t 21), none⟩, ⟨none, .st 5 (.t 23) (.t 22), none⟩])
 (.seq (.reg false [⟨some 24, .ld true 3 (.t 2), none⟩, ⟨none, .st 3 (.t 4) (.t 24), none⟩])
 .ret))
 .skip))
 (.seq (.reg false [⟨some 25, .fa 1 (.t 2), none⟩, ⟨some 26, .ld false 1 (.t 25), none⟩, ⟨some 27, .mv (.t 5), none⟩, ⟨some 28, .ld true 5 (.t 3), none⟩, ⟨some 29, .bsl 45 5 1 [.int .i64 0, .int .i64 0, .int .i64 0, .bool false, .int .i64 0] [(0, (.t 28))], none⟩, ⟨some 30, .call (kf 94) [(.t 26), (.t 27), (.t 29)], none⟩, ⟨some 31, .fa 1 (.t 2), none⟩, ⟨none, .st 1 (.t 31) (.t 30), none⟩])
 (.seq (.seq (.reg false [⟨some 32, .fa 1 (.t 2), none⟩, ⟨some 33, .ld false 1 (.t 32), none⟩, ⟨some 34, .len (.t 33), none⟩, ⟨some 35, .bin .gtr (.t 34) (ki 8), none⟩])
 (.cond (.t 35)
 (.seq (.reg false [⟨some 7, .mv (ki (-1)), none⟩])
 (.seq (.seq (.reg false [⟨some 36, .fa 1 (.t 2), none⟩, ⟨some 37, .ld false 1 (.t 36), none⟩, ⟨some 38, .len (.t 37), none⟩, ⟨some 39, .mv (ki 0), none⟩])
 (.block 0 (.loop (.seq (.reg false [⟨some 40, .bin .lss (.t 39) (.t 38), none⟩])
 (.seq (.cond (.t 40)
 .skip
 (.exit 0))
 (.seq (.block 1 (.seq (.reg false [⟨some 41, .mv (.t 39), none⟩, ⟨some 42, .ia 5 (.t 37) (.t 39), none⟩, ⟨some 43, .ld true 5 (.t 42), none⟩, ⟨some 9, .alloc 45 5 [.int .i64 0, .int .i64 0, .int .i64 0, .bool false, .int .i64 0], none⟩, ⟨some 8, .mv (.t 41), none⟩, ⟨none, .st 5 (.t 9) (.t 43), none⟩])
 (.seq (.reg true [⟨some 44, .fa 0 (.t 9), none⟩, ⟨some 45, .ld false 1 (.t 44), none⟩, ⟨some 46, .fa 0 (.t 3), none⟩, ⟨some 47, .ld false 1 (.t 46), none⟩, ⟨some 48, .bin .neq (.t 45) (.t 47), none⟩, ⟨some 49, .mv (.t 48), none⟩, ⟨some 50, .mv (.t 7), some (49, true)⟩, ⟨some 51, .bin .lss (.t 50) (ki 0), some (49, true)⟩, ⟨some 52, .mv (.t 51), some (49, true)⟩, ⟨some 53, .fa 1 (.t 9), some (52, false)⟩, ⟨some 54, .ld false 1 (.t 53), some (52, false)⟩, ⟨some 55, .fa 1 (.t 2), some (52, false)⟩, ⟨some 56, .ld false 1 (.t 55), some (52, false)⟩, ⟨some 57, .mv (.t 7), some (52, false)⟩, ⟨some 58, .ia 5 (.t 56) (.t 57), some (52, false)⟩, ⟨some 59, .fa 1 (.t 58), some (52, false)⟩, ⟨some 60, .ld false 1 (.t 59), some (52, false)⟩, ⟨some 61, .bin .lss (.t 54) (.t 60), some (52, false)⟩, ⟨some 62, .pick (.t 52) (kb true) (.t 61), some (49, true)⟩, ⟨some 63, .pick (.t 49) (.t 62) (kb false), none⟩])
 (.cond (.t 63)
 (.reg false [⟨some 64, .mv (.t 8), none⟩, ⟨some 7, .mv (.t 64), none⟩])
 .skip))))
 (.reg false [⟨some 65, .bin .add (.t 39) (ki 1), none⟩, ⟨some 39, .mv (.t 65), none⟩])))))))
 (.reg false [⟨some 66, .fa 1 (.t 2), none⟩, ⟨some 67, .ld false 1 (.t 66), none⟩, ⟨some 68, .mv (.t 7), none⟩, ⟨some 69, .mv (.t 7), none⟩, ⟨some 70, .bin .add (.t 69) (ki 1), none⟩, ⟨some 71, .call (kf 95) [(.t 67), (.t 68), (.t 70)], none⟩, ⟨some 72, .fa 1 (.t 2), none⟩, ⟨none, .st 1 (.t 72) (.t 71), none⟩])))
 .skip))
 (.seq (.reg false [⟨some 73, .ld true 3 (.t 2), none⟩, ⟨none, .st 3 (.t 4) (.t 73), none⟩])
 .ret))))))
abbrev n_shelf_done : Nat := 55
theorem F_shelf_done : Fun Tryz.prog n_shelf_done 74 c_shelf_done [.l true 3 4] := ⟨⟨Tryz.f55, _, Tryz.func55, by kernel_rfl, rfl, rfl, by kernel_rfl, by kernel_rfl⟩⟩
/-- windrose/shelf.series -/
def c_shelf_series : C :=
 (.seq (.reg false [⟨some 2, .mv (kb false), none⟩])
 (.seq (.reg false [⟨some 8, .mv (.t 0), none⟩, ⟨some 9, .call (kf 96) [(.t 8)], none⟩, ⟨some 7, .mv (.t 9), none⟩, ⟨some 10, .ex (.t 7) 0, none⟩, ⟨some 11, .ex (.t 7) 1, none⟩, ⟨some 3, .alloc 99 2 [.string ⟨#[]⟩, .slice none 0 0], none⟩, ⟨none, .st 2 (.t 3) (.t 10), none⟩, ⟨some 4, .mv (.t 11), none⟩])
 (.seq (.reg false [⟨some 13, .ld true 2 (.t 3), none⟩, ⟨some 14, .call (kf 97) [(.t 13)], none⟩, ⟨some 12, .mv (.t 14), none⟩, ⟨some 15, .ex (.t 12) 0, none⟩, ⟨some 16, .ex (.t 12) 1, none⟩, ⟨some 5, .mv (.t 15), none⟩, ⟨some 6, .mv (.t 16), none⟩])
 (.seq (.reg false [⟨some 17, .mv (.t 4), none⟩, ⟨some 18, .bin .eql (.t 17) (ki 0), none⟩, ⟨some 19, .mv (.t 18), none⟩, ⟨some 20, .mv (.t 5), some (19, true)⟩, ⟨some 21, .mv (.t 0), some (19, true)⟩, ⟨some 22, .bin .eql (.t 20) (.t 21), some (19, true)⟩, ⟨some 23, .pick (.t 19) (.t 22) (kb false), none⟩, ⟨some 2, .mv (.t 23), none⟩])
 .ret))))
abbrev n_shelf_series : Nat := 56
theorem F_shelf_series : Fun Tryz.prog n_shelf_series 24 c_shelf_series [.t 2] := ⟨⟨Tryz.f56, _, Tryz.func56, by kernel_rfl, rfl, rfl, by kernel_rfl, by kernel_rfl⟩⟩
/-- windrose/block.Check -/
def c_block_Check : C :=
 (.seq (.reg false [⟨some 2, .mv (ki 0), none⟩])
 (.seq (.seq (.reg false [⟨some 5, .mv (.t 0), none⟩, ⟨some 6, .len (.t 5), none⟩, ⟨some 7, .bin .gtr (.t 6) (ki 64), none⟩])
 (.cond (.t 7)
 (.seq (.reg false [⟨some 2, .mv (ki 1), none⟩])
 .ret)
 .skip))
 (.seq (.seq (.reg false [⟨some 8, .mv (.t 0), none⟩, ⟨some 9, .len (.t 8), none⟩, ⟨some 10, .mv (ki 0), none⟩])
 (.block 0 (.loop (.seq (.reg false [⟨some 11, .bin .lss (.t 10) (.t 9), none⟩])
 (.seq (.cond (.t 11)
 .skip
 (.exit 0))
 (.seq (.block 1 (.seq (.reg false [⟨some 12, .mv (.t 10), none⟩, ⟨some 13, .ia 2 (.t 8) (.t 10), none⟩, ⟨some 14, .ld true 2 (.t 13), none⟩, ⟨some 4, .alloc 33 2 [.int .i64 0, .int .i64 0], none⟩, ⟨some 3, .mv (.t 12), none⟩, ⟨none, .st 2 (.t 4) (.t 14), none⟩])
 (.seq (.reg true [⟨some 15, .fa 0 (.t 4), none⟩, ⟨some 16, .ld false 1 (.t 15), none⟩, ⟨some 17, .bin .lss (.t 16) (ki 0), none⟩, ⟨some 18, .mv (.t 17), none⟩, ⟨some 19, .fa 0 (.t 4), some (18, false)⟩, ⟨some 20, .ld false 1 (.t 19), some (18, false)⟩, ⟨some 21, .bin .gtr (.t 20) (ki 1099511627776), some (18, false)⟩, ⟨some 22, .pick (.t 18) (kb true) (.t 21), none⟩, ⟨some 23, .mv (.t 22), none⟩, ⟨some 24, .fa 1 (.t 4), some (23, false)⟩, ⟨some 25, .ld false 1 (.t 24), some (23, false)⟩, ⟨some 26, .bin .lss (.t 25) (ki (-1099511627776)), some (23, false)⟩, ⟨some 27, .pick (.t 23) (kb true) (.t 26), none⟩, ⟨some 28, .mv (.t 27), none⟩, ⟨some 29, .fa 1 (.t 4), some (28, false)⟩, ⟨some 30, .ld false 1 (.t 29), some (28, false)⟩, ⟨some 31, .bin .gtr (.t 30) (ki 1099511627776), some (28, false)⟩, ⟨some 32, .pick (.t 28) (kb true) (.t 31), none⟩, ⟨some 33, .mv (.t 32), none⟩, ⟨some 34, .mv (.t 3), some (33, false)⟩, ⟨some 35, .bin .gtr (.t 34) (ki 0), some (33, false)⟩, ⟨some 36, .mv (.t 35), some (33, false)⟩, ⟨some 37, .fa 0 (.t 4), some (36, true)⟩, ⟨some 38, .ld false 1 (.t 37), some (36, true)⟩, ⟨some 39, .mv (.t 0), some (36, true)⟩, ⟨some 40, .mv (.t 3), some (36, true)⟩, ⟨some 41, .bin .sub (.t 40) (ki 1), some (36, true)⟩, ⟨some 42, .ia 2 (.t 39) (.t 41), some (36, true)⟩, ⟨some 43, .fa 0 (.t 42), some (36, true)⟩, ⟨some 44, .ld false 1 (.t 43), some (36, true)⟩, ⟨some 45, .bin .leq (.t 38) (.t 44), some (36, true)⟩, ⟨some 46, .pick (.t 36) (.t 45) (kb false), some (33, false)⟩, ⟨some 47, .pick (.t 33) (kb true) (.t 46), none⟩])
 (.cond (.t 47)
 (.seq (.reg false [⟨some 2, .mv (ki 1), none⟩])
 .ret)
 .skip))))
 (.reg false [⟨some 48, .bin .add (.t 10) (ki 1), none⟩, ⟨some 10, .mv (.t 48), none⟩])))))))
 (.seq (.reg false [⟨some 2, .mv (ki 0), none⟩])
 .ret))))
abbrev n_block_Check : Nat := 57
theorem F_block_Check : Fun Tryz.prog n_block_Check 49 c_block_Check [.t 2] := ⟨⟨Tryz.f57, _, Tryz.func57, by kernel_rfl, rfl, rfl, by kernel_rfl, by kernel_rfl⟩⟩
/-- windrose/windroseref14.note -/
def c_windroseref14_note : C :=
 (.seq (.reg false [⟨some 3, .box 45 5 (.t 1), none⟩, ⟨some 4, .mv (.k (.one (.c (.v (.slice none 0 0))))), none⟩])
 (.seq (.reg false [⟨some 11, .bsl 45 5 0 [.int .i64 0, .int .i64 0, .int .i64 0, .bool false, .int .i64 0] [], none⟩, ⟨some 5, .mv (.t 11), none⟩])
 (.seq (.reg false [⟨some 6, .mv (kb false), none⟩])
 (.seq (.reg false [⟨some 7, .mv (ki (-1)), none⟩])
 (.seq (.reg false [⟨some 8, .mv (kb false), none⟩])
 (.seq (.seq (.reg false [⟨some 9, .mv (ki 0), none⟩])
 (.block 0 (.loop (.seq (.seq (.reg false [⟨some 12, .mv (.t 9), none⟩, ⟨some 13, .mv (.t 0), none⟩, ⟨some 14, .len (.t 13), none⟩, ⟨some 15, .bin .lss (.t 12) (.t 14), none⟩])
 (.cond (.t 15)
 .skip
 (.exit 0)))
 (.seq (.block 1 (.seq (.reg true [⟨some 18, .mv (.t 8), none⟩, ⟨some 19, .mv (.t 18), none⟩, ⟨some 20, .mv (.t 0), some (19, false)⟩, ⟨some 21, .mv (.t 9), some (19, false)⟩, ⟨some 22, .ia 5 (.t 20) (.t 21), some (19, false)⟩, ⟨some 23, .fa 0 (.t 22), some (19, false)⟩, ⟨some 24, .ld false 1 (.t 23), some (19, false)⟩, ⟨some 25, .fa 0 (.t 3), some (19, false)⟩, ⟨some 26, .ld false 1 (.t 25), some (19, false)⟩, ⟨some 27, .bin .eql (.t 24) (.t 26), some (19, false)⟩, ⟨some 28, .pick (.t 19) (kb true) (.t 27), none⟩, ⟨some 8, .mv (.t 28), none⟩])
 (.seq (.reg true [⟨some 29, .mv (.t 7), none⟩, ⟨some 30, .bin .lss (.t 29) (ki 0), none⟩, ⟨some 31, .mv (.t 30), none⟩, ⟨some 32, .mv (.t 0), some (31, false)⟩, ⟨some 33, .mv (.t 9), some (31, false)⟩, ⟨some 34, .ia 5 (.t 32) (.t 33), some (31, false)⟩, ⟨some 35, .fa 1 (.t 34), some (31, false)⟩, ⟨some 36, .ld false 1 (.t 35), some (31, false)⟩, ⟨some 37, .mv (.t 0), some (31, false)⟩, ⟨some 38, .mv (.t 7), some (31, false)⟩, ⟨some 39, .ia 5 (.t 37) (.t 38), some (31, false)⟩, ⟨some 40, .fa 1 (.t 39), some (31, false)⟩, ⟨some 41, .ld false 1 (.t 40), some (31, false)⟩, ⟨some 42, .bin .lss (.t 36) (.t 41), some (31, false)⟩, ⟨some 43, .pick (.t 31) (kb true) (.t 42), none⟩])
 (.cond (.t 43)
 (.reg false [⟨some 44, .mv (.t 9), none⟩, ⟨some 7, .mv (.t 44), none⟩])
 .skip))))
 (.reg false [⟨some 16, .mv (.t 9), none⟩, ⟨some 17, .bin .add (.t 16) (ki 1), none⟩, ⟨some 9, .mv (.t 17), none⟩]))))))
 (.seq (.seq (.reg false [⟨some 10, .mv (ki 0), none⟩])
 (.block 2 (.loop (.seq (.seq (.reg false [⟨some 45, .mv (.t 10), none⟩, ⟨some 46, .mv (.t 0), none⟩, ⟨some 47, .len (.t 46), none⟩, ⟨some 48, .bin .lss (.t 45) (.t 47), none⟩])
 (.cond (.t 48)
 .skip
 (.exit 2)))
 (.seq (.block 3 (.seq (.seq (.reg true [⟨some 51, .mv (.t 6), none⟩, ⟨some 52, .un .not (.t 51), none⟩, ⟨some 53, .mv (.t 52), none⟩, ⟨some 54, .mv (.t 0), some (53, true)⟩, ⟨some 55, .mv (.t 10), some (53, true)⟩, ⟨some 56, .ia 5 (.t 54) (.t 55), some (53, true)⟩, ⟨some 57, .fa 0 (.t 56), some (53, true)⟩, ⟨some 58, .ld false 1 (.t 57), some (53, true)⟩, ⟨some 59, .fa 0 (.t 3), some (53, true)⟩, ⟨some 60, .ld false 1 (.t 59), some (53, true)⟩, ⟨some 61, .bin .geq (.t 58) (.t 60), some (53, true)⟩, ⟨some 62, .pick (.t 53) (.t 61) (kb false), none⟩])
 (.cond (.t 62)
 (.seq (.reg false [⟨some 63, .mv (.t 5), none⟩, ⟨some 64, .ld true 5 (.t 3), none⟩, ⟨some 65, .bsl 45 5 1 [.int .i64 0, .int .i64 0, .int .i64 0, .bool false, .int .i64 0] [(0, (.t 64))], none⟩, ⟨some 66, .app 45 5 40 [.int .i64 0, .int .i64 0, .int .i64 0, .bool false, .int .i64 0] (.t 63) (.t 65), none⟩, ⟨some 5, .mv (.t 66), none⟩])
 (.reg false [⟨some 6, .mv (kb true), none⟩]))
 .skip))
 (.seq (.reg true [⟨some 67, .mv (.t 0), none⟩, ⟨some 68, .mv (.t 10), none⟩, ⟨some 69, .ia 5 (.t 67) (.t 68), none⟩, ⟨some 70, .fa 0 (.t 69), none⟩, ⟨some 71, .ld false 1 (.t 70), none⟩, ⟨some 72, .fa 0 (.t 3), none⟩, ⟨some 73, .ld false 1 (.t 72), none⟩, ⟨some 74, .bin .neq (.t 71) (.t 73), none⟩, ⟨some 75, .mv (.t 74), none⟩, ⟨some 76, .mv (.t 8), some (75, true)⟩, ⟨some 77, .mv (.t 76), some (75, true)⟩, ⟨some 78, .mv (.t 0), some (77, false)⟩, ⟨some 79, .len (.t 78), some (77, false)⟩, ⟨some 80, .bin .lss (.t 79) (ki 8), some (77, false)⟩, ⟨some 81, .pick (.t 77) (kb true) (.t 80), some (75, true)⟩, ⟨some 82, .mv (.t 81), some (75, true)⟩, ⟨some 83, .mv (.t 10), some (82, false)⟩, ⟨some 84, .mv (.t 7), some (82, false)⟩, ⟨some 85, .bin .neq (.t 83) (.t 84), some (82, false)⟩, ⟨some 86, .pick (.t 82) (kb true) (.t 85), some (75, true)⟩, ⟨some 87, .pick (.t 75) (.t 86) (kb false), none⟩])
 (.cond (.t 87)
 (.reg false [⟨some 88, .mv (.t 5), none⟩, ⟨some 89, .mv (.t 0), none⟩, ⟨some 90, .mv (.t 10), none⟩, ⟨some 91, .ia 5 (.t 89) (.t 90), none⟩, ⟨some 92, .ld true 5 (.t 91), none⟩, ⟨some 93, .bsl 45 5 1 [.int .i64 0, .int .i64 0, .int .i64 0, .bool false, .int .i64 0] [(0, (.t 92))], none⟩, ⟨some 94, .app 45 5 40 [.int .i64 0, .int .i64 0, .int .i64 0, .bool false, .int .i64 0] (.t 88) (.t 93), none⟩, ⟨some 5, .mv (.t 94), none⟩])
 .skip))))
 (.reg false [⟨some 49, .mv (.t 10), none⟩, ⟨some 50, .bin .add (.t 49) (ki 1), none⟩, ⟨some 10, .mv (.t 50), none⟩]))))))
 (.seq (.seq (.reg false [⟨some 95, .mv (.t 6), none⟩, ⟨some 96, .un .not (.t 95), none⟩])
 (.cond (.t 96)
 (.reg false [⟨some 97, .mv (.t 5), none⟩, ⟨some 98, .ld true 5 (.t 3), none⟩, ⟨some 99, .bsl 45 5 1 [.int .i64 0, .int .i64 0, .int .i64 0, .bool false, .int .i64 0] [(0, (.t 98))], none⟩, ⟨some 100, .app 45 5 40 [.int .i64 0, .int .i64 0, .int .i64 0, .bool false, .int .i64 0] (.t 97) (.t 99), none⟩, ⟨some 5, .mv (.t 100), none⟩])
 .skip))
 (.seq (.reg false [⟨some 101, .mv (.t 5), none⟩, ⟨some 4, .mv (.t 101), none⟩])
 .ret)))))))))
abbrev n_windroseref14_note : Nat := 58
theorem F_windroseref14_note : Fun Tryz.prog n_windroseref14_note 102 c_windroseref14_note [.t 4] := ⟨⟨Tryz.f58, _, Tryz.func58, by kernel_rfl, rfl, rfl, by kernel_rfl, by kernel_rfl⟩⟩
/-- windrose/windroseref14.op -/
def c_windroseref14_op : C :=
 (.seq (.reg false [⟨some 2, .box 29 3 (.t 0), none⟩, ⟨some 3, .box 35 7 (.t 1), none⟩, ⟨some 4, .alloc 29 3 [.slice none 0 0, .slice none 0 0, .int .i64 0], none⟩, ⟨some 5, .alloc 41 3 [.int .i64 0, .bool false, .int .i64 0], none⟩])
 (.seq (.reg false [⟨some 15, .ld true 3 (.t 2), none⟩, ⟨some 16, .fa 1 (.t 3), none⟩, ⟨some 17, .ld false 1 (.t 16), none⟩, ⟨some 18, .call (kf 18) [(.t 15), (.t 17)], none⟩, ⟨some 6, .mv (.t 18), none⟩])
 (.seq (.seq (.reg false [⟨some 19, .fa 0 (.t 3), none⟩, ⟨some 20, .ld false 1 (.t 19), none⟩])
 (.block 0 (.seq (.reg false [⟨some 22, .bin .eql (.t 20) (ki 1), none⟩, ⟨some 21, .mv (.t 22), none⟩])
 (.cond (.t 21)
 (.seq (.seq (.reg false [⟨some 23, .fa 2 (.t 3), none⟩, ⟨some 24, .fa 0 (.t 23), none⟩, ⟨some 25, .ld false 1 (.t 24), none⟩, ⟨some 26, .fa 2 (.t 2), none⟩, ⟨some 27, .ld false 1 (.t 26), none⟩, ⟨some 28, .bin .lss (.t 25) (.t 27), none⟩])
 (.cond (.t 28)
 (.seq (.reg false [⟨some 29, .ld true 3 (.t 2), none⟩, ⟨some 30, .bld [.int .i64 0, .bool false, .int .i64 0] [(0, 1, (ki 9))], none⟩, ⟨none, .st 3 (.t 4) (.t 29), none⟩, ⟨none, .st 3 (.t 5) (.t 30), none⟩])
 .ret)
 .skip))
 (.seq (.seq (.reg false [⟨some 31, .mv (.t 6), none⟩, ⟨some 32, .len (.t 31), none⟩, ⟨some 33, .bin .eql (.t 32) (ki 0), none⟩, ⟨some 34, .mv (.t 33), none⟩, ⟨some 35, .fa 0 (.t 2), some (34, true)⟩, ⟨some 36, .ld false 1 (.t 35), some (34, true)⟩, ⟨some 37, .len (.t 36), some (34, true)⟩, ⟨some 38, .bin .eql (.t 37) (ki 16), some (34, true)⟩, ⟨some 39, .pick (.t 34) (.t 38) (kb false), none⟩])
 (.cond (.t 39)
 (.seq (.reg false [⟨some 40, .ld true 3 (.t 2), none⟩, ⟨some 41, .bld [.int .i64 0, .bool false, .int .i64 0] [(0, 1, (ki 6))], none⟩, ⟨none, .st 3 (.t 4) (.t 40), none⟩, ⟨none, .st 3 (.t 5) (.t 41), none⟩])
 .ret)
 .skip))
 (.seq (.reg false [⟨some 43, .mv (.t 6), none⟩, ⟨some 44, .fa 2 (.t 3), none⟩, ⟨some 45, .ld true 2 (.t 44), none⟩, ⟨some 46, .call (kf 98) [(.t 43), (.t 45)], none⟩, ⟨some 42, .mv (.t 46), none⟩, ⟨some 47, .ex (.t 42) 0, none⟩, ⟨some 48, .ex (.t 42) 1, none⟩, ⟨some 7, .mv (.t 47), none⟩, ⟨some 8, .mv (.t 48), none⟩])
 (.seq (.seq (.reg false [⟨some 49, .mv (.t 8), none⟩, ⟨some 50, .bin .eql (.t 49) (ki 7), none⟩])
 (.cond (.t 50)
 (.seq (.reg false [⟨some 51, .ld true 3 (.t 2), none⟩, ⟨some 52, .bld [.int .i64 0, .bool false, .int .i64 0] [], none⟩, ⟨none, .st 3 (.t 4) (.t 51), none⟩, ⟨none, .st 3 (.t 5) (.t 52), none⟩])
 .ret)
 .skip))
 (.seq (.seq (.reg false [⟨some 53, .mv (.t 8), none⟩, ⟨some 54, .bin .neq (.t 53) (ki 0), none⟩])
 (.cond (.t 54)
 (.seq (.reg false [⟨some 55, .ld true 3 (.t 2), none⟩, ⟨some 56, .mv (.t 8), none⟩, ⟨some 57, .bld [.int .i64 0, .bool false, .int .i64 0] [(0, 1, (.t 56))], none⟩, ⟨none, .st 3 (.t 4) (.t 55), none⟩, ⟨none, .st 3 (.t 5) (.t 57), none⟩])
 .ret)
 .skip))
 (.seq (.reg false [⟨some 58, .fa 0 (.t 2), none⟩, ⟨some 59, .ld false 1 (.t 58), none⟩, ⟨some 60, .fa 1 (.t 3), none⟩, ⟨some 61, .ld false 1 (.t 60), none⟩, ⟨some 62, .mv (.t 7), none⟩, ⟨some 63, .call (kf 99) [(.t 59), (.t 61), (.t 62)], none⟩, ⟨some 64, .fa 0 (.t 2), none⟩, ⟨none, .st 1 (.t 64) (.t 63), none⟩])
 (.seq (.reg false [⟨some 65, .ld true 3 (.t 2), none⟩, ⟨some 66, .bld [.int .i64 0, .bool false, .int .i64 0] [(1, 1, (kb true))], none⟩, ⟨none, .st 3 (.t 4) (.t 65), none⟩, ⟨none, .st 3 (.t 5) (.t 66), none⟩])
 .ret)))))))
 (.seq (.reg false [⟨some 68, .bin .eql (.t 20) (ki 2), none⟩, ⟨some 67, .mv (.t 68), none⟩])
 (.cond (.t 67)
 (.seq (.seq (.reg false [⟨some 69, .fa 4 (.t 3), none⟩, ⟨some 70, .ld false 1 (.t 69), none⟩, ⟨some 71, .fa 2 (.t 2), none⟩, ⟨some 72, .ld false 1 (.t 71), none⟩, ⟨some 73, .bin .lss (.t 70) (.t 72), none⟩])
 (.cond (.t 73)
 (.seq (.reg false [⟨some 74, .ld true 3 (.t 2), none⟩, ⟨some 75, .bld [.int .i64 0, .bool false, .int .i64 0] [(0, 1, (ki 9))], none⟩, ⟨none, .st 3 (.t 4) (.t 74), none⟩, ⟨none, .st 3 (.t 5) (.t 75), none⟩])
 .ret)
 .skip))
 (.seq (.reg false [⟨some 76, .fa 0 (.t 2), none⟩, ⟨some 77, .ld false 1 (.t 76), none⟩, ⟨some 9, .mv (.t 77), none⟩])
 (.seq (.seq (.reg false [⟨some 10, .mv (ki 0), none⟩])
 (.block 1 (.loop (.seq (.seq (.reg false [⟨some 78, .mv (.t 10), none⟩, ⟨some 79, .fa 0 (.t 2), none⟩, ⟨some 80, .ld false 1 (.t 79), none⟩, ⟨some 81, .len (.t 80), none⟩, ⟨some 82, .bin .lss (.t 78) (.t 81), none⟩])
 (.cond (.t 82)
 .skip
 (.exit 1)))
 (.seq (.block 2 (.reg true [⟨some 85, .mv (.t 9), none⟩, ⟨some 86, .fa 0 (.t 2), none⟩, ⟨some 87, .ld false 1 (.t 86), none⟩, ⟨some 88, .mv (.t 10), none⟩, ⟨some 89, .ia 2 (.t 87) (.t 88), none⟩, ⟨some 90, .fa 0 (.t 89), none⟩, ⟨some 91, .ld false 1 (.t 90), none⟩, ⟨some 92, .fa 0 (.t 2), none⟩, ⟨some 93, .ld false 1 (.t 92), none⟩, ⟨some 94, .mv (.t 10), none⟩, ⟨some 95, .ia 2 (.t 93) (.t 94), none⟩, ⟨some 96, .fa 1 (.t 95), none⟩, ⟨some 97, .ld false 1 (.t 96), none⟩, ⟨some 98, .fa 4 (.t 3), none⟩, ⟨some 99, .ld false 1 (.t 98), none⟩, ⟨some 100, .call (kf 51) [(.t 97), (.t 99)], none⟩, ⟨some 101, .call (kf 99) [(.t 85), (.t 91), (.t 100)], none⟩, ⟨some 9, .mv (.t 101), none⟩]))
 (.reg false [⟨some 83, .mv (.t 10), none⟩, ⟨some 84, .bin .add (.t 83) (ki 1), none⟩, ⟨some 10, .mv (.t 84), none⟩]))))))
 (.seq (.reg false [⟨some 102, .mv (.t 9), none⟩, ⟨some 103, .fa 1 (.t 2), none⟩, ⟨some 104, .ld false 1 (.t 103), none⟩, ⟨some 105, .fa 4 (.t 3), none⟩, ⟨some 106, .ld false 1 (.t 105), none⟩, ⟨some 107, .bld [.slice none 0 0, .slice none 0 0, .int .i64 0] [(0, 1, (.t 102)), (1, 1, (.t 104)), (2, 1, (.t 106))], none⟩, ⟨some 108, .bld [.int .i64 0, .bool false, .int .i64 0] [], none⟩, ⟨none, .st 3 (.t 4) (.t 107), none⟩, ⟨none, .st 3 (.t 5) (.t 108), none⟩])
 .ret))))
 (.seq (.reg false [⟨some 110, .bin .eql (.t 20) (ki 4), none⟩, ⟨some 109, .mv (.t 110), none⟩])
 (.cond (.t 109)
 (.seq (.reg false [⟨some 112, .mv (.t 6), none⟩, ⟨some 113, .fa 4 (.t 3), none⟩, ⟨some 114, .ld false 1 (.t 113), none⟩, ⟨some 115, .call (kf 100) [(.t 112), (.t 114)], none⟩, ⟨some 111, .mv (.t 115), none⟩, ⟨some 116, .ex (.t 111) 0, none⟩, ⟨some 117, .ex (.t 111) 1, none⟩, ⟨some 11, .alloc 33 2 [.int .i64 0, .int .i64 0], none⟩, ⟨none, .st 2 (.t 11) (.t 116), none⟩, ⟨some 12, .mv (.t 117), none⟩])
 (.seq (.rgx [[], [], [], [2], [1, 3, 2], [0], [4, 1, 3, 2, 5, 0]] [⟨some 118, .ld true 3 (.t 2), none⟩, ⟨some 119, .mv (.t 12), none⟩, ⟨some 120, .fa 1 (.t 11), none⟩, ⟨some 121, .ld false 1 (.t 120), none⟩, ⟨some 122, .bld [.int .i64 0, .bool false, .int .i64 0] [(1, 1, (.t 119)), (2, 1, (.t 121))], none⟩, ⟨none, .st 3 (.t 4) (.t 118), none⟩, ⟨none, .st 3 (.t 5) (.t 122), none⟩])
 .ret))
 .skip))))))))
 (.seq (.reg true [⟨some 124, .fa 6 (.t 3), none⟩, ⟨some 125, .ld false 1 (.t 124), none⟩, ⟨some 126, .mv (.t 6), none⟩, ⟨some 127, .fa 4 (.t 3), none⟩, ⟨some 128, .ld false 1 (.t 127), none⟩, ⟨some 129, .fa 5 (.t 3), none⟩, ⟨some 130, .ld false 1 (.t 129), none⟩, ⟨some 131, .call (kf 102) [(.t 126), (.t 128), (.t 130)], none⟩, ⟨some 132, .call (kf 101) [(.t 125), (.t 131)], none⟩, ⟨some 123, .mv (.t 132), none⟩, ⟨some 133, .ex (.t 123) 0, none⟩, ⟨some 134, .ex (.t 123) 1, none⟩, ⟨some 13, .mv (.t 133), none⟩, ⟨some 14, .mv (.t 134), none⟩])
 (.seq (.reg false [⟨some 135, .ld true 3 (.t 2), none⟩, ⟨some 136, .mv (.t 14), none⟩, ⟨some 137, .mv (.t 13), none⟩, ⟨some 138, .bld [.int .i64 0, .bool false, .int .i64 0] [(1, 1, (.t 136)), (2, 1, (.t 137))], none⟩, ⟨none, .st 3 (.t 4) (.t 135), none⟩, ⟨none, .st 3 (.t 5) (.t 138), none⟩])
 .ret)))))
abbrev n_windroseref14_op : Nat := 59
theorem F_windroseref14_op : Fun Tryz.prog n_windroseref14_op 139 c_windroseref14_op [.l true 3 4, .l true 3 5] := ⟨⟨Tryz.f59, _, Tryz.func59, by kernel_rfl, rfl, rfl, by kernel_rfl, by kernel_rfl⟩⟩
/-- windrose/shelf.Same$1 -/
def c_shelf_Same_1 : C :=
 (.seq (.reg false [⟨some 2, .box 49 2 (.t 0), none⟩, ⟨some 3, .box 49 2 (.t 1), none⟩, ⟨some 4, .mv (kb false), none⟩])
 (.seq (.reg false [⟨some 5, .fa 0 (.t 2), none⟩, ⟨some 6, .ld false 1 (.t 5), none⟩, ⟨some 7, .fa 0 (.t 3), none⟩, ⟨some 8, .ld false 1 (.t 7), none⟩, ⟨some 9, .bin .eql (.t 6) (.t 8), none⟩, ⟨some 10, .mv (.t 9), none⟩, ⟨some 11, .fa 1 (.t 2), some (10, true)⟩, ⟨some 12, .ld false 1 (.t 11), some (10, true)⟩, ⟨some 13, .fa 1 (.t 3), some (10, true)⟩, ⟨some 14, .ld false 1 (.t 13), some (10, true)⟩, ⟨some 15, .call (kf 61) [(.t 12), (.t 14)], some (10, true)⟩, ⟨some 16, .pick (.t 10) (.t 15) (kb false), none⟩, ⟨some 4, .mv (.t 16), none⟩])
 .ret))
abbrev n_shelf_Same_1 : Nat := 60
theorem F_shelf_Same_1 : Fun Tryz.prog n_shelf_Same_1 17 c_shelf_Same_1 [.t 4] := ⟨⟨Tryz.f60, _, Tryz.func60, by kernel_rfl, rfl, rfl, by kernel_rfl, by kernel_rfl⟩⟩
/-- slices.Equal[[]windrose/api.Sample,windrose/api.Sample] -/
def c_slices_Equal_api_Sample_api_Sample : C :=
 (.seq (.reg false [⟨some 4, .mv (kb false), none⟩])
 (.seq (.seq (.reg false [⟨some 6, .mv (.t 0), none⟩, ⟨some 7, .len (.t 6), none⟩, ⟨some 8, .mv (.t 1), none⟩, ⟨some 9, .len (.t 8), none⟩, ⟨some 10, .bin .neq (.t 7) (.t 9), none⟩])
 (.cond (.t 10)
 (.seq (.reg false [⟨some 4, .mv (kb false), none⟩])
 .ret)
 .skip))
 (.seq (.seq (.reg false [⟨some 11, .mv (.t 0), none⟩, ⟨some 12, .len (.t 11), none⟩, ⟨some 13, .mv (ki 0), none⟩])
 (.block 0 (.loop (.seq (.reg false [⟨some 14, .bin .lss (.t 13) (.t 12), none⟩])
 (.seq (.cond (.t 14)
 .skip
 (.exit 0))
 (.seq (.block 1 (.seq (.reg false [⟨some 15, .mv (.t 13), none⟩, ⟨some 5, .mv (.t 15), none⟩])
 (.seq (.reg true [⟨some 16, .mv (.t 0), none⟩, ⟨some 17, .mv (.t 5), none⟩, ⟨some 18, .ia 2 (.t 16) (.t 17), none⟩, ⟨some 19, .ld true 2 (.t 18), none⟩, ⟨some 20, .mv (.t 1), none⟩, ⟨some 21, .mv (.t 5), none⟩, ⟨some 22, .ia 2 (.t 20) (.t 21), none⟩, ⟨some 23, .ld true 2 (.t 22), none⟩, ⟨some 24, .eqa [1, 1] true (.t 19) (.t 23), none⟩])
 (.cond (.t 24)
 (.seq (.reg false [⟨some 4, .mv (kb false), none⟩])
 .ret)
 .skip))))
 (.reg false [⟨some 25, .bin .add (.t 13) (ki 1), none⟩, ⟨some 13, .mv (.t 25), none⟩])))))))
 (.seq (.reg false [⟨some 4, .mv (kb true), none⟩])
 .ret))))
abbrev n_slices_Equal_api_Sample_api_Sample : Nat := 61
theorem F_slices_Equal_api_Sample_api_Sample : Fun Tryz.prog n_slices_Equal_api_Sample_api_Sample 26 c_slices_Equal_api_Sample_api_Sample [.t 4] := ⟨⟨Tryz.f61, _, Tryz.func61, by kernel_rfl, rfl, rfl, by kernel_rfl, by kernel_rfl⟩⟩
/-- slices.EqualFunc[[]windrose/api.Line,[]windrose/api.Line,windrose/api.Line,windrose/api.Line] -/
def c_slices_EqualFunc_api_Line_api_Line_api_Line_api_Line : C :=
 (.seq (.reg false [⟨some 6, .mv (kb false), none⟩])
 (.seq (.seq (.reg false [⟨some 10, .mv (.t 0), none⟩, ⟨some 11, .len (.t 10), none⟩, ⟨some 12, .mv (.t 1), none⟩, ⟨some 13, .len (.t 12), none⟩, ⟨some 14, .bin .neq (.t 11) (.t 13), none⟩])
 (.cond (.t 14)
 (.seq (.reg false [⟨some 6, .mv (kb false), none⟩])
 .ret)
 .skip))
 (.seq (.seq (.reg false [⟨some 15, .mv (.t 0), none⟩, ⟨some 16, .len (.t 15), none⟩, ⟨some 17, .mv (ki 0), none⟩])
 (.block 0 (.loop (.seq (.reg false [⟨some 18, .bin .lss (.t 17) (.t 16), none⟩])
 (.seq (.cond (.t 18)
 .skip
 (.exit 0))
 (.seq (.block 1 (.seq (.reg false [⟨some 19, .mv (.t 17), none⟩, ⟨some 20, .ia 2 (.t 15) (.t 17), none⟩, ⟨some 21, .ld true 2 (.t 20), none⟩, ⟨some 8, .alloc 49 2 [.string ⟨#[]⟩, .slice none 0 0], none⟩, ⟨some 7, .mv (.t 19), none⟩, ⟨none, .st 2 (.t 8) (.t 21), none⟩])
 (.seq (.reg false [⟨some 22, .mv (.t 1), none⟩, ⟨some 23, .mv (.t 7), none⟩, ⟨some 24, .ia 2 (.t 22) (.t 23), none⟩, ⟨some 25, .ld true 2 (.t 24), none⟩, ⟨some 9, .alloc 49 2 [.string ⟨#[]⟩, .slice none 0 0], none⟩, ⟨none, .st 2 (.t 9) (.t 25), none⟩])
 (.seq (.reg false [⟨some 26, .mv (.t 2), none⟩, ⟨some 27, .ld true 2 (.t 8), none⟩, ⟨some 28, .ld true 2 (.t 9), none⟩, ⟨some 29, .call (.t 26) [(.t 27), (.t 28)], none⟩, ⟨some 30, .un .not (.t 29), none⟩])
 (.cond (.t 30)
 (.seq (.reg false [⟨some 6, .mv (kb false), none⟩])
 .ret)
 .skip)))))
 (.reg false [⟨some 31, .bin .add (.t 17) (ki 1), none⟩, ⟨some 17, .mv (.t 31), none⟩])))))))
 (.seq (.reg false [⟨some 6, .mv (kb true), none⟩])
 .ret))))
abbrev n_slices_EqualFunc_api_Line_api_Line_api_Line_api_Line : Nat := 62
theorem F_slices_EqualFunc_api_Line_api_Line_api_Line_api_Line : Fun Tryz.prog n_slices_EqualFunc_api_Line_api_Line_api_Line_api_Line 32 c_slices_EqualFunc_api_Line_api_Line_api_Line_api_Line [.t 6] := ⟨⟨Tryz.f62, _, Tryz.func62, by kernel_rfl, rfl, rfl, by kernel_rfl, by kernel_rfl⟩⟩
/-- slices.Equal[[]windrose/api.Done,windrose/api.Done] -/
def c_slices_Equal_api_Done_api_Done : C :=
 (.seq (.reg false [⟨some 4, .mv (kb false), none⟩])
 (.seq (.seq (.reg false [⟨some 6, .mv (.t 0), none⟩, ⟨some 7, .len (.t 6), none⟩, ⟨some 8, .mv (.t 1), none⟩, ⟨some 9, .len (.t 8), none⟩, ⟨some 10, .bin .neq (.t 7) (.t 9), none⟩])
 (.cond (.t 10)
 (.seq (.reg false [⟨some 4, .mv (kb false), none⟩])
 .ret)
 .skip))
 (.seq (.seq (.reg false [⟨some 11, .mv (.t 0), none⟩, ⟨some 12, .len (.t 11), none⟩, ⟨some 13, .mv (ki 0), none⟩])
 (.block 0 (.loop (.seq (.reg false [⟨some 14, .bin .lss (.t 13) (.t 12), none⟩])
 (.seq (.cond (.t 14)
 .skip
 (.exit 0))
 (.seq (.block 1 (.seq (.reg false [⟨some 15, .mv (.t 13), none⟩, ⟨some 5, .mv (.t 15), none⟩])
 (.seq (.reg true [⟨some 16, .mv (.t 0), none⟩, ⟨some 17, .mv (.t 5), none⟩, ⟨some 18, .ia 5 (.t 16) (.t 17), none⟩, ⟨some 19, .ld true 5 (.t 18), none⟩, ⟨some 20, .mv (.t 1), none⟩, ⟨some 21, .mv (.t 5), none⟩, ⟨some 22, .ia 5 (.t 20) (.t 21), none⟩, ⟨some 23, .ld true 5 (.t 22), none⟩, ⟨some 24, .eqa [1, 1, 1, 0, 1] true (.t 19) (.t 23), none⟩])
 (.cond (.t 24)
 (.seq (.reg false [⟨some 4, .mv (kb false), none⟩])
 .ret)
 .skip))))
 (.reg false [⟨some 25, .bin .add (.t 13) (ki 1), none⟩, ⟨some 13, .mv (.t 25), none⟩])))))))
 (.seq (.reg false [⟨some 4, .mv (kb true), none⟩])
 .ret))))
abbrev n_slices_Equal_api_Done_api_Done : Nat := 63
theorem F_slices_Equal_api_Done_api_Done : Fun Tryz.prog n_slices_Equal_api_Done_api_Done 26 c_slices_Equal_api_Done_api_Done [.t 4] := ⟨⟨Tryz.f63, _, Tryz.func63, by kernel_rfl, rfl, rfl, by kernel_rfl, by kernel_rfl⟩⟩
/-- slices.Clone[[]windrose/api.Line,windrose/api.Line] -/
def c_slices_Clone_api_Line_api_Line : C :=
 (.seq (.reg false [⟨some 2, .mv (.k (.one (.c (.v (.slice none 0 0))))), none⟩])
 (.seq (.seq (.reg false [⟨some 3, .mv (.t 0), none⟩, ⟨some 4, .eqb false (.t 3) (.k (.one (.c (.v (.slice none 0 0))))), none⟩])
 (.cond (.t 4)
 (.seq (.reg false [⟨some 2, .mv (.k (.one (.c (.v (.slice none 0 0))))), none⟩])
 .ret)
 .skip))
 (.seq (.reg false [⟨some 5, .bsl 49 2 0 [.string ⟨#[]⟩, .slice none 0 0] [], none⟩, ⟨some 6, .mv (.t 0), none⟩, ⟨some 7, .app 49 2 40 [.string ⟨#[]⟩, .slice none 0 0] (.t 5) (.t 6), none⟩, ⟨some 2, .mv (.t 7), none⟩])
 .ret)))
abbrev n_slices_Clone_api_Line_api_Line : Nat := 85
theorem F_slices_Clone_api_Line_api_Line : Fun Tryz.prog n_slices_Clone_api_Line_api_Line 8 c_slices_Clone_api_Line_api_Line [.t 2] := ⟨⟨Tryz.f85, _, Tryz.func85, by kernel_rfl, rfl, rfl, by kernel_rfl, by kernel_rfl⟩⟩
/-- slices.Clone[[]windrose/api.Done,windrose/api.Done] -/
def c_slices_Clone_api_Done_api_Done : C :=
 (.seq (.reg false [⟨some 2, .mv (.k (.one (.c (.v (.slice none 0 0))))), none⟩])
 (.seq (.seq (.reg false [⟨some 3, .mv (.t 0), none⟩, ⟨some 4, .eqb false (.t 3) (.k (.one (.c (.v (.slice none 0 0))))), none⟩])
 (.cond (.t 4)
 (.seq (.reg false [⟨some 2, .mv (.k (.one (.c (.v (.slice none 0 0))))), none⟩])
 .ret)
 .skip))
 (.seq (.reg false [⟨some 5, .bsl 45 5 0 [.int .i64 0, .int .i64 0, .int .i64 0, .bool false, .int .i64 0] [], none⟩, ⟨some 6, .mv (.t 0), none⟩, ⟨some 7, .app 45 5 40 [.int .i64 0, .int .i64 0, .int .i64 0, .bool false, .int .i64 0] (.t 5) (.t 6), none⟩, ⟨some 2, .mv (.t 7), none⟩])
 .ret)))
abbrev n_slices_Clone_api_Done_api_Done : Nat := 86
theorem F_slices_Clone_api_Done_api_Done : Fun Tryz.prog n_slices_Clone_api_Done_api_Done 8 c_slices_Clone_api_Done_api_Done [.t 2] := ⟨⟨Tryz.f86, _, Tryz.func86, by kernel_rfl, rfl, rfl, by kernel_rfl, by kernel_rfl⟩⟩
/-- slices.Clone[[]windrose/api.Sample,windrose/api.Sample] -/
def c_slices_Clone_api_Sample_api_Sample : C :=
 (.seq (.reg false [⟨some 2, .mv (.k (.one (.c (.v (.slice none 0 0))))), none⟩])
 (.seq (.seq (.reg false [⟨some 3, .mv (.t 0), none⟩, ⟨some 4, .eqb false (.t 3) (.k (.one (.c (.v (.slice none 0 0))))), none⟩])
 (.cond (.t 4)
 (.seq (.reg false [⟨some 2, .mv (.k (.one (.c (.v (.slice none 0 0))))), none⟩])
 .ret)
 .skip))
 (.seq (.reg false [⟨some 5, .bsl 33 2 0 [.int .i64 0, .int .i64 0] [], none⟩, ⟨some 6, .mv (.t 0), none⟩, ⟨some 7, .app 33 2 16 [.int .i64 0, .int .i64 0] (.t 5) (.t 6), none⟩, ⟨some 2, .mv (.t 7), none⟩])
 .ret)))
abbrev n_slices_Clone_api_Sample_api_Sample : Nat := 87
theorem F_slices_Clone_api_Sample_api_Sample : Fun Tryz.prog n_slices_Clone_api_Sample_api_Sample 8 c_slices_Clone_api_Sample_api_Sample [.t 2] := ⟨⟨Tryz.f87, _, Tryz.func87, by kernel_rfl, rfl, rfl, by kernel_rfl, by kernel_rfl⟩⟩
/-- windrose/shelf.write -/
def c_shelf_write : C :=
 (.seq (.reg false [⟨some 2, .box 29 3 (.t 0), none⟩, ⟨some 3, .box 35 7 (.t 1), none⟩, ⟨some 4, .alloc 29 3 [.slice none 0 0, .slice none 0 0, .int .i64 0], none⟩, ⟨some 5, .alloc 41 3 [.int .i64 0, .bool false, .int .i64 0], none⟩])
 (.seq (.reg false [⟨some 11, .ld true 3 (.t 2), none⟩, ⟨some 12, .fa 1 (.t 3), none⟩, ⟨some 13, .ld false 1 (.t 12), none⟩, ⟨some 14, .call (kf 106) [(.t 11), (.t 13)], none⟩, ⟨some 10, .mv (.t 14), none⟩, ⟨some 15, .ex (.t 10) 0, none⟩, ⟨some 16, .ex (.t 10) 1, none⟩, ⟨some 6, .mv (.t 15), none⟩, ⟨some 7, .mv (.t 16), none⟩])
 (.seq (.block 0 (.seq (.reg false [⟨some 18, .fa 2 (.t 3), none⟩, ⟨some 19, .fa 0 (.t 18), none⟩, ⟨some 20, .ld false 1 (.t 19), none⟩, ⟨some 21, .fa 2 (.t 2), none⟩, ⟨some 22, .ld false 1 (.t 21), none⟩, ⟨some 23, .bin .lss (.t 20) (.t 22), none⟩, ⟨some 17, .mv (.t 23), none⟩])
 (.cond (.t 17)
 (.seq (.reg false [⟨some 24, .ld true 3 (.t 2), none⟩, ⟨some 25, .bld [.int .i64 0, .bool false, .int .i64 0] [(0, 1, (ki 9))], none⟩, ⟨none, .st 3 (.t 4) (.t 24), none⟩, ⟨none, .st 3 (.t 5) (.t 25), none⟩])
 .ret)
 (.seq (.reg false [⟨some 27, .mv (.t 7), none⟩, ⟨some 28, .un .not (.t 27), none⟩, ⟨some 29, .mv (.t 28), none⟩, ⟨some 30, .fa 0 (.t 2), some (29, true)⟩, ⟨some 31, .ld false 1 (.t 30), some (29, true)⟩, ⟨some 32, .len (.t 31), some (29, true)⟩, ⟨some 33, .bin .eql (.t 32) (ki 16), some (29, true)⟩, ⟨some 34, .pick (.t 29) (.t 33) (kb false), none⟩, ⟨some 26, .mv (.t 34), none⟩])
 (.cond (.t 26)
 (.seq (.reg false [⟨some 35, .ld true 3 (.t 2), none⟩, ⟨some 36, .bld [.int .i64 0, .bool false, .int .i64 0] [(0, 1, (ki 6))], none⟩, ⟨none, .st 3 (.t 4) (.t 35), none⟩, ⟨none, .st 3 (.t 5) (.t 36), none⟩])
 .ret)
 (.seq (.reg false [⟨some 38, .mv (.t 7), none⟩, ⟨some 39, .un .not (.t 38), none⟩, ⟨some 37, .mv (.t 39), none⟩])
 (.cond (.t 37)
 (.reg false [⟨some 40, .fa 0 (.t 2), none⟩, ⟨some 41, .ld false 1 (.t 40), none⟩, ⟨some 42, .mv (.t 6), none⟩, ⟨some 43, .fa 1 (.t 3), none⟩, ⟨some 44, .ld false 1 (.t 43), none⟩, ⟨some 45, .bld [.string ⟨#[]⟩, .slice none 0 0] [(0, 1, (.t 44))], none⟩, ⟨some 46, .bsl 49 2 1 [.string ⟨#[]⟩, .slice none 0 0] [(0, (.t 45))], none⟩, ⟨some 47, .call (kf 107) [(.t 41), (.t 42), (.t 46)], none⟩, ⟨some 48, .fa 0 (.t 2), none⟩, ⟨none, .st 1 (.t 48) (.t 47), none⟩])
 .skip)))))))
 (.seq (.reg true [⟨some 50, .fa 0 (.t 2), none⟩, ⟨some 51, .ld false 1 (.t 50), none⟩, ⟨some 52, .mv (.t 6), none⟩, ⟨some 53, .ia 2 (.t 51) (.t 52), none⟩, ⟨some 54, .fa 1 (.t 53), none⟩, ⟨some 55, .ld false 1 (.t 54), none⟩, ⟨some 56, .fa 2 (.t 3), none⟩, ⟨some 57, .ld true 2 (.t 56), none⟩, ⟨some 58, .call (kf 108) [(.t 55), (.t 57)], none⟩, ⟨some 49, .mv (.t 58), none⟩, ⟨some 59, .ex (.t 49) 0, none⟩, ⟨some 60, .ex (.t 49) 1, none⟩, ⟨some 8, .mv (.t 59), none⟩, ⟨some 9, .mv (.t 60), none⟩])
 (.seq (.reg false [⟨some 61, .fa 0 (.t 2), none⟩, ⟨some 62, .ld false 1 (.t 61), none⟩, ⟨some 63, .mv (.t 6), none⟩, ⟨some 64, .mv (.t 8), none⟩, ⟨some 65, .ia 2 (.t 62) (.t 63), none⟩, ⟨some 66, .fa 1 (.t 65), none⟩, ⟨none, .st 1 (.t 66) (.t 64), none⟩])
 (.seq (.seq (.reg false [⟨some 67, .mv (.t 9), none⟩, ⟨some 68, .bin .eql (.t 67) (ki 7), none⟩])
 (.cond (.t 68)
 (.seq (.reg false [⟨some 69, .ld true 3 (.t 2), none⟩, ⟨some 70, .bld [.int .i64 0, .bool false, .int .i64 0] [], none⟩, ⟨none, .st 3 (.t 4) (.t 69), none⟩, ⟨none, .st 3 (.t 5) (.t 70), none⟩])
 .ret)
 .skip))
 (.seq (.reg false [⟨some 71, .ld true 3 (.t 2), none⟩, ⟨some 72, .mv (.t 9), none⟩, ⟨some 73, .mv (.t 9), none⟩, ⟨some 74, .bin .eql (.t 73) (ki 0), none⟩, ⟨some 75, .bld [.int .i64 0, .bool false, .int .i64 0] [(0, 1, (.t 72)), (1, 1, (.t 74))], none⟩, ⟨none, .st 3 (.t 4) (.t 71), none⟩, ⟨none, .st 3 (.t 5) (.t 75), none⟩])
 .ret)))))))
abbrev n_shelf_write : Nat := 88
theorem F_shelf_write : Fun Tryz.prog n_shelf_write 76 c_shelf_write [.l true 3 4, .l true 3 5] := ⟨⟨Tryz.f88, _, Tryz.func88, by kernel_rfl, rfl, rfl, by kernel_rfl, by kernel_rfl⟩⟩
/-- windrose/shelf.trim -/
def c_shelf_trim : C :=
 (.seq (.reg false [⟨some 2, .box 29 3 (.t 0), none⟩, ⟨some 4, .alloc 29 3 [.slice none 0 0, .slice none 0 0, .int .i64 0], none⟩, ⟨some 5, .alloc 41 3 [.int .i64 0, .bool false, .int .i64 0], none⟩])
 (.seq (.seq (.reg false [⟨some 8, .mv (.t 1), none⟩, ⟨some 9, .fa 2 (.t 2), none⟩, ⟨some 10, .ld false 1 (.t 9), none⟩, ⟨some 11, .bin .lss (.t 8) (.t 10), none⟩])
 (.cond (.t 11)
 (.seq (.reg false [⟨some 12, .ld true 3 (.t 2), none⟩, ⟨some 13, .bld [.int .i64 0, .bool false, .int .i64 0] [(0, 1, (ki 9))], none⟩, ⟨none, .st 3 (.t 4) (.t 12), none⟩, ⟨none, .st 3 (.t 5) (.t 13), none⟩])
 .ret)
 .skip))
 (.seq (.reg false [⟨some 14, .mv (.t 1), none⟩, ⟨some 15, .fa 2 (.t 2), none⟩, ⟨none, .st 1 (.t 15) (.t 14), none⟩])
 (.seq (.seq (.reg false [⟨some 16, .fa 0 (.t 2), none⟩, ⟨some 17, .ld false 1 (.t 16), none⟩, ⟨some 18, .len (.t 17), none⟩, ⟨some 19, .mv (ki 0), none⟩])
 (.block 0 (.loop (.seq (.reg false [⟨some 20, .bin .lss (.t 19) (.t 18), none⟩])
 (.seq (.cond (.t 20)
 .skip
 (.exit 0))
 (.seq (.block 1 (.seq (.reg false [⟨some 21, .mv (.t 19), none⟩, ⟨some 22, .ia 2 (.t 17) (.t 19), none⟩, ⟨some 23, .ld true 2 (.t 22), none⟩, ⟨some 7, .alloc 49 2 [.string ⟨#[]⟩, .slice none 0 0], none⟩, ⟨some 6, .mv (.t 21), none⟩, ⟨none, .st 2 (.t 7) (.t 23), none⟩])
 (.reg true [⟨some 24, .fa 0 (.t 2), none⟩, ⟨some 25, .ld false 1 (.t 24), none⟩, ⟨some 26, .mv (.t 6), none⟩, ⟨some 27, .fa 1 (.t 7), none⟩, ⟨some 28, .ld false 1 (.t 27), none⟩, ⟨some 29, .mv (.t 1), none⟩, ⟨some 30, .call (kf 109) [(.t 28), (.t 29)], none⟩, ⟨some 31, .ia 2 (.t 25) (.t 26), none⟩, ⟨some 32, .fa 1 (.t 31), none⟩, ⟨none, .st 1 (.t 32) (.t 30), none⟩])))
 (.reg false [⟨some 33, .bin .add (.t 19) (ki 1), none⟩, ⟨some 19, .mv (.t 33), none⟩])))))))
 (.seq (.reg false [⟨some 34, .fa 0 (.t 2), none⟩, ⟨some 35, .ld false 1 (.t 34), none⟩, ⟨some 36, .call (kf 110) [(.t 35), (kf 111)], none⟩, ⟨some 37, .fa 0 (.t 2), none⟩, ⟨none, .st 1 (.t 37) (.t 36), none⟩])
 (.seq (.reg false [⟨some 38, .ld true 3 (.t 2), none⟩, ⟨some 39, .bld [.int .i64 0, .bool false, .int .i64 0] [], none⟩, ⟨none, .st 3 (.t 4) (.t 38), none⟩, ⟨none, .st 3 (.t 5) (.t 39), none⟩])
 .ret))))))
abbrev n_shelf_trim : Nat := 89
theorem F_shelf_trim : Fun Tryz.prog n_shelf_trim 40 c_shelf_trim [.l true 3 4, .l true 3 5] := ⟨⟨Tryz.f89, _, Tryz.func89, by kernel_rfl, rfl, rfl, by kernel_rfl, by kernel_rfl⟩⟩
/-- windrose/shelf.look -/
def c_shelf_look : C :=
 (.seq (.reg false [⟨some 2, .box 29 3 (.t 0), none⟩, ⟨some 3, .box 35 7 (.t 1), none⟩, ⟨some 4, .alloc 41 3 [.int .i64 0, .bool false, .int .i64 0], none⟩])
 (.seq (.reg false [⟨some 5, .mv (.k (.one (.c (.v (.slice none 0 0))))), none⟩])
 (.seq (.seq (.reg false [⟨some 13, .ld true 3 (.t 2), none⟩, ⟨some 14, .fa 1 (.t 3), none⟩, ⟨some 15, .ld false 1 (.t 14), none⟩, ⟨some 16, .call (kf 106) [(.t 13), (.t 15)], none⟩, ⟨some 12, .mv (.t 16), none⟩, ⟨some 17, .ex (.t 12) 0, none⟩, ⟨some 18, .ex (.t 12) 1, none⟩, ⟨some 6, .mv (.t 17), none⟩, ⟨some 7, .mv (.t 18), none⟩])
 (.seq (.reg false [⟨some 19, .mv (.t 7), none⟩])
 (.cond (.t 19)
 (.reg false [⟨some 20, .fa 0 (.t 2), none⟩, ⟨some 21, .ld false 1 (.t 20), none⟩, ⟨some 22, .mv (.t 6), none⟩, ⟨some 23, .ia 2 (.t 21) (.t 22), none⟩, ⟨some 24, .fa 1 (.t 23), none⟩, ⟨some 25, .ld false 1 (.t 24), none⟩, ⟨some 5, .mv (.t 25), none⟩])
 .skip)))
 (.seq (.seq (.reg false [⟨some 26, .fa 0 (.t 3), none⟩, ⟨some 27, .ld false 1 (.t 26), none⟩, ⟨some 28, .bin .eql (.t 27) (ki 4), none⟩])
 (.cond (.t 28)
 (.seq (.reg false [⟨some 30, .mv (.t 5), none⟩, ⟨some 31, .fa 4 (.t 3), none⟩, ⟨some 32, .ld false 1 (.t 31), none⟩, ⟨some 33, .call (kf 112) [(.t 30), (.t 32)], none⟩, ⟨some 29, .mv (.t 33), none⟩, ⟨some 34, .ex (.t 29) 0, none⟩, ⟨some 35, .ex (.t 29) 1, none⟩, ⟨some 8, .alloc 33 2 [.int .i64 0, .int .i64 0], none⟩, ⟨none, .st 2 (.t 8) (.t 34), none⟩, ⟨some 9, .mv (.t 35), none⟩])
 (.seq (.reg false [⟨some 36, .mv (.t 9), none⟩, ⟨some 37, .fa 1 (.t 8), none⟩, ⟨some 38, .ld false 1 (.t 37), none⟩, ⟨some 39, .bld [.int .i64 0, .bool false, .int .i64 0] [(1, 1, (.t 36)), (2, 1, (.t 38))], none⟩, ⟨none, .st 3 (.t 4) (.t 39), none⟩])
 .ret))
 .skip))
 (.seq (.reg true [⟨some 41, .fa 6 (.t 3), none⟩, ⟨some 42, .ld false 1 (.t 41), none⟩, ⟨some 43, .mv (.t 5), none⟩, ⟨some 44, .fa 4 (.t 3), none⟩, ⟨some 45, .ld false 1 (.t 44), none⟩, ⟨some 46, .fa 5 (.t 3), none⟩, ⟨some 47, .ld false 1 (.t 46), none⟩, ⟨some 48, .call (kf 114) [(.t 43), (.t 45), (.t 47)], none⟩, ⟨some 49, .call (kf 113) [(.t 42), (.t 48)], none⟩, ⟨some 40, .mv (.t 49), none⟩, ⟨some 50, .ex (.t 40) 0, none⟩, ⟨some 51, .ex (.t 40) 1, none⟩, ⟨some 10, .mv (.t 50), none⟩, ⟨some 11, .mv (.t 51), none⟩])
 (.seq (.reg false [⟨some 52, .mv (.t 11), none⟩, ⟨some 53, .mv (.t 10), none⟩, ⟨some 54, .bld [.int .i64 0, .bool false, .int .i64 0] [(1, 1, (.t 52)), (2, 1, (.t 53))], none⟩, ⟨none, .st 3 (.t 4) (.t 54), none⟩])
 .ret))))))
abbrev n_shelf_look : Nat := 90
theorem F_shelf_look : Fun Tryz.prog n_shelf_look 55 c_shelf_look [.l true 3 4] := ⟨⟨Tryz.f90, _, Tryz.func90, by kernel_rfl, rfl, rfl, by kernel_rfl, by kernel_rfl⟩⟩
/-- slices.BinarySearchFunc[[]windrose/api.Done,windrose/api.Done,int] -/
def c_slices_BinarySearchFunc_api_Done_api_Done_int : C :=
 (.seq (.reg false [⟨some 6, .mv (ki 0), none⟩, ⟨some 7, .mv (kb false), none⟩])
 (.seq (.reg false [⟨some 12, .mv (.t 0), none⟩, ⟨some 13, .len (.t 12), none⟩, ⟨some 8, .mv (.t 13), none⟩])
 (.seq (.reg false [⟨some 14, .mv (.t 8), none⟩, ⟨some 9, .mv (ki 0), none⟩, ⟨some 10, .mv (.t 14), none⟩])
 (.seq (.block 0 (.loop (.seq (.seq (.reg false [⟨some 15, .mv (.t 9), none⟩, ⟨some 16, .mv (.t 10), none⟩, ⟨some 17, .bin .lss (.t 15) (.t 16), none⟩])
 (.cond (.t 17)
 .skip
 (.exit 0)))
 (.block 1 (.seq (.reg false [⟨some 18, .mv (.t 9), none⟩, ⟨some 19, .mv (.t 10), none⟩, ⟨some 20, .bin .add (.t 18) (.t 19), none⟩, ⟨some 21, .cvi .u64 (.t 20), none⟩, ⟨some 22, .bin .shr (.t 21) (.k (.one (.c (.v (.int .u64 1))))), none⟩, ⟨some 23, .cvi .i64 (.t 22), none⟩, ⟨some 11, .mv (.t 23), none⟩])
 (.seq (.reg false [⟨some 24, .mv (.t 2), none⟩, ⟨some 25, .mv (.t 0), none⟩, ⟨some 26, .mv (.t 11), none⟩, ⟨some 27, .ia 5 (.t 25) (.t 26), none⟩, ⟨some 28, .ld true 5 (.t 27), none⟩, ⟨some 29, .mv (.t 1), none⟩, ⟨some 30, .call (.t 24) [(.t 28), (.t 29)], none⟩, ⟨some 31, .bin .lss (.t 30) (ki 0), none⟩])
 (.cond (.t 31)
 (.reg false [⟨some 32, .mv (.t 11), none⟩, ⟨some 33, .bin .add (.t 32) (ki 1), none⟩, ⟨some 9, .mv (.t 33), none⟩])
 (.reg false [⟨some 34, .mv (.t 11), none⟩, ⟨some 10, .mv (.t 34), none⟩]))))))))
 (.seq (.reg false [⟨some 35, .mv (.t 9), none⟩, ⟨some 36, .mv (.t 9), none⟩, ⟨some 37, .mv (.t 8), none⟩, ⟨some 38, .bin .lss (.t 36) (.t 37), none⟩, ⟨some 39, .mv (.t 38), none⟩, ⟨some 40, .mv (.t 2), some (39, true)⟩, ⟨some 41, .mv (.t 0), some (39, true)⟩, ⟨some 42, .mv (.t 9), some (39, true)⟩, ⟨some 43, .ia 5 (.t 41) (.t 42), some (39, true)⟩, ⟨some 44, .ld true 5 (.t 43), some (39, true)⟩, ⟨some 45, .mv (.t 1), some (39, true)⟩, ⟨some 46, .call (.t 40) [(.t 44), (.t 45)], some (39, true)⟩, ⟨some 47, .bin .eql (.t 46) (ki 0), some (39, true)⟩, ⟨some 48, .pick (.t 39) (.t 47) (kb false), none⟩, ⟨some 6, .mv (.t 35), none⟩, ⟨some 7, .mv (.t 48), none⟩])
 .ret)))))
abbrev n_slices_BinarySearchFunc_api_Done_api_Done_int : Nat := 91
theorem F_slices_BinarySearchFunc_api_Done_api_Done_int : Fun Tryz.prog n_slices_BinarySearchFunc_api_Done_api_Done_int 49 c_slices_BinarySearchFunc_api_Done_api_Done_int [.t 6, .t 7] := ⟨⟨Tryz.f91, _, Tryz.func91, by kernel_rfl, rfl, rfl, by kernel_rfl, by kernel_rfl⟩⟩
/-- windrose/shelf.done$1 -/
def c_shelf_done_1 : C :=
 (.seq (.reg false [⟨some 2, .box 45 5 (.t 0), none⟩, ⟨some 4, .mv (ki 0), none⟩])
 (.seq (.reg false [⟨some 5, .fa 0 (.t 2), none⟩, ⟨some 6, .ld false 1 (.t 5), none⟩, ⟨some 7, .mv (.t 1), none⟩, ⟨some 8, .call (kf 93) [(.t 6), (.t 7)], none⟩, ⟨some 4, .mv (.t 8), none⟩])
 .ret))
abbrev n_shelf_done_1 : Nat := 92
theorem F_shelf_done_1 : Fun Tryz.prog n_shelf_done_1 9 c_shelf_done_1 [.t 4] := ⟨⟨Tryz.f92, _, Tryz.func92, by kernel_rfl, rfl, rfl, by kernel_rfl, by kernel_rfl⟩⟩
/-- slices.Insert[[]windrose/api.Done,windrose/api.Done] -/
def c_slices_Insert_api_Done_api_Done : C :=
 (.seq (.reg false [⟨some 6, .mv (.k (.one (.c (.v (.slice none 0 0))))), none⟩])
 (.seq (.reg false [⟨some 10, .mv (.t 0), none⟩, ⟨some 11, .mv (.t 1), none⟩, ⟨some 12, .slc 5 (.t 10) (some (.t 11)) none, none⟩])
 (.seq (.reg false [⟨some 13, .mv (.t 2), none⟩, ⟨some 14, .len (.t 13), none⟩, ⟨some 7, .mv (.t 14), none⟩])
 (.seq (.seq (.reg false [⟨some 15, .mv (.t 7), none⟩, ⟨some 16, .bin .eql (.t 15) (ki 0), none⟩])
 (.cond (.t 16)
 (.seq (.reg false [⟨some 17, .mv (.t 0), none⟩, ⟨some 6, .mv (.t 17), none⟩])
 .ret)
 .skip))
 (.seq (.reg false [⟨some 18, .mv (.t 0), none⟩, ⟨some 19, .len (.t 18), none⟩, ⟨some 8, .mv (.t 19), none⟩])
 (.seq (.seq (.reg false [⟨some 20, .mv (.t 1), none⟩, ⟨some 21, .mv (.t 8), none⟩, ⟨some 22, .bin .eql (.t 20) (.t 21), none⟩])
 (.cond (.t 22)
 (.seq (.reg false [⟨some 23, .mv (.t 0), none⟩, ⟨some 24, .mv (.t 2), none⟩, ⟨some 25, .app 45 5 40 [.int .i64 0, .int .i64 0, .int .i64 0, .bool false, .int .i64 0] (.t 23) (.t 24), none⟩, ⟨some 6, .mv (.t 25), none⟩])
 .ret)
 .skip))
 (.seq (.seq (.reg false [⟨some 26, .mv (.t 8), none⟩, ⟨some 27, .mv (.t 7), none⟩, ⟨some 28, .bin .add (.t 26) (.t 27), none⟩, ⟨some 29, .mv (.t 0), none⟩, ⟨some 30, .cap (.t 29), none⟩, ⟨some 31, .bin .gtr (.t 28) (.t 30), none⟩])
 (.cond (.t 31)
 (.seq (.reg false [⟨some 32, .mv (.t 0), none⟩, ⟨some 33, .mv (.t 1), none⟩, ⟨some 34, .slc 5 (.t 32) none (some (.t 33)), none⟩, ⟨some 35, .mv (.t 8), none⟩, ⟨some 36, .mv (.t 7), none⟩, ⟨some 37, .bin .add (.t 35) (.t 36), none⟩, ⟨some 38, .mv (.t 1), none⟩, ⟨some 39, .bin .sub (.t 37) (.t 38), none⟩, ⟨some 40, .apz 45 5 40 [.int .i64 0, .int .i64 0, .int .i64 0, .bool false, .int .i64 0] (.t 34) (.t 39), none⟩, ⟨some 9, .mv (.t 40), none⟩])
 (.seq (.reg false [⟨some 41, .mv (.t 9), none⟩, ⟨some 42, .mv (.t 1), none⟩, ⟨some 43, .slc 5 (.t 41) (some (.t 42)) none, none⟩, ⟨some 44, .mv (.t 2), none⟩, ⟨some 45, .cpy 5 (.t 43) (.t 44), none⟩])
 (.seq (.reg true [⟨some 46, .mv (.t 9), none⟩, ⟨some 47, .mv (.t 1), none⟩, ⟨some 48, .mv (.t 7), none⟩, ⟨some 49, .bin .add (.t 47) (.t 48), none⟩, ⟨some 50, .slc 5 (.t 46) (some (.t 49)) none, none⟩, ⟨some 51, .mv (.t 0), none⟩, ⟨some 52, .mv (.t 1), none⟩, ⟨some 53, .slc 5 (.t 51) (some (.t 52)) none, none⟩, ⟨some 54, .cpy 5 (.t 50) (.t 53), none⟩])
 (.seq (.reg false [⟨some 55, .mv (.t 9), none⟩, ⟨some 6, .mv (.t 55), none⟩])
 .ret))))
 .skip))
 (.seq (.reg false [⟨some 56, .mv (.t 0), none⟩, ⟨some 57, .mv (.t 8), none⟩, ⟨some 58, .mv (.t 7), none⟩, ⟨some 59, .bin .add (.t 57) (.t 58), none⟩, ⟨some 60, .slc 5 (.t 56) none (some (.t 59)), none⟩, ⟨some 0, .mv (.t 60), none⟩])
 (.seq (.seq (.reg false [⟨some 61, .mv (.t 2), none⟩, ⟨some 62, .mv (.t 0), none⟩, ⟨some 63, .mv (.t 1), none⟩, ⟨some 64, .mv (.t 7), none⟩, ⟨some 65, .bin .add (.t 63) (.t 64), none⟩, ⟨some 66, .slc 5 (.t 62) (some (.t 65)) none, none⟩, ⟨some 67, .call (kf 116) [(.t 61), (.t 66)], none⟩, ⟨some 68, .un .not (.t 67), none⟩])
 (.cond (.t 68)
 (.seq (.reg true [⟨some 69, .mv (.t 0), none⟩, ⟨some 70, .mv (.t 1), none⟩, ⟨some 71, .mv (.t 7), none⟩, ⟨some 72, .bin .add (.t 70) (.t 71), none⟩, ⟨some 73, .slc 5 (.t 69) (some (.t 72)) none, none⟩, ⟨some 74, .mv (.t 0), none⟩, ⟨some 75, .mv (.t 1), none⟩, ⟨some 76, .slc 5 (.t 74) (some (.t 75)) none, none⟩, ⟨some 77, .cpy 5 (.t 73) (.t 76), none⟩])
 (.seq (.reg false [⟨some 78, .mv (.t 0), none⟩, ⟨some 79, .mv (.t 1), none⟩, ⟨some 80, .slc 5 (.t 78) (some (.t 79)) none, none⟩, ⟨some 81, .mv (.t 2), none⟩, ⟨some 82, .cpy 5 (.t 80) (.t 81), none⟩])
 (.seq (.reg false [⟨some 83, .mv (.t 0), none⟩, ⟨some 6, .mv (.t 83), none⟩])
 .ret)))
 .skip))
 (.seq (.reg false [⟨some 84, .mv (.t 0), none⟩, ⟨some 85, .mv (.t 8), none⟩, ⟨some 86, .slc 5 (.t 84) (some (.t 85)) none, none⟩, ⟨some 87, .mv (.t 2), none⟩, ⟨some 88, .cpy 5 (.t 86) (.t 87), none⟩])
 (.seq (.reg false [⟨some 89, .mv (.t 0), none⟩, ⟨some 90, .mv (.t 1), none⟩, ⟨some 91, .slc 5 (.t 89) (some (.t 90)) none, none⟩, ⟨some 92, .mv (.t 7), none⟩, ⟨some 93, .call (kf 117) [(.t 91), (.t 92)], none⟩])
 (.seq (.reg false [⟨some 94, .mv (.t 0), none⟩, ⟨some 6, .mv (.t 94), none⟩])
 .ret))))))))))))
abbrev n_slices_Insert_api_Done_api_Done : Nat := 94
theorem F_slices_Insert_api_Done_api_Done : Fun Tryz.prog n_slices_Insert_api_Done_api_Done 95 c_slices_Insert_api_Done_api_Done [.t 6] := ⟨⟨Tryz.f94, _, Tryz.func94, by kernel_rfl, rfl, rfl, by kernel_rfl, by kernel_rfl⟩⟩
/-- slices.Delete[[]windrose/api.Done,windrose/api.Done] -/
def c_slices_Delete_api_Done_api_Done : C :=
 (.seq (.reg false [⟨some 6, .mv (.k (.one (.c (.v (.slice none 0 0))))), none⟩])
 (.seq (.reg false [⟨some 8, .mv (.t 0), none⟩, ⟨some 9, .mv (.t 1), none⟩, ⟨some 10, .mv (.t 2), none⟩, ⟨some 11, .mv (.t 0), none⟩, ⟨some 12, .len (.t 11), none⟩, ⟨some 13, .s3 (.t 8) (some (.t 9)) (some (.t 10)) (some (.t 12)), none⟩])
 (.seq (.seq (.reg false [⟨some 14, .mv (.t 1), none⟩, ⟨some 15, .mv (.t 2), none⟩, ⟨some 16, .bin .eql (.t 14) (.t 15), none⟩])
 (.cond (.t 16)
 (.seq (.reg false [⟨some 17, .mv (.t 0), none⟩, ⟨some 6, .mv (.t 17), none⟩])
 .ret)
 .skip))
 (.seq (.reg false [⟨some 18, .mv (.t 0), none⟩, ⟨some 19, .len (.t 18), none⟩, ⟨some 7, .mv (.t 19), none⟩])
 (.seq (.reg true [⟨some 20, .mv (.t 0), none⟩, ⟨some 21, .mv (.t 1), none⟩, ⟨some 22, .slc 5 (.t 20) none (some (.t 21)), none⟩, ⟨some 23, .mv (.t 0), none⟩, ⟨some 24, .mv (.t 2), none⟩, ⟨some 25, .slc 5 (.t 23) (some (.t 24)) none, none⟩, ⟨some 26, .app 45 5 40 [.int .i64 0, .int .i64 0, .int .i64 0, .bool false, .int .i64 0] (.t 22) (.t 25), none⟩, ⟨some 0, .mv (.t 26), none⟩])
 (.seq (.reg false [⟨some 27, .mv (.t 0), none⟩, ⟨some 28, .mv (.t 0), none⟩, ⟨some 29, .len (.t 28), none⟩, ⟨some 30, .mv (.t 7), none⟩, ⟨some 31, .slc 5 (.t 27) (some (.t 29)) (some (.t 30)), none⟩, ⟨none, .clr 5 [.int .i64 0, .int .i64 0, .int .i64 0, .bool false, .int .i64 0] (.t 31), none⟩])
 (.seq (.reg false [⟨some 32, .mv (.t 0), none⟩, ⟨some 6, .mv (.t 32), none⟩])
 .ret)))))))
abbrev n_slices_Delete_api_Done_api_Done : Nat := 95
theorem F_slices_Delete_api_Done_api_Done : Fun Tryz.prog n_slices_Delete_api_Done_api_Done 33 c_slices_Delete_api_Done_api_Done [.t 6] := ⟨⟨Tryz.f95, _, Tryz.func95, by kernel_rfl, rfl, rfl, by kernel_rfl, by kernel_rfl⟩⟩
/-- windrose/windroseref12.Put -/
def c_windroseref12_Put : C :=
 (.seq (.reg false [⟨some 3, .box 33 2 (.t 1), none⟩, ⟨some 4, .mv (.k (.one (.c (.v (.slice none 0 0))))), none⟩, ⟨some 5, .mv (ki 0), none⟩])
 (.seq (.seq (.reg false [⟨some 8, .ld true 2 (.t 3), none⟩, ⟨some 9, .bsl 33 2 1 [.int .i64 0, .int .i64 0] [(0, (.t 8))], none⟩, ⟨some 10, .call (kf 50) [(.t 9)], none⟩, ⟨some 11, .un .not (.t 10), none⟩])
 (.cond (.t 11)
 (.seq (.reg false [⟨some 12, .mv (.t 0), none⟩, ⟨some 4, .mv (.t 12), none⟩, ⟨some 5, .mv (ki 1), none⟩])
 .ret)
 .skip))
 (.seq (.reg false [⟨some 14, .mv (.t 0), none⟩, ⟨some 15, .fa 0 (.t 3), none⟩, ⟨some 16, .ld false 1 (.t 15), none⟩, ⟨some 17, .call (kf 100) [(.t 14), (.t 16)], none⟩, ⟨some 13, .mv (.t 17), none⟩, ⟨some 18, .ex (.t 13) 0, none⟩, ⟨some 19, .ex (.t 13) 1, none⟩, ⟨some 6, .alloc 33 2 [.int .i64 0, .int .i64 0], none⟩, ⟨none, .st 2 (.t 6) (.t 18), none⟩, ⟨some 7, .mv (.t 19), none⟩])
 (.seq (.seq (.reg false [⟨some 20, .mv (.t 7), none⟩, ⟨some 21, .mv (.t 20), none⟩, ⟨some 22, .fa 1 (.t 6), some (21, true)⟩, ⟨some 23, .ld false 1 (.t 22), some (21, true)⟩, ⟨some 24, .fa 1 (.t 3), some (21, true)⟩, ⟨some 25, .ld false 1 (.t 24), some (21, true)⟩, ⟨some 26, .bin .eql (.t 23) (.t 25), some (21, true)⟩, ⟨some 27, .pick (.t 21) (.t 26) (kb false), none⟩])
 (.cond (.t 27)
 (.seq (.reg false [⟨some 28, .mv (.t 0), none⟩, ⟨some 4, .mv (.t 28), none⟩, ⟨some 5, .mv (ki 7), none⟩])
 .ret)
 .skip))
 (.seq (.seq (.reg false [⟨some 29, .mv (.t 7), none⟩])
 (.cond (.t 29)
 (.seq (.reg false [⟨some 30, .mv (.t 0), none⟩, ⟨some 4, .mv (.t 30), none⟩, ⟨some 5, .mv (ki 8), none⟩])
 .ret)
 .skip))
 (.seq (.seq (.reg false [⟨some 31, .mv (.t 0), none⟩, ⟨some 32, .len (.t 31), none⟩, ⟨some 33, .bin .eql (.t 32) (ki 64), none⟩])
 (.cond (.t 33)
 (.seq (.reg false [⟨some 34, .mv (.t 0), none⟩, ⟨some 4, .mv (.t 34), none⟩, ⟨some 5, .mv (ki 6), none⟩])
 .ret)
 .skip))
 (.seq (.reg false [⟨some 35, .mv (.t 0), none⟩, ⟨some 36, .ld true 2 (.t 3), none⟩, ⟨some 37, .call (kf 128) [(.t 35), (.t 36)], none⟩, ⟨some 4, .mv (.t 37), none⟩, ⟨some 5, .mv (ki 0), none⟩])
 .ret)))))))
abbrev n_windroseref12_Put : Nat := 98
theorem F_windroseref12_Put : Fun Tryz.prog n_windroseref12_Put 38 c_windroseref12_Put [.t 4, .t 5] := ⟨⟨Tryz.f98, _, Tryz.func98, by kernel_rfl, rfl, rfl, by kernel_rfl, by kernel_rfl⟩⟩
/-- windrose/windroseref14.set -/
def c_windroseref14_set : C :=
 (.seq (.reg false [⟨some 6, .mv (.k (.one (.c (.v (.slice none 0 0))))), none⟩])
 (.seq (.reg false [⟨some 10, .bsl 49 2 0 [.string ⟨#[]⟩, .slice none 0 0] [], none⟩, ⟨some 7, .mv (.t 10), none⟩])
 (.seq (.reg false [⟨some 11, .mv (.t 2), none⟩, ⟨some 12, .len (.t 11), none⟩, ⟨some 13, .bin .eql (.t 12) (ki 0), none⟩, ⟨some 8, .mv (.t 13), none⟩])
 (.seq (.seq (.reg false [⟨some 9, .mv (ki 0), none⟩])
 (.block 0 (.loop (.seq (.seq (.reg false [⟨some 14, .mv (.t 9), none⟩, ⟨some 15, .mv (.t 0), none⟩, ⟨some 16, .len (.t 15), none⟩, ⟨some 17, .bin .lss (.t 14) (.t 16), none⟩])
 (.cond (.t 17)
 .skip
 (.exit 0)))
 (.seq (.block 1 (.seq (.seq (.reg false [⟨some 20, .mv (.t 8), none⟩, ⟨some 21, .un .not (.t 20), none⟩, ⟨some 22, .mv (.t 21), none⟩, ⟨some 23, .mv (.t 0), some (22, true)⟩, ⟨some 24, .mv (.t 9), some (22, true)⟩, ⟨some 25, .ia 2 (.t 23) (.t 24), some (22, true)⟩, ⟨some 26, .fa 0 (.t 25), some (22, true)⟩, ⟨some 27, .ld false 1 (.t 26), some (22, true)⟩, ⟨some 28, .mv (.t 1), some (22, true)⟩, ⟨some 29, .bin .geq (.t 27) (.t 28), some (22, true)⟩, ⟨some 30, .pick (.t 22) (.t 29) (kb false), none⟩])
 (.cond (.t 30)
 (.seq (.reg false [⟨some 31, .mv (.t 7), none⟩, ⟨some 32, .mv (.t 1), none⟩, ⟨some 33, .mv (.t 2), none⟩, ⟨some 34, .bld [.string ⟨#[]⟩, .slice none 0 0] [(0, 1, (.t 32)), (1, 1, (.t 33))], none⟩, ⟨some 35, .bsl 49 2 1 [.string ⟨#[]⟩, .slice none 0 0] [(0, (.t 34))], none⟩, ⟨some 36, .app 49 2 40 [.string ⟨#[]⟩, .slice none 0 0] (.t 31) (.t 35), none⟩, ⟨some 7, .mv (.t 36), none⟩])
 (.reg false [⟨some 8, .mv (kb true), none⟩]))
 .skip))
 (.seq (.reg false [⟨some 37, .mv (.t 0), none⟩, ⟨some 38, .mv (.t 9), none⟩, ⟨some 39, .ia 2 (.t 37) (.t 38), none⟩, ⟨some 40, .fa 0 (.t 39), none⟩, ⟨some 41, .ld false 1 (.t 40), none⟩, ⟨some 42, .mv (.t 1), none⟩, ⟨some 43, .bin .neq (.t 41) (.t 42), none⟩])
 (.cond (.t 43)
 (.reg false [⟨some 44, .mv (.t 7), none⟩, ⟨some 45, .mv (.t 0), none⟩, ⟨some 46, .mv (.t 9), none⟩, ⟨some 47, .ia 2 (.t 45) (.t 46), none⟩, ⟨some 48, .ld true 2 (.t 47), none⟩, ⟨some 49, .bsl 49 2 1 [.string ⟨#[]⟩, .slice none 0 0] [(0, (.t 48))], none⟩, ⟨some 50, .app 49 2 40 [.string ⟨#[]⟩, .slice none 0 0] (.t 44) (.t 49), none⟩, ⟨some 7, .mv (.t 50), none⟩])
 .skip))))
 (.reg false [⟨some 18, .mv (.t 9), none⟩, ⟨some 19, .bin .add (.t 18) (ki 1), none⟩, ⟨some 9, .mv (.t 19), none⟩]))))))
 (.seq (.seq (.reg false [⟨some 51, .mv (.t 8), none⟩, ⟨some 52, .un .not (.t 51), none⟩])
 (.cond (.t 52)
 (.reg false [⟨some 53, .mv (.t 7), none⟩, ⟨some 54, .mv (.t 1), none⟩, ⟨some 55, .mv (.t 2), none⟩, ⟨some 56, .bld [.string ⟨#[]⟩, .slice none 0 0] [(0, 1, (.t 54)), (1, 1, (.t 55))], none⟩, ⟨some 57, .bsl 49 2 1 [.string ⟨#[]⟩, .slice none 0 0] [(0, (.t 56))], none⟩, ⟨some 58, .app 49 2 40 [.string ⟨#[]⟩, .slice none 0 0] (.t 53) (.t 57), none⟩, ⟨some 7, .mv (.t 58), none⟩])
 .skip))
 (.seq (.reg false [⟨some 59, .mv (.t 7), none⟩, ⟨some 6, .mv (.t 59), none⟩])
 .ret))))))
abbrev n_windroseref14_set : Nat := 99
theorem F_windroseref14_set : Fun Tryz.prog n_windroseref14_set 60 c_windroseref14_set [.t 6] := ⟨⟨Tryz.f99, _, Tryz.func99, by kernel_rfl, rfl, rfl, by kernel_rfl, by kernel_rfl⟩⟩
/-- windrose/windroseref12.Get -/
def c_windroseref12_Get : C :=
 (.seq (.reg false [⟨some 4, .alloc 33 2 [.int .i64 0, .int .i64 0], none⟩, ⟨some 5, .mv (kb false), none⟩])
 (.seq (.seq (.reg false [⟨some 6, .mv (ki 0), none⟩])
 (.block 0 (.loop (.seq (.seq (.reg false [⟨some 7, .mv (.t 6), none⟩, ⟨some 8, .mv (.t 0), none⟩, ⟨some 9, .len (.t 8), none⟩, ⟨some 10, .bin .lss (.t 7) (.t 9), none⟩])
 (.cond (.t 10)
 .skip
 (.exit 0)))
 (.seq (.block 1 (.seq (.reg false [⟨some 13, .mv (.t 0), none⟩, ⟨some 14, .mv (.t 6), none⟩, ⟨some 15, .ia 2 (.t 13) (.t 14), none⟩, ⟨some 16, .fa 0 (.t 15), none⟩, ⟨some 17, .ld false 1 (.t 16), none⟩, ⟨some 18, .mv (.t 1), none⟩, ⟨some 19, .bin .eql (.t 17) (.t 18), none⟩])
 (.cond (.t 19)
 (.seq (.reg false [⟨some 20, .mv (.t 0), none⟩, ⟨some 21, .mv (.t 6), none⟩, ⟨some 22, .ia 2 (.t 20) (.t 21), none⟩, ⟨some 23, .ld true 2 (.t 22), none⟩, ⟨none, .st 2 (.t 4) (.t 23), none⟩, ⟨some 5, .mv (kb true), none⟩])
 .ret)
 .skip)))
 (.reg false [⟨some 11, .mv (.t 6), none⟩, ⟨some 12, .bin .add (.t 11) (ki 1), none⟩, ⟨some 6, .mv (.t 12), none⟩]))))))
 (.seq (.reg false [⟨some 24, .bld [.int .i64 0, .int .i64 0] [], none⟩, ⟨none, .st 2 (.t 4) (.t 24), none⟩, ⟨some 5, .mv (kb false), none⟩])
 .ret)))
abbrev n_windroseref12_Get : Nat := 100
theorem F_windroseref12_Get : Fun Tryz.prog n_windroseref12_Get 25 c_windroseref12_Get [.l true 2 4, .t 5] := ⟨⟨Tryz.f100, _, Tryz.func100, by kernel_rfl, rfl, rfl, by kernel_rfl, by kernel_rfl⟩⟩
/-- windrose/windroseref13.Of -/
def c_windroseref13_Of : C :=
 (.seq (.reg false [⟨some 4, .mv (ki 0), none⟩, ⟨some 5, .mv (kb false), none⟩])
 (.seq (.seq (.reg false [⟨some 13, .mv (.t 1), none⟩, ⟨some 14, .call (kf 50) [(.t 13)], none⟩, ⟨some 15, .un .not (.t 14), none⟩, ⟨some 16, .mv (.t 15), none⟩, ⟨some 17, .mv (.t 0), some (16, false)⟩, ⟨some 18, .bin .lss (.t 17) (ki 1), some (16, false)⟩, ⟨some 19, .pick (.t 16) (kb true) (.t 18), none⟩, ⟨some 20, .mv (.t 19), none⟩, ⟨some 21, .mv (.t 0), some (20, false)⟩, ⟨some 22, .bin .gtr (.t 21) (ki 5), some (20, false)⟩, ⟨some 23, .pick (.t 20) (kb true) (.t 22), none⟩])
 (.cond (.t 23)
 (.seq (.reg false [⟨some 4, .mv (ki 0), none⟩, ⟨some 5, .mv (kb false), none⟩])
 .ret)
 .skip))
 (.seq (.reg false [⟨some 24, .mv (.t 1), none⟩, ⟨some 25, .len (.t 24), none⟩, ⟨some 6, .mv (.t 25), none⟩])
 (.seq (.reg false [⟨some 7, .mv (ki 0), none⟩, ⟨some 8, .mv (ki 0), none⟩, ⟨some 9, .mv (ki 0), none⟩, ⟨some 10, .mv (ki 0), none⟩])
 (.seq (.seq (.reg false [⟨some 11, .mv (ki 0), none⟩])
 (.block 0 (.loop (.seq (.seq (.reg false [⟨some 26, .mv (.t 11), none⟩, ⟨some 27, .mv (.t 6), none⟩, ⟨some 28, .bin .lss (.t 26) (.t 27), none⟩])
 (.cond (.t 28)
 .skip
 (.exit 0)))
 (.seq (.block 1 (.seq (.reg false [⟨some 31, .mv (.t 1), none⟩, ⟨some 32, .mv (.t 11), none⟩, ⟨some 33, .ia 2 (.t 31) (.t 32), none⟩, ⟨some 34, .fa 1 (.t 33), none⟩, ⟨some 35, .ld false 1 (.t 34), none⟩, ⟨some 12, .mv (.t 35), none⟩])
 (.seq (.reg false [⟨some 36, .mv (.t 7), none⟩, ⟨some 37, .mv (.t 12), none⟩, ⟨some 38, .bin .add (.t 36) (.t 37), none⟩, ⟨some 7, .mv (.t 38), none⟩])
 (.seq (.seq (.reg false [⟨some 39, .mv (.t 11), none⟩, ⟨some 40, .bin .eql (.t 39) (ki 0), none⟩, ⟨some 41, .mv (.t 40), none⟩, ⟨some 42, .mv (.t 12), some (41, false)⟩, ⟨some 43, .mv (.t 8), some (41, false)⟩, ⟨some 44, .bin .lss (.t 42) (.t 43), some (41, false)⟩, ⟨some 45, .pick (.t 41) (kb true) (.t 44), none⟩])
 (.cond (.t 45)
 (.reg false [⟨some 46, .mv (.t 12), none⟩, ⟨some 8, .mv (.t 46), none⟩])
 .skip))
 (.seq (.seq (.reg false [⟨some 47, .mv (.t 11), none⟩, ⟨some 48, .bin .eql (.t 47) (ki 0), none⟩, ⟨some 49, .mv (.t 48), none⟩, ⟨some 50, .mv (.t 12), some (49, false)⟩, ⟨some 51, .mv (.t 9), some (49, false)⟩, ⟨some 52, .bin .gtr (.t 50) (.t 51), some (49, false)⟩, ⟨some 53, .pick (.t 49) (kb true) (.t 52), none⟩])
 (.cond (.t 53)
 (.reg false [⟨some 54, .mv (.t 12), none⟩, ⟨some 9, .mv (.t 54), none⟩])
 .skip))
 (.seq (.reg false [⟨some 55, .mv (.t 11), none⟩, ⟨some 56, .bin .gtr (.t 55) (ki 0), none⟩, ⟨some 57, .mv (.t 56), none⟩, ⟨some 58, .mv (.t 12), some (57, true)⟩, ⟨some 59, .mv (.t 1), some (57, true)⟩, ⟨some 60, .mv (.t 11), some (57, true)⟩, ⟨some 61, .bin .sub (.t 60) (ki 1), some (57, true)⟩, ⟨some 62, .ia 2 (.t 59) (.t 61), some (57, true)⟩, ⟨some 63, .fa 1 (.t 62), some (57, true)⟩, ⟨some 64, .ld false 1 (.t 63), some (57, true)⟩, ⟨some 65, .bin .geq (.t 58) (.t 64), some (57, true)⟩, ⟨some 66, .pick (.t 57) (.t 65) (kb false), none⟩])
 (.cond (.t 66)
 (.reg false [⟨some 67, .mv (.t 10), none⟩, ⟨some 68, .mv (.t 12), none⟩, ⟨some 69, .bin .add (.t 67) (.t 68), none⟩, ⟨some 70, .mv (.t 1), none⟩, ⟨some 71, .mv (.t 11), none⟩, ⟨some 72, .bin .sub (.t 71) (ki 1), none⟩, ⟨some 73, .ia 2 (.t 70) (.t 72), none⟩, ⟨some 74, .fa 1 (.t 73), none⟩, ⟨some 75, .ld false 1 (.t 74), none⟩, ⟨some 76, .bin .sub (.t 69) (.t 75), none⟩, ⟨some 10, .mv (.t 76), none⟩])
 (.seq (.reg false [⟨some 77, .mv (.t 11), none⟩, ⟨some 78, .bin .gtr (.t 77) (ki 0), none⟩, ⟨some 79, .mv (.t 78), none⟩, ⟨some 80, .mv (.t 12), some (79, true)⟩, ⟨some 81, .bin .gtr (.t 80) (ki 0), some (79, true)⟩, ⟨some 82, .pick (.t 79) (.t 81) (kb false), none⟩])
 (.cond (.t 82)
 (.reg false [⟨some 83, .mv (.t 10), none⟩, ⟨some 84, .mv (.t 12), none⟩, ⟨some 85, .bin .add (.t 83) (.t 84), none⟩, ⟨some 10, .mv (.t 85), none⟩])
 .skip)))))))))
 (.reg false [⟨some 29, .mv (.t 11), none⟩, ⟨some 30, .bin .add (.t 29) (ki 1), none⟩, ⟨some 11, .mv (.t 30), none⟩]))))))
 (.seq (.seq (.reg false [⟨some 86, .mv (.t 0), none⟩])
 (.block 2 (.seq (.reg false [⟨some 88, .bin .eql (.t 86) (ki 1), none⟩, ⟨some 87, .mv (.t 88), none⟩])
 (.cond (.t 87)
 (.seq (.reg false [⟨some 89, .mv (.t 7), none⟩, ⟨some 4, .mv (.t 89), none⟩, ⟨some 5, .mv (kb true), none⟩])
 .ret)
 (.seq (.reg false [⟨some 91, .bin .eql (.t 86) (ki 4), none⟩, ⟨some 90, .mv (.t 91), none⟩])
 (.cond (.t 90)
 (.seq (.reg false [⟨some 92, .mv (.t 6), none⟩, ⟨some 4, .mv (.t 92), none⟩, ⟨some 5, .mv (kb true), none⟩])
 .ret)
 (.seq (.reg false [⟨some 94, .bin .eql (.t 86) (ki 2), none⟩, ⟨some 93, .mv (.t 94), none⟩])
 (.cond (.t 93)
 (.seq (.reg false [⟨some 95, .mv (.t 8), none⟩, ⟨some 96, .mv (.t 6), none⟩, ⟨some 97, .bin .gtr (.t 96) (ki 0), none⟩, ⟨some 4, .mv (.t 95), none⟩, ⟨some 5, .mv (.t 97), none⟩])
 .ret)
 (.seq (.reg false [⟨some 99, .bin .eql (.t 86) (ki 3), none⟩, ⟨some 98, .mv (.t 99), none⟩])
 (.cond (.t 98)
 (.seq (.reg false [⟨some 100, .mv (.t 9), none⟩, ⟨some 101, .mv (.t 6), none⟩, ⟨some 102, .bin .gtr (.t 101) (ki 0), none⟩, ⟨some 4, .mv (.t 100), none⟩, ⟨some 5, .mv (.t 102), none⟩])
 .ret)
 .skip))))))))))
 (.seq (.seq (.reg false [⟨some 103, .mv (.t 6), none⟩, ⟨some 104, .bin .lss (.t 103) (ki 2), none⟩])
 (.cond (.t 104)
 (.seq (.reg false [⟨some 4, .mv (ki 0), none⟩, ⟨some 5, .mv (kb false), none⟩])
 .ret)
 .skip))
 (.seq (.reg true [⟨some 105, .mv (.t 10), none⟩, ⟨some 106, .bin .mul (.t 105) (ki 60), none⟩, ⟨some 107, .mv (.t 1), none⟩, ⟨some 108, .mv (.t 6), none⟩, ⟨some 109, .bin .sub (.t 108) (ki 1), none⟩, ⟨some 110, .ia 2 (.t 107) (.t 109), none⟩, ⟨some 111, .fa 0 (.t 110), none⟩, ⟨some 112, .ld false 1 (.t 111), none⟩, ⟨some 113, .mv (.t 1), none⟩, ⟨some 114, .ia 2 (.t 113) (ki 0), none⟩, ⟨some 115, .fa 0 (.t 114), none⟩, ⟨some 116, .ld false 1 (.t 115), none⟩, ⟨some 117, .bin .sub (.t 112) (.t 116), none⟩, ⟨some 118, .bin .quo (.t 106) (.t 117), none⟩, ⟨some 4, .mv (.t 118), none⟩, ⟨some 5, .mv (kb true), none⟩])
 .ret))))))))
abbrev n_windroseref13_Of : Nat := 101
theorem F_windroseref13_Of : Fun Tryz.prog n_windroseref13_Of 119 c_windroseref13_Of [.t 4, .t 5] := ⟨⟨Tryz.f101, _, Tryz.func101, by kernel_rfl, rfl, rfl, by kernel_rfl, by kernel_rfl⟩⟩
/-- windrose/windroseref12.Range -/
def c_windroseref12_Range : C :=
 (.seq (.reg false [⟨some 6, .mv (.k (.one (.c (.v (.slice none 0 0))))), none⟩])
 (.seq (.reg false [⟨some 9, .bsl 33 2 0 [.int .i64 0, .int .i64 0] [], none⟩, ⟨some 7, .mv (.t 9), none⟩])
 (.seq (.seq (.reg false [⟨some 8, .mv (ki 0), none⟩])
 (.block 0 (.loop (.seq (.seq (.reg false [⟨some 10, .mv (.t 8), none⟩, ⟨some 11, .mv (.t 0), none⟩, ⟨some 12, .len (.t 11), none⟩, ⟨some 13, .bin .lss (.t 10) (.t 12), none⟩])
 (.cond (.t 13)
 .skip
 (.exit 0)))
 (.seq (.block 1 (.seq (.reg false [⟨some 16, .mv (.t 0), none⟩, ⟨some 17, .mv (.t 8), none⟩, ⟨some 18, .ia 2 (.t 16) (.t 17), none⟩, ⟨some 19, .fa 0 (.t 18), none⟩, ⟨some 20, .ld false 1 (.t 19), none⟩, ⟨some 21, .mv (.t 1), none⟩, ⟨some 22, .bin .geq (.t 20) (.t 21), none⟩, ⟨some 23, .mv (.t 22), none⟩, ⟨some 24, .mv (.t 0), some (23, true)⟩, ⟨some 25, .mv (.t 8), some (23, true)⟩, ⟨some 26, .ia 2 (.t 24) (.t 25), some (23, true)⟩, ⟨some 27, .fa 0 (.t 26), some (23, true)⟩, ⟨some 28, .ld false 1 (.t 27), some (23, true)⟩, ⟨some 29, .mv (.t 2), some (23, true)⟩, ⟨some 30, .bin .lss (.t 28) (.t 29), some (23, true)⟩, ⟨some 31, .pick (.t 23) (.t 30) (kb false), none⟩])
 (.cond (.t 31)
 (.reg false [⟨some 32, .mv (.t 7), none⟩, ⟨some 33, .mv (.t 0), none⟩, ⟨some 34, .mv (.t 8), none⟩, ⟨some 35, .ia 2 (.t 33) (.t 34), none⟩, ⟨some 36, .ld true 2 (.t 35), none⟩, ⟨some 37, .bsl 33 2 1 [.int .i64 0, .int .i64 0] [(0, (.t 36))], none⟩, ⟨some 38, .app 33 2 16 [.int .i64 0, .int .i64 0] (.t 32) (.t 37), none⟩, ⟨some 7, .mv (.t 38), none⟩])
 .skip)))
 (.reg false [⟨some 14, .mv (.t 8), none⟩, ⟨some 15, .bin .add (.t 14) (ki 1), none⟩, ⟨some 8, .mv (.t 15), none⟩]))))))
 (.seq (.reg false [⟨some 39, .mv (.t 7), none⟩, ⟨some 6, .mv (.t 39), none⟩])
 .ret))))
abbrev n_windroseref12_Range : Nat := 102
theorem F_windroseref12_Range : Fun Tryz.prog n_windroseref12_Range 40 c_windroseref12_Range [.t 6] := ⟨⟨Tryz.f102, _, Tryz.func102, by kernel_rfl, rfl, rfl, by kernel_rfl, by kernel_rfl⟩⟩
/-- windrose/shelf.line -/
def c_shelf_line : C :=
 (.seq (.reg false [⟨some 2, .box 29 3 (.t 0), none⟩, ⟨some 4, .mv (ki 0), none⟩, ⟨some 5, .mv (kb false), none⟩])
 (.seq (.reg false [⟨some 6, .fa 0 (.t 2), none⟩, ⟨some 7, .ld false 1 (.t 6), none⟩, ⟨some 8, .mv (.t 1), none⟩, ⟨some 9, .call (kf 131) [(.t 7), (.t 8), (kf 132)], none⟩, ⟨some 10, .ex (.t 9) 0, none⟩, ⟨some 11, .ex (.t 9) 1, none⟩, ⟨some 4, .mv (.t 10), none⟩, ⟨some 5, .mv (.t 11), none⟩])
 .ret))
abbrev n_shelf_line : Nat := 106
theorem F_shelf_line : Fun Tryz.prog n_shelf_line 12 c_shelf_line [.t 4, .t 5] := ⟨⟨Tryz.f106, _, Tryz.func106, by kernel_rfl, rfl, rfl, by kernel_rfl, by kernel_rfl⟩⟩
/-- slices.Insert[[]windrose/api.Line,windrose/api.Line] -/
def c_slices_Insert_api_Line_api_Line : C :=
 (.seq (.reg false [⟨some 6, .mv (.k (.one (.c (.v (.slice none 0 0))))), none⟩])
 (.seq (.reg false [⟨some 10, .mv (.t 0), none⟩, ⟨some 11, .mv (.t 1), none⟩, ⟨some 12, .slc 2 (.t 10) (some (.t 11)) none, none⟩])
 (.seq (.reg false [⟨some 13, .mv (.t 2), none⟩, ⟨some 14, .len (.t 13), none⟩, ⟨some 7, .mv (.t 14), none⟩])
 (.seq (.seq (.reg false [⟨some 15, .mv (.t 7), none⟩, ⟨some 16, .bin .eql (.t 15) (ki 0), none⟩])
 (.cond (.t 16)
 (.seq (.reg false [⟨some 17, .mv (.t 0), none⟩, ⟨some 6, .mv (.t 17), none⟩])
 .ret)
 .skip))
 (.seq (.reg false [⟨some 18, .mv (.t 0), none⟩, ⟨some 19, .len (.t 18), none⟩, ⟨some 8, .mv (.t 19), none⟩])
 (.seq (.seq (.reg false [⟨some 20, .mv (.t 1), none⟩, ⟨some 21, .mv (.t 8), none⟩, ⟨some 22, .bin .eql (.t 20) (.t 21), none⟩])
 (.cond (.t 22)
 (.seq (.reg false [⟨some 23, .mv (.t 0), none⟩, ⟨some 24, .mv (.t 2), none⟩, ⟨some 25, .app 49 2 40 [.string ⟨#[]⟩, .slice none 0 0] (.t 23) (.t 24), none⟩, ⟨some 6, .mv (.t 25), none⟩])
 .ret)
 .skip))
 (.seq (.seq (.reg false [⟨some 26, .mv (.t 8), none⟩, ⟨some 27, .mv (.t 7), none⟩, ⟨some 28, .bin .add (.t 26) (.t 27), none⟩, ⟨some 29, .mv (.t 0), none⟩, ⟨some 30, .cap (.t 29), none⟩, ⟨some 31, .bin .gtr (.t 28) (.t 30), none⟩])
 (.cond (.t 31)
 (.seq (.reg false [⟨some 32, .mv (.t 0), none⟩, ⟨some 33, .mv (.t 1), none⟩, ⟨some 34, .slc 2 (.t 32) none (some (.t 33)), none⟩, ⟨some 35, .mv (.t 8), none⟩, ⟨some 36, .mv (.t 7), none⟩, ⟨some 37, .bin .add (.t 35) (.t 36), none⟩, ⟨some 38, .mv (.t 1), none⟩, ⟨some 39, .bin .sub (.t 37) (.t 38), none⟩, ⟨some 40, .apz 49 2 40 [.string ⟨#[]⟩, .slice none 0 0] (.t 34) (.t 39), none⟩, ⟨some 9, .mv (.t 40), none⟩])
 (.seq (.reg false [⟨some 41, .mv (.t 9), none⟩, ⟨some 42, .mv (.t 1), none⟩, ⟨some 43, .slc 2 (.t 41) (some (.t 42)) none, none⟩, ⟨some 44, .mv (.t 2), none⟩, ⟨some 45, .cpy 2 (.t 43) (.t 44), none⟩])
 (.seq (.reg true [⟨some 46, .mv (.t 9), none⟩, ⟨some 47, .mv (.t 1), none⟩, ⟨some 48, .mv (.t 7), none⟩, ⟨some 49, .bin .add (.t 47) (.t 48), none⟩, ⟨some 50, .slc 2 (.t 46) (some (.t 49)) none, none⟩, ⟨some 51, .mv (.t 0), none⟩, ⟨some 52, .mv (.t 1), none⟩, ⟨some 53, .slc 2 (.t 51) (some (.t 52)) none, none⟩, ⟨some 54, .cpy 2 (.t 50) (.t 53), none⟩])
 (.seq (.reg false [⟨some 55, .mv (.t 9), none⟩, ⟨some 6, .mv (.t 55), none⟩])
 .ret))))
 .skip))
 (.seq (.reg false [⟨some 56, .mv (.t 0), none⟩, ⟨some 57, .mv (.t 8), none⟩, ⟨some 58, .mv (.t 7), none⟩, ⟨some 59, .bin .add (.t 57) (.t 58), none⟩, ⟨some 60, .slc 2 (.t 56) none (some (.t 59)), none⟩, ⟨some 0, .mv (.t 60), none⟩])
 (.seq (.seq (.reg false [⟨some 61, .mv (.t 2), none⟩, ⟨some 62, .mv (.t 0), none⟩, ⟨some 63, .mv (.t 1), none⟩, ⟨some 64, .mv (.t 7), none⟩, ⟨some 65, .bin .add (.t 63) (.t 64), none⟩, ⟨some 66, .slc 2 (.t 62) (some (.t 65)) none, none⟩, ⟨some 67, .call (kf 133) [(.t 61), (.t 66)], none⟩, ⟨some 68, .un .not (.t 67), none⟩])
 (.cond (.t 68)
 (.seq (.reg true [⟨some 69, .mv (.t 0), none⟩, ⟨some 70, .mv (.t 1), none⟩, ⟨some 71, .mv (.t 7), none⟩, ⟨some 72, .bin .add (.t 70) (.t 71), none⟩, ⟨some 73, .slc 2 (.t 69) (some (.t 72)) none, none⟩, ⟨some 74, .mv (.t 0), none⟩, ⟨some 75, .mv (.t 1), none⟩, ⟨some 76, .slc 2 (.t 74) (some (.t 75)) none, none⟩, ⟨some 77, .cpy 2 (.t 73) (.t 76), none⟩])
 (.seq (.reg false [⟨some 78, .mv (.t 0), none⟩, ⟨some 79, .mv (.t 1), none⟩, ⟨some 80, .slc 2 (.t 78) (some (.t 79)) none, none⟩, ⟨some 81, .mv (.t 2), none⟩, ⟨some 82, .cpy 2 (.t 80) (.t 81), none⟩])
 (.seq (.reg false [⟨some 83, .mv (.t 0), none⟩, ⟨some 6, .mv (.t 83), none⟩])
 .ret)))
 .skip))
 (.seq (.reg false [⟨some 84, .mv (.t 0), none⟩, ⟨some 85, .mv (.t 8), none⟩, ⟨some 86, .slc 2 (.t 84) (some (.t 85)) none, none⟩, ⟨some 87, .mv (.t 2), none⟩, ⟨some 88, .cpy 2 (.t 86) (.t 87), none⟩])
 (.seq (.reg false [⟨some 89, .mv (.t 0), none⟩, ⟨some 90, .mv (.t 1), none⟩, ⟨some 91, .slc 2 (.t 89) (some (.t 90)) none, none⟩, ⟨some 92, .mv (.t 7), none⟩, ⟨some 93, .call (kf 134) [(.t 91), (.t 92)], none⟩])
 (.seq (.reg false [⟨some 94, .mv (.t 0), none⟩, ⟨some 6, .mv (.t 94), none⟩])
 .ret))))))))))))
abbrev n_slices_Insert_api_Line_api_Line : Nat := 107
theorem F_slices_Insert_api_Line_api_Line : Fun Tryz.prog n_slices_Insert_api_Line_api_Line 95 c_slices_Insert_api_Line_api_Line [.t 6] := ⟨⟨Tryz.f107, _, Tryz.func107, by kernel_rfl, rfl, rfl, by kernel_rfl, by kernel_rfl⟩⟩
/-- windrose/samples.Put -/
def c_samples_Put : C :=
 (.seq (.reg false [⟨some 3, .box 33 2 (.t 1), none⟩, ⟨some 4, .mv (.k (.one (.c (.v (.slice none 0 0))))), none⟩, ⟨some 5, .mv (ki 0), none⟩])
 (.seq (.seq (.reg false [⟨some 9, .mv (.t 0), none⟩, ⟨some 10, .call (kf 57) [(.t 9)], none⟩, ⟨some 6, .mv (.t 10), none⟩])
 (.seq (.reg false [⟨some 11, .mv (.t 6), none⟩, ⟨some 12, .bin .neq (.t 11) (ki 0), none⟩])
 (.cond (.t 12)
 (.seq (.reg false [⟨some 13, .mv (.t 6), none⟩, ⟨some 4, .mv (.k (.one (.c (.v (.slice none 0 0))))), none⟩, ⟨some 5, .mv (.t 13), none⟩])
 .ret)
 .skip)))
 (.seq (.reg false [⟨some 14, .mv (.t 0), none⟩, ⟨some 15, .call (kf 87) [(.t 14)], none⟩, ⟨some 0, .mv (.t 15), none⟩])
 (.seq (.reg false [⟨some 17, .mv (.t 0), none⟩, ⟨some 18, .fa 0 (.t 3), none⟩, ⟨some 19, .ld false 1 (.t 18), none⟩, ⟨some 20, .call (kf 135) [(.t 17), (.t 19)], none⟩, ⟨some 16, .mv (.t 20), none⟩, ⟨some 21, .ex (.t 16) 0, none⟩, ⟨some 22, .ex (.t 16) 1, none⟩, ⟨some 7, .mv (.t 21), none⟩, ⟨some 8, .mv (.t 22), none⟩])
 (.seq (.block 0 (.seq (.reg false [⟨some 24, .ld true 2 (.t 3), none⟩, ⟨some 25, .bsl 33 2 1 [.int .i64 0, .int .i64 0] [(0, (.t 24))], none⟩, ⟨some 26, .call (kf 57) [(.t 25)], none⟩, ⟨some 27, .bin .neq (.t 26) (ki 0), none⟩, ⟨some 23, .mv (.t 27), none⟩])
 (.cond (.t 23)
 (.seq (.reg false [⟨some 28, .mv (.t 0), none⟩, ⟨some 4, .mv (.t 28), none⟩, ⟨some 5, .mv (ki 1), none⟩])
 .ret)
 (.seq (.reg true [⟨some 30, .mv (.t 8), none⟩, ⟨some 31, .mv (.t 30), none⟩, ⟨some 32, .mv (.t 0), some (31, true)⟩, ⟨some 33, .mv (.t 7), some (31, true)⟩, ⟨some 34, .ia 2 (.t 32) (.t 33), some (31, true)⟩, ⟨some 35, .ld true 2 (.t 34), some (31, true)⟩, ⟨some 36, .ld true 2 (.t 3), some (31, true)⟩, ⟨some 37, .eqa [1, 1] false (.t 35) (.t 36), some (31, true)⟩, ⟨some 38, .pick (.t 31) (.t 37) (kb false), none⟩, ⟨some 29, .mv (.t 38), none⟩])
 (.cond (.t 29)
 (.seq (.reg false [⟨some 39, .mv (.t 0), none⟩, ⟨some 4, .mv (.t 39), none⟩, ⟨some 5, .mv (ki 7), none⟩])
 .ret)
 (.seq (.reg false [⟨some 41, .mv (.t 8), none⟩, ⟨some 40, .mv (.t 41), none⟩])
 (.cond (.t 40)
 (.seq (.reg false [⟨some 42, .mv (.t 0), none⟩, ⟨some 4, .mv (.t 42), none⟩, ⟨some 5, .mv (ki 8), none⟩])
 .ret)
 (.seq (.reg false [⟨some 44, .mv (.t 0), none⟩, ⟨some 45, .len (.t 44), none⟩, ⟨some 46, .bin .eql (.t 45) (ki 64), none⟩, ⟨some 43, .mv (.t 46), none⟩])
 (.cond (.t 43)
 (.seq (.reg false [⟨some 47, .mv (.t 0), none⟩, ⟨some 4, .mv (.t 47), none⟩, ⟨some 5, .mv (ki 6), none⟩])
 .ret)
 .skip)))))))))
 (.seq (.reg false [⟨some 48, .mv (.t 0), none⟩, ⟨some 49, .mv (.t 7), none⟩, ⟨some 50, .ld true 2 (.t 3), none⟩, ⟨some 51, .bsl 33 2 1 [.int .i64 0, .int .i64 0] [(0, (.t 50))], none⟩, ⟨some 52, .call (kf 136) [(.t 48), (.t 49), (.t 51)], none⟩, ⟨some 4, .mv (.t 52), none⟩, ⟨some 5, .mv (ki 0), none⟩])
 .ret))))))
abbrev n_samples_Put : Nat := 108
theorem F_samples_Put : Fun Tryz.prog n_samples_Put 53 c_samples_Put [.t 4, .t 5] := ⟨⟨Tryz.f108, _, Tryz.func108, by kernel_rfl, rfl, rfl, by kernel_rfl, by kernel_rfl⟩⟩
/-- windrose/samples.Trim -/
def c_samples_Trim : C :=
 (.seq (.reg false [⟨some 4, .mv (.k (.one (.c (.v (.slice none 0 0))))), none⟩])
 (.seq (.seq (.reg false [⟨some 7, .mv (.t 0), none⟩, ⟨some 8, .call (kf 57) [(.t 7)], none⟩, ⟨some 9, .bin .neq (.t 8) (ki 0), none⟩])
 (.cond (.t 9)
 (.seq (.reg false [⟨some 4, .mv (.k (.one (.c (.v (.slice none 0 0))))), none⟩])
 .ret)
 .skip))
 (.seq (.reg false [⟨some 11, .mv (.t 0), none⟩, ⟨some 12, .mv (.t 1), none⟩, ⟨some 13, .call (kf 135) [(.t 11), (.t 12)], none⟩, ⟨some 10, .mv (.t 13), none⟩, ⟨some 14, .ex (.t 10) 0, none⟩, ⟨some 15, .ex (.t 10) 1, none⟩, ⟨some 5, .mv (.t 14), none⟩, ⟨some 6, .mv (.t 15), none⟩])
 (.seq (.reg false [⟨some 16, .mv (.t 0), none⟩, ⟨some 17, .mv (.t 5), none⟩, ⟨some 18, .slc 2 (.t 16) (some (.t 17)) none, none⟩, ⟨some 19, .call (kf 87) [(.t 18)], none⟩, ⟨some 4, .mv (.t 19), none⟩])
 .ret))))
abbrev n_samples_Trim : Nat := 109
theorem F_samples_Trim : Fun Tryz.prog n_samples_Trim 20 c_samples_Trim [.t 4] := ⟨⟨Tryz.f109, _, Tryz.func109, by kernel_rfl, rfl, rfl, by kernel_rfl, by kernel_rfl⟩⟩
/-- slices.DeleteFunc[[]windrose/api.Line,windrose/api.Line] -/
def c_slices_DeleteFunc_api_Line_api_Line : C :=
 (.seq (.reg false [⟨some 4, .mv (.k (.one (.c (.v (.slice none 0 0))))), none⟩])
 (.seq (.reg false [⟨some 8, .mv (.t 0), none⟩, ⟨some 9, .mv (.t 1), none⟩, ⟨some 10, .call (kf 137) [(.t 8), (.t 9)], none⟩, ⟨some 5, .mv (.t 10), none⟩])
 (.seq (.seq (.reg false [⟨some 11, .mv (.t 5), none⟩, ⟨some 12, .bin .eql (.t 11) (ki (-1)), none⟩])
 (.cond (.t 12)
 (.seq (.reg false [⟨some 13, .mv (.t 0), none⟩, ⟨some 4, .mv (.t 13), none⟩])
 .ret)
 .skip))
 (.seq (.seq (.reg false [⟨some 14, .mv (.t 5), none⟩, ⟨some 15, .bin .add (.t 14) (ki 1), none⟩, ⟨some 6, .mv (.t 15), none⟩])
 (.block 0 (.loop (.seq (.seq (.reg false [⟨some 16, .mv (.t 6), none⟩, ⟨some 17, .mv (.t 0), none⟩, ⟨some 18, .len (.t 17), none⟩, ⟨some 19, .bin .lss (.t 16) (.t 18), none⟩])
 (.cond (.t 19)
 .skip
 (.exit 0)))
 (.seq (.block 1 (.seq (.reg false [⟨some 22, .mv (.t 0), none⟩, ⟨some 23, .mv (.t 6), none⟩, ⟨some 24, .ia 2 (.t 22) (.t 23), none⟩, ⟨some 25, .ld true 2 (.t 24), none⟩, ⟨some 7, .alloc 49 2 [.string ⟨#[]⟩, .slice none 0 0], none⟩, ⟨none, .st 2 (.t 7) (.t 25), none⟩])
 (.seq (.reg false [⟨some 26, .mv (.t 1), none⟩, ⟨some 27, .ld true 2 (.t 7), none⟩, ⟨some 28, .call (.t 26) [(.t 27)], none⟩, ⟨some 29, .un .not (.t 28), none⟩])
 (.cond (.t 29)
 (.seq (.reg false [⟨some 30, .mv (.t 0), none⟩, ⟨some 31, .mv (.t 5), none⟩, ⟨some 32, .ld true 2 (.t 7), none⟩, ⟨some 33, .ia 2 (.t 30) (.t 31), none⟩, ⟨none, .st 2 (.t 33) (.t 32), none⟩])
 (.reg false [⟨some 34, .mv (.t 5), none⟩, ⟨some 35, .bin .add (.t 34) (ki 1), none⟩, ⟨some 5, .mv (.t 35), none⟩]))
 .skip))))
 (.reg false [⟨some 20, .mv (.t 6), none⟩, ⟨some 21, .bin .add (.t 20) (ki 1), none⟩, ⟨some 6, .mv (.t 21), none⟩]))))))
 (.seq (.reg false [⟨some 36, .mv (.t 0), none⟩, ⟨some 37, .mv (.t 5), none⟩, ⟨some 38, .slc 2 (.t 36) (some (.t 37)) none, none⟩, ⟨none, .clr 2 [.string ⟨#[]⟩, .slice none 0 0] (.t 38), none⟩])
 (.seq (.reg false [⟨some 39, .mv (.t 0), none⟩, ⟨some 40, .mv (.t 5), none⟩, ⟨some 41, .slc 2 (.t 39) none (some (.t 40)), none⟩, ⟨some 4, .mv (.t 41), none⟩])
 .ret))))))
abbrev n_slices_DeleteFunc_api_Line_api_Line : Nat := 110
theorem F_slices_DeleteFunc_api_Line_api_Line : Fun Tryz.prog n_slices_DeleteFunc_api_Line_api_Line 42 c_slices_DeleteFunc_api_Line_api_Line [.t 4] := ⟨⟨Tryz.f110, _, Tryz.func110, by kernel_rfl, rfl, rfl, by kernel_rfl, by kernel_rfl⟩⟩
/-- windrose/shelf.trim$1 -/
def c_shelf_trim_1 : C :=
 (.seq (.reg false [⟨some 1, .box 49 2 (.t 0), none⟩, ⟨some 2, .mv (kb false), none⟩])
 (.seq (.reg false [⟨some 3, .fa 1 (.t 1), none⟩, ⟨some 4, .ld false 1 (.t 3), none⟩, ⟨some 5, .len (.t 4), none⟩, ⟨some 6, .bin .eql (.t 5) (ki 0), none⟩, ⟨some 2, .mv (.t 6), none⟩])
 .ret))
abbrev n_shelf_trim_1 : Nat := 111
theorem F_shelf_trim_1 : Fun Tryz.prog n_shelf_trim_1 7 c_shelf_trim_1 [.t 2] := ⟨⟨Tryz.f111, _, Tryz.func111, by kernel_rfl, rfl, rfl, by kernel_rfl, by kernel_rfl⟩⟩
/-- windrose/samples.Get -/
def c_samples_Get : C :=
 (.seq (.reg false [⟨some 4, .alloc 33 2 [.int .i64 0, .int .i64 0], none⟩, ⟨some 5, .mv (kb false), none⟩])
 (.seq (.reg false [⟨some 9, .mv (.t 0), none⟩, ⟨some 10, .mv (.t 1), none⟩, ⟨some 11, .call (kf 135) [(.t 9), (.t 10)], none⟩, ⟨some 8, .mv (.t 11), none⟩, ⟨some 12, .ex (.t 8) 0, none⟩, ⟨some 13, .ex (.t 8) 1, none⟩, ⟨some 6, .mv (.t 12), none⟩, ⟨some 7, .mv (.t 13), none⟩])
 (.seq (.seq (.reg false [⟨some 14, .mv (.t 7), none⟩, ⟨some 15, .un .not (.t 14), none⟩, ⟨some 16, .mv (.t 15), none⟩, ⟨some 17, .mv (.t 0), some (16, false)⟩, ⟨some 18, .call (kf 57) [(.t 17)], some (16, false)⟩, ⟨some 19, .bin .neq (.t 18) (ki 0), some (16, false)⟩, ⟨some 20, .pick (.t 16) (kb true) (.t 19), none⟩])
 (.cond (.t 20)
 (.seq (.reg false [⟨some 21, .bld [.int .i64 0, .int .i64 0] [], none⟩, ⟨none, .st 2 (.t 4) (.t 21), none⟩, ⟨some 5, .mv (kb false), none⟩])
 .ret)
 .skip))
 (.seq (.reg false [⟨some 22, .mv (.t 0), none⟩, ⟨some 23, .mv (.t 6), none⟩, ⟨some 24, .ia 2 (.t 22) (.t 23), none⟩, ⟨some 25, .ld true 2 (.t 24), none⟩, ⟨none, .st 2 (.t 4) (.t 25), none⟩, ⟨some 5, .mv (kb true), none⟩])
 .ret))))
abbrev n_samples_Get : Nat := 112
theorem F_samples_Get : Fun Tryz.prog n_samples_Get 26 c_samples_Get [.l true 2 4, .t 5] := ⟨⟨Tryz.f112, _, Tryz.func112, by kernel_rfl, rfl, rfl, by kernel_rfl, by kernel_rfl⟩⟩
/-- windrose/total.Of -/
def c_total_Of : C :=
 (.seq (.reg false [⟨some 4, .mv (ki 0), none⟩, ⟨some 5, .mv (kb false), none⟩])
 (.seq (.seq (.reg false [⟨some 9, .mv (.t 1), none⟩, ⟨some 10, .call (kf 57) [(.t 9)], none⟩, ⟨some 11, .bin .neq (.t 10) (ki 0), none⟩, ⟨some 12, .mv (.t 11), none⟩, ⟨some 13, .mv (.t 0), some (12, false)⟩, ⟨some 14, .bin .lss (.t 13) (ki 1), some (12, false)⟩, ⟨some 15, .pick (.t 12) (kb true) (.t 14), none⟩, ⟨some 16, .mv (.t 15), none⟩, ⟨some 17, .mv (.t 0), some (16, false)⟩, ⟨some 18, .bin .geq (.t 17) (ki 6), some (16, false)⟩, ⟨some 19, .pick (.t 16) (kb true) (.t 18), none⟩])
 (.cond (.t 19)
 (.seq (.reg false [⟨some 4, .mv (ki 0), none⟩, ⟨some 5, .mv (kb false), none⟩])
 .ret)
 .skip))
 (.seq (.seq (.reg false [⟨some 20, .mv (.t 0), none⟩])
 (.block 0 (.seq (.reg false [⟨some 22, .bin .eql (.t 20) (ki 4), none⟩, ⟨some 21, .mv (.t 22), none⟩])
 (.cond (.t 21)
 (.seq (.reg false [⟨some 23, .mv (.t 1), none⟩, ⟨some 24, .len (.t 23), none⟩, ⟨some 4, .mv (.t 24), none⟩, ⟨some 5, .mv (kb true), none⟩])
 .ret)
 (.seq (.reg false [⟨some 26, .bin .eql (.t 20) (ki 5), none⟩, ⟨some 25, .mv (.t 26), none⟩])
 (.cond (.t 25)
 (.seq (.reg false [⟨some 27, .mv (.t 1), none⟩, ⟨some 28, .call (kf 138) [(.t 27)], none⟩, ⟨some 29, .ex (.t 28) 0, none⟩, ⟨some 30, .ex (.t 28) 1, none⟩, ⟨some 4, .mv (.t 29), none⟩, ⟨some 5, .mv (.t 30), none⟩])
 .ret)
 .skip))))))
 (.seq (.reg false [⟨some 6, .mv (ki 0), none⟩])
 (.seq (.seq (.reg false [⟨some 31, .mv (.t 1), none⟩, ⟨some 32, .len (.t 31), none⟩, ⟨some 33, .mv (ki 0), none⟩])
 (.block 1 (.loop (.seq (.reg false [⟨some 34, .bin .lss (.t 33) (.t 32), none⟩])
 (.seq (.cond (.t 34)
 .skip
 (.exit 1))
 (.seq (.block 2 (.seq (.reg false [⟨some 35, .mv (.t 33), none⟩, ⟨some 36, .ia 2 (.t 31) (.t 33), none⟩, ⟨some 37, .ld true 2 (.t 36), none⟩, ⟨some 8, .alloc 33 2 [.int .i64 0, .int .i64 0], none⟩, ⟨some 7, .mv (.t 35), none⟩, ⟨none, .st 2 (.t 8) (.t 37), none⟩])
 (.seq (.reg false [⟨some 38, .mv (.t 7), none⟩, ⟨some 39, .bin .eql (.t 38) (ki 0), none⟩])
 (.cond (.t 39)
 (.reg false [⟨some 40, .fa 1 (.t 8), none⟩, ⟨some 41, .ld false 1 (.t 40), none⟩, ⟨some 6, .mv (.t 41), none⟩])
 (.reg false [⟨some 43, .mv (.t 0), none⟩, ⟨some 44, .mv (.t 6), none⟩, ⟨some 45, .fa 1 (.t 8), none⟩, ⟨some 46, .ld false 1 (.t 45), none⟩, ⟨some 47, .call (kf 139) [(.t 43), (.t 44), (.t 46)], none⟩, ⟨some 42, .mv (.t 47), none⟩, ⟨some 48, .ex (.t 42) 0, none⟩, ⟨some 49, .ex (.t 42) 1, none⟩, ⟨some 6, .mv (.t 48), none⟩])))))
 (.reg false [⟨some 50, .bin .add (.t 33) (ki 1), none⟩, ⟨some 33, .mv (.t 50), none⟩])))))))
 (.seq (.reg false [⟨some 51, .mv (.t 6), none⟩, ⟨some 52, .mv (.t 0), none⟩, ⟨some 53, .bin .eql (.t 52) (ki 1), none⟩, ⟨some 54, .mv (.t 53), none⟩, ⟨some 55, .mv (.t 1), some (54, false)⟩, ⟨some 56, .len (.t 55), some (54, false)⟩, ⟨some 57, .bin .gtr (.t 56) (ki 0), some (54, false)⟩, ⟨some 58, .pick (.t 54) (kb true) (.t 57), none⟩, ⟨some 4, .mv (.t 51), none⟩, ⟨some 5, .mv (.t 58), none⟩])
 .ret))))))
abbrev n_total_Of : Nat := 113
theorem F_total_Of : Fun Tryz.prog n_total_Of 59 c_total_Of [.t 4, .t 5] := ⟨⟨Tryz.f113, _, Tryz.func113, by kernel_rfl, rfl, rfl, by kernel_rfl, by kernel_rfl⟩⟩
/-- windrose/samples.Range -/
def c_samples_Range : C :=
 (.seq (.reg false [⟨some 6, .mv (.k (.one (.c (.v (.slice none 0 0))))), none⟩])
 (.seq (.seq (.reg false [⟨some 11, .mv (.t 0), none⟩, ⟨some 12, .call (kf 57) [(.t 11)], none⟩, ⟨some 13, .bin .neq (.t 12) (ki 0), none⟩])
 (.cond (.t 13)
 (.seq (.reg false [⟨some 6, .mv (.k (.one (.c (.v (.slice none 0 0))))), none⟩])
 .ret)
 .skip))
 (.seq (.reg false [⟨some 15, .mv (.t 0), none⟩, ⟨some 16, .mv (.t 1), none⟩, ⟨some 17, .call (kf 135) [(.t 15), (.t 16)], none⟩, ⟨some 14, .mv (.t 17), none⟩, ⟨some 18, .ex (.t 14) 0, none⟩, ⟨some 19, .ex (.t 14) 1, none⟩, ⟨some 7, .mv (.t 18), none⟩, ⟨some 8, .mv (.t 19), none⟩])
 (.seq (.reg false [⟨some 21, .mv (.t 0), none⟩, ⟨some 22, .mv (.t 2), none⟩, ⟨some 23, .call (kf 135) [(.t 21), (.t 22)], none⟩, ⟨some 20, .mv (.t 23), none⟩, ⟨some 24, .ex (.t 20) 0, none⟩, ⟨some 25, .ex (.t 20) 1, none⟩, ⟨some 9, .mv (.t 24), none⟩, ⟨some 10, .mv (.t 25), none⟩])
 (.seq (.reg false [⟨some 26, .mv (.t 0), none⟩, ⟨some 27, .mv (.t 7), none⟩, ⟨some 28, .mv (.t 7), none⟩, ⟨some 29, .mv (.t 9), none⟩, ⟨some 30, .mx (.t 28) (.t 29), none⟩, ⟨some 31, .slc 2 (.t 26) (some (.t 27)) (some (.t 30)), none⟩, ⟨some 32, .call (kf 87) [(.t 31)], none⟩, ⟨some 6, .mv (.t 32), none⟩])
 .ret)))))
abbrev n_samples_Range : Nat := 114
theorem F_samples_Range : Fun Tryz.prog n_samples_Range 33 c_samples_Range [.t 6] := ⟨⟨Tryz.f114, _, Tryz.func114, by kernel_rfl, rfl, rfl, by kernel_rfl, by kernel_rfl⟩⟩
/-- windrose/windroseref12.with -/
def c_windroseref12_with : C :=
 (.seq (.reg false [⟨some 3, .box 33 2 (.t 1), none⟩, ⟨some 4, .mv (.k (.one (.c (.v (.slice none 0 0))))), none⟩])
 (.seq (.reg false [⟨some 8, .bsl 33 2 0 [.int .i64 0, .int .i64 0] [], none⟩, ⟨some 5, .mv (.t 8), none⟩])
 (.seq (.reg false [⟨some 6, .mv (kb false), none⟩])
 (.seq (.seq (.reg false [⟨some 7, .mv (ki 0), none⟩])
 (.block 0 (.loop (.seq (.seq (.reg false [⟨some 9, .mv (.t 7), none⟩, ⟨some 10, .mv (.t 0), none⟩, ⟨some 11, .len (.t 10), none⟩, ⟨some 12, .bin .lss (.t 9) (.t 11), none⟩])
 (.cond (.t 12)
 .skip
 (.exit 0)))
 (.seq (.block 1 (.seq (.seq (.reg true [⟨some 15, .mv (.t 6), none⟩, ⟨some 16, .un .not (.t 15), none⟩, ⟨some 17, .mv (.t 16), none⟩, ⟨some 18, .mv (.t 0), some (17, true)⟩, ⟨some 19, .mv (.t 7), some (17, true)⟩, ⟨some 20, .ia 2 (.t 18) (.t 19), some (17, true)⟩, ⟨some 21, .fa 0 (.t 20), some (17, true)⟩, ⟨some 22, .ld false 1 (.t 21), some (17, true)⟩, ⟨some 23, .fa 0 (.t 3), some (17, true)⟩, ⟨some 24, .ld false 1 (.t 23), some (17, true)⟩, ⟨some 25, .bin .gtr (.t 22) (.t 24), some (17, true)⟩, ⟨some 26, .pick (.t 17) (.t 25) (kb false), none⟩])
 (.cond (.t 26)
 (.seq (.reg false [⟨some 27, .mv (.t 5), none⟩, ⟨some 28, .ld true 2 (.t 3), none⟩, ⟨some 29, .bsl 33 2 1 [.int .i64 0, .int .i64 0] [(0, (.t 28))], none⟩, ⟨some 30, .app 33 2 16 [.int .i64 0, .int .i64 0] (.t 27) (.t 29), none⟩, ⟨some 5, .mv (.t 30), none⟩])
 (.reg false [⟨some 6, .mv (kb true), none⟩]))
 .skip))
 (.reg false [⟨some 31, .mv (.t 5), none⟩, ⟨some 32, .mv (.t 0), none⟩, ⟨some 33, .mv (.t 7), none⟩, ⟨some 34, .ia 2 (.t 32) (.t 33), none⟩, ⟨some 35, .ld true 2 (.t 34), none⟩, ⟨some 36, .bsl 33 2 1 [.int .i64 0, .int .i64 0] [(0, (.t 35))], none⟩, ⟨some 37, .app 33 2 16 [.int .i64 0, .int .i64 0] (.t 31) (.t 36), none⟩, ⟨some 5, .mv (.t 37), none⟩])))
 (.reg false [⟨some 13, .mv (.t 7), none⟩, ⟨some 14, .bin .add (.t 13) (ki 1), none⟩, ⟨some 7, .mv (.t 14), none⟩]))))))
 (.seq (.seq (.reg false [⟨some 38, .mv (.t 6), none⟩, ⟨some 39, .un .not (.t 38), none⟩])
 (.cond (.t 39)
 (.reg false [⟨some 40, .mv (.t 5), none⟩, ⟨some 41, .ld true 2 (.t 3), none⟩, ⟨some 42, .bsl 33 2 1 [.int .i64 0, .int .i64 0] [(0, (.t 41))], none⟩, ⟨some 43, .app 33 2 16 [.int .i64 0, .int .i64 0] (.t 40) (.t 42), none⟩, ⟨some 5, .mv (.t 43), none⟩])
 .skip))
 (.seq (.reg false [⟨some 44, .mv (.t 5), none⟩, ⟨some 4, .mv (.t 44), none⟩])
 .ret))))))
abbrev n_windroseref12_with : Nat := 128
theorem F_windroseref12_with : Fun Tryz.prog n_windroseref12_with 45 c_windroseref12_with [.t 4] := ⟨⟨Tryz.f128, _, Tryz.func128, by kernel_rfl, rfl, rfl, by kernel_rfl, by kernel_rfl⟩⟩
/-- slices.BinarySearchFunc[[]windrose/api.Line,windrose/api.Line,string] -/
def c_slices_BinarySearchFunc_api_Line_api_Line_string : C :=
 (.seq (.reg false [⟨some 6, .mv (ki 0), none⟩, ⟨some 7, .mv (kb false), none⟩])
 (.seq (.reg false [⟨some 12, .mv (.t 0), none⟩, ⟨some 13, .len (.t 12), none⟩, ⟨some 8, .mv (.t 13), none⟩])
 (.seq (.reg false [⟨some 14, .mv (.t 8), none⟩, ⟨some 9, .mv (ki 0), none⟩, ⟨some 10, .mv (.t 14), none⟩])
 (.seq (.block 0 (.loop (.seq (.seq (.reg false [⟨some 15, .mv (.t 9), none⟩, ⟨some 16, .mv (.t 10), none⟩, ⟨some 17, .bin .lss (.t 15) (.t 16), none⟩])
 (.cond (.t 17)
 .skip
 (.exit 0)))
 (.block 1 (.seq (.reg false [⟨some 18, .mv (.t 9), none⟩, ⟨some 19, .mv (.t 10), none⟩, ⟨some 20, .bin .add (.t 18) (.t 19), none⟩, ⟨some 21, .cvi .u64 (.t 20), none⟩, ⟨some 22, .bin .shr (.t 21) (.k (.one (.c (.v (.int .u64 1))))), none⟩, ⟨some 23, .cvi .i64 (.t 22), none⟩, ⟨some 11, .mv (.t 23), none⟩])
 (.seq (.reg false [⟨some 24, .mv (.t 2), none⟩, ⟨some 25, .mv (.t 0), none⟩, ⟨some 26, .mv (.t 11), none⟩, ⟨some 27, .ia 2 (.t 25) (.t 26), none⟩, ⟨some 28, .ld true 2 (.t 27), none⟩, ⟨some 29, .mv (.t 1), none⟩, ⟨some 30, .call (.t 24) [(.t 28), (.t 29)], none⟩, ⟨some 31, .bin .lss (.t 30) (ki 0), none⟩])
 (.cond (.t 31)
 (.reg false [⟨some 32, .mv (.t 11), none⟩, ⟨some 33, .bin .add (.t 32) (ki 1), none⟩, ⟨some 9, .mv (.t 33), none⟩])
 (.reg false [⟨some 34, .mv (.t 11), none⟩, ⟨some 10, .mv (.t 34), none⟩]))))))))
 (.seq (.reg false [⟨some 35, .mv (.t 9), none⟩, ⟨some 36, .mv (.t 9), none⟩, ⟨some 37, .mv (.t 8), none⟩, ⟨some 38, .bin .lss (.t 36) (.t 37), none⟩, ⟨some 39, .mv (.t 38), none⟩, ⟨some 40, .mv (.t 2), some (39, true)⟩, ⟨some 41, .mv (.t 0), some (39, true)⟩, ⟨some 42, .mv (.t 9), some (39, true)⟩, ⟨some 43, .ia 2 (.t 41) (.t 42), some (39, true)⟩, ⟨some 44, .ld true 2 (.t 43), some (39, true)⟩, ⟨some 45, .mv (.t 1), some (39, true)⟩, ⟨some 46, .call (.t 40) [(.t 44), (.t 45)], some (39, true)⟩, ⟨some 47, .bin .eql (.t 46) (ki 0), some (39, true)⟩, ⟨some 48, .pick (.t 39) (.t 47) (kb false), none⟩, ⟨some 6, .mv (.t 35), none⟩, ⟨some 7, .mv (.t 48), none⟩])
 .ret)))))
abbrev n_slices_BinarySearchFunc_api_Line_api_Line_string : Nat := 131
theorem F_slices_BinarySearchFunc_api_Line_api_Line_string : Fun Tryz.prog n_slices_BinarySearchFunc_api_Line_api_Line_string 49 c_slices_BinarySearchFunc_api_Line_api_Line_string [.t 6, .t 7] := ⟨⟨Tryz.f131, _, Tryz.func131, by kernel_rfl, rfl, rfl, by kernel_rfl, by kernel_rfl⟩⟩
/-- windrose/shelf.line$1 -/
def c_shelf_line_1 : C :=
 (.seq (.reg false [⟨some 2, .box 49 2 (.t 0), none⟩, ⟨some 4, .mv (ki 0), none⟩])
 (.seq (.reg false [⟨some 5, .fa 0 (.t 2), none⟩, ⟨some 6, .ld false 1 (.t 5), none⟩, ⟨some 7, .mv (.t 1), none⟩, ⟨some 8, .call (kf 122) [(.t 6), (.t 7)], none⟩, ⟨some 4, .mv (.t 8), none⟩])
 .ret))
abbrev n_shelf_line_1 : Nat := 132
theorem F_shelf_line_1 : Fun Tryz.prog n_shelf_line_1 9 c_shelf_line_1 [.t 4] := ⟨⟨Tryz.f132, _, Tryz.func132, by kernel_rfl, rfl, rfl, by kernel_rfl, by kernel_rfl⟩⟩
/-- windrose/samples.at -/
def c_samples_at : C :=
 (.seq (.reg false [⟨some 4, .mv (ki 0), none⟩, ⟨some 5, .mv (kb false), none⟩])
 (.seq (.reg false [⟨some 6, .mv (.t 0), none⟩, ⟨some 7, .mv (.t 1), none⟩, ⟨some 8, .call (kf 150) [(.t 6), (.t 7), (kf 151)], none⟩, ⟨some 9, .ex (.t 8) 0, none⟩, ⟨some 10, .ex (.t 8) 1, none⟩, ⟨some 4, .mv (.t 9), none⟩, ⟨some 5, .mv (.t 10), none⟩])
 .ret))
abbrev n_samples_at : Nat := 135
theorem F_samples_at : Fun Tryz.prog n_samples_at 11 c_samples_at [.t 4, .t 5] := ⟨⟨Tryz.f135, _, Tryz.func135, by kernel_rfl, rfl, rfl, by kernel_rfl, by kernel_rfl⟩⟩
/-- slices.Insert[[]windrose/api.Sample,windrose/api.Sample] -/
def c_slices_Insert_api_Sample_api_Sample : C :=
 (.seq (.reg false [⟨some 6, .mv (.k (.one (.c (.v (.slice none 0 0))))), none⟩])
 (.seq (.reg false [⟨some 10, .mv (.t 0), none⟩, ⟨some 11, .mv (.t 1), none⟩, ⟨some 12, .slc 2 (.t 10) (some (.t 11)) none, none⟩])
 (.seq (.reg false [⟨some 13, .mv (.t 2), none⟩, ⟨some 14, .len (.t 13), none⟩, ⟨some 7, .mv (.t 14), none⟩])
 (.seq (.seq (.reg false [⟨some 15, .mv (.t 7), none⟩, ⟨some 16, .bin .eql (.t 15) (ki 0), none⟩])
 (.cond (.t 16)
 (.seq (.reg false [⟨some 17, .mv (.t 0), none⟩, ⟨some 6, .mv (.t 17), none⟩])
 .ret)
 .skip))
 (.seq (.reg false [⟨some 18, .mv (.t 0), none⟩, ⟨some 19, .len (.t 18), none⟩, ⟨some 8, .mv (.t 19), none⟩])
 (.seq (.seq (.reg false [⟨some 20, .mv (.t 1), none⟩, ⟨some 21, .mv (.t 8), none⟩, ⟨some 22, .bin .eql (.t 20) (.t 21), none⟩])
 (.cond (.t 22)
 (.seq (.reg false [⟨some 23, .mv (.t 0), none⟩, ⟨some 24, .mv (.t 2), none⟩, ⟨some 25, .app 33 2 16 [.int .i64 0, .int .i64 0] (.t 23) (.t 24), none⟩, ⟨some 6, .mv (.t 25), none⟩])
 .ret)
 .skip))
 (.seq (.seq (.reg false [⟨some 26, .mv (.t 8), none⟩, ⟨some 27, .mv (.t 7), none⟩, ⟨some 28, .bin .add (.t 26) (.t 27), none⟩, ⟨some 29, .mv (.t 0), none⟩, ⟨some 30, .cap (.t 29), none⟩, ⟨some 31, .bin .gtr (.t 28) (.t 30), none⟩])
 (.cond (.t 31)
 (.seq (.reg false [⟨some 32, .mv (.t 0), none⟩, ⟨some 33, .mv (.t 1), none⟩, ⟨some 34, .slc 2 (.t 32) none (some (.t 33)), none⟩, ⟨some 35, .mv (.t 8), none⟩, ⟨some 36, .mv (.t 7), none⟩, ⟨some 37, .bin .add (.t 35) (.t 36), none⟩, ⟨some 38, .mv (.t 1), none⟩, ⟨some 39, .bin .sub (.t 37) (.t 38), none⟩, ⟨some 40, .apz 33 2 16 [.int .i64 0, .int .i64 0] (.t 34) (.t 39), none⟩, ⟨some 9, .mv (.t 40), none⟩])
 (.seq (.reg false [⟨some 41, .mv (.t 9), none⟩, ⟨some 42, .mv (.t 1), none⟩, ⟨some 43, .slc 2 (.t 41) (some (.t 42)) none, none⟩, ⟨some 44, .mv (.t 2), none⟩, ⟨some 45, .cpy 2 (.t 43) (.t 44), none⟩])
 (.seq (.reg true [⟨some 46, .mv (.t 9), none⟩, ⟨some 47, .mv (.t 1), none⟩, ⟨some 48, .mv (.t 7), none⟩, ⟨some 49, .bin .add (.t 47) (.t 48), none⟩, ⟨some 50, .slc 2 (.t 46) (some (.t 49)) none, none⟩, ⟨some 51, .mv (.t 0), none⟩, ⟨some 52, .mv (.t 1), none⟩, ⟨some 53, .slc 2 (.t 51) (some (.t 52)) none, none⟩, ⟨some 54, .cpy 2 (.t 50) (.t 53), none⟩])
 (.seq (.reg false [⟨some 55, .mv (.t 9), none⟩, ⟨some 6, .mv (.t 55), none⟩])
 .ret))))
 .skip))
 (.seq (.reg false [⟨some 56, .mv (.t 0), none⟩, ⟨some 57, .mv (.t 8), none⟩, ⟨some 58, .mv (.t 7), none⟩, ⟨some 59, .bin .add (.t 57) (.t 58), none⟩, ⟨some 60, .slc 2 (.t 56) none (some (.t 59)), none⟩, ⟨some 0, .mv (.t 60), none⟩])
 (.seq (.seq (.reg false [⟨some 61, .mv (.t 2), none⟩, ⟨some 62, .mv (.t 0), none⟩, ⟨some 63, .mv (.t 1), none⟩, ⟨some 64, .mv (.t 7), none⟩, ⟨some 65, .bin .add (.t 63) (.t 64), none⟩, ⟨some 66, .slc 2 (.t 62) (some (.t 65)) none, none⟩, ⟨some 67, .call (kf 152) [(.t 61), (.t 66)], none⟩, ⟨some 68, .un .not (.t 67), none⟩])
 (.cond (.t 68)
 (.seq (.reg true [⟨some 69, .mv (.t 0), none⟩, ⟨some 70, .mv (.t 1), none⟩, ⟨some 71, .mv (.t 7), none⟩, ⟨some 72, .bin .add (.t 70) (.t 71), none⟩, ⟨some 73, .slc 2 (.t 69) (some (.t 72)) none, none⟩, ⟨some 74, .mv (.t 0), none⟩, ⟨some 75, .mv (.t 1), none⟩, ⟨some 76, .slc 2 (.t 74) (some (.t 75)) none, none⟩, ⟨some 77, .cpy 2 (.t 73) (.t 76), none⟩])
 (.seq (.reg false [⟨some 78, .mv (.t 0), none⟩, ⟨some 79, .mv (.t 1), none⟩, ⟨some 80, .slc 2 (.t 78) (some (.t 79)) none, none⟩, ⟨some 81, .mv (.t 2), none⟩, ⟨some 82, .cpy 2 (.t 80) (.t 81), none⟩])
 (.seq (.reg false [⟨some 83, .mv (.t 0), none⟩, ⟨some 6, .mv (.t 83), none⟩])
 .ret)))
 .skip))
 (.seq (.reg false [⟨some 84, .mv (.t 0), none⟩, ⟨some 85, .mv (.t 8), none⟩, ⟨some 86, .slc 2 (.t 84) (some (.t 85)) none, none⟩, ⟨some 87, .mv (.t 2), none⟩, ⟨some 88, .cpy 2 (.t 86) (.t 87), none⟩])
 (.seq (.reg false [⟨some 89, .mv (.t 0), none⟩, ⟨some 90, .mv (.t 1), none⟩, ⟨some 91, .slc 2 (.t 89) (some (.t 90)) none, none⟩, ⟨some 92, .mv (.t 7), none⟩, ⟨some 93, .call (kf 153) [(.t 91), (.t 92)], none⟩])
 (.seq (.reg false [⟨some 94, .mv (.t 0), none⟩, ⟨some 6, .mv (.t 94), none⟩])
 .ret))))))))))))
abbrev n_slices_Insert_api_Sample_api_Sample : Nat := 136
theorem F_slices_Insert_api_Sample_api_Sample : Fun Tryz.prog n_slices_Insert_api_Sample_api_Sample 95 c_slices_Insert_api_Sample_api_Sample [.t 6] := ⟨⟨Tryz.f136, _, Tryz.func136, by kernel_rfl, rfl, rfl, by kernel_rfl, by kernel_rfl⟩⟩
/-- slices.IndexFunc[[]windrose/api.Line,windrose/api.Line] -/
def c_slices_IndexFunc_api_Line_api_Line : C :=
 (.seq (.reg false [⟨some 4, .mv (ki 0), none⟩])
 (.seq (.seq (.reg false [⟨some 6, .mv (.t 0), none⟩, ⟨some 7, .len (.t 6), none⟩, ⟨some 8, .mv (ki 0), none⟩])
 (.block 0 (.loop (.seq (.reg false [⟨some 9, .bin .lss (.t 8) (.t 7), none⟩])
 (.seq (.cond (.t 9)
 .skip
 (.exit 0))
 (.seq (.block 1 (.seq (.reg false [⟨some 10, .mv (.t 8), none⟩, ⟨some 5, .mv (.t 10), none⟩])
 (.seq (.reg false [⟨some 11, .mv (.t 1), none⟩, ⟨some 12, .mv (.t 0), none⟩, ⟨some 13, .mv (.t 5), none⟩, ⟨some 14, .ia 2 (.t 12) (.t 13), none⟩, ⟨some 15, .ld true 2 (.t 14), none⟩, ⟨some 16, .call (.t 11) [(.t 15)], none⟩])
 (.cond (.t 16)
 (.seq (.reg false [⟨some 17, .mv (.t 5), none⟩, ⟨some 4, .mv (.t 17), none⟩])
 .ret)
 .skip))))
 (.reg false [⟨some 18, .bin .add (.t 8) (ki 1), none⟩, ⟨some 8, .mv (.t 18), none⟩])))))))
 (.seq (.reg false [⟨some 4, .mv (ki (-1)), none⟩])
 .ret)))
abbrev n_slices_IndexFunc_api_Line_api_Line : Nat := 137
theorem F_slices_IndexFunc_api_Line_api_Line : Fun Tryz.prog n_slices_IndexFunc_api_Line_api_Line 19 c_slices_IndexFunc_api_Line_api_Line [.t 4] := ⟨⟨Tryz.f137, _, Tryz.func137, by kernel_rfl, rfl, rfl, by kernel_rfl, by kernel_rfl⟩⟩
/-- windrose/total.rate -/
def c_total_rate : C :=
 (.seq (.reg false [⟨some 2, .mv (ki 0), none⟩, ⟨some 3, .mv (kb false), none⟩])
 (.seq (.seq (.reg false [⟨some 7, .mv (.t 0), none⟩, ⟨some 8, .len (.t 7), none⟩, ⟨some 9, .bin .lss (.t 8) (ki 2), none⟩])
 (.cond (.t 9)
 (.seq (.reg false [⟨some 2, .mv (ki 0), none⟩, ⟨some 3, .mv (kb false), none⟩])
 .ret)
 .skip))
 (.seq (.reg false [⟨some 4, .mv (ki 0), none⟩])
 (.seq (.seq (.reg false [⟨some 5, .mv (ki 1), none⟩])
 (.block 0 (.loop (.seq (.seq (.reg false [⟨some 10, .mv (.t 5), none⟩, ⟨some 11, .mv (.t 0), none⟩, ⟨some 12, .len (.t 11), none⟩, ⟨some 13, .bin .lss (.t 10) (.t 12), none⟩])
 (.cond (.t 13)
 .skip
 (.exit 0)))
 (.seq (.block 1 (.seq (.reg true [⟨some 16, .mv (.t 0), none⟩, ⟨some 17, .mv (.t 5), none⟩, ⟨some 18, .ia 2 (.t 16) (.t 17), none⟩, ⟨some 19, .fa 1 (.t 18), none⟩, ⟨some 20, .ld false 1 (.t 19), none⟩, ⟨some 21, .mv (.t 0), none⟩, ⟨some 22, .mv (.t 5), none⟩, ⟨some 23, .bin .sub (.t 22) (ki 1), none⟩, ⟨some 24, .ia 2 (.t 21) (.t 23), none⟩, ⟨some 25, .fa 1 (.t 24), none⟩, ⟨some 26, .ld false 1 (.t 25), none⟩, ⟨some 27, .bin .sub (.t 20) (.t 26), none⟩, ⟨some 6, .mv (.t 27), none⟩])
 (.seq (.reg false [⟨some 28, .mv (.t 6), none⟩, ⟨some 29, .bin .geq (.t 28) (ki 0), none⟩])
 (.cond (.t 29)
 (.reg false [⟨some 30, .mv (.t 4), none⟩, ⟨some 31, .mv (.t 6), none⟩, ⟨some 32, .bin .add (.t 30) (.t 31), none⟩, ⟨some 4, .mv (.t 32), none⟩])
 (.reg false [⟨some 33, .mv (.t 4), none⟩, ⟨some 34, .mv (.t 0), none⟩, ⟨some 35, .mv (.t 5), none⟩, ⟨some 36, .ia 2 (.t 34) (.t 35), none⟩, ⟨some 37, .fa 1 (.t 36), none⟩, ⟨some 38, .ld false 1 (.t 37), none⟩, ⟨some 39, .mx (ki 0) (.t 38), none⟩, ⟨some 40, .bin .add (.t 33) (.t 39), none⟩, ⟨some 4, .mv (.t 40), none⟩])))))
 (.reg false [⟨some 14, .mv (.t 5), none⟩, ⟨some 15, .bin .add (.t 14) (ki 1), none⟩, ⟨some 5, .mv (.t 15), none⟩]))))))
 (.seq (.reg true [⟨some 41, .mv (.t 4), none⟩, ⟨some 42, .bin .mul (.t 41) (ki 60), none⟩, ⟨some 43, .mv (.t 0), none⟩, ⟨some 44, .mv (.t 0), none⟩, ⟨some 45, .len (.t 44), none⟩, ⟨some 46, .bin .sub (.t 45) (ki 1), none⟩, ⟨some 47, .ia 2 (.t 43) (.t 46), none⟩, ⟨some 48, .fa 0 (.t 47), none⟩, ⟨some 49, .ld false 1 (.t 48), none⟩, ⟨some 50, .mv (.t 0), none⟩, ⟨some 51, .ia 2 (.t 50) (ki 0), none⟩, ⟨some 52, .fa 0 (.t 51), none⟩, ⟨some 53, .ld false 1 (.t 52), none⟩, ⟨some 54, .bin .sub (.t 49) (.t 53), none⟩, ⟨some 55, .bin .quo (.t 42) (.t 54), none⟩, ⟨some 2, .mv (.t 55), none⟩, ⟨some 3, .mv (kb true), none⟩])
 .ret)))))
abbrev n_total_rate : Nat := 138
theorem F_total_rate : Fun Tryz.prog n_total_rate 56 c_total_rate [.t 2, .t 3] := ⟨⟨Tryz.f138, _, Tryz.func138, by kernel_rfl, rfl, rfl, by kernel_rfl, by kernel_rfl⟩⟩
/-- windrose/total.Fold -/
def c_total_Fold : C :=
 (.seq (.reg false [⟨some 6, .mv (ki 0), none⟩, ⟨some 7, .mv (kb false), none⟩])
 (.seq (.seq (.reg false [⟨some 8, .mv (.t 1), none⟩, ⟨some 9, .mv (.t 2), none⟩, ⟨some 10, .mn (.t 8) (.t 9), none⟩, ⟨some 11, .bin .lss (.t 10) (ki (-9007199254740992)), none⟩, ⟨some 12, .mv (.t 11), none⟩, ⟨some 13, .mv (.t 1), some (12, false)⟩, ⟨some 14, .mv (.t 2), some (12, false)⟩, ⟨some 15, .mx (.t 13) (.t 14), some (12, false)⟩, ⟨some 16, .bin .gtr (.t 15) (ki 9007199254740992), some (12, false)⟩, ⟨some 17, .pick (.t 12) (kb true) (.t 16), none⟩])
 (.cond (.t 17)
 (.seq (.reg false [⟨some 6, .mv (ki 0), none⟩, ⟨some 7, .mv (kb false), none⟩])
 .ret)
 .skip))
 (.seq (.seq (.reg false [⟨some 18, .mv (.t 0), none⟩])
 (.block 0 (.seq (.seq (.reg false [⟨some 20, .bin .eql (.t 18) (ki 1), none⟩, ⟨some 19, .mv (.t 20), none⟩])
 (.cond (.t 19)
 .skip
 (.reg false [⟨some 21, .bin .eql (.t 18) (ki 4), none⟩, ⟨some 19, .mv (.t 21), none⟩])))
 (.cond (.t 19)
 (.seq (.reg false [⟨some 22, .mv (.t 1), none⟩, ⟨some 23, .mv (.t 2), none⟩, ⟨some 24, .bin .add (.t 22) (.t 23), none⟩, ⟨some 6, .mv (.t 24), none⟩, ⟨some 7, .mv (kb true), none⟩])
 .ret)
 (.seq (.reg false [⟨some 26, .bin .eql (.t 18) (ki 2), none⟩, ⟨some 25, .mv (.t 26), none⟩])
 (.cond (.t 25)
 (.seq (.reg false [⟨some 27, .mv (.t 1), none⟩, ⟨some 28, .mv (.t 2), none⟩, ⟨some 29, .mn (.t 27) (.t 28), none⟩, ⟨some 6, .mv (.t 29), none⟩, ⟨some 7, .mv (kb true), none⟩])
 .ret)
 (.seq (.reg false [⟨some 31, .bin .eql (.t 18) (ki 3), none⟩, ⟨some 30, .mv (.t 31), none⟩])
 (.cond (.t 30)
 (.seq (.reg false [⟨some 32, .mv (.t 1), none⟩, ⟨some 33, .mv (.t 2), none⟩, ⟨some 34, .mx (.t 32) (.t 33), none⟩, ⟨some 6, .mv (.t 34), none⟩, ⟨some 7, .mv (kb true), none⟩])
 .ret)
 .skip))))))))
 (.seq (.reg false [⟨some 6, .mv (ki 0), none⟩, ⟨some 7, .mv (kb false), none⟩])
 .ret))))
abbrev n_total_Fold : Nat := 139
theorem F_total_Fold : Fun Tryz.prog n_total_Fold 35 c_total_Fold [.t 6, .t 7] := ⟨⟨Tryz.f139, _, Tryz.func139, by kernel_rfl, rfl, rfl, by kernel_rfl, by kernel_rfl⟩⟩
/-- slices.BinarySearchFunc[[]windrose/api.Sample,windrose/api.Sample,int] -/
def c_slices_BinarySearchFunc_api_Sample_api_Sample_int : C :=
 (.seq (.reg false [⟨some 6, .mv (ki 0), none⟩, ⟨some 7, .mv (kb false), none⟩])
 (.seq (.reg false [⟨some 12, .mv (.t 0), none⟩, ⟨some 13, .len (.t 12), none⟩, ⟨some 8, .mv (.t 13), none⟩])
 (.seq (.reg false [⟨some 14, .mv (.t 8), none⟩, ⟨some 9, .mv (ki 0), none⟩, ⟨some 10, .mv (.t 14), none⟩])
 (.seq (.block 0 (.loop (.seq (.seq (.reg false [⟨some 15, .mv (.t 9), none⟩, ⟨some 16, .mv (.t 10), none⟩, ⟨some 17, .bin .lss (.t 15) (.t 16), none⟩])
 (.cond (.t 17)
 .skip
 (.exit 0)))
 (.block 1 (.seq (.reg false [⟨some 18, .mv (.t 9), none⟩, ⟨some 19, .mv (.t 10), none⟩, ⟨some 20, .bin .add (.t 18) (.t 19), none⟩, ⟨some 21, .cvi .u64 (.t 20), none⟩, ⟨some 22, .bin .shr (.t 21) (.k (.one (.c (.v (.int .u64 1))))), none⟩, ⟨some 23, .cvi .i64 (.t 22), none⟩, ⟨some 11, .mv (.t 23), none⟩])
 (.seq (.reg false [⟨some 24, .mv (.t 2), none⟩, ⟨some 25, .mv (.t 0), none⟩, ⟨some 26, .mv (.t 11), none⟩, ⟨some 27, .ia 2 (.t 25) (.t 26), none⟩, ⟨some 28, .ld true 2 (.t 27), none⟩, ⟨some 29, .mv (.t 1), none⟩, ⟨some 30, .call (.t 24) [(.t 28), (.t 29)], none⟩, ⟨some 31, .bin .lss (.t 30) (ki 0), none⟩])
 (.cond (.t 31)
 (.reg false [⟨some 32, .mv (.t 11), none⟩, ⟨some 33, .bin .add (.t 32) (ki 1), none⟩, ⟨some 9, .mv (.t 33), none⟩])
 (.reg false [⟨some 34, .mv (.t 11), none⟩, ⟨some 10, .mv (.t 34), none⟩]))))))))
 (.seq (.reg false [⟨some 35, .mv (.t 9), none⟩, ⟨some 36, .mv (.t 9), none⟩, ⟨some 37, .mv (.t 8), none⟩, ⟨some 38, .bin .lss (.t 36) (.t 37), none⟩, ⟨some 39, .mv (.t 38), none⟩, ⟨some 40, .mv (.t 2), some (39, true)⟩, ⟨some 41, .mv (.t 0), some (39, true)⟩, ⟨some 42, .mv (.t 9), some (39, true)⟩, ⟨some 43, .ia 2 (.t 41) (.t 42), some (39, true)⟩, ⟨some 44, .ld true 2 (.t 43), some (39, true)⟩, ⟨some 45, .mv (.t 1), some (39, true)⟩, ⟨some 46, .call (.t 40) [(.t 44), (.t 45)], some (39, true)⟩, ⟨some 47, .bin .eql (.t 46) (ki 0), some (39, true)⟩, ⟨some 48, .pick (.t 39) (.t 47) (kb false), none⟩, ⟨some 6, .mv (.t 35), none⟩, ⟨some 7, .mv (.t 48), none⟩])
 .ret)))))
abbrev n_slices_BinarySearchFunc_api_Sample_api_Sample_int : Nat := 150
theorem F_slices_BinarySearchFunc_api_Sample_api_Sample_int : Fun Tryz.prog n_slices_BinarySearchFunc_api_Sample_api_Sample_int 49 c_slices_BinarySearchFunc_api_Sample_api_Sample_int [.t 6, .t 7] := ⟨⟨Tryz.f150, _, Tryz.func150, by kernel_rfl, rfl, rfl, by kernel_rfl, by kernel_rfl⟩⟩
/-- windrose/samples.at$1 -/
def c_samples_at_1 : C :=
 (.seq (.reg false [⟨some 2, .box 33 2 (.t 0), none⟩, ⟨some 4, .mv (ki 0), none⟩])
 (.seq (.reg false [⟨some 5, .fa 0 (.t 2), none⟩, ⟨some 6, .ld false 1 (.t 5), none⟩, ⟨some 7, .mv (.t 1), none⟩, ⟨some 8, .call (kf 93) [(.t 6), (.t 7)], none⟩, ⟨some 4, .mv (.t 8), none⟩])
 .ret))
abbrev n_samples_at_1 : Nat := 151
theorem F_samples_at_1 : Fun Tryz.prog n_samples_at_1 9 c_samples_at_1 [.t 4] := ⟨⟨Tryz.f151, _, Tryz.func151, by kernel_rfl, rfl, rfl, by kernel_rfl, by kernel_rfl⟩⟩
end Go.Proofs.YtcmkhlfjcdchmaaGreat.A
end
section
namespace Go.Proofs.YtcmkhlfjcdchmaaGreat.A
open Go Go.Proofs.YtcmkhlfjcdchmaaGreatAbs
structure Smp where
  t : Int
  v : Int
instance : Inhabited Smp := ⟨⟨0, 0⟩⟩
instance : DecidableEq Smp := fun a b => if h : a.t = b.t ∧ a.v = b.v then isTrue (by cases a; cases b; simp_all) else isFalse (fun e => h (by rw [e]; exact ⟨rfl, rfl⟩))
@[go_sem] def Smp.c (x : Smp) : Nat → CV
  | 0 => .v (.int .i64 x.t)
  | _ => .v (.int .i64 x.v)
abbrev smpCV (l : List Smp) : CV := immL 2 Smp.c l
abbrev smpL (l : List Smp) : Pt := .one (.c (smpCV l))
abbrev smpA (s : Smp) : Pt := .agg [.c (.v (.int .i64 s.t)), .c (.v (.int .i64 s.v))]
def smOk (s : Smp) : Bool := decide (0 ≤ s.t) && decide (s.t ≤ 1099511627776) && decide (-1099511627776 ≤ s.v) && decide (s.v ≤ 1099511627776)
def smAt (l : List Smp) (i : Nat) : Bool := smOk (l.getD i default) && (i == 0 || decide ((l.getD (i - 1) default).t < (l.getD i default).t))
def smsOk (l : List Smp) : Bool := decide (l.length ≤ 64) && (List.range l.length).all (smAt l)
theorem all_f {n k : Nat} {p : Nat → Bool} (hk : k < n) (h : p k = false) : (List.range n).all p = false := by
  rw [List.all_eq_false]
  exact ⟨k, List.mem_range.2 hk, by simp [h]⟩
theorem all_t {n : Nat} {p : Nat → Bool} (h : ∀ i, i < n → p i = true) : (List.range n).all p = true := by
  rw [List.all_eq_true]
  exact fun i hi => h i (List.mem_range.1 hi)
theorem smsOk_f {l : List Smp} {k : Nat} (hk : k < l.length) (h : smAt l k = false) : smsOk l = false := by rw [smsOk, all_f hk h, Bool.and_false]
theorem smsOk_t {l : List Smp} (h : ∀ i, i < l.length → smAt l i = true) : smsOk l = decide (l.length ≤ 64) := by rw [smsOk, all_t h, Bool.and_true]
theorem wpr {k : Nat} (h0 : 0 < k) (hk : k ≤ 140737488355328) : (IntKind.i64.wrap ((k : Int) - 1)).toNat = k - 1 := by rw [w64p h0 (by omega)]; rfl
theorem smAt_key (l : List Smp) {k : Nat} (hk : k ≤ 140737488355328) : (decide ((l.getD k default).t < 0) || decide (1099511627776 < (l.getD k default).t) || decide ((l.getD k default).v < -1099511627776) || decide (1099511627776 < (l.getD k default).v) || decide (0 < (k : Int)) && decide ((l.getD k default).t ≤ (l.getD (IntKind.i64.wrap ((k : Int) - 1)).toNat default).t)) = !smAt l k := by
  unfold smAt smOk
  rw [Bool.eq_iff_iff]
  by_cases h0 : k = 0
  · subst h0
    simp only [Bool.or_eq_true, Bool.and_eq_true, Bool.not_eq_true', Bool.and_eq_false_iff, Bool.or_eq_false_iff, decide_eq_true_eq, decide_eq_false_iff_not]
    simp
  · rw [wpr (by omega) hk]
    have e : (k == 0) = false := by simpa using h0
    simp only [e, Bool.false_or, Bool.or_eq_true, Bool.and_eq_true, Bool.not_eq_true', Bool.and_eq_false_iff, Bool.or_eq_false_iff, decide_eq_true_eq, decide_eq_false_iff_not]
    omega
set_option maxRecDepth 20000 in
theorem bCheck_rc (l : List Smp) (hl : l.length ≤ 140737488355328) (M : List Blk) : CallR Tryz.prog M n_block_Check [smpL l] (.i (if smsOk l then 0 else 1)) M := by
  refine callP F_block_Check (Nat.le_of_ble_eq_true rfl) (by simp only [go_sem]) (by simp only [go_sem]) ?_ M
  simp only [c_block_Check, go_sem]
  refine ⟨fun hc => ?_, fun hc => ?_⟩
  · rw [smsOk, decide_eq_false (by omega), Bool.false_and]; rfl
  refine V_loop (ι := Nat) (J := fun k => k ≤ l.length ∧ ∀ i, i < k → smAt l i = true) (env := fun k => [(0, .p (smpL l)), (8, .p (smpL l)), (9, .i l.length), (10, .i k)]) (mem := fun _ => []) (μ := fun k => l.length - k) 0 ⟨Nat.zero_le _, fun j hj => by omega⟩ (into0 (by simp only [go_sem])) ?_
  rintro k ⟨hk, hok⟩
  simp only [go_sem]
  rw [smAt_key l (by omega)]
  refine ⟨fun h1 => ⟨by omega, fun hc => ?_, fun hc => ?_, fun hc => ⟨k + 1, ⟨by omega, fun j hj => ?_⟩, by omega, into0 ?_⟩⟩, fun h1 => ?_⟩
  · have hc := (Bool.and_eq_true_iff.1 hc).2
    rw [w64p (by simpa using hc) (by omega)]
    omega
  · rw [smsOk_f h1 (by simpa using hc)]; rfl
  · by_cases e : j = k
    · subst e; simpa using hc
    · exact hok j (by omega)
  · simp only [go_sem, w64s (show k < 9223372036854775807 by omega)]
  · rw [smsOk_t (fun i hi => hok i (by omega)), decide_eq_true (by omega)]; rfl
set_option maxRecDepth 20000 in
theorem rMay_rc (l : List Smp) (hl : l.length ≤ 140737488355328) (M : List Blk) : CallR Tryz.prog M n_windroseref11_May [smpL l] (.b (smsOk l)) M := by
  refine callP F_windroseref11_May (Nat.le_of_ble_eq_true rfl) (by simp only [go_sem]) (by simp only [go_sem]) ?_ M
  simp only [c_windroseref11_May, go_sem]
  refine V_loop (ι := Nat) (J := fun k => k ≤ l.length ∧ ∀ i, i < k → smAt l i = true) (env := fun k => [(0, .p (smpL l)), (3, .i k)]) (mem := fun _ => []) (μ := fun k => l.length - k) 0 ⟨Nat.zero_le _, fun j hj => by omega⟩ (into0 (by simp only [go_sem])) ?_
  rintro k ⟨hk, hok⟩
  simp only [go_sem]
  rw [smAt_key l (by omega)]
  refine ⟨fun h1 => ⟨by omega, fun _ => by omega, fun _ => by omega, fun _ => by omega, fun hc => ?_, fun _ => by omega, fun hc => ?_, fun hc => ⟨k + 1, ⟨by omega, fun j hj => ?_⟩, by omega, into0 ?_⟩⟩, fun h1 => ?_⟩
  · have hc := (Bool.and_eq_true_iff.1 hc).2
    rw [w64p (by simpa using hc) (by omega)]
    omega
  · rw [smsOk_f h1 (by simpa using hc)]
  · by_cases e : j = k
    · subst e; simpa using hc
    · exact hok j (by omega)
  · simp only [go_sem, w64s (show k < 9223372036854775807 by omega)]
  · rw [smsOk_t (fun i hi => hok i (by omega))]
    simp only [decide_eq_decide]
    omega
theorem smp_eq (x y : Smp) : eqCells [1, 1] (cellsUp (Smp.c x) 0 2) (cellsUp (Smp.c y) 0 2) = some (decide (x = y)) := by
  simp only [go_sem, if_true, Option.some.injEq, Bool.and_true]
  rw [Bool.eq_iff_iff]
  cases x; cases y
  simp
end Go.Proofs.YtcmkhlfjcdchmaaGreat.A
end
section
namespace Go.Proofs.YtcmkhlfjcdchmaaGreat.A
open Go Go.Proofs.YtcmkhlfjcdchmaaGreatAbs
theorem isNaN_rc (a : Int) (M : List Blk) : CallR Tryz.prog M n_cmp_isNaN_int [.i a] (.b false) M := by
  refine callP F_cmp_isNaN_int (Nat.le_of_ble_eq_true rfl) (by simp only [go_sem]) (by simp only [go_sem]) ?_ M
  simp only [c_cmp_isNaN_int, go_sem, bne_self_eq_false]
def cmpI (a b : Int) : Int := if a < b then -1 else if b < a then 1 else 0
theorem cmpI_lt (a b : Int) : (cmpI a b < 0) = (a < b) := by
  unfold cmpI
  split <;> rename_i h
  · simp [h]
  · split <;> simp [h]
theorem cmpI_eq (a b : Int) : (cmpI a b == 0) = decide (a = b) := by
  unfold cmpI
  split <;> rename_i h
  · simp; omega
  · split <;> simp <;> omega
theorem CompareI_rc (a b : Int) (M : List Blk) : CallR Tryz.prog M n_cmp_Compare_int [.i a, .i b] (.i (cmpI a b)) M := by
  refine callP F_cmp_Compare_int (Nat.le_of_ble_eq_true rfl) (by simp only [go_sem]) (by simp only [go_sem]) ?_ M
  simp only [c_cmp_Compare_int, go_sem]
  refine call0 (isNaN_rc _) ?_
  simp only [go_sem]
  refine call0 (isNaN_rc _) ?_
  simp only [go_sem, cmpI]
  grind
theorem at1_rc (x : Smp) (k : Int) (M : List Blk) : CallR Tryz.prog M n_samples_at_1 [smpA x, .i k] (.i (cmpI x.t k)) M := by
  refine callP F_samples_at_1 (Nat.le_of_ble_eq_true rfl) (by simp only [go_sem]) (by simp only [go_sem]) ?_ M
  simp only [c_samples_at_1, go_sem]
  refine call0 (CompareI_rc _ _) ?_
  simp only [go_sem]
/-- Where a time is in samples, or would be. -/
def atS (l : List Smp) (t : Int) : Nat := bsF (fun i => decide (cmpI (l.getD i default).t t < 0)) 0 l.length
def hitS (l : List Smp) (t : Int) : Bool := decide (atS l t < l.length) && (cmpI (l.getD (atS l t) default).t t == 0)
theorem atS_le (l : List Smp) (t : Int) : atS l t ≤ l.length := (bsF_le l.length 0 l.length (by omega) (Nat.zero_le _)).2
theorem at_rc (l : List Smp) (hl : l.length ≤ 140737488355328) (t : Int) (M : List Blk) : CallR Tryz.prog M n_samples_at [smpL l, .i t] (.tup [.i (atS l t : Nat), .b (hitS l t)]) M := by
  refine callP F_samples_at (Nat.le_of_ble_eq_true rfl) (by simp only [go_sem]) (by simp only [go_sem]) ?_ M
  simp only [c_samples_at, go_sem]
  refine call0 (fun M => bs_rc F_slices_BinarySearchFunc_api_Sample_api_Sample_int l.length (by omega) (fun i j => (l.getD i default).c j) (.i t) n_samples_at_1 0 (fun _ => default) (fun i => cmpI (l.getD i default).t t) (by simp only [go_sem]) (fun i hi => absurd hi (Nat.not_lt_zero _)) (fun i hi M => at1_rc (l.getD i default) t M) M) ?_
  simp only [go_sem]
  exact ⟨rfl, rfl⟩
theorem ovl_smp : Ovl Tryz.prog 152 2 := ⟨⟨_, 47, 4, 33, Tryz.func152, by kernel_rfl, by kernel_rfl, by kernel_rfl, by kernel_rfl, by kernel_rfl, by kernel_rfl⟩⟩
def putS (l : List Smp) (s : Smp) : List Smp × Int :=
  if smsOk l = false then ([], 1) else if smOk s = false then (l, 1) else if hitS l s.t = true then (l, if l.getD (atS l s.t) default = s then 7 else 8) else if l.length = 64 then (l, 6) else (l.take (atS l s.t) ++ s :: l.drop (atS l s.t), 0)
theorem smsOk_one (s : Smp) : smsOk [s] = smOk s := by simp [smsOk, smAt, List.range_succ]
theorem smsOk_len {l : List Smp} (h : smsOk l = true) : l.length ≤ 64 := by
  unfold smsOk at h
  simpa using (Bool.and_eq_true_iff.1 h).1
theorem smp_ext {x y : Smp} (h : (x.t == y.t && x.v == y.v) = true) : x = y := by
  cases x; cases y
  simp at h
  rw [h.1, h.2]
theorem smp_ne {x y : Smp} (h : (x.t == y.t && x.v == y.v) = false) : x ≠ y := by
  rintro rfl
  simp at h
set_option maxRecDepth 20000 in
theorem Put_rc (l : List Smp) (hl : l.length ≤ 140737488355328) (s : Smp) (M : List Blk) : CallR Tryz.prog M n_samples_Put [smpL l, smpA s] (.tup [smpL (putS l s).1, .i (putS l s).2]) M := by
  refine callPG F_samples_Put (Nat.le_of_ble_eq_true rfl) (by simp only [go_sem]) ?_ M
  refine run_seqV ?_
  simp only [go_sem]
  refine run_seqV ?_
  simp only [go_sem]
  refine call0 (bCheck_rc l hl) ?_
  simp only [go_sem]
  cases hok : smsOk l with
  | false =>
    have hp : putS l s = ([], 1) := by rw [putS, if_pos hok]
    rw [hp]
    simp only [Bool.false_eq_true, if_false, go_sem]
    exact fin0 (.inr rfl) rfl trivial (subS_tup2 (subP_one (nil_sub (α := Smp))) (SubP.refl _)) (by simp only [go_sem])
  | true =>
    have hl64 := smsOk_len hok
    simp only [if_true, go_sem]
    refine run_seqV ?_
    simp only [go_sem]
    refine call1 (cloneO_rc (c := Smp.c) F_slices_Clone_api_Sample_api_Sample l (by omega) (by simp only [go_sem, ltB])) (by simp only [go_sem]) (fun h => Bool.noConfusion h) ?_
    simp only [go_sem]
    refine run_seqV ?_
    simp only [go_sem]
    refine callL (at_rc l hl s.t []) ⟨snapL l rfl, Snap.same _ trivial, trivial⟩ (by simp only [go_sem]) ?_
    simp only [go_sem]
    have hend : ∀ (l : List Smp) (n : Int) (e : Nat → SV) (X : List Blk) (v : Nat) (f : Bool), e 4 = .p (.one (.arr 2 1 v 0 l.length)) → e 5 = .i n → X[1]? = some (.rows 33 2 v (rowsL 2 Smp.c l) f) → FinK 53 0 [.t 4, .t 5] (.tup [smpL l, .i n]) [] .ret ⟨e, X⟩ := by
      intro l n e X v f h4 h5 hX
      refine finQ (.inr rfl) (gh_freeze (b := 1) (l := rowsL 2 Smp.c l) hX (rowsL_closed l)) (qs := [.one (.c (.imm 2 l.length fun i j => toC (((rowsL 2 Smp.c l).getD (0 + i) []).getD j default))), .i n]) (cnd := True) ?_ trivial (subS_tup2 (subP_one (frz_sub l)) (SubP.refl _)) (by simp only [go_sem])
      simp only [go_sem, h4, h5, Nat.zero_add]
    refine run_seqV ?_
    simp only [go_sem]
    refine callL (bCheck_rc [s] (Nat.le_of_ble_eq_true rfl) []) ⟨snapL [s] rfl, trivial⟩ (by simp only [go_sem]) ?_
    simp only [go_sem, smsOk_one]
    cases hs : smOk s with
    | false =>
      have hp : putS l s = (l, 1) := by rw [putS, if_neg (by rw [hok]; decide), if_pos hs]
      rw [hp]
      simp only [Bool.false_eq_true, if_false, go_sem]
      exact hend l 1 _ _ _ _ (by simp only [go_sem]) (by simp only [go_sem]) rfl
    | true =>
    have hat := atS_le l s.t
    have hhit : hitS l s.t = true → atS l s.t < l.length := fun h => by
      unfold hitS at h
      exact of_decide_eq_true (Bool.and_eq_true_iff.1 h).1
    have hp : putS l s = if hitS l s.t = true then (l, if l.getD (atS l s.t) default = s then 7 else 8) else if l.length = 64 then (l, 6) else (l.take (atS l s.t) ++ s :: l.drop (atS l s.t), 0) := by
      rw [putS, if_neg (by rw [hok]; decide), if_neg (by rw [hs]; decide)]
    rw [hp]
    have hins := ins_rc (M := [.rows 33 2 0 [[.c (.v (.int .i64 s.t)), .c (.v (.int .i64 s.v))]] true, .rows 33 2 1 (rowsL 2 Smp.c l) false, .rows 33 2 0 [[.c (.v (.int .i64 s.t)), .c (.v (.int .i64 s.v))]] true, .rows 33 2 0 [[.c (.v (.int .i64 s.t)), .c (.v (.int .i64 s.v))]] true]) (b := 1) (c := 3) (i := atS l s.t) (l := rowsL 2 Smp.c l) (row := cellsUp (Smp.c s) 0 2) F_slices_Insert_api_Sample_api_Sample ovl_smp (by decide) (by decide) rfl rfl (by rw [rowsL_len]; exact hat) (by rw [rowsL_len]; omega) (by rw [rowsL_len]; omega) (by
      simp only [go_sem, ltB]
      exact fun r hr => (rowsL_row r hr).2 4)
    rw [rowsL_ins, rowsL_len] at hins
    have hil : (l.take (atS l s.t) ++ s :: l.drop (atS l s.t)).length = l.length + 1 := by
      simp only [List.length_append, List.length_cons, List.length_take, List.length_drop]; omega
    cases hh : hitS l s.t with
    | true =>
      have hr := hhit hh
      have hg := rowsL_getD (sz := 2) (c := Smp.c) hr
      simp only [hh, hg, smp_eq, go_sem, hs]
      refine ⟨by omega, hr, fun he => ?_, fun he => ?_⟩
      · rw [if_pos (smp_ext he)]
        exact hend l 7 _ _ _ _ (by simp only [go_sem]) (by simp only [go_sem]) rfl
      · rw [if_neg (smp_ne he)]
        exact hend l 8 _ _ _ _ (by simp only [go_sem]) (by simp only [go_sem]) rfl
    | false =>
      by_cases hr : atS l s.t < l.length
      case' pos =>
        have hg := rowsL_getD (sz := 2) (c := Smp.c) hr
        simp only [hh, hg, go_sem]
      case' neg =>
        have hg : (rowsL 2 Smp.c l).getD (atS l s.t) [] = [] := by rw [List.getD_eq_getElem?_getD, List.getElem?_eq_none (by rw [rowsL_len]; omega)]; rfl
        simp only [hh, hg, go_sem]
      all_goals
        refine ⟨fun h64 => ?_, fun h64 => ?_⟩
        · rw [if_pos (by omega)]
          exact hend l 6 _ _ _ _ (by simp only [go_sem]) (by simp only [go_sem]) rfl
        · have h64' : ¬ l.length = 64 := by
            intro h
            rw [h] at h64
            exact absurd h64 (by decide)
          rw [if_neg h64']
          refine run_seqV ?_
          simp only [go_sem]
          refine call1 hins (by simp only [go_sem]) (fun h => Bool.noConfusion h) ?_
          rw [← hil]
          simp only [go_sem]
          refine run_ret ?_
          exact hend (l.take (atS l s.t) ++ s :: l.drop (atS l s.t)) 0 _ _ _ _ (by simp only [go_sem]) (by simp only [go_sem]) rfl
def zSmp : Smp := ⟨0, 0⟩
def getS (l : List Smp) (t : Int) : Smp × Bool := if hitS l t = true ∧ smsOk l = true then (l.getD (atS l t) default, true) else (zSmp, false)
theorem hit_lt {l : List Smp} {t : Int} (h : hitS l t = true) : atS l t < l.length := by
  unfold hitS at h
  exact of_decide_eq_true (Bool.and_eq_true_iff.1 h).1
set_option maxRecDepth 20000 in
theorem Get_rc (l : List Smp) (hl : l.length ≤ 140737488355328) (t : Int) (M : List Blk) : CallR Tryz.prog M n_samples_Get [smpL l, .i t] (.tup [smpA (getS l t).1, .b (getS l t).2]) M := by
  refine callP F_samples_Get (Nat.le_of_ble_eq_true rfl) (by simp only [go_sem]) (by simp only [go_sem]) ?_ M
  simp only [c_samples_Get, go_sem]
  refine call0 (at_rc l hl t) ?_
  simp only [go_sem]
  refine callg0 (fun _ => bCheck_rc l hl) ?_
  simp only [go_sem]
  cases hh : hitS l t with
  | false =>
    have hg : getS l t = (zSmp, false) := by rw [getS, if_neg (by rw [hh]; simp)]
    simp only [hg, zSmp, go_sem]
  | true =>
    have hr := hit_lt hh
    cases hk : smsOk l with
    | false =>
      have hg : getS l t = (zSmp, false) := by rw [getS, if_neg (by rw [hk]; simp)]
      simp only [hg, zSmp, go_sem]
    | true =>
      have hg : getS l t = (l.getD (atS l t) default, true) := by rw [getS, if_pos ⟨hh, hk⟩]
      simp only [hg, go_sem]
      omega
def rangeS (l : List Smp) (a b : Int) : List Smp := if smsOk l = true then (l.drop (atS l a)).take (atS l b - atS l a) else []
set_option maxRecDepth 20000 in
theorem Range_rc (l : List Smp) (hl : l.length ≤ 140737488355328) (a b : Int) (M : List Blk) : CallR Tryz.prog M n_samples_Range [smpL l, .i a, .i b] (.p (smpL (rangeS l a b))) M := by
  refine callP F_samples_Range (Nat.le_of_ble_eq_true rfl) (by simp only [go_sem]) (by simp only [go_sem]) ?_ M
  simp only [c_samples_Range, go_sem]
  refine call0 (bCheck_rc l hl) ?_
  simp only [go_sem]
  cases hk : smsOk l with
  | false =>
    have hg : rangeS l a b = [] := by rw [rangeS, if_neg (by rw [hk]; simp)]
    simp only [hg, go_sem, List.length_nil]
  | true =>
    have hg : rangeS l a b = (l.drop (atS l a)).take (atS l b - atS l a) := by rw [rangeS, if_pos hk]
    have h64 := smsOk_len hk
    have h1 := atS_le l a
    have h2 := atS_le l b
    simp only [go_sem]
    refine call0 (at_rc l hl a) ?_
    simp only [go_sem]
    refine call0 (at_rc l hl b) ?_
    simp only [go_sem]
    have hm : (if atS l a < atS l b then (atS l b : Int) else (atS l a : Int)).toNat - atS l a = atS l b - atS l a := by split <;> omega
    rw [hm]
    refine ⟨⟨by omega, by split <;> omega, by split <;> omega⟩, call1 (clone_rc F_slices_Clone_api_Sample_api_Sample ((l.drop (atS l a)).take (atS l b - atS l a)) (by rw [List.length_take, List.length_drop]; omega) _) ⟨le_slice (c := Smp.c) (by omega), trivial⟩ (fun h => Bool.noConfusion h) ?_⟩
    simp only [go_sem, hg]
def trimS (l : List Smp) (a : Int) : List Smp := if smsOk l = true then l.drop (atS l a) else []
set_option maxRecDepth 20000 in
theorem Trim_rc (l : List Smp) (hl : l.length ≤ 140737488355328) (a : Int) (M : List Blk) : CallR Tryz.prog M n_samples_Trim [smpL l, .i a] (.p (smpL (trimS l a))) M := by
  refine callP F_samples_Trim (Nat.le_of_ble_eq_true rfl) (by simp only [go_sem]) (by simp only [go_sem]) ?_ M
  simp only [c_samples_Trim, go_sem]
  refine call0 (bCheck_rc l hl) ?_
  simp only [go_sem]
  cases hk : smsOk l with
  | false =>
    have hg : trimS l a = [] := by rw [trimS, if_neg (by rw [hk]; simp)]
    simp only [hg, go_sem, List.length_nil]
  | true =>
    have hg : trimS l a = l.drop (atS l a) := by rw [trimS, if_pos hk]
    have h64 := smsOk_len hk
    have h1 := atS_le l a
    simp only [go_sem]
    refine call0 (at_rc l hl a) ?_
    simp only [go_sem]
    have e : (l.drop (atS l a)).take (l.length - atS l a) = l.drop (atS l a) := List.take_of_length_le (by rw [List.length_drop]; exact Nat.le_refl _)
    refine ⟨by omega, call1 (clone_rc F_slices_Clone_api_Sample_api_Sample ((l.drop (atS l a)).take (l.length - atS l a)) (by rw [List.length_take, List.length_drop]; omega) _) ⟨le_slice (c := Smp.c) (by omega), trivial⟩ (fun h => Bool.noConfusion h) ?_⟩
    rw [e]
    simp only [go_sem, hg]
end Go.Proofs.YtcmkhlfjcdchmaaGreat.A
end
section
namespace Go.Proofs.YtcmkhlfjcdchmaaGreat.A
open Go Go.Proofs.YtcmkhlfjcdchmaaGreatAbs
theorem rSmSame_rc (l m : List Smp) (hl : l.length ≤ 140737488355328) (M : List Blk) : CallR Tryz.prog M n_windroseref11_Same [smpL l, smpL m] (.b (decide (l = m))) M := by
  have := rsame_rc (P := Tryz.prog) (c := Smp.c) (eq := fun x y => decide (x = y)) F_windroseref11_Same smp_eq l m hl M
  rwa [eqL_dec] at this
theorem SmEqual_rc (l m : List Smp) (hl : l.length ≤ 140737488355328) (M : List Blk) : CallR Tryz.prog M n_slices_Equal_api_Sample_api_Sample [smpL l, smpL m] (.b (decide (l = m))) M := by
  have := eq_rc (P := Tryz.prog) (c := Smp.c) (eq := fun x y => decide (x = y)) F_slices_Equal_api_Sample_api_Sample smp_eq l m hl M
  rwa [eqL_dec] at this
def rgetI (l : List Smp) (t : Int) : Nat := l.findIdx fun x => decide (x.t = t)
def rgetS (l : List Smp) (t : Int) : Smp × Bool := if rgetI l t < l.length then (l.getD (rgetI l t) default, true) else (zSmp, false)
set_option maxRecDepth 20000 in
theorem rGet_rc (l : List Smp) (hl : l.length ≤ 140737488355328) (t : Int) (M : List Blk) : CallR Tryz.prog M n_windroseref12_Get [smpL l, .i t] (.tup [smpA (rgetS l t).1, .b (rgetS l t).2]) M := by
  refine callP F_windroseref12_Get (Nat.le_of_ble_eq_true rfl) (by simp only [go_sem]) (by simp only [go_sem]) ?_ M
  simp only [c_windroseref12_Get, go_sem]
  refine V_loop (ι := Nat) (J := fun k => k ≤ l.length ∧ ∀ i, i < k → (l.getD i default).t ≠ t) (env := fun k => [(0, .p (smpL l)), (1, .i t), (4, .p (.one (.ptr 0 0 0 0))), (6, .i k)]) (mem := fun _ => [.rows 33 2 0 [[.c (.v (.int .i64 0)), .c (.v (.int .i64 0))]] true]) (μ := fun k => l.length - k) 0 ⟨Nat.zero_le _, fun i hi => absurd hi (Nat.not_lt_zero _)⟩ ⟨[], by simp only [go_sem], Nat.zero_le _, by simp only [go_sem], by simp only [go_sem, ltB]⟩ ?_
  rintro k ⟨hk, hne⟩
  simp only [go_sem]
  refine ⟨fun h1 => ⟨by omega, fun hc => ⟨by omega, ?_⟩, fun hc => ⟨k + 1, ⟨by omega, fun i hi => ?_⟩, by omega, [], by simp only [go_sem], Nat.zero_le _, ?_, by simp only [go_sem, ltB]⟩⟩, fun h1 => ?_⟩
  · have : rgetI l t = k := by
      rw [rgetI, List.findIdx_eq h1]
      refine ⟨by simpa [List.getD_eq_getElem?_getD, h1] using hc, fun i hi => ?_⟩
      simpa [List.getD_eq_getElem?_getD, show i < l.length by omega] using hne i hi
    simp only [rgetS, this, if_pos h1, go_sem]
  · by_cases e : i = k
    · subst e; exact hc
    · exact hne i (by omega)
  · simp only [go_sem, w64s (show k < 9223372036854775807 by omega)]
  · have : ¬ rgetI l t < l.length := by
      have : rgetI l t = l.length := by
        rw [rgetI, List.findIdx_eq_length]
        intro y hy
        obtain ⟨j, hj, rfl⟩ := List.mem_iff_getElem.1 hy
        simpa [List.getD_eq_getElem?_getD, hj] using hne j (by omega)
      omega
    simp only [rgetS, if_neg this, zSmp, go_sem]
/-- One step of the document's pass: what is told so far, whether the sample is put. -/
def wStepS (s : Smp) (p : List Smp × Bool) (x : Smp) : List Smp × Bool :=
  let q := if (!p.2 && decide (s.t < x.t)) = true then (p.1 ++ [s], true) else p
  (q.1 ++ [x], q.2)
def wAllS (s : Smp) (l : List Smp) : List Smp × Bool := l.foldl (wStepS s) ([], false)
def withS (l : List Smp) (s : Smp) : List Smp := if (wAllS s l).2 = true then (wAllS s l).1 else (wAllS s l).1 ++ [s]
theorem foldl_take {α β : Type} [Inhabited α] (f : β → α → β) (b : β) (l : List α) {k : Nat} (hk : k < l.length) : (l.take (k + 1)).foldl f b = f ((l.take k).foldl f b) (l.getD k default) := by
  rw [take_succ_getD default hk, List.foldl_append]; rfl
theorem wAllS_len (s : Smp) (l : List Smp) : ∀ p : List Smp × Bool, (l.foldl (wStepS s) p).1.length ≤ p.1.length + 2 * l.length := by
  induction l with
  | nil => intro p; simp
  | cons x l ih =>
    intro p
    rw [List.foldl_cons]
    refine Nat.le_trans (ih _) ?_
    have : (wStepS s p x).1.length ≤ p.1.length + 2 := by
      unfold wStepS
      simp only
      split <;> simp
    simp only [List.length_cons]
    omega
theorem smp_row (a : List Smp) (x : Smp) : rowsL 2 Smp.c a ++ [[AV.c (CV.v (Value.int IntKind.i64 x.t)), AV.c (CV.v (Value.int IntKind.i64 x.v))]] = rowsL 2 Smp.c (a ++ [x]) := rowsL_app1 a x
set_option maxRecDepth 20000 in
theorem rwith_rc (l : List Smp) (hl : l.length ≤ 1000) (s : Smp) (M : List Blk) : CallR Tryz.prog M n_windroseref12_with [smpL l, smpA s] (.p (smpL (withS l s))) M := by
  refine callPG F_windroseref12_with (Nat.le_of_ble_eq_true rfl) (by simp only [go_sem]) ?_ M
  refine run_seqV ?_
  simp only [go_sem]
  refine run_seqV ?_
  simp only [go_sem]
  refine run_seqV ?_
  simp only [go_sem]
  refine run_seqV ?_
  simp only [go_sem]
  refine R_loop (ι := Nat × Nat × Bool) (J := fun p => p.1 ≤ l.length)
    (env := fun p => [(0, .p (smpL l)), (3, .p (.one (.ptr 0 0 0 0))), (5, .p (.one (.arr 2 1 p.2.1 0 (wAllS s (l.take p.1)).1.length))), (6, .b (wAllS s (l.take p.1)).2), (7, .i p.1)])
    (mem := fun p => [.rows 33 2 0 [[.c (.v (.int .i64 s.t)), .c (.v (.int .i64 s.v))]] true, .rows 33 2 p.2.1 (rowsL 2 Smp.c (wAllS s (l.take p.1)).1) p.2.2])
    (μ := fun p => l.length - p.1) (0, 0, true) (Nat.zero_le _) ⟨[], ?_, Nat.zero_le _, ?_, ?_⟩ ?_
  · simp only [go_sem, List.take_zero, wAllS, List.foldl_nil, rowsL_nil]
  · simp only [go_sem, List.take_zero, wAllS, List.foldl_nil, List.length_nil]
  · simp only [go_sem, ltB]
    exact fun r hr => (rowsL_row r hr).2 _
  rintro ⟨k, v, f⟩ hk
  simp only at hk
  refine run_seqV ?_
  simp only [go_sem]
  have hwl : (wAllS s (l.take k)).1.length ≤ 2 * k := by
    have := wAllS_len s (l.take k) ([], false)
    rw [List.length_take] at this
    simp only [List.length_nil] at this
    unfold wAllS
    omega
  refine ⟨fun h1 => ?_, fun h1 => ?_⟩
  · have hst : wAllS s (l.take (k + 1)) = wStepS s (wAllS s (l.take k)) (l.getD k default) := foldl_take _ _ _ h1
    generalize hw : wAllS s (l.take k) = W at hst hwl ⊢
    obtain ⟨ws, put⟩ := W
    refine run_seq ?_
    refine run_block ?_
    refine run_seqV ?_
    simp only at hwl
    simp only [go_sem]
    have e3 : IntKind.i64.wrap ((k : Int) + 1) = ((k + 1 : Nat) : Int) := w64s (by omega)
    have hlx : (⟨(l.getD k default).t, (l.getD k default).v⟩ : Smp) = l.getD k default := rfl
    refine ⟨fun _ => by omega, fun hp => ⟨by omega, ?_⟩, fun hp => ?_⟩
    · have hst' : wAllS s (l.take (k + 1)) = (ws ++ [s] ++ [l.getD k default], true) := by
        rw [hst, wStepS]; simp only [hp, if_true]
      refine V_sound ?_
      simp only [go_sem, smp_row, rowsL_len, List.length_append, List.length_cons, List.length_nil, Nat.zero_add, hlx]
      refine ⟨by omega, by omega, V_sound ?_⟩
      simp only [go_sem, e3]
      refine ⟨(k + 1, v + 1 + 1, false), h1, by simp only []; omega, [.rows 33 2 0 [[.c (.v (.int .i64 s.t)), .c (.v (.int .i64 s.v))]] true, .rows 33 2 0 [[.c (.v (.int .i64 (l.getD k default).t)), .c (.v (.int .i64 (l.getD k default).v))]] true], ?_, Nat.zero_le _, ?_, ?_⟩
      · simp only [hst', go_sem, smp_row]
      · simp only [go_sem, hst', List.length_append, List.length_cons, List.length_nil, Nat.zero_add]
      · simp only [go_sem, ltB]
        exact fun r hr => (rowsL_row r hr).2 _
    · have hst' : wAllS s (l.take (k + 1)) = (ws ++ [l.getD k default], put) := by
        rw [hst, wStepS]; simp only [hp, Bool.false_eq_true, if_false]
      refine V_sound ?_
      simp only [go_sem, smp_row, rowsL_len, List.length_append, List.length_cons, List.length_nil, Nat.zero_add, hlx]
      refine ⟨by omega, by omega, V_sound ?_⟩
      simp only [go_sem, e3]
      refine ⟨(k + 1, v + 1, false), h1, by simp only []; omega, [.rows 33 2 0 [[.c (.v (.int .i64 (l.getD k default).t)), .c (.v (.int .i64 (l.getD k default).v))]] true], ?_, Nat.zero_le _, ?_, ?_⟩
      · simp only [hst', go_sem, smp_row]
      · simp only [go_sem, hst', List.length_append, List.length_cons, List.length_nil, Nat.zero_add]
      · simp only [go_sem, ltB]
        exact fun r hr => (rowsL_row r hr).2 _
  · have hkl : k = l.length := by omega
    subst hkl
    rw [List.take_length] at hwl ⊢
    unfold withS
    generalize hw : wAllS s l = W at hwl ⊢
    obtain ⟨ws, put⟩ := W
    simp only at hwl
    have hend : ∀ (ws : List Smp) (e : Nat → SV) (X : List Blk) (v : Nat) (f : Bool), e 4 = .p (.one (.arr 2 1 v 0 ws.length)) → X[1]? = some (.rows 33 2 v (rowsL 2 Smp.c ws) f) → FinK 45 0 [.t 4] (.p (smpL ws)) [] .ret ⟨e, X⟩ := by
      intro ws e X v f h4 hX
      refine finQ (.inr rfl) (gh_freeze (b := 1) (l := rowsL 2 Smp.c ws) hX (rowsL_closed ws)) (qs := [.one (.c (.imm 2 ws.length fun i j => toC (((rowsL 2 Smp.c ws).getD (0 + i) []).getD j default)))]) (cnd := True) ?_ trivial (subS_p (subP_one (frz_sub ws))) (by simp only [go_sem])
      simp only [go_sem, h4, Nat.zero_add]
    refine run_seqV ?_
    simp only [go_sem, rowsL_len]
    refine ⟨fun hp => ⟨by omega, ?_⟩, fun hp => ?_⟩
    · have hput : put = false := by simpa using hp
      rw [hput]
      refine V_sound ?_
      have hl2 : ws.length + 1 = (ws ++ [s]).length := by simp
      simp only [go_sem, smp_row, hl2]
      exact hend (ws ++ [s]) _ _ _ _ (by simp only [go_sem]) rfl
    · have hput : put = true := by simpa using hp
      rw [hput]
      refine V_sound ?_
      simp only [go_sem]
      exact hend ws _ _ _ _ (by simp only [go_sem]) rfl
def rputS (l : List Smp) (s : Smp) : List Smp × Int :=
  if smOk s = false then (l, 1) else if (rgetS l s.t).2 = true ∧ (rgetS l s.t).1.v = s.v then (l, 7) else if (rgetS l s.t).2 = true then (l, 8) else if l.length = 64 then (l, 6) else (withS l s, 0)
set_option maxRecDepth 20000 in
theorem rPut_rc (l : List Smp) (hl : l.length ≤ 1000) (s : Smp) (M : List Blk) : CallR Tryz.prog M n_windroseref12_Put [smpL l, smpA s] (.tup [smpL (rputS l s).1, .i (rputS l s).2]) M := by
  refine callP F_windroseref12_Put (Nat.le_of_ble_eq_true rfl) (by simp only [go_sem]) (by simp only [go_sem]) ?_ M
  simp only [c_windroseref12_Put, go_sem]
  refine callL (rMay_rc [s] (Nat.le_of_ble_eq_true rfl) []) ⟨snapL [s] rfl, trivial⟩ (by simp only [go_sem]) ?_
  simp only [go_sem, smsOk_one]
  unfold rputS
  cases hs : smOk s with
  | false => simp only [go_sem]
  | true =>
    simp only [go_sem]
    refine call0 (rGet_rc l (by omega) s.t) ?_
    simp only [go_sem]
    generalize rgetS l s.t = G
    obtain ⟨g, there⟩ := G
    cases there with
    | false =>
      simp only [go_sem]
      refine ⟨fun h => ?_, fun h => ?_⟩
      · have : l.length = 64 := by omega
        simp only [this, go_sem]
      · have : ¬ l.length = 64 := fun e => h (by rw [e]; rfl)
        simp only [if_neg this, go_sem]
        refine call0 (rwith_rc l hl s) ?_
        simp only [go_sem]
    | true =>
      simp only [go_sem]
      refine ⟨fun h => ?_, fun h => ?_⟩
      · simp only [h, go_sem]
      · simp only [h, go_sem]
def rrangeS (l : List Smp) (a b : Int) : List Smp := l.filter fun x => decide (a ≤ x.t) && decide (x.t < b)
def rtrimS (l : List Smp) (a : Int) : List Smp := l.filter fun x => decide (a ≤ x.t)
theorem filter_take {α : Type} [Inhabited α] (p : α → Bool) (l : List α) {k : Nat} (hk : k < l.length) : (l.take (k + 1)).filter p = (l.take k).filter p ++ if p (l.getD k default) = true then [l.getD k default] else [] := by
  rw [take_succ_getD default hk, List.filter_append, List.filter_cons, List.filter_nil]
theorem filter_len {α : Type} (p : α → Bool) (l : List α) (k : Nat) : ((l.take k).filter p).length ≤ k := Nat.le_trans (List.length_filter_le ..) (by rw [List.length_take]; omega)
theorem end_smp {n : Nat} (ws : List Smp) (e : Nat → SV) (X : List Blk) (v : Nat) (f : Bool) (r b : Nat) (h4 : e r = .p (.one (.arr 2 b v 0 ws.length))) (hX : X[b]? = some (.rows 33 2 v (rowsL 2 Smp.c ws) f)) : FinK n 0 [.t r] (.p (smpL ws)) [] .ret ⟨e, X⟩ := by
  refine finQ (.inr rfl) (gh_freeze (b := b) (l := rowsL 2 Smp.c ws) hX (rowsL_closed ws)) (qs := [.one (.c (.imm 2 ws.length fun i j => toC (((rowsL 2 Smp.c ws).getD (0 + i) []).getD j default)))]) (cnd := True) ?_ trivial (subS_p (subP_one (frz_sub ws))) (by simp only [go_sem])
  simp only [go_sem, h4, Nat.zero_add]
set_option maxRecDepth 20000 in
theorem rTrim_rc (l : List Smp) (hl : l.length ≤ 140737488355) (a : Int) (M : List Blk) : CallR Tryz.prog M n_windroseref12_Trim [smpL l, .i a] (.p (smpL (rtrimS l a))) M := by
  refine callPG F_windroseref12_Trim (Nat.le_of_ble_eq_true rfl) (by simp only [go_sem]) ?_ M
  refine run_seqV ?_
  simp only [go_sem]
  refine run_seqV ?_
  simp only [go_sem]
  refine run_seqV ?_
  simp only [go_sem]
  refine R_loop (ι := Nat × Nat × Bool) (J := fun p => p.1 ≤ l.length)
    (env := fun p => [(0, .p (smpL l)), (1, .i a), (5, .p (.one (.arr 2 0 p.2.1 0 (rtrimS (l.take p.1) a).length))), (6, .i p.1)])
    (mem := fun p => [.rows 33 2 p.2.1 (rowsL 2 Smp.c (rtrimS (l.take p.1) a)) p.2.2])
    (μ := fun p => l.length - p.1) (0, 0, true) (Nat.zero_le _) ⟨[], ?_, Nat.zero_le _, ?_, ?_⟩ ?_
  · simp only [go_sem, List.take_zero, rtrimS, List.filter_nil, rowsL_nil]
  · simp only [go_sem, List.take_zero, rtrimS, List.filter_nil, List.length_nil]
  · simp only [go_sem, ltB]
    exact fun r hr => (rowsL_row r hr).2 _
  rintro ⟨k, v, f⟩ hk
  simp only at hk
  refine run_seqV ?_
  simp only [go_sem]
  refine ⟨fun h1 => ?_, fun h1 => ?_⟩
  · have hst := filter_take (fun x : Smp => decide (a ≤ x.t)) l h1
    have hle := filter_len (fun x : Smp => decide (a ≤ x.t)) l k
    have e3 : IntKind.i64.wrap ((k : Int) + 1) = ((k + 1 : Nat) : Int) := w64s (by omega)
    rw [show (l.take (k + 1)).filter (fun x : Smp => decide (a ≤ x.t)) = rtrimS (l.take (k + 1)) a from rfl, show (l.take k).filter (fun x : Smp => decide (a ≤ x.t)) = rtrimS (l.take k) a from rfl] at hst
    rw [show (l.take k).filter (fun x : Smp => decide (a ≤ x.t)) = rtrimS (l.take k) a from rfl] at hle
    generalize hw : rtrimS (l.take k) a = ws at hst hle ⊢
    refine V_sound ?_
    have hlx : ∀ x : Smp, (⟨x.t, x.v⟩ : Smp) = x := fun _ => rfl
    simp only [go_sem, smp_row, rowsL_len, e3, hlx]
    refine ⟨by omega, fun hc => ⟨by omega, by omega, ?_⟩, fun hc => ?_⟩
    · have hst' : rtrimS (l.take (k + 1)) a = ws ++ [l.getD k default] := by
        rw [hst, if_pos (by simpa using hc)]
      refine ⟨(k + 1, v + 1, false), h1, by simp only []; omega, [.rows 33 2 0 [[.c (.v (.int .i64 (l.getD k default).t)), .c (.v (.int .i64 (l.getD k default).v))]] true], ?_, Nat.zero_le _, ?_, ?_⟩
      · simp only [hst', go_sem]
      · simp only [go_sem, hst', List.length_append, List.length_cons, List.length_nil, Nat.zero_add]
      · simp only [go_sem, ltB]
        exact fun r hr => (rowsL_row r hr).2 _
    · have hst' : rtrimS (l.take (k + 1)) a = ws := by
        rw [hst, if_neg (by simpa using hc), List.append_nil]
      refine ⟨(k + 1, v, f), h1, by simp only []; omega, [], ?_, Nat.zero_le _, ?_, ?_⟩
      · simp only [hst', go_sem]
      · simp only [go_sem, hst']
      · simp only [go_sem, ltB]
        exact fun r hr => (rowsL_row r hr).2 _
  · have hkl : k = l.length := by omega
    subst hkl
    rw [List.take_length]
    refine V_sound ?_
    simp only [go_sem]
    exact end_smp (rtrimS l a) _ _ v f 4 0 (by simp only [go_sem]) rfl
set_option maxRecDepth 20000 in
theorem rRange_rc (l : List Smp) (hl : l.length ≤ 140737488355) (a b : Int) (M : List Blk) : CallR Tryz.prog M n_windroseref12_Range [smpL l, .i a, .i b] (.p (smpL (rrangeS l a b))) M := by
  refine callPG F_windroseref12_Range (Nat.le_of_ble_eq_true rfl) (by simp only [go_sem]) ?_ M
  refine run_seqV ?_
  simp only [go_sem]
  refine run_seqV ?_
  simp only [go_sem]
  refine run_seqV ?_
  simp only [go_sem]
  refine R_loop (ι := Nat × Nat × Bool) (J := fun p => p.1 ≤ l.length)
    (env := fun p => [(0, .p (smpL l)), (1, .i a), (2, .i b), (7, .p (.one (.arr 2 0 p.2.1 0 (rrangeS (l.take p.1) a b).length))), (8, .i p.1)])
    (mem := fun p => [.rows 33 2 p.2.1 (rowsL 2 Smp.c (rrangeS (l.take p.1) a b)) p.2.2])
    (μ := fun p => l.length - p.1) (0, 0, true) (Nat.zero_le _) ⟨[], ?_, Nat.zero_le _, ?_, ?_⟩ ?_
  · simp only [go_sem, List.take_zero, rrangeS, List.filter_nil, rowsL_nil]
  · simp only [go_sem, List.take_zero, rrangeS, List.filter_nil, List.length_nil]
  · simp only [go_sem, ltB]
    exact fun r hr => (rowsL_row r hr).2 _
  rintro ⟨k, v, f⟩ hk
  simp only at hk
  refine run_seqV ?_
  simp only [go_sem]
  refine ⟨fun h1 => ?_, fun h1 => ?_⟩
  · have hst := filter_take (fun x : Smp => decide (a ≤ x.t) && decide (x.t < b)) l h1
    have hle := filter_len (fun x : Smp => decide (a ≤ x.t) && decide (x.t < b)) l k
    have e3 : IntKind.i64.wrap ((k : Int) + 1) = ((k + 1 : Nat) : Int) := w64s (by omega)
    rw [show (l.take (k + 1)).filter (fun x : Smp => decide (a ≤ x.t) && decide (x.t < b)) = rrangeS (l.take (k + 1)) a b from rfl, show (l.take k).filter (fun x : Smp => decide (a ≤ x.t) && decide (x.t < b)) = rrangeS (l.take k) a b from rfl] at hst
    rw [show (l.take k).filter (fun x : Smp => decide (a ≤ x.t) && decide (x.t < b)) = rrangeS (l.take k) a b from rfl] at hle
    generalize hw : rrangeS (l.take k) a b = ws at hst hle ⊢
    refine V_sound ?_
    have hlx : ∀ x : Smp, (⟨x.t, x.v⟩ : Smp) = x := fun _ => rfl
    simp only [go_sem, smp_row, rowsL_len, e3, hlx]
    refine ⟨by omega, fun _ => by omega, fun hc => ⟨by omega, by omega, ?_⟩, fun hc => ?_⟩
    · have hst' : rrangeS (l.take (k + 1)) a b = ws ++ [l.getD k default] := by
        rw [hst, if_pos (by simpa using hc)]
      refine ⟨(k + 1, v + 1, false), h1, by simp only []; omega, [.rows 33 2 0 [[.c (.v (.int .i64 (l.getD k default).t)), .c (.v (.int .i64 (l.getD k default).v))]] true], ?_, Nat.zero_le _, ?_, ?_⟩
      · simp only [hst', go_sem]
      · simp only [go_sem, hst', List.length_append, List.length_cons, List.length_nil, Nat.zero_add]
      · simp only [go_sem, ltB]
        exact fun r hr => (rowsL_row r hr).2 _
    · have hst' : rrangeS (l.take (k + 1)) a b = ws := by
        rw [hst, if_neg (by simpa using hc), List.append_nil]
      refine ⟨(k + 1, v, f), h1, by simp only []; omega, [], ?_, Nat.zero_le _, ?_, ?_⟩
      · simp only [hst', go_sem]
      · simp only [go_sem, hst']
      · simp only [go_sem, ltB]
        exact fun r hr => (rowsL_row r hr).2 _
  · have hkl : k = l.length := by omega
    subst hkl
    rw [List.take_length]
    refine V_sound ?_
    simp only [go_sem]
    exact end_smp (rrangeS l a b) _ _ v f 6 0 (by simp only [go_sem]) rfl
end Go.Proofs.YtcmkhlfjcdchmaaGreat.A
end
section
namespace Go.Proofs.YtcmkhlfjcdchmaaGreat.A
open Go Go.Proofs.YtcmkhlfjcdchmaaGreatAbs
theorem sm_parts {l : List Smp} (h : smsOk l = true) {i : Nat} (hi : i < l.length) : (0 ≤ (l.getD i default).t ∧ (l.getD i default).t ≤ 1099511627776 ∧ -1099511627776 ≤ (l.getD i default).v ∧ (l.getD i default).v ≤ 1099511627776) ∧ (0 < i → (l.getD (i - 1) default).t < (l.getD i default).t) := by
  unfold smsOk at h
  have h2 := List.all_eq_true.1 (Bool.and_eq_true_iff.1 h).2 i (List.mem_range.2 hi)
  unfold smAt smOk at h2
  simp only [Bool.and_eq_true, Bool.or_eq_true, decide_eq_true_eq, beq_iff_eq] at h2
  refine ⟨by omega, fun h0 => ?_⟩
  rcases h2.2 with e | e
  · omega
  · exact e
theorem sm_rise {l : List Smp} (h : smsOk l = true) {i : Nat} : ∀ {j : Nat}, i < j → j < l.length → (l.getD i default).t < (l.getD j default).t
  | 0, hij, hj => by omega
  | j + 1, hij, hj => by
    have h1 := (sm_parts h hj).2 (by omega)
    rw [Nat.add_sub_cancel] at h1
    by_cases e : i = j
    · subst e; exact h1
    · exact Int.lt_trans (sm_rise h (show i < j by omega) (by omega)) h1
def vN (l : List Smp) (k : Nat) : Int := (l.getD k default).v
def sumN (l : List Smp) : Nat → Int
  | 0 => 0
  | k + 1 => sumN l k + vN l k
def leastN (l : List Smp) : Nat → Int
  | 0 => 0
  | k + 1 => if k = 0 then vN l k else if vN l k < leastN l k then vN l k else leastN l k
def mostN (l : List Smp) : Nat → Int
  | 0 => 0
  | k + 1 => if k = 0 then vN l k else if mostN l k < vN l k then vN l k else mostN l k
def grownN (l : List Smp) : Nat → Int
  | 0 => 0
  | k + 1 => if k = 0 then 0 else if vN l (k - 1) ≤ vN l k then grownN l k + vN l k - vN l (k - 1) else if 0 < vN l k then grownN l k + vN l k else grownN l k
theorem v_bound {l : List Smp} (h : smsOk l = true) {k : Nat} (hk : k < l.length) : -1099511627776 ≤ vN l k ∧ vN l k ≤ 1099511627776 := by
  have := (sm_parts h hk).1; unfold vN; omega
theorem sum_bound {l : List Smp} (h : smsOk l = true) : ∀ {k : Nat}, k ≤ l.length → -(1099511627776 * (k : Int)) ≤ sumN l k ∧ sumN l k ≤ 1099511627776 * (k : Int)
  | 0, hk => by simp [sumN]
  | k + 1, hk => by
    have := v_bound h (show k < l.length by omega)
    have := sum_bound h (show k ≤ l.length by omega)
    rw [sumN]; omega
theorem least_bound {l : List Smp} (h : smsOk l = true) : ∀ {k : Nat}, k ≤ l.length → -1099511627776 ≤ leastN l k ∧ leastN l k ≤ 1099511627776
  | 0, hk => by simp [leastN]
  | k + 1, hk => by
    have := v_bound h (show k < l.length by omega)
    have := least_bound h (show k ≤ l.length by omega)
    rw [leastN]; split <;> (try split) <;> omega
theorem most_bound {l : List Smp} (h : smsOk l = true) : ∀ {k : Nat}, k ≤ l.length → -1099511627776 ≤ mostN l k ∧ mostN l k ≤ 1099511627776
  | 0, hk => by simp [mostN]
  | k + 1, hk => by
    have := v_bound h (show k < l.length by omega)
    have := most_bound h (show k ≤ l.length by omega)
    rw [mostN]; split <;> (try split) <;> omega
theorem grown_bound {l : List Smp} (h : smsOk l = true) : ∀ {k : Nat}, k ≤ l.length → 0 ≤ grownN l k ∧ grownN l k ≤ 2199023255552 * (k : Int)
  | 0, hk => by simp [grownN]
  | k + 1, hk => by
    have := v_bound h (show k < l.length by omega)
    have := grown_bound h (show k ≤ l.length by omega)
    rw [grownN]
    split
    · omega
    · have := v_bound h (show k - 1 < l.length by omega)
      split
      · omega
      · split <;> omega
def totS (kind : Int) (l : List Smp) : Int × Bool :=
  if smsOk l = false ∨ kind < 1 ∨ 5 < kind then (0, false) else if kind = 1 then (sumN l l.length, true) else if kind = 4 then (l.length, true) else if kind = 2 then (leastN l l.length, decide (0 < l.length)) else if kind = 3 then (mostN l l.length, decide (0 < l.length))
  else if l.length < 2 then (0, false) else ((grownN l l.length * 60).tdiv ((l.getD (l.length - 1) default).t - (l.getD 0 default).t), true)
def fldS (kind a b : Int) : Int × Bool := if kind = 1 ∨ kind = 4 then (a + b, true) else if kind = 2 then (if b < a then b else a, true) else if kind = 3 then (if a < b then b else a, true) else (0, false)
set_option maxRecDepth 20000 in
theorem Fold_rc (kind a b : Int) (ha : -9007199254740992 ≤ a ∧ a ≤ 9007199254740992) (hb : -9007199254740992 ≤ b ∧ b ≤ 9007199254740992) (M : List Blk) : CallR Tryz.prog M n_total_Fold [.i kind, .i a, .i b] (.tup [.i (fldS kind a b).1, .b (fldS kind a b).2]) M := by
  refine callP F_total_Fold (Nat.le_of_ble_eq_true rfl) (by simp only [go_sem]) (by simp only [go_sem]) ?_ M
  simp only [c_total_Fold, go_sem]
  have h1 : ((if b < a then b else a) < -9007199254740992) = False := by simp only [eq_iff_iff, iff_false]; split <;> omega
  have h2 : (9007199254740992 < (if a < b then b else a)) = False := by simp only [eq_iff_iff, iff_false]; split <;> omega
  have e : IntKind.i64.wrap (a + b) = a + b := w64 (by omega) (by omega)
  simp only [h1, h2, e, decide_false, go_sem, fldS]
  grind
set_option maxRecDepth 20000 in
theorem rate_rc (l : List Smp) (hk : smsOk l = true) (M : List Blk) : CallR Tryz.prog M n_total_rate [smpL l] (if l.length < 2 then .tup [.i 0, .b false] else .tup [.i ((grownN l l.length * 60).tdiv ((l.getD (l.length - 1) default).t - (l.getD 0 default).t)), .b true]) M := by
  refine callP F_total_rate (Nat.le_of_ble_eq_true rfl) (by simp only [go_sem]) (by split <;> simp only [go_sem]) ?_ M
  have h64 := smsOk_len hk
  simp only [c_total_rate, go_sem]
  refine ⟨fun hc => ?_, fun hc => ?_⟩
  · rw [if_pos (by omega)]; simp only [go_sem]
  rw [if_neg (by omega)]
  refine V_loop (ι := Nat) (J := fun k => 1 ≤ k ∧ k ≤ l.length) (env := fun k => [(0, .p (smpL l)), (4, .i (grownN l k)), (5, .i k)]) (mem := fun _ => []) (μ := fun k => l.length - k) 1 ⟨Nat.le_refl _, by omega⟩ (into0 (by simp only [go_sem, grownN])) ?_
  rintro k ⟨hk1, hkl⟩
  have e1 : IntKind.i64.wrap ((k : Int) - 1) = ((k - 1 : Nat) : Int) := w64p (by omega) (by omega)
  have e2 : IntKind.i64.wrap ((k : Int) + 1) = ((k + 1 : Nat) : Int) := w64s (by omega)
  have e5 : IntKind.i64.wrap ((l.length : Int) - 1) = ((l.length - 1 : Nat) : Int) := w64p (by omega) (by omega)
  have b0 := grown_bound hk hkl
  simp only [go_sem, e1, e2, e5]
  have bl := sm_parts hk (show l.length - 1 < l.length by omega)
  have bf := sm_parts hk (show 0 < l.length by omega)
  have br := sm_rise hk (show 0 < l.length - 1 by omega) (by omega)
  have e6 : IntKind.i64.wrap ((l.getD (l.length - 1) default).t - (l.getD 0 default).t) = (l.getD (l.length - 1) default).t - (l.getD 0 default).t := w64 (by omega) (by omega)
  refine ⟨fun h1 => ?_, fun h1 => ⟨by omega, by omega, by rw [e6]; omega, ?_⟩⟩
  · have bv := v_bound hk h1
    have bp := v_bound hk (show k - 1 < l.length by omega)
    have e3 : IntKind.i64.wrap ((l.getD k default).v - (l.getD (k - 1) default).v) = vN l k - vN l (k - 1) := w64 (by unfold vN at *; omega) (by unfold vN at *; omega)
    rw [e3]
    refine ⟨by omega, by omega, fun hc => ⟨k + 1, by omega, by omega, into0 ?_⟩, fun hc => ⟨by omega, k + 1, by omega, by omega, into0 ?_⟩⟩
    · have hg : grownN l (k + 1) = IntKind.i64.wrap (grownN l k + (vN l k - vN l (k - 1))) := by
        rw [w64 (by omega) (by omega), grownN, if_neg (by omega), if_pos (by omega)]; omega
      simp only [go_sem, hg]
    · have hm : (if (0 : Int) < (l.getD k default).v then (l.getD k default).v else 0) = if 0 < vN l k then vN l k else 0 := rfl
      have hg : grownN l (k + 1) = IntKind.i64.wrap (grownN l k + (if 0 < vN l k then vN l k else 0)) := by
        rw [w64 (by split <;> omega) (by split <;> omega), grownN, if_neg (by omega), if_neg (by omega)]
        split <;> omega
      simp only [go_sem, hg, hm]
  · have hkl' : k = l.length := by omega
    subst hkl'
    rw [e6]
    have hg : IntKind.i64.wrap (grownN l l.length * 60) = grownN l l.length * 60 := w64 (by omega) (by omega)
    rw [hg, w64]
    · have := Int.tdiv_nonneg (a := grownN l l.length * 60) (b := (l.getD (l.length - 1) default).t - (l.getD 0 default).t) (by omega) (by omega)
      omega
    · have := Int.tdiv_le_self (b := (l.getD (l.length - 1) default).t - (l.getD 0 default).t) (a := grownN l l.length * 60) (by omega)
      omega
def accN (kind : Int) (l : List Smp) (k : Nat) : Int := if kind = 1 then sumN l k else if kind = 2 then leastN l k else mostN l k
theorem acc_bound {l : List Smp} (h : smsOk l = true) (kind : Int) {k : Nat} (hk : k ≤ l.length) : -70368744177664 ≤ accN kind l k ∧ accN kind l k ≤ 70368744177664 := by
  have h64 := smsOk_len h
  have a := sum_bound h hk
  have b := least_bound h hk
  have c := most_bound h hk
  unfold accN
  split
  · omega
  · split <;> omega
set_option maxRecDepth 20000 in
theorem Of_rc (kind : Int) (l : List Smp) (hl : l.length ≤ 140737488355328) (M : List Blk) : CallR Tryz.prog M n_total_Of [.i kind, smpL l] (.tup [.i (totS kind l).1, .b (totS kind l).2]) M := by
  refine callP F_total_Of (Nat.le_of_ble_eq_true rfl) (by simp only [go_sem]) (by simp only [go_sem]) ?_ M
  simp only [c_total_Of, go_sem]
  refine call0 (bCheck_rc l hl) ?_
  simp only [go_sem]
  cases hk : smsOk l with
  | false => simp only [totS, hk, go_sem]
  | true =>
    have h64 := smsOk_len hk
    simp only [go_sem]
    refine ⟨fun hc => ?_, fun hc => ?_⟩
    · simp only [Bool.or_eq_true, decide_eq_true_eq] at hc
      rw [totS, if_pos (.inr (by omega))]
      simp only [go_sem]
    simp only [Bool.or_eq_false_iff, decide_eq_false_iff_not] at hc
    have hts : totS kind l = if kind = 1 then (sumN l l.length, true) else if kind = 4 then (l.length, true) else if kind = 2 then (leastN l l.length, decide (0 < l.length)) else if kind = 3 then (mostN l l.length, decide (0 < l.length)) else if l.length < 2 then (0, false) else ((grownN l l.length * 60).tdiv ((l.getD (l.length - 1) default).t - (l.getD 0 default).t), true) := by
      rw [totS, if_neg (by rw [hk]; simp; omega)]
    rw [hts]
    refine ⟨fun h4 => ?_, fun h4 => ⟨fun h5 => ?_, fun h5 => ?_⟩⟩
    · rw [if_neg (by omega), if_pos h4]
      simp only [go_sem]
    · rw [if_neg (by omega), if_neg h4, if_neg (by omega), if_neg (by omega)]
      refine call0 (rate_rc l hk) ?_
      split <;> simp only [go_sem]
    rw [if_neg h4]
    refine V_loop (ι := Nat) (J := fun k => k ≤ l.length) (env := fun k => [(0, .i kind), (1, .p (smpL l)), (6, .i (accN kind l k)), (31, .p (smpL l)), (32, .i l.length), (33, .i k)]) (mem := fun _ => []) (μ := fun k => l.length - k) 0 (Nat.zero_le _) (into0 (by
      have : accN kind l 0 = 0 := by unfold accN sumN leastN mostN; split <;> (try split) <;> rfl
      simp only [go_sem, this])) ?_
    rintro k hkl
    have e2 : IntKind.i64.wrap ((k : Int) + 1) = ((k + 1 : Nat) : Int) := w64s (by omega)
    have ab := acc_bound hk kind hkl
    simp only [go_sem, e2]
    refine ⟨fun h1 => ⟨by omega, fun h0 => ⟨k + 1, h1, by omega, into0 ?_⟩, fun h0 => ?_⟩, fun h1 => ?_⟩
    · have h0' : k = 0 := by omega
      subst h0'
      have hv : accN kind l (0 + 1) = (l.getD 0 default).v := by
        unfold accN
        simp only [sumN, leastN, mostN, if_true, Int.zero_add]
        split <;> (try split) <;> rfl
      simp only [go_sem, hv]
    · have bv := v_bound hk h1
      have h0' : ¬ k = 0 := fun e => h0 (by rw [e]; rfl)
      refine call0 (Fold_rc kind (accN kind l k) (l.getD k default).v (by omega) (by unfold vN at bv; omega)) ?_
      have hf : (fldS kind (accN kind l k) (l.getD k default).v).1 = accN kind l (k + 1) := by
        unfold fldS accN
        by_cases k1 : kind = 1
        · subst k1; simp only [true_or, if_true, sumN]; rfl
        · rw [if_neg (by omega), if_neg k1, if_neg k1]
          by_cases k2 : kind = 2
          · rw [if_pos k2, if_pos k2, if_pos k2, leastN, if_neg h0']; rfl
          · rw [if_neg k2, if_neg k2, if_neg k2, if_pos (by omega), mostN, if_neg h0']; rfl
      simp only [go_sem, hf]
      exact ⟨k + 1, h1, by omega, into0 (by simp only [go_sem, e2])⟩
    · have hkl' : k = l.length := by omega
      subst hkl'
      unfold accN
      by_cases k1 : kind = 1
      · subst k1; simp only [if_true, beq_self_eq_true, Bool.true_or, and_self]
      · have e1 : (kind == 1) = false := by simpa using k1
        rw [if_neg k1, if_neg k1, e1, Bool.false_or]
        by_cases k2 : kind = 2
        · rw [if_pos k2, if_pos k2]
          exact ⟨rfl, by simp⟩
        · rw [if_neg k2, if_neg k2, if_pos (by omega)]
          exact ⟨rfl, by simp⟩
set_option maxRecDepth 100000 in
theorem rOf_rc (kind : Int) (l : List Smp) (hl : l.length ≤ 140737488355328) (M : List Blk) : CallR Tryz.prog M n_windroseref13_Of [.i kind, smpL l] (.tup [.i (totS kind l).1, .b (totS kind l).2]) M := by
  refine callP F_windroseref13_Of (Nat.le_of_ble_eq_true rfl) (by simp only [go_sem]) (by simp only [go_sem]) ?_ M
  simp only [c_windroseref13_Of, go_sem]
  refine call0 (rMay_rc l hl) ?_
  simp only [go_sem]
  cases hk : smsOk l with
  | false => simp only [totS, hk, go_sem]
  | true =>
    have h64 := smsOk_len hk
    simp only [go_sem]
    refine ⟨fun hc => ?_, fun hc => ?_⟩
    · simp only [Bool.or_eq_true, decide_eq_true_eq] at hc
      rw [totS, if_pos (.inr (by omega))]
      simp only [go_sem]
    simp only [Bool.or_eq_false_iff, decide_eq_false_iff_not] at hc
    have hts : totS kind l = if kind = 1 then (sumN l l.length, true) else if kind = 4 then (l.length, true) else if kind = 2 then (leastN l l.length, decide (0 < l.length)) else if kind = 3 then (mostN l l.length, decide (0 < l.length)) else if l.length < 2 then (0, false) else ((grownN l l.length * 60).tdiv ((l.getD (l.length - 1) default).t - (l.getD 0 default).t), true) := by
      rw [totS, if_neg (by rw [hk]; simp; omega)]
    rw [hts]
    refine R_loop (ι := Nat) (J := fun k => k ≤ l.length) (env := fun k => [(0, .i kind), (1, .p (smpL l)), (6, .i l.length), (7, .i (sumN l k)), (8, .i (leastN l k)), (9, .i (mostN l k)), (10, .i (grownN l k)), (11, .i k)]) (mem := fun _ => []) (μ := fun k => l.length - k) 0 (Nat.zero_le _) (into0 (by simp only [go_sem, sumN, leastN, mostN, grownN])) ?_
    rintro k hkl
    refine run_seqV ?_
    simp only [go_sem]
    refine ⟨fun h1 => ?_, fun h1 => ?_⟩
    · refine run_seq ?_
      refine run_block ?_
      refine run_seqV ?_
      simp only [go_sem]
      have bv := v_bound hk h1
      have e2 : IntKind.i64.wrap ((k : Int) + 1) = ((k + 1 : Nat) : Int) := w64s (by omega)
      have b1 := sum_bound hk hkl
      have b4 := grown_bound hk hkl
      have hv : (l.getD k default).v = vN l k := rfl
      have hsum : IntKind.i64.wrap (sumN l k + vN l k) = sumN l (k + 1) := by
        rw [sumN]; exact w64 (by omega) (by omega)
      have hz : ((k : Int) == 0) = (k == 0) := by
        rw [Bool.eq_iff_iff]; simp
      refine ⟨by omega, run_seqV ?_⟩
      simp only [go_sem, hv, hsum]
      refine run_join [(0, .i kind), (1, .p (smpL l)), (6, .i l.length), (7, .i (sumN l (k + 1))), (8, .i (leastN l (k + 1))), (9, .i (mostN l k)), (10, .i (grownN l k)), (11, .i k), (12, .i (vN l k))] [] (V_sound ?_) ?_
      · simp only [go_sem, hz]
        refine ⟨fun hc => into0 ?_, fun hc => into0 ?_⟩
        · have : leastN l (k + 1) = vN l k := by
            simp only [Bool.or_eq_true, decide_eq_true_eq, beq_iff_eq] at hc
            rw [leastN]; split
            · rfl
            · rw [if_pos (by omega)]
          simp only [go_sem, this]
        · have : leastN l (k + 1) = leastN l k := by
            simp only [Bool.or_eq_false_iff, decide_eq_false_iff_not, beq_eq_false_iff_ne, ne_eq] at hc
            rw [leastN, if_neg hc.1, if_neg hc.2]
          simp only [go_sem, this]
      refine run_join [(0, .i kind), (1, .p (smpL l)), (6, .i l.length), (7, .i (sumN l (k + 1))), (8, .i (leastN l (k + 1))), (9, .i (mostN l (k + 1))), (10, .i (grownN l k)), (11, .i k), (12, .i (vN l k))] [] (V_sound ?_) ?_
      · simp only [go_sem, hz]
        refine ⟨fun hc => into0 ?_, fun hc => into0 ?_⟩
        · have : mostN l (k + 1) = vN l k := by
            simp only [Bool.or_eq_true, decide_eq_true_eq, beq_iff_eq] at hc
            rw [mostN]; split
            · rfl
            · rw [if_pos (by omega)]
          simp only [go_sem, this]
        · have : mostN l (k + 1) = mostN l k := by
            simp only [Bool.or_eq_false_iff, decide_eq_false_iff_not, beq_eq_false_iff_ne, ne_eq] at hc
            rw [mostN, if_neg hc.1, if_neg hc.2]
          simp only [go_sem, this]
      refine V_sound ?_
      simp only [go_sem]
      by_cases h0 : k = 0
      · subst h0
        have hd : decide ((0 : Int) < ((0 : Nat) : Int)) = false := rfl
        have hg : grownN l (0 + 1) = grownN l 0 := by rw [grownN]; rfl
        simp only [hd, go_sem]
        refine V_sound ?_
        simp only [go_sem, e2]
        exact ⟨0 + 1, h1, by omega, into0 (by simp only [go_sem, hg]; rfl)⟩
      · have ep : (0 < (k : Int)) = True := eq_true (by omega)
        have ep' : (0 < k) = True := eq_true (by omega)
        have e1 : IntKind.i64.wrap ((k : Int) - 1) = ((k - 1 : Nat) : Int) := w64p (by omega) (by omega)
        have bp := v_bound hk (show k - 1 < l.length by omega)
        have hv1 : (l.getD (k - 1) default).v = vN l (k - 1) := rfl
        simp only [ep, ep', e1, hv1, go_sem, decide_true]
        refine ⟨by omega, fun hc => ⟨by omega, V_sound ?_⟩, fun hc => ⟨fun hd => V_sound ?_, fun hd => V_sound ?_⟩⟩
        · have hg : grownN l (k + 1) = IntKind.i64.wrap (IntKind.i64.wrap (grownN l k + vN l k) - vN l (k - 1)) := by
            rw [w64 (n := grownN l k + vN l k) (by omega) (by omega), w64 (by omega) (by omega), grownN, if_neg h0, if_pos hc]
          simp only [go_sem, e2]
          exact ⟨k + 1, h1, by omega, into0 (by simp only [go_sem, hg])⟩
        · have hg : grownN l (k + 1) = IntKind.i64.wrap (grownN l k + vN l k) := by
            rw [w64 (by omega) (by omega), grownN, if_neg h0, if_neg hc, if_pos hd]
          simp only [go_sem, e2]
          exact ⟨k + 1, h1, by omega, into0 (by simp only [go_sem, hg])⟩
        · have hg : grownN l (k + 1) = grownN l k := by
            rw [grownN, if_neg h0, if_neg hc, if_neg hd]
          simp only [go_sem, e2]
          exact ⟨k + 1, h1, by omega, into0 (by simp only [go_sem, hg])⟩
    · have hkl' : k = l.length := by omega
      subst hkl'
      refine ⟨fun k1 => ?_, fun k1 => ⟨fun k4 => ?_, fun k4 => ⟨fun k2 => ?_, fun k2 => ⟨fun k3 => ?_, fun k3 => ⟨fun h2 => ?_, fun h2 => ?_⟩⟩⟩⟩⟩
      · simp only [if_pos k1, go_sem]
      · simp only [if_neg k1, if_pos k4, go_sem]
      · simp only [if_neg k1, if_neg k4, if_pos k2, go_sem]
        simp
      · simp only [if_neg k1, if_neg k4, if_neg k2, if_pos k3, go_sem]
        simp
      · have h2' : l.length < 2 := by omega
        simp only [if_neg k1, if_neg k4, if_neg k2, if_neg k3, if_pos h2', go_sem]
      · have h2' : ¬ l.length < 2 := by omega
        have bl := sm_parts hk (show l.length - 1 < l.length by omega)
        have bf := sm_parts hk (show 0 < l.length by omega)
        have br := sm_rise hk (show 0 < l.length - 1 by omega) (by omega)
        have b4 := grown_bound hk (Nat.le_refl l.length)
        have e6 : IntKind.i64.wrap ((l.getD (l.length - 1) default).t - (l.getD 0 default).t) = (l.getD (l.length - 1) default).t - (l.getD 0 default).t := w64 (by omega) (by omega)
        have e5 : IntKind.i64.wrap ((l.length : Int) - 1) = ((l.length - 1 : Nat) : Int) := w64p (by omega) (by omega)
        have hg : IntKind.i64.wrap (grownN l l.length * 60) = grownN l l.length * 60 := w64 (by omega) (by omega)
        simp only [if_neg k1, if_neg k4, if_neg k2, if_neg k3, if_neg h2', go_sem, e5, e6, hg]
        refine ⟨by omega, by omega, by omega, ?_⟩
        rw [w64]
        · have := Int.tdiv_nonneg (a := grownN l l.length * 60) (b := (l.getD (l.length - 1) default).t - (l.getD 0 default).t) (by omega) (by omega)
          omega
        · have := Int.tdiv_le_self (b := (l.getD (l.length - 1) default).t - (l.getD 0 default).t) (a := grownN l l.length * 60) (by omega)
          omega
end Go.Proofs.YtcmkhlfjcdchmaaGreat.A
end
section
namespace Go.Proofs.YtcmkhlfjcdchmaaGreat.A
open Go Go.Proofs.YtcmkhlfjcdchmaaGreatAbs
structure Opn where
  kind : Int
  ser : ByteArray
  smp : Smp
  frm : Int
  to : Int
  tot : Int
instance : Inhabited Opn := ⟨⟨0, mkS [], ⟨0, 0⟩, 0, 0, 0⟩⟩
@[go_sem] def Opn.c (x : Opn) : Nat → CV
  | 0 => .v (.int .i64 x.kind)
  | 1 => .v (.string x.ser)
  | 2 => .v (.int .i64 x.smp.t)
  | 3 => .v (.int .i64 x.smp.v)
  | 4 => .v (.int .i64 x.frm)
  | 5 => .v (.int .i64 x.to)
  | _ => .v (.int .i64 x.tot)
abbrev opnA (x : Opn) : Pt := .agg [.c (.v (.int .i64 x.kind)), .c (.v (.string x.ser)), .c (.v (.int .i64 x.smp.t)), .c (.v (.int .i64 x.smp.v)), .c (.v (.int .i64 x.frm)), .c (.v (.int .i64 x.to)), .c (.v (.int .i64 x.tot))]
/-- Is a text a series'? -/
def serT (s : ByteArray) : Bool := match parS s with
  | some x => decide (prT x = s)
  | none => false
theorem serT_some {s : ByteArray} {x : Ser} (h : parS s = some x) : serT s = decide (prT x = s) := by rw [serT, h]
theorem serT_none {s : ByteArray} (h : parS s = none) : serT s = false := by rw [serT, h]
def zSer0 : Ser := ⟨mkS [], []⟩
theorem zSer0_z : zSer zSer0 := ⟨by unfold zS; exact Nat.zero_le _, Nat.zero_le _, fun i hi => absurd hi (Nat.not_lt_zero _)⟩
theorem series_rc (s : ByteArray) (hs : s.size ≤ 2000) (M : List Blk) : CallR Tryz.prog M n_shelf_series [.s s] (.b (serT s)) M := by
  refine callP F_shelf_series (Nat.le_of_ble_eq_true rfl) (by simp only [go_sem]) (by simp only [go_sem]) ?_ M
  simp only [c_shelf_series, go_sem]
  have hp := Parse_rc s (by omega)
  rw [parR] at hp
  cases hx : parS s with
  | none =>
    rw [hx] at hp
    refine call0 hp ?_
    simp only [go_sem]
    refine call0 (Print_rc zSer0 zSer0_z) ?_
    simp only [go_sem, serT_none hx]
  | some x =>
    rw [hx] at hp
    refine call0 hp ?_
    simp only [go_sem]
    refine call0 (Print_rc x (ok_zSer (parS_ok hx))) ?_
    simp only [go_sem, serT_some hx]
theorem rseries_rc (s : ByteArray) (hs : s.size ≤ 2000) (M : List Blk) : CallR Tryz.prog M n_windroseref14_series [.s s] (.b (serT s)) M := by
  refine callP F_windroseref14_series (Nat.le_of_ble_eq_true rfl) (by simp only [go_sem]) (by simp only [go_sem]) ?_ M
  simp only [c_windroseref14_series, go_sem]
  have hr := rParse_rc s hs
  rw [refR, ← parse_same] at hr
  cases hx : parS s with
  | none =>
    rw [hx] at hr
    refine call0 hr ?_
    simp only [go_sem]
    refine callg0 (r := .s (mkS [])) (fun h => Bool.noConfusion h) ?_
    simp only [go_sem, serT_none hx]
  | some x =>
    rw [hx] at hr
    refine call0 hr ?_
    simp only [go_sem]
    refine callg0 (fun _ => Text_rc x (parS_ok hx)) ?_
    rw [textR_prT (parS_ok hx)]
    simp only [go_sem, serT_some hx]
theorem in_rc (n lo hi : Int) (M : List Blk) : CallR Tryz.prog M n_shelf_in [.i n, .i lo, .i hi] (.b (decide (lo ≤ n) && decide (n ≤ hi))) M := by
  refine callP F_shelf_in (Nat.le_of_ble_eq_true rfl) (by simp only [go_sem]) (by simp only [go_sem]) ?_ M
  simp only [c_shelf_in, go_sem]
def opOk (o : Opn) : Bool :=
  if o.kind = 1 then serT o.ser && smOk o.smp && decide (o.frm = 0) && decide (o.to = 0) && decide (o.tot = 0)
  else if o.kind = 2 then decide (o.ser = mkS []) && decide (o.smp = zSmp) && decide (0 ≤ o.frm) && decide (o.frm ≤ 1099511627776) && decide (o.to = 0) && decide (o.tot = 0)
  else if o.kind = 3 then serT o.ser && decide (o.smp = zSmp) && decide (1 ≤ o.tot) && decide (o.tot ≤ 5)
  else if o.kind = 4 then serT o.ser && decide (o.smp = zSmp) && decide (o.to = 0) && decide (o.tot = 0)
  else false
theorem opn_ext {x y : Opn} : x = y ↔ x.kind = y.kind ∧ x.ser = y.ser ∧ x.smp.t = y.smp.t ∧ x.smp.v = y.smp.v ∧ x.frm = y.frm ∧ x.to = y.to ∧ x.tot = y.tot := by
  obtain ⟨a, b, ⟨c, d⟩, e, f, g⟩ := x
  obtain ⟨a', b', ⟨c', d'⟩, e', f', g'⟩ := y
  simp only [Opn.mk.injEq, Smp.mk.injEq]
  constructor
  · rintro ⟨h1, h2, ⟨h3, h4⟩, h5, h6, h7⟩; exact ⟨h1, h2, h3, h4, h5, h6, h7⟩
  · rintro ⟨h1, h2, h3, h4, h5, h6, h7⟩; exact ⟨h1, h2, ⟨h3, h4⟩, h5, h6, h7⟩
instance : DecidableEq Opn := fun a b => decidable_of_iff' _ opn_ext
theorem opn_beq (x y : Opn) : (x.kind == y.kind && (decide (x.ser = y.ser) && (x.smp.t == y.smp.t && (x.smp.v == y.smp.v && (x.frm == y.frm && (x.to == y.to && x.tot == y.tot)))))) = decide (x = y) := by
  rw [Bool.eq_iff_iff]
  simp only [Bool.and_eq_true, decide_eq_true_eq, beq_iff_eq, opn_ext]
def tailOp : C :=
 (.seq (.seq (.reg false [⟨some 70, .mv (.t 4), none⟩, ⟨some 71, .un .not (.t 70), none⟩, ⟨some 72, .mv (.t 71), none⟩, ⟨some 73, .ld true 7 (.t 1), some (72, false)⟩, ⟨some 74, .ld true 7 (.t 3), some (72, false)⟩, ⟨some 75, .eqa [1, 2, 1, 1, 1, 1, 1] true (.t 73) (.t 74), some (72, false)⟩, ⟨some 76, .pick (.t 72) (kb true) (.t 75), none⟩])
 (.cond (.t 76)
 (.seq (.reg false [⟨some 2, .mv (ki 1), none⟩])
 .ret)
 .skip))
 (.seq (.reg false [⟨some 2, .mv (ki 0), none⟩])
 .ret))
def opRow (x : Opn) : List AV := [.c (.v (.int .i64 x.kind)), .c (.v (.string x.ser)), .c (.v (.int .i64 x.smp.t)), .c (.v (.int .i64 x.smp.v)), .c (.v (.int .i64 x.frm)), .c (.v (.int .i64 x.to)), .c (.v (.int .i64 x.tot))]
set_option maxRecDepth 20000 in
theorem opTail (o b : Opn) (X : Bool) (e : Nat → SV) (D : List Blk) (R : Bool) (hR : R = (X && decide (o = b))) (h1 : e 1 = .p (.one (.ptr 0 0 0 0))) (h3 : e 3 = .p (.one (.ptr 1 0 0 0))) (h4 : e 4 = .b X) :
    Run Tryz.prog 77 0 tailOp ⟨e, .rows 35 7 0 [opRow o] true :: .rows 35 7 0 [opRow b] true :: D⟩ (FinK 77 0 [.t 2] (.i (if R then 0 else 1)) []) := by
  refine V_sound ?_
  simp only [tailOp, opRow, go_sem, h1, h3, h4, opn_beq]
  subst hR
  cases X with
  | false =>
    simp only [go_sem]
    exact fin0 (.inr rfl) rfl trivial (SubS.refl _) (by simp only [go_sem])
  | true =>
    simp only [go_sem]
    refine ⟨fun hc => ?_, fun hc => ?_⟩
    · rw [if_neg (show ¬ o = b by simpa using hc)]
      exact fin0 (.inr rfl) rfl trivial (SubS.refl _) (by simp only [go_sem])
    · rw [if_pos (show o = b by simpa using hc)]
      exact fin0 (.inr rfl) rfl trivial (SubS.refl _) (by simp only [go_sem])
set_option maxRecDepth 20000 in
theorem CheckOp_rc (o : Opn) (hs : o.ser.size ≤ 2000) (M : List Blk) : CallR Tryz.prog M n_shelf_CheckOp [opnA o] (.i (if opOk o then 0 else 1)) M := by
  refine callPG F_shelf_CheckOp (Nat.le_of_ble_eq_true rfl) (by simp only [go_sem]) ?_ M
  refine run_seqV ?_
  simp only [go_sem]
  refine run_seqV ?_
  simp only [go_sem]
  refine run_seqV ?_
  simp only [go_sem]
  refine callg0 (fun _ => series_rc o.ser hs) ?_
  simp only [go_sem]
  obtain ⟨kind, ser, smp, frm, to, tot⟩ := o
  simp only at hs ⊢
  have hsm : ∀ a b : Smp, a = b ↔ a.t = b.t ∧ a.v = b.v := fun a b => by cases a; cases b; simp
  by_cases k1 : kind = 1
  · subst k1
    cases hser : serT ser with
    | false =>
      refine run_seqV ?_
      simp only [go_sem, hser]
      refine ⟨rfl, ops_end ?_⟩
      simp only [go_sem]
      refine ops_end ?_
      simp only [go_sem]
      refine opTail ⟨1, ser, smp, frm, to, tot⟩ ⟨1, ser, smp, 0, 0, 0⟩ false _ _ _ ?_ ?_ ?_ ?_
      · simp only [opOk, hser, go_sem]
      all_goals simp only [go_sem]
    | true =>
      refine run_seqV ?_
      simp only [go_sem, hser]
      refine ⟨rfl, callLg (fun _ => bCheck_rc [smp] (Nat.le_of_ble_eq_true rfl) []) (fun _ => ⟨snapL [smp] rfl, trivial⟩) (by simp only [go_sem]) ?_⟩
      simp only [go_sem, smsOk_one]
      refine opTail ⟨1, ser, smp, frm, to, tot⟩ ⟨1, ser, smp, 0, 0, 0⟩ (smOk smp) _ _ _ ?_ ?_ ?_ ?_
      · rw [Bool.eq_iff_iff]
        simp [opOk, hser, opn_ext]
        grind
      · simp only [go_sem]
      · simp only [go_sem]
      · simp only [go_sem]
        cases smOk smp <;> rfl
  by_cases k2 : kind = 2
  · subst k2
    refine run_seqV ?_
    simp only [go_sem]
    refine call0 (in_rc frm 0 1099511627776) ?_
    simp only [go_sem]
    refine opTail ⟨2, ser, smp, frm, to, tot⟩ ⟨2, mkS [], ⟨0, 0⟩, frm, 0, 0⟩ (decide (0 ≤ frm) && decide (frm ≤ 1099511627776)) _ _ _ ?_ ?_ ?_ ?_
    · rw [Bool.eq_iff_iff]
      simp [opOk, opn_ext, hsm, zSmp]
      grind
    all_goals simp only [go_sem]
  have e2 : (kind == 2) = false := by simpa using k2
  by_cases k3 : kind = 3
  · subst k3
    cases hser : serT ser with
    | false =>
      refine run_seqV ?_
      simp only [go_sem, hser]
      refine ⟨rfl, callg0 (fun _ => in_rc tot 1 5) ?_⟩
      simp only [go_sem]
      refine opTail ⟨3, ser, smp, frm, to, tot⟩ ⟨3, ser, ⟨0, 0⟩, frm, to, tot⟩ false _ _ _ ?_ ?_ ?_ ?_
      · simp [opOk, hser]
      all_goals simp only [go_sem]
    | true =>
      refine run_seqV ?_
      simp only [go_sem, hser]
      refine ⟨rfl, callg0 (fun _ => in_rc tot 1 5) ?_⟩
      simp only [go_sem]
      refine opTail ⟨3, ser, smp, frm, to, tot⟩ ⟨3, ser, ⟨0, 0⟩, frm, to, tot⟩ (decide (1 ≤ tot) && decide (tot ≤ 5)) _ _ _ ?_ ?_ ?_ ?_
      · rw [Bool.eq_iff_iff]
        simp [opOk, hser, opn_ext, hsm, zSmp]
        grind
      all_goals simp only [go_sem]
  by_cases k4 : kind = 4
  · subst k4
    refine run_seqV ?_
    simp only [go_sem]
    refine ⟨rfl, opTail ⟨4, ser, smp, frm, to, tot⟩ ⟨4, ser, ⟨0, 0⟩, frm, 0, 0⟩ (serT ser) _ _ _ ?_ ?_ ?_ ?_⟩
    · rw [Bool.eq_iff_iff]
      simp [opOk, opn_ext, hsm, zSmp]
      grind
    all_goals simp only [go_sem]
  refine run_seqV ?_
  simp only [go_sem, k1, k2, k3, k4]
  refine opTail ⟨kind, ser, smp, frm, to, tot⟩ ⟨kind, mkS [], ⟨0, 0⟩, 0, 0, 0⟩ false _ _ _ ?_ ?_ ?_ ?_
  · simp [opOk, k1, k2, k3, k4]
  all_goals simp only [go_sem]
end Go.Proofs.YtcmkhlfjcdchmaaGreat.A
end
section
namespace Go.Proofs.YtcmkhlfjcdchmaaGreat.A
open Go Go.Proofs.YtcmkhlfjcdchmaaGreatAbs
theorem subS_b {x y : Bool} (h : x = y) : SubS (.b x) (.b y) := by rw [h]; exact SubS.refl _
set_option maxRecDepth 20000 in
theorem rOp_rc (o : Opn) (hs : o.ser.size ≤ 2000) (M : List Blk) : CallR Tryz.prog M n_windroseref14_Op [opnA o] (.b (opOk o)) M := by
  refine callPG F_windroseref14_Op (Nat.le_of_ble_eq_true rfl) (by simp only [go_sem]) ?_ M
  have hsm : ∀ a b : Smp, a = b ↔ a.t = b.t ∧ a.v = b.v := fun a b => by cases a; cases b; simp
  obtain ⟨kind, ser, smp, frm, to, tot⟩ := o
  simp only at hs ⊢
  refine run_seqV ?_
  simp only [go_sem]
  refine run_seqV ?_
  by_cases k2 : kind = 2
  · subst k2
    simp only [go_sem]
    refine fin0 (.inr rfl) rfl trivial ?_ (by simp only [go_sem])
    simp only [go_sem, mkRes]
    refine subS_b ?_
    rw [Bool.eq_iff_iff]
    simp [opOk, hsm, zSmp]
    grind
  simp only [go_sem, k2]
  refine run_seqV ?_
  simp only [go_sem]
  refine call0 (rseries_rc ser hs) ?_
  simp only [go_sem]
  cases hser : serT ser with
  | false =>
    simp only [go_sem]
    have : opOk ⟨kind, ser, smp, frm, to, tot⟩ = false := by simp [opOk, hser, k2]
    rw [this]
    exact fin0 (.inr rfl) rfl trivial (SubS.refl _) (by simp only [go_sem])
  | true =>
    simp only [go_sem]
    refine run_seqV ?_
    by_cases k1 : kind = 1
    · subst k1
      simp only [go_sem]
      refine ⟨fun hc => ?_, fun hc => ?_⟩
      · simp only [hc]
        refine callLg (fun _ => rMay_rc [smp] (Nat.le_of_ble_eq_true rfl) []) (fun _ => ⟨snapL [smp] rfl, trivial⟩) (by simp only [go_sem]) ?_
        simp only [go_sem, smsOk_one]
        refine fin0 (.inr rfl) rfl trivial ?_ (by simp only [go_sem])
        simp only [go_sem, mkRes]
        refine subS_b ?_
        simp [opOk, hser]
        simp at hc
        simp [hc]
      · simp only [hc, go_sem]
        refine ops_end ?_
        simp only [go_sem]
        refine fin0 (.inr rfl) rfl trivial ?_ (by simp only [go_sem])
        simp only [go_sem, mkRes]
        refine subS_b ?_
        simp [opOk, hser]
        simp at hc
        grind
    by_cases k3 : kind = 3
    · subst k3
      simp only [go_sem]
      refine fin0 (.inr rfl) rfl trivial ?_ (by simp only [go_sem])
      simp only [go_sem, mkRes]
      refine subS_b ?_
      rw [Bool.eq_iff_iff]
      simp [opOk, hser, hsm, zSmp]
      try grind
    by_cases k4 : kind = 4
    · subst k4
      simp only [go_sem]
      refine fin0 (.inr rfl) rfl trivial ?_ (by simp only [go_sem])
      simp only [go_sem, mkRes]
      refine subS_b ?_
      rw [Bool.eq_iff_iff]
      simp [opOk, hser, hsm, zSmp]
      try grind
    simp only [go_sem, k1, k3, k4]
    refine V_sound ?_
    simp only [go_sem]
    have : opOk ⟨kind, ser, smp, frm, to, tot⟩ = false := by simp [opOk, k1, k2, k3, k4]
    rw [this]
    exact fin0 (.inr rfl) rfl trivial (SubS.refl _) (by simp only [go_sem])
end Go.Proofs.YtcmkhlfjcdchmaaGreat.A
end
section
namespace Go.Proofs.YtcmkhlfjcdchmaaGreat.A
open Go Go.Proofs.YtcmkhlfjcdchmaaGreatAbs
structure Ans where
  code : Int
  has : Bool
  n : Int
instance : Inhabited Ans := ⟨⟨0, false, 0⟩⟩
structure Dn where
  client : Int
  id : Int
  ans : Ans
instance : Inhabited Dn := ⟨⟨0, 0, ⟨0, false, 0⟩⟩⟩
@[go_sem] def Dn.c (x : Dn) : Nat → CV
  | 0 => .v (.int .i64 x.client)
  | 1 => .v (.int .i64 x.id)
  | 2 => .v (.int .i64 x.ans.code)
  | 3 => .v (.bool x.ans.has)
  | _ => .v (.int .i64 x.ans.n)
structure Lin where
  ser : ByteArray
  smps : List Smp
instance : Inhabited Lin := ⟨⟨mkS [], []⟩⟩
@[go_sem] def Lin.c (x : Lin) : Nat → CV
  | 0 => .v (.string x.ser)
  | _ => smpCV x.smps
structure Shf where
  lines : List Lin
  dones : List Dn
  floor : Int
instance : Inhabited Shf := ⟨⟨[], [], 0⟩⟩
abbrev linL (l : List Lin) : Pt := immP 2 Lin.c l
abbrev dnL (l : List Dn) : Pt := immP 5 Dn.c l
abbrev shfA (s : Shf) : Pt := .agg [.c (immL 2 Lin.c s.lines), .c (immL 5 Dn.c s.dones), .c (.v (.int .i64 s.floor))]
@[go_sem] def Shf.c (x : Shf) : Nat → CV
  | 0 => immL 2 Lin.c x.lines
  | 1 => immL 5 Dn.c x.dones
  | _ => .v (.int .i64 x.floor)
/-- A shelf that is not too great to be looked at. -/
structure zShf (s : Shf) : Prop where
  ll : s.lines.length ≤ 1000
  dl : s.dones.length ≤ 1000
  ser : ∀ i, i < s.lines.length → (s.lines.getD i default).ser.size ≤ 2000
  smp : ∀ i, i < s.lines.length → (s.lines.getD i default).smps.length ≤ 1000
def lnAt (l : List Lin) (f : Int) (i : Nat) : Bool := serT (l.getD i default).ser && (i == 0 || sLt (l.getD (i - 1) default).ser (l.getD i default).ser) && decide (0 < (l.getD i default).smps.length) && smsOk (l.getD i default).smps && decide (f ≤ ((l.getD i default).smps.getD 0 default).t)
def dnAt (l : List Dn) (i : Nat) : Bool := decide (1 ≤ (l.getD i default).client) && decide ((l.getD i default).client ≤ 2147483647) && decide (1 ≤ (l.getD i default).id) && decide ((l.getD i default).id ≤ 2147483647) && (i == 0 || decide ((l.getD (i - 1) default).client < (l.getD i default).client))
def shOk (s : Shf) : Bool := decide (s.lines.length ≤ 16) && decide (s.dones.length ≤ 8) && decide (0 ≤ s.floor) && decide (s.floor ≤ 1099511627776) && (List.range s.lines.length).all (lnAt s.lines s.floor) && (List.range s.dones.length).all (dnAt s.dones)
theorem ifne (b : Bool) : ((if b = true then (0 : Int) else 1) != 0) = !b := by cases b <;> rfl
theorem lnAt_key (l : List Lin) (f : Int) {k : Nat} (hk : k ≤ 140737488355328) : (!serT (l.getD k default).ser || decide (0 < (k : Int)) && (sLt (l.getD k default).ser (l.getD (IntKind.i64.wrap ((k : Int) - 1)).toNat default).ser || decide ((l.getD k default).ser = (l.getD (IntKind.i64.wrap ((k : Int) - 1)).toNat default).ser)) || ((l.getD k default).smps.length : Int) == 0 || (if smsOk (l.getD k default).smps = true then (0 : Int) else 1) != 0 || decide (((l.getD k default).smps.getD 0 default).t < f)) = !lnAt l f k := by
  unfold lnAt
  rw [ifne, leS_lt]
  have e1 : ((((l.getD k default).smps.length : Nat) : Int) == 0) = !decide (0 < (l.getD k default).smps.length) := by
    rw [Bool.eq_iff_iff]; simp
  have e2 : decide (((l.getD k default).smps.getD 0 default).t < f) = !decide (f ≤ ((l.getD k default).smps.getD 0 default).t) := by
    rw [Bool.eq_iff_iff]; simp
  rw [e1, e2]
  by_cases h0 : k = 0
  · subst h0
    have : decide ((0 : Int) < ((0 : Nat) : Int)) = false := rfl
    rw [this]
    simp only [Bool.false_and, Bool.or_false, beq_self_eq_true, Bool.true_or, Bool.and_true, Bool.not_and]
  · rw [wpr (by omega) hk, decide_eq_true (show (0 : Int) < (k : Int) by omega)]
    have e : (k == 0) = false := by simpa using h0
    simp only [e, Bool.true_and, Bool.false_or, Bool.not_and]
theorem dnAt_key (l : List Dn) {k : Nat} (hk : k ≤ 140737488355328) : (!decide (1 ≤ (l.getD k default).client) || !decide ((l.getD k default).client ≤ 2147483647) || (!decide (1 ≤ (l.getD k default).id) || !decide ((l.getD k default).id ≤ 2147483647)) || decide (0 < (k : Int)) && decide ((l.getD k default).client ≤ (l.getD (IntKind.i64.wrap ((k : Int) - 1)).toNat default).client)) = !dnAt l k := by
  unfold dnAt
  rw [Bool.eq_iff_iff]
  by_cases h0 : k = 0
  · subst h0
    simp
    omega
  · rw [wpr (by omega) hk]
    have e : (k == 0) = false := by simpa using h0
    simp only [e, Bool.false_or, Bool.or_eq_true, Bool.and_eq_true, Bool.not_eq_true', Bool.and_eq_false_iff, Bool.or_eq_false_iff, decide_eq_true_eq, decide_eq_false_iff_not]
    omega
theorem shOk_f1 {s : Shf} {k : Nat} (hk : k < s.lines.length) (h : lnAt s.lines s.floor k = false) : shOk s = false := by rw [shOk, all_f hk h]; simp
theorem shOk_f2 {s : Shf} {k : Nat} (hk : k < s.dones.length) (h : dnAt s.dones k = false) : shOk s = false := by rw [shOk, all_f hk h]; simp
set_option maxRecDepth 20000 in
theorem sCheck_rc (s : Shf) (hz : zShf s) (M : List Blk) : CallR Tryz.prog M n_shelf_Check [shfA s] (.i (if shOk s then 0 else 1)) M := by
  refine callPG F_shelf_Check (Nat.le_of_ble_eq_true rfl) (by simp only [go_sem]) ?_ M
  obtain ⟨lines, dones, floor⟩ := s
  obtain ⟨hll, hdl, hser, hsmp⟩ := hz
  simp only at hll hdl hser hsmp ⊢
  have hbad : ∀ (e : Nat → SV) (X : List Blk), shOk ⟨lines, dones, floor⟩ = false → e 2 = .i 1 → FinK 109 0 [.t 2] (.i (if shOk ⟨lines, dones, floor⟩ then 0 else 1)) [] .ret ⟨e, X⟩ := by
    intro e X h h2
    rw [h]
    exact fin0 (.inr rfl) (qs := [.i 1]) (cnd := True) (by simp only [go_sem, h2]) trivial (SubS.refl _) (by simp only [go_sem])
  refine run_seqV ?_
  simp only [go_sem]
  refine run_seqV ?_
  simp only [go_sem]
  refine callg0 (fun _ => in_rc floor 0 1099511627776) ?_
  simp only [go_sem]
  refine ⟨fun hc => hbad _ _ ?_ (by simp only [go_sem]), fun hc => ?_⟩
  · cases h : shOk ⟨lines, dones, floor⟩ with
    | false => rfl
    | true =>
      exfalso
      simp only [shOk, Bool.and_eq_true, decide_eq_true_eq] at h
      simp only [Bool.or_eq_true, decide_eq_true_eq, Bool.not_eq_true', decide_eq_false_iff_not] at hc
      omega
  refine run_seqV ?_
  simp only [go_sem]
  refine V_loop (ι := Nat) (J := fun k => k ≤ lines.length ∧ ∀ i, i < k → lnAt lines floor i = true) (env := fun k => [(1, .p (.one (.ptr 0 0 0 0))), (24, .p (linL lines)), (25, .i lines.length), (26, .i k)]) (mem := fun _ => [.rows 29 3 0 [[.c (immL 2 Lin.c lines), .c (immL 5 Dn.c dones), .c (.v (.int .i64 floor))]] true]) (μ := fun k => lines.length - k) 0 ⟨Nat.zero_le _, fun j hj => by omega⟩ ⟨[], by simp only [go_sem], Nat.zero_le _, by simp only [go_sem], by simp only [go_sem, ltB]⟩ ?_
  rintro k ⟨hk, hok⟩
  simp only [go_sem]
  refine ⟨fun h1 => ⟨by omega, ?_⟩, fun h1 => ?_⟩
  · refine call0 (series_rc _ (hser k h1)) ?_
    simp only [go_sem]
    have hs1 := hsmp k h1
    refine ⟨fun hc => ?_, callg0 (fun _ => bCheck_rc _ (by omega)) ?_⟩
    · have := (Bool.and_eq_true_iff.1 hc).2
      rw [w64p (by simpa using this) (by omega)]
      omega
    simp only [go_sem]
    refine ⟨fun hc => ?_, ?_⟩
    · have hc := (Bool.and_eq_true_iff.1 (Bool.and_eq_true_iff.1 hc).1).2
      rw [Bool.not_eq_true', beq_eq_false_iff_ne] at hc
      omega
    rw [lnAt_key _ _ (by omega)]
    refine ⟨fun hc => hbad _ _ (shOk_f1 h1 (by simpa using hc)) (by simp only [go_sem]), fun hc => ⟨k + 1, ⟨by omega, fun j hj => ?_⟩, by omega, ?_⟩⟩
    · by_cases e : j = k
      · subst e; simpa using hc
      · exact hok j (by omega)
    · refine ⟨_, by simp only [go_sem]; rfl, Nat.zero_le _, ?_, by simp only [go_sem, ltB]⟩
      simp only [go_sem, w64s (show k < 9223372036854775807 by omega)]
  · refine run_seqV ?_
    simp only [go_sem]
    refine V_loop (ι := Nat) (J := fun k => k ≤ dones.length ∧ ∀ i, i < k → dnAt dones i = true) (env := fun k => [(1, .p (.one (.ptr 0 0 0 0))), (75, .p (dnL dones)), (76, .i dones.length), (77, .i k)]) (mem := fun _ => [.rows 29 3 0 [[.c (immL 2 Lin.c lines), .c (immL 5 Dn.c dones), .c (.v (.int .i64 floor))]] true]) (μ := fun k => dones.length - k) 0 ⟨Nat.zero_le _, fun j hj => by omega⟩ ⟨[], by simp only [go_sem], Nat.zero_le _, by simp only [go_sem], by simp only [go_sem, ltB]⟩ ?_
    rintro j ⟨hj, hokd⟩
    simp only [go_sem]
    refine ⟨fun h2 => ⟨by omega, ?_⟩, fun h2 => ?_⟩
    · refine call0 (in_rc _ _ _) ?_
      simp only [go_sem]
      refine callg0 (fun _ => in_rc _ _ _) ?_
      simp only [go_sem]
      rw [dnAt_key _ (by omega)]
      refine ⟨fun hc => ?_, fun hc => hbad _ _ (shOk_f2 h2 (by simpa using hc)) (by simp only [go_sem]), fun hc => ⟨j + 1, ⟨by omega, fun i hi => ?_⟩, by omega, ?_⟩⟩
      · have := (Bool.and_eq_true_iff.1 hc).2
        rw [w64p (by simpa using this) (by omega)]
        omega
      · by_cases e : i = j
        · subst e; simpa using hc
        · exact hokd i (by omega)
      · refine ⟨_, by simp only [go_sem]; rfl, Nat.zero_le _, ?_, by simp only [go_sem, ltB]⟩
        simp only [go_sem, w64s (show j < 9223372036854775807 by omega)]
    · have hok' : shOk ⟨lines, dones, floor⟩ = true := by
        simp only [Bool.or_eq_false_iff, decide_eq_false_iff_not, Bool.not_eq_false', decide_eq_true_eq] at hc
        simp only [shOk, Bool.and_eq_true, decide_eq_true_eq]
        exact ⟨⟨by omega, all_t (fun i hi => hok i (by omega))⟩, all_t (fun i hi => hokd i (by omega))⟩
      rw [hok']
      refine V_sound ?_
      simp only [go_sem]
      exact fin0 (.inr rfl) rfl trivial (SubS.refl _) (by simp only [go_sem])
end Go.Proofs.YtcmkhlfjcdchmaaGreat.A
end
section
namespace Go.Proofs.YtcmkhlfjcdchmaaGreat.A
open Go Go.Proofs.YtcmkhlfjcdchmaaGreatAbs
theorem trim_len {l : List Smp} {f : Int} (h : smsOk l = true) (h0 : 0 < l.length) : ((rtrimS l f).length = l.length) = (f ≤ (l.getD 0 default).t) := by
  rw [eq_iff_iff, rtrimS, List.length_filter_eq_length_iff]
  refine ⟨fun hx => by simpa using hx (l.getD 0 default) (getD_mem _ h0), fun hx x hm => ?_⟩
  obtain ⟨i, hi, rfl⟩ := (mem_getD (d := (default : Smp))).1 hm
  by_cases e : i = 0
  · subst e; simpa using hx
  · have := sm_rise h (show 0 < i by omega) hi
    simp only [decide_eq_true_eq]
    omega
theorem lnAt_key3 (l : List Lin) (f : Int) {k : Nat} (hk : k ≤ 140737488355328) : (!serT (l.getD k default).ser || decide (0 < (k : Int)) && !sLt (l.getD (IntKind.i64.wrap ((k : Int) - 1)).toNat default).ser (l.getD k default).ser || ((l.getD k default).smps.length : Int) == 0 || !smsOk (l.getD k default).smps || ((rtrimS (l.getD k default).smps f).length : Int) != ((l.getD k default).smps.length : Int)) = !lnAt l f k := by
  rw [← lnAt_key l f hk, ifne, leS_lt]
  cases hs : smsOk (l.getD k default).smps with
  | false => simp only [Bool.not_false, Bool.or_true, Bool.true_or]
  | true =>
    by_cases h0 : 0 < (l.getD k default).smps.length
    · have : (((rtrimS (l.getD k default).smps f).length : Int) != ((l.getD k default).smps.length : Int)) = decide (((l.getD k default).smps.getD 0 default).t < f) := by
        have e := trim_len (f := f) hs h0
        rw [Bool.eq_iff_iff]
        simp only [bne_iff_ne, ne_eq, Int.natCast_inj, e, decide_eq_true_eq, Int.not_le]
      rw [this]
    · have : (((l.getD k default).smps.length : Int) == 0) = true := by
        rw [beq_iff_eq]; omega
      rw [this]
      simp only [Bool.or_true, Bool.true_or]
theorem dnAt_key3 (l : List Dn) {k : Nat} (hk : k ≤ 140737488355328) : (decide ((l.getD k default).client < 1) || decide (2147483648 ≤ (l.getD k default).client) || decide ((l.getD k default).id < 1) || decide (2147483648 ≤ (l.getD k default).id) || decide (0 < (k : Int)) && decide ((l.getD k default).client ≤ (l.getD (IntKind.i64.wrap ((k : Int) - 1)).toNat default).client)) = !dnAt l k := by
  rw [← dnAt_key l hk, Bool.eq_iff_iff]
  simp only [Bool.or_eq_true, Bool.and_eq_true, Bool.not_eq_true', decide_eq_true_eq, decide_eq_false_iff_not]
  omega
set_option maxRecDepth 20000 in
theorem rsMay_rc (s : Shf) (hz : zShf s) (M : List Blk) : CallR Tryz.prog M n_windroseref14_May [shfA s] (.b (shOk s)) M := by
  refine callPG F_windroseref14_May (Nat.le_of_ble_eq_true rfl) (by simp only [go_sem]) ?_ M
  obtain ⟨lines, dones, floor⟩ := s
  obtain ⟨hll, hdl, hser, hsmp⟩ := hz
  simp only at hll hdl hser hsmp ⊢
  have hbad : ∀ (e : Nat → SV) (X : List Blk), shOk ⟨lines, dones, floor⟩ = false → e 2 = .b false → FinK 129 0 [.t 2] (.b (shOk ⟨lines, dones, floor⟩)) [] .ret ⟨e, X⟩ := by
    intro e X h h2
    rw [h]
    exact fin0 (.inr rfl) (qs := [.b false]) (cnd := True) (by simp only [go_sem, h2]) trivial (SubS.refl _) (by simp only [go_sem])
  have hgood : ∀ (e : Nat → SV) (X : List Blk) (b : Bool), shOk ⟨lines, dones, floor⟩ = b → e 2 = .b b → FinK 129 0 [.t 2] (.b (shOk ⟨lines, dones, floor⟩)) [] .ret ⟨e, X⟩ := by
    intro e X b h h2
    rw [h]
    exact fin0 (.inr rfl) (qs := [.b b]) (cnd := True) (by simp only [go_sem, h2]) trivial (SubS.refl _) (by simp only [go_sem])
  refine run_seqV ?_
  simp only [go_sem]
  refine run_seqV ?_
  simp only [go_sem]
  refine V_loop (ι := Nat) (J := fun k => k ≤ lines.length ∧ ∀ i, i < k → lnAt lines floor i = true) (env := fun k => [(1, .p (.one (.ptr 0 0 0 0))), (3, .i k)]) (mem := fun _ => [.rows 29 3 0 [[.c (immL 2 Lin.c lines), .c (immL 5 Dn.c dones), .c (.v (.int .i64 floor))]] true]) (μ := fun k => lines.length - k) 0 ⟨Nat.zero_le _, fun j hj => by omega⟩ ⟨[], by simp only [go_sem], Nat.zero_le _, by simp only [go_sem], by simp only [go_sem, ltB]⟩ ?_
  rintro k ⟨hk, hok⟩
  simp only [go_sem]
  refine ⟨fun h1 => ⟨by omega, ?_⟩, fun h1 => ?_⟩
  · refine call0 (rseries_rc _ (hser k h1)) ?_
    simp only [go_sem]
    have hs1 := hsmp k h1
    have hs1' : (lines.getD k default).smps.length ≤ 140737488355328 := by omega
    refine ⟨fun hc => ?_, callg0 (fun _ => rMay_rc _ hs1') ?_⟩
    · have := (Bool.and_eq_true_iff.1 hc).2
      rw [w64p (by simpa using this) (by omega)]
      omega
    simp only [go_sem]
    refine callg0 (fun _ => rTrim_rc _ (by omega) floor) ?_
    simp only [go_sem]
    rw [lnAt_key3 _ _ (by omega)]
    refine ⟨fun hc => hbad _ _ (shOk_f1 h1 (by simpa using hc)) (by simp only [go_sem]), fun hc => ⟨k + 1, ⟨by omega, fun j hj => ?_⟩, by omega, ?_⟩⟩
    · by_cases e : j = k
      · subst e; simpa using hc
      · exact hok j (by omega)
    · refine ⟨_, by simp only [go_sem]; rfl, Nat.zero_le _, ?_, by simp only [go_sem, ltB]⟩
      simp only [go_sem, w64s (show k < 9223372036854775807 by omega)]
  · refine run_seqV ?_
    simp only [go_sem]
    refine V_loop (ι := Nat) (J := fun k => k ≤ dones.length ∧ ∀ i, i < k → dnAt dones i = true) (env := fun k => [(1, .p (.one (.ptr 0 0 0 0))), (5, .i k)]) (mem := fun _ => [.rows 29 3 0 [[.c (immL 2 Lin.c lines), .c (immL 5 Dn.c dones), .c (.v (.int .i64 floor))]] true]) (μ := fun k => dones.length - k) 0 ⟨Nat.zero_le _, fun j hj => by omega⟩ ⟨[], by simp only [go_sem], Nat.zero_le _, by simp only [go_sem], by simp only [go_sem, ltB]⟩ ?_
    rintro j ⟨hj, hokd⟩
    simp only [go_sem]
    refine ⟨fun h2 => ⟨by omega, ?_⟩, fun h2 => ?_⟩
    · rw [dnAt_key3 _ (by omega)]
      refine ⟨fun hc => ?_, fun hc => hbad _ _ (shOk_f2 h2 (by simpa using hc)) (by simp only [go_sem]), fun hc => ⟨j + 1, ⟨by omega, fun i hi => ?_⟩, by omega, ?_⟩⟩
      · have := (Bool.and_eq_true_iff.1 hc).2
        rw [w64p (by simpa using this) (by omega)]
        omega
      · by_cases e : i = j
        · subst e; simpa using hc
        · exact hokd i (by omega)
      · refine ⟨_, by simp only [go_sem]; rfl, Nat.zero_le _, ?_, by simp only [go_sem, ltB]⟩
        simp only [go_sem, w64s (show j < 9223372036854775807 by omega)]
    · refine V_sound ?_
      simp only [go_sem]
      have hfin : shOk ⟨lines, dones, floor⟩ = (decide ((lines.length : Int) ≤ 16) && decide ((dones.length : Int) ≤ 8) && decide (0 ≤ floor) && decide (floor ≤ 1099511627776)) := by
        have a1 : (List.range lines.length).all (lnAt lines floor) = true := all_t (fun i hi => hok i (by omega))
        have a2 : (List.range dones.length).all (dnAt dones) = true := all_t (fun i hi => hokd i (by omega))
        rw [Bool.eq_iff_iff]
        simp only [shOk, a1, a2, Bool.and_eq_true, decide_eq_true_eq, Bool.and_true]
        omega
      exact hgood _ _ _ hfin (by simp only [go_sem])
end Go.Proofs.YtcmkhlfjcdchmaaGreat.A
end
section
namespace Go.Proofs.YtcmkhlfjcdchmaaGreat.A
open Go Go.Proofs.YtcmkhlfjcdchmaaGreatAbs
theorem line1_rc (x : Lin) (k : ByteArray) (M : List Blk) : CallR Tryz.prog M n_shelf_line_1 [.agg [.c (.v (.string x.ser)), .c (smpCV x.smps)], .s k] (.i (cmpS x.ser k)) M := by
  refine callP F_shelf_line_1 (Nat.le_of_ble_eq_true rfl) (by simp only [go_sem]) (by simp only [go_sem]) ?_ M
  simp only [c_shelf_line_1, go_sem]
  refine call0 (Compare_rc _ _) ?_
  simp only [go_sem]
def atL (l : List Lin) (k : ByteArray) : Nat := bsF (fun i => decide (cmpS (l.getD i default).ser k < 0)) 0 l.length
def hitL (l : List Lin) (k : ByteArray) : Bool := decide (atL l k < l.length) && (cmpS (l.getD (atL l k) default).ser k == 0)
theorem atL_le (l : List Lin) (k : ByteArray) : atL l k ≤ l.length := (bsF_le l.length 0 l.length (by omega) (Nat.zero_le _)).2
theorem hitL_lt {l : List Lin} {k : ByteArray} (h : hitL l k = true) : atL l k < l.length := by
  unfold hitL at h
  exact of_decide_eq_true (Bool.and_eq_true_iff.1 h).1
theorem line_rc (s : Shf) (hl : s.lines.length ≤ 140737488355328) (k : ByteArray) (M : List Blk) : CallR Tryz.prog M n_shelf_line [shfA s, .s k] (.tup [.i (atL s.lines k : Nat), .b (hitL s.lines k)]) M := by
  refine callP F_shelf_line (Nat.le_of_ble_eq_true rfl) (by simp only [go_sem]) (by simp only [go_sem]) ?_ M
  simp only [c_shelf_line, go_sem]
  refine call0 (fun M => bs_rc F_slices_BinarySearchFunc_api_Line_api_Line_string s.lines.length (by omega) (fun i j => (s.lines.getD i default).c j) (.s k) n_shelf_line_1 0 (fun _ => default) (fun i => cmpS (s.lines.getD i default).ser k) (by simp only [go_sem]) (fun i hi => absurd hi (Nat.not_lt_zero _)) (fun i hi M => line1_rc (s.lines.getD i default) k M) M) ?_
  simp only [go_sem]
  exact ⟨rfl, rfl⟩
/-- A shelf in memory of its own: its lines in the block b, its dones in the block c. -/
abbrev ownA (b vb ll c vc dl : Nat) (f : Int) : Pt := .agg [.arr 2 b vb 0 ll, .arr 5 c vc 0 dl, .c (.v (.int .i64 f))]
abbrev lnR (v : Nat) (l : List Lin) (f : Bool) : Blk := .rows 49 2 v (rowsL 2 Lin.c l) f
abbrev dnR (v : Nat) (l : List Dn) (f : Bool) : Blk := .rows 45 5 v (rowsL 5 Dn.c l) f
theorem cloneAt {α : Type} [Inhabited α] {f t sz by_ : Nat} {z : List Value} {c : α → Nat → CV} (hF : Fun Tryz.prog f 8 (cloneC t sz by_ z) [.t 2]) (l : List α) (hl : l.length * by_ ≤ 140737488355328) {n : Nat} (N : List Blk) (hN : N[n]? = some (.rows 0 0 0 [] true)) :
    CallR Tryz.prog N f [immP sz c l] (.p (.one (.arr sz n 1 0 l.length))) (N.set n (.rows t sz 1 (rowsL sz c l) false)) :=
  callR_place (v := 1) (cloneO_rc hF l hl (M := []) (by simp)) (rowsL_closed l) (by simp only [go_sem]) (by rw [rowsL_len]; exact Nat.le_refl _) n N hN
set_option maxRecDepth 20000 in
theorem own_rc (s : Shf) (hz : zShf s) {M : List Blk} (hMB : ∀ x ∈ M, ltB M.length x) : CallR Tryz.prog M n_shelf_own [shfA s] (.p (ownA (M.length + 2) 1 s.lines.length (M.length + 3) 1 s.dones.length s.floor)) (M ++ [.dead, .rows 29 3 0 [[.arr 2 (M.length + 2) 1 0 s.lines.length, .arr 5 (M.length + 3) 1 0 s.dones.length, .c (.v (.int .i64 s.floor))]] true, lnR 1 s.lines false, dnR 1 s.dones false]) := by
  refine callR_intro F_shelf_own (by simp) ?_
  obtain ⟨lines, dones, floor⟩ := s
  obtain ⟨hll, hdl, hser, hsmp⟩ := hz
  simp only at hll hdl hser hsmp ⊢
  refine run_seqV ?_
  simp only [go_sem, mget, mget0, mset, mset0, List.append_assoc, List.length_append, List.length_cons, List.length_nil, Nat.zero_add]
  refine run_regX 2 ?_
  simp only [go_sem, mget, mget0, mset, mset0, List.append_assoc, List.length_append, List.length_cons, List.length_nil, Nat.zero_add, List.replicate_succ, List.replicate_zero]
  have mS := fun (l : List Blk) (k : Nat) (X : Blk) => mset (M := M) (l := l) (k := k) (X := X)
  refine callxn (by simp only [go_sem, mget]) (fun N hN => cloneAt F_slices_Clone_api_Line_api_Line lines (by omega) N hN) ?_
  simp only [go_sem, mget, mget0, mset, mset0, Nat.add_assoc, Nat.reduceAdd]
  refine callxn (by simp only [go_sem, mget]) (fun N hN => cloneAt F_slices_Clone_api_Done_api_Done dones (by omega) N hN) ?_
  simp only [go_sem, mget, mget0, mset, mset0, Nat.add_assoc, Nat.reduceAdd]
  refine ⟨pairs_un M.length ?_ ?_, ?_⟩
  · simp only [unshift, List.map_cons, List.map_nil, Nat.add_sub_cancel_left, Nat.sub_self]
    rfl
  · simp
  refine run_seqV ?_
  simp only [go_sem, mget, mget0, mset, mset0]
  have hBL : ∀ x ∈ M ++ [Blk.rows 29 3 0 [[.arr 2 (M.length + 2) 1 0 lines.length, .arr 5 (M.length + 3) 1 0 dones.length, .c (.v (.int .i64 floor))]] true, .rows 29 3 0 [[.c (.v (.slice none 0 0)), .c (.v (.slice none 0 0)), .c (.v (.int .i64 0))]] true, lnR 1 lines false, dnR 1 dones false], ltB (M ++ [Blk.rows 29 3 0 [[.arr 2 (M.length + 2) 1 0 lines.length, .arr 5 (M.length + 3) 1 0 dones.length, .c (.v (.int .i64 floor))]] true, .rows 29 3 0 [[.c (.v (.slice none 0 0)), .c (.v (.slice none 0 0)), .c (.v (.int .i64 0))]] true, lnR 1 lines false, dnR 1 dones false]).length x := by
    refine ltM_app hMB ?_
    intro x hx
    simp only [List.mem_cons, List.not_mem_nil, or_false] at hx
    rcases hx with rfl | rfl | rfl | rfl
    · simp only [go_sem, ltB, List.length_cons, List.length_nil]
    · simp only [go_sem, ltB]
    · exact rowsL_ltB _ _ _ _ _
    · exact rowsL_ltB _ _ _ _ _
  refine R_loop (ι := Nat) (J := fun k => k ≤ lines.length)
    (env := fun k => [(1, .p (.one (.ptr M.length 0 0 0))), (2, .p (.one (.ptr (M.length + 1) 0 0 0))), (14, .p (.one (.arr 2 (M.length + 2) 1 0 lines.length))), (15, .i lines.length), (16, .i k)])
    (mem := fun _ => M ++ [.rows 29 3 0 [[.arr 2 (M.length + 2) 1 0 lines.length, .arr 5 (M.length + 3) 1 0 dones.length, .c (.v (.int .i64 floor))]] true, .rows 29 3 0 [[.c (.v (.slice none 0 0)), .c (.v (.slice none 0 0)), .c (.v (.int .i64 0))]] true, lnR 1 lines false, dnR 1 dones false])
    (μ := fun k => lines.length - k) 0 (Nat.zero_le _) ⟨[], ?_, ?_, ?_, ?_⟩ ?_
  · simp only [List.append_nil]
  · rw [List.length_append]; omega
  · simp only [go_sem, List.length_append, List.length_cons, List.length_nil]
    omega
  · exact hBL
  rintro k hk
  refine run_seqV ?_
  simp only [go_sem]
  refine run_seqV ?_
  simp only [go_sem]
  refine ⟨fun h1 => ?_, fun h1 => ?_⟩
  · refine run_seq ?_
    refine run_block ?_
    refine run_seqV ?_
    simp only [go_sem, mget, mget0, mset, mset0, List.append_assoc, List.length_append, List.length_cons, List.length_nil, Nat.zero_add, Nat.add_assoc, Nat.reduceAdd]
    have hrow := rowsL_getD (sz := 2) (c := Lin.c) h1
    have hset := rowsL_set (sz := 2) (c := Lin.c) lines k (lines.getD k default)
    have hsame : lines.set k (lines.getD k default) = lines := set_self (getD_some h1)
    rw [hsame] at hset
    have hs1 := hsmp k h1
    simp only [hrow, go_sem]
    simp only [go_sem] at hset
    refine ⟨by omega, h1, ?_⟩
    refine V_sound ?_
    simp only [go_sem, mget, mget0, mset, mset0]
    refine call0 (clone_rc (c := Smp.c) F_slices_Clone_api_Sample_api_Sample (lines.getD k default).smps (by omega)) ?_
    simp only [go_sem, mget, mget0, mset, mset0, hrow, hset]
    refine ⟨by omega, h1, h1, V_sound ?_⟩
    simp only [go_sem, w64s (show k < 9223372036854775807 by omega)]
    refine ⟨k + 1, h1, by omega, [_], by simp only [List.append_assoc, List.cons_append, List.nil_append]; rfl, ?_, ?_, ?_⟩
    · rw [List.length_append]; omega
    · simp only [go_sem, List.length_append, List.length_cons, List.length_nil]
      omega
    · exact hBL
  · refine V_sound ?_
    simp only [go_sem, mget, mget0, mset, mset0]
    refine fin_m (.inr rfl) (gh_kill M.length) [] (qs := [ownA (M.length + 2) 1 lines.length (M.length + 3) 1 dones.length floor]) (cnd := True) ?_ trivial ?_ (SubS.refl _) ?_ ?_ ?_
    · simp only [go_sem, mget, mget0, mset, mset0]
    · simp only [mset0, go_sem]
    · rw [List.length_append]; omega
    · simp only [go_sem, List.length_append, List.length_cons, List.length_nil]
    · refine ltM_app hMB ?_
      intro x hx
      simp only [List.mem_cons, List.not_mem_nil, or_false] at hx
      rcases hx with rfl | rfl | rfl | rfl
      · trivial
      · simp only [go_sem, ltB, List.length_cons, List.length_nil]
      · exact rowsL_ltB _ _ _ _ _
      · exact rowsL_ltB _ _ _ _ _
end Go.Proofs.YtcmkhlfjcdchmaaGreat.A
end
