/- Part 7 of the texts on which the row stands: CdPg, PgA, PgB, PgC, PgD, PgE, PgF, PgG, PgGa, PgK, PgL, PgM, PgN, PgO. Conditions: none. -/
import Derived.Test.YtcmkhlfjcdchmaaGreatPgpf
import Derived.Test.YtcmkhlfjcdchmaaGreatProg
set_option linter.unusedVariables false
set_option linter.unusedSimpArgs false
section
set_option maxRecDepth 100000
namespace Go.Proofs.YtcmkhlfjcdchmaaGreat.A
open Go Go.Proofs.YtcmkhlfjcdchmaaGreatAbs

/-- windrose/windroselaw28.PglogLooks -/
def c_windroselaw28_PglogLooks : C :=
 (.seq (.reg false [⟨some 1, .box 60 6 (.t 0), none⟩, ⟨some 2, .mv (kb false), none⟩])
 (.seq (.seq (.reg false [⟨some 3, .ld true 6 (.t 1), none⟩, ⟨some 4, .call (kf 27) [(.t 3)], none⟩, ⟨some 5, .un .not (.t 4), none⟩])
 (.cond (.t 5)
 (.seq (.reg false [⟨some 6, .call (kf 28) [], none⟩, ⟨some 2, .mv (.t 6), none⟩])
 .ret)
 .skip))
 (.seq (.seq (.reg true [⟨some 7, .ld true 6 (.t 1), none⟩, ⟨some 8, .call (kf 29) [(.t 7)], none⟩, ⟨some 9, .bin .eql (.t 8) (ki 0), none⟩, ⟨some 10, .ld true 6 (.t 1), none⟩, ⟨some 11, .call (kf 30) [(.t 10)], none⟩, ⟨some 12, .eqb true (.t 9) (.t 11), none⟩])
 (.cond (.t 12)
 (.seq (.reg false [⟨some 2, .mv (kb false), none⟩])
 .ret)
 .skip))
 (.seq (.seq (.reg false [⟨some 13, .ld true 6 (.t 1), none⟩, ⟨some 14, .call (kf 30) [(.t 13)], none⟩, ⟨some 15, .un .not (.t 14), none⟩])
 (.cond (.t 15)
 (.seq (.reg false [⟨some 16, .ld true 6 (.t 1), none⟩, ⟨some 17, .call (kf 31) [(.t 16)], none⟩, ⟨some 18, .bin .eql (.t 17) (ki 0), none⟩, ⟨some 19, .mv (.t 18), none⟩, ⟨some 20, .ld true 6 (.t 1), some (19, true)⟩, ⟨some 21, .call (kf 32) [(.t 20)], some (19, true)⟩, ⟨some 22, .bin .eql (.t 21) (ki 0), some (19, true)⟩, ⟨some 23, .pick (.t 19) (.t 22) (kb false), none⟩, ⟨some 24, .mv (.t 23), none⟩, ⟨some 25, .ld true 6 (.t 1), some (24, true)⟩, ⟨some 26, .call (kf 33) [(.t 25)], some (24, true)⟩, ⟨some 27, .len (.t 26), some (24, true)⟩, ⟨some 28, .bin .eql (.t 27) (ki 0), some (24, true)⟩, ⟨some 29, .pick (.t 24) (.t 28) (kb false), none⟩, ⟨some 30, .mv (.t 29), none⟩, ⟨some 31, .ld true 6 (.t 1), some (30, true)⟩, ⟨some 32, .call (kf 34) [(.t 31)], some (30, true)⟩, ⟨some 33, .bld [.slice none 0 0, .slice none 0 0, .int .i64 0] [], some (30, true)⟩, ⟨some 34, .call (kf 11) [(.t 32), (.t 33)], some (30, true)⟩, ⟨some 35, .pick (.t 30) (.t 34) (kb false), none⟩, ⟨some 36, .mv (.t 35), none⟩, ⟨some 37, .call (kf 28) [], some (36, true)⟩, ⟨some 38, .pick (.t 36) (.t 37) (kb false), none⟩, ⟨some 2, .mv (.t 38), none⟩])
 .ret)
 .skip))
 (.seq (.reg true [⟨some 39, .ld true 6 (.t 1), none⟩, ⟨some 40, .call (kf 31) [(.t 39)], none⟩, ⟨some 41, .ld true 6 (.t 1), none⟩, ⟨some 42, .call (kf 35) [(.t 41)], none⟩, ⟨some 43, .bin .eql (.t 40) (.t 42), none⟩, ⟨some 44, .mv (.t 43), none⟩, ⟨some 45, .ld true 6 (.t 1), some (44, true)⟩, ⟨some 46, .call (kf 32) [(.t 45)], some (44, true)⟩, ⟨some 47, .ld true 6 (.t 1), some (44, true)⟩, ⟨some 48, .call (kf 36) [(.t 47)], some (44, true)⟩, ⟨some 49, .bin .eql (.t 46) (.t 48), some (44, true)⟩, ⟨some 50, .pick (.t 44) (.t 49) (kb false), none⟩, ⟨some 51, .mv (.t 50), none⟩, ⟨some 52, .ld true 6 (.t 1), some (51, true)⟩, ⟨some 53, .call (kf 33) [(.t 52)], some (51, true)⟩, ⟨some 54, .ld true 6 (.t 1), some (51, true)⟩, ⟨some 55, .call (kf 38) [(.t 54)], some (51, true)⟩, ⟨some 56, .call (kf 37) [(.t 53), (.t 55)], some (51, true)⟩, ⟨some 57, .pick (.t 51) (.t 56) (kb false), none⟩, ⟨some 58, .mv (.t 57), none⟩, ⟨some 59, .ld true 6 (.t 1), some (58, true)⟩, ⟨some 60, .call (kf 34) [(.t 59)], some (58, true)⟩, ⟨some 61, .ld true 6 (.t 1), some (58, true)⟩, ⟨some 62, .call (kf 39) [(.t 61)], some (58, true)⟩, ⟨some 63, .call (kf 11) [(.t 60), (.t 62)], some (58, true)⟩, ⟨some 64, .pick (.t 58) (.t 63) (kb false), none⟩, ⟨some 65, .mv (.t 64), none⟩, ⟨some 66, .ld true 6 (.t 1), some (65, true)⟩, ⟨some 67, .ld true 6 (.t 1), some (65, true)⟩, ⟨some 68, .call (kf 40) [(.t 66), (.t 67)], some (65, true)⟩, ⟨some 69, .pick (.t 65) (.t 68) (kb false), none⟩, ⟨some 70, .mv (.t 69), none⟩, ⟨some 71, .call (kf 28) [], some (70, true)⟩, ⟨some 72, .pick (.t 70) (.t 71) (kb false), none⟩, ⟨some 2, .mv (.t 72), none⟩])
 .ret)))))
abbrev n_windroselaw28_PglogLooks : Nat := 7
theorem F_windroselaw28_PglogLooks : Fun Tryz.prog n_windroselaw28_PglogLooks 73 c_windroselaw28_PglogLooks [.t 2] := ⟨⟨Tryz.f7, _, Tryz.func7, by kernel_rfl, rfl, rfl, by kernel_rfl, by kernel_rfl⟩⟩
/-- windrose/windroselaw28.PglogTurns -/
def c_windroselaw28_PglogTurns : C :=
 (.seq (.reg false [⟨some 3, .box 60 6 (.t 0), none⟩, ⟨some 4, .box 37 10 (.t 1), none⟩, ⟨some 6, .mv (kb false), none⟩])
 (.seq (.seq (.reg false [⟨some 20, .ld true 6 (.t 3), none⟩, ⟨some 21, .call (kf 27) [(.t 20)], none⟩, ⟨some 22, .un .not (.t 21), none⟩, ⟨some 23, .mv (.t 22), none⟩, ⟨some 24, .fa 3 (.t 4), some (23, false)⟩, ⟨some 25, .fa 1 (.t 24), some (23, false)⟩, ⟨some 26, .ld false 1 (.t 25), some (23, false)⟩, ⟨some 27, .lens (.t 26), some (23, false)⟩, ⟨some 28, .bin .gtr (.t 27) (ki 300), some (23, false)⟩, ⟨some 29, .pick (.t 23) (kb true) (.t 28), none⟩])
 (.cond (.t 29)
 (.seq (.reg false [⟨some 30, .call (kf 28) [], none⟩, ⟨some 6, .mv (.t 30), none⟩])
 .ret)
 .skip))
 (.seq (.reg false [⟨some 32, .ld true 6 (.t 3), none⟩, ⟨some 33, .ld true 10 (.t 4), none⟩, ⟨some 34, .call (kf 41) [(.t 32), (.t 33)], none⟩, ⟨some 31, .mv (.t 34), none⟩, ⟨some 35, .ex (.t 31) 0, none⟩, ⟨some 36, .ex (.t 31) 1, none⟩, ⟨some 7, .alloc 60 6 [.slice none 0 0, .slice none 0 0, .int .i64 0, .int .i64 0, .int .i64 0, .slice none 0 0], none⟩, ⟨none, .st 6 (.t 7) (.t 35), none⟩, ⟨some 8, .mv (.t 36), none⟩])
 (.seq (.reg false [⟨some 38, .ld true 6 (.t 3), none⟩, ⟨some 39, .mv (.t 2), none⟩, ⟨some 40, .call (kf 42) [(.t 38), (.t 39)], none⟩, ⟨some 37, .mv (.t 40), none⟩, ⟨some 41, .ex (.t 37) 0, none⟩, ⟨some 42, .ex (.t 37) 1, none⟩, ⟨some 9, .alloc 60 6 [.slice none 0 0, .slice none 0 0, .int .i64 0, .int .i64 0, .int .i64 0, .slice none 0 0], none⟩, ⟨none, .st 6 (.t 9) (.t 41), none⟩, ⟨some 10, .mv (.t 42), none⟩])
 (.seq (.reg false [⟨some 44, .ld true 6 (.t 3), none⟩, ⟨some 45, .mv (.t 2), none⟩, ⟨some 46, .call (kf 43) [(.t 44), (.t 45)], none⟩, ⟨some 43, .mv (.t 46), none⟩, ⟨some 47, .ex (.t 43) 0, none⟩, ⟨some 48, .ex (.t 43) 1, none⟩, ⟨some 11, .alloc 60 6 [.slice none 0 0, .slice none 0 0, .int .i64 0, .int .i64 0, .int .i64 0, .slice none 0 0], none⟩, ⟨none, .st 6 (.t 11) (.t 47), none⟩, ⟨some 12, .mv (.t 48), none⟩])
 (.seq (.seq (.reg false [⟨some 49, .ld true 6 (.t 3), none⟩, ⟨some 50, .call (kf 30) [(.t 49)], none⟩, ⟨some 51, .un .not (.t 50), none⟩])
 (.cond (.t 51)
 (.seq (.reg false [⟨some 52, .ld true 6 (.t 7), none⟩, ⟨some 53, .mv (.t 8), none⟩, ⟨some 54, .call (kf 44) [(.t 52), (.t 53)], none⟩, ⟨some 55, .mv (.t 54), none⟩, ⟨some 56, .ld true 6 (.t 9), some (55, true)⟩, ⟨some 57, .mv (.t 10), some (55, true)⟩, ⟨some 58, .call (kf 44) [(.t 56), (.t 57)], some (55, true)⟩, ⟨some 59, .pick (.t 55) (.t 58) (kb false), none⟩, ⟨some 60, .mv (.t 59), none⟩, ⟨some 61, .ld true 6 (.t 11), some (60, true)⟩, ⟨some 62, .mv (.t 12), some (60, true)⟩, ⟨some 63, .call (kf 44) [(.t 61), (.t 62)], some (60, true)⟩, ⟨some 64, .pick (.t 60) (.t 63) (kb false), none⟩, ⟨some 65, .mv (.t 64), none⟩, ⟨some 66, .call (kf 28) [], some (65, true)⟩, ⟨some 67, .pick (.t 65) (.t 66) (kb false), none⟩, ⟨some 6, .mv (.t 67), none⟩])
 .ret)
 .skip))
 (.seq (.reg false [⟨some 69, .ld true 6 (.t 3), none⟩, ⟨some 70, .ld true 10 (.t 4), none⟩, ⟨some 71, .call (kf 45) [(.t 69), (.t 70)], none⟩, ⟨some 68, .mv (.t 71), none⟩, ⟨some 72, .ex (.t 68) 0, none⟩, ⟨some 73, .ex (.t 68) 1, none⟩, ⟨some 13, .alloc 60 6 [.slice none 0 0, .slice none 0 0, .int .i64 0, .int .i64 0, .int .i64 0, .slice none 0 0], none⟩, ⟨none, .st 6 (.t 13) (.t 72), none⟩, ⟨some 14, .mv (.t 73), none⟩])
 (.seq (.reg false [⟨some 75, .ld true 6 (.t 3), none⟩, ⟨some 76, .mv (.t 2), none⟩, ⟨some 77, .call (kf 46) [(.t 75), (.t 76)], none⟩, ⟨some 74, .mv (.t 77), none⟩, ⟨some 78, .ex (.t 74) 0, none⟩, ⟨some 79, .ex (.t 74) 1, none⟩, ⟨some 15, .alloc 60 6 [.slice none 0 0, .slice none 0 0, .int .i64 0, .int .i64 0, .int .i64 0, .slice none 0 0], none⟩, ⟨none, .st 6 (.t 15) (.t 78), none⟩, ⟨some 16, .mv (.t 79), none⟩])
 (.seq (.reg false [⟨some 81, .ld true 6 (.t 3), none⟩, ⟨some 82, .mv (.t 2), none⟩, ⟨some 83, .call (kf 47) [(.t 81), (.t 82)], none⟩, ⟨some 80, .mv (.t 83), none⟩, ⟨some 84, .ex (.t 80) 0, none⟩, ⟨some 85, .ex (.t 80) 1, none⟩, ⟨some 17, .alloc 60 6 [.slice none 0 0, .slice none 0 0, .int .i64 0, .int .i64 0, .int .i64 0, .slice none 0 0], none⟩, ⟨none, .st 6 (.t 17) (.t 84), none⟩, ⟨some 18, .mv (.t 85), none⟩])
 (.seq (.reg false [⟨some 86, .ld true 6 (.t 7), none⟩, ⟨some 87, .ld true 6 (.t 13), none⟩, ⟨some 88, .call (kf 48) [(.t 86), (.t 87)], none⟩, ⟨some 89, .mv (.t 88), none⟩, ⟨some 90, .ld true 6 (.t 9), some (89, true)⟩, ⟨some 91, .ld true 6 (.t 15), some (89, true)⟩, ⟨some 92, .call (kf 48) [(.t 90), (.t 91)], some (89, true)⟩, ⟨some 93, .pick (.t 89) (.t 92) (kb false), none⟩, ⟨some 94, .mv (.t 93), none⟩, ⟨some 95, .ld true 6 (.t 11), some (94, true)⟩, ⟨some 96, .ld true 6 (.t 17), some (94, true)⟩, ⟨some 97, .call (kf 48) [(.t 95), (.t 96)], some (94, true)⟩, ⟨some 98, .pick (.t 94) (.t 97) (kb false), none⟩, ⟨some 19, .mv (.t 98), none⟩])
 (.seq (.reg true [⟨some 99, .mv (.t 8), none⟩, ⟨some 100, .mv (.t 14), none⟩, ⟨some 101, .bin .eql (.t 99) (.t 100), none⟩, ⟨some 102, .mv (.t 101), none⟩, ⟨some 103, .mv (.t 10), some (102, true)⟩, ⟨some 104, .mv (.t 16), some (102, true)⟩, ⟨some 105, .bin .eql (.t 103) (.t 104), some (102, true)⟩, ⟨some 106, .pick (.t 102) (.t 105) (kb false), none⟩, ⟨some 107, .mv (.t 106), none⟩, ⟨some 108, .mv (.t 12), some (107, true)⟩, ⟨some 109, .mv (.t 18), some (107, true)⟩, ⟨some 110, .bin .eql (.t 108) (.t 109), some (107, true)⟩, ⟨some 111, .pick (.t 107) (.t 110) (kb false), none⟩, ⟨some 112, .mv (.t 111), none⟩, ⟨some 113, .mv (.t 19), some (112, true)⟩, ⟨some 114, .pick (.t 112) (.t 113) (kb false), none⟩, ⟨some 115, .mv (.t 114), none⟩, ⟨some 116, .ld true 6 (.t 7), some (115, true)⟩, ⟨some 117, .call (kf 30) [(.t 116)], some (115, true)⟩, ⟨some 118, .pick (.t 115) (.t 117) (kb false), none⟩, ⟨some 119, .mv (.t 118), none⟩, ⟨some 120, .ld true 6 (.t 11), some (119, true)⟩, ⟨some 121, .call (kf 30) [(.t 120)], some (119, true)⟩, ⟨some 122, .pick (.t 119) (.t 121) (kb false), none⟩, ⟨some 123, .mv (.t 122), none⟩, ⟨some 124, .ld true 6 (.t 11), some (123, true)⟩, ⟨some 125, .call (kf 34) [(.t 124)], some (123, true)⟩, ⟨some 126, .ld true 6 (.t 3), some (123, true)⟩, ⟨some 127, .call (kf 39) [(.t 126)], some (123, true)⟩, ⟨some 128, .call (kf 11) [(.t 125), (.t 127)], some (123, true)⟩, ⟨some 129, .pick (.t 123) (.t 128) (kb false), none⟩, ⟨some 130, .mv (.t 129), none⟩, ⟨some 131, .call (kf 28) [], some (130, true)⟩, ⟨some 132, .pick (.t 130) (.t 131) (kb false), none⟩, ⟨some 6, .mv (.t 132), none⟩])
 .ret)))))))))))
abbrev n_windroselaw28_PglogTurns : Nat := 8
theorem F_windroselaw28_PglogTurns : Fun Tryz.prog n_windroselaw28_PglogTurns 133 c_windroselaw28_PglogTurns [.t 6] := ⟨⟨Tryz.f8, _, Tryz.func8, by kernel_rfl, rfl, rfl, by kernel_rfl, by kernel_rfl⟩⟩
/-- windrose/windroselaw28.Light -/
def c_windroselaw28_Light : C :=
 (.seq (.reg false [⟨some 1, .box 60 6 (.t 0), none⟩, ⟨some 2, .mv (kb false), none⟩])
 (.seq (.seq (.reg false [⟨some 3, .mv (ki 0), none⟩])
 (.block 0 (.loop (.seq (.seq (.reg false [⟨some 4, .mv (.t 3), none⟩, ⟨some 5, .fa 5 (.t 1), none⟩, ⟨some 6, .ld false 1 (.t 5), none⟩, ⟨some 7, .len (.t 6), none⟩, ⟨some 8, .bin .lss (.t 4) (.t 7), none⟩, ⟨some 9, .mv (.t 8), none⟩, ⟨some 10, .mv (.t 3), some (9, true)⟩, ⟨some 11, .bin .lss (.t 10) (ki 40), some (9, true)⟩, ⟨some 12, .pick (.t 9) (.t 11) (kb false), none⟩])
 (.cond (.t 12)
 .skip
 (.exit 0)))
 (.seq (.block 1 (.seq (.reg false [⟨some 15, .fa 5 (.t 1), none⟩, ⟨some 16, .ld false 1 (.t 15), none⟩, ⟨some 17, .mv (.t 3), none⟩, ⟨some 18, .ia 10 (.t 16) (.t 17), none⟩, ⟨some 19, .fa 3 (.t 18), none⟩, ⟨some 20, .fa 1 (.t 19), none⟩, ⟨some 21, .ld false 1 (.t 20), none⟩, ⟨some 22, .lens (.t 21), none⟩, ⟨some 23, .bin .gtr (.t 22) (ki 300), none⟩])
 (.cond (.t 23)
 (.seq (.reg false [⟨some 2, .mv (kb false), none⟩])
 .ret)
 .skip)))
 (.reg false [⟨some 13, .mv (.t 3), none⟩, ⟨some 14, .bin .add (.t 13) (ki 1), none⟩, ⟨some 3, .mv (.t 14), none⟩]))))))
 (.seq (.reg false [⟨some 24, .fa 0 (.t 1), none⟩, ⟨some 25, .ld true 3 (.t 24), none⟩, ⟨some 26, .call (kf 19) [(.t 25)], none⟩, ⟨some 27, .mv (.t 26), none⟩, ⟨some 28, .fa 5 (.t 1), some (27, true)⟩, ⟨some 29, .ld false 1 (.t 28), some (27, true)⟩, ⟨some 30, .len (.t 29), some (27, true)⟩, ⟨some 31, .bin .leq (.t 30) (ki 40), some (27, true)⟩, ⟨some 32, .pick (.t 27) (.t 31) (kb false), none⟩, ⟨some 2, .mv (.t 32), none⟩])
 .ret)))
abbrev n_windroselaw28_Light : Nat := 27
theorem F_windroselaw28_Light : Fun Tryz.prog n_windroselaw28_Light 33 c_windroselaw28_Light [.t 2] := ⟨⟨Tryz.f27, _, Tryz.func27, by kernel_rfl, rfl, rfl, by kernel_rfl, by kernel_rfl⟩⟩
/-- windrose/windroselaw28.awake -/
def c_windroselaw28_awake : C :=
 (.seq (.reg false [⟨some 0, .mv (kb false), none⟩])
 (.seq (.reg false [⟨some 8, .bld [.slice none 0 0, .slice none 0 0, .int .i64 0, .int .i64 0, .int .i64 0, .slice none 0 0] [], none⟩, ⟨some 9, .call (kf 64) [(ki 1), (ki 1)], none⟩, ⟨some 10, .call (kf 41) [(.t 8), (.t 9)], none⟩, ⟨some 7, .mv (.t 10), none⟩, ⟨some 11, .ex (.t 7) 0, none⟩, ⟨some 12, .ex (.t 7) 1, none⟩, ⟨some 1, .alloc 60 6 [.slice none 0 0, .slice none 0 0, .int .i64 0, .int .i64 0, .int .i64 0, .slice none 0 0], none⟩, ⟨none, .st 6 (.t 1) (.t 11), none⟩, ⟨some 2, .mv (.t 12), none⟩])
 (.seq (.reg true [⟨some 14, .ld true 6 (.t 1), none⟩, ⟨some 15, .call (kf 64) [(ki 1), (ki 2)], none⟩, ⟨some 16, .call (kf 41) [(.t 14), (.t 15)], none⟩, ⟨some 13, .mv (.t 16), none⟩, ⟨some 17, .ex (.t 13) 0, none⟩, ⟨some 18, .ex (.t 13) 1, none⟩, ⟨none, .st 6 (.t 1) (.t 17), none⟩, ⟨some 3, .mv (.t 18), none⟩])
 (.seq (.reg true [⟨some 20, .ld true 6 (.t 1), none⟩, ⟨some 21, .call (kf 64) [(ki 2), (ki 3)], none⟩, ⟨some 22, .call (kf 41) [(.t 20), (.t 21)], none⟩, ⟨some 19, .mv (.t 22), none⟩, ⟨some 23, .ex (.t 19) 0, none⟩, ⟨some 24, .ex (.t 19) 1, none⟩, ⟨none, .st 6 (.t 1) (.t 23), none⟩, ⟨some 4, .mv (.t 24), none⟩])
 (.seq (.reg false [⟨some 26, .ld true 6 (.t 1), none⟩, ⟨some 27, .bsl 3 1 2 [.int .i64 0] [(0, (ki 1)), (1, (ki 3))], none⟩, ⟨some 28, .call (kf 65) [(.t 26), (ki 0), (ki 0), (.t 27)], none⟩, ⟨some 25, .mv (.t 28), none⟩, ⟨some 29, .ex (.t 25) 0, none⟩, ⟨some 30, .ex (.t 25) 1, none⟩, ⟨some 5, .mv (.t 29), none⟩, ⟨some 6, .mv (.t 30), none⟩])
 (.seq (.reg false [⟨some 31, .mv (.t 2), none⟩, ⟨some 32, .bin .eql (.t 31) (ki 0), none⟩, ⟨some 33, .mv (.t 32), none⟩, ⟨some 34, .mv (.t 3), some (33, true)⟩, ⟨some 35, .bin .eql (.t 34) (ki 0), some (33, true)⟩, ⟨some 36, .pick (.t 33) (.t 35) (kb false), none⟩, ⟨some 37, .mv (.t 36), none⟩, ⟨some 38, .mv (.t 4), some (37, true)⟩, ⟨some 39, .bin .eql (.t 38) (ki 0), some (37, true)⟩, ⟨some 40, .pick (.t 37) (.t 39) (kb false), none⟩, ⟨some 41, .mv (.t 40), none⟩, ⟨some 42, .mv (.t 5), some (41, true)⟩, ⟨some 43, .bin .eql (.t 42) (ki 1), some (41, true)⟩, ⟨some 44, .pick (.t 41) (.t 43) (kb false), none⟩, ⟨some 45, .mv (.t 44), none⟩, ⟨some 46, .mv (.t 6), some (45, true)⟩, ⟨some 47, .pick (.t 45) (.t 46) (kb false), none⟩, ⟨some 48, .mv (.t 47), none⟩, ⟨some 49, .ld true 6 (.t 1), some (48, true)⟩, ⟨some 50, .call (kf 31) [(.t 49)], some (48, true)⟩, ⟨some 51, .bin .eql (.t 50) (ki 3), some (48, true)⟩, ⟨some 52, .pick (.t 48) (.t 51) (kb false), none⟩, ⟨some 53, .mv (.t 52), none⟩, ⟨some 54, .ld true 6 (.t 1), some (53, true)⟩, ⟨some 55, .call (kf 32) [(.t 54)], some (53, true)⟩, ⟨some 56, .bin .eql (.t 55) (ki 2), some (53, true)⟩, ⟨some 57, .pick (.t 53) (.t 56) (kb false), none⟩, ⟨some 0, .mv (.t 57), none⟩])
 .ret))))))
abbrev n_windroselaw28_awake : Nat := 28
theorem F_windroselaw28_awake : Fun Tryz.prog n_windroselaw28_awake 58 c_windroselaw28_awake [.t 0] := ⟨⟨Tryz.f28, _, Tryz.func28, by kernel_rfl, rfl, rfl, by kernel_rfl, by kernel_rfl⟩⟩
/-- windrose/pglog.Check -/
def c_pglog_Check : C :=
 (.seq (.reg false [⟨some 1, .box 60 6 (.t 0), none⟩, ⟨some 2, .mv (ki 0), none⟩])
 (.seq (.seq (.reg false [⟨some 3, .fa 0 (.t 1), none⟩, ⟨some 4, .ld true 3 (.t 3), none⟩, ⟨some 5, .call (kf 20) [(.t 4)], none⟩, ⟨some 6, .bin .neq (.t 5) (ki 0), none⟩, ⟨some 7, .mv (.t 6), none⟩, ⟨some 8, .fa 3 (.t 1), some (7, false)⟩, ⟨some 9, .ld false 1 (.t 8), some (7, false)⟩, ⟨some 10, .call (kf 66) [(.t 9), (ki 0), (ki 2147483647)], some (7, false)⟩, ⟨some 11, .un .not (.t 10), some (7, false)⟩, ⟨some 12, .pick (.t 7) (kb true) (.t 11), none⟩, ⟨some 13, .mv (.t 12), none⟩, ⟨some 14, .fa 4 (.t 1), some (13, false)⟩, ⟨some 15, .ld false 1 (.t 14), some (13, false)⟩, ⟨some 16, .call (kf 66) [(.t 15), (ki 0), (ki 2147483647)], some (13, false)⟩, ⟨some 17, .un .not (.t 16), some (13, false)⟩, ⟨some 18, .pick (.t 13) (kb true) (.t 17), none⟩, ⟨some 19, .mv (.t 18), none⟩, ⟨some 20, .fa 3 (.t 1), some (19, false)⟩, ⟨some 21, .ld false 1 (.t 20), some (19, false)⟩, ⟨some 22, .bin .eql (.t 21) (ki 0), some (19, false)⟩, ⟨some 23, .fa 4 (.t 1), some (19, false)⟩, ⟨some 24, .ld false 1 (.t 23), some (19, false)⟩, ⟨some 25, .bin .eql (.t 24) (ki 0), some (19, false)⟩, ⟨some 26, .eqb true (.t 22) (.t 25), some (19, false)⟩, ⟨some 27, .pick (.t 19) (kb true) (.t 26), none⟩])
 (.cond (.t 27)
 (.seq (.reg false [⟨some 2, .mv (ki 1), none⟩])
 .ret)
 .skip))
 (.seq (.seq (.reg false [⟨some 28, .fa 5 (.t 1), none⟩, ⟨some 29, .ld false 1 (.t 28), none⟩, ⟨some 30, .fa 4 (.t 1), none⟩, ⟨some 31, .ld false 1 (.t 30), none⟩, ⟨some 32, .call (kf 67) [(.t 29), (.t 31)], none⟩, ⟨some 33, .un .not (.t 32), none⟩, ⟨some 34, .mv (.t 33), none⟩, ⟨some 35, .fa 3 (.t 1), some (34, false)⟩, ⟨some 36, .ld false 1 (.t 35), some (34, false)⟩, ⟨some 37, .fa 5 (.t 1), some (34, false)⟩, ⟨some 38, .ld false 1 (.t 37), some (34, false)⟩, ⟨some 39, .len (.t 38), some (34, false)⟩, ⟨some 40, .bin .sub (ki 2147483647) (.t 39), some (34, false)⟩, ⟨some 41, .bin .gtr (.t 36) (.t 40), some (34, false)⟩, ⟨some 42, .pick (.t 34) (kb true) (.t 41), none⟩])
 (.cond (.t 42)
 (.seq (.reg false [⟨some 2, .mv (ki 1), none⟩])
 .ret)
 .skip))
 (.seq (.reg false [⟨some 2, .mv (ki 0), none⟩])
 .ret))))
abbrev n_pglog_Check : Nat := 29
theorem F_pglog_Check : Fun Tryz.prog n_pglog_Check 43 c_pglog_Check [.t 2] := ⟨⟨Tryz.f29, _, Tryz.func29, by kernel_rfl, rfl, rfl, by kernel_rfl, by kernel_rfl⟩⟩
/-- windrose/windroseref28.May -/
def c_windroseref28_May : C :=
 (.seq (.reg false [⟨some 1, .box 60 6 (.t 0), none⟩, ⟨some 2, .mv (kb false), none⟩])
 (.seq (.seq (.reg false [⟨some 3, .fa 0 (.t 1), none⟩, ⟨some 4, .ld true 3 (.t 3), none⟩, ⟨some 5, .call (kf 14) [(.t 4)], none⟩, ⟨some 6, .un .not (.t 5), none⟩, ⟨some 7, .mv (.t 6), none⟩, ⟨some 8, .fa 3 (.t 1), some (7, false)⟩, ⟨some 9, .ld false 1 (.t 8), some (7, false)⟩, ⟨some 10, .call (kf 68) [(.t 9), (ki 0)], some (7, false)⟩, ⟨some 11, .un .not (.t 10), some (7, false)⟩, ⟨some 12, .pick (.t 7) (kb true) (.t 11), none⟩, ⟨some 13, .mv (.t 12), none⟩, ⟨some 14, .fa 4 (.t 1), some (13, false)⟩, ⟨some 15, .ld false 1 (.t 14), some (13, false)⟩, ⟨some 16, .call (kf 68) [(.t 15), (ki 0)], some (13, false)⟩, ⟨some 17, .un .not (.t 16), some (13, false)⟩, ⟨some 18, .pick (.t 13) (kb true) (.t 17), none⟩, ⟨some 19, .mv (.t 18), none⟩, ⟨some 20, .fa 3 (.t 1), some (19, false)⟩, ⟨some 21, .ld false 1 (.t 20), some (19, false)⟩, ⟨some 22, .bin .eql (.t 21) (ki 0), some (19, false)⟩, ⟨some 23, .mv (.t 22), some (19, false)⟩, ⟨some 24, .fa 4 (.t 1), some (23, true)⟩, ⟨some 25, .ld false 1 (.t 24), some (23, true)⟩, ⟨some 26, .bin .neq (.t 25) (ki 0), some (23, true)⟩, ⟨some 27, .pick (.t 23) (.t 26) (kb false), some (19, false)⟩, ⟨some 28, .pick (.t 19) (kb true) (.t 27), none⟩, ⟨some 29, .mv (.t 28), none⟩, ⟨some 30, .fa 3 (.t 1), some (29, false)⟩, ⟨some 31, .ld false 1 (.t 30), some (29, false)⟩, ⟨some 32, .bin .neq (.t 31) (ki 0), some (29, false)⟩, ⟨some 33, .mv (.t 32), some (29, false)⟩, ⟨some 34, .fa 4 (.t 1), some (33, true)⟩, ⟨some 35, .ld false 1 (.t 34), some (33, true)⟩, ⟨some 36, .bin .eql (.t 35) (ki 0), some (33, true)⟩, ⟨some 37, .pick (.t 33) (.t 36) (kb false), some (29, false)⟩, ⟨some 38, .pick (.t 29) (kb true) (.t 37), none⟩])
 (.cond (.t 38)
 (.seq (.reg false [⟨some 2, .mv (kb false), none⟩])
 .ret)
 .skip))
 (.seq (.reg false [⟨some 39, .fa 5 (.t 1), none⟩, ⟨some 40, .ld false 1 (.t 39), none⟩, ⟨some 41, .fa 4 (.t 1), none⟩, ⟨some 42, .ld false 1 (.t 41), none⟩, ⟨some 43, .call (kf 69) [(.t 40), (.t 42)], none⟩, ⟨some 44, .mv (.t 43), none⟩, ⟨some 45, .fa 3 (.t 1), some (44, true)⟩, ⟨some 46, .ld false 1 (.t 45), some (44, true)⟩, ⟨some 47, .fa 5 (.t 1), some (44, true)⟩, ⟨some 48, .ld false 1 (.t 47), some (44, true)⟩, ⟨some 49, .len (.t 48), some (44, true)⟩, ⟨some 50, .bin .sub (ki 2147483647) (.t 49), some (44, true)⟩, ⟨some 51, .bin .leq (.t 46) (.t 50), some (44, true)⟩, ⟨some 52, .pick (.t 44) (.t 51) (kb false), none⟩, ⟨some 2, .mv (.t 52), none⟩])
 .ret)))
abbrev n_windroseref28_May : Nat := 30
theorem F_windroseref28_May : Fun Tryz.prog n_windroseref28_May 53 c_windroseref28_May [.t 2] := ⟨⟨Tryz.f30, _, Tryz.func30, by kernel_rfl, rfl, rfl, by kernel_rfl, by kernel_rfl⟩⟩
/-- windrose/pglog.End -/
def c_pglog_End : C :=
 (.seq (.reg false [⟨some 1, .box 60 6 (.t 0), none⟩, ⟨some 2, .mv (ki 0), none⟩])
 (.seq (.seq (.reg false [⟨some 3, .ld true 6 (.t 1), none⟩, ⟨some 4, .call (kf 29) [(.t 3)], none⟩, ⟨some 5, .bin .neq (.t 4) (ki 0), none⟩])
 (.cond (.t 5)
 (.seq (.reg false [⟨some 2, .mv (ki 0), none⟩])
 .ret)
 .skip))
 (.seq (.reg false [⟨some 6, .fa 3 (.t 1), none⟩, ⟨some 7, .ld false 1 (.t 6), none⟩, ⟨some 8, .fa 5 (.t 1), none⟩, ⟨some 9, .ld false 1 (.t 8), none⟩, ⟨some 10, .len (.t 9), none⟩, ⟨some 11, .bin .add (.t 7) (.t 10), none⟩, ⟨some 2, .mv (.t 11), none⟩])
 .ret)))
abbrev n_pglog_End : Nat := 31
theorem F_pglog_End : Fun Tryz.prog n_pglog_End 12 c_pglog_End [.t 2] := ⟨⟨Tryz.f31, _, Tryz.func31, by kernel_rfl, rfl, rfl, by kernel_rfl, by kernel_rfl⟩⟩
/-- windrose/pglog.Last -/
def c_pglog_Last : C :=
 (.seq (.reg false [⟨some 1, .box 60 6 (.t 0), none⟩, ⟨some 2, .mv (ki 0), none⟩])
 (.seq (.seq (.reg false [⟨some 3, .ld true 6 (.t 1), none⟩, ⟨some 4, .call (kf 29) [(.t 3)], none⟩, ⟨some 5, .bin .neq (.t 4) (ki 0), none⟩])
 (.cond (.t 5)
 (.seq (.reg false [⟨some 2, .mv (ki 0), none⟩])
 .ret)
 .skip))
 (.seq (.reg true [⟨some 6, .ld true 6 (.t 1), none⟩, ⟨some 7, .ld true 6 (.t 1), none⟩, ⟨some 8, .call (kf 31) [(.t 7)], none⟩, ⟨some 9, .call (kf 70) [(.t 6), (.t 8)], none⟩, ⟨some 2, .mv (.t 9), none⟩])
 .ret)))
abbrev n_pglog_Last : Nat := 32
theorem F_pglog_Last : Fun Tryz.prog n_pglog_Last 10 c_pglog_Last [.t 2] := ⟨⟨Tryz.f32, _, Tryz.func32, by kernel_rfl, rfl, rfl, by kernel_rfl, by kernel_rfl⟩⟩
/-- windrose/pglog.Epochs -/
def c_pglog_Epochs : C :=
 (.seq (.reg false [⟨some 1, .box 60 6 (.t 0), none⟩, ⟨some 2, .mv (.k (.one (.c (.v (.slice none 0 0))))), none⟩])
 (.seq (.reg false [⟨some 3, .mv (.k (.one (.c (.v (.slice none 0 0))))), none⟩])
 (.seq (.seq (.reg false [⟨some 6, .ld true 6 (.t 1), none⟩, ⟨some 7, .call (kf 29) [(.t 6)], none⟩, ⟨some 8, .bin .neq (.t 7) (ki 0), none⟩])
 (.cond (.t 8)
 (.seq (.reg false [⟨some 2, .mv (.k (.one (.c (.v (.slice none 0 0))))), none⟩])
 .ret)
 .skip))
 (.seq (.seq (.reg false [⟨some 9, .fa 5 (.t 1), none⟩, ⟨some 10, .ld false 1 (.t 9), none⟩, ⟨some 11, .len (.t 10), none⟩, ⟨some 12, .mv (ki 0), none⟩])
 (.block 0 (.loop (.seq (.reg false [⟨some 13, .bin .lss (.t 12) (.t 11), none⟩])
 (.seq (.cond (.t 13)
 .skip
 (.exit 0))
 (.seq (.block 1 (.seq (.reg false [⟨some 14, .ia 10 (.t 10) (.t 12), none⟩, ⟨some 15, .ld true 10 (.t 14), none⟩, ⟨some 5, .alloc 37 10 [.int .i64 0, .int .i64 0, .int .i64 0, .int .i64 0, .string ⟨#[]⟩, .int .i64 0, .int .i64 0, .int .i64 0, .int .i64 0, .int .i64 0], none⟩, ⟨none, .st 10 (.t 5) (.t 15), none⟩])
 (.reg false [⟨some 16, .mv (.t 3), none⟩, ⟨some 17, .fa 0 (.t 5), none⟩, ⟨some 18, .ld false 1 (.t 17), none⟩, ⟨some 19, .bsl 3 1 1 [.int .i64 0] [(0, (.t 18))], none⟩, ⟨some 20, .app 3 1 8 [.int .i64 0] (.t 16) (.t 19), none⟩, ⟨some 3, .mv (.t 20), none⟩])))
 (.reg false [⟨some 21, .bin .add (.t 12) (ki 1), none⟩, ⟨some 12, .mv (.t 21), none⟩])))))))
 (.seq (.reg false [⟨some 22, .mv (.t 3), none⟩, ⟨some 2, .mv (.t 22), none⟩])
 .ret)))))
abbrev n_pglog_Epochs : Nat := 33
theorem F_pglog_Epochs : Fun Tryz.prog n_pglog_Epochs 23 c_pglog_Epochs [.t 2] := ⟨⟨Tryz.f33, _, Tryz.func33, by kernel_rfl, rfl, rfl, by kernel_rfl, by kernel_rfl⟩⟩
/-- windrose/pglog.State -/
def c_pglog_State : C :=
 (.seq (.reg false [⟨some 1, .box 60 6 (.t 0), none⟩, ⟨some 2, .alloc 29 3 [.slice none 0 0, .slice none 0 0, .int .i64 0], none⟩])
 (.seq (.seq (.reg false [⟨some 3, .ld true 6 (.t 1), none⟩, ⟨some 4, .call (kf 29) [(.t 3)], none⟩, ⟨some 5, .bin .neq (.t 4) (ki 0), none⟩])
 (.cond (.t 5)
 (.seq (.reg false [⟨some 6, .bld [.slice none 0 0, .slice none 0 0, .int .i64 0] [], none⟩, ⟨none, .st 3 (.t 2) (.t 6), none⟩])
 .ret)
 .skip))
 (.seq (.reg true [⟨some 7, .fa 0 (.t 1), none⟩, ⟨some 8, .ld true 3 (.t 7), none⟩, ⟨some 9, .call (kf 72) [(.t 8)], none⟩, ⟨some 10, .fa 5 (.t 1), none⟩, ⟨some 11, .ld false 1 (.t 10), none⟩, ⟨some 12, .call (kf 71) [(.t 9), (.t 11)], none⟩, ⟨none, .st 3 (.t 2) (.t 12), none⟩])
 .ret)))
abbrev n_pglog_State : Nat := 34
theorem F_pglog_State : Fun Tryz.prog n_pglog_State 13 c_pglog_State [.l true 3 2] := ⟨⟨Tryz.f34, _, Tryz.func34, by kernel_rfl, rfl, rfl, by kernel_rfl, by kernel_rfl⟩⟩
/-- windrose/windroseref28.End -/
def c_windroseref28_End : C :=
 (.seq (.reg false [⟨some 1, .box 60 6 (.t 0), none⟩, ⟨some 2, .mv (ki 0), none⟩])
 (.seq (.reg false [⟨some 3, .fa 3 (.t 1), none⟩, ⟨some 4, .ld false 1 (.t 3), none⟩, ⟨some 5, .fa 5 (.t 1), none⟩, ⟨some 6, .ld false 1 (.t 5), none⟩, ⟨some 7, .len (.t 6), none⟩, ⟨some 8, .bin .add (.t 4) (.t 7), none⟩, ⟨some 2, .mv (.t 8), none⟩])
 .ret))
abbrev n_windroseref28_End : Nat := 35
theorem F_windroseref28_End : Fun Tryz.prog n_windroseref28_End 9 c_windroseref28_End [.t 2] := ⟨⟨Tryz.f35, _, Tryz.func35, by kernel_rfl, rfl, rfl, by kernel_rfl, by kernel_rfl⟩⟩
/-- windrose/windroseref28.Last -/
def c_windroseref28_Last : C :=
 (.seq (.reg false [⟨some 1, .box 60 6 (.t 0), none⟩, ⟨some 2, .mv (ki 0), none⟩])
 (.seq (.reg true [⟨some 3, .ld true 6 (.t 1), none⟩, ⟨some 4, .ld true 6 (.t 1), none⟩, ⟨some 5, .call (kf 35) [(.t 4)], none⟩, ⟨some 6, .bin .sub (.t 5) (ki 1), none⟩, ⟨some 7, .call (kf 73) [(.t 3), (.t 6)], none⟩, ⟨some 2, .mv (.t 7), none⟩])
 .ret))
abbrev n_windroseref28_Last : Nat := 36
theorem F_windroseref28_Last : Fun Tryz.prog n_windroseref28_Last 8 c_windroseref28_Last [.t 2] := ⟨⟨Tryz.f36, _, Tryz.func36, by kernel_rfl, rfl, rfl, by kernel_rfl, by kernel_rfl⟩⟩
/-- windrose/windroseref02.Ints -/
def c_windroseref02_Ints : C :=
 (.seq (.reg false [⟨some 4, .mv (kb false), none⟩])
 (.seq (.seq (.reg false [⟨some 6, .mv (.t 0), none⟩, ⟨some 7, .len (.t 6), none⟩, ⟨some 8, .mv (.t 1), none⟩, ⟨some 9, .len (.t 8), none⟩, ⟨some 10, .bin .neq (.t 7) (.t 9), none⟩])
 (.cond (.t 10)
 (.seq (.reg false [⟨some 4, .mv (kb false), none⟩])
 .ret)
 .skip))
 (.seq (.seq (.reg false [⟨some 5, .mv (ki 0), none⟩])
 (.block 0 (.loop (.seq (.seq (.reg false [⟨some 11, .mv (.t 5), none⟩, ⟨some 12, .mv (.t 0), none⟩, ⟨some 13, .len (.t 12), none⟩, ⟨some 14, .bin .lss (.t 11) (.t 13), none⟩])
 (.cond (.t 14)
 .skip
 (.exit 0)))
 (.seq (.block 1 (.seq (.reg true [⟨some 17, .mv (.t 0), none⟩, ⟨some 18, .mv (.t 5), none⟩, ⟨some 19, .ia 1 (.t 17) (.t 18), none⟩, ⟨some 20, .ld false 1 (.t 19), none⟩, ⟨some 21, .mv (.t 1), none⟩, ⟨some 22, .mv (.t 5), none⟩, ⟨some 23, .ia 1 (.t 21) (.t 22), none⟩, ⟨some 24, .ld false 1 (.t 23), none⟩, ⟨some 25, .bin .neq (.t 20) (.t 24), none⟩])
 (.cond (.t 25)
 (.seq (.reg false [⟨some 4, .mv (kb false), none⟩])
 .ret)
 .skip)))
 (.reg false [⟨some 15, .mv (.t 5), none⟩, ⟨some 16, .bin .add (.t 15) (ki 1), none⟩, ⟨some 5, .mv (.t 16), none⟩]))))))
 (.seq (.reg false [⟨some 4, .mv (kb true), none⟩])
 .ret))))
abbrev n_windroseref02_Ints : Nat := 37
theorem F_windroseref02_Ints : Fun Tryz.prog n_windroseref02_Ints 26 c_windroseref02_Ints [.t 4] := ⟨⟨Tryz.f37, _, Tryz.func37, by kernel_rfl, rfl, rfl, by kernel_rfl, by kernel_rfl⟩⟩
/-- windrose/windroseref28.Epochs -/
def c_windroseref28_Epochs : C :=
 (.seq (.reg false [⟨some 1, .box 60 6 (.t 0), none⟩, ⟨some 2, .mv (.k (.one (.c (.v (.slice none 0 0))))), none⟩])
 (.seq (.reg false [⟨some 5, .bsl 3 1 0 [.int .i64 0] [], none⟩, ⟨some 3, .mv (.t 5), none⟩])
 (.seq (.seq (.reg false [⟨some 4, .mv (ki 0), none⟩])
 (.block 0 (.loop (.seq (.seq (.reg false [⟨some 6, .mv (.t 4), none⟩, ⟨some 7, .fa 5 (.t 1), none⟩, ⟨some 8, .ld false 1 (.t 7), none⟩, ⟨some 9, .len (.t 8), none⟩, ⟨some 10, .bin .lss (.t 6) (.t 9), none⟩])
 (.cond (.t 10)
 .skip
 (.exit 0)))
 (.seq (.block 1 (.reg false [⟨some 13, .mv (.t 3), none⟩, ⟨some 14, .fa 5 (.t 1), none⟩, ⟨some 15, .ld false 1 (.t 14), none⟩, ⟨some 16, .mv (.t 4), none⟩, ⟨some 17, .ia 10 (.t 15) (.t 16), none⟩, ⟨some 18, .fa 0 (.t 17), none⟩, ⟨some 19, .ld false 1 (.t 18), none⟩, ⟨some 20, .bsl 3 1 1 [.int .i64 0] [(0, (.t 19))], none⟩, ⟨some 21, .app 3 1 8 [.int .i64 0] (.t 13) (.t 20), none⟩, ⟨some 3, .mv (.t 21), none⟩]))
 (.reg false [⟨some 11, .mv (.t 4), none⟩, ⟨some 12, .bin .add (.t 11) (ki 1), none⟩, ⟨some 4, .mv (.t 12), none⟩]))))))
 (.seq (.reg false [⟨some 22, .mv (.t 3), none⟩, ⟨some 2, .mv (.t 22), none⟩])
 .ret))))
abbrev n_windroseref28_Epochs : Nat := 38
theorem F_windroseref28_Epochs : Fun Tryz.prog n_windroseref28_Epochs 23 c_windroseref28_Epochs [.t 2] := ⟨⟨Tryz.f38, _, Tryz.func38, by kernel_rfl, rfl, rfl, by kernel_rfl, by kernel_rfl⟩⟩
/-- windrose/windroseref28.State -/
def c_windroseref28_State : C :=
 (.seq (.reg false [⟨some 1, .box 60 6 (.t 0), none⟩, ⟨some 2, .alloc 29 3 [.slice none 0 0, .slice none 0 0, .int .i64 0], none⟩])
 (.seq (.reg false [⟨some 3, .fa 0 (.t 1), none⟩, ⟨some 4, .ld true 3 (.t 3), none⟩, ⟨some 5, .fa 5 (.t 1), none⟩, ⟨some 6, .ld false 1 (.t 5), none⟩, ⟨some 7, .call (kf 74) [(.t 4), (.t 6)], none⟩, ⟨none, .st 3 (.t 2) (.t 7), none⟩])
 .ret))
abbrev n_windroseref28_State : Nat := 39
theorem F_windroseref28_State : Fun Tryz.prog n_windroseref28_State 8 c_windroseref28_State [.l true 3 2] := ⟨⟨Tryz.f39, _, Tryz.func39, by kernel_rfl, rfl, rfl, by kernel_rfl, by kernel_rfl⟩⟩
/-- windrose/pglog.Same -/
def c_pglog_Same : C :=
 (.seq (.reg false [⟨some 2, .box 60 6 (.t 0), none⟩, ⟨some 3, .box 60 6 (.t 1), none⟩, ⟨some 4, .mv (kb false), none⟩])
 (.seq (.reg false [⟨some 5, .fa 0 (.t 2), none⟩, ⟨some 6, .ld true 3 (.t 5), none⟩, ⟨some 7, .fa 0 (.t 3), none⟩, ⟨some 8, .ld true 3 (.t 7), none⟩, ⟨some 9, .call (kf 26) [(.t 6), (.t 8)], none⟩, ⟨some 10, .mv (.t 9), none⟩, ⟨some 11, .fa 3 (.t 2), some (10, true)⟩, ⟨some 12, .ld false 1 (.t 11), some (10, true)⟩, ⟨some 13, .fa 3 (.t 3), some (10, true)⟩, ⟨some 14, .ld false 1 (.t 13), some (10, true)⟩, ⟨some 15, .bin .eql (.t 12) (.t 14), some (10, true)⟩, ⟨some 16, .pick (.t 10) (.t 15) (kb false), none⟩, ⟨some 17, .mv (.t 16), none⟩, ⟨some 18, .fa 4 (.t 2), some (17, true)⟩, ⟨some 19, .ld false 1 (.t 18), some (17, true)⟩, ⟨some 20, .fa 4 (.t 3), some (17, true)⟩, ⟨some 21, .ld false 1 (.t 20), some (17, true)⟩, ⟨some 22, .bin .eql (.t 19) (.t 21), some (17, true)⟩, ⟨some 23, .pick (.t 17) (.t 22) (kb false), none⟩, ⟨some 24, .mv (.t 23), none⟩, ⟨some 25, .fa 5 (.t 2), some (24, true)⟩, ⟨some 26, .ld false 1 (.t 25), some (24, true)⟩, ⟨some 27, .fa 5 (.t 3), some (24, true)⟩, ⟨some 28, .ld false 1 (.t 27), some (24, true)⟩, ⟨some 29, .call (kf 75) [(.t 26), (.t 28)], some (24, true)⟩, ⟨some 30, .pick (.t 24) (.t 29) (kb false), none⟩, ⟨some 4, .mv (.t 30), none⟩])
 .ret))
abbrev n_pglog_Same : Nat := 40
theorem F_pglog_Same : Fun Tryz.prog n_pglog_Same 31 c_pglog_Same [.t 4] := ⟨⟨Tryz.f40, _, Tryz.func40, by kernel_rfl, rfl, rfl, by kernel_rfl, by kernel_rfl⟩⟩
/-- windrose/pglog.Add -/
def c_pglog_Add : C :=
 (.seq (.reg false [⟨some 2, .box 60 6 (.t 0), none⟩, ⟨some 3, .box 37 10 (.t 1), none⟩, ⟨some 4, .alloc 60 6 [.slice none 0 0, .slice none 0 0, .int .i64 0, .int .i64 0, .int .i64 0, .slice none 0 0], none⟩, ⟨some 5, .mv (ki 0), none⟩])
 (.seq (.seq (.reg false [⟨some 6, .ld true 6 (.t 2), none⟩, ⟨some 7, .call (kf 29) [(.t 6)], none⟩, ⟨some 8, .bin .neq (.t 7) (ki 0), none⟩])
 (.cond (.t 8)
 (.seq (.reg false [⟨some 9, .bld [.slice none 0 0, .slice none 0 0, .int .i64 0, .int .i64 0, .int .i64 0, .slice none 0 0] [], none⟩, ⟨none, .st 6 (.t 4) (.t 9), none⟩, ⟨some 5, .mv (ki 1), none⟩])
 .ret)
 .skip))
 (.seq (.reg false [⟨some 10, .ld true 6 (.t 2), none⟩, ⟨some 11, .call (kf 76) [(.t 10)], none⟩, ⟨none, .st 6 (.t 2) (.t 11), none⟩])
 (.seq (.block 0 (.seq (.reg true [⟨some 13, .ld true 10 (.t 3), none⟩, ⟨some 14, .call (kf 77) [(.t 13)], none⟩, ⟨some 15, .bin .neq (.t 14) (ki 0), none⟩, ⟨some 16, .mv (.t 15), none⟩, ⟨some 17, .fa 0 (.t 3), some (16, false)⟩, ⟨some 18, .ld false 1 (.t 17), some (16, false)⟩, ⟨some 19, .ld true 6 (.t 2), some (16, false)⟩, ⟨some 20, .call (kf 32) [(.t 19)], some (16, false)⟩, ⟨some 21, .bin .lss (.t 18) (.t 20), some (16, false)⟩, ⟨some 22, .pick (.t 16) (kb true) (.t 21), none⟩, ⟨some 12, .mv (.t 22), none⟩])
 (.cond (.t 12)
 (.seq (.reg false [⟨some 23, .ld true 6 (.t 2), none⟩, ⟨none, .st 6 (.t 4) (.t 23), none⟩, ⟨some 5, .mv (ki 1), none⟩])
 .ret)
 (.seq (.reg false [⟨some 25, .fa 5 (.t 2), none⟩, ⟨some 26, .ld false 1 (.t 25), none⟩, ⟨some 27, .len (.t 26), none⟩, ⟨some 28, .bin .eql (.t 27) (ki 32), none⟩, ⟨some 29, .mv (.t 28), none⟩, ⟨some 30, .ld true 6 (.t 2), some (29, false)⟩, ⟨some 31, .call (kf 31) [(.t 30)], some (29, false)⟩, ⟨some 32, .bin .eql (.t 31) (ki 2147483647), some (29, false)⟩, ⟨some 33, .pick (.t 29) (kb true) (.t 32), none⟩, ⟨some 24, .mv (.t 33), none⟩])
 (.cond (.t 24)
 (.seq (.reg false [⟨some 34, .ld true 6 (.t 2), none⟩, ⟨none, .st 6 (.t 4) (.t 34), none⟩, ⟨some 5, .mv (ki 6), none⟩])
 .ret)
 .skip)))))
 (.seq (.reg false [⟨some 35, .fa 5 (.t 2), none⟩, ⟨some 36, .ld false 1 (.t 35), none⟩, ⟨some 37, .ld true 10 (.t 3), none⟩, ⟨some 38, .bsl 37 10 1 [.int .i64 0, .int .i64 0, .int .i64 0, .int .i64 0, .string ⟨#[]⟩, .int .i64 0, .int .i64 0, .int .i64 0, .int .i64 0, .int .i64 0] [(0, (.t 37))], none⟩, ⟨some 39, .app 37 10 88 [.int .i64 0, .int .i64 0, .int .i64 0, .int .i64 0, .string ⟨#[]⟩, .int .i64 0, .int .i64 0, .int .i64 0, .int .i64 0, .int .i64 0] (.t 36) (.t 38), none⟩, ⟨some 40, .fa 5 (.t 2), none⟩, ⟨none, .st 1 (.t 40) (.t 39), none⟩])
 (.seq (.reg false [⟨some 41, .ld true 6 (.t 2), none⟩, ⟨none, .st 6 (.t 4) (.t 41), none⟩, ⟨some 5, .mv (ki 0), none⟩])
 .ret))))))
abbrev n_pglog_Add : Nat := 41
theorem F_pglog_Add : Fun Tryz.prog n_pglog_Add 42 c_pglog_Add [.l true 6 4, .t 5] := ⟨⟨Tryz.f41, _, Tryz.func41, by kernel_rfl, rfl, rfl, by kernel_rfl, by kernel_rfl⟩⟩
/-- windrose/pglog.Cut -/
def c_pglog_Cut : C :=
 (.seq (.reg false [⟨some 2, .box 60 6 (.t 0), none⟩, ⟨some 4, .alloc 60 6 [.slice none 0 0, .slice none 0 0, .int .i64 0, .int .i64 0, .int .i64 0, .slice none 0 0], none⟩, ⟨some 5, .mv (ki 0), none⟩])
 (.seq (.seq (.reg false [⟨some 7, .ld true 6 (.t 2), none⟩, ⟨some 8, .call (kf 29) [(.t 7)], none⟩, ⟨some 9, .bin .neq (.t 8) (ki 0), none⟩])
 (.cond (.t 9)
 (.seq (.reg false [⟨some 10, .bld [.slice none 0 0, .slice none 0 0, .int .i64 0, .int .i64 0, .int .i64 0, .slice none 0 0] [], none⟩, ⟨none, .st 6 (.t 4) (.t 10), none⟩, ⟨some 5, .mv (ki 1), none⟩])
 .ret)
 .skip))
 (.seq (.reg false [⟨some 11, .ld true 6 (.t 2), none⟩, ⟨some 12, .call (kf 76) [(.t 11)], none⟩, ⟨none, .st 6 (.t 2) (.t 12), none⟩])
 (.seq (.seq (.reg false [⟨some 13, .ld true 6 (.t 2), none⟩, ⟨some 14, .mv (.t 1), none⟩, ⟨some 15, .call (kf 78) [(.t 13), (.t 14)], none⟩, ⟨some 6, .mv (.t 15), none⟩])
 (.seq (.reg false [⟨some 16, .mv (.t 6), none⟩, ⟨some 17, .bin .neq (.t 16) (ki 0), none⟩])
 (.cond (.t 17)
 (.seq (.reg false [⟨some 18, .ld true 6 (.t 2), none⟩, ⟨some 19, .mv (.t 6), none⟩, ⟨none, .st 6 (.t 4) (.t 18), none⟩, ⟨some 5, .mv (.t 19), none⟩])
 .ret)
 .skip)))
 (.seq (.reg false [⟨some 20, .fa 5 (.t 2), none⟩, ⟨some 21, .ld false 1 (.t 20), none⟩, ⟨some 22, .mv (.t 1), none⟩, ⟨some 23, .fa 3 (.t 2), none⟩, ⟨some 24, .ld false 1 (.t 23), none⟩, ⟨some 25, .bin .sub (.t 22) (.t 24), none⟩, ⟨some 26, .slc 10 (.t 21) none (some (.t 25)), none⟩, ⟨some 27, .call (kf 79) [(.t 26)], none⟩, ⟨some 28, .fa 5 (.t 2), none⟩, ⟨none, .st 1 (.t 28) (.t 27), none⟩])
 (.seq (.reg false [⟨some 29, .ld true 6 (.t 2), none⟩, ⟨none, .st 6 (.t 4) (.t 29), none⟩, ⟨some 5, .mv (ki 0), none⟩])
 .ret))))))
abbrev n_pglog_Cut : Nat := 42
theorem F_pglog_Cut : Fun Tryz.prog n_pglog_Cut 30 c_pglog_Cut [.l true 6 4, .t 5] := ⟨⟨Tryz.f42, _, Tryz.func42, by kernel_rfl, rfl, rfl, by kernel_rfl, by kernel_rfl⟩⟩
/-- windrose/pglog.Trim -/
def c_pglog_Trim : C :=
 (.seq (.reg false [⟨some 2, .box 60 6 (.t 0), none⟩, ⟨some 4, .alloc 60 6 [.slice none 0 0, .slice none 0 0, .int .i64 0, .int .i64 0, .int .i64 0, .slice none 0 0], none⟩, ⟨some 5, .mv (ki 0), none⟩])
 (.seq (.seq (.reg false [⟨some 9, .ld true 6 (.t 2), none⟩, ⟨some 10, .call (kf 29) [(.t 9)], none⟩, ⟨some 11, .bin .neq (.t 10) (ki 0), none⟩])
 (.cond (.t 11)
 (.seq (.reg false [⟨some 12, .bld [.slice none 0 0, .slice none 0 0, .int .i64 0, .int .i64 0, .int .i64 0, .slice none 0 0] [], none⟩, ⟨none, .st 6 (.t 4) (.t 12), none⟩, ⟨some 5, .mv (ki 1), none⟩])
 .ret)
 .skip))
 (.seq (.reg false [⟨some 13, .ld true 6 (.t 2), none⟩, ⟨some 14, .call (kf 76) [(.t 13)], none⟩, ⟨none, .st 6 (.t 2) (.t 14), none⟩])
 (.seq (.seq (.reg false [⟨some 15, .ld true 6 (.t 2), none⟩, ⟨some 16, .mv (.t 1), none⟩, ⟨some 17, .call (kf 78) [(.t 15), (.t 16)], none⟩, ⟨some 6, .mv (.t 17), none⟩])
 (.seq (.reg false [⟨some 18, .mv (.t 6), none⟩, ⟨some 19, .bin .neq (.t 18) (ki 0), none⟩])
 (.cond (.t 19)
 (.seq (.reg false [⟨some 20, .ld true 6 (.t 2), none⟩, ⟨some 21, .mv (.t 6), none⟩, ⟨none, .st 6 (.t 4) (.t 20), none⟩, ⟨some 5, .mv (.t 21), none⟩])
 .ret)
 .skip)))
 (.seq (.reg false [⟨some 22, .mv (.t 1), none⟩, ⟨some 23, .fa 3 (.t 2), none⟩, ⟨some 24, .ld false 1 (.t 23), none⟩, ⟨some 25, .bin .sub (.t 22) (.t 24), none⟩, ⟨some 7, .mv (.t 25), none⟩])
 (.seq (.reg false [⟨some 26, .ld true 6 (.t 2), none⟩, ⟨some 27, .mv (.t 1), none⟩, ⟨some 28, .call (kf 70) [(.t 26), (.t 27)], none⟩, ⟨some 8, .mv (.t 28), none⟩])
 (.seq (.reg true [⟨some 29, .fa 0 (.t 2), none⟩, ⟨some 30, .ld true 3 (.t 29), none⟩, ⟨some 31, .fa 5 (.t 2), none⟩, ⟨some 32, .ld false 1 (.t 31), none⟩, ⟨some 33, .mv (.t 7), none⟩, ⟨some 34, .slc 10 (.t 32) none (some (.t 33)), none⟩, ⟨some 35, .call (kf 71) [(.t 30), (.t 34)], none⟩, ⟨some 36, .mv (.t 1), none⟩, ⟨some 37, .mv (.t 8), none⟩, ⟨some 38, .fa 5 (.t 2), none⟩, ⟨some 39, .ld false 1 (.t 38), none⟩, ⟨some 40, .mv (.t 7), none⟩, ⟨some 41, .slc 10 (.t 39) (some (.t 40)) none, none⟩, ⟨some 42, .call (kf 79) [(.t 41)], none⟩, ⟨some 43, .bld [.slice none 0 0, .slice none 0 0, .int .i64 0, .int .i64 0, .int .i64 0, .slice none 0 0] [(0, 3, (.t 35)), (3, 1, (.t 36)), (4, 1, (.t 37)), (5, 1, (.t 42))], none⟩, ⟨none, .st 6 (.t 4) (.t 43), none⟩, ⟨some 5, .mv (ki 0), none⟩])
 .ret)))))))
abbrev n_pglog_Trim : Nat := 43
theorem F_pglog_Trim : Fun Tryz.prog n_pglog_Trim 44 c_pglog_Trim [.l true 6 4, .t 5] := ⟨⟨Tryz.f43, _, Tryz.func43, by kernel_rfl, rfl, rfl, by kernel_rfl, by kernel_rfl⟩⟩
/-- windrose/windroselaw28.zero -/
def c_windroselaw28_zero : C :=
 (.seq (.reg false [⟨some 2, .box 60 6 (.t 0), none⟩, ⟨some 4, .mv (kb false), none⟩])
 (.seq (.reg false [⟨some 5, .mv (.t 1), none⟩, ⟨some 6, .bin .eql (.t 5) (ki 1), none⟩, ⟨some 7, .mv (.t 6), none⟩, ⟨some 8, .ld true 6 (.t 2), some (7, true)⟩, ⟨some 9, .bld [.slice none 0 0, .slice none 0 0, .int .i64 0, .int .i64 0, .int .i64 0, .slice none 0 0] [], some (7, true)⟩, ⟨some 10, .call (kf 48) [(.t 8), (.t 9)], some (7, true)⟩, ⟨some 11, .pick (.t 7) (.t 10) (kb false), none⟩, ⟨some 4, .mv (.t 11), none⟩])
 .ret))
abbrev n_windroselaw28_zero : Nat := 44
theorem F_windroselaw28_zero : Fun Tryz.prog n_windroselaw28_zero 12 c_windroselaw28_zero [.t 4] := ⟨⟨Tryz.f44, _, Tryz.func44, by kernel_rfl, rfl, rfl, by kernel_rfl, by kernel_rfl⟩⟩
/-- windrose/windroseref28.Add -/
def c_windroseref28_Add : C :=
 (.seq (.reg false [⟨some 2, .box 60 6 (.t 0), none⟩, ⟨some 3, .box 37 10 (.t 1), none⟩, ⟨some 4, .alloc 60 6 [.slice none 0 0, .slice none 0 0, .int .i64 0, .int .i64 0, .int .i64 0, .slice none 0 0], none⟩, ⟨some 5, .mv (ki 0), none⟩])
 (.seq (.seq (.reg true [⟨some 6, .ld true 10 (.t 3), none⟩, ⟨some 7, .call (kf 80) [(.t 6)], none⟩, ⟨some 8, .un .not (.t 7), none⟩, ⟨some 9, .mv (.t 8), none⟩, ⟨some 10, .fa 0 (.t 3), some (9, false)⟩, ⟨some 11, .ld false 1 (.t 10), some (9, false)⟩, ⟨some 12, .ld true 6 (.t 2), some (9, false)⟩, ⟨some 13, .call (kf 36) [(.t 12)], some (9, false)⟩, ⟨some 14, .bin .lss (.t 11) (.t 13), some (9, false)⟩, ⟨some 15, .pick (.t 9) (kb true) (.t 14), none⟩])
 (.cond (.t 15)
 (.seq (.reg false [⟨some 16, .ld true 6 (.t 2), none⟩, ⟨none, .st 6 (.t 4) (.t 16), none⟩, ⟨some 5, .mv (ki 1), none⟩])
 .ret)
 .skip))
 (.seq (.seq (.reg false [⟨some 17, .fa 5 (.t 2), none⟩, ⟨some 18, .ld false 1 (.t 17), none⟩, ⟨some 19, .len (.t 18), none⟩, ⟨some 20, .bin .eql (.t 19) (ki 32), none⟩, ⟨some 21, .mv (.t 20), none⟩, ⟨some 22, .ld true 6 (.t 2), some (21, false)⟩, ⟨some 23, .call (kf 35) [(.t 22)], some (21, false)⟩, ⟨some 24, .bin .eql (.t 23) (ki 2147483647), some (21, false)⟩, ⟨some 25, .pick (.t 21) (kb true) (.t 24), none⟩])
 (.cond (.t 25)
 (.seq (.reg false [⟨some 26, .ld true 6 (.t 2), none⟩, ⟨none, .st 6 (.t 4) (.t 26), none⟩, ⟨some 5, .mv (ki 6), none⟩])
 .ret)
 .skip))
 (.seq (.rgx [[], [], [1], [0, 2, 1], [], [4], [3, 0, 2, 1, 5, 4], [0, 1, 2, 3, 4, 5, 6], [7, 0, 1, 2, 3, 4, 5, 6]] [⟨some 27, .bsl 37 10 0 [.int .i64 0, .int .i64 0, .int .i64 0, .int .i64 0, .string ⟨#[]⟩, .int .i64 0, .int .i64 0, .int .i64 0, .int .i64 0, .int .i64 0] [], none⟩, ⟨some 28, .fa 5 (.t 2), none⟩, ⟨some 29, .ld false 1 (.t 28), none⟩, ⟨some 30, .app 37 10 88 [.int .i64 0, .int .i64 0, .int .i64 0, .int .i64 0, .string ⟨#[]⟩, .int .i64 0, .int .i64 0, .int .i64 0, .int .i64 0, .int .i64 0] (.t 27) (.t 29), none⟩, ⟨some 31, .ld true 10 (.t 3), none⟩, ⟨some 32, .bsl 37 10 1 [.int .i64 0, .int .i64 0, .int .i64 0, .int .i64 0, .string ⟨#[]⟩, .int .i64 0, .int .i64 0, .int .i64 0, .int .i64 0, .int .i64 0] [(0, (.t 31))], none⟩, ⟨some 33, .app 37 10 88 [.int .i64 0, .int .i64 0, .int .i64 0, .int .i64 0, .string ⟨#[]⟩, .int .i64 0, .int .i64 0, .int .i64 0, .int .i64 0, .int .i64 0] (.t 30) (.t 32), none⟩, ⟨some 34, .fa 5 (.t 2), none⟩, ⟨none, .st 1 (.t 34) (.t 33), none⟩])
 (.seq (.reg false [⟨some 35, .ld true 6 (.t 2), none⟩, ⟨none, .st 6 (.t 4) (.t 35), none⟩, ⟨some 5, .mv (ki 0), none⟩])
 .ret)))))
abbrev n_windroseref28_Add : Nat := 45
theorem F_windroseref28_Add : Fun Tryz.prog n_windroseref28_Add 36 c_windroseref28_Add [.l true 6 4, .t 5] := ⟨⟨Tryz.f45, _, Tryz.func45, by kernel_rfl, rfl, rfl, by kernel_rfl, by kernel_rfl⟩⟩
/-- windrose/windroseref28.Cut -/
def c_windroseref28_Cut : C :=
 (.seq (.reg false [⟨some 2, .box 60 6 (.t 0), none⟩, ⟨some 4, .alloc 60 6 [.slice none 0 0, .slice none 0 0, .int .i64 0, .int .i64 0, .int .i64 0, .slice none 0 0], none⟩, ⟨some 5, .mv (ki 0), none⟩])
 (.seq (.seq (.reg false [⟨some 7, .ld true 6 (.t 2), none⟩, ⟨some 8, .mv (.t 1), none⟩, ⟨some 9, .call (kf 81) [(.t 7), (.t 8)], none⟩, ⟨some 6, .mv (.t 9), none⟩])
 (.seq (.reg false [⟨some 10, .mv (.t 6), none⟩, ⟨some 11, .bin .neq (.t 10) (ki 0), none⟩])
 (.cond (.t 11)
 (.seq (.reg false [⟨some 12, .ld true 6 (.t 2), none⟩, ⟨some 13, .mv (.t 6), none⟩, ⟨none, .st 6 (.t 4) (.t 12), none⟩, ⟨some 5, .mv (.t 13), none⟩])
 .ret)
 .skip)))
 (.seq (.reg false [⟨some 14, .fa 5 (.t 2), none⟩, ⟨some 15, .ld false 1 (.t 14), none⟩, ⟨some 16, .mv (.t 1), none⟩, ⟨some 17, .fa 3 (.t 2), none⟩, ⟨some 18, .ld false 1 (.t 17), none⟩, ⟨some 19, .bin .sub (.t 16) (.t 18), none⟩, ⟨some 20, .slc 10 (.t 15) none (some (.t 19)), none⟩, ⟨some 21, .fa 5 (.t 2), none⟩, ⟨none, .st 1 (.t 21) (.t 20), none⟩])
 (.seq (.reg false [⟨some 22, .ld true 6 (.t 2), none⟩, ⟨none, .st 6 (.t 4) (.t 22), none⟩, ⟨some 5, .mv (ki 0), none⟩])
 .ret))))
abbrev n_windroseref28_Cut : Nat := 46
theorem F_windroseref28_Cut : Fun Tryz.prog n_windroseref28_Cut 23 c_windroseref28_Cut [.l true 6 4, .t 5] := ⟨⟨Tryz.f46, _, Tryz.func46, by kernel_rfl, rfl, rfl, by kernel_rfl, by kernel_rfl⟩⟩
/-- windrose/windroseref28.Trim -/
def c_windroseref28_Trim : C :=
 (.seq (.reg false [⟨some 2, .box 60 6 (.t 0), none⟩, ⟨some 4, .alloc 60 6 [.slice none 0 0, .slice none 0 0, .int .i64 0, .int .i64 0, .int .i64 0, .slice none 0 0], none⟩, ⟨some 5, .mv (ki 0), none⟩])
 (.seq (.seq (.reg false [⟨some 8, .ld true 6 (.t 2), none⟩, ⟨some 9, .mv (.t 1), none⟩, ⟨some 10, .call (kf 81) [(.t 8), (.t 9)], none⟩, ⟨some 6, .mv (.t 10), none⟩])
 (.seq (.reg false [⟨some 11, .mv (.t 6), none⟩, ⟨some 12, .bin .neq (.t 11) (ki 0), none⟩])
 (.cond (.t 12)
 (.seq (.reg false [⟨some 13, .ld true 6 (.t 2), none⟩, ⟨some 14, .mv (.t 6), none⟩, ⟨none, .st 6 (.t 4) (.t 13), none⟩, ⟨some 5, .mv (.t 14), none⟩])
 .ret)
 .skip)))
 (.seq (.reg false [⟨some 15, .mv (.t 1), none⟩, ⟨some 16, .fa 3 (.t 2), none⟩, ⟨some 17, .ld false 1 (.t 16), none⟩, ⟨some 18, .bin .sub (.t 15) (.t 17), none⟩, ⟨some 7, .mv (.t 18), none⟩])
 (.seq (.reg true [⟨some 19, .fa 0 (.t 2), none⟩, ⟨some 20, .ld true 3 (.t 19), none⟩, ⟨some 21, .fa 5 (.t 2), none⟩, ⟨some 22, .ld false 1 (.t 21), none⟩, ⟨some 23, .mv (.t 7), none⟩, ⟨some 24, .slc 10 (.t 22) none (some (.t 23)), none⟩, ⟨some 25, .call (kf 74) [(.t 20), (.t 24)], none⟩, ⟨some 26, .mv (.t 1), none⟩, ⟨some 27, .ld true 6 (.t 2), none⟩, ⟨some 28, .mv (.t 1), none⟩, ⟨some 29, .bin .sub (.t 28) (ki 1), none⟩, ⟨some 30, .call (kf 73) [(.t 27), (.t 29)], none⟩, ⟨some 31, .fa 5 (.t 2), none⟩, ⟨some 32, .ld false 1 (.t 31), none⟩, ⟨some 33, .mv (.t 7), none⟩, ⟨some 34, .slc 10 (.t 32) (some (.t 33)) none, none⟩, ⟨some 35, .bld [.slice none 0 0, .slice none 0 0, .int .i64 0, .int .i64 0, .int .i64 0, .slice none 0 0] [(0, 3, (.t 25)), (3, 1, (.t 26)), (4, 1, (.t 30)), (5, 1, (.t 34))], none⟩, ⟨none, .st 6 (.t 4) (.t 35), none⟩, ⟨some 5, .mv (ki 0), none⟩])
 .ret))))
abbrev n_windroseref28_Trim : Nat := 47
theorem F_windroseref28_Trim : Fun Tryz.prog n_windroseref28_Trim 36 c_windroseref28_Trim [.l true 6 4, .t 5] := ⟨⟨Tryz.f47, _, Tryz.func47, by kernel_rfl, rfl, rfl, by kernel_rfl, by kernel_rfl⟩⟩
/-- windrose/windroseref28.Same -/
def c_windroseref28_Same : C :=
 (.seq (.reg false [⟨some 2, .box 60 6 (.t 0), none⟩, ⟨some 3, .box 60 6 (.t 1), none⟩, ⟨some 4, .mv (kb false), none⟩])
 (.seq (.reg false [⟨some 5, .fa 0 (.t 2), none⟩, ⟨some 6, .ld true 3 (.t 5), none⟩, ⟨some 7, .fa 0 (.t 3), none⟩, ⟨some 8, .ld true 3 (.t 7), none⟩, ⟨some 9, .call (kf 11) [(.t 6), (.t 8)], none⟩, ⟨some 10, .mv (.t 9), none⟩, ⟨some 11, .fa 3 (.t 2), some (10, true)⟩, ⟨some 12, .ld false 1 (.t 11), some (10, true)⟩, ⟨some 13, .fa 3 (.t 3), some (10, true)⟩, ⟨some 14, .ld false 1 (.t 13), some (10, true)⟩, ⟨some 15, .bin .eql (.t 12) (.t 14), some (10, true)⟩, ⟨some 16, .pick (.t 10) (.t 15) (kb false), none⟩, ⟨some 17, .mv (.t 16), none⟩, ⟨some 18, .fa 4 (.t 2), some (17, true)⟩, ⟨some 19, .ld false 1 (.t 18), some (17, true)⟩, ⟨some 20, .fa 4 (.t 3), some (17, true)⟩, ⟨some 21, .ld false 1 (.t 20), some (17, true)⟩, ⟨some 22, .bin .eql (.t 19) (.t 21), some (17, true)⟩, ⟨some 23, .pick (.t 17) (.t 22) (kb false), none⟩, ⟨some 24, .mv (.t 23), none⟩, ⟨some 25, .fa 5 (.t 2), some (24, true)⟩, ⟨some 26, .ld false 1 (.t 25), some (24, true)⟩, ⟨some 27, .fa 5 (.t 3), some (24, true)⟩, ⟨some 28, .ld false 1 (.t 27), some (24, true)⟩, ⟨some 29, .call (kf 82) [(.t 26), (.t 28)], some (24, true)⟩, ⟨some 30, .pick (.t 24) (.t 29) (kb false), none⟩, ⟨some 4, .mv (.t 30), none⟩])
 .ret))
abbrev n_windroseref28_Same : Nat := 48
theorem F_windroseref28_Same : Fun Tryz.prog n_windroseref28_Same 31 c_windroseref28_Same [.t 4] := ⟨⟨Tryz.f48, _, Tryz.func48, by kernel_rfl, rfl, rfl, by kernel_rfl, by kernel_rfl⟩⟩
/-- windrose/windroselaw28.entry -/
def c_windroselaw28_entry : C :=
 (.seq (.reg false [⟨some 4, .alloc 37 10 [.int .i64 0, .int .i64 0, .int .i64 0, .int .i64 0, .string ⟨#[]⟩, .int .i64 0, .int .i64 0, .int .i64 0, .int .i64 0, .int .i64 0], none⟩])
 (.seq (.reg false [⟨some 5, .mv (.t 0), none⟩, ⟨some 6, .mv (.t 1), none⟩, ⟨some 7, .mv (.t 1), none⟩, ⟨some 8, .bld [.int .i64 0, .int .i64 0] [(0, 1, (.t 7)), (1, 1, (ki 1))], none⟩, ⟨some 9, .bld [.int .i64 0, .string ⟨#[]⟩, .int .i64 0, .int .i64 0, .int .i64 0, .int .i64 0, .int .i64 0] [(0, 1, (ki 1)), (1, 1, (.k (.one (.c (.v (.string ⟨#[97]⟩)))))), (2, 2, (.t 8))], none⟩, ⟨some 10, .bld [.int .i64 0, .int .i64 0, .int .i64 0, .int .i64 0, .string ⟨#[]⟩, .int .i64 0, .int .i64 0, .int .i64 0, .int .i64 0, .int .i64 0] [(0, 1, (.t 5)), (1, 1, (ki 1)), (2, 1, (.t 6)), (3, 7, (.t 9))], none⟩, ⟨none, .st 10 (.t 4) (.t 10), none⟩])
 .ret))
abbrev n_windroselaw28_entry : Nat := 64
theorem F_windroselaw28_entry : Fun Tryz.prog n_windroselaw28_entry 11 c_windroselaw28_entry [.l true 10 4] := ⟨⟨Tryz.f64, _, Tryz.func64, by kernel_rfl, rfl, rfl, by kernel_rfl, by kernel_rfl⟩⟩
/-- windrose/pglog.Alike -/
def c_pglog_Alike : C :=
 (.seq (.reg false [⟨some 4, .box 60 6 (.t 0), none⟩, ⟨some 8, .mv (ki 0), none⟩, ⟨some 9, .mv (kb false), none⟩])
 (.seq (.seq (.reg false [⟨some 23, .ld true 6 (.t 4), none⟩, ⟨some 24, .call (kf 29) [(.t 23)], none⟩, ⟨some 25, .bin .neq (.t 24) (ki 0), none⟩, ⟨some 26, .mv (.t 25), none⟩, ⟨some 27, .mv (.t 1), some (26, false)⟩, ⟨some 28, .call (kf 66) [(.t 27), (ki 0), (ki 2147483647)], some (26, false)⟩, ⟨some 29, .un .not (.t 28), some (26, false)⟩, ⟨some 30, .pick (.t 26) (kb true) (.t 29), none⟩, ⟨some 31, .mv (.t 30), none⟩, ⟨some 32, .mv (.t 3), some (31, false)⟩, ⟨some 33, .len (.t 32), some (31, false)⟩, ⟨some 34, .bin .gtr (.t 33) (ki 32), some (31, false)⟩, ⟨some 35, .pick (.t 31) (kb true) (.t 34), none⟩])
 (.cond (.t 35)
 (.seq (.reg false [⟨some 8, .mv (ki 0), none⟩, ⟨some 9, .mv (kb false), none⟩])
 .ret)
 .skip))
 (.seq (.rgx [[], [0], [], [2], [], [4], [1, 0, 3, 2, 5, 4], [], [], [], [7, 8, 9], [], [], [11, 6, 1, 0, 3, 2, 5, 4, 12], [12, 10, 7, 8, 9, 13, 11, 6, 1, 0, 3, 2, 5, 4]] [⟨some 36, .fa 3 (.t 4), none⟩, ⟨some 37, .ld false 1 (.t 36), none⟩, ⟨some 38, .fa 4 (.t 4), none⟩, ⟨some 39, .ld false 1 (.t 38), none⟩, ⟨some 40, .ld true 6 (.t 4), none⟩, ⟨some 41, .call (kf 33) [(.t 40)], none⟩, ⟨some 42, .bld [.int .i64 0, .int .i64 0, .slice none 0 0] [(0, 1, (.t 37)), (1, 1, (.t 39)), (2, 1, (.t 41))], none⟩, ⟨some 43, .mv (.t 1), none⟩, ⟨some 44, .mv (.t 2), none⟩, ⟨some 45, .mv (.t 3), none⟩, ⟨some 46, .bld [.int .i64 0, .int .i64 0, .slice none 0 0] [(0, 1, (.t 43)), (1, 1, (.t 44)), (2, 1, (.t 45))], none⟩, ⟨some 10, .alloc 124 3 [.int .i64 0, .int .i64 0, .slice none 0 0], none⟩, ⟨some 11, .alloc 124 3 [.int .i64 0, .int .i64 0, .slice none 0 0], none⟩, ⟨none, .st 3 (.t 10) (.t 42), none⟩, ⟨none, .st 3 (.t 11) (.t 46), none⟩])
 (.seq (.reg true [⟨some 47, .fa 0 (.t 10), none⟩, ⟨some 48, .ld false 1 (.t 47), none⟩, ⟨some 49, .fa 0 (.t 11), none⟩, ⟨some 50, .ld false 1 (.t 49), none⟩, ⟨some 51, .mx (.t 48) (.t 50), none⟩, ⟨some 52, .fa 0 (.t 10), none⟩, ⟨some 53, .ld false 1 (.t 52), none⟩, ⟨some 54, .fa 2 (.t 10), none⟩, ⟨some 55, .ld false 1 (.t 54), none⟩, ⟨some 56, .len (.t 55), none⟩, ⟨some 57, .bin .add (.t 53) (.t 56), none⟩, ⟨some 58, .fa 0 (.t 11), none⟩, ⟨some 59, .ld false 1 (.t 58), none⟩, ⟨some 60, .fa 2 (.t 11), none⟩, ⟨some 61, .ld false 1 (.t 60), none⟩, ⟨some 62, .len (.t 61), none⟩, ⟨some 63, .bin .add (.t 59) (.t 62), none⟩, ⟨some 64, .mn (.t 57) (.t 63), none⟩, ⟨some 12, .mv (.t 51), none⟩, ⟨some 13, .mv (.t 64), none⟩])
 (.seq (.reg false [⟨some 66, .ld true 3 (.t 10), none⟩, ⟨some 67, .mv (.t 12), none⟩, ⟨some 68, .call (kf 103) [(.t 66), (.t 67)], none⟩, ⟨some 65, .mv (.t 68), none⟩, ⟨some 69, .ex (.t 65) 0, none⟩, ⟨some 70, .ex (.t 65) 1, none⟩, ⟨some 14, .mv (.t 69), none⟩, ⟨some 15, .mv (.t 70), none⟩])
 (.seq (.reg false [⟨some 72, .ld true 3 (.t 11), none⟩, ⟨some 73, .mv (.t 12), none⟩, ⟨some 74, .call (kf 103) [(.t 72), (.t 73)], none⟩, ⟨some 71, .mv (.t 74), none⟩, ⟨some 75, .ex (.t 71) 0, none⟩, ⟨some 76, .ex (.t 71) 1, none⟩, ⟨some 16, .mv (.t 75), none⟩, ⟨some 17, .mv (.t 76), none⟩])
 (.seq (.seq (.reg false [⟨some 77, .mv (.t 12), none⟩, ⟨some 78, .mv (.t 13), none⟩, ⟨some 79, .bin .gtr (.t 77) (.t 78), none⟩, ⟨some 80, .mv (.t 79), none⟩, ⟨some 81, .mv (.t 15), some (80, false)⟩, ⟨some 82, .mv (.t 81), some (80, false)⟩, ⟨some 83, .mv (.t 17), some (82, true)⟩, ⟨some 84, .pick (.t 82) (.t 83) (kb false), some (80, false)⟩, ⟨some 85, .mv (.t 84), some (80, false)⟩, ⟨some 86, .mv (.t 14), some (85, true)⟩, ⟨some 87, .mv (.t 16), some (85, true)⟩, ⟨some 88, .bin .neq (.t 86) (.t 87), some (85, true)⟩, ⟨some 89, .pick (.t 85) (.t 88) (kb false), some (80, false)⟩, ⟨some 90, .pick (.t 80) (kb true) (.t 89), none⟩])
 (.cond (.t 90)
 (.seq (.reg false [⟨some 8, .mv (ki 0), none⟩, ⟨some 9, .mv (kb false), none⟩])
 .ret)
 .skip))
 (.seq (.seq (.reg false [⟨some 91, .mv (.t 12), none⟩, ⟨some 18, .mv (.t 91), none⟩])
 (.block 0 (.loop (.seq (.seq (.reg false [⟨some 92, .mv (.t 18), none⟩, ⟨some 93, .mv (.t 13), none⟩, ⟨some 94, .bin .lss (.t 92) (.t 93), none⟩])
 (.cond (.t 94)
 .skip
 (.exit 0)))
 (.seq (.block 1 (.seq (.reg false [⟨some 98, .ld true 3 (.t 10), none⟩, ⟨some 99, .mv (.t 18), none⟩, ⟨some 100, .bin .add (.t 99) (ki 1), none⟩, ⟨some 101, .call (kf 103) [(.t 98), (.t 100)], none⟩, ⟨some 97, .mv (.t 101), none⟩, ⟨some 102, .ex (.t 97) 0, none⟩, ⟨some 103, .ex (.t 97) 1, none⟩, ⟨some 19, .mv (.t 102), none⟩, ⟨some 20, .mv (.t 103), none⟩])
 (.seq (.reg false [⟨some 105, .ld true 3 (.t 11), none⟩, ⟨some 106, .mv (.t 18), none⟩, ⟨some 107, .bin .add (.t 106) (ki 1), none⟩, ⟨some 108, .call (kf 103) [(.t 105), (.t 107)], none⟩, ⟨some 104, .mv (.t 108), none⟩, ⟨some 109, .ex (.t 104) 0, none⟩, ⟨some 110, .ex (.t 104) 1, none⟩, ⟨some 21, .mv (.t 109), none⟩, ⟨some 22, .mv (.t 110), none⟩])
 (.seq (.reg false [⟨some 111, .mv (.t 19), none⟩, ⟨some 112, .mv (.t 21), none⟩, ⟨some 113, .bin .neq (.t 111) (.t 112), none⟩])
 (.cond (.t 113)
 (.seq (.reg false [⟨some 114, .mv (.t 18), none⟩, ⟨some 8, .mv (.t 114), none⟩, ⟨some 9, .mv (kb true), none⟩])
 .ret)
 .skip)))))
 (.reg false [⟨some 95, .mv (.t 18), none⟩, ⟨some 96, .bin .add (.t 95) (ki 1), none⟩, ⟨some 18, .mv (.t 96), none⟩]))))))
 (.seq (.reg false [⟨some 115, .mv (.t 13), none⟩, ⟨some 8, .mv (.t 115), none⟩, ⟨some 9, .mv (kb true), none⟩])
 .ret)))))))))
abbrev n_pglog_Alike : Nat := 65
theorem F_pglog_Alike : Fun Tryz.prog n_pglog_Alike 116 c_pglog_Alike [.t 8, .t 9] := ⟨⟨Tryz.f65, _, Tryz.func65, by kernel_rfl, rfl, rfl, by kernel_rfl, by kernel_rfl⟩⟩
/-- windrose/pglog.in -/
def c_pglog_in : C :=
 (.seq (.reg false [⟨some 6, .mv (kb false), none⟩])
 (.seq (.reg false [⟨some 7, .mv (.t 0), none⟩, ⟨some 8, .mv (.t 1), none⟩, ⟨some 9, .bin .geq (.t 7) (.t 8), none⟩, ⟨some 10, .mv (.t 9), none⟩, ⟨some 11, .mv (.t 0), some (10, true)⟩, ⟨some 12, .mv (.t 2), some (10, true)⟩, ⟨some 13, .bin .leq (.t 11) (.t 12), some (10, true)⟩, ⟨some 14, .pick (.t 10) (.t 13) (kb false), none⟩, ⟨some 6, .mv (.t 14), none⟩])
 .ret))
abbrev n_pglog_in : Nat := 66
theorem F_pglog_in : Fun Tryz.prog n_pglog_in 15 c_pglog_in [.t 6] := ⟨⟨Tryz.f66, _, Tryz.func66, by kernel_rfl, rfl, rfl, by kernel_rfl, by kernel_rfl⟩⟩
/-- windrose/pglog.entries -/
def c_pglog_entries : C :=
 (.seq (.reg false [⟨some 4, .mv (kb false), none⟩])
 (.seq (.seq (.reg false [⟨some 7, .mv (.t 0), none⟩, ⟨some 8, .len (.t 7), none⟩, ⟨some 9, .mv (ki 0), none⟩])
 (.block 0 (.loop (.seq (.reg false [⟨some 10, .bin .lss (.t 9) (.t 8), none⟩])
 (.seq (.cond (.t 10)
 .skip
 (.exit 0))
 (.seq (.block 1 (.seq (.reg false [⟨some 11, .ia 10 (.t 7) (.t 9), none⟩, ⟨some 12, .ld true 10 (.t 11), none⟩, ⟨some 6, .alloc 37 10 [.int .i64 0, .int .i64 0, .int .i64 0, .int .i64 0, .string ⟨#[]⟩, .int .i64 0, .int .i64 0, .int .i64 0, .int .i64 0, .int .i64 0], none⟩, ⟨none, .st 10 (.t 6) (.t 12), none⟩])
 (.seq (.seq (.reg false [⟨some 13, .ld true 10 (.t 6), none⟩, ⟨some 14, .call (kf 77) [(.t 13)], none⟩, ⟨some 15, .bin .neq (.t 14) (ki 0), none⟩, ⟨some 16, .mv (.t 15), none⟩, ⟨some 17, .fa 0 (.t 6), some (16, false)⟩, ⟨some 18, .ld false 1 (.t 17), some (16, false)⟩, ⟨some 19, .mv (.t 1), some (16, false)⟩, ⟨some 20, .bin .lss (.t 18) (.t 19), some (16, false)⟩, ⟨some 21, .pick (.t 16) (kb true) (.t 20), none⟩])
 (.cond (.t 21)
 (.seq (.reg false [⟨some 4, .mv (kb false), none⟩])
 .ret)
 .skip))
 (.reg false [⟨some 22, .fa 0 (.t 6), none⟩, ⟨some 23, .ld false 1 (.t 22), none⟩, ⟨some 1, .mv (.t 23), none⟩]))))
 (.reg false [⟨some 24, .bin .add (.t 9) (ki 1), none⟩, ⟨some 9, .mv (.t 24), none⟩])))))))
 (.seq (.reg false [⟨some 25, .mv (.t 0), none⟩, ⟨some 26, .len (.t 25), none⟩, ⟨some 27, .bin .leq (.t 26) (ki 32), none⟩, ⟨some 4, .mv (.t 27), none⟩])
 .ret)))
abbrev n_pglog_entries : Nat := 67
theorem F_pglog_entries : Fun Tryz.prog n_pglog_entries 28 c_pglog_entries [.t 4] := ⟨⟨Tryz.f67, _, Tryz.func67, by kernel_rfl, rfl, rfl, by kernel_rfl, by kernel_rfl⟩⟩
/-- windrose/windroseref28.in -/
def c_windroseref28_in : C :=
 (.seq (.reg false [⟨some 4, .mv (kb false), none⟩])
 (.seq (.reg false [⟨some 5, .mv (.t 0), none⟩, ⟨some 6, .mv (.t 1), none⟩, ⟨some 7, .bin .geq (.t 5) (.t 6), none⟩, ⟨some 8, .mv (.t 7), none⟩, ⟨some 9, .mv (.t 0), some (8, true)⟩, ⟨some 10, .bin .lss (.t 9) (ki 2147483648), some (8, true)⟩, ⟨some 11, .pick (.t 8) (.t 10) (kb false), none⟩, ⟨some 4, .mv (.t 11), none⟩])
 .ret))
abbrev n_windroseref28_in : Nat := 68
theorem F_windroseref28_in : Fun Tryz.prog n_windroseref28_in 12 c_windroseref28_in [.t 4] := ⟨⟨Tryz.f68, _, Tryz.func68, by kernel_rfl, rfl, rfl, by kernel_rfl, by kernel_rfl⟩⟩
/-- windrose/windroseref28.Entries -/
def c_windroseref28_Entries : C :=
 (.seq (.reg false [⟨some 4, .mv (kb false), none⟩])
 (.seq (.seq (.reg false [⟨some 5, .mv (ki 0), none⟩])
 (.block 0 (.loop (.seq (.seq (.reg false [⟨some 6, .mv (.t 5), none⟩, ⟨some 7, .mv (.t 0), none⟩, ⟨some 8, .len (.t 7), none⟩, ⟨some 9, .bin .lss (.t 6) (.t 8), none⟩])
 (.cond (.t 9)
 .skip
 (.exit 0)))
 (.seq (.block 1 (.seq (.seq (.reg false [⟨some 12, .mv (.t 0), none⟩, ⟨some 13, .mv (.t 5), none⟩, ⟨some 14, .ia 10 (.t 12) (.t 13), none⟩, ⟨some 15, .ld true 10 (.t 14), none⟩, ⟨some 16, .call (kf 80) [(.t 15)], none⟩, ⟨some 17, .un .not (.t 16), none⟩, ⟨some 18, .mv (.t 17), none⟩, ⟨some 19, .mv (.t 0), some (18, false)⟩, ⟨some 20, .mv (.t 5), some (18, false)⟩, ⟨some 21, .ia 10 (.t 19) (.t 20), some (18, false)⟩, ⟨some 22, .fa 0 (.t 21), some (18, false)⟩, ⟨some 23, .ld false 1 (.t 22), some (18, false)⟩, ⟨some 24, .mv (.t 1), some (18, false)⟩, ⟨some 25, .bin .lss (.t 23) (.t 24), some (18, false)⟩, ⟨some 26, .pick (.t 18) (kb true) (.t 25), none⟩])
 (.cond (.t 26)
 (.seq (.reg false [⟨some 4, .mv (kb false), none⟩])
 .ret)
 .skip))
 (.reg false [⟨some 27, .mv (.t 0), none⟩, ⟨some 28, .mv (.t 5), none⟩, ⟨some 29, .ia 10 (.t 27) (.t 28), none⟩, ⟨some 30, .fa 0 (.t 29), none⟩, ⟨some 31, .ld false 1 (.t 30), none⟩, ⟨some 1, .mv (.t 31), none⟩])))
 (.reg false [⟨some 10, .mv (.t 5), none⟩, ⟨some 11, .bin .add (.t 10) (ki 1), none⟩, ⟨some 5, .mv (.t 11), none⟩]))))))
 (.seq (.reg false [⟨some 32, .mv (.t 0), none⟩, ⟨some 33, .len (.t 32), none⟩, ⟨some 34, .bin .leq (.t 33) (ki 32), none⟩, ⟨some 4, .mv (.t 34), none⟩])
 .ret)))
abbrev n_windroseref28_Entries : Nat := 69
theorem F_windroseref28_Entries : Fun Tryz.prog n_windroseref28_Entries 35 c_windroseref28_Entries [.t 4] := ⟨⟨Tryz.f69, _, Tryz.func69, by kernel_rfl, rfl, rfl, by kernel_rfl, by kernel_rfl⟩⟩
/-- windrose/pglog.before -/
def c_pglog_before : C :=
 (.seq (.reg false [⟨some 2, .box 60 6 (.t 0), none⟩, ⟨some 4, .mv (ki 0), none⟩])
 (.seq (.seq (.reg false [⟨some 5, .mv (.t 1), none⟩, ⟨some 6, .fa 3 (.t 2), none⟩, ⟨some 7, .ld false 1 (.t 6), none⟩, ⟨some 8, .bin .eql (.t 5) (.t 7), none⟩])
 (.cond (.t 8)
 (.seq (.reg false [⟨some 9, .fa 4 (.t 2), none⟩, ⟨some 10, .ld false 1 (.t 9), none⟩, ⟨some 4, .mv (.t 10), none⟩])
 .ret)
 .skip))
 (.seq (.reg false [⟨some 11, .fa 5 (.t 2), none⟩, ⟨some 12, .ld false 1 (.t 11), none⟩, ⟨some 13, .mv (.t 1), none⟩, ⟨some 14, .fa 3 (.t 2), none⟩, ⟨some 15, .ld false 1 (.t 14), none⟩, ⟨some 16, .bin .sub (.t 13) (.t 15), none⟩, ⟨some 17, .bin .sub (.t 16) (ki 1), none⟩, ⟨some 18, .ia 10 (.t 12) (.t 17), none⟩, ⟨some 19, .fa 0 (.t 18), none⟩, ⟨some 20, .ld false 1 (.t 19), none⟩, ⟨some 4, .mv (.t 20), none⟩])
 .ret)))
abbrev n_pglog_before : Nat := 70
theorem F_pglog_before : Fun Tryz.prog n_pglog_before 21 c_pglog_before [.t 4] := ⟨⟨Tryz.f70, _, Tryz.func70, by kernel_rfl, rfl, rfl, by kernel_rfl, by kernel_rfl⟩⟩
/-- windrose/pglog.folded -/
def c_pglog_folded : C :=
 (.seq (.reg false [⟨some 2, .box 29 3 (.t 0), none⟩, ⟨some 4, .alloc 29 3 [.slice none 0 0, .slice none 0 0, .int .i64 0], none⟩])
 (.seq (.seq (.reg false [⟨some 7, .mv (.t 1), none⟩, ⟨some 8, .len (.t 7), none⟩, ⟨some 9, .mv (ki 0), none⟩])
 (.block 0 (.loop (.seq (.reg false [⟨some 10, .bin .lss (.t 9) (.t 8), none⟩])
 (.seq (.cond (.t 10)
 .skip
 (.exit 0))
 (.seq (.block 1 (.seq (.reg false [⟨some 11, .ia 10 (.t 7) (.t 9), none⟩, ⟨some 12, .ld true 10 (.t 11), none⟩, ⟨some 6, .alloc 37 10 [.int .i64 0, .int .i64 0, .int .i64 0, .int .i64 0, .string ⟨#[]⟩, .int .i64 0, .int .i64 0, .int .i64 0, .int .i64 0, .int .i64 0], none⟩, ⟨none, .st 10 (.t 6) (.t 12), none⟩])
 (.reg false [⟨some 14, .ld true 3 (.t 2), none⟩, ⟨some 15, .ld true 10 (.t 6), none⟩, ⟨some 16, .call (kf 16) [(.t 14), (.t 15)], none⟩, ⟨some 13, .mv (.t 16), none⟩, ⟨some 17, .ex (.t 13) 0, none⟩, ⟨some 18, .ex (.t 13) 1, none⟩, ⟨some 19, .ex (.t 13) 2, none⟩, ⟨none, .st 3 (.t 2) (.t 17), none⟩])))
 (.reg false [⟨some 20, .bin .add (.t 9) (ki 1), none⟩, ⟨some 9, .mv (.t 20), none⟩])))))))
 (.seq (.reg false [⟨some 21, .ld true 3 (.t 2), none⟩, ⟨none, .st 3 (.t 4) (.t 21), none⟩])
 .ret)))
abbrev n_pglog_folded : Nat := 71
theorem F_pglog_folded : Fun Tryz.prog n_pglog_folded 22 c_pglog_folded [.l true 3 4] := ⟨⟨Tryz.f71, _, Tryz.func71, by kernel_rfl, rfl, rfl, by kernel_rfl, by kernel_rfl⟩⟩
/-- windrose/pglog.copied -/
def c_pglog_copied : C :=
 (.seq (.reg false [⟨some 1, .box 29 3 (.t 0), none⟩, ⟨some 2, .alloc 29 3 [.slice none 0 0, .slice none 0 0, .int .i64 0], none⟩])
 (.seq (.reg true [⟨some 5, .fa 0 (.t 1), none⟩, ⟨some 6, .ld false 1 (.t 5), none⟩, ⟨some 7, .call (kf 85) [(.t 6)], none⟩, ⟨some 8, .fa 1 (.t 1), none⟩, ⟨some 9, .ld false 1 (.t 8), none⟩, ⟨some 10, .call (kf 86) [(.t 9)], none⟩, ⟨some 11, .fa 0 (.t 1), none⟩, ⟨none, .st 1 (.t 11) (.t 7), none⟩, ⟨some 12, .fa 1 (.t 1), none⟩, ⟨none, .st 1 (.t 12) (.t 10), none⟩])
 (.seq (.seq (.reg false [⟨some 13, .fa 0 (.t 1), none⟩, ⟨some 14, .ld false 1 (.t 13), none⟩, ⟨some 15, .len (.t 14), none⟩, ⟨some 16, .mv (ki 0), none⟩])
 (.block 0 (.loop (.seq (.reg false [⟨some 17, .bin .lss (.t 16) (.t 15), none⟩])
 (.seq (.cond (.t 17)
 .skip
 (.exit 0))
 (.seq (.block 1 (.seq (.reg false [⟨some 18, .mv (.t 16), none⟩, ⟨some 19, .ia 2 (.t 14) (.t 16), none⟩, ⟨some 20, .ld true 2 (.t 19), none⟩, ⟨some 4, .alloc 49 2 [.string ⟨#[]⟩, .slice none 0 0], none⟩, ⟨some 3, .mv (.t 18), none⟩, ⟨none, .st 2 (.t 4) (.t 20), none⟩])
 (.reg true [⟨some 21, .fa 0 (.t 1), none⟩, ⟨some 22, .ld false 1 (.t 21), none⟩, ⟨some 23, .mv (.t 3), none⟩, ⟨some 24, .fa 1 (.t 4), none⟩, ⟨some 25, .ld false 1 (.t 24), none⟩, ⟨some 26, .call (kf 87) [(.t 25)], none⟩, ⟨some 27, .ia 2 (.t 22) (.t 23), none⟩, ⟨some 28, .fa 1 (.t 27), none⟩, ⟨none, .st 1 (.t 28) (.t 26), none⟩])))
 (.reg false [⟨some 29, .bin .add (.t 16) (ki 1), none⟩, ⟨some 16, .mv (.t 29), none⟩])))))))
 (.seq (.reg false [⟨some 30, .ld true 3 (.t 1), none⟩, ⟨none, .st 3 (.t 2) (.t 30), none⟩])
 .ret))))
abbrev n_pglog_copied : Nat := 72
theorem F_pglog_copied : Fun Tryz.prog n_pglog_copied 31 c_pglog_copied [.l true 3 2] := ⟨⟨Tryz.f72, _, Tryz.func72, by kernel_rfl, rfl, rfl, by kernel_rfl, by kernel_rfl⟩⟩
/-- windrose/windroseref28.At -/
def c_windroseref28_At : C :=
 (.seq (.reg false [⟨some 2, .box 60 6 (.t 0), none⟩, ⟨some 4, .mv (ki 0), none⟩])
 (.seq (.seq (.reg false [⟨some 5, .mv (.t 1), none⟩, ⟨some 6, .fa 3 (.t 2), none⟩, ⟨some 7, .ld false 1 (.t 6), none⟩, ⟨some 8, .bin .sub (.t 7) (ki 1), none⟩, ⟨some 9, .bin .eql (.t 5) (.t 8), none⟩])
 (.cond (.t 9)
 (.seq (.reg false [⟨some 10, .fa 4 (.t 2), none⟩, ⟨some 11, .ld false 1 (.t 10), none⟩, ⟨some 4, .mv (.t 11), none⟩])
 .ret)
 .skip))
 (.seq (.seq (.reg false [⟨some 12, .mv (.t 1), none⟩, ⟨some 13, .fa 3 (.t 2), none⟩, ⟨some 14, .ld false 1 (.t 13), none⟩, ⟨some 15, .bin .geq (.t 12) (.t 14), none⟩, ⟨some 16, .mv (.t 15), none⟩, ⟨some 17, .mv (.t 1), some (16, true)⟩, ⟨some 18, .ld true 6 (.t 2), some (16, true)⟩, ⟨some 19, .call (kf 35) [(.t 18)], some (16, true)⟩, ⟨some 20, .bin .lss (.t 17) (.t 19), some (16, true)⟩, ⟨some 21, .pick (.t 16) (.t 20) (kb false), none⟩])
 (.cond (.t 21)
 (.seq (.reg false [⟨some 22, .fa 5 (.t 2), none⟩, ⟨some 23, .ld false 1 (.t 22), none⟩, ⟨some 24, .mv (.t 1), none⟩, ⟨some 25, .fa 3 (.t 2), none⟩, ⟨some 26, .ld false 1 (.t 25), none⟩, ⟨some 27, .bin .sub (.t 24) (.t 26), none⟩, ⟨some 28, .ia 10 (.t 23) (.t 27), none⟩, ⟨some 29, .fa 0 (.t 28), none⟩, ⟨some 30, .ld false 1 (.t 29), none⟩, ⟨some 4, .mv (.t 30), none⟩])
 .ret)
 .skip))
 (.seq (.reg false [⟨some 4, .mv (ki 0), none⟩])
 .ret))))
abbrev n_windroseref28_At : Nat := 73
theorem F_windroseref28_At : Fun Tryz.prog n_windroseref28_At 31 c_windroseref28_At [.t 4] := ⟨⟨Tryz.f73, _, Tryz.func73, by kernel_rfl, rfl, rfl, by kernel_rfl, by kernel_rfl⟩⟩
/-- windrose/windroseref28.fold -/
def c_windroseref28_fold : C :=
 (.seq (.reg false [⟨some 2, .box 29 3 (.t 0), none⟩, ⟨some 4, .alloc 29 3 [.slice none 0 0, .slice none 0 0, .int .i64 0], none⟩])
 (.seq (.seq (.reg false [⟨some 5, .mv (ki 0), none⟩])
 (.block 0 (.loop (.seq (.seq (.reg false [⟨some 6, .mv (.t 5), none⟩, ⟨some 7, .mv (.t 1), none⟩, ⟨some 8, .len (.t 7), none⟩, ⟨some 9, .bin .lss (.t 6) (.t 8), none⟩])
 (.cond (.t 9)
 .skip
 (.exit 0)))
 (.seq (.block 1 (.reg true [⟨some 13, .ld true 3 (.t 2), none⟩, ⟨some 14, .mv (.t 1), none⟩, ⟨some 15, .mv (.t 5), none⟩, ⟨some 16, .ia 10 (.t 14) (.t 15), none⟩, ⟨some 17, .ld true 10 (.t 16), none⟩, ⟨some 18, .call (kf 24) [(.t 13), (.t 17)], none⟩, ⟨some 12, .mv (.t 18), none⟩, ⟨some 19, .ex (.t 12) 0, none⟩, ⟨some 20, .ex (.t 12) 1, none⟩, ⟨some 21, .ex (.t 12) 2, none⟩, ⟨none, .st 3 (.t 2) (.t 19), none⟩]))
 (.reg false [⟨some 10, .mv (.t 5), none⟩, ⟨some 11, .bin .add (.t 10) (ki 1), none⟩, ⟨some 5, .mv (.t 11), none⟩]))))))
 (.seq (.reg false [⟨some 22, .ld true 3 (.t 2), none⟩, ⟨none, .st 3 (.t 4) (.t 22), none⟩])
 .ret)))
abbrev n_windroseref28_fold : Nat := 74
theorem F_windroseref28_fold : Fun Tryz.prog n_windroseref28_fold 23 c_windroseref28_fold [.l true 3 4] := ⟨⟨Tryz.f74, _, Tryz.func74, by kernel_rfl, rfl, rfl, by kernel_rfl, by kernel_rfl⟩⟩
/-- slices.Equal[[]windrose/api.Entry,windrose/api.Entry] -/
def c_slices_Equal_api_Entry_api_Entry : C :=
 (.seq (.reg false [⟨some 4, .mv (kb false), none⟩])
 (.seq (.seq (.reg false [⟨some 6, .mv (.t 0), none⟩, ⟨some 7, .len (.t 6), none⟩, ⟨some 8, .mv (.t 1), none⟩, ⟨some 9, .len (.t 8), none⟩, ⟨some 10, .bin .neq (.t 7) (.t 9), none⟩])
 (.cond (.t 10)
 (.seq (.reg false [⟨some 4, .mv (kb false), none⟩])
 .ret)
 .skip))
 (.seq (.seq (.reg false [⟨some 11, .mv (.t 0), none⟩, ⟨some 12, .len (.t 11), none⟩, ⟨some 13, .mv (ki 0), none⟩])
 (.block 0 (.loop (.seq (.reg false [⟨some 14, .bin .lss (.t 13) (.t 12), none⟩])
 (.seq (.cond (.t 14)
 .skip
 (.exit 0))
 (.seq (.block 1 (.seq (.reg false [⟨some 15, .mv (.t 13), none⟩, ⟨some 5, .mv (.t 15), none⟩])
 (.seq (.reg true [⟨some 16, .mv (.t 0), none⟩, ⟨some 17, .mv (.t 5), none⟩, ⟨some 18, .ia 10 (.t 16) (.t 17), none⟩, ⟨some 19, .ld true 10 (.t 18), none⟩, ⟨some 20, .mv (.t 1), none⟩, ⟨some 21, .mv (.t 5), none⟩, ⟨some 22, .ia 10 (.t 20) (.t 21), none⟩, ⟨some 23, .ld true 10 (.t 22), none⟩, ⟨some 24, .eqa [1, 1, 1, 1, 2, 1, 1, 1, 1, 1] true (.t 19) (.t 23), none⟩])
 (.cond (.t 24)
 (.seq (.reg false [⟨some 4, .mv (kb false), none⟩])
 .ret)
 .skip))))
 (.reg false [⟨some 25, .bin .add (.t 13) (ki 1), none⟩, ⟨some 13, .mv (.t 25), none⟩])))))))
 (.seq (.reg false [⟨some 4, .mv (kb true), none⟩])
 .ret))))
abbrev n_slices_Equal_api_Entry_api_Entry : Nat := 75
theorem F_slices_Equal_api_Entry_api_Entry : Fun Tryz.prog n_slices_Equal_api_Entry_api_Entry 26 c_slices_Equal_api_Entry_api_Entry [.t 4] := ⟨⟨Tryz.f75, _, Tryz.func75, by kernel_rfl, rfl, rfl, by kernel_rfl, by kernel_rfl⟩⟩
/-- windrose/pglog.own -/
def c_pglog_own : C :=
 (.seq (.reg false [⟨some 1, .box 60 6 (.t 0), none⟩, ⟨some 2, .alloc 60 6 [.slice none 0 0, .slice none 0 0, .int .i64 0, .int .i64 0, .int .i64 0, .slice none 0 0], none⟩])
 (.seq (.reg true [⟨some 3, .fa 0 (.t 1), none⟩, ⟨some 4, .ld true 3 (.t 3), none⟩, ⟨some 5, .call (kf 72) [(.t 4)], none⟩, ⟨some 6, .fa 5 (.t 1), none⟩, ⟨some 7, .ld false 1 (.t 6), none⟩, ⟨some 8, .call (kf 79) [(.t 7)], none⟩, ⟨some 9, .fa 0 (.t 1), none⟩, ⟨none, .st 3 (.t 9) (.t 5), none⟩, ⟨some 10, .fa 5 (.t 1), none⟩, ⟨none, .st 1 (.t 10) (.t 8), none⟩])
 (.seq (.reg false [⟨some 11, .ld true 6 (.t 1), none⟩, ⟨none, .st 6 (.t 2) (.t 11), none⟩])
 .ret)))
abbrev n_pglog_own : Nat := 76
theorem F_pglog_own : Fun Tryz.prog n_pglog_own 12 c_pglog_own [.l true 6 2] := ⟨⟨Tryz.f76, _, Tryz.func76, by kernel_rfl, rfl, rfl, by kernel_rfl, by kernel_rfl⟩⟩
/-- windrose/pglog.CheckEntry -/
def c_pglog_CheckEntry : C :=
 (.seq (.reg false [⟨some 1, .box 37 10 (.t 0), none⟩, ⟨some 2, .mv (ki 0), none⟩])
 (.seq (.seq (.reg false [⟨some 3, .fa 0 (.t 1), none⟩, ⟨some 4, .ld false 1 (.t 3), none⟩, ⟨some 5, .call (kf 66) [(.t 4), (ki 1), (ki 2147483647)], none⟩, ⟨some 6, .un .not (.t 5), none⟩, ⟨some 7, .mv (.t 6), none⟩, ⟨some 8, .fa 1 (.t 1), some (7, false)⟩, ⟨some 9, .ld false 1 (.t 8), some (7, false)⟩, ⟨some 10, .call (kf 66) [(.t 9), (ki 0), (ki 2147483647)], some (7, false)⟩, ⟨some 11, .un .not (.t 10), some (7, false)⟩, ⟨some 12, .pick (.t 7) (kb true) (.t 11), none⟩, ⟨some 13, .mv (.t 12), none⟩, ⟨some 14, .fa 2 (.t 1), some (13, false)⟩, ⟨some 15, .ld false 1 (.t 14), some (13, false)⟩, ⟨some 16, .call (kf 66) [(.t 15), (ki 1), (ki 2147483647)], some (13, false)⟩, ⟨some 17, .un .not (.t 16), some (13, false)⟩, ⟨some 18, .pick (.t 13) (kb true) (.t 17), none⟩])
 (.cond (.t 18)
 (.seq (.reg false [⟨some 2, .mv (ki 1), none⟩])
 .ret)
 .skip))
 (.seq (.reg false [⟨some 19, .fa 3 (.t 1), none⟩, ⟨some 20, .ld true 7 (.t 19), none⟩, ⟨some 21, .call (kf 21) [(.t 20)], none⟩, ⟨some 2, .mv (.t 21), none⟩])
 .ret)))
abbrev n_pglog_CheckEntry : Nat := 77
theorem F_pglog_CheckEntry : Fun Tryz.prog n_pglog_CheckEntry 22 c_pglog_CheckEntry [.t 2] := ⟨⟨Tryz.f77, _, Tryz.func77, by kernel_rfl, rfl, rfl, by kernel_rfl, by kernel_rfl⟩⟩
/-- windrose/pglog.place -/
def c_pglog_place : C :=
 (.seq (.reg false [⟨some 2, .box 60 6 (.t 0), none⟩, ⟨some 4, .mv (ki 0), none⟩])
 (.seq (.block 0 (.seq (.reg false [⟨some 6, .mv (.t 1), none⟩, ⟨some 7, .fa 3 (.t 2), none⟩, ⟨some 8, .ld false 1 (.t 7), none⟩, ⟨some 9, .bin .lss (.t 6) (.t 8), none⟩, ⟨some 5, .mv (.t 9), none⟩])
 (.cond (.t 5)
 (.seq (.reg false [⟨some 4, .mv (ki 9), none⟩])
 .ret)
 (.seq (.reg false [⟨some 11, .mv (.t 1), none⟩, ⟨some 12, .ld true 6 (.t 2), none⟩, ⟨some 13, .call (kf 31) [(.t 12)], none⟩, ⟨some 14, .bin .gtr (.t 11) (.t 13), none⟩, ⟨some 10, .mv (.t 14), none⟩])
 (.cond (.t 10)
 (.seq (.reg false [⟨some 4, .mv (ki 5), none⟩])
 .ret)
 .skip)))))
 (.seq (.reg false [⟨some 4, .mv (ki 0), none⟩])
 .ret)))
abbrev n_pglog_place : Nat := 78
theorem F_pglog_place : Fun Tryz.prog n_pglog_place 15 c_pglog_place [.t 4] := ⟨⟨Tryz.f78, _, Tryz.func78, by kernel_rfl, rfl, rfl, by kernel_rfl, by kernel_rfl⟩⟩
/-- slices.Clone[[]windrose/api.Entry,windrose/api.Entry] -/
def c_slices_Clone_api_Entry_api_Entry : C :=
 (.seq (.reg false [⟨some 2, .mv (.k (.one (.c (.v (.slice none 0 0))))), none⟩])
 (.seq (.seq (.reg false [⟨some 3, .mv (.t 0), none⟩, ⟨some 4, .eqb false (.t 3) (.k (.one (.c (.v (.slice none 0 0))))), none⟩])
 (.cond (.t 4)
 (.seq (.reg false [⟨some 2, .mv (.k (.one (.c (.v (.slice none 0 0))))), none⟩])
 .ret)
 .skip))
 (.seq (.reg false [⟨some 5, .bsl 37 10 0 [.int .i64 0, .int .i64 0, .int .i64 0, .int .i64 0, .string ⟨#[]⟩, .int .i64 0, .int .i64 0, .int .i64 0, .int .i64 0, .int .i64 0] [], none⟩, ⟨some 6, .mv (.t 0), none⟩, ⟨some 7, .app 37 10 88 [.int .i64 0, .int .i64 0, .int .i64 0, .int .i64 0, .string ⟨#[]⟩, .int .i64 0, .int .i64 0, .int .i64 0, .int .i64 0, .int .i64 0] (.t 5) (.t 6), none⟩, ⟨some 2, .mv (.t 7), none⟩])
 .ret)))
abbrev n_slices_Clone_api_Entry_api_Entry : Nat := 79
theorem F_slices_Clone_api_Entry_api_Entry : Fun Tryz.prog n_slices_Clone_api_Entry_api_Entry 8 c_slices_Clone_api_Entry_api_Entry [.t 2] := ⟨⟨Tryz.f79, _, Tryz.func79, by kernel_rfl, rfl, rfl, by kernel_rfl, by kernel_rfl⟩⟩
/-- windrose/windroseref28.Entry -/
def c_windroseref28_Entry : C :=
 (.seq (.reg false [⟨some 1, .box 37 10 (.t 0), none⟩, ⟨some 2, .mv (kb false), none⟩])
 (.seq (.reg false [⟨some 3, .fa 0 (.t 1), none⟩, ⟨some 4, .ld false 1 (.t 3), none⟩, ⟨some 5, .call (kf 68) [(.t 4), (ki 1)], none⟩, ⟨some 6, .mv (.t 5), none⟩, ⟨some 7, .fa 1 (.t 1), some (6, true)⟩, ⟨some 8, .ld false 1 (.t 7), some (6, true)⟩, ⟨some 9, .call (kf 68) [(.t 8), (ki 0)], some (6, true)⟩, ⟨some 10, .pick (.t 6) (.t 9) (kb false), none⟩, ⟨some 11, .mv (.t 10), none⟩, ⟨some 12, .fa 2 (.t 1), some (11, true)⟩, ⟨some 13, .ld false 1 (.t 12), some (11, true)⟩, ⟨some 14, .call (kf 68) [(.t 13), (ki 1)], some (11, true)⟩, ⟨some 15, .pick (.t 11) (.t 14) (kb false), none⟩, ⟨some 16, .mv (.t 15), none⟩, ⟨some 17, .fa 3 (.t 1), some (16, true)⟩, ⟨some 18, .ld true 7 (.t 17), some (16, true)⟩, ⟨some 19, .call (kf 22) [(.t 18)], some (16, true)⟩, ⟨some 20, .pick (.t 16) (.t 19) (kb false), none⟩, ⟨some 2, .mv (.t 20), none⟩])
 .ret))
abbrev n_windroseref28_Entry : Nat := 80
theorem F_windroseref28_Entry : Fun Tryz.prog n_windroseref28_Entry 21 c_windroseref28_Entry [.t 2] := ⟨⟨Tryz.f80, _, Tryz.func80, by kernel_rfl, rfl, rfl, by kernel_rfl, by kernel_rfl⟩⟩
/-- windrose/windroseref28.Place -/
def c_windroseref28_Place : C :=
 (.seq (.reg false [⟨some 2, .box 60 6 (.t 0), none⟩, ⟨some 4, .mv (ki 0), none⟩])
 (.seq (.seq (.reg false [⟨some 5, .mv (.t 1), none⟩, ⟨some 6, .fa 3 (.t 2), none⟩, ⟨some 7, .ld false 1 (.t 6), none⟩, ⟨some 8, .bin .lss (.t 5) (.t 7), none⟩])
 (.cond (.t 8)
 (.seq (.reg false [⟨some 4, .mv (ki 9), none⟩])
 .ret)
 .skip))
 (.seq (.seq (.reg false [⟨some 9, .mv (.t 1), none⟩, ⟨some 10, .ld true 6 (.t 2), none⟩, ⟨some 11, .call (kf 35) [(.t 10)], none⟩, ⟨some 12, .bin .gtr (.t 9) (.t 11), none⟩])
 (.cond (.t 12)
 (.seq (.reg false [⟨some 4, .mv (ki 5), none⟩])
 .ret)
 .skip))
 (.seq (.reg false [⟨some 4, .mv (ki 0), none⟩])
 .ret))))
abbrev n_windroseref28_Place : Nat := 81
theorem F_windroseref28_Place : Fun Tryz.prog n_windroseref28_Place 13 c_windroseref28_Place [.t 4] := ⟨⟨Tryz.f81, _, Tryz.func81, by kernel_rfl, rfl, rfl, by kernel_rfl, by kernel_rfl⟩⟩
/-- windrose/windroseref28.List -/
def c_windroseref28_List : C :=
 (.seq (.reg false [⟨some 4, .mv (kb false), none⟩])
 (.seq (.seq (.reg false [⟨some 6, .mv (.t 0), none⟩, ⟨some 7, .len (.t 6), none⟩, ⟨some 8, .mv (.t 1), none⟩, ⟨some 9, .len (.t 8), none⟩, ⟨some 10, .bin .neq (.t 7) (.t 9), none⟩])
 (.cond (.t 10)
 (.seq (.reg false [⟨some 4, .mv (kb false), none⟩])
 .ret)
 .skip))
 (.seq (.seq (.reg false [⟨some 5, .mv (ki 0), none⟩])
 (.block 0 (.loop (.seq (.seq (.reg false [⟨some 11, .mv (.t 5), none⟩, ⟨some 12, .mv (.t 0), none⟩, ⟨some 13, .len (.t 12), none⟩, ⟨some 14, .bin .lss (.t 11) (.t 13), none⟩])
 (.cond (.t 14)
 .skip
 (.exit 0)))
 (.seq (.block 1 (.seq (.reg true [⟨some 17, .mv (.t 0), none⟩, ⟨some 18, .mv (.t 5), none⟩, ⟨some 19, .ia 10 (.t 17) (.t 18), none⟩, ⟨some 20, .ld true 10 (.t 19), none⟩, ⟨some 21, .mv (.t 1), none⟩, ⟨some 22, .mv (.t 5), none⟩, ⟨some 23, .ia 10 (.t 21) (.t 22), none⟩, ⟨some 24, .ld true 10 (.t 23), none⟩, ⟨some 25, .eqa [1, 1, 1, 1, 2, 1, 1, 1, 1, 1] true (.t 20) (.t 24), none⟩])
 (.cond (.t 25)
 (.seq (.reg false [⟨some 4, .mv (kb false), none⟩])
 .ret)
 .skip)))
 (.reg false [⟨some 15, .mv (.t 5), none⟩, ⟨some 16, .bin .add (.t 15) (ki 1), none⟩, ⟨some 5, .mv (.t 16), none⟩]))))))
 (.seq (.reg false [⟨some 4, .mv (kb true), none⟩])
 .ret))))
abbrev n_windroseref28_List : Nat := 82
theorem F_windroseref28_List : Fun Tryz.prog n_windroseref28_List 26 c_windroseref28_List [.t 4] := ⟨⟨Tryz.f82, _, Tryz.func82, by kernel_rfl, rfl, rfl, by kernel_rfl, by kernel_rfl⟩⟩
/-- (windrose/pglog.other).before -/
def c_pglog_other_before : C :=
 (.seq (.reg false [⟨some 2, .box 124 3 (.t 0), none⟩, ⟨some 4, .mv (ki 0), none⟩, ⟨some 5, .mv (kb false), none⟩])
 (.seq (.seq (.reg false [⟨some 7, .mv (.t 1), none⟩, ⟨some 8, .fa 0 (.t 2), none⟩, ⟨some 9, .ld false 1 (.t 8), none⟩, ⟨some 10, .bin .sub (.t 7) (.t 9), none⟩, ⟨some 6, .mv (.t 10), none⟩])
 (.block 0 (.seq (.reg false [⟨some 12, .mv (.t 6), none⟩, ⟨some 13, .bin .eql (.t 12) (ki 0), none⟩, ⟨some 11, .mv (.t 13), none⟩])
 (.cond (.t 11)
 (.seq (.reg false [⟨some 14, .fa 1 (.t 2), none⟩, ⟨some 15, .ld false 1 (.t 14), none⟩, ⟨some 16, .mv (.t 1), none⟩, ⟨some 17, .bin .gtr (.t 16) (ki 0), none⟩, ⟨some 4, .mv (.t 15), none⟩, ⟨some 5, .mv (.t 17), none⟩])
 .ret)
 (.seq (.reg false [⟨some 19, .mv (.t 6), none⟩, ⟨some 20, .bin .gtr (.t 19) (ki 0), none⟩, ⟨some 21, .mv (.t 20), none⟩, ⟨some 22, .mv (.t 6), some (21, true)⟩, ⟨some 23, .fa 2 (.t 2), some (21, true)⟩, ⟨some 24, .ld false 1 (.t 23), some (21, true)⟩, ⟨some 25, .len (.t 24), some (21, true)⟩, ⟨some 26, .bin .leq (.t 22) (.t 25), some (21, true)⟩, ⟨some 27, .pick (.t 21) (.t 26) (kb false), none⟩, ⟨some 18, .mv (.t 27), none⟩])
 (.cond (.t 18)
 (.seq (.reg false [⟨some 28, .fa 2 (.t 2), none⟩, ⟨some 29, .ld false 1 (.t 28), none⟩, ⟨some 30, .mv (.t 6), none⟩, ⟨some 31, .bin .sub (.t 30) (ki 1), none⟩, ⟨some 32, .ia 1 (.t 29) (.t 31), none⟩, ⟨some 33, .ld false 1 (.t 32), none⟩, ⟨some 4, .mv (.t 33), none⟩, ⟨some 5, .mv (kb true), none⟩])
 .ret)
 .skip))))))
 (.seq (.reg false [⟨some 4, .mv (ki 0), none⟩, ⟨some 5, .mv (kb false), none⟩])
 .ret)))
abbrev n_pglog_other_before : Nat := 103
theorem F_pglog_other_before : Fun Tryz.prog n_pglog_other_before 34 c_pglog_other_before [.t 4, .t 5] := ⟨⟨Tryz.f103, _, Tryz.func103, by kernel_rfl, rfl, rfl, by kernel_rfl, by kernel_rfl⟩⟩
end Go.Proofs.YtcmkhlfjcdchmaaGreat.A
end
section
namespace Go.Proofs.YtcmkhlfjcdchmaaGreat.A
open Go Go.Proofs Go.Proofs.YtcmkhlfjcdchmaaGreatAbs
attribute [go_sem] opRow
structure Lg where
  base : Shf
  trim : Int
  epoch : Int
  tail : List Ent
instance : Inhabited Lg := ⟨⟨⟨[], [], 0⟩, 0, 0, []⟩⟩
abbrev lgCells (x : Lg) : List AV := [.c (immL 2 Lin.c x.base.lines), .c (immL 5 Dn.c x.base.dones), .c (.v (.int .i64 x.base.floor)), .c (.v (.int .i64 x.trim)), .c (.v (.int .i64 x.epoch)), .c (immL 10 Ent.c x.tail)]
abbrev lgA (x : Lg) : Pt := .agg (lgCells x)
@[go_sem] def Lg.c (x : Lg) : Nat → CV
  | 0 => immL 2 Lin.c x.base.lines
  | 1 => immL 5 Dn.c x.base.dones
  | 2 => .v (.int .i64 x.base.floor)
  | 3 => .v (.int .i64 x.trim)
  | 4 => .v (.int .i64 x.epoch)
  | _ => immL 10 Ent.c x.tail
/-- A log that is not too great to be looked at. -/
structure zLg (l : Lg) : Prop where
  base : zShf l.base
  len : l.tail.length ≤ 1000
  ser : ∀ e ∈ l.tail, e.op.ser.size ≤ 2000
abbrev lgB (x : Lg) : Blk := .rows 60 6 0 [lgCells x] true
theorem pin_rc (n lo hi : Int) (M : List Blk) : CallR Tryz.prog M n_pglog_in [.i n, .i lo, .i hi] (.b (decide (lo ≤ n) && decide (n ≤ hi))) M := by
  refine callP F_pglog_in (Nat.le_of_ble_eq_true rfl) (by simp only [go_sem]) (by simp only [go_sem]) ?_ M
  simp only [c_pglog_in, go_sem]
theorem rpin_rc (n lo : Int) (M : List Blk) : CallR Tryz.prog M n_windroseref28_in [.i n, .i lo] (.b (decide (lo ≤ n) && decide (n < 2147483648))) M := by
  refine callP F_windroseref28_in (Nat.le_of_ble_eq_true rfl) (by simp only [go_sem]) (by simp only [go_sem]) ?_ M
  simp only [c_windroseref28_in, go_sem]
def entOk (e : Ent) : Bool := decide (1 ≤ e.epoch) && decide (e.epoch ≤ 2147483647) && decide (0 ≤ e.client) && decide (e.client ≤ 2147483647) && decide (1 ≤ e.id) && decide (e.id ≤ 2147483647) && opOk e.op
theorem endI {n : Nat} (v : Int) (e : Nat → SV) (X : List Blk) (r : Nat) (h4 : e r = .i v) : FinK n 0 [.t r] (.i v) [] .ret ⟨e, X⟩ := by
  refine fin0 (.inr rfl) (qs := [.one (.c (.v (.int .i64 v)))]) (cnd := True) ?_ trivial (SubS.refl _) (by simp only [go_sem])
  simp only [go_sem, h4]
set_option maxRecDepth 20000 in
theorem CheckEntry_rc (e : Ent) (ho : e.op.ser.size ≤ 2000) (M : List Blk) : CallR Tryz.prog M n_pglog_CheckEntry [entA e] (.i (if entOk e then 0 else 1)) M := by
  refine callPG F_pglog_CheckEntry (Nat.le_of_ble_eq_true rfl) (by simp only [go_sem]) ?_ M
  obtain ⟨epoch, client, id, op⟩ := e
  refine run_seqV ?_
  simp only [go_sem]
  refine run_seqV ?_
  simp only [go_sem]
  refine call0 (pin_rc _ _ _) ?_
  simp only [go_sem]
  refine callg0 (fun _ => pin_rc client 0 2147483647) ?_
  simp only [go_sem]
  refine callg0 (fun _ => pin_rc id 1 2147483647) ?_
  simp only [go_sem]
  refine ⟨fun hc => ?_, fun hc => ?_⟩
  · have : entOk ⟨epoch, client, id, op⟩ = false := by
      rw [← Bool.not_eq_true]
      intro h
      simp only [entOk, Bool.and_eq_true, decide_eq_true_eq] at h
      simp only [Bool.or_eq_true, Bool.not_eq_true', Bool.and_eq_false_iff, decide_eq_false_iff_not] at hc
      omega
    rw [this]
    exact endI 1 _ _ 2 (by simp only [go_sem])
  · have : entOk ⟨epoch, client, id, op⟩ = opOk op := by
      simp only [Bool.or_eq_false_iff, Bool.not_eq_false', Bool.and_eq_true, decide_eq_true_eq] at hc
      simp only [entOk, hc, decide_true, Bool.true_and]
    rw [this]
    refine V_sound ?_
    simp only [go_sem]
    refine call0 (CheckOp_rc op ho) ?_
    simp only [go_sem]
    exact endI _ _ _ 2 (by simp only [go_sem])
set_option maxRecDepth 20000 in
theorem rEntry_rc (e : Ent) (ho : e.op.ser.size ≤ 2000) (M : List Blk) : CallR Tryz.prog M n_windroseref28_Entry [entA e] (.b (entOk e)) M := by
  refine callPG F_windroseref28_Entry (Nat.le_of_ble_eq_true rfl) (by simp only [go_sem]) ?_ M
  obtain ⟨epoch, client, id, op⟩ := e
  refine run_seqV ?_
  simp only [go_sem]
  refine run_seqV ?_
  simp only [go_sem]
  refine call0 (rpin_rc _ _) ?_
  simp only [go_sem]
  refine callg0 (fun _ => rpin_rc client 0) ?_
  simp only [go_sem]
  refine callg0 (fun _ => rpin_rc id 1) ?_
  simp only [go_sem]
  refine callg0 (fun _ => rOp_rc op ho) ?_
  simp only [go_sem]
  refine run_ret ?_
  have : entOk ⟨epoch, client, id, op⟩ = (decide (1 ≤ epoch) && decide (epoch < 2147483648) && (decide (0 ≤ client) && decide (client < 2147483648)) && (decide (1 ≤ id) && decide (id < 2147483648)) && opOk op) := by
    have h8 : ∀ x : Int, decide (x < 2147483648) = decide (x ≤ 2147483647) := fun x => by rw [decide_eq_decide]; omega
    simp only [entOk, h8, Bool.and_assoc]
  rw [this]
  exact endB _ _ _ 2 (by simp only [go_sem])
/-- The epoch ahead of a place of entries. -/
def epAt (l : List Ent) (ep : Int) (i : Nat) : Int := if i = 0 then ep else (l.getD (i - 1) default).epoch
def enAt (l : List Ent) (ep : Int) (i : Nat) : Bool := entOk (l.getD i default) && decide (epAt l ep i ≤ (l.getD i default).epoch)
def entsOk (l : List Ent) (ep : Int) : Bool := decide (l.length ≤ 32) && (List.range l.length).all (enAt l ep)
theorem entsOk_f {l : List Ent} {ep : Int} {k : Nat} (hk : k < l.length) (h : enAt l ep k = false) : entsOk l ep = false := by rw [entsOk, all_f hk h, Bool.and_false]
theorem entsOk_t {l : List Ent} {ep : Int} (h : ∀ i, i < l.length → enAt l ep i = true) : entsOk l ep = decide (l.length ≤ 32) := by rw [entsOk, all_t h, Bool.and_true]
theorem epAt_succ (l : List Ent) (ep : Int) (k : Nat) : epAt l ep (k + 1) = (l.getD k default).epoch := by simp [epAt]
set_option maxRecDepth 20000 in
theorem entries28_rc (l : List Ent) (hl : l.length ≤ 1000) (hs : ∀ e ∈ l, e.op.ser.size ≤ 2000) (ep : Int) (M : List Blk) : CallR Tryz.prog M n_pglog_entries [entL l, .i ep] (.b (entsOk l ep)) M := by
  refine callPG F_pglog_entries (Nat.le_of_ble_eq_true rfl) (by simp only [go_sem]) ?_ M
  refine run_seqV ?_
  simp only [go_sem]
  refine run_seqV ?_
  simp only [go_sem]
  refine R_loop (ι := Nat) (J := fun k => k ≤ l.length ∧ ∀ i, i < k → enAt l ep i = true)
    (env := fun k => [(0, .p (entL l)), (1, .i (epAt l ep k)), (7, .p (entL l)), (8, .i l.length), (9, .i k)])
    (mem := fun _ => []) (μ := fun k => l.length - k) 0 ⟨Nat.zero_le _, fun j hj => absurd hj (Nat.not_lt_zero _)⟩ ⟨[], rfl, Nat.zero_le _, ?_, ?_⟩ ?_
  · simp only [go_sem, epAt]
  · intro x hx; cases hx
  rintro k ⟨hk, hok⟩
  refine run_seqV ?_
  simp only [go_sem]
  refine run_seqV ?_
  simp only [go_sem]
  refine ⟨fun h1 => ?_, fun h1 => ?_⟩
  · have e3 : IntKind.i64.wrap ((k : Int) + 1) = ((k + 1 : Nat) : Int) := w64s (by omega)
    have hsz : (l.getD k default).op.ser.size ≤ 2000 := by rw [gd_get h1]; exact hs _ (List.getElem_mem h1)
    refine run_seq ?_
    refine run_block ?_
    refine run_seqV ?_
    simp only [go_sem]
    refine ⟨⟨by omega, h1⟩, run_seqV ?_⟩
    simp only [go_sem]
    refine call0 (CheckEntry_rc _ hsz) ?_
    simp only [go_sem]
    rw [ifne]
    have key : (!entOk (l.getD k default) || decide ((l.getD k default).epoch < epAt l ep k)) = !enAt l ep k := by
      rw [enAt, Bool.not_and]
      congr 1
      rw [Bool.eq_iff_iff]; simp
    refine ⟨fun hc => ?_, fun hc => ?_⟩
    · rw [key] at hc
      rw [entsOk_f h1 (by simpa using hc)]
      exact endB false _ _ 4 (by simp only [go_sem])
    · rw [key] at hc
      refine V_sound ?_
      simp only [go_sem]
      refine V_sound ?_
      simp only [go_sem, e3]
      refine ⟨k + 1, ⟨h1, fun i hi => ?_⟩, by omega, [_], rfl, Nat.zero_le _, ?_, ?_⟩
      · by_cases e : i = k
        · subst e; simpa using hc
        · exact hok i (by omega)
      · simp only [go_sem, epAt_succ]
      · intro x hx; cases hx
  · have hkl : k = l.length := by omega
    subst hkl
    rw [entsOk_t hok]
    refine V_sound ?_
    simp only [go_sem]
    have : decide (l.length ≤ 32) = decide ((l.length : Int) ≤ 32) := by rw [decide_eq_decide]; omega
    rw [this]
    exact endB _ _ _ 4 (by simp only [go_sem])
end Go.Proofs.YtcmkhlfjcdchmaaGreat.A
end
section
namespace Go.Proofs.YtcmkhlfjcdchmaaGreat.A
open Go Go.Proofs Go.Proofs.YtcmkhlfjcdchmaaGreatAbs
set_option maxRecDepth 20000 in
theorem rEntries28_rc (l : List Ent) (hl : l.length ≤ 1000) (hs : ∀ e ∈ l, e.op.ser.size ≤ 2000) (ep : Int) (M : List Blk) : CallR Tryz.prog M n_windroseref28_Entries [entL l, .i ep] (.b (entsOk l ep)) M := by
  refine callPG F_windroseref28_Entries (Nat.le_of_ble_eq_true rfl) (by simp only [go_sem]) ?_ M
  refine run_seqV ?_
  simp only [go_sem]
  refine run_seqV ?_
  simp only [go_sem]
  refine R_loop (ι := Nat) (J := fun k => k ≤ l.length ∧ ∀ i, i < k → enAt l ep i = true)
    (env := fun k => [(0, .p (entL l)), (1, .i (epAt l ep k)), (5, .i k)])
    (mem := fun _ => []) (μ := fun k => l.length - k) 0 ⟨Nat.zero_le _, fun j hj => absurd hj (Nat.not_lt_zero _)⟩ ⟨[], rfl, Nat.zero_le _, ?_, ?_⟩ ?_
  · simp only [go_sem, epAt]
  · intro x hx; cases hx
  rintro k ⟨hk, hok⟩
  refine run_seqV ?_
  simp only [go_sem]
  refine ⟨fun h1 => ?_, fun h1 => ?_⟩
  · have e3 : IntKind.i64.wrap ((k : Int) + 1) = ((k + 1 : Nat) : Int) := w64s (by omega)
    have hsz : (l.getD k default).op.ser.size ≤ 2000 := by rw [gd_get h1]; exact hs _ (List.getElem_mem h1)
    refine run_seq ?_
    refine run_block ?_
    refine run_seqV ?_
    simp only [go_sem]
    refine ⟨⟨by omega, h1⟩, call0 (rEntry_rc _ hsz) ?_⟩
    simp only [go_sem]
    have key : (!entOk (l.getD k default) || decide ((l.getD k default).epoch < epAt l ep k)) = !enAt l ep k := by
      rw [enAt, Bool.not_and]
      congr 1
      rw [Bool.eq_iff_iff]; simp
    rw [key]
    refine ⟨fun _ => by omega, fun hc => ?_, fun hc => ?_⟩
    · rw [entsOk_f h1 (by simpa using hc)]
      exact endB false _ _ 4 (by simp only [go_sem])
    · refine V_sound ?_
      simp only [go_sem]
      refine ⟨⟨by omega, h1⟩, V_sound ?_⟩
      simp only [go_sem, e3]
      refine ⟨k + 1, ⟨h1, fun i hi => ?_⟩, by omega, [], rfl, Nat.zero_le _, ?_, ?_⟩
      · by_cases e : i = k
        · subst e; simpa using hc
        · exact hok i (by omega)
      · simp only [go_sem, epAt_succ]
      · intro x hx; cases hx
  · have hkl : k = l.length := by omega
    subst hkl
    rw [entsOk_t hok]
    refine V_sound ?_
    simp only [go_sem]
    have : decide (l.length ≤ 32) = decide ((l.length : Int) ≤ 32) := by rw [decide_eq_decide]; omega
    rw [this]
    exact endB _ _ _ 4 (by simp only [go_sem])
def lgOk (l : Lg) : Bool := shOk l.base && decide (0 ≤ l.trim) && decide (l.trim ≤ 2147483647) && decide (0 ≤ l.epoch) && decide (l.epoch ≤ 2147483647) && (decide (l.trim = 0) == decide (l.epoch = 0)) && entsOk l.tail l.epoch && decide (l.trim ≤ 2147483647 - l.tail.length)
set_option maxRecDepth 20000 in
theorem pCheck_rc (l : Lg) (hz : zLg l) (M : List Blk) : CallR Tryz.prog M n_pglog_Check [lgA l] (.i (if lgOk l then 0 else 1)) M := by
  refine callPG F_pglog_Check (Nat.le_of_ble_eq_true rfl) (by simp only [go_sem]) ?_ M
  obtain ⟨hb, hl, hs⟩ := hz
  obtain ⟨base, trim, epoch, tail⟩ := l
  simp only at hb hl hs ⊢
  refine run_seqV ?_
  simp only [go_sem]
  refine run_seqV ?_
  simp only [go_sem]
  refine call0 (sCheck_rc base hb) ?_
  simp only [go_sem]
  refine callg0 (fun _ => pin_rc trim 0 2147483647) ?_
  simp only [go_sem]
  refine callg0 (fun _ => pin_rc epoch 0 2147483647) ?_
  simp only [go_sem]
  rw [ifne]
  refine ⟨fun hc => ?_, fun hc => ?_⟩
  · have : lgOk ⟨base, trim, epoch, tail⟩ = false := by
      rw [← Bool.not_eq_true]
      intro h
      simp only [lgOk] at h
      grind
    rw [this]
    exact endI 1 _ _ 2 (by simp only [go_sem])
  · refine run_seqV ?_
    simp only [go_sem]
    refine call0 (entries28_rc tail hl hs epoch) ?_
    simp only [go_sem]
    rw [w64 (n := 2147483647 - (tail.length : Int)) (by omega) (by omega)]
    have : lgOk ⟨base, trim, epoch, tail⟩ = (entsOk tail epoch && decide (trim ≤ 2147483647 - tail.length)) := by
      simp only [lgOk]
      grind
    rw [this]
    refine ⟨fun hd => ?_, fun hd => ?_⟩
    · have : (entsOk tail epoch && decide (trim ≤ 2147483647 - tail.length)) = false := by
        rw [← Bool.not_eq_true]
        intro h
        simp only [Bool.and_eq_true, decide_eq_true_eq] at h
        rw [h.1] at hd
        simp at hd
        omega
      rw [this]
      exact endI 1 _ _ 2 (by simp only [go_sem])
    · have : (entsOk tail epoch && decide (trim ≤ 2147483647 - tail.length)) = true := by
        simp at hd
        simp [hd]
      rw [this]
      refine V_sound ?_
      simp only [go_sem]
      exact endI 0 _ _ 2 (by simp only [go_sem])
end Go.Proofs.YtcmkhlfjcdchmaaGreat.A
end
section
namespace Go.Proofs.YtcmkhlfjcdchmaaGreat.A
open Go Go.Proofs Go.Proofs.YtcmkhlfjcdchmaaGreatAbs
set_option maxRecDepth 20000 in
theorem rMay28_rc (l : Lg) (hz : zLg l) (M : List Blk) : CallR Tryz.prog M n_windroseref28_May [lgA l] (.b (lgOk l)) M := by
  refine callPG F_windroseref28_May (Nat.le_of_ble_eq_true rfl) (by simp only [go_sem]) ?_ M
  obtain ⟨hb, hl, hs⟩ := hz
  obtain ⟨base, trim, epoch, tail⟩ := l
  simp only at hb hl hs ⊢
  refine run_seqV ?_
  simp only [go_sem]
  refine run_seqV ?_
  simp only [go_sem]
  refine call0 (rsMay_rc base hb) ?_
  simp only [go_sem]
  refine callg0 (fun _ => rpin_rc trim 0) ?_
  simp only [go_sem]
  refine callg0 (fun _ => rpin_rc epoch 0) ?_
  simp only [go_sem]
  refine ⟨fun hc => ?_, fun hc => ?_⟩
  · have : lgOk ⟨base, trim, epoch, tail⟩ = false := by
      rw [← Bool.not_eq_true]
      intro h
      simp only [lgOk] at h
      grind
    rw [this]
    exact endB false _ _ 2 (by simp only [go_sem])
  · refine run_seqV ?_
    simp only [go_sem]
    refine call0 (rEntries28_rc tail hl hs epoch) ?_
    simp only [go_sem]
    rw [w64 (n := 2147483647 - (tail.length : Int)) (by omega) (by omega)]
    have : lgOk ⟨base, trim, epoch, tail⟩ = (entsOk tail epoch && decide (trim ≤ 2147483647 - tail.length)) := by
      simp only [lgOk]
      grind
    rw [this]
    exact run_ret (endB _ _ _ 2 (by simp only [go_sem]))
def endL (l : Lg) : Int := if lgOk l = true then l.trim + l.tail.length else 0
structure lgP (l : Lg) : Prop where
  base : shOk l.base = true
  t0 : 0 ≤ l.trim
  e0 : 0 ≤ l.epoch
  e1 : l.epoch ≤ 2147483647
  te : l.trim = 0 ↔ l.epoch = 0
  ents : entsOk l.tail l.epoch = true
  fit : l.trim + l.tail.length ≤ 2147483647
theorem lgOk_iff (l : Lg) : lgOk l = true ↔ lgP l := by
  simp only [lgOk, Bool.and_eq_true, decide_eq_true_eq, beq_iff_eq, decide_eq_decide]
  constructor
  · rintro ⟨⟨⟨⟨⟨⟨⟨h1, h2⟩, h3⟩, h4⟩, h5⟩, h6⟩, h7⟩, h8⟩
    exact ⟨h1, h2, h4, h5, h6, h7, by omega⟩
  · rintro ⟨h1, h2, h3, h4, h5, h6, h7⟩
    exact ⟨⟨⟨⟨⟨⟨⟨h1, h2⟩, by omega⟩, h3⟩, h4⟩, h5⟩, h6⟩, by omega⟩
theorem ents_len {l : List Ent} {ep : Int} (h : entsOk l ep = true) : l.length ≤ 32 := by
  unfold entsOk at h
  exact of_decide_eq_true (Bool.and_eq_true_iff.1 h).1
set_option maxRecDepth 20000 in
theorem pEnd_rc (l : Lg) (hz : zLg l) (M : List Blk) : CallR Tryz.prog M n_pglog_End [lgA l] (.i (endL l)) M := by
  refine callPG F_pglog_End (Nat.le_of_ble_eq_true rfl) (by simp only [go_sem]) ?_ M
  refine run_seqV ?_
  simp only [go_sem]
  refine run_seqV ?_
  simp only [go_sem]
  refine call0 (pCheck_rc l hz) ?_
  simp only [go_sem]
  rw [ifne, endL]
  cases hok : lgOk l with
  | false =>
    simp only [go_sem]
    exact endI 0 _ _ 2 (by simp only [go_sem])
  | true =>
    have h := (lgOk_iff l).1 hok
    have h1 := h.t0
    have h2 := h.fit
    simp only [go_sem]
    refine V_sound ?_
    simp only [go_sem]
    rw [w64 (by omega) (by omega)]
    exact endI _ _ _ 2 (by simp only [go_sem])
theorem rEnd28_rc (l : Lg) (h0 : 0 ≤ l.trim) (h1 : l.trim + l.tail.length ≤ 2147483647) (M : List Blk) : CallR Tryz.prog M n_windroseref28_End [lgA l] (.i (l.trim + l.tail.length)) M := by
  refine callPG F_windroseref28_End (Nat.le_of_ble_eq_true rfl) (by simp only [go_sem]) ?_ M
  refine V_sound ?_
  simp only [c_windroseref28_End, go_sem]
  rw [w64 (by omega) (by omega)]
  exact endI _ _ _ 2 (by simp only [go_sem])
/-- The epoch ahead of a place that is there. -/
def befL (l : Lg) (at_ : Int) : Int := epAt l.tail l.epoch (at_ - l.trim).toNat
set_option maxRecDepth 20000 in
theorem pbefore_rc (l : Lg) (at_ : Int) (h0 : 0 ≤ l.trim) (h1 : l.trim ≤ at_) (h2 : at_ ≤ l.trim + l.tail.length) (h3 : l.trim + l.tail.length ≤ 2147483647) (M : List Blk) : CallR Tryz.prog M n_pglog_before [lgA l, .i at_] (.i (befL l at_)) M := by
  refine callPG F_pglog_before (Nat.le_of_ble_eq_true rfl) (by simp only [go_sem]) ?_ M
  refine run_seqV ?_
  simp only [go_sem]
  refine run_seqV ?_
  simp only [go_sem]
  refine ⟨fun hc => ?_, fun hc => ?_⟩
  · have : befL l at_ = l.epoch := by rw [befL, epAt, if_pos (by omega)]
    rw [this]
    exact endI _ _ _ 4 (by simp only [go_sem])
  · refine V_sound ?_
    simp only [go_sem]
    rw [w64 (n := at_ - l.trim) (by omega) (by omega), w64 (n := at_ - l.trim - 1) (by omega) (by omega)]
    have : befL l at_ = (l.tail.getD (at_ - l.trim - 1).toNat default).epoch := by
      rw [befL, epAt, if_neg (by omega)]
      congr 2
      omega
    rw [this]
    refine ⟨by omega, ?_⟩
    exact endI _ _ _ 4 (by simp only [go_sem])
def lastL (l : Lg) : Int := if lgOk l = true then epAt l.tail l.epoch l.tail.length else 0
set_option maxRecDepth 20000 in
theorem pLast_rc (l : Lg) (hz : zLg l) (M : List Blk) : CallR Tryz.prog M n_pglog_Last [lgA l] (.i (lastL l)) M := by
  refine callPG F_pglog_Last (Nat.le_of_ble_eq_true rfl) (by simp only [go_sem]) ?_ M
  refine run_seqV ?_
  simp only [go_sem]
  refine run_seqV ?_
  simp only [go_sem]
  refine call0 (pCheck_rc l hz) ?_
  simp only [go_sem]
  rw [ifne, lastL]
  have hE := fun M => pEnd_rc l hz M
  unfold endL at hE
  cases hok : lgOk l with
  | false =>
    simp only [go_sem]
    exact endI 0 _ _ 2 (by simp only [go_sem])
  | true =>
    have h := (lgOk_iff l).1 hok
    rw [hok, if_pos rfl] at hE
    simp only [go_sem]
    refine run_seqV ?_
    simp only [go_sem]
    have hb := fun M => pbefore_rc l (l.trim + l.tail.length) h.t0 (by omega) (Int.le_refl _) h.fit M
    rw [befL, show (l.trim + (l.tail.length : Int) - l.trim).toNat = l.tail.length by omega] at hb
    refine call0 hE ?_
    simp only [go_sem]
    refine call0 hb ?_
    simp only [go_sem]
    exact run_ret (endI _ _ _ 2 (by simp only [go_sem]))
/-- What the document tells of a place's epoch. -/
def atL28 (l : Lg) (p : Int) : Int := if p = l.trim - 1 then l.epoch else if l.trim ≤ p ∧ p < l.trim + l.tail.length then (l.tail.getD (p - l.trim).toNat default).epoch else 0
set_option maxRecDepth 20000 in
theorem rAt28_rc (l : Lg) (p : Int) (h0 : 0 ≤ l.trim) (h3 : l.trim + l.tail.length ≤ 2147483647) (hp : -9223372036854775808 ≤ p ∧ p ≤ 9223372036854775807) (M : List Blk) : CallR Tryz.prog M n_windroseref28_At [lgA l, .i p] (.i (atL28 l p)) M := by
  refine callPG F_windroseref28_At (Nat.le_of_ble_eq_true rfl) (by simp only [go_sem]) ?_ M
  refine run_seqV ?_
  simp only [go_sem]
  refine run_seqV ?_
  simp only [go_sem]
  rw [w64 (n := l.trim - 1) (by omega) (by omega)]
  refine ⟨fun hc => ?_, fun hc => ?_⟩
  · rw [atL28, if_pos hc]
    exact endI _ _ _ 4 (by simp only [go_sem])
  · rw [atL28, if_neg hc]
    refine run_seqV ?_
    simp only [go_sem]
    refine callg0 (fun _ => rEnd28_rc l h0 h3) ?_
    simp only [go_sem]
    refine ⟨fun hd => ?_, fun hd => ?_⟩
    · have hd : l.trim ≤ p ∧ p < l.trim + l.tail.length := by simpa using hd
      rw [if_pos hd, w64 (n := p - l.trim) (by omega) (by omega)]
      refine ⟨by omega, ?_⟩
      exact endI _ _ _ 4 (by simp only [go_sem])
    · rw [if_neg (by simpa using hd)]
      refine V_sound ?_
      simp only [go_sem]
      exact endI _ _ _ 4 (by simp only [go_sem])
theorem atL28_bef {l : Lg} {p : Int} (h1 : l.trim ≤ p) (h2 : p ≤ l.trim + l.tail.length) : atL28 l (p - 1) = befL l p := by
  unfold atL28 befL epAt
  by_cases h : p = l.trim
  · rw [if_pos (by omega), if_pos (by omega)]
  · rw [if_neg (by omega), if_pos (by omega), if_neg (by omega)]
    congr 2
    omega
set_option maxRecDepth 20000 in
theorem rLast28_rc (l : Lg) (h0 : 0 ≤ l.trim) (h3 : l.trim + l.tail.length ≤ 2147483647) (M : List Blk) : CallR Tryz.prog M n_windroseref28_Last [lgA l] (.i (epAt l.tail l.epoch l.tail.length)) M := by
  refine callPG F_windroseref28_Last (Nat.le_of_ble_eq_true rfl) (by simp only [go_sem]) ?_ M
  have hb := fun M => rAt28_rc l (l.trim + l.tail.length - 1) h0 h3 (by omega) M
  rw [atL28_bef (by omega) (Int.le_refl _), befL, show (l.trim + (l.tail.length : Int) - l.trim).toNat = l.tail.length by omega] at hb
  refine run_seqV ?_
  simp only [go_sem]
  refine run_seqV ?_
  simp only [go_sem]
  refine call0 (rEnd28_rc l h0 h3) ?_
  simp only [go_sem]
  rw [w64 (n := l.trim + l.tail.length - 1) (by omega) (by omega)]
  refine call0 hb ?_
  simp only [go_sem]
  exact run_ret (endI _ _ _ 2 (by simp only [go_sem]))
@[go_sem] def intC (x : Int) (_ : Nat) : CV := .v (.int .i64 x)
abbrev intsL (l : List Int) : Pt := immP 1 intC l
abbrev intsR (t : Nat) (v : Nat) (l : List Int) (f : Bool) : Blk := .rows t 1 v (rowsL 1 intC l) f
theorem int_row (l : List Int) (x : Int) : rowsL 1 intC l ++ [[AV.c (CV.v (Value.int IntKind.i64 x))]] = rowsL 1 intC (l ++ [x]) := rowsL_app1 l x
def epsL (l : List Ent) : List Int := l.map fun e => e.epoch
theorem epsL_take (l : List Ent) {k : Nat} (hk : k < l.length) : epsL (l.take (k + 1)) = epsL (l.take k) ++ [(l.getD k default).epoch] := by
  unfold epsL
  rw [take_succ_getD default hk, List.map_append]
  rfl
end Go.Proofs.YtcmkhlfjcdchmaaGreat.A
end
section
namespace Go.Proofs.YtcmkhlfjcdchmaaGreat.A
open Go Go.Proofs Go.Proofs.YtcmkhlfjcdchmaaGreatAbs
def epochsL (l : Lg) : List Int := if lgOk l = true then epsL l.tail else []
theorem epsL_len (l : List Ent) : (epsL l).length = l.length := List.length_map ..
theorem end_ints {n : Nat} (ws : List Int) (e : Nat → SV) (X : List Blk) (v : Nat) (f : Bool) (r b : Nat) (h4 : e r = .p (.one (.arr 1 b v 0 ws.length))) (hX : X[b]? = some (intsR 3 v ws f)) : FinK n 0 [.t r] (.p (intsL ws)) [] .ret ⟨e, X⟩ := by
  refine finQ (.inr rfl) (gh_freeze (b := b) (l := rowsL 1 intC ws) hX (rowsL_closed ws)) (qs := [.one (.c (.imm 1 ws.length fun i j => toC (((rowsL 1 intC ws).getD (0 + i) []).getD j default)))]) (cnd := True) ?_ trivial (subS_p (subP_one (frz_sub ws))) (by simp only [go_sem])
  simp only [go_sem, h4, Nat.zero_add]
set_option maxRecDepth 20000 in
theorem pEpochs_rc (l : Lg) (hz : zLg l) (M : List Blk) : CallR Tryz.prog M n_pglog_Epochs [lgA l] (.p (intsL (epochsL l))) M := by
  refine callPG F_pglog_Epochs (Nat.le_of_ble_eq_true rfl) (by simp only [go_sem]) ?_ M
  refine run_seqV ?_
  simp only [go_sem]
  refine run_seqV ?_
  simp only [go_sem]
  refine run_seqV ?_
  simp only [go_sem]
  refine call0 (pCheck_rc l hz) ?_
  simp only [go_sem]
  rw [ifne, epochsL]
  obtain ⟨hb, hl, hs⟩ := hz
  cases hok : lgOk l with
  | false =>
    simp only [go_sem]
    exact fin0 (.inr rfl) (qs := [.one (.c (.v (.slice none 0 0)))]) (cnd := True) (by simp only [go_sem]) trivial (subS_p (subP_one (nil_sub (sz := 1) (c := intC)))) (by simp only [go_sem])
  | true =>
    simp only [go_sem]
    refine run_seqV ?_
    simp only [go_sem]
    refine run_gh (gh_born 3 3 1 (by simp only [go_sem])) ?_
    simp only [List.cons_append, List.nil_append, List.length_cons, List.length_nil, Nat.zero_add]
    refine R_loop (ι := Nat × Nat × Bool) (J := fun p => p.1 ≤ l.tail.length)
      (env := fun p => [(3, .p (.one (.arr 1 1 p.2.1 0 (epsL (l.tail.take p.1)).length))), (10, .p (entL l.tail)), (11, .i l.tail.length), (12, .i p.1)])
      (mem := fun p => [lgB l, intsR 3 p.2.1 (epsL (l.tail.take p.1)) p.2.2])
      (μ := fun p => l.tail.length - p.1) (0, 0, true) (Nat.zero_le _) ⟨[], rfl, Nat.zero_le _, ?_, ?_⟩ ?_
    · simp only [go_sem, List.take_zero, epsL, List.map_nil, List.length_nil]
    · simp only [go_sem, ltB]
      exact fun r hr => (rowsL_row r hr).2 _
    rintro ⟨k, v, f⟩ hk
    simp only at hk
    refine run_seqV ?_
    simp only [go_sem]
    refine run_seqV ?_
    simp only [go_sem]
    refine ⟨fun h1 => ?_, fun h1 => ?_⟩
    · have e3 : IntKind.i64.wrap ((k : Int) + 1) = ((k + 1 : Nat) : Int) := w64s (by omega)
      have hst := epsL_take l.tail h1
      have hle : (epsL (l.tail.take k)).length ≤ 1000 := by rw [epsL_len, List.length_take]; omega
      generalize epsL (l.tail.take k) = ws at hst hle
      refine V_sound ?_
      simp only [go_sem, int_row, rowsL_len, e3]
      refine ⟨⟨by omega, h1⟩, by omega, (k + 1, v + 1, false), h1, by simp only []; omega, [_, _], by simp only [hst]; rfl, Nat.zero_le _, ?_, ?_⟩
      · simp only [go_sem, hst, List.length_append, List.length_cons, List.length_nil, Nat.zero_add]
      · simp only [go_sem, ltB]
        exact fun r hr => (rowsL_row r hr).2 _
    · have hkl : k = l.tail.length := by omega
      subst hkl
      rw [List.take_length]
      refine V_sound ?_
      simp only [go_sem]
      exact end_ints (epsL l.tail) _ _ v f 2 1 (by simp only [go_sem]) rfl
def placeL (l : Lg) (p : Int) : Int := if p < l.trim then 9 else if l.trim + l.tail.length < p then 5 else 0
set_option maxRecDepth 20000 in
theorem pplace_rc (l : Lg) (hz : zLg l) (hok : lgOk l = true) (p : Int) (M : List Blk) : CallR Tryz.prog M n_pglog_place [lgA l, .i p] (.i (placeL l p)) M := by
  refine callPG F_pglog_place (Nat.le_of_ble_eq_true rfl) (by simp only [go_sem]) ?_ M
  have hE := fun M => pEnd_rc l hz M
  unfold endL at hE
  rw [hok, if_pos rfl] at hE
  unfold placeL
  refine run_seqV ?_
  simp only [go_sem]
  refine V_sound ?_
  simp only [go_sem]
  refine ⟨fun hc => ?_, fun hc => ?_⟩
  · rw [if_pos hc]
    exact endI _ _ _ 4 (by simp only [go_sem])
  · rw [if_neg hc]
    refine call0 hE ?_
    simp only [go_sem]
    refine ⟨fun hd => ?_, fun hd => ?_⟩
    · rw [if_pos hd]
      exact endI _ _ _ 4 (by simp only [go_sem])
    · rw [if_neg hd]
      exact endI _ _ _ 4 (by simp only [go_sem])
set_option maxRecDepth 20000 in
theorem rPlace28_rc (l : Lg) (h0 : 0 ≤ l.trim) (h3 : l.trim + l.tail.length ≤ 2147483647) (p : Int) (M : List Blk) : CallR Tryz.prog M n_windroseref28_Place [lgA l, .i p] (.i (placeL l p)) M := by
  refine callPG F_windroseref28_Place (Nat.le_of_ble_eq_true rfl) (by simp only [go_sem]) ?_ M
  unfold placeL
  refine run_seqV ?_
  simp only [go_sem]
  refine run_seqV ?_
  simp only [go_sem]
  refine ⟨fun hc => ?_, fun hc => ?_⟩
  · rw [if_pos hc]
    exact endI _ _ _ 4 (by simp only [go_sem])
  · rw [if_neg hc]
    refine V_sound ?_
    simp only [go_sem]
    refine call0 (rEnd28_rc l h0 h3) ?_
    simp only [go_sem]
    refine ⟨fun hd => ?_, fun hd => ?_⟩
    · rw [if_pos hd]
      exact endI _ _ _ 4 (by simp only [go_sem])
    · rw [if_neg hd]
      exact endI _ _ _ 4 (by simp only [go_sem])
end Go.Proofs.YtcmkhlfjcdchmaaGreat.A
end
section
namespace Go.Proofs.YtcmkhlfjcdchmaaGreat.A
open Go Go.Proofs Go.Proofs.YtcmkhlfjcdchmaaGreatAbs
set_option maxRecDepth 20000 in
theorem copied_rc (s : Shf) (hz : zShf s) (M : List Blk) : CallR Tryz.prog M n_pglog_copied [shfA s] (.p (shfA s)) M := by
  refine callPG F_pglog_copied (Nat.le_of_ble_eq_true rfl) (by simp only [go_sem]) ?_ M
  obtain ⟨lines, dones, floor⟩ := s
  obtain ⟨hll, hdl, hser, hsmp⟩ := hz
  simp only at hll hdl hser hsmp ⊢
  refine run_seqV ?_
  simp only [go_sem]
  refine run_regX 1 ?_
  simp only [go_sem, List.replicate_succ, List.replicate_zero]
  refine callxf 2 [2] [(2, lnR 1 lines false)] (by simp) (fun N hN => cloneAt F_slices_Clone_api_Line_api_Line lines (by omega) N (hN 2 (by simp))) ?_
  simp only [apL, go_sem]
  refine callx0 (clone_rc (c := Dn.c) F_slices_Clone_api_Done_api_Done dones (by omega)) ?_
  simp only [apL, go_sem]
  refine ⟨rfl, ?_⟩
  refine run_seqV ?_
  simp only [go_sem]
  refine R_loop (ι := Nat) (J := fun k => k ≤ lines.length)
    (env := fun k => [(1, .p (.one (.ptr 0 0 0 0))), (2, .p (.one (.ptr 1 0 0 0))), (14, .p (.one (.arr 2 2 1 0 lines.length))), (15, .i lines.length), (16, .i k)])
    (mem := fun _ => [.rows 29 3 0 [[.arr 2 2 1 0 lines.length, .c (immL 5 Dn.c dones), .c (.v (.int .i64 floor))]] true, zSh, lnR 1 lines false])
    (μ := fun k => lines.length - k) 0 (Nat.zero_le _) ⟨[], rfl, Nat.zero_le _, ?_, ?_⟩ ?_
  · simp only [go_sem]
  · simp only [go_sem, ltB]
    exact fun r hr => (rowsL_row r hr).2 _
  rintro k hk
  refine run_seqV ?_
  simp only [go_sem]
  refine run_seqV ?_
  simp only [go_sem]
  refine ⟨fun h1 => ?_, fun h1 => ?_⟩
  · have hrow := rowsL_getD (sz := 2) (c := Lin.c) h1
    have hset := rowsL_set (sz := 2) (c := Lin.c) lines k (lines.getD k default)
    have hsame : lines.set k (lines.getD k default) = lines := set_self (getD_some h1)
    rw [hsame] at hset
    have hs1 := hsmp k h1
    refine run_seq ?_
    refine run_block ?_
    refine run_seqV ?_
    simp only [go_sem, hrow]
    simp only [go_sem] at hset
    refine ⟨by omega, h1, ?_⟩
    refine V_sound ?_
    simp only [go_sem]
    refine call0 (clone_rc (c := Smp.c) F_slices_Clone_api_Sample_api_Sample (lines.getD k default).smps (by omega)) ?_
    simp only [go_sem, hrow, hset]
    refine ⟨by omega, h1, h1, V_sound ?_⟩
    simp only [go_sem, w64s (show k < 9223372036854775807 by omega)]
    refine ⟨k + 1, h1, by omega, [_], rfl, Nat.zero_le _, ?_, ?_⟩
    · simp only [go_sem]
    · simp only [go_sem, ltB]
      exact fun r hr => (rowsL_row r hr).2 _
  · refine V_sound ?_
    simp only [go_sem]
    refine finQ (.inr rfl) (gh_freeze (b := 2) (l := rowsL 2 Lin.c lines) rfl (rowsL_closed lines)) (qs := [.agg [.c (.imm 2 lines.length fun i j => toC (((rowsL 2 Lin.c lines).getD (0 + i) []).getD j default)), .c (immL 5 Dn.c dones), .c (.v (.int .i64 floor))]]) (cnd := True) ?_ trivial (subS_p (subP_aggL ⟨frz_sub _, SubA.refl _, SubA.refl _, trivial⟩)) (by simp only [go_sem])
    simp only [go_sem, Nat.zero_add]
/-- A log of its own memory, told as nobody's. -/
abbrev enR (v : Nat) (l : List Ent) (f : Bool) : Blk := .rows 37 10 v (rowsL 10 Ent.c l) f
set_option maxRecDepth 20000 in
theorem pown_rc (l : Lg) (hz : zLg l) (M : List Blk) : CallR Tryz.prog M n_pglog_own [lgA l] (.p (lgA l)) M := by
  refine callPG F_pglog_own (Nat.le_of_ble_eq_true rfl) (by simp only [go_sem]) ?_ M
  obtain ⟨hb, hl, hs⟩ := hz
  refine run_seqV ?_
  simp only [go_sem]
  refine run_regX 0 ?_
  simp only [go_sem, List.replicate_succ, List.replicate_zero, List.append_nil]
  refine callx0 (copied_rc l.base hb) ?_
  simp only [go_sem]
  refine callx0 (clone_rc (c := Ent.c) F_slices_Clone_api_Entry_api_Entry l.tail (by omega)) ?_
  simp only [apL, go_sem]
  refine ⟨rfl, ?_⟩
  refine V_sound ?_
  simp only [go_sem]
  exact fin0 (.inr rfl) (qs := [lgA l]) (cnd := True) (by simp only [go_sem]) trivial (SubS.refl _) (by simp only [go_sem])
/-- A log told in memory of its own: its tail in the block b. -/
abbrev lgO (l : Lg) (b v n : Nat) : List AV := [.c (immL 2 Lin.c l.base.lines), .c (immL 5 Dn.c l.base.dones), .c (.v (.int .i64 l.base.floor)), .c (.v (.int .i64 l.trim)), .c (.v (.int .i64 l.epoch)), .arr 10 b v 0 n]
set_option maxRecDepth 20000 in
theorem pownB_rc (l : Lg) (hz : zLg l) {M : List Blk} (hMB : ∀ x ∈ M, ltB M.length x) : CallR Tryz.prog M n_pglog_own [lgA l] (.p (.agg (lgO l (M.length + 2) 1 l.tail.length))) (M ++ [.dead, .rows 60 6 0 [lgO l (M.length + 2) 1 l.tail.length] true, enR 1 l.tail false]) := by
  refine callR_intro F_pglog_own (by simp) ?_
  obtain ⟨hb, hl, hs⟩ := hz
  refine run_seqV ?_
  simp only [go_sem, mget, mget0, mset, mset0, List.append_assoc, List.length_append, List.length_cons, List.length_nil, Nat.zero_add]
  refine run_regX 1 ?_
  simp only [go_sem, mget, mget0, mset, mset0, List.append_assoc, List.length_append, List.length_cons, List.length_nil, Nat.zero_add, List.replicate_succ, List.replicate_zero]
  refine callx0 (copied_rc l.base hb) ?_
  simp only [go_sem, mget, mget0, mset, mset0, Nat.add_assoc, Nat.reduceAdd]
  refine callxn (by simp only [go_sem, mget]) (fun N hN => cloneAt F_slices_Clone_api_Entry_api_Entry l.tail (by omega) N hN) ?_
  simp only [go_sem, mget, mget0, mset, mset0, Nat.add_assoc, Nat.reduceAdd]
  refine ⟨pairs_un M.length ?_ ?_, ?_⟩
  · simp only [unshift, List.map_cons, List.map_nil, Nat.add_sub_cancel_left, Nat.sub_self]
    rfl
  · simp
  refine V_sound ?_
  simp only [go_sem, mget, mget0, mset, mset0]
  refine fin_m (.inr rfl) (gh_kill M.length) [] (qs := [.agg (lgO l (M.length + 2) 1 l.tail.length)]) (cnd := True) ?_ trivial ?_ (SubS.refl _) ?_ ?_ ?_
  · simp only [go_sem, mget, mget0, mset, mset0]
  · simp only [mset, mset0, go_sem]
  · rw [List.length_append]; omega
  · simp only [go_sem, List.length_append, List.length_cons, List.length_nil]
  · refine ltM_app hMB ?_
    intro x hx
    simp only [List.mem_cons, List.not_mem_nil, or_false] at hx
    rcases hx with rfl | rfl | rfl
    · trivial
    · simp only [go_sem, ltB, List.length_cons, List.length_nil]
    · exact rowsL_ltB _ _ _ _ _
end Go.Proofs.YtcmkhlfjcdchmaaGreat.A
end
section
namespace Go.Proofs.YtcmkhlfjcdchmaaGreat.A
open Go Go.Proofs Go.Proofs.YtcmkhlfjcdchmaaGreatAbs
theorem snap_lg {M : List Blk} {b v : Nat} {f : Bool} {l : Lg} (hb : M[b]? = some (enR v l.tail f)) : SnapP M (.agg (lgO l b v l.tail.length)) (lgA l) := by
  refine ⟨rfl, fun k a a' h h' => ?_⟩
  match k with
  | 0 => injection h with h; injection h' with h'; subst h; subst h'; exact Snap.same _ trivial
  | 1 => injection h with h; injection h' with h'; subst h; subst h'; exact Snap.same _ trivial
  | 2 => injection h with h; injection h' with h'; subst h; subst h'; exact Snap.same _ trivial
  | 3 => injection h with h; injection h' with h'; subst h; subst h'; exact Snap.same _ trivial
  | 4 => injection h with h; injection h' with h'; subst h; subst h'; exact Snap.same _ trivial
  | 5 => injection h with h; injection h' with h'; subst h; subst h'; exact snapL l.tail hb
  | k + 6 => simp at h
def zLog : Lg := ⟨⟨[], [], 0⟩, 0, 0, []⟩
def addS (l : Lg) (e : Ent) : Lg × Int :=
  if lgOk l = false then (zLog, 1)
  else if entOk e = false ∨ e.epoch < lastL l then (l, 1)
  else if l.tail.length = 32 ∨ l.trim + l.tail.length = 2147483647 then (l, 6)
  else (⟨l.base, l.trim, l.epoch, l.tail ++ [e]⟩, 0)
theorem end_zlog {n : Nat} (c : Int) (e : Nat → SV) (X : List Blk) (b : Nat) (t : Nat) (h4 : e 4 = .p (.one (.ptr b 0 0 0))) (h5 : e 5 = .i c) (hX : X[b]? = some (.rows t 6 0 [[.c (.v (.slice none 0 0)), .c (.v (.slice none 0 0)), .c (.v (.int .i64 0)), .c (.v (.int .i64 0)), .c (.v (.int .i64 0)), .c (.v (.slice none 0 0))]] true)) : FinK n 0 [.l true 6 4, .t 5] (.tup [lgA zLog, .i c]) [] .ret ⟨e, X⟩ := by
  refine fin0 (.inr rfl) (qs := [.agg [.c (.v (.slice none 0 0)), .c (.v (.slice none 0 0)), .c (.v (.int .i64 0)), .c (.v (.int .i64 0)), .c (.v (.int .i64 0)), .c (.v (.slice none 0 0))], .i c]) (cnd := True) ?_ trivial (subS_tupL ⟨subP_aggL ⟨nil_sub (α := Lin), nil_sub (α := Dn), SubA.refl _, SubA.refl _, SubA.refl _, nil_sub (α := Ent), trivial⟩, SubP.refl _, trivial⟩) (by simp only [go_sem])
  simp only [go_sem, h4, h5, hX]
theorem end_lgO {n : Nat} (l : Lg) (c : Int) (e : Nat → SV) (X : List Blk) (b t d v : Nat) (f : Bool) (h4 : e 4 = .p (.one (.ptr b 0 0 0))) (h5 : e 5 = .i c) (hbd : d ≠ b) (hX : X[b]? = some (.rows t 6 0 [lgO l d v l.tail.length] true)) (hd : X[d]? = some (enR v l.tail f)) : FinK n 0 [.l true 6 4, .t 5] (.tup [lgA l, .i c]) [] .ret ⟨e, X⟩ := by
  refine finQ (.inr rfl) (gh_freeze (b := d) (l := rowsL 10 Ent.c l.tail) hd (rowsL_closed l.tail)) (qs := [.agg [.c (immL 2 Lin.c l.base.lines), .c (immL 5 Dn.c l.base.dones), .c (.v (.int .i64 l.base.floor)), .c (.v (.int .i64 l.trim)), .c (.v (.int .i64 l.epoch)), .c (.imm 10 l.tail.length fun i j => toC (((rowsL 10 Ent.c l.tail).getD (0 + i) []).getD j default))], .i c]) (cnd := True) ?_ trivial (subS_tupL ⟨subP_aggL ⟨SubA.refl _, SubA.refl _, SubA.refl _, SubA.refl _, SubA.refl _, frz_sub _, trivial⟩, SubP.refl _, trivial⟩) (by simp only [go_sem])
  have h6 : ((X.map (frzB d v (rowsL 10 Ent.c l.tail))).set d .dead)[b]? = some (frzB d v (rowsL 10 Ent.c l.tail) (.rows t 6 0 [lgO l d v l.tail.length] true)) := by
    rw [List.getElem?_set, if_neg hbd, List.getElem?_map, hX]
    rfl
  simp only [go_sem, h4, h5, eq_false (Ne.symm hbd), false_and, if_false, h6]
  trace_state
set_option maxRecDepth 20000 in
theorem pAdd_rc (l : Lg) (hz : zLg l) (en : Ent) (he : en.op.ser.size ≤ 2000) (M : List Blk) : CallR Tryz.prog M n_pglog_Add [lgA l, entA en] (.tup [lgA (addS l en).1, .i (addS l en).2]) M := by
  refine callPG F_pglog_Add (Nat.le_of_ble_eq_true rfl) (by simp only [go_sem]) ?_ M
  have hown := fun (A B C : Blk) (h : ∀ x ∈ [A, B, C], ltB 3 x) => pownB_rc l hz (M := [A, B, C]) h
  have hE := fun M => pEnd_rc l hz M
  have hL := fun M => pLast_rc l hz M
  have hC := fun M => CheckEntry_rc en he M
  obtain ⟨hb, hl, hs⟩ := id hz
  unfold addS
  refine run_seqV ?_
  simp only [go_sem]
  refine run_seqV ?_
  simp only [go_sem]
  refine call0 (pCheck_rc l hz) ?_
  simp only [go_sem]
  rw [ifne]
  cases hok : lgOk l with
  | false =>
    simp only [go_sem]
    exact end_zlog 1 _ _ 2 _ (by simp only [go_sem]) (by simp only [go_sem]) rfl
  | true =>
    simp only [go_sem]
    refine run_seqV ?_
    simp only [go_sem]
    refine call1 (hown _ _ _ ?_) (by simp only [go_sem]) (fun h => Bool.noConfusion h) ?_
    · simp only [go_sem, ltB]
    simp only [go_sem, List.length_cons, List.length_nil, Nat.zero_add, Nat.reduceAdd]
    have hEn : endL l = l.trim + l.tail.length := by rw [endL, hok, if_pos rfl]
    rw [hEn] at hE
    generalize lastL l = la at hL ⊢
    obtain ⟨epoch, client, id, op⟩ := en
    refine run_seqV ?_
    simp only [go_sem]
    refine call0 hC ?_
    simp only [go_sem]
    refine callLg (fun _ => hL []) (fun _ => ⟨snap_lg (b := 5) (v := 1) (f := false) rfl, trivial⟩) (by simp only [go_sem]) ?_
    simp only [go_sem]
    rw [ifne]
    refine ⟨fun hc => ?_, fun hc => ?_⟩
    · have hc' : entOk ⟨epoch, client, id, op⟩ = false ∨ epoch < la := by
        simp only [Bool.or_eq_true, Bool.not_eq_true', decide_eq_true_eq] at hc
        exact hc
      rw [if_pos hc']
      exact end_lgO l 1 _ _ 2 _ 5 1 false (by simp only [go_sem]) (by simp only [go_sem]) (by decide) rfl rfl
    · have hc' : ¬ (entOk ⟨epoch, client, id, op⟩ = false ∨ epoch < la) := by
        simp only [Bool.or_eq_false_iff, Bool.not_eq_false', decide_eq_false_iff_not] at hc
        rintro (h | h)
        · rw [hc.1] at h; cases h
        · exact hc.2 h
      rw [if_neg hc']
      refine callLg (fun _ => hE []) (fun _ => ⟨snap_lg (b := 5) (v := 1) (f := false) rfl, trivial⟩) (by simp only [go_sem]) ?_
      simp only [go_sem]
      refine ⟨fun hd => ?_, fun hd => ?_⟩
      · have hd' : l.tail.length = 32 ∨ l.trim + l.tail.length = 2147483647 := by
          simp only [Bool.or_eq_true, beq_iff_eq] at hd
          omega
        rw [if_pos hd']
        exact end_lgO l 6 _ _ 2 _ 5 1 false (by simp only [go_sem]) (by simp only [go_sem]) (by decide) rfl rfl
      · have hd' : ¬ (l.tail.length = 32 ∨ l.trim + l.tail.length = 2147483647) := by
          simp only [Bool.or_eq_false_iff, beq_eq_false_iff_ne] at hd
          omega
        rw [if_neg hd']
        have hrow : ∀ x : Ent, rowsL 10 Ent.c l.tail ++ [[AV.c (CV.v (Value.int IntKind.i64 x.epoch)), AV.c (CV.v (Value.int IntKind.i64 x.client)), AV.c (CV.v (Value.int IntKind.i64 x.id)), AV.c (CV.v (Value.int IntKind.i64 x.op.kind)), AV.c (CV.v (Value.string x.op.ser)), AV.c (CV.v (Value.int IntKind.i64 x.op.smp.t)), AV.c (CV.v (Value.int IntKind.i64 x.op.smp.v)), AV.c (CV.v (Value.int IntKind.i64 x.op.frm)), AV.c (CV.v (Value.int IntKind.i64 x.op.to)), AV.c (CV.v (Value.int IntKind.i64 x.op.tot))]] = rowsL 10 Ent.c (l.tail ++ [x]) := fun x => rowsL_app1 l.tail x
        refine V_sound ?_
        simp only [go_sem, rowsL_len]
        have hr := hrow ⟨epoch, client, id, op⟩
        simp only at hr
        rw [hr]
        have hlen : (l.tail ++ [(⟨epoch, client, id, op⟩ : Ent)]).length = l.tail.length + 1 := by simp
        rw [← hlen]
        exact ⟨by omega, end_lgO ⟨l.base, l.trim, l.epoch, l.tail ++ [⟨epoch, client, id, op⟩]⟩ 0 _ _ 2 _ 5 2 false (by simp only [go_sem]) (by simp only [go_sem]) (by decide) rfl rfl⟩
end Go.Proofs.YtcmkhlfjcdchmaaGreat.A
end
section
namespace Go.Proofs.YtcmkhlfjcdchmaaGreat.A
open Go Go.Proofs Go.Proofs.YtcmkhlfjcdchmaaGreatAbs
structure Oth where
  trim : Int
  epoch : Int
  eps : List Int
abbrev othA (o : Oth) : Pt := .agg [.c (.v (.int .i64 o.trim)), .c (.v (.int .i64 o.epoch)), .c (immL 1 intC o.eps)]
def befO (o : Oth) (p : Int) : Int × Bool := if p - o.trim = 0 then (o.epoch, decide (0 < p)) else if 0 < p - o.trim ∧ p - o.trim ≤ o.eps.length then (o.eps.getD (p - o.trim - 1).toNat default, true) else (0, false)
theorem endIB {n : Nat} (v : Int) (b : Bool) (e : Nat → SV) (X : List Blk) (r s : Nat) (h4 : e r = .i v) (h5 : e s = .b b) : FinK n 0 [.t r, .t s] (.tup [.i v, .b b]) [] .ret ⟨e, X⟩ := by
  refine fin0 (.inr rfl) (qs := [.one (.c (.v (.int .i64 v))), .one (.c (.v (.bool b)))]) (cnd := True) ?_ trivial (SubS.refl _) (by simp only [go_sem])
  simp only [go_sem, h4, h5]
set_option maxRecDepth 20000 in
theorem before_rc (o : Oth) (p : Int) (h1 : -1000000000000 ≤ o.trim ∧ o.trim ≤ 1000000000000) (h2 : -1000000000000 ≤ p ∧ p ≤ 1000000000000) (M : List Blk) : CallR Tryz.prog M n_pglog_other_before [othA o, .i p] (.tup [.i (befO o p).1, .b (befO o p).2]) M := by
  refine callPG F_pglog_other_before (Nat.le_of_ble_eq_true rfl) (by simp only [go_sem]) ?_ M
  unfold befO
  refine run_seqV ?_
  simp only [go_sem]
  refine run_seqV ?_
  simp only [go_sem]
  rw [w64 (n := p - o.trim) (by omega) (by omega)]
  refine ⟨fun hc => ?_, fun hc => ?_⟩
  · rw [if_pos (by simpa using hc)]
    exact endIB _ _ _ _ 4 5 (by simp only [go_sem]) (by simp only [go_sem])
  · rw [if_neg (by simpa using hc)]
    refine ⟨fun hd => ?_, fun hd => ?_⟩
    · have hd : 0 < p - o.trim ∧ p - o.trim ≤ o.eps.length := by simpa using hd
      rw [if_pos hd, w64 (n := p - o.trim - 1) (by omega) (by omega)]
      refine ⟨by omega, ?_⟩
      exact endIB _ _ _ _ 4 5 (by simp only [go_sem]) (by simp only [go_sem])
    · rw [if_neg (by simpa using hd)]
      refine V_sound ?_
      simp only [go_sem]
      exact endIB _ _ _ _ 4 5 (by simp only [go_sem]) (by simp only [go_sem])
/-- The first number from lo on, of n, at which f holds. -/
def alkN (f : Int → Bool) (lo : Int) : Nat → Int
  | 0 => lo
  | n + 1 => if f lo = true then lo else alkN f (lo + 1) n
def difO (a b : Oth) (p : Int) : Bool := (befO a (p + 1)).1 != (befO b (p + 1)).1
def loO (a b : Oth) : Int := if a.trim < b.trim then b.trim else a.trim
def hiO (a b : Oth) : Int := if b.trim + b.eps.length < a.trim + a.eps.length then b.trim + b.eps.length else a.trim + a.eps.length
def alikeS (l : Lg) (b : Oth) : Int × Bool :=
  if lgOk l = false ∨ ¬ (0 ≤ b.trim ∧ b.trim ≤ 2147483647) ∨ 32 < b.eps.length then (0, false)
  else
    let a : Oth := ⟨l.trim, l.epoch, epsL l.tail⟩
    if hiO a b < loO a b ∨ ((befO a (loO a b)).2 = true ∧ (befO b (loO a b)).2 = true ∧ (befO a (loO a b)).1 ≠ (befO b (loO a b)).1) then (0, false)
    else (alkN (difO a b) (loO a b) (hiO a b - loO a b).toNat, true)
set_option maxRecDepth 20000 in
set_option maxHeartbeats 4000000 in
theorem Alike_rc (l : Lg) (hz : zLg l) (b : Oth) (hbl : b.eps.length ≤ 140737488355328) (M : List Blk) : CallR Tryz.prog M n_pglog_Alike [lgA l, .i b.trim, .i b.epoch, intsL b.eps] (.tup [.i (alikeS l b).1, .b (alikeS l b).2]) M := by
  refine callPG F_pglog_Alike (Nat.le_of_ble_eq_true rfl) (by simp only [go_sem]) ?_ M
  have hEp := fun M => pEpochs_rc l hz M
  unfold epochsL at hEp
  unfold alikeS
  refine run_seqV ?_
  simp only [go_sem]
  refine run_seqV ?_
  simp only [go_sem]
  refine call0 (pCheck_rc l hz) ?_
  simp only [go_sem]
  refine callg0 (fun _ => pin_rc b.trim 0 2147483647) ?_
  simp only [go_sem]
  rw [ifne]
  refine ⟨fun hc => ?_, fun hc => ?_⟩
  · rw [if_pos]
    · exact endIB 0 false _ _ 8 9 (by simp only [go_sem]) (by simp only [go_sem])
    · grind
  · have hg : lgOk l = true ∧ (0 ≤ b.trim ∧ b.trim ≤ 2147483647) ∧ b.eps.length ≤ 32 := by grind
    obtain ⟨hok, hbt, hbe⟩ := hg
    clear hc
    have hP := (lgOk_iff l).1 hok
    have p1 := hP.t0
    have p2 := hP.fit
    have p3 := ents_len hP.ents
    rw [hok, if_pos rfl] at hEp
    have hng : ¬ (lgOk l = false ∨ ¬ (0 ≤ b.trim ∧ b.trim ≤ 2147483647) ∨ 32 < b.eps.length) := by
      rintro (h | h | h)
      · rw [hok] at h; exact Bool.noConfusion h
      · exact h hbt
      · omega
    rw [if_neg hng]
    refine run_seqV ?_
    simp only [go_sem]
    refine callx0 hEp ?_
    simp only [go_sem]
    refine ⟨rfl, run_seqV ?_⟩
    simp only [go_sem]
    have hel := epsL_len l.tail
    rw [w64 (n := b.trim + b.eps.length) (by omega) (by omega), w64 (n := l.trim + (epsL l.tail).length) (by omega) (by omega)]
    obtain ⟨A, hA⟩ : ∃ A : Oth, A = ⟨l.trim, l.epoch, epsL l.tail⟩ := ⟨_, rfl⟩
    have hlo : (if l.trim < b.trim then b.trim else l.trim) = loO A b := by rw [hA]; rfl
    have hhi : (if b.trim + b.eps.length < l.trim + (epsL l.tail).length then b.trim + (b.eps.length : Int) else l.trim + (epsL l.tail).length) = hiO A b := by rw [hA]; rfl
    have hlb : 0 ≤ loO A b ∧ loO A b ≤ 2147483647 := by rw [← hlo]; split <;> omega
    have hhb : 0 ≤ hiO A b ∧ hiO A b ≤ 3000000000 := by rw [← hhi]; split <;> omega
    simp only [hlo, hhi, ← hA]
    have hAt : -1000000000000 ≤ A.trim ∧ A.trim ≤ 1000000000000 := by rw [hA]; simp only; omega
    have b1 := fun p (hp : -1000000000000 ≤ p ∧ p ≤ 1000000000000) M => before_rc A p hAt hp M
    have b2 := fun p (hp : -1000000000000 ≤ p ∧ p ≤ 1000000000000) M => before_rc b p (by omega) hp M
    have hAA : (othA A) = .agg [.c (.v (.int .i64 l.trim)), .c (.v (.int .i64 l.epoch)), .c (immL 1 intC (epsL l.tail))] := by rw [hA]
    simp only [hAA] at b1
    refine run_seqV ?_
    simp only [go_sem]
    refine call0 (b1 (loO A b) (by omega)) ?_
    simp only [go_sem]
    refine run_seqV ?_
    simp only [go_sem]
    refine call0 (b2 (loO A b) (by omega)) ?_
    simp only [go_sem]
    refine run_seqV ?_
    simp only [go_sem]
    refine ⟨fun hc => ?_, fun hc => ?_⟩
    · rw [if_pos]
      · exact endIB 0 false _ _ 8 9 (by simp only [go_sem]) (by simp only [go_sem])
      · grind
    · have hc' : ¬ (hiO A b < loO A b ∨ ((befO A (loO A b)).2 = true ∧ (befO b (loO A b)).2 = true ∧ (befO A (loO A b)).1 ≠ (befO b (loO A b)).1)) := by
        intro h
        revert hc
        rcases h with h | ⟨h1, h2, h3⟩
        · simp [h]
        · simp [h1, h2, h3]
      rw [if_neg hc']
      have hle : loO A b ≤ hiO A b := Int.not_lt.1 fun h => hc' (.inl h)
      clear hc hc'
      generalize hL : loO A b = lo at hlb hle ⊢
      generalize hH : hiO A b = hi at hhb hle ⊢
      obtain ⟨n, hn⟩ : ∃ n : Nat, hi = lo + n := ⟨(hi - lo).toNat, by omega⟩
      have hn2 : (hi - lo).toNat = n := by omega
      rw [hn2]
      refine run_seqV ?_
      simp only [go_sem]
      refine R_loop (ι := Nat) (J := fun k => k ≤ n ∧ alkN (difO A b) lo n = alkN (difO A b) (lo + k) (n - k))
        (env := fun k => [(10, .p (.one (.ptr 1 1 0 0))), (11, .p (.one (.ptr 2 1 0 0))), (13, .i hi), (18, .i (lo + k))])
        (mem := fun _ => [lgB l, .rows 124 3 1 [[.c (.v (.int .i64 l.trim)), .c (.v (.int .i64 l.epoch)), .c (immL 1 intC (epsL l.tail))]] true, .rows 124 3 1 [[.c (.v (.int .i64 b.trim)), .c (.v (.int .i64 b.epoch)), .c (immL 1 intC b.eps)]] true])
        (μ := fun k => n - k) 0 ⟨Nat.zero_le _, by simp⟩ ⟨[], rfl, Nat.zero_le _, ?_, ?_⟩ ?_
      · simp only [go_sem]
        omega
      · simp only [go_sem, ltB]
      rintro k ⟨hk, hal⟩
      refine run_seqV ?_
      simp only [go_sem]
      refine ⟨fun h1 => ?_, fun h1 => ?_⟩
      · have hkn : k < n := by omega
        refine run_seq ?_
        refine run_block ?_
        refine run_seqV ?_
        simp only [go_sem]
        rw [w64 (n := lo + k + 1) (by omega) (by omega)]
        refine call0 (b1 (lo + k + 1) (by omega)) ?_
        simp only [go_sem]
        refine run_seqV ?_
        simp only [go_sem]
        rw [w64 (n := lo + k + 1) (by omega) (by omega)]
        refine call0 (b2 (lo + k + 1) (by omega)) ?_
        simp only [go_sem]
        refine V_sound ?_
        simp only [go_sem]
        rw [show n - k = (n - k - 1) + 1 by omega, alkN] at hal
        refine ⟨fun hd => ?_, fun hd => ?_⟩
        · have hd : difO A b (lo + k) = true := by
            unfold difO
            simpa using hd
          rw [if_pos hd] at hal
          rw [hal]
          exact endIB _ _ _ _ 8 9 (by simp only [go_sem]) (by simp only [go_sem])
        · have hd : ¬ difO A b (lo + k) = true := by
            unfold difO
            simpa using hd
          rw [if_neg hd] at hal
          refine V_sound ?_
          simp only [go_sem]
          rw [w64 (n := lo + k + 1) (by omega) (by omega)]
          refine ⟨k + 1, ⟨hkn, ?_⟩, by omega, [], rfl, Nat.zero_le _, ?_, ?_⟩
          · rw [hal, show n - k - 1 = n - (k + 1) by omega]
            congr 1
            omega
          · simp only [go_sem]
            omega
          · simp only [go_sem, ltB]
      · have hkn : k = n := by omega
        subst hkn
        rw [Nat.sub_self, alkN] at hal
        refine V_sound ?_
        simp only [go_sem]
        rw [hal, ← hn]
        exact endIB _ _ _ _ 8 9 (by simp only [go_sem]) (by simp only [go_sem])
theorem snapP_same {M : List Blk} {l : List AV} (h : ∀ a ∈ l, ltA 0 a) : SnapP M (.agg l) (.agg l) := by
  refine ⟨rfl, fun k a a' h1 h2 => ?_⟩
  rw [h1] at h2
  injection h2 with h2
  subst h2
  exact Snap.same _ (h _ (List.mem_of_getElem? h1))
theorem snap_lgA {M : List Blk} (l : Lg) : SnapP M (lgA l) (lgA l) := snapP_same fun a ha => by
  simp only [List.mem_cons, List.not_mem_nil, or_false] at ha
  rcases ha with rfl | rfl | rfl | rfl | rfl | rfl <;> trivial
def awE (epoch id : Int) : Ent := ⟨epoch, 1, id, ⟨1, mkS [97], ⟨id, 1⟩, 0, 0, 0⟩⟩
theorem entry_rc (epoch id : Int) (M : List Blk) : CallR Tryz.prog M n_windroselaw28_entry [.i epoch, .i id] (.p (entA (awE epoch id))) M := by
  refine callPG F_windroselaw28_entry (Nat.le_of_ble_eq_true rfl) (by simp only [go_sem]) ?_ M
  refine V_sound ?_
  simp only [c_windroselaw28_entry, go_sem]
  exact fin0 (.inr rfl) (qs := [entA (awE epoch id)]) (cnd := True) (by simp only [go_sem, awE]; rfl) trivial (SubS.refl _) (by simp only [go_sem])
def awL (t : List Ent) : Lg := ⟨⟨[], [], 0⟩, 0, 0, t⟩
theorem aw28_1 : addS (awL []) (awE 1 1) = (awL [awE 1 1], 0) := by kernel_rfl
theorem aw28_2 : addS (awL [awE 1 1]) (awE 1 2) = (awL [awE 1 1, awE 1 2], 0) := by kernel_rfl
theorem aw28_3 : addS (awL [awE 1 1, awE 1 2]) (awE 2 3) = (awL [awE 1 1, awE 1 2, awE 2 3], 0) := by kernel_rfl
theorem aw28_4 : alikeS (awL [awE 1 1, awE 1 2, awE 2 3]) ⟨0, 0, [1, 3]⟩ = (1, true) := by kernel_rfl
theorem aw28_5 : endL (awL [awE 1 1, awE 1 2, awE 2 3]) = 3 := by kernel_rfl
theorem aw28_6 : lastL (awL [awE 1 1, awE 1 2, awE 2 3]) = 2 := by kernel_rfl
theorem awE_sz (epoch id : Int) : (awE epoch id).op.ser.size ≤ 2000 := (by decide : (mkS [97]).size ≤ 2000)
theorem awL_z {t : List Ent} (h : t.length ≤ 1000) (h2 : ∀ e ∈ t, ∃ a b, e = awE a b) : zLg (awL t) := ⟨shP_z zP (zSz 2000), h, fun e he => by
  obtain ⟨a, b, rfl⟩ := h2 e he
  exact awE_sz a b⟩
set_option maxRecDepth 20000 in
set_option maxHeartbeats 4000000 in
theorem awake28_rc (M : List Blk) : CallR Tryz.prog M n_windroselaw28_awake [] (.b true) M := by
  refine callPG F_windroselaw28_awake (Nat.le_of_ble_eq_true rfl) (by simp only [go_sem]) ?_ M
  have z0 : zLg (awL []) := awL_z (by decide) (fun e he => by cases he)
  have z1 : zLg (awL [awE 1 1]) := awL_z (by decide) (fun e he => by rw [List.mem_singleton] at he; exact ⟨_, _, he⟩)
  have z2 : zLg (awL [awE 1 1, awE 1 2]) := awL_z (by decide) (fun e he => by
    simp only [List.mem_cons, List.not_mem_nil, or_false] at he
    rcases he with rfl | rfl <;> exact ⟨_, _, rfl⟩)
  have z3 : zLg (awL [awE 1 1, awE 1 2, awE 2 3]) := awL_z (by decide) (fun e he => by
    simp only [List.mem_cons, List.not_mem_nil, or_false] at he
    rcases he with rfl | rfl | rfl <;> exact ⟨_, _, rfl⟩)
  have a1 := fun M => pAdd_rc _ z0 (awE 1 1) (awE_sz _ _) M
  have a2 := fun M => pAdd_rc _ z1 (awE 1 2) (awE_sz _ _) M
  have a3 := fun M => pAdd_rc _ z2 (awE 2 3) (awE_sz _ _) M
  have a4 := fun M => Alike_rc _ z3 ⟨0, 0, [1, 3]⟩ (by decide) M
  have a5 := fun M => pEnd_rc _ z3 M
  have a6 := fun M => pLast_rc _ z3 M
  simp only [aw28_1, aw28_2, aw28_3, aw28_4, aw28_5, aw28_6] at a1 a2 a3 a4 a5 a6
  refine run_seqV ?_
  simp only [go_sem]
  refine run_seqV ?_
  simp only [go_sem]
  refine call0 (entry_rc 1 1) ?_
  simp only [go_sem]
  refine callS (a1 _) ⟨subP_aggL ⟨nil_sub (α := Lin), nil_sub (α := Dn), SubA.refl _, SubA.refl _, SubA.refl _, nil_sub (α := Ent), trivial⟩, SubP.refl _, trivial⟩ (fun h => Bool.noConfusion h) ?_
  simp only [go_sem]
  refine run_seqV ?_
  simp only [go_sem]
  refine call0 (entry_rc 1 2) ?_
  simp only [go_sem]
  refine call0 a2 ?_
  simp only [go_sem]
  refine run_seqV ?_
  simp only [go_sem]
  refine call0 (entry_rc 2 3) ?_
  simp only [go_sem]
  refine call0 a3 ?_
  simp only [go_sem]
  refine run_seqV ?_
  simp only [go_sem]
  refine callL (a4 []) ⟨snap_lgA _, Snap.same _ trivial, Snap.same _ trivial, snapL (c := intC) [1, 3] rfl, trivial⟩ (by simp only [go_sem]) ?_
  simp only [go_sem]
  refine run_seqV ?_
  simp only [go_sem]
  refine callg0 (fun _ => a5) ?_
  simp only [go_sem]
  trace_state
  refine callg0 (fun _ => a6) ?_
  simp only [go_sem]
  exact run_ret (endB true _ _ 0 (by simp only [go_sem]; try rfl))
end Go.Proofs.YtcmkhlfjcdchmaaGreat.A
end
section
namespace Go.Proofs.YtcmkhlfjcdchmaaGreat.A
open Go Go.Proofs Go.Proofs.YtcmkhlfjcdchmaaGreatAbs
theorem ne_dec {α : Type} [Inhabited α] [DecidableEq α] {l m : List α} {k : Nat} (h : l.getD k default ≠ m.getD k default) : l ≠ m := fun e => h (by rw [e])
set_option maxRecDepth 20000 in
theorem Ints_rc (l m : List Int) (hl : l.length ≤ 140737488355328) (M : List Blk) : CallR Tryz.prog M n_windroseref02_Ints [intsL l, intsL m] (.b (decide (l = m))) M := by
  refine callP F_windroseref02_Ints (Nat.le_of_ble_eq_true rfl) (by simp only [go_sem]) (by simp only [go_sem]) ?_ M
  simp only [c_windroseref02_Ints, go_sem]
  refine ⟨fun hc => ?_, fun hc => ?_⟩
  · rw [decide_eq_false]
    rintro rfl
    simp at hc
  have hlm : l.length = m.length := by simp at hc; omega
  refine V_loop (ι := Nat) (J := fun k => k ≤ l.length ∧ ∀ i, i < k → l.getD i default = m.getD i default) (env := fun i => [(0, .p (intsL l)), (1, .p (intsL m)), (5, .i i)]) (mem := fun _ => []) (μ := fun k => l.length - k) 0 ⟨Nat.zero_le _, fun j hj => by omega⟩ (into0 (by simp only [go_sem])) ?_
  rintro k ⟨hk, hok⟩
  simp only [go_sem]
  refine ⟨fun h1 => ?_, fun h1 => ?_⟩
  · refine ⟨by omega, by omega, fun hc => ?_, fun hc => ⟨k + 1, ⟨by omega, fun j hj => ?_⟩, by omega, into0 ?_⟩⟩
    · rw [decide_eq_false (ne_dec (k := k) (by simpa using hc))]
    · by_cases e : j = k
      · subst e; simpa using hc
      · exact hok j (by omega)
    · simp only [go_sem, w64s (show k < 9223372036854775807 by omega)]
  · have e : l = m := getD_ext hlm fun i hi => hok i (by omega)
    rw [decide_eq_true e]
theorem ent_ext {x y : Ent} : x = y ↔ x.epoch = y.epoch ∧ x.client = y.client ∧ x.id = y.id ∧ x.op = y.op := by
  cases x; cases y; simp
instance : DecidableEq Ent := fun a b => decidable_of_iff' _ ent_ext
end Go.Proofs.YtcmkhlfjcdchmaaGreat.A
end
section
namespace Go.Proofs.YtcmkhlfjcdchmaaGreat.A
open Go Go.Proofs Go.Proofs.YtcmkhlfjcdchmaaGreatAbs
def foldD (s : Shf) (l : List Ent) : Shf := l.foldl (fun s e => (DoS s e).1) s
theorem foldD_ok : ∀ (l : List Ent) (s : Shf), (∀ e ∈ l, e.op.ser.size ≤ 2000) → shP s → serSz 2000 s → shP (foldD s l) ∧ serSz 2000 (foldD s l)
  | [], s, _, h1, h2 => ⟨h1, h2⟩
  | e :: l, s, hm, h1, h2 => by
    unfold foldD
    rw [List.foldl_cons]
    exact foldD_ok l _ (fun x hx => hm x (List.mem_cons_of_mem _ hx)) (Do_eq h1 e).2 (Do_sz h1 h2 e (hm e (List.mem_cons_self ..)))
theorem foldD_take (s : Shf) (l : List Ent) {k : Nat} (hk : k < l.length) : foldD s (l.take (k + 1)) = (DoS (foldD s (l.take k)) (l.getD k default)).1 := foldl_take _ s l hk
set_option maxRecDepth 20000 in
theorem folded_rc {s : Shf} (hP : shP s) (hs : serSz 2000 s) (l : List Ent) (hl : l.length ≤ 1000) (ho : ∀ e ∈ l, e.op.ser.size ≤ 2000) (M : List Blk) : CallR Tryz.prog M n_pglog_folded [shfA s, entL l] (.p (shfA (foldD s l))) M := by
  refine callPG F_pglog_folded (Nat.le_of_ble_eq_true rfl) (by simp only [go_sem]) ?_ M
  have hinv := fun k => foldD_ok (l.take k) s (take_sz ho k) hP hs
  refine run_seqV ?_
  simp only [go_sem]
  refine run_seqV ?_
  simp only [go_sem]
  refine R_loop (ι := Nat) (J := fun k => k ≤ l.length)
    (env := fun k => [(2, .p (.one (.ptr 0 0 0 0))), (4, .p (.one (.ptr 1 0 0 0))), (7, .p (entL l)), (8, .i l.length), (9, .i k)])
    (mem := fun k => [shfB (foldD s (l.take k)), zSh])
    (μ := fun k => l.length - k) 0 (Nat.zero_le _) ⟨[], rfl, Nat.zero_le _, ?_, ?_⟩ ?_
  · simp only [go_sem]
  · simp only [go_sem, ltB]
  rintro k hk
  refine run_seqV ?_
  simp only [go_sem]
  refine run_seqV ?_
  simp only [go_sem]
  refine ⟨fun h1 => ?_, fun h1 => ?_⟩
  · have hst := foldD_take s l h1
    obtain ⟨i1, i2⟩ := hinv k
    have d1 := fun M => DoP_rc i1 i2 (l.getD k default) (by rw [gd_get h1]; exact ho _ (List.getElem_mem h1)) M
    rw [(Do_eq i1 _).1] at d1
    generalize DoS (foldD s (l.take k)) (l.getD k default) = W at d1 hst
    obtain ⟨x, a, c⟩ := W
    refine run_seq ?_
    refine run_block ?_
    refine run_seqV ?_
    simp only [go_sem]
    refine ⟨⟨by omega, h1⟩, V_sound ?_⟩
    simp only [go_sem]
    refine call0 d1 ?_
    simp only [go_sem]
    refine V_sound ?_
    simp only [go_sem, w64s (show k < 9223372036854775807 by omega)]
    refine ⟨k + 1, h1, by omega, [_], by simp only [hst]; rfl, Nat.zero_le _, ?_, ?_⟩
    · simp only [go_sem]
    · simp only [go_sem, ltB]
  · have hkl : k = l.length := by omega
    subst hkl
    rw [List.take_length]
    refine V_sound ?_
    simp only [go_sem]
    exact fin0 (.inr rfl) (qs := [shfA (foldD s l)]) (cnd := True) (by simp only [go_sem]) trivial (SubS.refl _) (by simp only [go_sem])
set_option maxRecDepth 20000 in
theorem rfold28_rc {s : Shf} (hP : shP s) (hs : serSz 2000 s) (l : List Ent) (hl : l.length ≤ 1000) (ho : ∀ e ∈ l, e.op.ser.size ≤ 2000) (M : List Blk) : CallR Tryz.prog M n_windroseref28_fold [shfA s, entL l] (.p (shfA (foldD s l))) M := by
  refine callPG F_windroseref28_fold (Nat.le_of_ble_eq_true rfl) (by simp only [go_sem]) ?_ M
  have hinv := fun k => foldD_ok (l.take k) s (take_sz ho k) hP hs
  refine run_seqV ?_
  simp only [go_sem]
  refine run_seqV ?_
  simp only [go_sem]
  refine R_loop (ι := Nat) (J := fun k => k ≤ l.length)
    (env := fun k => [(1, .p (entL l)), (2, .p (.one (.ptr 0 0 0 0))), (4, .p (.one (.ptr 1 0 0 0))), (5, .i k)])
    (mem := fun k => [shfB (foldD s (l.take k)), zSh])
    (μ := fun k => l.length - k) 0 (Nat.zero_le _) ⟨[], rfl, Nat.zero_le _, ?_, ?_⟩ ?_
  · simp only [go_sem]
  · simp only [go_sem, ltB]
  rintro k hk
  refine run_seqV ?_
  simp only [go_sem]
  refine ⟨fun h1 => ?_, fun h1 => ?_⟩
  · have hst := foldD_take s l h1
    obtain ⟨i1, i2⟩ := hinv k
    have d1 := fun M => rDo_rc (foldD s (l.take k)) (shP_z i1 i2) (l.getD k default) (by rw [gd_get h1]; exact ho _ (List.getElem_mem h1)) M
    rw [(Do_eq i1 _).1] at d1
    generalize DoS (foldD s (l.take k)) (l.getD k default) = W at d1 hst
    obtain ⟨x, a, c⟩ := W
    refine run_seq ?_
    refine run_block ?_
    refine V_sound ?_
    simp only [go_sem]
    refine ⟨⟨by omega, h1⟩, ?_⟩
    refine call0 d1 ?_
    simp only [go_sem]
    refine V_sound ?_
    simp only [go_sem, w64s (show k < 9223372036854775807 by omega)]
    refine ⟨k + 1, h1, by omega, [], by simp only [hst]; rfl, Nat.zero_le _, ?_, ?_⟩
    · simp only [go_sem]
    · simp only [go_sem, ltB]
  · have hkl : k = l.length := by omega
    subst hkl
    rw [List.take_length]
    refine V_sound ?_
    simp only [go_sem]
    exact fin0 (.inr rfl) (qs := [shfA (foldD s l)]) (cnd := True) (by simp only [go_sem]) trivial (SubS.refl _) (by simp only [go_sem])
/-- A log that may be looked at and whose names are short. -/
structure lgZ (l : Lg) : Prop where
  z : zLg l
  sz : serSz 2000 l.base
def stateL (l : Lg) : Shf := if lgOk l = true then foldD l.base l.tail else ⟨[], [], 0⟩
set_option maxRecDepth 20000 in
theorem pState_rc (l : Lg) (hz : lgZ l) (M : List Blk) : CallR Tryz.prog M n_pglog_State [lgA l] (.p (shfA (stateL l))) M := by
  refine callPG F_pglog_State (Nat.le_of_ble_eq_true rfl) (by simp only [go_sem]) ?_ M
  obtain ⟨hz, hsz⟩ := hz
  have hC := fun M => pCheck_rc l hz M
  unfold stateL
  refine run_seqV ?_
  simp only [go_sem]
  cases hok : lgOk l with
  | false =>
    rw [hok] at hC
    refine run_seqV ?_
    simp only [go_sem]
    refine call0 hC ?_
    simp only [go_sem]
    exact fin0 (.inr rfl) (qs := [.agg [.c (.v (.slice none 0 0)), .c (.v (.slice none 0 0)), .c (.v (.int .i64 0))]]) (cnd := True) (by simp only [go_sem]) trivial (subS_p (subP_aggL ⟨nil_sub (α := Lin), nil_sub (α := Dn), SubA.refl _, trivial⟩)) (by simp only [go_sem])
  | true =>
    rw [hok] at hC
    have hP := (lgOk_iff l).1 hok
    refine run_seqV ?_
    simp only [go_sem]
    refine call0 hC ?_
    simp only [go_sem]
    refine run_seqV ?_
    simp only [go_sem]
    refine call0 (copied_rc l.base hz.base) ?_
    simp only [go_sem]
    refine call0 (folded_rc ((shOk_iff _).1 hP.base) hsz l.tail hz.len hz.ser) ?_
    simp only [go_sem]
    exact run_ret (fin0 (.inr rfl) (qs := [shfA (foldD l.base l.tail)]) (cnd := True) (by simp only [go_sem]) trivial (SubS.refl _) (by simp only [go_sem]))
set_option maxRecDepth 20000 in
theorem rState28_rc (l : Lg) (hz : lgZ l) (hok : lgOk l = true) (M : List Blk) : CallR Tryz.prog M n_windroseref28_State [lgA l] (.p (shfA (stateL l))) M := by
  refine callPG F_windroseref28_State (Nat.le_of_ble_eq_true rfl) (by simp only [go_sem]) ?_ M
  obtain ⟨hz, hsz⟩ := hz
  have hP := (lgOk_iff l).1 hok
  rw [stateL, if_pos hok]
  refine run_seqV ?_
  simp only [go_sem]
  refine run_seqV ?_
  simp only [go_sem]
  refine call0 (rfold28_rc ((shOk_iff _).1 hP.base) hsz l.tail hz.len hz.ser) ?_
  simp only [go_sem]
  exact run_ret (fin0 (.inr rfl) (qs := [shfA (foldD l.base l.tail)]) (cnd := True) (by simp only [go_sem]) trivial (SubS.refl _) (by simp only [go_sem]))
end Go.Proofs.YtcmkhlfjcdchmaaGreat.A
end
section
namespace Go.Proofs.YtcmkhlfjcdchmaaGreat.A
open Go Go.Proofs Go.Proofs.YtcmkhlfjcdchmaaGreatAbs
theorem endLI {n : Nat} (x : Lg) (v : Int) (e : Nat → SV) (X : List Blk) (b t : Nat) (h4 : e 4 = .p (.one (.ptr b 0 0 0))) (h5 : e 5 = .i v) (hX : X[b]? = some (.rows t 6 0 [lgCells x] true)) : FinK n 0 [.l true 6 4, .t 5] (.tup [lgA x, .i v]) [] .ret ⟨e, X⟩ := by
  refine fin0 (.inr rfl) (qs := [lgA x, .i v]) (cnd := True) ?_ trivial (SubS.refl _) (by simp only [go_sem])
  simp only [go_sem, h4, h5, hX]
theorem le_take {l : List Ent} {k : Nat} (h : k ≤ l.length) : lePt (.one (.c (.imm 10 k fun i j => Ent.c (l.getD i default) j))) (immP 10 Ent.c (l.take k)) := by
  rw [lePt_imm]
  refine ⟨by rw [List.length_take]; omega, .inr ⟨rfl, fun i hi j hj => ?_⟩⟩
  rw [List.getD_eq_getElem?_getD, List.getD_eq_getElem?_getD, List.getElem?_take, if_pos hi]
theorem le_drop {l : List Ent} {k : Nat} (h : k ≤ l.length) : lePt (.one (.c (.imm 10 (l.length - k) fun i j => Ent.c (l.getD (k + i) default) j))) (immP 10 Ent.c (l.drop k)) := by
  rw [lePt_imm]
  refine ⟨by rw [List.length_drop], .inr ⟨rfl, fun i hi j hj => ?_⟩⟩
  rw [List.getD_eq_getElem?_getD, List.getD_eq_getElem?_getD, List.getElem?_drop]
def cutG (l : Lg) (p : Int) : Lg × Int := if lgOk l = false then (zLog, 1) else if placeL l p ≠ 0 then (l, placeL l p) else (⟨l.base, l.trim, l.epoch, l.tail.take (p - l.trim).toNat⟩, 0)
theorem place_in {l : Lg} {p : Int} (h : placeL l p = 0) : l.trim ≤ p ∧ p ≤ l.trim + l.tail.length := by
  unfold placeL at h
  split at h
  · cases h
  split at h
  · cases h
  · omega
set_option maxRecDepth 20000 in
theorem pCut_rc (l : Lg) (hz : zLg l) (p : Int) (M : List Blk) : CallR Tryz.prog M n_pglog_Cut [lgA l, .i p] (.tup [lgA (cutG l p).1, .i (cutG l p).2]) M := by
  refine callPG F_pglog_Cut (Nat.le_of_ble_eq_true rfl) (by simp only [go_sem]) ?_ M
  have hC := fun M => pCheck_rc l hz M
  unfold cutG
  refine run_seqV ?_
  simp only [go_sem]
  cases hok : lgOk l with
  | false =>
    rw [hok] at hC
    refine run_seqV ?_
    simp only [go_sem]
    refine call0 hC ?_
    simp only [go_sem]
    exact end_zlog 1 _ _ 1 _ (by simp only [go_sem]) (by simp only [go_sem]) rfl
  | true =>
    rw [hok] at hC
    have hP := (lgOk_iff l).1 hok
    have p1 := hP.t0
    have p2 := hP.fit
    have p3 := ents_len hP.ents
    refine run_seqV ?_
    simp only [go_sem]
    refine call0 hC ?_
    simp only [go_sem]
    refine run_seqV ?_
    simp only [go_sem]
    refine call0 (pown_rc l hz) ?_
    simp only [go_sem]
    refine run_seqV ?_
    simp only [go_sem]
    refine call0 (pplace_rc l hz hok p) ?_
    simp only [go_sem]
    refine ⟨fun hd => ?_, fun hd => ?_⟩
    · rw [if_pos hd]
      exact endLI l (placeL l p) _ _ 1 _ (by simp only [go_sem]) (by simp only [go_sem]) rfl
    · have hd : placeL l p = 0 := by simpa using hd
      obtain ⟨q1, q2⟩ := place_in hd
      rw [if_neg (by rw [hd]; simp)]
      obtain ⟨k, hk⟩ : ∃ k : Nat, p - l.trim = k := ⟨(p - l.trim).toNat, by omega⟩
      refine run_seqV ?_
      simp only [go_sem]
      rw [w64 (n := p - l.trim) (by omega) (by omega), hk]
      simp only [Int.toNat_natCast, Nat.sub_zero, Nat.zero_add]
      refine ⟨by omega, call1 (clone_rc (c := Ent.c) F_slices_Clone_api_Entry_api_Entry (l.tail.take k) (by rw [List.length_take]; omega) _) ⟨le_take (by omega), trivial⟩ (fun h => Bool.noConfusion h) ?_⟩
      simp only [go_sem]
      refine V_sound ?_
      simp only [go_sem]
      exact endLI ⟨l.base, l.trim, l.epoch, l.tail.take k⟩ 0 _ _ 1 _ (by simp only [go_sem]) (by simp only [go_sem]) rfl
def trimG (l : Lg) (p : Int) : Lg × Int := if lgOk l = false then (zLog, 1) else if placeL l p ≠ 0 then (l, placeL l p) else (⟨foldD l.base (l.tail.take (p - l.trim).toNat), p, befL l p, l.tail.drop (p - l.trim).toNat⟩, 0)
set_option maxRecDepth 20000 in
set_option maxHeartbeats 4000000 in
theorem pTrim_rc (l : Lg) (hz : lgZ l) (p : Int) (M : List Blk) : CallR Tryz.prog M n_pglog_Trim [lgA l, .i p] (.tup [lgA (trimG l p).1, .i (trimG l p).2]) M := by
  refine callPG F_pglog_Trim (Nat.le_of_ble_eq_true rfl) (by simp only [go_sem]) ?_ M
  obtain ⟨hz, hsz⟩ := hz
  have hC := fun M => pCheck_rc l hz M
  unfold trimG
  refine run_seqV ?_
  simp only [go_sem]
  cases hok : lgOk l with
  | false =>
    rw [hok] at hC
    refine run_seqV ?_
    simp only [go_sem]
    refine call0 hC ?_
    simp only [go_sem]
    exact end_zlog 1 _ _ 1 _ (by simp only [go_sem]) (by simp only [go_sem]) rfl
  | true =>
    rw [hok] at hC
    have hP := (lgOk_iff l).1 hok
    have p1 := hP.t0
    have p2 := hP.fit
    have p3 := ents_len hP.ents
    refine run_seqV ?_
    simp only [go_sem]
    refine call0 hC ?_
    simp only [go_sem]
    refine run_seqV ?_
    simp only [go_sem]
    refine call0 (pown_rc l hz) ?_
    simp only [go_sem]
    refine run_seqV ?_
    simp only [go_sem]
    refine call0 (pplace_rc l hz hok p) ?_
    simp only [go_sem]
    refine ⟨fun hd => ?_, fun hd => ?_⟩
    · rw [if_pos hd]
      exact endLI l (placeL l p) _ _ 1 _ (by simp only [go_sem]) (by simp only [go_sem]) rfl
    · have hd : placeL l p = 0 := by simpa using hd
      obtain ⟨q1, q2⟩ := place_in hd
      rw [if_neg (by rw [hd]; simp)]
      obtain ⟨k, hk⟩ : ∃ k : Nat, p - l.trim = k := ⟨(p - l.trim).toNat, by omega⟩
      refine run_seqV ?_
      simp only [go_sem]
      rw [w64 (n := p - l.trim) (by omega) (by omega), hk]
      refine run_seqV ?_
      simp only [go_sem]
      refine call0 (pbefore_rc l p p1 q1 q2 p2) ?_
      simp only [go_sem]
      refine run_seqV ?_
      simp only [go_sem, Int.toNat_natCast, Nat.sub_zero, Nat.zero_add]
      have hfo := foldD_ok (l.tail.take k) l.base (fun e he => hz.ser e (List.mem_of_mem_take he)) ((shOk_iff _).1 hP.base) hsz
      refine ⟨by omega, call1 (folded_rc ((shOk_iff _).1 hP.base) hsz (l.tail.take k) (by rw [List.length_take]; omega) (fun e he => hz.ser e (List.mem_of_mem_take he)) _) ⟨rfl, le_take (by omega), trivial⟩ (fun _ => rfl) ?_⟩
      simp only [go_sem, Int.toNat_natCast]
      refine ⟨by omega, call1 (clone_rc (c := Ent.c) F_slices_Clone_api_Entry_api_Entry (l.tail.drop k) (by rw [List.length_drop]; omega) _) ⟨le_drop (by omega), trivial⟩ (fun _ => rfl) ?_⟩
      simp only [go_sem]
      exact run_ret (endLI ⟨foldD l.base (l.tail.take k), p, befL l p, l.tail.drop k⟩ 0 _ _ 1 _ (by simp only [go_sem]) (by simp only [go_sem]) rfl)
theorem ent_eqC (x y : Ent) : eqCells [1, 1, 1, 1, 2, 1, 1, 1, 1, 1] (cellsUp (Ent.c x) 0 10) (cellsUp (Ent.c y) 0 10) = some (decide (x = y)) := by
  simp only [go_sem, if_true, Option.some.injEq, Bool.and_true]
  rw [Bool.eq_iff_iff]
  simp only [Bool.and_eq_true, beq_iff_eq, decide_eq_true_eq, ent_ext, opn_ext]
theorem List28_rc (l m : List Ent) (hl : l.length ≤ 140737488355328) (M : List Blk) : CallR Tryz.prog M n_windroseref28_List [entL l, entL m] (.b (decide (l = m))) M := by
  have := rsame_rc (P := Tryz.prog) (c := Ent.c) (eq := fun x y => decide (x = y)) F_windroseref28_List ent_eqC l m hl M
  rwa [eqL_dec] at this
theorem EqEnt_rc (l m : List Ent) (hl : l.length ≤ 140737488355328) (M : List Blk) : CallR Tryz.prog M n_slices_Equal_api_Entry_api_Entry [entL l, entL m] (.b (decide (l = m))) M := by
  have := eq_rc (P := Tryz.prog) (c := Ent.c) (eq := fun x y => decide (x = y)) F_slices_Equal_api_Entry_api_Entry ent_eqC l m hl M
  rwa [eqL_dec] at this
theorem lg_ext {x y : Lg} : x = y ↔ x.base = y.base ∧ x.trim = y.trim ∧ x.epoch = y.epoch ∧ x.tail = y.tail := by
  cases x; cases y; simp
instance : DecidableEq Lg := fun a b => decidable_of_iff' _ lg_ext
theorem lg_eq (a b : Lg) : (decide (a.base = b.base) && a.trim == b.trim && a.epoch == b.epoch && decide (a.tail = b.tail)) = decide (a = b) := by
  rw [Bool.eq_iff_iff]
  simp only [Bool.and_eq_true, beq_iff_eq, decide_eq_true_eq, lg_ext, and_assoc]
set_option maxRecDepth 20000 in
theorem pSame_rc (a b : Lg) (ha : zLg a) (M : List Blk) : CallR Tryz.prog M n_pglog_Same [lgA a, lgA b] (.b (decide (a = b))) M := by
  refine callP F_pglog_Same (Nat.le_of_ble_eq_true rfl) (by simp only [go_sem]) (by simp only [go_sem]) ?_ M
  simp only [c_pglog_Same, go_sem]
  refine call0 (ssame_rc a.base b.base ha.base) ?_
  simp only [go_sem]
  refine callg0 (fun _ => EqEnt_rc a.tail b.tail (by have := ha.len; omega)) ?_
  simp only [go_sem, ← lg_eq]
set_option maxRecDepth 20000 in
theorem rSame28_rc (a b : Lg) (ha : zLg a) (M : List Blk) : CallR Tryz.prog M n_windroseref28_Same [lgA a, lgA b] (.b (decide (a = b))) M := by
  refine callP F_windroseref28_Same (Nat.le_of_ble_eq_true rfl) (by simp only [go_sem]) (by simp only [go_sem]) ?_ M
  simp only [c_windroseref28_Same, go_sem]
  refine call0 (rssame_rc a.base b.base ha.base) ?_
  simp only [go_sem]
  refine callg0 (fun _ => List28_rc a.tail b.tail (by have := ha.len; omega)) ?_
  simp only [go_sem, ← lg_eq]
theorem zLog_z : zLg zLog := ⟨shP_z zP (zSz 2000), Nat.zero_le _, fun e he => by cases he⟩
set_option maxRecDepth 20000 in
theorem zero28_rc (l : Lg) (hz : zLg l) (c : Int) (M : List Blk) : CallR Tryz.prog M n_windroselaw28_zero [lgA l, .i c] (.b (decide (c = 1) && decide (l = zLog))) M := by
  refine callPG F_windroselaw28_zero (Nat.le_of_ble_eq_true rfl) (by simp only [go_sem]) ?_ M
  refine run_seqV ?_
  simp only [go_sem]
  refine run_seqV ?_
  simp only [go_sem]
  refine callgS (fun _ => rSame28_rc l zLog hz) ⟨SubP.refl _, subP_aggL ⟨nil_sub (α := Lin), nil_sub (α := Dn), SubA.refl _, SubA.refl _, SubA.refl _, nil_sub (α := Ent), trivial⟩, trivial⟩ ?_
  simp only [go_sem]
  have : (c == 1) = decide (c = 1) := by rw [Bool.eq_iff_iff]; simp
  rw [← this]
  exact run_ret (endB _ _ _ 4 (by simp only [go_sem]))
def light28B (l : Lg) : Bool := light14B l.base && decide (l.tail.length ≤ 40) && l.tail.all fun e => decide (e.op.ser.size ≤ 300)
set_option maxRecDepth 20000 in
theorem light28_rc (l : Lg) (hl : l.tail.length ≤ 140737488355328) (hb : l.base.lines.length ≤ 140737488355328) (M : List Blk) : CallR Tryz.prog M n_windroselaw28_Light [lgA l] (.b (light28B l)) M := by
  refine callPG F_windroselaw28_Light (Nat.le_of_ble_eq_true rfl) (by simp only [go_sem]) ?_ M
  refine run_seqV ?_
  simp only [go_sem]
  refine run_seqV ?_
  simp only [go_sem]
  refine R_loop (ι := Nat) (J := fun k => k ≤ l.tail.length ∧ k ≤ 40 ∧ ∀ i, i < k → decide ((l.tail.getD i default).op.ser.size ≤ 300) = true)
    (env := fun k => [(1, .p (.one (.ptr 0 0 0 0))), (3, .i k)])
    (mem := fun _ => [lgB l])
    (μ := fun k => l.tail.length - k) 0 ⟨Nat.zero_le _, Nat.zero_le _, fun i hi => absurd hi (Nat.not_lt_zero _)⟩ ⟨[], rfl, Nat.zero_le _, ?_, ?_⟩ ?_
  · simp only [go_sem]
  · simp only [go_sem, ltB]
  rintro k ⟨hk, hk4, hok⟩
  refine run_seqV ?_
  simp only [go_sem]
  refine ⟨fun h1 => ?_, fun h1 => ?_⟩
  · have h1 : k < l.tail.length ∧ k < 40 := by
      simp only [Bool.and_eq_true, decide_eq_true_eq] at h1
      omega
    refine run_seq ?_
    refine run_block ?_
    refine V_sound ?_
    simp only [go_sem]
    refine ⟨by omega, fun hc => ?_, fun hc => ?_⟩
    · have : (l.tail.all fun e => decide (e.op.ser.size ≤ 300)) = false := all_no h1.1 (by
        rw [decide_eq_false_iff_not]
        omega)
      rw [light28B, this, Bool.and_false]
      exact endB false _ _ 2 (by simp only [go_sem])
    · refine V_sound ?_
      simp only [go_sem, w64s (show k < 9223372036854775807 by omega)]
      refine ⟨k + 1, ⟨by omega, by omega, fun i hi => ?_⟩, by omega, [], rfl, Nat.zero_le _, ?_, ?_⟩
      · by_cases e : i = k
        · subst e
          omega
        · exact of_decide_eq_true (hok i (by omega))
      · simp only [go_sem]
      · simp only [go_sem, ltB]
  · refine run_seqV ?_
    simp only [go_sem]
    refine call0 (light14_rc l.base hb) ?_
    simp only [go_sem]
    have e : light28B l = (light14B l.base && decide ((l.tail.length : Int) ≤ 40)) := by
      rw [light28B]
      by_cases h8 : l.tail.length ≤ 40
      · have hkl : k = l.tail.length := by
          simp only [Bool.and_eq_false_iff, decide_eq_false_iff_not] at h1
          omega
        subst hkl
        rw [show (l.tail.all fun e => decide (e.op.ser.size ≤ 300)) = true from all_yes hok, Bool.and_true]
        congr 1
        rw [decide_eq_decide]
        omega
      · rw [decide_eq_false h8, decide_eq_false (show ¬ (l.tail.length : Int) ≤ 40 by omega)]
        simp
    rw [e]
    exact run_ret (endB _ _ _ 2 (by simp only [go_sem]))
theorem light28_z {l : Lg} (h : light28B l = true) : lgZ l ∧ serSz 500 l.base ∧ ∀ e ∈ l.tail, e.op.ser.size ≤ 300 := by
  unfold light28B at h
  rw [Bool.and_eq_true, Bool.and_eq_true, List.all_eq_true] at h
  obtain ⟨⟨h1, h2⟩, h3⟩ := h
  obtain ⟨k1, k2⟩ := light_z h1
  have h2 := of_decide_eq_true h2
  have h4 : ∀ e ∈ l.tail, e.op.ser.size ≤ 300 := fun e he => of_decide_eq_true (h3 e he)
  exact ⟨⟨⟨k1, by omega, fun e he => by have := h4 e he; omega⟩, fun x hx => by have := k2 x hx; omega⟩, k2, h4⟩
end Go.Proofs.YtcmkhlfjcdchmaaGreat.A
end
section
namespace Go.Proofs.YtcmkhlfjcdchmaaGreat.A
open Go Go.Proofs Go.Proofs.YtcmkhlfjcdchmaaGreatAbs
set_option maxRecDepth 20000 in
theorem rEpochs28_rc (l : Lg) (hl : l.tail.length ≤ 1000) (M : List Blk) : CallR Tryz.prog M n_windroseref28_Epochs [lgA l] (.p (intsL (epsL l.tail))) M := by
  refine callPG F_windroseref28_Epochs (Nat.le_of_ble_eq_true rfl) (by simp only [go_sem]) ?_ M
  refine run_seqV ?_
  simp only [go_sem]
  refine run_seqV ?_
  simp only [go_sem]
  refine run_seqV ?_
  simp only [go_sem]
  refine R_loop (ι := Nat × Nat × Bool) (J := fun p => p.1 ≤ l.tail.length)
    (env := fun p => [(1, .p (.one (.ptr 0 0 0 0))), (3, .p (.one (.arr 1 1 p.2.1 0 (epsL (l.tail.take p.1)).length))), (4, .i p.1)])
    (mem := fun p => [lgB l, intsR 3 p.2.1 (epsL (l.tail.take p.1)) p.2.2])
    (μ := fun p => l.tail.length - p.1) (0, 0, true) (Nat.zero_le _) ⟨[], rfl, Nat.zero_le _, ?_, ?_⟩ ?_
  · simp only [go_sem, List.take_zero, epsL, List.map_nil, List.length_nil]
  · simp only [go_sem, ltB]
    exact fun r hr => (rowsL_row r hr).2 _
  rintro ⟨k, v, f⟩ hk
  simp only at hk
  refine run_seqV ?_
  simp only [go_sem]
  refine ⟨fun h1 => ?_, fun h1 => ?_⟩
  · have e3 : IntKind.i64.wrap ((k : Int) + 1) = ((k + 1 : Nat) : Int) := w64s (by omega)
    have hst := epsL_take l.tail h1
    have hle : (epsL (l.tail.take k)).length ≤ 1000 := by rw [epsL_len, List.length_take]; omega
    generalize epsL (l.tail.take k) = ws at hst hle
    refine V_sound ?_
    simp only [go_sem, int_row, rowsL_len, e3]
    refine ⟨⟨by omega, h1⟩, by omega, (k + 1, v + 1, false), h1, by simp only []; omega, [_], by simp only [hst]; rfl, Nat.zero_le _, ?_, ?_⟩
    · simp only [go_sem, hst, List.length_append, List.length_cons, List.length_nil, Nat.zero_add]
    · simp only [go_sem, ltB]
      exact fun r hr => (rowsL_row r hr).2 _
  · have hkl : k = l.tail.length := by omega
    subst hkl
    rw [List.take_length]
    refine V_sound ?_
    simp only [go_sem]
    exact end_ints (epsL l.tail) _ _ v f 2 1 (by simp only [go_sem]) rfl
theorem sub_take {l : List Ent} {k : Nat} (h : k ≤ l.length) : SubA (.c (.imm 10 k fun i j => Ent.c (l.getD i default) j)) (.c (immL 10 Ent.c (l.take k))) := by
  intro I σ y hr
  exact lePt.sound (I := I) (σ := σ) (y := y) (le_take h) hr
theorem sub_drop {l : List Ent} {k : Nat} (h : k ≤ l.length) : SubA (.c (.imm 10 (l.length - k) fun i j => Ent.c (l.getD (k + i) default) j)) (.c (immL 10 Ent.c (l.drop k))) := by
  intro I σ y hr
  exact lePt.sound (I := I) (σ := σ) (y := y) (le_drop h) hr
set_option maxRecDepth 20000 in
theorem rCut28_rc (l : Lg) (hz : zLg l) (hok : lgOk l = true) (p : Int) (M : List Blk) : CallR Tryz.prog M n_windroseref28_Cut [lgA l, .i p] (.tup [lgA (cutG l p).1, .i (cutG l p).2]) M := by
  refine callPG F_windroseref28_Cut (Nat.le_of_ble_eq_true rfl) (by simp only [go_sem]) ?_ M
  have hP := (lgOk_iff l).1 hok
  have p1 := hP.t0
  have p2 := hP.fit
  unfold cutG
  rw [if_neg (by rw [hok]; simp)]
  refine run_seqV ?_
  simp only [go_sem]
  refine run_seqV ?_
  simp only [go_sem]
  refine call0 (rPlace28_rc l p1 p2 p) ?_
  simp only [go_sem]
  refine ⟨fun hd => ?_, fun hd => ?_⟩
  · rw [if_pos hd]
    exact endLI l (placeL l p) _ _ 1 _ (by simp only [go_sem]) (by simp only [go_sem]) rfl
  · have hd : placeL l p = 0 := by simpa using hd
    obtain ⟨q1, q2⟩ := place_in hd
    rw [if_neg (by rw [hd]; simp)]
    obtain ⟨k, hk⟩ : ∃ k : Nat, p - l.trim = k := ⟨(p - l.trim).toNat, by omega⟩
    refine run_seqV ?_
    simp only [go_sem]
    rw [w64 (n := p - l.trim) (by omega) (by omega), hk]
    simp only [Int.toNat_natCast, Nat.sub_zero, Nat.zero_add]
    refine ⟨by omega, V_sound ?_⟩
    simp only [go_sem]
    refine fin0 (.inr rfl) (qs := [.agg [.c (immL 2 Lin.c l.base.lines), .c (immL 5 Dn.c l.base.dones), .c (.v (.int .i64 l.base.floor)), .c (.v (.int .i64 l.trim)), .c (.v (.int .i64 l.epoch)), .c (.imm 10 k fun i j => Ent.c (l.tail.getD i default) j)], .i 0]) (cnd := True) (by simp only [go_sem]) trivial (subS_tupL ⟨subP_aggL ⟨SubA.refl _, SubA.refl _, SubA.refl _, SubA.refl _, SubA.refl _, sub_take (by omega), trivial⟩, SubP.refl _, trivial⟩) (by simp only [go_sem])
set_option maxRecDepth 20000 in
set_option maxHeartbeats 4000000 in
theorem rTrim28_rc (l : Lg) (hz : lgZ l) (hok : lgOk l = true) (p : Int) (hp : -9223372036854775808 ≤ p ∧ p ≤ 9223372036854775807) (M : List Blk) : CallR Tryz.prog M n_windroseref28_Trim [lgA l, .i p] (.tup [lgA (trimG l p).1, .i (trimG l p).2]) M := by
  refine callPG F_windroseref28_Trim (Nat.le_of_ble_eq_true rfl) (by simp only [go_sem]) ?_ M
  obtain ⟨hz, hsz⟩ := hz
  have hP := (lgOk_iff l).1 hok
  have p1 := hP.t0
  have p2 := hP.fit
  unfold trimG
  rw [if_neg (by rw [hok]; simp)]
  refine run_seqV ?_
  simp only [go_sem]
  refine run_seqV ?_
  simp only [go_sem]
  refine call0 (rPlace28_rc l p1 p2 p) ?_
  simp only [go_sem]
  refine ⟨fun hd => ?_, fun hd => ?_⟩
  · rw [if_pos hd]
    exact endLI l (placeL l p) _ _ 1 _ (by simp only [go_sem]) (by simp only [go_sem]) rfl
  · have hd : placeL l p = 0 := by simpa using hd
    obtain ⟨q1, q2⟩ := place_in hd
    rw [if_neg (by rw [hd]; simp)]
    obtain ⟨k, hk⟩ : ∃ k : Nat, p - l.trim = k := ⟨(p - l.trim).toNat, by omega⟩
    have hat := fun M => rAt28_rc l (p - 1) p1 p2 (by omega) M
    rw [atL28_bef q1 q2] at hat
    refine run_seqV ?_
    simp only [go_sem]
    rw [w64 (n := p - l.trim) (by omega) (by omega), hk]
    refine run_seqV ?_
    simp only [go_sem, Int.toNat_natCast, Nat.sub_zero, Nat.zero_add]
    refine ⟨by omega, call1 (rfold28_rc ((shOk_iff _).1 hP.base) hsz (l.tail.take k) (by have := hz.len; rw [List.length_take]; omega) (fun e he => hz.ser e (List.mem_of_mem_take he)) _) ⟨rfl, le_take (by omega), trivial⟩ (fun _ => rfl) ?_⟩
    simp only [go_sem]
    rw [w64 (n := p - 1) (by omega) (by omega)]
    refine call0 hat ?_
    simp only [go_sem, Int.toNat_natCast]
    refine ⟨by omega, run_ret ?_⟩
    refine fin0 (.inr rfl) (qs := [.agg [.c (immL 2 Lin.c (foldD l.base (l.tail.take k)).lines), .c (immL 5 Dn.c (foldD l.base (l.tail.take k)).dones), .c (.v (.int .i64 (foldD l.base (l.tail.take k)).floor)), .c (.v (.int .i64 p)), .c (.v (.int .i64 (befL l p))), .c (.imm 10 (l.tail.length - k) fun i j => Ent.c (l.tail.getD (k + i) default) j)], .i 0]) (cnd := True) (by simp only [go_sem]) trivial (subS_tupL ⟨subP_aggL ⟨SubA.refl _, SubA.refl _, SubA.refl _, SubA.refl _, SubA.refl _, sub_drop (by omega), trivial⟩, SubP.refl _, trivial⟩) (by simp only [go_sem])
set_option maxRecDepth 20000 in
set_option maxHeartbeats 4000000 in
theorem rAdd28_rc (l : Lg) (hz : zLg l) (hok : lgOk l = true) (en : Ent) (he : en.op.ser.size ≤ 2000) (M : List Blk) : CallR Tryz.prog M n_windroseref28_Add [lgA l, entA en] (.tup [lgA (addS l en).1, .i (addS l en).2]) M := by
  refine callPG F_windroseref28_Add (Nat.le_of_ble_eq_true rfl) (by simp only [go_sem]) ?_ M
  have hP := (lgOk_iff l).1 hok
  have p1 := hP.t0
  have p2 := hP.fit
  have p3 := ents_len hP.ents
  have hLast : lastL l = epAt l.tail l.epoch l.tail.length := by rw [lastL, if_pos hok]
  have hL := fun M => rLast28_rc l p1 p2 M
  rw [← hLast] at hL
  unfold addS
  rw [if_neg (by rw [hok]; simp)]
  generalize lastL l = la at hL ⊢
  obtain ⟨epoch, client, id, op⟩ := en
  refine run_seqV ?_
  simp only [go_sem]
  refine run_seqV ?_
  simp only [go_sem]
  refine call0 (rEntry_rc ⟨epoch, client, id, op⟩ he) ?_
  simp only [go_sem]
  refine callg0 (fun _ => hL) ?_
  simp only [go_sem]
  refine ⟨fun hc => ?_, fun hc => ?_⟩
  · have hc' : entOk ⟨epoch, client, id, op⟩ = false ∨ epoch < la := by
      simp only [Bool.or_eq_true, Bool.not_eq_true', decide_eq_true_eq] at hc
      exact hc
    rw [if_pos hc']
    exact endLI l 1 _ _ 2 _ (by simp only [go_sem]) (by simp only [go_sem]) rfl
  · have hc' : ¬ (entOk ⟨epoch, client, id, op⟩ = false ∨ epoch < la) := by
      simp only [Bool.or_eq_false_iff, Bool.not_eq_false', decide_eq_false_iff_not] at hc
      rintro (h | h)
      · rw [hc.1] at h; cases h
      · exact hc.2 h
    rw [if_neg hc']
    refine run_seqV ?_
    simp only [go_sem]
    refine callg0 (fun _ => rEnd28_rc l p1 p2) ?_
    simp only [go_sem]
    refine ⟨fun hd => ?_, fun hd => ?_⟩
    · have hd' : l.tail.length = 32 ∨ l.trim + l.tail.length = 2147483647 := by
        simp only [Bool.or_eq_true, beq_iff_eq] at hd
        omega
      rw [if_pos hd']
      exact endLI l 6 _ _ 2 _ (by simp only [go_sem]) (by simp only [go_sem]) rfl
    · have hd' : ¬ (l.tail.length = 32 ∨ l.trim + l.tail.length = 2147483647) := by
        simp only [Bool.or_eq_false_iff, beq_eq_false_iff_ne] at hd
        omega
      rw [if_neg hd']
      have hm := imm_rowsL (sz := 10) (c := Ent.c) l.tail
      simp only [immRows, go_sem] at hm
      have hr := rowsL_app1 (sz := 10) (c := Ent.c) l.tail ⟨epoch, client, id, op⟩
      simp only [go_sem] at hr
      have hlen : (l.tail ++ [(⟨epoch, client, id, op⟩ : Ent)]).length = l.tail.length + 1 := by simp
      refine V_sound ?_
      simp only [go_sem, List.nil_append, hm, rowsL_len, if_true, hr, ← hlen]
      refine ⟨by omega, by rw [hlen]; omega, rfl, ?_⟩
      have hh := fun e X t h4 h5 hX hd => end_lgO (n := 36) ⟨l.base, l.trim, l.epoch, l.tail ++ [⟨epoch, client, id, op⟩]⟩ 0 e X 2 t 3 3 false h4 h5 (by decide) hX hd
      refine hh _ _ _ ?_ ?_ rfl rfl
      · simp only [go_sem]
      · simp only [go_sem]
end Go.Proofs.YtcmkhlfjcdchmaaGreat.A
end
section
namespace Go.Proofs.YtcmkhlfjcdchmaaGreat.A
open Go Go.Proofs Go.Proofs.YtcmkhlfjcdchmaaGreatAbs
theorem beqI_self (x : Int) : (x == x) = true := beq_self_eq_true x
set_option maxRecDepth 20000 in
set_option maxHeartbeats 8000000 in
theorem PglogLooks_rc (l : Lg) (hl : l.tail.length ≤ 140737488355328) (hb : l.base.lines.length ≤ 140737488355328) (M : List Blk) : CallR Tryz.prog M n_windroselaw28_PglogLooks [lgA l] (.b true) M := by
  refine callPG F_windroselaw28_PglogLooks (Nat.le_of_ble_eq_true rfl) (by simp only [go_sem]) ?_ M
  have hB0 : ∀ (e : Nat → SV) (D : List Blk), e 2 = .b true → FinK 73 0 [.t 2] (.b true) [] .ret ⟨e, D⟩ := fun e D h => endB true e D 2 h
  have hLi := fun M => light28_rc l hl hb M
  cases hlt : light28B l with
  | false =>
    rw [hlt] at hLi
    refine run_seqV ?_
    simp only [go_sem]
    refine run_seqV ?_
    simp only [go_sem]
    refine call0 hLi ?_
    simp only [go_sem]
    refine call0 awake28_rc ?_
    simp only [go_sem]
    exact hB0 _ _ (by simp only [go_sem])
  | true =>
    rw [hlt] at hLi
    obtain ⟨hgz, hs5, hse⟩ := light28_z hlt
    have hz := hgz.z
    have c1 := fun M => pCheck_rc l hz M
    have c2 := fun M => rMay28_rc l hz M
    have e1 := fun M => pEnd_rc l hz M
    have e2 := fun M => pLast_rc l hz M
    have e3 := fun M => pEpochs_rc l hz M
    have e4 := fun M => pState_rc l hgz M
    unfold endL at e1
    unfold lastL at e2
    unfold epochsL at e3
    refine run_seqV ?_
    simp only [go_sem]
    refine run_seqV ?_
    simp only [go_sem]
    refine call0 hLi ?_
    simp only [go_sem]
    cases hok : lgOk l with
    | false =>
      rw [hok] at c1 c2 e1 e2 e3
      have hst : stateL l = ⟨[], [], 0⟩ := by rw [stateL, if_neg (by rw [hok]; simp)]
      rw [hst] at e4
      refine run_seqV ?_
      simp only [go_sem]
      refine call0 c1 ?_
      simp only [go_sem]
      refine call0 c2 ?_
      simp only [go_sem]
      refine run_seqV ?_
      simp only [go_sem]
      refine call0 c2 ?_
      simp only [go_sem]
      refine call0 e1 ?_
      simp only [go_sem]
      refine callg0 (fun _ => e2) ?_
      simp only [go_sem]
      refine callg0 (fun _ => e3) ?_
      simp only [go_sem]
      refine callg0 (fun _ => e4) ?_
      simp only [go_sem]
      refine callgS (fun _ => rssame_rc ⟨[], [], 0⟩ ⟨[], [], 0⟩ (shP_z zP (zSz 2000))) ⟨SubP.refl _, subP_aggL ⟨nil_sub (α := Lin), nil_sub (α := Dn), SubA.refl _, trivial⟩, trivial⟩ ?_
      simp only [go_sem]
      refine callg0 (fun _ => awake28_rc) ?_
      simp only [go_sem]
      exact hB0 _ _ (by simp only [go_sem])
    | true =>
      have hP := (lgOk_iff l).1 hok
      have p1 := hP.t0
      have p2 := hP.fit
      rw [hok, if_pos rfl] at e1 e2 e3
      rw [hok] at c1 c2
      have hel := epsL_len l.tail
      have r1 := fun M => rEnd28_rc l p1 p2 M
      have r2 := fun M => rLast28_rc l p1 p2 M
      have r3 := fun M => rEpochs28_rc l hz.len M
      have r4 := fun M => rState28_rc l hgz hok M
      have hSt : zShf (stateL l) := by
        rw [stateL, if_pos hok]
        have := foldD_ok l.tail l.base hz.ser ((shOk_iff _).1 hP.base) hgz.sz
        exact shP_z this.1 this.2
      refine run_seqV ?_
      simp only [go_sem]
      refine call0 c1 ?_
      simp only [go_sem]
      refine call0 c2 ?_
      simp only [go_sem]
      refine run_seqV ?_
      simp only [go_sem]
      refine call0 c2 ?_
      simp only [go_sem]
      refine run_seqV ?_
      simp only [go_sem]
      refine call0 e1 ?_
      simp only [go_sem]
      refine call0 r1 ?_
      simp only [go_sem, beqI_self]
      refine callg0 (fun _ => e2) ?_
      simp only [go_sem]
      refine callg0 (fun _ => r2) ?_
      simp only [go_sem, beqI_self]
      refine callg0 (fun _ => e3) ?_
      simp only [go_sem]
      refine callg0 (fun _ => r3) ?_
      simp only [go_sem]
      refine callg0 (fun _ => Ints_rc (epsL l.tail) (epsL l.tail) (by omega)) ?_
      simp only [go_sem]
      refine callg0 (fun _ => e4) ?_
      simp only [go_sem]
      refine callg0 (fun _ => r4) ?_
      simp only [go_sem]
      refine callg0 (fun _ => rssame_rc (stateL l) (stateL l) hSt) ?_
      simp only [go_sem]
      refine callg0 (fun _ => pSame_rc l l hz) ?_
      simp only [go_sem]
      refine callg0 (fun _ => awake28_rc) ?_
      simp only [go_sem]
      exact run_ret (hB0 _ _ (by simp only [go_sem]))
theorem entsOk_iff (l : List Ent) (ep : Int) : entsOk l ep = true ↔ l.length ≤ 32 ∧ ∀ i, i < l.length → entOk (l.getD i default) = true ∧ epAt l ep i ≤ (l.getD i default).epoch := by
  unfold entsOk
  rw [Bool.and_eq_true, decide_eq_true_eq, List.all_eq_true]
  constructor
  · rintro ⟨h1, h2⟩
    refine ⟨h1, fun i hi => ?_⟩
    have := h2 i (List.mem_range.2 hi)
    unfold enAt at this
    rwa [Bool.and_eq_true, decide_eq_true_eq] at this
  · rintro ⟨h1, h2⟩
    refine ⟨h1, fun i hi => ?_⟩
    unfold enAt
    rw [Bool.and_eq_true, decide_eq_true_eq]
    exact h2 i (List.mem_range.1 hi)
theorem entOk_ep {e : Ent} (h : entOk e = true) : 1 ≤ e.epoch ∧ e.epoch ≤ 2147483647 := by
  simp only [entOk, Bool.and_eq_true, decide_eq_true_eq] at h
  exact ⟨h.1.1.1.1.1.1, h.1.1.1.1.1.2⟩
theorem add_ok {l : Lg} (h : lgOk l = true) (e : Ent) : lgOk (addS l e).1 = true := by
  unfold addS
  rw [if_neg (by rw [h]; simp)]
  split
  · exact h
  split
  · exact h
  rename_i h1 h2
  have hP := (lgOk_iff l).1 h
  obtain ⟨k1, k2⟩ := (entsOk_iff _ _).1 hP.ents
  have hfit := hP.fit
  have hL : lastL l = epAt l.tail l.epoch l.tail.length := by rw [lastL, if_pos h]
  have he : entOk e = true := by
    cases hh : entOk e with
    | true => rfl
    | false => exact absurd (.inl hh) h1
  have hle : epAt l.tail l.epoch l.tail.length ≤ e.epoch := by
    rw [← hL]
    exact Int.not_lt.1 fun hh => h1 (.inr hh)
  have hne : l.tail.length ≠ 32 ∧ l.trim + l.tail.length ≠ 2147483647 := ⟨fun hh => h2 (.inl hh), fun hh => h2 (.inr hh)⟩
  rw [lgOk_iff]
  refine ⟨hP.base, hP.t0, hP.e0, hP.e1, hP.te, ?_, ?_⟩
  · show entsOk (l.tail ++ [e]) l.epoch = true
    rw [entsOk_iff]
    refine ⟨by simp; omega, fun i hi => ?_⟩
    have hi : i < l.tail.length + 1 := by simpa using hi
    by_cases hl : i < l.tail.length
    · have := k2 i hl
      rw [gd_appL _ _ hl]
      refine ⟨this.1, ?_⟩
      have e2 : epAt (l.tail ++ [e]) l.epoch i = epAt l.tail l.epoch i := by
        unfold epAt
        by_cases h0 : i = 0
        · rw [if_pos h0, if_pos h0]
        · rw [if_neg h0, if_neg h0, gd_appL _ _ (by omega)]
      rw [e2]
      exact this.2
    · have hil : i = l.tail.length := by omega
      subst hil
      rw [gd_app0]
      refine ⟨he, ?_⟩
      have e2 : epAt (l.tail ++ [e]) l.epoch l.tail.length = epAt l.tail l.epoch l.tail.length := by
        unfold epAt
        by_cases h0 : l.tail.length = 0
        · rw [if_pos h0, if_pos h0]
        · rw [if_neg h0, if_neg h0, gd_appL _ _ (by omega)]
      rw [e2]
      exact hle
  · show l.trim + ((l.tail ++ [e]).length : Int) ≤ 2147483647
    simp
    omega
theorem add_z {l : Lg} (hz : zLg l) (h : lgOk l = true) {e : Ent} (he : e.op.ser.size ≤ 2000) : zLg (addS l e).1 := by
  have h32 := ents_len ((lgOk_iff l).1 h).ents
  unfold addS
  rw [if_neg (by rw [h]; simp)]
  split
  · exact hz
  split
  · exact hz
  · refine ⟨hz.base, by simp; omega, fun x hx => ?_⟩
    rcases List.mem_append.1 hx with hx | hx
    · exact hz.ser x hx
    · rw [List.mem_singleton] at hx
      subst hx
      exact he
theorem trim_okG {l : Lg} (hz : lgZ l) (h : lgOk l = true) (p : Int) : lgOk (trimG l p).1 = true ∧ lgZ (trimG l p).1 ∧ stateL (trimG l p).1 = stateL l := by
  unfold trimG
  rw [if_neg (by rw [h]; simp)]
  split
  · exact ⟨h, hz, rfl⟩
  rename_i hp
  have hp : placeL l p = 0 := by simpa using hp
  obtain ⟨q1, q2⟩ := place_in hp
  have hP := (lgOk_iff l).1 h
  obtain ⟨k1, k2⟩ := (entsOk_iff _ _).1 hP.ents
  obtain ⟨k, hk⟩ : ∃ k : Nat, p - l.trim = k := ⟨(p - l.trim).toNat, by omega⟩
  have hkl : k ≤ l.tail.length := by omega
  have t0 := hP.t0
  have fit := hP.fit
  have hf := foldD_ok (l.tail.take k) l.base (fun e he => hz.z.ser e (List.mem_of_mem_take he)) ((shOk_iff _).1 hP.base) hz.sz
  rw [hk, Int.toNat_natCast]
  have hb : befL l p = epAt l.tail l.epoch k := by rw [befL, hk, Int.toNat_natCast]
  have hbe : 0 ≤ befL l p ∧ befL l p ≤ 2147483647 ∧ (p = 0 ↔ befL l p = 0) := by
    rw [hb]
    unfold epAt
    by_cases h0 : k = 0
    · rw [if_pos h0]
      refine ⟨hP.e0, hP.e1, ?_⟩
      rw [show p = l.trim by omega]
      exact hP.te
    · rw [if_neg h0]
      have := entOk_ep (k2 (k - 1) (by omega)).1
      refine ⟨by omega, by omega, ?_⟩
      constructor
      · intro; omega
      · intro; omega
  have hgd : ∀ i, (l.tail.drop k).getD i default = l.tail.getD (k + i) default := fun i => by
    rw [List.getD_eq_getElem?_getD, List.getD_eq_getElem?_getD, List.getElem?_drop]
  have hok : lgOk ⟨foldD l.base (l.tail.take k), p, befL l p, l.tail.drop k⟩ = true := by
    rw [lgOk_iff]
    refine ⟨(shOk_iff _).2 hf.1, (show 0 ≤ p by omega), hbe.1, hbe.2.1, hbe.2.2, ?_, ?_⟩
    · show entsOk (l.tail.drop k) (befL l p) = true
      rw [entsOk_iff]
      refine ⟨by rw [List.length_drop]; omega, fun i hi => ?_⟩
      rw [List.length_drop] at hi
      have := k2 (k + i) (by omega)
      rw [hgd]
      refine ⟨this.1, ?_⟩
      have e2 : epAt (l.tail.drop k) (befL l p) i = epAt l.tail l.epoch (k + i) := by
        rw [hb]
        by_cases h0 : i = 0
        · subst h0; rw [epAt, if_pos rfl, Nat.add_zero]
        · rw [epAt, if_neg h0, hgd, epAt, if_neg (by omega), show k + (i - 1) = k + i - 1 by omega]
      rw [e2]
      exact this.2
    · show p + ((l.tail.drop k).length : Int) ≤ 2147483647
      rw [List.length_drop]
      omega
  refine ⟨hok, ⟨⟨shP_z hf.1 hf.2, by have := hz.z.len; simp; omega, fun e he => hz.z.ser e (List.mem_of_mem_drop he)⟩, hf.2⟩, ?_⟩
  rw [stateL, if_pos hok, stateL, if_pos h]
  show foldD (foldD l.base (l.tail.take k)) (l.tail.drop k) = foldD l.base l.tail
  unfold foldD
  rw [← List.foldl_append, List.take_append_drop]
theorem cut_z {l : Lg} (hz : zLg l) (h : lgOk l = true) (p : Int) : zLg (cutG l p).1 := by
  unfold cutG
  rw [if_neg (by rw [h]; simp)]
  split
  · exact hz
  · exact ⟨hz.base, by have := hz.len; simp; omega, fun e he => hz.ser e (List.mem_of_mem_take he)⟩
end Go.Proofs.YtcmkhlfjcdchmaaGreat.A
end
section
namespace Go.Proofs.YtcmkhlfjcdchmaaGreat.A
open Go Go.Proofs Go.Proofs.YtcmkhlfjcdchmaaGreatAbs
theorem wint64 {n : Int} (h : (Lit.int .i64 n).wf = true) : -9223372036854775808 ≤ n ∧ n ≤ 9223372036854775807 := by
  have h1 : (IntKind.i64).min = -9223372036854775808 := by decide
  have h2 : (IntKind.i64).max = 9223372036854775807 := by decide
  simp only [Lit.wf, Bool.and_eq_true, decide_eq_true_eq, h1, h2] at h
  exact h
set_option maxRecDepth 20000 in
set_option maxHeartbeats 8000000 in
theorem PglogTurns_rc (l : Lg) (hl : l.tail.length ≤ 140737488355328) (hb : l.base.lines.length ≤ 140737488355328) (en : Ent) (p : Int) (hp : -9223372036854775808 ≤ p ∧ p ≤ 9223372036854775807) (M : List Blk) : CallR Tryz.prog M n_windroselaw28_PglogTurns [lgA l, entA en, .i p] (.b true) M := by
  refine callPG F_windroselaw28_PglogTurns (Nat.le_of_ble_eq_true rfl) (by simp only [go_sem]) ?_ M
  have hB0 : ∀ (e : Nat → SV) (D : List Blk), e 6 = .b true → FinK 133 0 [.t 6] (.b true) [] .ret ⟨e, D⟩ := fun e D h => endB true e D 6 h
  refine run_seqV ?_
  simp only [go_sem]
  refine run_seqV ?_
  simp only [go_sem]
  refine call0 (light28_rc l hl hb) ?_
  simp only [go_sem]
  refine ⟨fun hc => ?_, fun hc => ?_⟩
  · refine call0 awake28_rc ?_
    simp only [go_sem]
    exact hB0 _ _ (by simp only [go_sem])
  have hg : light28B l = true ∧ en.op.ser.size ≤ 300 := by
    simp only [Bool.or_eq_false_iff, Bool.not_eq_false', decide_eq_false_iff_not] at hc
    exact ⟨hc.1, by omega⟩
  clear hc
  obtain ⟨hlt, he⟩ := hg
  obtain ⟨hgz, hs5, hse⟩ := light28_z hlt
  have hz := hgz.z
  have a1 := fun M => pAdd_rc l hz en (by omega) M
  have a2 := fun M => pCut_rc l hz p M
  have a3 := fun M => pTrim_rc l hgz p M
  have c2 := fun M => rMay28_rc l hz M
  cases hok : lgOk l with
  | false =>
    have e1 : addS l en = (zLog, 1) := by rw [addS, if_pos hok]
    have e2 : cutG l p = (zLog, 1) := by rw [cutG, if_pos hok]
    have e3 : trimG l p = (zLog, 1) := by rw [trimG, if_pos hok]
    rw [e1] at a1
    rw [e2] at a2
    rw [e3] at a3
    rw [hok] at c2
    refine run_seqV ?_
    simp only [go_sem]
    refine call0 a1 ?_
    simp only [go_sem]
    refine run_seqV ?_
    simp only [go_sem]
    refine call0 a2 ?_
    simp only [go_sem]
    refine run_seqV ?_
    simp only [go_sem]
    refine call0 a3 ?_
    simp only [go_sem]
    refine run_seqV ?_
    simp only [go_sem]
    refine call0 c2 ?_
    simp only [go_sem]
    refine call0 (zero28_rc zLog zLog_z 1) ?_
    simp only [go_sem]
    refine callg0 (fun _ => zero28_rc zLog zLog_z 1) ?_
    simp only [go_sem]
    refine callg0 (fun _ => zero28_rc zLog zLog_z 1) ?_
    simp only [go_sem]
    refine callg0 (fun _ => awake28_rc) ?_
    simp only [go_sem]
    exact hB0 _ _ (by simp only [go_sem])
  | true =>
    have r1 := fun M => rAdd28_rc l hz hok en (by omega) M
    have r2 := fun M => rCut28_rc l hz hok p M
    have r3 := fun M => rTrim28_rc l hgz hok p hp M
    have k1 := add_ok hok en
    have z1 := add_z hz hok (e := en) (by omega)
    have z2 := cut_z hz hok p
    obtain ⟨k3, z3, s3⟩ := trim_okG hgz hok p
    have st1 := fun M => pState_rc _ z3 M
    have st2 := fun M => rState28_rc l hgz hok M
    have m1 := fun M => rMay28_rc _ z1 M
    have m3 := fun M => rMay28_rc _ z3.z M
    rw [k1] at m1
    rw [k3] at m3
    rw [s3] at st1
    have hSt : zShf (stateL l) := by
      rw [stateL, if_pos hok]
      have := foldD_ok l.tail l.base hz.ser ((shOk_iff _).1 ((lgOk_iff l).1 hok).base) hgz.sz
      exact shP_z this.1 this.2
    have y1 := fun M => rSame28_rc _ (addS l en).1 z1 M
    have y2 := fun M => rSame28_rc _ (cutG l p).1 z2 M
    have y3 := fun M => rSame28_rc _ (trimG l p).1 z3.z M
    rw [hok] at c2
    generalize addS l en = W1 at a1 r1 m1 y1
    generalize cutG l p = W2 at a2 r2 y2
    generalize trimG l p = W3 at a3 r3 m3 y3 st1
    obtain ⟨x1, q1⟩ := W1
    obtain ⟨x2, q2⟩ := W2
    obtain ⟨x3, q3⟩ := W3
    refine run_seqV ?_
    simp only [go_sem]
    refine call0 a1 ?_
    simp only [go_sem]
    refine run_seqV ?_
    simp only [go_sem]
    refine call0 a2 ?_
    simp only [go_sem]
    refine run_seqV ?_
    simp only [go_sem]
    refine call0 a3 ?_
    simp only [go_sem]
    refine run_seqV ?_
    simp only [go_sem]
    refine call0 c2 ?_
    simp only [go_sem]
    refine run_seqV ?_
    simp only [go_sem]
    refine call0 r1 ?_
    simp only [go_sem]
    refine run_seqV ?_
    simp only [go_sem]
    refine call0 r2 ?_
    simp only [go_sem]
    refine run_seqV ?_
    simp only [go_sem]
    refine call0 r3 ?_
    simp only [go_sem]
    refine run_seqV ?_
    simp only [go_sem]
    refine call0 y1 ?_
    simp only [go_sem]
    refine callg0 (fun _ => y2) ?_
    simp only [go_sem]
    refine callg0 (fun _ => y3) ?_
    simp only [go_sem]
    refine run_seqV ?_
    simp only [go_sem, beqI_self]
    refine callg0 (fun _ => m1) ?_
    simp only [go_sem]
    refine callg0 (fun _ => m3) ?_
    simp only [go_sem]
    refine callg0 (fun _ => st1) ?_
    simp only [go_sem]
    refine callg0 (fun _ => st2) ?_
    simp only [go_sem]
    refine callg0 (fun _ => rssame_rc (stateL l) (stateL l) hSt) ?_
    simp only [go_sem]
    refine callg0 (fun _ => awake28_rc) ?_
    simp only [go_sem]
    exact run_ret (hB0 _ _ (by simp only [go_sem]))
end Go.Proofs.YtcmkhlfjcdchmaaGreat.A
end
